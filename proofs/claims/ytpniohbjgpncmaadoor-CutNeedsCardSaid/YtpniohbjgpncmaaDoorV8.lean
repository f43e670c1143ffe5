/- chunk: which chunks may be: conditions: the children are leaves. -/
import Derived.Test.YtpniohbjgpncmaaDoorV7
import Derived.Outline
import Derived.Deep.QuietTactic
import Derived.BigQuiet
import Derived.Maps.RangeWalk
import Derived.WalkLawsBesides
namespace Go.Proofs.YtpniohbjgpncmaaDoor
open Go.RowKit

set_option maxRecDepth 20000 in
set_option maxHeartbeats 400000 in
theorem may_blob (data : ByteArray) (w : World) (hd : data.size ≤ 240) : Calls Tryd.prog 92 #[chunkV 1 data (.slice none 0 0)] w fun e w' => e = .returned (.bool true) ∧ Keeps No w w' := by
  have hd1 : (data.size : Int) ≤ 240 := by omega
  unfold chunkV
  go_enter Tryd.func92, Tryd.ntmps92
  go_wp2_with (first | (go_at_call 49; refine (height_blob data (.slice none 0 0) _).mono ?_; rintro e w1 ⟨rfl, hk1⟩; have hb1 := hk1.heap (heap_alloc_new _ _) (fun h => h); have e0 := cell_of_heap hb1 0; have e1 := cell_of_heap hb1 1; have e2 := cell_of_heap hb1 2; simp at e0 e1 e2))
  go_ret
  exact ⟨rfl, (keeps_alloc _ _).same hk1⟩
set_option maxRecDepth 20000 in
set_option maxHeartbeats 800000 in
theorem may_index (v : Value) (ks : List KidD) (w : World) (hv : Kids w v ks) (hl : ∀ k ∈ ks, Plain k) (hn : ks.length ≤ 6) (h0 : 0 < ks.length) :
    Calls Tryd.prog 92 #[chunkV 2 ⟨#[]⟩ v] w fun e w' => e = .returned (.bool true) ∧ Keeps No w w' := by
  obtain ⟨a, c, rfl, hc⟩ := hv.len
  have hlf : ∀ k ∈ ks, Leaf k := fun k hk => (hl k hk).leaf
  have hsz := sizeTo_le ks (fun k hk => (hlf k hk).small) ks.length
  have HSI := Lib.hid hsz; clear hsz
  have hn6 : ¬ (6 : Int) < ks.length := by omega
  have HN := Lib.hid hn; clear hn
  have H0 := Lib.hid h0; clear h0
  have HC := Lib.hid hc; clear hc
  have HV := Lib.hid hv; clear hv
  have HL := Lib.hid hl; clear hl
  have HLF := Lib.hid hlf; clear hlf
  unfold chunkV
  go_enter Tryd.func92, Tryd.ntmps92
  go_wp2_with (first | (go_at_call 49; refine (height_node 2 (.inl rfl) ⟨#[]⟩ _ ks _ (HV.out.keeps (keeps_alloc _ _) (fun _ _ h => h)) HLF.out HN.out).mono ?_; rintro e w1 ⟨rfl, hk1⟩; have hb1 := hk1.heap (heap_alloc_new _ _) (fun h => h); have e0 := cell_of_heap hb1 0; have e1 := cell_of_heap hb1 1; have e2 := cell_of_heap hb1 2; simp at e0 e1 e2))
  have hkw1 : Keeps No w w1 := (keeps_alloc w _).same hk1
  obtain ⟨g, hg⟩ : ∃ g, g = w.heap.size := ⟨_, rfl⟩
  rw [← hg] at hb1 ⊢
  clear e0 e1 e2 hk1 hg
  go_loopw [35] (fun i W => ∃ k : Nat, k ≤ ks.length ∧ i = .int .i64 k ∧ W.heap[g]? = some (.cells #[.int .u8 2, .string ⟨#[]⟩, .slice a ks.length c] 102) ∧ Keeps No w W) (fun i _ => ks.length - (intOf i).toNat)
  case atStart => exact ⟨0, Nat.zero_le _, rfl, hb1, hkw1⟩
  case round =>
    clear hb1 hkw1
    obtain ⟨k, hk, rfl, hb, hkw⟩ := hrel
    by_cases hlt : k < ks.length
    · obtain ⟨b, o, rfl, hra⟩ := (HV.out.keeps hkw (fun _ _ h => h)).at (fun k hk => (HLF.out k hk).hash) k hlt
      have hpl := HL.out _ (List.getElem_mem hlt)
      obtain ⟨K, hK⟩ : ∃ K, K = ks[k] := ⟨_, rfl⟩
      rw [← hK] at hra hpl
      have hlf := hpl.leaf
      have hz : (Tryd.prog.info? 146).map (·.size) = some (kidV K).length := by rw [kidV_length _ hlf.hash]; exact Tryd.size146
      have hz2 : (Tryd.prog.info? 146).map (·.size) = some (kidV K).toArray.size := by simpa using hz
      have ho2 : (kidV K).toArray.all (·.oneCell') = true := all_oneCell_toArray (kidV_one _)
      have h36 : 36 = (kidV K).toArray.size := by simp [kidV_length _ hlf.hash]
      have hpy := fun W => plain_yes K hpl W
      obtain ⟨KV, hKV⟩ : ∃ KV, KV = kidV K := ⟨_, rfl⟩
      rw [← hKV] at hra hz hz2 ho2 h36 hpy
      have HRA := Lib.hid hra; clear hra
      have HZ := Lib.hid hz; clear hz
      have HZ2 := Lib.hid hz2; clear hz2
      have HO2 := Lib.hid ho2; clear ho2
      have H36 := Lib.hid h36; clear h36
      have HPY := Lib.hid hpy; clear hpy
      have HB := Lib.hid hb; clear hb
      clear hKV hK hlf hpl
      go_wp2_with (first | (refine wpList_load_mid rfl 146 _ rfl b (o + k * 36) (by rfl) KV _ HRA.out Tryd.underlying146 rfl HZ.out ?_) | (refine wpList_store_row rfl 146 _ _ rfl wr.heap.size KV.toArray (by rfl) (by rfl) 146 _ (heap_alloc_new _ _) HZ2.out H36.out HO2.out ?_; generalize hW3 : World.setRow _ _ _ = W3; obtain ⟨hb3, hk3⟩ := newrow hW3; clear hW3; have HB3 := Lib.hid hb3; clear hb3) | (refine wpList_load_row rfl 146 _ rfl wr.heap.size (by rfl) 146 KV.toArray (0, 0) _ HB3.out Tryd.underlying146 rfl HZ2.out ?_) | (go_at_call 130; refine (HPY.out _).mono ?_; rintro e w5 ⟨rfl, hk5⟩))
      have hk35 := hk3.same hk5
      go_roundw
      case rel => exact ⟨k + 1, by omega, by go_num, hk35.heap HB.out (fun h => h), hkw.same hk35⟩
      case measure => simp [intOf]; omega
    · have hge : ¬ (k : Int) < ks.length := by omega
      have e0 := cell_of_heap hb 0
      have e1 := cell_of_heap hb 1
      have e2 := cell_of_heap hb 2
      simp at e0 e1 e2
      have h0I : (0 : Int) < ks.length := by have := H0.out; omega
      have hcs := fun W (h : Keeps No w W) => size_index ⟨#[]⟩ _ ks W (HV.out.keeps h (fun _ _ h => h)) HLF.out HN.out
      obtain ⟨T, hT⟩ : ∃ T, T = sizeTo ks ks.length := ⟨_, rfl⟩
      rw [← hT] at hcs
      have HCS := Lib.hid hcs; clear hcs
      have HT := Lib.hid hT; clear hT
      go_wp2_with (first | (go_at_call 50; refine (HCS.out _ hkw).mono ?_; rintro e w1 ⟨rfl, hk1⟩))
      go_ret
      have htd : decide ((T : Int) < 4294967296) = true := by have := HSI.out; have := HN.out; have := HT.out; rw [decide_eq_true_eq]; omega
      exact ⟨by rw [htd]; rfl, hkw.same hk1⟩
/-- Names as a directory has them. -/
def Names (ks : List KidD) : Prop := ∀ i (h : i < ks.length), (ks[i].name.toList.isEmpty = false ∧ ks[i].name.size ≤ 16) ∧ ∀ j (hj : i = j + 1), Op.bytesLess (ks[j]'(by omega)).name.toList ks[i].name.toList = true
theorem kid0 (k : KidD) : (kidV k)[0]? = some (.string k.name) := rfl
theorem kid1 (k : KidD) : (kidV k)[1]? = some (.bool k.dir) := rfl
set_option maxRecDepth 20000 in
set_option maxHeartbeats 800000 in
theorem may_dir (v : Value) (ks : List KidD) (w : World) (hv : Kids w v ks) (hlf : ∀ k ∈ ks, Leaf k) (hn : ks.length ≤ 6) (hnm : Names ks) :
    Calls Tryd.prog 92 #[chunkV 3 ⟨#[]⟩ v] w fun e w' => e = .returned (.bool true) ∧ Keeps No w w' := by
  obtain ⟨a, c, rfl, hc⟩ := hv.len
  have hn6 : ¬ (6 : Int) < ks.length := by omega
  have HV := Lib.hid hv; clear hv
  have HLF := Lib.hid hlf; clear hlf
  have HN := Lib.hid hn; clear hn
  have HNM := Lib.hid hnm; clear hnm
  unfold chunkV
  go_enter Tryd.func92, Tryd.ntmps92
  go_wp2_with (first | (go_at_call 49; refine (height_node 3 (.inr rfl) ⟨#[]⟩ _ ks _ (HV.out.keeps (keeps_alloc _ _) (fun _ _ h => h)) HLF.out HN.out).mono ?_; rintro e w1 ⟨rfl, hk1⟩; have hb1 := hk1.heap (heap_alloc_new _ _) (fun h => h); have e0 := cell_of_heap hb1 0; have e1 := cell_of_heap hb1 1; have e2 := cell_of_heap hb1 2; simp at e0 e1 e2))
  have hkw1 : Keeps No w w1 := (keeps_alloc w _).same hk1
  obtain ⟨g, hg⟩ : ∃ g, g = w.heap.size := ⟨_, rfl⟩
  rw [← hg] at hb1 ⊢
  clear e0 e1 e2 hk1 hg
  go_loopw [62] (fun i W => ∃ k : Nat, k ≤ ks.length ∧ i = .int .i64 k ∧ W.heap[g]? = some (.cells #[.int .u8 3, .string ⟨#[]⟩, .slice a ks.length c] 102) ∧ Keeps No w W) (fun i _ => ks.length - (intOf i).toNat)
  case atStart => exact ⟨0, Nat.zero_le _, rfl, hb1, hkw1⟩
  case round =>
    clear hb1 hkw1
    obtain ⟨k, hk, rfl, hb, hkw⟩ := hrel
    by_cases hlt : k < ks.length
    · obtain ⟨b, o, rfl, hra⟩ := (HV.out.keeps hkw (fun _ _ h => h)).at (fun k hk => (HLF.out k hk).hash) k hlt
      have hlf := HLF.out _ (List.getElem_mem hlt)
      obtain ⟨⟨nm1, nm2⟩, nm3⟩ := HNM.out k hlt
      have nm2' : ¬ (16 : Int) < (ks[k]).name.size := by omega
      have hpre : ∀ m (hm : k = m + 1), wr.cell? ⟨b, o + m * 36, none⟩ = some (.string (ks[m]'(by omega)).name) := fun m hm => by
        obtain ⟨b', o', he, hra'⟩ := (HV.out.keeps hkw (fun _ _ h => h)).at (fun k hk => (HLF.out k hk).hash) m (by omega)
        cases he
        have := hra' 0 _ (kid0 _)
        simpa using this
      obtain ⟨K, hK⟩ : ∃ K, K = ks[k] := ⟨_, rfl⟩
      rw [← hK] at hra hlf nm1 nm2'
      simp only [← hK] at nm3
      clear nm2
      have hz : (Tryd.prog.info? 146).map (·.size) = some (kidV K).length := by rw [kidV_length _ hlf.hash]; exact Tryd.size146
      have hz2 : (Tryd.prog.info? 146).map (·.size) = some (kidV K).toArray.size := by simpa using hz
      have ho2 : (kidV K).toArray.all (·.oneCell') = true := all_oneCell_toArray (kidV_one _)
      have h36 : 36 = (kidV K).toArray.size := by simp [kidV_length _ hlf.hash]
      have h00 := kid0 K
      obtain ⟨N, hN⟩ : ∃ N, N = K.name := ⟨_, rfl⟩
      rw [← hN] at h00 nm1 nm2'
      simp only [← hN] at nm3
      obtain ⟨KV, hKV⟩ : ∃ KV, KV = kidV K := ⟨_, rfl⟩
      rw [← hKV] at hra hz hz2 ho2 h36 h00
      have HRA := Lib.hid hra; clear hra
      have HZ := Lib.hid hz; clear hz
      have HZ2 := Lib.hid hz2; clear hz2
      have HO2 := Lib.hid ho2; clear ho2
      have H36 := Lib.hid h36; clear h36
      have H00 := Lib.hid h00; clear h00
      have HB := Lib.hid hb; clear hb
      clear hKV hK hlf hN
      have HPRE := Lib.hid hpre; clear hpre
      have HNM3 := Lib.hid nm3; clear nm3
      have nm2d : decide ((16 : Int) < N.size) = false := by rw [decide_eq_false_iff_not]; exact nm2'
      clear nm2'
      by_cases hk0 : 0 < k
      · obtain ⟨m, hm⟩ : ∃ m, m + 1 = k := ⟨k - 1, by omega⟩
        have hkm : (k : Int) - 1 = (m : Int) := by omega
        have hm1 : ¬ (m : Int) < 0 := by omega
        have hm2 : (m : Int) < ks.length := by omega
        have hkd : decide ((0 : Int) < (k : Int)) = true := by rw [decide_eq_true_eq]; omega
        have hlb := HNM3.out m hm.symm
        have hcb := HPRE.out m hm.symm
        have HM := Lib.hid hm
        obtain ⟨PN, hPN⟩ : ∃ PN, PN = (ks[m]'(by omega)).name := ⟨_, rfl⟩
        rw [← hPN] at hlb hcb
        clear hPN hm
        go_wp2_with (first | (refine wpList_load_mid rfl 146 _ rfl b (o + k * 36) (by rfl) KV _ HRA.out Tryd.underlying146 rfl HZ.out ?_) | (refine wpList_store_row rfl 146 _ _ rfl wr.heap.size KV.toArray (by rfl) (by rfl) 146 _ (heap_alloc_new _ _) HZ2.out H36.out HO2.out ?_; generalize hW3 : World.setRow _ _ _ = W3; obtain ⟨hb3, hk3⟩ := newrow hW3; clear hW3; have e30 := cell_at hb3 H00.out; clear hb3))
        have e31 := hk3.cell hcb (fun h => h)
        have e32 := hk3.heap HB.out (fun h => h)
        have e33 := cell_of_heap e32 2
        simp at e33
        have HE := Lib.hid e32; clear e32 hcb
        try go_frame
        go_quiet (fail)
        go_wp2
        have hk35 := Keeps.drewN hk3 nq
        go_roundw
        case rel => exact ⟨k + 1, by omega, by go_num, hk35.heap HB.out (fun h => h), hkw.same hk35⟩
        case measure => simp [intOf]; omega
      · have hkd : decide ((0 : Int) < (k : Int)) = false := by rw [decide_eq_false_iff_not]; omega
        have hkd2 : decide (0 < k) = false := by rw [decide_eq_false_iff_not]; omega
        clear hk0
        go_wp2_with (first | (refine wpList_load_mid rfl 146 _ rfl b (o + k * 36) (by rfl) KV _ HRA.out Tryd.underlying146 rfl HZ.out ?_) | (refine wpList_store_row rfl 146 _ _ rfl wr.heap.size KV.toArray (by rfl) (by rfl) 146 _ (heap_alloc_new _ _) HZ2.out H36.out HO2.out ?_; generalize hW3 : World.setRow _ _ _ = W3; obtain ⟨hb3, hk3⟩ := newrow hW3; clear hW3; have e30 := cell_at hb3 H00.out; clear hb3))
        try go_frame
        go_quiet (fail)
        go_wp2
        have hk35 := Keeps.drewN hk3 nq
        go_roundw
        case rel => exact ⟨k + 1, by omega, by go_num, hk35.heap HB.out (fun h => h), hkw.same hk35⟩
        case measure => simp [intOf]; omega
    · have hge : ¬ (k : Int) < ks.length := by omega
      have e0 := cell_of_heap hb 0
      have e1 := cell_of_heap hb 1
      have e2 := cell_of_heap hb 2
      simp at e0 e1 e2
      go_wp2
      go_ret
      exact ⟨rfl, hkw⟩
end Go.Proofs.YtpniohbjgpncmaaDoor
