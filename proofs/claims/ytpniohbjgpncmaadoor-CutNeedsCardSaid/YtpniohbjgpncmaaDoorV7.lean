/- chunk: plain children, sizes, and which chunks may be: conditions: the children are leaves. -/
import Derived.Test.YtpniohbjgpncmaaDoorV6
import Derived.Outline
namespace Go.Proofs.YtpniohbjgpncmaaDoor
open Go.RowKit

/-- A child as an index has them. -/
structure Plain (k : KidD) : Prop where
  leaf : Leaf k
  name : k.name = ⟨#[]⟩
  dir : k.dir = false
theorem heap_box {w : World} {l : List Value} {t : TypeId} (k : Nat) (v : Value) (hk : l[k]? = some v) : (w.alloc (.cells l.toArray t)).cell? ⟨w.heap.size, k, none⟩ = some v :=
  cell_at (heap_alloc_new _ _) hk
theorem kid34 (k : KidD) (h : k.hash.length = 32) : (kidV k)[34]? = some (.int .u8 k.height) := by simp [kidV, bytesV_length, h]
theorem kid35 (k : KidD) (h : k.hash.length = 32) : (kidV k)[35]? = some (.int .u32 k.size) := by simp [kidV, bytesV_length, h]
theorem kid_hash {w : World} {b o : Nat} {k : KidD} (h : k.hash.length = 32) (hr : w.rangeAt b o (kidV k)) : w.rangeAt b (o + 2) (bytesV k.hash) := by
  intro j v hj
  have hj32 : j < 32 := by
    have := (List.getElem?_eq_some_iff.1 hj).1
    rwa [bytesV_length, h] at this
  have := hr (2 + j) v (by
    simp only [kidV]
    rw [List.append_assoc, List.getElem?_append_right (by simp), List.getElem?_append_left (by simp [bytesV_length, h]; omega)]
    simpa using hj)
  rwa [Nat.add_assoc]
theorem range_block {w : World} {b : Nat} {l : List Value} {t : TypeId} (h : w.heap[b]? = some (.cells l.toArray t)) : w.rangeAt b 0 l := by
  intro j v hj
  rw [Nat.zero_add, cell_of_heap h j]
  simpa using hj
set_option maxRecDepth 20000 in
set_option maxHeartbeats 400000 in
theorem plain_yes (k : KidD) (hp : Plain k) (w : World) : Calls Tryd.prog 130 #[.agg (kidV k).toArray] w fun e w' => e = .returned (.bool true) ∧ Keeps No w w' := by
  have hh := hp.leaf.hash
  have e34 := heap_box (w := w) (t := 146) 34 _ (kid34 k hh)
  have e35 := heap_box (w := w) (t := 146) 35 _ (kid35 k hh)
  have hra := range_block (heap_alloc_new w (.cells (kidV k).toArray 146))
  have hrh := kid_hash hh hra
  have hz : (Tryd.prog.info? 146).map (·.size) = some (kidV k).length := by rw [kidV_length _ hh]; exact Tryd.size146
  have hz32 : (Tryd.prog.info? 70).map (·.size) = some (bytesV k.hash).length := by rw [bytesV_length, hh]; exact Tryd.size70
  have hbu := built146 (bytesV k.hash) k.height k.size (by rw [bytesV_length, hh])
  have heq : ∀ W, (Op.equalIn 10000 146 (.agg (kidV k).toArray) (.agg (kidV k).toArray)).run Tryd.prog W = .ok true W := fun W => eq_kid W k hh
  have hkv : kidV k = [Value.string ⟨#[]⟩, Value.bool false] ++ bytesV k.hash ++ [Value.int .u8 k.height, Value.int .u32 k.size] := by
    unfold kidV; rw [hp.name, hp.dir]
  rw [← hkv] at hbu
  obtain ⟨KV, hKV⟩ : ∃ KV, KV = kidV k := ⟨_, rfl⟩
  obtain ⟨HV, hHV⟩ : ∃ HV, HV = bytesV k.hash := ⟨_, rfl⟩
  rw [← hKV] at e34 e35 hra hz heq hbu hrh ⊢
  rw [← hHV] at hbu hrh hz32
  have hgd := guard146
  have HRA := Lib.hid hra; clear hra
  have HRH := Lib.hid hrh; clear hrh
  have HZ := Lib.hid hz; clear hz
  have HZ32 := Lib.hid hz32; clear hz32
  have HBU := Lib.hid hbu; clear hbu
  clear hKV hHV hh hkv
  go_enter Tryd.func130, Tryd.ntmps130
  go_wp2_with (first | (refine wpList_load_mid rfl 146 _ rfl w.heap.size 0 (by rfl) KV _ HRA.out Tryd.underlying146 rfl HZ.out ?_) | (refine wpList_load_mid rfl 70 _ rfl w.heap.size (0 + 2) (by rfl) HV _ HRH.out Tryd.underlying70 rfl HZ32.out ?_) | (refine wpList_buildTo rfl 146 _ rfl _ rfl KV.toArray (by simp only [List.map_toArray, List.map_cons, List.map_nil]; exact HBU.out) ?_))
  go_ret
  exact ⟨rfl, keeps_alloc _ _⟩
set_option maxRecDepth 20000 in
theorem size_blob (data : ByteArray) (kids : Value) (w : World) (hd : data.size < 1000000) : Calls Tryd.prog 50 #[chunkV 1 data kids] w fun e w' => e = .returned (.int .u64 data.size) ∧ Keeps No w w' := by
  unfold chunkV
  have h1 : IntKind.u64.wrap (data.size : Int) = data.size := by rw [IntKind.wrap_u64]; omega
  go_enter Tryd.func50, Tryd.ntmps50
  go_wp2
  go_ret
  exact ⟨rfl, keeps_alloc _ _⟩
set_option maxRecDepth 20000 in
theorem size_dir (data : ByteArray) (kids : Value) (w : World) : Calls Tryd.prog 50 #[chunkV 3 data kids] w fun e w' => e = .returned (.int .u64 0) ∧ Keeps No w w' := by
  unfold chunkV
  go_enter Tryd.func50, Tryd.ntmps50
  go_wp2
  go_ret
  exact ⟨rfl, keeps_alloc _ _⟩
/-- the sizes of the first i children -/
def sizeTo (ks : List KidD) : Nat → Nat
  | 0 => 0
  | i + 1 => sizeTo ks i + (ks.map (·.size))[i]?.getD 0
theorem sizeTo_le (ks : List KidD) (h : ∀ k ∈ ks, k.size < 1000000) : ∀ i, sizeTo ks i ≤ 1000000 * i
  | 0 => Nat.le_refl _
  | i + 1 => by
    have ih := sizeTo_le ks h i
    unfold sizeTo
    have : (ks.map (·.size))[i]?.getD 0 ≤ 1000000 := by
      by_cases hi : i < ks.length
      · simp [hi]
        exact Nat.le_of_lt (h _ (List.getElem_mem hi))
      · rw [List.getElem?_eq_none (by simp; omega)]; simp
    omega
set_option maxRecDepth 20000 in
set_option maxHeartbeats 800000 in
theorem size_index (data : ByteArray) (v : Value) (ks : List KidD) (w : World) (hv : Kids w v ks) (hl : ∀ k ∈ ks, Leaf k) (hn : ks.length ≤ 6) :
    Calls Tryd.prog 50 #[chunkV 2 data v] w fun e w' => e = .returned (.int .u64 (sizeTo ks ks.length)) ∧ Keeps No w w' := by
  obtain ⟨a, c, rfl, hc⟩ := hv.len
  have HV := Lib.hid hv; clear hv
  have HL := Lib.hid hl; clear hl
  unfold chunkV
  go_enter Tryd.func50, Tryd.ntmps50
  go_wp2
  go_loopw [3, 13] (fun s i W => ∃ k : Nat, k ≤ ks.length ∧ i = .int .i64 k ∧ s = .int .u64 (sizeTo ks k) ∧ Keeps No w W) (fun _ i _ => ks.length - (intOf i).toNat)
  case atStart => exact ⟨0, Nat.zero_le _, rfl, rfl, keeps_alloc _ _⟩
  case round =>
    obtain ⟨k, hk, rfl, rfl, hkw⟩ := hrel
    by_cases hlt : k < ks.length
    · obtain ⟨b, o, rfl, hra⟩ := (HV.out.keeps hkw (fun _ _ h => h)).at (fun k hk => (HL.out k hk).hash) k hlt
      have hlf := HL.out _ (List.getElem_mem hlt)
      have hsz : sizeTo ks (k + 1) = sizeTo ks k + (ks[k]).size := by simp [sizeTo, hlt]
      have hle := sizeTo_le ks (fun k hk => (HL.out k hk).small) k
      obtain ⟨K, hK⟩ : ∃ K, K = ks[k] := ⟨_, rfl⟩
      rw [← hK] at hra hlf hsz
      have hz : (Tryd.prog.info? 146).map (·.size) = some (kidV K).length := by rw [kidV_length _ hlf.hash]; exact Tryd.size146
      have hz2 : (Tryd.prog.info? 146).map (·.size) = some (kidV K).toArray.size := by simpa using hz
      have ho2 : (kidV K).toArray.all (·.oneCell') = true := all_oneCell_toArray (kidV_one _)
      have h36 : 36 = (kidV K).toArray.size := by simp [kidV_length _ hlf.hash]
      have h35 := kid35 K hlf.hash
      have hsm := hlf.small
      have w1 : IntKind.u64.wrap (K.size : Int) = K.size := by rw [IntKind.wrap_u64]; omega
      have hb1 : (sizeTo ks k : Int) + K.size < 18446744073709551616 := by omega
      obtain ⟨KV, hKV⟩ : ∃ KV, KV = kidV K := ⟨_, rfl⟩
      obtain ⟨S, hS⟩ : ∃ S, S = sizeTo ks k := ⟨_, rfl⟩
      obtain ⟨Z, hZ⟩ : ∃ Z, Z = K.size := ⟨_, rfl⟩
      rw [← hKV] at hra hz hz2 ho2 h36 h35
      rw [← hS] at hsz hle hb1 ⊢
      rw [← hZ] at hsz h35 w1 hb1 hsm
      have w2 : ((S : Int) + Z) % 18446744073709551616 = ((S + Z : Nat) : Int) := by omega
      have HSZ := Lib.hid hsz; clear hsz
      have HRA := Lib.hid hra; clear hra
      have HZ := Lib.hid hz; clear hz
      have HZ2 := Lib.hid hz2; clear hz2
      have HO2 := Lib.hid ho2; clear ho2
      have H36 := Lib.hid h36; clear h36
      have H35 := Lib.hid h35; clear h35
      clear hKV hK hlf hS hZ
      go_wp2_with (first | (refine wpList_load_mid rfl 146 _ rfl b (o + k * 36) (by rfl) KV _ HRA.out Tryd.underlying146 rfl HZ.out ?_) | (refine wpList_store_row rfl 146 _ _ rfl wr.heap.size KV.toArray (by rfl) (by rfl) 146 _ (heap_alloc_new _ _) HZ2.out H36.out HO2.out ?_; generalize hW3 : World.setRow _ _ _ = W3; obtain ⟨hb3, hk3⟩ := newrow hW3; clear hW3; have e35 := cell_at hb3 H35.out))
      go_roundw
      case rel =>
        (repeat apply Exists.intro)
        exact ⟨⟨k + 1, by omega, by go_num, by rw [HSZ.out]; go_num, hkw.same hk3⟩, rfl⟩
      case measure => simp [intOf]; omega
    · have hge : ¬ (k : Int) < ks.length := by omega
      obtain rfl : k = ks.length := by omega
      go_wp2
      go_ret
      exact ⟨rfl, hkw⟩
end Go.Proofs.YtpniohbjgpncmaaDoor
