/- cut: a chunk is put: conditions: the chunk may be, its bytes, its height and its size are known. -/
import Derived.Test.YtpniohbjgpncmaaDoorVC
import Derived.Deep.DeepCutAuto
import Derived.Outline
namespace Go.Proofs.YtpniohbjgpncmaaDoor
open Go.RowKit

/-- A cutter in block x: its row v has the texts. -/
structure Cu (w : World) (x : Nat) (v : Value) (outs : List ByteArray) : Prop where
  heap : w.heap[x]? = some (.cells #[v, .bool false] 144 (0, 0))
  own : w.ownsRow 0 9 1 v outs.length (strV outs)
  ne : v.ownBlock ≠ some x
theorem Cu.keeps {S : Nat → Prop} {w w' : World} {x : Nat} {v : Value} {outs : List ByteArray} (h : Cu w x v outs) (k : Keeps S w w') (h1 : ¬ S x) (h2 : ∀ b, v.ownBlock = some b → ¬ S b) : Cu w' x v outs :=
  ⟨k.heap h.heap h1, Own.keeps h.own k h2, h.ne⟩
theorem Cu.no {w w' : World} {x : Nat} {v : Value} {outs : List ByteArray} (h : Cu w x v outs) (k : Keeps No w w') : Cu w' x v outs := h.keeps k (fun h => h) (fun _ _ h => h)
def leafK (h : List UInt8) (H S : Nat) : KidD := ⟨⟨#[]⟩, false, h, H, S⟩
def CuPost (w : World) (x : Nat) (v : Value) (outs : List ByteArray) (s : ByteArray) (H S : Nat) (e : Ending) (w' : World) : Prop := ∃ (h : List UInt8) (v' : Value), h.length = 32 ∧ e = .returned (.agg (kidV (leafK h H S)).toArray) ∧
  Cu w' x v' (outs ++ [s]) ∧ Keeps (fun k => k = x ∨ v.ownBlock = some k) w w' ∧ (v'.ownBlock = v.ownBlock ∨ ∀ k, v'.ownBlock = some k → w.heap.size ≤ k)
theorem Tryd.info9 : (Tryd.prog.info? 9).map (fun i => (i.zero, i.size, i.bytes)) = some (some (.string ⟨#[]⟩), 1, 16) := by kernel_rfl
theorem strV_snoc (outs : List ByteArray) (s : ByteArray) : strV (outs ++ [s]) = strV outs ++ [.string s] := by simp [strV]
theorem info_parts9 : ∃ ie, Tryd.prog.info? 9 = some ie ∧ ie.zero = some (.string ⟨#[]⟩) ∧ ie.size = 1 ∧ ie.bytes = 16 := by
  have h := Tryd.info9
  cases hi : Tryd.prog.info? 9 with
  | none => rw [hi] at h; simp at h
  | some ie =>
    rw [hi] at h
    simp at h
    exact ⟨ie, rfl, h.1, h.2.1, h.2.2⟩

theorem cu_close {w1 w2 : World} {x : Nat} {v : Value} {outs : List ByteArray} {s : ByteArray} {a2 : Option Addr} {c2 : Nat} (hc : Cu w1 x v outs) (hk2 : Keeps (fun k => v.ownBlock = some k) (w1.drew.alloc (.cells #[.string s] 9)) w2)
    (ho : w2.ownsRow 0 9 1 (.slice a2 (outs.length + 1) c2) (outs.length + 1) (strV outs ++ [.string s])) (hat : (Value.slice a2 (outs.length + 1) c2).ownBlock = v.ownBlock ∨ (Value.slice a2 (outs.length + 1) c2).ownBlock = some (w1.drew.alloc (.cells #[.string s] 9)).heap.size) :
    Cu (w2.setCell ⟨x, 0, none⟩ (.slice a2 (outs.length + 1) c2)) x (.slice a2 (outs.length + 1) c2) (outs ++ [s]) ∧ Keeps (fun k => k = x ∨ v.ownBlock = some k) w1 (w2.setCell ⟨x, 0, none⟩ (.slice a2 (outs.length + 1) c2)) ∧
      ((Value.slice a2 (outs.length + 1) c2).ownBlock = v.ownBlock ∨ ∀ k, (Value.slice a2 (outs.length + 1) c2).ownBlock = some k → w1.heap.size ≤ k) := by
  have hk1 : Keeps No w1 (w1.drew.alloc (.cells #[.string s] 9)) := ((Keeps.refl No w1).drew).alloc _
  have hk : Keeps (fun k => k = x ∨ v.ownBlock = some k) w1 w2 := hk1.trans hk2 (fun _ _ h => h.elim) (fun _ _ h => .inr h)
  have hh := hk2.heap (hk1.heap hc.heap (fun h => h)) hc.ne
  have hlt := heap_lt hc.heap
  have hne : (Value.slice a2 (outs.length + 1) c2).ownBlock ≠ some x := by
    rcases hat with h | h
    · rw [h]; exact hc.ne
    · rw [h]; intro e; simp at e; have : w1.drew.heap.size = w1.heap.size := rfl; omega
  refine ⟨⟨by rw [heap_setCell_same _ hh]; rfl, ?_, hne⟩, hk.setCell _ _ (fun _ => .inl rfl), ?_⟩
  · rw [strV_snoc, List.length_append]
    exact Own.keeps ho ((Keeps.refl (fun k => k = x) w2).setCell ⟨x, 0, none⟩ _ (fun _ => rfl)) (fun b hb e => hne (e ▸ hb))
  · rcases hat with h | h
    · exact .inl h
    · refine .inr fun k hk' => ?_
      rw [h] at hk'
      simp at hk'
      have : w1.drew.heap.size = w1.heap.size := rfl
      omega
theorem storeV {P : Program} (W : World) (g : Nat) (old : Array Value) (t : TypeId) (C : List Value) (hg : W.heap[g]? = some (.cells old t (0, 0))) (ho : old.size = C.length) (h1 : ∀ u ∈ C, u.oneCell' = true) :
    Sem.run P (storeCells ⟨g, 0, none⟩ C) W = .ok () (W.setRow g C.toArray) := by
  have h := run_storeCells_at (P := P) g 0 t C 0 old W hg (by omega) h1
  rw [h]
  simp [List.drop_of_length_le, ho]
theorem rowaway {w : World} {q g k : Nat} {x : Value} {C : Array Value} (h : w.cell? ⟨q, k, none⟩ = some x) (hne : q ≠ g) : (w.setRow g C).cell? ⟨q, k, none⟩ = some x :=
  ((Keeps.refl (fun k => k = g) w).setRow g C (fun _ => rfl)).cell h hne
theorem zero146_size : zero146.size = 36 := rfl
theorem fold146 (H : List Value) (h : H.length = 32) : List.foldl (fun (cs : Array Value) (x : Value × Nat) => cs.setIfInBounds (2 + x.snd) x.fst) #[Value.string ⟨#[]⟩, Value.bool false, Value.int .u8 0, Value.int .u8 0, Value.int .u8 0, Value.int .u8 0, Value.int .u8 0, Value.int .u8 0, Value.int .u8 0, Value.int .u8 0, Value.int .u8 0, Value.int .u8 0, Value.int .u8 0, Value.int .u8 0, Value.int .u8 0, Value.int .u8 0, Value.int .u8 0, Value.int .u8 0, Value.int .u8 0, Value.int .u8 0, Value.int .u8 0, Value.int .u8 0, Value.int .u8 0, Value.int .u8 0, Value.int .u8 0, Value.int .u8 0, Value.int .u8 0, Value.int .u8 0, Value.int .u8 0, Value.int .u8 0, Value.int .u8 0, Value.int .u8 0, Value.int .u8 0, Value.int .u8 0, Value.int .u8 0, Value.int .u32 0] H.zipIdx = ([Value.string ⟨#[]⟩, Value.bool false] ++ H ++ [Value.int .u8 0, Value.int .u32 0]).toArray := by
  have := fold_cells H [.string ⟨#[]⟩, .bool false] (List.replicate 32 (Value.int .u8 0)) [.int .u8 0, .int .u32 0] 2 0 (by simp [h]) rfl
  simpa using this
theorem sets146 (h : List UInt8) (hl : h.length = 32) (H S : Nat) (C0 : List Value) (hC : C0 = [Value.string ⟨#[]⟩, Value.bool false] ++ bytesV h ++ [Value.int .u8 0, Value.int .u32 0]) :
    (C0.set 34 (.int .u8 H)).set 35 (.int .u32 S) = kidV (leafK h H S) := by
  subst hC
  simp [kidV, leafK, bytesV_length, hl]
/-- What the hash's cells make, all its names opaque. -/
theorem leaf_facts (hs : List UInt8) (hl : hs.length = 32) (H S : Nat) : ∃ (BV C0 KV : List Value), BV = bytesV hs ∧ KV = kidV (leafK hs H S) ∧ BV.length = 32 ∧ C0.length = 36 ∧ KV.length = 36 ∧ (∀ u ∈ KV, u.oneCell' = true) ∧
    List.foldl (fun (cs : Array Value) (x : Value × Nat) => cs.setIfInBounds (2 + x.snd) x.fst) #[Value.string ⟨#[]⟩, Value.bool false, Value.int .u8 0, Value.int .u8 0, Value.int .u8 0, Value.int .u8 0, Value.int .u8 0, Value.int .u8 0, Value.int .u8 0, Value.int .u8 0, Value.int .u8 0, Value.int .u8 0, Value.int .u8 0, Value.int .u8 0, Value.int .u8 0, Value.int .u8 0, Value.int .u8 0, Value.int .u8 0, Value.int .u8 0, Value.int .u8 0, Value.int .u8 0, Value.int .u8 0, Value.int .u8 0, Value.int .u8 0, Value.int .u8 0, Value.int .u8 0, Value.int .u8 0, Value.int .u8 0, Value.int .u8 0, Value.int .u8 0, Value.int .u8 0, Value.int .u8 0, Value.int .u8 0, Value.int .u8 0, Value.int .u8 0, Value.int .u32 0] BV.zipIdx = C0.toArray ∧ (C0.set 34 (.int .u8 H)).set 35 (.int .u32 S) = KV :=
  ⟨bytesV hs, [Value.string ⟨#[]⟩, Value.bool false] ++ bytesV hs ++ [Value.int .u8 0, Value.int .u32 0], kidV (leafK hs H S), rfl, rfl, by rw [bytesV_length, hl], by simp [bytesV_length, hl], kidV_length _ hl, kidV_one _, fold146 _ (by rw [bytesV_length, hl]), sets146 hs hl H S _ rfl⟩
def Cut5 (w : World) (x : Nat) (v : Value) (outs : List ByteArray) (s : ByteArray) (C Z : Array Value) (bs : List UInt8) (b : Value) (wx : World) : Prop := ∃ v', Cu wx x v' (outs ++ [s]) ∧ wx.heap[w.heap.size]? = some (.cells C 102) ∧ wx.heap[w.heap.size + 1]? = some (.cells Z 146) ∧
  Rd wx 1 b bs.length (bytesV bs) ∧ Keeps (fun k => k = x ∨ v.ownBlock = some k) w wx ∧ (v'.ownBlock = v.ownBlock ∨ ∀ k, v'.ownBlock = some k → w.heap.size + 2 ≤ k)
set_option maxRecDepth 20000 in
set_option maxHeartbeats 1600000 in
theorem cuput (x : Nat) (v : Value) (outs : List ByteArray) (kind : Nat) (data : ByteArray) (kids : Value) (bs : List UInt8) (H S : Nat) (w : World) (hc : Cu w x v outs)
    (hput : ∀ W, Keeps (fun k => k = x ∨ v.ownBlock = some k) w W → Calls Tryd.prog 47 #[chunkV kind data kids] W (BytesPost bs W))
    (hhei : ∀ W, Keeps (fun k => k = x ∨ v.ownBlock = some k) w W → Calls Tryd.prog 49 #[chunkV kind data kids] W fun e w' => e = .returned (.int .i64 H) ∧ Keeps No W w')
    (hsiz : ∀ W, Keeps (fun k => k = x ∨ v.ownBlock = some k) w W → Calls Tryd.prog 50 #[chunkV kind data kids] W fun e w' => e = .returned (.int .u64 S) ∧ Keeps No W w')
    (hk : KTab w) (hf : KFirst w) (hx : 3 < x) (hv : ∀ k, v.ownBlock = some k → 3 < k) (hb0 : 0 < bs.length) (hbl : bs.length < 1000000) (hH : H < 256) (hS : S < 1000000) (hol : outs.length < 1000) :
    Calls Tryd.prog 122 #[.pointer (some ⟨x, 0, none⟩), chunkV kind data kids] w (CuPost w x v outs ⟨bs.toArray⟩ H S) := by
  have HPUT := Lib.hid hput; clear hput
  have HHEI := Lib.hid hhei; clear hhei
  have HSIZ := Lib.hid hsiz; clear hsiz
  have HC := Lib.hid hc; clear hc
  have HK := Lib.hid hk; clear hk
  have HF := Lib.hid hf; clear hf
  have HV := Lib.hid hv; clear hv
  have HSS := Lib.hid hS; clear hS
  obtain ⟨i9, hi, hz0, hz1, hz2⟩ := info_parts9
  unfold chunkV at *
  go_enter Tryd.func122, Tryd.ntmps122
  go_wp2_with (first | (go_at_call 47; refine (HPUT.out _ ((keeps_alloc2 w _ _).mono (fun _ _ h => h.elim))).mono ?_; rintro e w1 ⟨ao, cp, rfl, ho1, hk1, hf1⟩))
  have hkw1 : Keeps No w w1 := (keeps_alloc2 w _ _).same hk1
  have hbx := hk1.heap (heap_new1 w _ _ _ rfl) (fun h => h)
  have hb4 := hk1.heap (heap_new2 w _ _) (fun h => h)
  have hcu := HC.out.no hkw1
  have hx0 := cell_of_heap hcu.heap 0
  have hxf := frozen_of_heap hcu.heap 0
  simp at hx0
  have hcv := run_text (W := w1.drew) ((Own.rd ho1).keeps ((Keeps.refl No w1).drew) (fun _ _ h => h)) 27 5 9 Tryd.underlying27 Tryd.underlying5 Tryd.underlying9
  obtain ⟨s, hs⟩ : ∃ s : ByteArray, s = ⟨bs.toArray⟩ := ⟨_, rfl⟩
  rw [← hs] at hcv ⊢
  have hss : s.size = bs.length := by rw [hs]; simp [ByteArray.size]
  have HSZ := Lib.hid hss; clear hss
  have HSB := Lib.hid hs; clear hs
  have hlx : x < w1.drew.heap.size := heap_lt hcu.heap
  have HCU := Lib.hid hcu; clear hcu
  have HBX := Lib.hid hbx; clear hbx
  have HB4 := Lib.hid hb4; clear hb4
  have HO1 := Lib.hid ho1; clear ho1
  have HKW := Lib.hid hkw1; clear hkw1
  have HHH := Lib.hid hH; clear hH
  have HFR : Hid (∀ b, (Value.slice ao bs.length cp).ownBlock = some b → ¬ (b = x ∨ v.ownBlock = some b)) := fun b hb h => by
    have h1 := heap_lt HC.out.heap
    have h2 := hf1 b hb
    have h3 : w.heap.size ≤ ((w.alloc (.cells #[.int .u8 kind, .string data, kids] 102)).alloc (.cells zero146 146)).heap.size := by simp; omega
    rcases h with rfl | h
    · have : w.heap.size ≤ b := Nat.le_trans h3 h2
      omega
    · have := own_lt HC.out.own _ h
      have : w.heap.size ≤ b := Nat.le_trans h3 h2
      omega
  clear hf1
  have hxa := (keeps_alloc w1 (.cells #[.string s] 9)).cell hx0 (fun h => h)
  go_cut [] (Cut5 w x v outs s #[.int .u8 kind, .string data, kids] zero146 bs (.slice ao bs.length cp))
  case first =>
   go_region_law (first | (refine step_append_any (by rfl) _ _ _ _ (by rfl) 9 i9 _ 1 16 Tryd.underlying22 hi hz0 hz1 hz2 rfl (by decide) v outs.length (strV outs) (by rfl) (Own.keeps (w := w1.drew) HCU.out.own (keeps_alloc _ _) (fun _ _ h => h)) (.slice (some ⟨w1.heap.size, 0, none⟩) 1 1) 1 [.string s] (by rfl) (Rd.src Tryd.underlying22 (rd_one w1.drew _ _) (by simp [Value.oneCell'])) (by unfold maxLen; omega) (by omega) ?_; intro a2 c2 w2 hown2 hk2 hnil2 hat2; have hx2 := hk2.heap ((keeps_alloc w1.drew _).heap HCU.out.heap (fun h => h)) HCU.out.ne; have hx20 := cell_of_heap hx2 0; have hx2f := frozen_of_heap hx2 0; simp at hx20) | fail)
   all_goals (go_wp2_with fail; go_meet)
   all_goals have hcc := cu_close HCU.out hk2 hown2 (by simpa using hat2)
   all_goals
    obtain ⟨c1, c2', c3⟩ := hcc
    have hxs : ∀ i, w1.heap.size > i → i ≥ w.heap.size → ¬ (i = x ∨ v.ownBlock = some i) := fun i _ hi h => by
      have h1 := heap_lt HC.out.heap
      rcases h with rfl | h
      · omega
      · have := own_lt HC.out.own _ h; omega
    have hsz := HKW.out.size
    refine ⟨_, c1, ?_, ?_, ?_, HKW.out.trans c2' (fun _ _ h => h.elim) (fun _ _ h => h), ?_⟩
    · exact c2'.heap HBX.out (hxs _ (heap_lt HBX.out) (Nat.le_refl _))
    · exact c2'.heap HB4.out (hxs _ (heap_lt HB4.out) (by omega))
    · exact (Own.rd HO1.out).keeps c2' (fun b hb => HFR.out b hb)
    · have h4 := heap_lt HB4.out
      exact c3.imp id (fun h k hk => Nat.le_trans h4 (h k hk))
  case rest =>
   obtain ⟨v', hcu, hbx, hb4, hrd, hkw, hfr⟩ := hcut
   have HCU2 := Lib.hid hcu; clear hcu
   have HB42 := Lib.hid hb4; clear hb4
   have HRD := Lib.hid hrd; clear hrd
   have HKW2 := Lib.hid hkw; clear hkw
   have HFR2 := Lib.hid hfr; clear hfr
   have e0 := cell_of_heap hbx 0
   have e1 := cell_of_heap hbx 1
   have e2 := cell_of_heap hbx 2
   simp at e0 e1 e2
   have HBX2 := Lib.hid hbx; clear hbx
   clear hx0 hxf hcv hxa hi hz0 hz1 hz2 hlx
   have hHi : (H : Int) < 256 := by have := HHH.out; omega
   have hSi : (S : Int) < 1000000 := by have := HSS.out; omega
   have wh : IntKind.u8.wrap (H : Int) = H := by rw [IntKind.wrap_u8]; omega
   have ws : IntKind.u32.wrap (S : Int) = S := by rw [IntKind.wrap_u32]; omega
   clear hHi hSi
   go_wp2_with fail
   have hnk : Keeps No wc wc.drew := (Keeps.refl No wc).drew
   have kk : Keeps No wc wc.drew := hnk
   have hn3 : ¬ (3 = x ∨ v.ownBlock = some 3) := by
     rintro (h | h)
     · omega
     · have := HV.out _ h; omega
   have hn2 : ¬ (2 = x ∨ v.ownBlock = some 2) := by
     rintro (h | h)
     · omega
     · have := HV.out _ h; omega
   have htr : ∀ W, Keeps No wc W → Keeps (fun k => k = x ∨ v.ownBlock = some k) w W := fun W k => HKW2.out.trans k (fun _ _ h => h) (fun _ _ h => h.elim)
   have HTR := Lib.hid htr; clear htr
   have HN3 := Lib.hid hn3; clear hn3
   have HN2 := Lib.hid hn2; clear hn2
   go_region_held3 (fun w' => w'.cell? ⟨w.heap.size, 0, none⟩ = some (.int .u8 kind) ∧ w'.cell? ⟨w.heap.size, 1, none⟩ = some (.string data) ∧ w'.cell? ⟨w.heap.size, 2, none⟩ = some kids) (first | exact ⟨e0, e1, e2⟩ | exact ⟨kk.cell e0 (fun h => h), kk.cell e1 (fun h => h), kk.cell e2 (fun h => h)⟩ | exact ⟨rowaway (kk.cell e0 (fun h => h)) (by omega), rowaway (kk.cell e1 (fun h => h)) (by omega), rowaway (kk.cell e2 (fun h => h)) (by omega)⟩)
     (first | (go_at_call 49; refine (HHEI.out _ (HTR.out _ kk)).mono ?_; rintro e w3 ⟨rfl, k3⟩; have kk := kk.same k3) | (go_at_call 50; refine (HSIZ.out _ (HTR.out _ kk)).mono ?_; rintro e w3 ⟨rfl, k3⟩; have kk := kk.same k3; have hsto := storeV (P := Tryd.prog) w3 (w.heap.size + 1) zero146 146 KV (kk.heap HB42.out (fun h => h)) (zero146_size.trans HKL.out.symm) HKO.out) | (go_at_call 149; refine (sha_any bs _ _ (HRD.out.keeps kk (fun _ _ h => h)) hb0 hbl (HK.out.keeps (HTR.out _ kk) HN3.out) (HF.out.keeps (HTR.out _ kk) HN2.out)).mono ?_; rintro e w3 ⟨hs, hhl, rfl, k3⟩; have kk := kk.same k3; obtain ⟨BV, C0, KV, hBV, hKV, hb32, hc36, hk36, hko, hfold, hset⟩ := leaf_facts hs hhl H S; rw [← hBV]; have HKV := Lib.hid hKV; clear hKV hBV; have HKL := Lib.hid hk36; clear hk36; have HKO := Lib.hid hko; clear hko; have HHL := Lib.hid hhl; clear hhl))
   have hz2 : (Tryd.prog.info? 146).map (·.size) = some KV.toArray.size := by simp [HKL.out, Tryd.size146]
   have HZ2 := Lib.hid hz2; clear hz2
   have hrow := setRow_heap _ _ _ KV.toArray _ _ (kk.heap HB42.out (fun h => h))
   have HROW := Lib.hid hrow; clear hrow
   have hkf := HTR.out _ kk
   have hwx : w.heap.size + 1 ≠ x := by have := heap_lt HC.out.heap; omega
   clear hfold hset hsto
   go_wp2
   refine bodyPost_ret (v := .agg KV.toArray) (results_cell_row rfl _ _ (w.heap.size + 1) 146 _ (0, 0) _ (by rfl) HROW.out Tryd.underlying146 rfl HZ2.out) rfl ⟨hs, v', HHL.out, by rw [HKV.out], ?_, ?_, HFR2.out.imp id (fun h k hk => Nat.le_trans (Nat.le_add_right _ 2) (h k hk))⟩
   · rw [← HSB.out]
     refine (HCU2.out.no kk).keeps ((Keeps.refl (fun k => k = w.heap.size + 1) _).setRow _ _ (fun _ => rfl)) (fun h => hwx h.symm) (fun b hb h => ?_)
     rcases HFR2.out with h2 | h2
     · have := own_lt HC.out.own b (h2 ▸ hb); omega
     · have := h2 b hb; omega
   · exact hkf.setRow _ _ (fun h => by omega)
end Go.Proofs.YtpniohbjgpncmaaDoor
