/- cut: the rounds of a file's pieces and of a level's pieces: conditions: none. -/
import Derived.Test.YtpniohbjgpncmaaDoorVG
import Derived.Outline
namespace Go.Proofs.YtpniohbjgpncmaaDoor
open Go.RowKit
attribute [local go_sem] Oper.semAt_some

def findRegion (n : Nat) : Code → Option Code
  | .region m ops b => if m = n then some (.region m ops b) else none
  | .loop c => findRegion n c
  | .seq a b => match findRegion n a with
    | some c => some c
    | none => findRegion n b
  | .block _ c => findRegion n c
  | .scope c => findRegion n c
  | .cond _ a b => match findRegion n a with
    | some c => some c
    | none => findRegion n b
  | .rangeFunc _ _ a b => match findRegion n a with
    | some c => some c
    | none => findRegion n b
  | _ => none
noncomputable def file4 : Code := ((Tryd.f121.body.bind (findRegion 4)).getD .skip)
noncomputable def file9 : Code := ((Tryd.f121.body.bind (findRegion 9)).getD .skip)
theorem LvT.not_lt {x C : Nat} {v lv : Value} {W : World} {outs : List ByteArray} {kn : Nat} {K : List Value} (h : Lv W x v outs C lv kn K) {i : Nat} (hi : W.heap.size ≤ i) : ¬ LvT x v C lv i := by
  rintro (e | e | e | e)
  · have := heap_lt h.cu.heap; omega
  · have := own_lt h.cu.own i e; omega
  · have := heap_lt h.cell; omega
  · have := own_lt h.row i e; omega

set_option maxRecDepth 20000 in
set_option maxHeartbeats 1600000 in
theorem file4_wp (x B2 C : Nat) (ap : Option Addr) (m cp : Nat) (bs : List UInt8) (t : ByteArray) (v : Value) (outs : List ByteArray) (lv : Value) (kn : Nat) (K : List Value) (s : ByteArray) (H S : Nat) (l : Nat) (Q : Exit → Act → World → Prop) (W : World) (hq : ¬ LetsOut Q)
    (s0 s1 s3 s4 s7 s8 s9 s10 s11 s12 s13 s14 s15 s16 s17 s18 s19 s20 s21 s22 s23 s24 s25 s26 s27 s28 s29 s30 s31 s32 s33 s34 s35 s36 s37 : Value)
    (hl : Lv W x v outs C lv kn K) (hkn : kn < 1000) (h2 : W.heap[B2]? = some (.cells #[.pointer (some ⟨x, 0, none⟩)] 142)) (hB2 : ¬ LvT x v C lv B2)
    (ht : t = ⟨bs.toArray⟩) (hp : Rd W 1 (.slice ap m cp) m (bytesV bs)) (hm : bs.length = m) (hpb : ∀ b, (Value.slice ap m cp).ownBlock = some b → ¬ LvT x v C lv b)
    (hcall : ∀ W', Keeps No W W' → Calls Tryd.prog 122 #[.pointer (some ⟨x, 0, none⟩), chunkV 1 t (.slice none 0 0)] W' (CuPost W' x v outs s H S))
    (hQ : ∀ a' w', LvPost W x v outs C lv kn K s H S w' → Q .normal a' w') (hqp : ∀ c a a' w, Q (.panic c) a w → Q (.panic c) a' w) :
    file4.wpIn (Fence.wide.inRound l) 1 Tryd.prog Q { tmps := #[s0, s1, .pointer (some ⟨B2, 0, none⟩), s3, s4, .pointer (some ⟨C, 0, none⟩), .slice ap m cp, s7, s8, s9, s10, s11, s12, s13, s14, s15, s16, s17, s18, s19, s20, s21, s22, s23, s24, s25, s26, s27, s28, s29, s30, s31, s32, s33, s34, s35, s36, s37], defers := [] } W := by
  conv => arg 4; whnf
  have hL := Lib.hid hl
  have hnC : ¬ (C = x ∨ v.ownBlock = some C) := by rintro (e | e); exact hl.xC e.symm; exact hl.vC e
  have hnl : ∀ b, lv.ownBlock = some b → ¬ (b = x ∨ v.ownBlock = some b) := fun b hb => by rintro (e | e); exact hl.lx (e ▸ hb); exact hl.lv b hb e
  have e5 := cell_of_heap hl.cell 0
  have e2 := cell_of_heap h2 0
  simp at e2 e5
  clear hl h2
  obtain ⟨ie, z, hie, hz0, hz1, hz2, hz3⟩ := info_parts146
  have hS0 : Keeps (LvT x v C lv) W W.drew := (Keeps.refl _ W).drew
  have e5d := hS0
  have e5D : W.drew.cell? ⟨C, 0, none⟩ = some lv := e5
  refine region_inRound (Keeps (LvT x v C lv) W) (by kernel_rfl) hq (by kernel_rfl) ?_
  have HT := Lib.hid ht; clear ht
  refine wpAnyH_take (i := 2) (v := .slice ap m cp) rfl (by kernel_rfl) (by kernel_rfl) (by kernel_rfl) (fun c _ _ h => hqp c _ _ _ h) (Or.inl ⟨by rfl, fun w' hw => by go_simp⟩) hS0 ?_
  simp only [Act.put, List.setIfInBounds_toArray, List.set_cons_zero, List.set_cons_succ]
  refine wpAnyH_take (i := 3) (v := .string t) rfl (by kernel_rfl) (by kernel_rfl) (by kernel_rfl) (fun c _ _ h => hqp c _ _ _ h) (Or.inl ⟨by rfl, fun w' hw => by (have hcv : (convert 27 9 (.slice ap m cp)).run Tryd.prog w' = .ok (.string t) w' := (by rw [HT.out]; have := run_text (W := w') ((show Rd W 1 (.slice ap bs.length cp) bs.length (bytesV bs) from by rw [hm]; exact hp).keeps hw (by rw [hm]; exact hpb)) 27 5 9 Tryd.underlying27 Tryd.underlying5 Tryd.underlying9; rw [hm] at this; exact this); go_simp)⟩) hS0 ?_
  simp only [Act.put, List.setIfInBounds_toArray, List.set_cons_zero, List.set_cons_succ]
  refine wpAnyH_take (i := 1) (v := .pointer (some ⟨x, 0, none⟩)) rfl (by kernel_rfl) (by kernel_rfl) (by kernel_rfl) (fun c _ _ h => hqp c _ _ _ h) (Or.inl ⟨by rfl, fun w' hw => by (have c2 := hw.cell e2 hB2; go_simp)⟩) hS0 ?_
  simp only [Act.put, List.setIfInBounds_toArray, List.set_cons_zero, List.set_cons_succ]
  refine wpAnyH_take (i := 4) (v := chunkV 1 t (.slice none 0 0)) rfl (by kernel_rfl) (by kernel_rfl) (by kernel_rfl) (fun c _ _ h => hqp c _ _ _ h) (Or.inl ⟨by rfl, fun w' hw => by (unfold chunkV; go_simp)⟩) hS0 ?_
  simp only [Act.put, List.setIfInBounds_toArray, List.set_cons_zero, List.set_cons_succ]
  refine wpAnyH_ready (rs := [0, 5]) (by kernel_rfl) (by simp) ?_
  refine AllReadyH.cons rfl (fun K' hK => ?_) (AllReadyH.cons rfl (fun K' hK => ?_) AllReadyH.nil)
  ·
    go_simp
    refine hK.out _ _ hS0 (fun _ => ?_)
    clear hK
    refine wpAnyH_ready (rs := [5]) (by kernel_rfl) (by simp) ?_
    refine AllReadyH.cons rfl (fun K' hK => ?_) AllReadyH.nil
    go_simp
    refine (hcall _ ((Keeps.refl No W).drew)).mono ?_
    rintro e w1 ⟨h, v', hh, rfl, hcu1, hk1, hf1⟩
    have hk1W : Keeps (fun k => k = x ∨ v.ownBlock = some k) W w1 := ((Keeps.refl No W).drew).trans hk1 (fun _ _ h => h.elim) (fun _ _ h => h)
    have hs1 : Keeps (LvT x v C lv) W w1 := lv_t1 hk1W
    have e51 := hk1W.cell e5 hnC
    obtain ⟨X, hX⟩ : ∃ X, X = kidV (leafK h H S) := ⟨_, rfl⟩
    rw [← hX]
    have hx1 : X.length = 36 := by rw [hX]; exact kidV_length _ hh
    have hx2 : ∀ u ∈ X, u.oneCell' = true := by rw [hX]; exact kidV_one _
    have hXX := Lib.hid hX; clear hX
    have hka : Keeps No w1 (w1.alloc (.cells X.toArray 146)) := keeps_alloc _ _
    have hsA : Keeps (LvT x v C lv) W (w1.alloc (.cells X.toArray 146)) := hs1.alloc _
    have e5A := hka.cell e51 (fun h => h)
    have hown := Lib.hid (Own.keeps (Own.keeps hL.out.row hk1W hnl) hka (fun _ _ h => h))
    have hsrc : Src Tryd.prog 36 100 (.slice (some ⟨w1.heap.size, 0, none⟩) 1 1) 1 X (w1.alloc (.cells X.toArray 146)) :=
      Rd.src Tryd.underlying100 (rd_block (heap_alloc_new w1 _) 36 1 1 X (by rw [hx1]) (Nat.le_refl _) (fun j u hj => by simpa using hj)) hx2
    have HS := Lib.hid hsrc; clear hsrc
    refine hK.out _ _ hs1 (fun _ => ?_)
    clear hK
    refine wpAnyH_ready (rs := [6]) (by kernel_rfl) (by simp) ?_
    refine AllReadyH.cons rfl (fun K' hK => ?_) AllReadyH.nil
    refine step_build1 rfl 100 146 _ rfl X (by rfl) ie z Tryd.underlying100 hie hz0 (by rw [hz1, hx1]) (by omega) (by omega) ?_
    simp only [Act.put, List.setIfInBounds_toArray, List.set_cons_zero, List.set_cons_succ]
    refine hK.out _ _ hsA (fun _ => ?_)
    clear hK
    refine wpAnyH_ready (rs := [7]) (by kernel_rfl) (by simp) ?_
    refine AllReadyH.cons rfl (fun K' hK => ?_) AllReadyH.nil
    refine step_append_any (by rfl) _ _ _ _ (by rfl) 146 ie z 36 56 Tryd.underlying100 hie hz0 hz1 hz2 hz3 (by decide) lv kn K (by rfl) hown.out _ 1 X (by rfl) HS.out (by unfold maxLen; omega) (by omega) ?_
    intro a2 c2 w3 ho3 hk3 _ hat
    have hC3 := hk3.heap (hka.heap (hk1W.heap hL.out.cell hnC) (fun h => h)) hL.out.lC
    have ec3 := cell_of_heap hC3 0
    have ef3 := frozen_of_heap hC3 0
    simp at ec3
    have hs3 : Keeps (LvT x v C lv) W w3 := hsA.trans hk3 (fun _ _ h => h) (fun _ _ h => .inr (.inr (.inr h)))
    have hs4 : Keeps (LvT x v C lv) W (w3.setCell ⟨C, 0, none⟩ (.slice a2 (kn + 1) c2)) := hs3.trans ((Keeps.refl (fun k => k = C) _).setCell _ _ (fun _ => rfl)) (fun _ _ h => h) (fun _ _ h => .inr (.inr (.inl h)))
    have hend := lv_close (s := s) (H := H) (S := S) (h := h) hL.out hh hcu1 hk1W hf1 hk3 (by rw [← hXX.out]; exact ho3) (by simpa using hat)
    simp only [Act.put, List.setIfInBounds_toArray, List.set_cons_zero, List.set_cons_succ]
    refine hK.out _ _ hs3 (fun _ => ?_)
    clear hK
    refine wpAnyH_ready (rs := [8]) (by kernel_rfl) (by simp) ?_
    refine AllReadyH.cons rfl (fun K' hK => ?_) AllReadyH.nil
    go_simp
    refine hK.out _ _ hs4 (fun _ => ?_)
    refine wpAnyH_done (by kernel_rfl) ?_ _
    exact hQ _ _ hend
  ·
    go_simp
    refine (hcall _ ((Keeps.refl No W).drew)).mono ?_
    rintro e w1 ⟨h, v', hh, rfl, hcu1, hk1, hf1⟩
    have hk1W : Keeps (fun k => k = x ∨ v.ownBlock = some k) W w1 := ((Keeps.refl No W).drew).trans hk1 (fun _ _ h => h.elim) (fun _ _ h => h)
    have hs1 : Keeps (LvT x v C lv) W w1 := lv_t1 hk1W
    have e51 := hk1W.cell e5 hnC
    obtain ⟨X, hX⟩ : ∃ X, X = kidV (leafK h H S) := ⟨_, rfl⟩
    rw [← hX]
    have hx1 : X.length = 36 := by rw [hX]; exact kidV_length _ hh
    have hx2 : ∀ u ∈ X, u.oneCell' = true := by rw [hX]; exact kidV_one _
    have hXX := Lib.hid hX; clear hX
    have hka : Keeps No w1 (w1.alloc (.cells X.toArray 146)) := keeps_alloc _ _
    have hsA : Keeps (LvT x v C lv) W (w1.alloc (.cells X.toArray 146)) := hs1.alloc _
    have e5A := hka.cell e51 (fun h => h)
    have hown := Lib.hid (Own.keeps (Own.keeps hL.out.row hk1W hnl) hka (fun _ _ h => h))
    have hsrc : Src Tryd.prog 36 100 (.slice (some ⟨w1.heap.size, 0, none⟩) 1 1) 1 X (w1.alloc (.cells X.toArray 146)) :=
      Rd.src Tryd.underlying100 (rd_block (heap_alloc_new w1 _) 36 1 1 X (by rw [hx1]) (Nat.le_refl _) (fun j u hj => by simpa using hj)) hx2
    have HS := Lib.hid hsrc; clear hsrc
    refine hK.out _ _ hs1 (fun _ => ?_)
    clear hK
    refine wpAnyH_ready (rs := [0, 6]) (by kernel_rfl) (by simp) ?_
    refine AllReadyH.cons rfl (fun K' hK => ?_) (AllReadyH.cons rfl (fun K' hK => ?_) AllReadyH.nil)
    ·
      go_simp
      refine hK.out _ _ hs1 (fun _ => ?_)
      clear hK
      refine wpAnyH_ready (rs := [6]) (by kernel_rfl) (by simp) ?_
      refine AllReadyH.cons rfl (fun K' hK => ?_) AllReadyH.nil
      refine step_build1 rfl 100 146 _ rfl X (by rfl) ie z Tryd.underlying100 hie hz0 (by rw [hz1, hx1]) (by omega) (by omega) ?_
      simp only [Act.put, List.setIfInBounds_toArray, List.set_cons_zero, List.set_cons_succ]
      refine hK.out _ _ hsA (fun _ => ?_)
      clear hK
      refine wpAnyH_ready (rs := [7]) (by kernel_rfl) (by simp) ?_
      refine AllReadyH.cons rfl (fun K' hK => ?_) AllReadyH.nil
      refine step_append_any (by rfl) _ _ _ _ (by rfl) 146 ie z 36 56 Tryd.underlying100 hie hz0 hz1 hz2 hz3 (by decide) lv kn K (by rfl) hown.out _ 1 X (by rfl) HS.out (by unfold maxLen; omega) (by omega) ?_
      intro a2 c2 w3 ho3 hk3 _ hat
      have hC3 := hk3.heap (hka.heap (hk1W.heap hL.out.cell hnC) (fun h => h)) hL.out.lC
      have ec3 := cell_of_heap hC3 0
      have ef3 := frozen_of_heap hC3 0
      simp at ec3
      have hs3 : Keeps (LvT x v C lv) W w3 := hsA.trans hk3 (fun _ _ h => h) (fun _ _ h => .inr (.inr (.inr h)))
      have hs4 : Keeps (LvT x v C lv) W (w3.setCell ⟨C, 0, none⟩ (.slice a2 (kn + 1) c2)) := hs3.trans ((Keeps.refl (fun k => k = C) _).setCell _ _ (fun _ => rfl)) (fun _ _ h => h) (fun _ _ h => .inr (.inr (.inl h)))
      have hend := lv_close (s := s) (H := H) (S := S) (h := h) hL.out hh hcu1 hk1W hf1 hk3 (by rw [← hXX.out]; exact ho3) (by simpa using hat)
      simp only [Act.put, List.setIfInBounds_toArray, List.set_cons_zero, List.set_cons_succ]
      refine hK.out _ _ hs3 (fun _ => ?_)
      clear hK
      refine wpAnyH_ready (rs := [8]) (by kernel_rfl) (by simp) ?_
      refine AllReadyH.cons rfl (fun K' hK => ?_) AllReadyH.nil
      go_simp
      refine hK.out _ _ hs4 (fun _ => ?_)
      refine wpAnyH_done (by kernel_rfl) ?_ _
      exact hQ _ _ hend
    ·
      refine step_build1 rfl 100 146 _ rfl X (by rfl) ie z Tryd.underlying100 hie hz0 (by rw [hz1, hx1]) (by omega) (by omega) ?_
      simp only [Act.put, List.setIfInBounds_toArray, List.set_cons_zero, List.set_cons_succ]
      refine hK.out _ _ hsA (fun _ => ?_)
      clear hK
      refine wpAnyH_ready (rs := [0]) (by kernel_rfl) (by simp) ?_
      refine AllReadyH.cons rfl (fun K' hK => ?_) AllReadyH.nil
      go_simp
      refine hK.out _ _ hsA (fun _ => ?_)
      clear hK
      refine wpAnyH_ready (rs := [7]) (by kernel_rfl) (by simp) ?_
      refine AllReadyH.cons rfl (fun K' hK => ?_) AllReadyH.nil
      refine step_append_any (by rfl) _ _ _ _ (by rfl) 146 ie z 36 56 Tryd.underlying100 hie hz0 hz1 hz2 hz3 (by decide) lv kn K (by rfl) hown.out _ 1 X (by rfl) HS.out (by unfold maxLen; omega) (by omega) ?_
      intro a2 c2 w3 ho3 hk3 _ hat
      have hC3 := hk3.heap (hka.heap (hk1W.heap hL.out.cell hnC) (fun h => h)) hL.out.lC
      have ec3 := cell_of_heap hC3 0
      have ef3 := frozen_of_heap hC3 0
      simp at ec3
      have hs3 : Keeps (LvT x v C lv) W w3 := hsA.trans hk3 (fun _ _ h => h) (fun _ _ h => .inr (.inr (.inr h)))
      have hs4 : Keeps (LvT x v C lv) W (w3.setCell ⟨C, 0, none⟩ (.slice a2 (kn + 1) c2)) := hs3.trans ((Keeps.refl (fun k => k = C) _).setCell _ _ (fun _ => rfl)) (fun _ _ h => h) (fun _ _ h => .inr (.inr (.inl h)))
      have hend := lv_close (s := s) (H := H) (S := S) (h := h) hL.out hh hcu1 hk1W hf1 hk3 (by rw [← hXX.out]; exact ho3) (by simpa using hat)
      simp only [Act.put, List.setIfInBounds_toArray, List.set_cons_zero, List.set_cons_succ]
      refine hK.out _ _ hs3 (fun _ => ?_)
      clear hK
      refine wpAnyH_ready (rs := [8]) (by kernel_rfl) (by simp) ?_
      refine AllReadyH.cons rfl (fun K' hK => ?_) AllReadyH.nil
      go_simp
      refine hK.out _ _ hs4 (fun _ => ?_)
      refine wpAnyH_done (by kernel_rfl) ?_ _
      exact hQ _ _ hend

set_option maxRecDepth 20000 in
set_option maxHeartbeats 1600000 in
theorem file9_wp (x B2 C : Nat) (ap : Option Addr) (m cp : Nat) (v : Value) (outs : List ByteArray) (lv : Value) (kn : Nat) (K : List Value) (s : ByteArray) (H S : Nat) (l : Nat) (Q : Exit → Act → World → Prop) (W : World) (hq : ¬ LetsOut Q)
    (s0 s1 s3 s4 s5 s6 s9 s10 s11 s12 s13 s14 s15 s16 s17 s18 s19 s20 s21 s22 s23 s24 s25 s26 s27 s28 s29 s30 s31 s32 s33 s34 s35 s36 s37 : Value)
    (hl : Lv W x v outs C lv kn K) (hkn : kn < 1000) (h2 : W.heap[B2]? = some (.cells #[.pointer (some ⟨x, 0, none⟩)] 142)) (hB2 : ¬ LvT x v C lv B2)
    (hcall : ∀ W', Keeps No W W' → Calls Tryd.prog 122 #[.pointer (some ⟨x, 0, none⟩), chunkV 2 ⟨#[]⟩ (.slice ap m cp)] W' (CuPost W' x v outs s H S))
    (hQ : ∀ a' w', LvPost W x v outs C lv kn K s H S w' → Q .normal a' w') (hqp : ∀ c a a' w, Q (.panic c) a w → Q (.panic c) a' w) :
    file9.wpIn (Fence.wide.inRound l) 1 Tryd.prog Q { tmps := #[s0, s1, .pointer (some ⟨B2, 0, none⟩), s3, s4, s5, s6, .pointer (some ⟨C, 0, none⟩), .slice ap m cp, s9, s10, s11, s12, s13, s14, s15, s16, s17, s18, s19, s20, s21, s22, s23, s24, s25, s26, s27, s28, s29, s30, s31, s32, s33, s34, s35, s36, s37], defers := [] } W := by
  conv => arg 4; whnf
  have hL := Lib.hid hl
  have hnC : ¬ (C = x ∨ v.ownBlock = some C) := by rintro (e | e); exact hl.xC e.symm; exact hl.vC e
  have hnl : ∀ b, lv.ownBlock = some b → ¬ (b = x ∨ v.ownBlock = some b) := fun b hb => by rintro (e | e); exact hl.lx (e ▸ hb); exact hl.lv b hb e
  have e5 := cell_of_heap hl.cell 0
  have e2 := cell_of_heap h2 0
  simp at e2 e5
  clear hl h2
  obtain ⟨ie, z, hie, hz0, hz1, hz2, hz3⟩ := info_parts146
  have hS0 : Keeps (LvT x v C lv) W W.drew := (Keeps.refl _ W).drew
  have e5d := hS0
  have e5D : W.drew.cell? ⟨C, 0, none⟩ = some lv := e5
  refine region_inRound (Keeps (LvT x v C lv) W) (by kernel_rfl) hq (by kernel_rfl) ?_
  refine wpAnyH_take (i := 2) (v := .slice ap m cp) rfl (by kernel_rfl) (by kernel_rfl) (by kernel_rfl) (fun c _ _ h => hqp c _ _ _ h) (Or.inl ⟨by rfl, fun w' hw => by go_simp⟩) hS0 ?_
  simp only [Act.put, List.setIfInBounds_toArray, List.set_cons_zero, List.set_cons_succ]
  refine wpAnyH_take (i := 1) (v := .pointer (some ⟨x, 0, none⟩)) rfl (by kernel_rfl) (by kernel_rfl) (by kernel_rfl) (fun c _ _ h => hqp c _ _ _ h) (Or.inl ⟨by rfl, fun w' hw => by (have c2 := hw.cell e2 hB2; go_simp)⟩) hS0 ?_
  simp only [Act.put, List.setIfInBounds_toArray, List.set_cons_zero, List.set_cons_succ]
  refine wpAnyH_take (i := 3) (v := chunkV 2 ⟨#[]⟩ (.slice ap m cp)) rfl (by kernel_rfl) (by kernel_rfl) (by kernel_rfl) (fun c _ _ h => hqp c _ _ _ h) (Or.inl ⟨by rfl, fun w' hw => by (unfold chunkV; go_simp)⟩) hS0 ?_
  simp only [Act.put, List.setIfInBounds_toArray, List.set_cons_zero, List.set_cons_succ]
  refine wpAnyH_ready (rs := [0, 4]) (by kernel_rfl) (by simp) ?_
  refine AllReadyH.cons rfl (fun K' hK => ?_) (AllReadyH.cons rfl (fun K' hK => ?_) AllReadyH.nil)
  ·
    go_simp
    refine hK.out _ _ hS0 (fun _ => ?_)
    clear hK
    refine wpAnyH_ready (rs := [4]) (by kernel_rfl) (by simp) ?_
    refine AllReadyH.cons rfl (fun K' hK => ?_) AllReadyH.nil
    go_simp
    refine (hcall _ ((Keeps.refl No W).drew)).mono ?_
    rintro e w1 ⟨h, v', hh, rfl, hcu1, hk1, hf1⟩
    have hk1W : Keeps (fun k => k = x ∨ v.ownBlock = some k) W w1 := ((Keeps.refl No W).drew).trans hk1 (fun _ _ h => h.elim) (fun _ _ h => h)
    have hs1 : Keeps (LvT x v C lv) W w1 := lv_t1 hk1W
    have e51 := hk1W.cell e5 hnC
    obtain ⟨X, hX⟩ : ∃ X, X = kidV (leafK h H S) := ⟨_, rfl⟩
    rw [← hX]
    have hx1 : X.length = 36 := by rw [hX]; exact kidV_length _ hh
    have hx2 : ∀ u ∈ X, u.oneCell' = true := by rw [hX]; exact kidV_one _
    have hXX := Lib.hid hX; clear hX
    have hka : Keeps No w1 (w1.alloc (.cells X.toArray 146)) := keeps_alloc _ _
    have hsA : Keeps (LvT x v C lv) W (w1.alloc (.cells X.toArray 146)) := hs1.alloc _
    have e5A := hka.cell e51 (fun h => h)
    have hown := Lib.hid (Own.keeps (Own.keeps hL.out.row hk1W hnl) hka (fun _ _ h => h))
    have hsrc : Src Tryd.prog 36 100 (.slice (some ⟨w1.heap.size, 0, none⟩) 1 1) 1 X (w1.alloc (.cells X.toArray 146)) :=
      Rd.src Tryd.underlying100 (rd_block (heap_alloc_new w1 _) 36 1 1 X (by rw [hx1]) (Nat.le_refl _) (fun j u hj => by simpa using hj)) hx2
    have HS := Lib.hid hsrc; clear hsrc
    refine hK.out _ _ hs1 (fun _ => ?_)
    clear hK
    refine wpAnyH_ready (rs := [5]) (by kernel_rfl) (by simp) ?_
    refine AllReadyH.cons rfl (fun K' hK => ?_) AllReadyH.nil
    refine step_build1 rfl 100 146 _ rfl X (by rfl) ie z Tryd.underlying100 hie hz0 (by rw [hz1, hx1]) (by omega) (by omega) ?_
    simp only [Act.put, List.setIfInBounds_toArray, List.set_cons_zero, List.set_cons_succ]
    refine hK.out _ _ hsA (fun _ => ?_)
    clear hK
    refine wpAnyH_ready (rs := [6]) (by kernel_rfl) (by simp) ?_
    refine AllReadyH.cons rfl (fun K' hK => ?_) AllReadyH.nil
    refine step_append_any (by rfl) _ _ _ _ (by rfl) 146 ie z 36 56 Tryd.underlying100 hie hz0 hz1 hz2 hz3 (by decide) lv kn K (by rfl) hown.out _ 1 X (by rfl) HS.out (by unfold maxLen; omega) (by omega) ?_
    intro a2 c2 w3 ho3 hk3 _ hat
    have hC3 := hk3.heap (hka.heap (hk1W.heap hL.out.cell hnC) (fun h => h)) hL.out.lC
    have ec3 := cell_of_heap hC3 0
    have ef3 := frozen_of_heap hC3 0
    simp at ec3
    have hs3 : Keeps (LvT x v C lv) W w3 := hsA.trans hk3 (fun _ _ h => h) (fun _ _ h => .inr (.inr (.inr h)))
    have hs4 : Keeps (LvT x v C lv) W (w3.setCell ⟨C, 0, none⟩ (.slice a2 (kn + 1) c2)) := hs3.trans ((Keeps.refl (fun k => k = C) _).setCell _ _ (fun _ => rfl)) (fun _ _ h => h) (fun _ _ h => .inr (.inr (.inl h)))
    have hend := lv_close (s := s) (H := H) (S := S) (h := h) hL.out hh hcu1 hk1W hf1 hk3 (by rw [← hXX.out]; exact ho3) (by simpa using hat)
    simp only [Act.put, List.setIfInBounds_toArray, List.set_cons_zero, List.set_cons_succ]
    refine hK.out _ _ hs3 (fun _ => ?_)
    clear hK
    refine wpAnyH_ready (rs := [7]) (by kernel_rfl) (by simp) ?_
    refine AllReadyH.cons rfl (fun K' hK => ?_) AllReadyH.nil
    go_simp
    refine hK.out _ _ hs4 (fun _ => ?_)
    refine wpAnyH_done (by kernel_rfl) ?_ _
    exact hQ _ _ hend
  ·
    go_simp
    refine (hcall _ ((Keeps.refl No W).drew)).mono ?_
    rintro e w1 ⟨h, v', hh, rfl, hcu1, hk1, hf1⟩
    have hk1W : Keeps (fun k => k = x ∨ v.ownBlock = some k) W w1 := ((Keeps.refl No W).drew).trans hk1 (fun _ _ h => h.elim) (fun _ _ h => h)
    have hs1 : Keeps (LvT x v C lv) W w1 := lv_t1 hk1W
    have e51 := hk1W.cell e5 hnC
    obtain ⟨X, hX⟩ : ∃ X, X = kidV (leafK h H S) := ⟨_, rfl⟩
    rw [← hX]
    have hx1 : X.length = 36 := by rw [hX]; exact kidV_length _ hh
    have hx2 : ∀ u ∈ X, u.oneCell' = true := by rw [hX]; exact kidV_one _
    have hXX := Lib.hid hX; clear hX
    have hka : Keeps No w1 (w1.alloc (.cells X.toArray 146)) := keeps_alloc _ _
    have hsA : Keeps (LvT x v C lv) W (w1.alloc (.cells X.toArray 146)) := hs1.alloc _
    have e5A := hka.cell e51 (fun h => h)
    have hown := Lib.hid (Own.keeps (Own.keeps hL.out.row hk1W hnl) hka (fun _ _ h => h))
    have hsrc : Src Tryd.prog 36 100 (.slice (some ⟨w1.heap.size, 0, none⟩) 1 1) 1 X (w1.alloc (.cells X.toArray 146)) :=
      Rd.src Tryd.underlying100 (rd_block (heap_alloc_new w1 _) 36 1 1 X (by rw [hx1]) (Nat.le_refl _) (fun j u hj => by simpa using hj)) hx2
    have HS := Lib.hid hsrc; clear hsrc
    refine hK.out _ _ hs1 (fun _ => ?_)
    clear hK
    refine wpAnyH_ready (rs := [0, 5]) (by kernel_rfl) (by simp) ?_
    refine AllReadyH.cons rfl (fun K' hK => ?_) (AllReadyH.cons rfl (fun K' hK => ?_) AllReadyH.nil)
    ·
      go_simp
      refine hK.out _ _ hs1 (fun _ => ?_)
      clear hK
      refine wpAnyH_ready (rs := [5]) (by kernel_rfl) (by simp) ?_
      refine AllReadyH.cons rfl (fun K' hK => ?_) AllReadyH.nil
      refine step_build1 rfl 100 146 _ rfl X (by rfl) ie z Tryd.underlying100 hie hz0 (by rw [hz1, hx1]) (by omega) (by omega) ?_
      simp only [Act.put, List.setIfInBounds_toArray, List.set_cons_zero, List.set_cons_succ]
      refine hK.out _ _ hsA (fun _ => ?_)
      clear hK
      refine wpAnyH_ready (rs := [6]) (by kernel_rfl) (by simp) ?_
      refine AllReadyH.cons rfl (fun K' hK => ?_) AllReadyH.nil
      refine step_append_any (by rfl) _ _ _ _ (by rfl) 146 ie z 36 56 Tryd.underlying100 hie hz0 hz1 hz2 hz3 (by decide) lv kn K (by rfl) hown.out _ 1 X (by rfl) HS.out (by unfold maxLen; omega) (by omega) ?_
      intro a2 c2 w3 ho3 hk3 _ hat
      have hC3 := hk3.heap (hka.heap (hk1W.heap hL.out.cell hnC) (fun h => h)) hL.out.lC
      have ec3 := cell_of_heap hC3 0
      have ef3 := frozen_of_heap hC3 0
      simp at ec3
      have hs3 : Keeps (LvT x v C lv) W w3 := hsA.trans hk3 (fun _ _ h => h) (fun _ _ h => .inr (.inr (.inr h)))
      have hs4 : Keeps (LvT x v C lv) W (w3.setCell ⟨C, 0, none⟩ (.slice a2 (kn + 1) c2)) := hs3.trans ((Keeps.refl (fun k => k = C) _).setCell _ _ (fun _ => rfl)) (fun _ _ h => h) (fun _ _ h => .inr (.inr (.inl h)))
      have hend := lv_close (s := s) (H := H) (S := S) (h := h) hL.out hh hcu1 hk1W hf1 hk3 (by rw [← hXX.out]; exact ho3) (by simpa using hat)
      simp only [Act.put, List.setIfInBounds_toArray, List.set_cons_zero, List.set_cons_succ]
      refine hK.out _ _ hs3 (fun _ => ?_)
      clear hK
      refine wpAnyH_ready (rs := [7]) (by kernel_rfl) (by simp) ?_
      refine AllReadyH.cons rfl (fun K' hK => ?_) AllReadyH.nil
      go_simp
      refine hK.out _ _ hs4 (fun _ => ?_)
      refine wpAnyH_done (by kernel_rfl) ?_ _
      exact hQ _ _ hend
    ·
      refine step_build1 rfl 100 146 _ rfl X (by rfl) ie z Tryd.underlying100 hie hz0 (by rw [hz1, hx1]) (by omega) (by omega) ?_
      simp only [Act.put, List.setIfInBounds_toArray, List.set_cons_zero, List.set_cons_succ]
      refine hK.out _ _ hsA (fun _ => ?_)
      clear hK
      refine wpAnyH_ready (rs := [0]) (by kernel_rfl) (by simp) ?_
      refine AllReadyH.cons rfl (fun K' hK => ?_) AllReadyH.nil
      go_simp
      refine hK.out _ _ hsA (fun _ => ?_)
      clear hK
      refine wpAnyH_ready (rs := [6]) (by kernel_rfl) (by simp) ?_
      refine AllReadyH.cons rfl (fun K' hK => ?_) AllReadyH.nil
      refine step_append_any (by rfl) _ _ _ _ (by rfl) 146 ie z 36 56 Tryd.underlying100 hie hz0 hz1 hz2 hz3 (by decide) lv kn K (by rfl) hown.out _ 1 X (by rfl) HS.out (by unfold maxLen; omega) (by omega) ?_
      intro a2 c2 w3 ho3 hk3 _ hat
      have hC3 := hk3.heap (hka.heap (hk1W.heap hL.out.cell hnC) (fun h => h)) hL.out.lC
      have ec3 := cell_of_heap hC3 0
      have ef3 := frozen_of_heap hC3 0
      simp at ec3
      have hs3 : Keeps (LvT x v C lv) W w3 := hsA.trans hk3 (fun _ _ h => h) (fun _ _ h => .inr (.inr (.inr h)))
      have hs4 : Keeps (LvT x v C lv) W (w3.setCell ⟨C, 0, none⟩ (.slice a2 (kn + 1) c2)) := hs3.trans ((Keeps.refl (fun k => k = C) _).setCell _ _ (fun _ => rfl)) (fun _ _ h => h) (fun _ _ h => .inr (.inr (.inl h)))
      have hend := lv_close (s := s) (H := H) (S := S) (h := h) hL.out hh hcu1 hk1W hf1 hk3 (by rw [← hXX.out]; exact ho3) (by simpa using hat)
      simp only [Act.put, List.setIfInBounds_toArray, List.set_cons_zero, List.set_cons_succ]
      refine hK.out _ _ hs3 (fun _ => ?_)
      clear hK
      refine wpAnyH_ready (rs := [7]) (by kernel_rfl) (by simp) ?_
      refine AllReadyH.cons rfl (fun K' hK => ?_) AllReadyH.nil
      go_simp
      refine hK.out _ _ hs4 (fun _ => ?_)
      refine wpAnyH_done (by kernel_rfl) ?_ _
      exact hQ _ _ hend

end Go.Proofs.YtpniohbjgpncmaaDoor
