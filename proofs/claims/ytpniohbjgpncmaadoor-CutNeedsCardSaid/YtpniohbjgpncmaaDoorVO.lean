/- cut.Cut: what it returns: conditions: a file of 241 to 480 bytes, or a directory of two files. -/
import Derived.Test.YtpniohbjgpncmaaDoorVM
import Derived.Outline
namespace Go.Proofs.YtpniohbjgpncmaaDoor
open Go.RowKit
attribute [local go_sem] Oper.semAt_some

def dirB (ks : List KidD) : List UInt8 := putTo [3, UInt8.ofNat ks.length] encD ks ks.length
theorem cu_dir (x : Nat) (v : Value) (outs : List ByteArray) (u : Value) (ks : List KidD) (w : World) (hc : Cu w x v outs) (hk : KTab w) (hf : KFirst w) (hx : 3 < x) (hv : ∀ k, v.ownBlock = some k → 3 < k) (hu : Kids w u ks) (hub : ∀ k, u.ownBlock = some k → ¬ (k = x ∨ v.ownBlock = some k)) (hl : ∀ k ∈ ks, FileK k) (hn : ks.length ≤ 6) (hnm : Names ks) (hlen : (dirB ks).length < 1000) (hol : outs.length < 1000) :
    Calls Tryd.prog 122 #[.pointer (some ⟨x, 0, none⟩), chunkV 3 ⟨#[]⟩ u] w (CuPost w x v outs ⟨(dirB ks).toArray⟩ 1 0) := by
  have h0 : 0 < (dirB ks).length := by unfold dirB putTo; simp
  exact cuput x v outs 3 ⟨#[]⟩ u (dirB ks) 1 0 w hc (fun W k => put_dir u ks W (hu.keeps k hub) hl hn hnm) (fun W k => height_node 3 (.inr rfl) _ u ks W (hu.keeps k hub) (fun k hk => (hl k hk).leaf) hn)
    (fun W k => size_dir _ u W) hk hf hx hv h0 (by omega) (by omega) (by omega) hol
def DirPost (w : World) (x : Nat) (v : Value) (outs : List ByteArray) (d0 d1 : ByteArray) (n : Nat) (e : Ending) (w' : World) : Prop := ∃ (k : KidD) (v' : Value) (t3 : ByteArray), k.hash.length = 32 ∧ e = .returned (.agg (kidV k).toArray) ∧ t3.size = n ∧
  Cu w' x v' (outs ++ [⟨(1 :: bl d0).toArray⟩, ⟨(1 :: bl d1).toArray⟩, t3]) ∧ Keeps (fun k => k = x ∨ v.ownBlock = some k) w w' ∧ Fresh w v v'
theorem Dv.keepsNo {W W' : World} {x : Nat} {v : Value} {outs : List ByteArray} {C : Nat} {lv : Value} {kn : Nat} {K : List Value} (h : Dv W x v outs C lv kn K) (k : Keeps No W W') : Dv W' x v outs C lv kn K :=
  ⟨h.cu.no k, k.heap h.cell (fun h => h), Own.keeps h.row k (fun _ _ h => h), h.lx, h.lC, h.lv, h.vC, h.xC⟩
set_option maxRecDepth 20000 in
set_option maxHeartbeats 1600000 in
theorem node_dir (x kb : Nat) (v : Value) (outs : List ByteArray) (n0 d0 n1 d1 : ByteArray) (w : World) (hc : Cu w x v outs) (hkb : w.heap[kb]? = some (.cells (nodes2 n0 d0 n1 d1) 67)) (hk : KTab w) (hf : KFirst w) (hx : 3 < x) (hv : ∀ k, v.ownBlock = some k → 3 < k) (hd0 : d0.size ≤ 240) (hd1 : d1.size ≤ 240) (hol : outs.length < 600) (hkx : kb ≠ x) (hkv : v.ownBlock ≠ some kb) (hz0 : n0.toList.isEmpty = false ∧ n0.size ≤ 16) (hz1 : n1.toList.isEmpty = false ∧ n1.size ≤ 16) (hlt : Op.bytesLess n0.toList n1.toList = true) :
    Calls Tryd.prog 75 #[.pointer (some ⟨x, 0, none⟩), .agg #[.bool true, .string ⟨#[]⟩, .slice (some ⟨kb, 0, none⟩) 2 2]] w (DirPost w x v outs d0 d1 (80 + n0.size + n1.size)) := by
  have HZ0 := Lib.hid hz0; clear hz0
  have HZ1 := Lib.hid hz1; clear hz1
  have HLT := Lib.hid hlt; clear hlt
  have HC := Lib.hid hc; clear hc
  have HK := Lib.hid hk; clear hk
  have HF := Lib.hid hf; clear hf
  have HV := Lib.hid hv; clear hv
  have HKB := Lib.hid hkb; clear hkb
  go_enter Tryd.func75, Tryd.ntmps75
  generalize hB : Code.block 1 _ = B
  have HB := Lib.hid hB; clear hB
  go_wp2
  refine wp_loop_rounds 3 ?_
  rw [rounds_succ]
  go_wp2
  obtain ⟨W0, hW0⟩ : ∃ W0, W0 = ((w.alloc (.cells #[.bool true, .string ⟨#[]⟩, .slice (some ⟨kb, 0, none⟩) 2 2] 65)).alloc (.cells zero36 146)).alloc (.cells #[.int .u8 3, .string ⟨#[]⟩, .slice none 0 0] 102) := ⟨_, rfl⟩
  unfold zero36 at hW0
  rw [← hW0]
  have hxl := heap_lt HC.out.heap
  have hvl : ∀ k, v.ownBlock = some k → k < w.heap.size := fun k hk => own_lt HC.out.own k hk
  have hk0 : Keeps No w W0 := by rw [hW0]; exact (keeps_alloc2 _ _ _).alloc _
  have hs0 : W0.heap.size = w.heap.size + 3 := by rw [hW0]; simp
  have hres : W0.heap[w.heap.size + 1]? = some (.cells zero36 146) := by rw [hW0]; exact heap_again (heap_next _ (by simp))
  have hchk : W0.heap[w.heap.size + 1 + 1]? = some (.cells #[.int .u8 3, .string ⟨#[]⟩, .slice none 0 0] 102) := by rw [hW0]; exact heap_next _ (by simp)
  have hdv : Dv W0 x v outs (w.heap.size + 1 + 1) (.slice none 0 0) 0 [] := ⟨HC.out.no hk0, hchk, World.ownsRow_nil _ _ _ _, by simp [Value.ownBlock], by simp [Value.ownBlock], by simp [Value.ownBlock], fun e => by have := hvl _ e; omega, by omega⟩
  have HW0 := Lib.hid hW0; clear hW0
  have hn1 : ∀ i, i < w.heap.size + 3 → i ≠ w.heap.size + 1 + 1 → i ≠ x → v.ownBlock ≠ some i → ¬ LvT x v (w.heap.size + 1 + 1) (.slice none 0 0) i := fun i h1 h2 h3 h4 => by
    rintro (h | h | h | h)
    · exact h3 h
    · exact h4 h
    · exact h2 h
    · simp [Value.ownBlock] at h
  have hlow : ∀ i, i ≤ 3 → i ≠ x ∧ v.ownBlock ≠ some i ∧ i ≠ w.heap.size + 1 + 1 := fun i hi => ⟨by omega, fun h => by have := HV.out i h; omega, by omega⟩
  have HHK := Lib.hid hk0; clear hk0
  have HRES := Lib.hid hres; clear hres
  have HDV := Lib.hid hdv; clear hdv hchk
  have hkb0 := heap_lt HKB.out
  rw [← HB.out]
  refine node_round0 x (w.heap.size + 1 + 1) kb v (.slice none 0 0) outs 0 [] n0 d0 n1 d1 W0 _ _ _ _ _ _ _ _ _ _ _ _ _ _ _ _ _ _ _ _ _ _ _ _ _ _ _ _ _ _ _ _ _ _ _ _ _ _ _ _ _ _ _ _ _ _ _ _ HDV.out (HHK.out.heap HKB.out (fun h => h)) (HK.out.keeps HHK.out (fun h => h)) (HF.out.keeps HHK.out (fun h => h)) hx HV.out hd0 (by omega) (by omega) ?_
  intro r7 r8 r22 r23 r24 r25 r26 r27 r28 r29 r30 r31 r32 r33 r34 r35 r36 r37 r38 r39 r40 r41 r42 r43 r44 r45 r46 W1 hp1
  obtain ⟨h0, v1, lv1, hh0, hdv1, hk1, f1, g1⟩ := hp1
  have HDV1 := Lib.hid hdv1; clear hdv1
  have HK1 := Lib.hid hk1; clear hk1
  have F1 := Lib.hid f1; clear f1
  have G1 := Lib.hid g1; clear g1
  go_wp2
  rw [rounds_succ]
  go_wp2
  have hv1 : ∀ i, i < w.heap.size + 3 → v1.ownBlock = some i → v.ownBlock = some i := fun i hi h => by
    rcases F1.out with g | g
    · rw [← g]; exact h
    · have := g i h; omega
  have hl1 : ∀ i, lv1.ownBlock = some i → w.heap.size + 3 ≤ i := fun i h => by
    rcases G1.out with g | g
    · rw [g] at h; simp [Value.ownBlock] at h
    · have := g i h; omega
  have hn2 : ∀ i, i < w.heap.size + 3 → i ≠ w.heap.size + 1 + 1 → i ≠ x → v.ownBlock ≠ some i → ¬ LvT x v1 (w.heap.size + 1 + 1) lv1 i := fun i h1 h2 h3 h4 => by
    rintro (h | h | h | h)
    · exact h3 h
    · exact h4 (hv1 i h1 h)
    · exact h2 h
    · have := hl1 i h; omega
  have hkbW1 := HK1.out.heap (HHK.out.heap HKB.out (fun h => h)) (hn1 kb (by omega) (by omega) hkx hkv)
  have hkW1 := (HK.out.keeps HHK.out (fun h => h)).keeps HK1.out (hn1 3 (by omega) (hlow 3 (by omega)).2.2 (hlow 3 (by omega)).1 (hlow 3 (by omega)).2.1)
  have hfW1 := (HF.out.keeps HHK.out (fun h => h)).keeps HK1.out (hn1 2 (by omega) (hlow 2 (by omega)).2.2 (hlow 2 (by omega)).1 (hlow 2 (by omega)).2.1)
  have hv31 : ∀ k, v1.ownBlock = some k → 3 < k := fun k hk => by
    by_cases h : k < w.heap.size + 3
    · exact HV.out k (hv1 k h hk)
    · omega
  have HKW1 := Lib.hid hkW1; clear hkW1
  have HFW1 := Lib.hid hfW1; clear hfW1
  have HKB1 := Lib.hid hkbW1; clear hkbW1
  have HV31 := Lib.hid hv31; clear hv31
  rw [← HB.out]
  refine node_round1 x (w.heap.size + 1 + 1) kb v1 lv1 (outs ++ [⟨(1 :: bl d0).toArray⟩]) (0 + 1) _ n0 d0 n1 d1 W1 _ _ _ _ _ _ _ _ _ _ _ _ _ _ _ _ _ _ _ _ _ _ _ _ _ _ _ _ _ _ _ _ _ _ _ _ _ _ _ _ _ _ _ _ _ _ _ _ HDV1.out HKB1.out HKW1.out HFW1.out hx HV31.out hd1 (by simp; omega) (by omega) ?_
  clear r7 r8 r22 r23 r24 r25 r26 r27 r28 r29 r30 r31 r32 r33 r34 r35 r36 r37 r38 r39 r40 r41 r42 r43 r44 r45 r46
  intro r7 r8 r22 r23 r24 r25 r26 r27 r28 r29 r30 r31 r32 r33 r34 r35 r36 r37 r38 r39 r40 r41 r42 r43 r44 r45 r46 W2 hp2
  obtain ⟨h1, v2, lv2, hh1, hdv2, hk2, f2, g2⟩ := hp2
  have hcell2 := hdv2.cell
  have c0 := cell_of_heap hcell2 0
  have c1 := cell_of_heap hcell2 1
  have c2 := cell_of_heap hcell2 2
  simp at c0 c1 c2
  clear hcell2
  have HDV2 := Lib.hid hdv2; clear hdv2
  have HK2 := Lib.hid hk2; clear hk2
  have F2 := Lib.hid f2; clear f2
  have G2 := Lib.hid g2; clear g2
  go_wp2
  rw [rounds_succ]
  obtain ⟨ks, hks⟩ : ∃ ks : List KidD, ks = [⟨n0, false, h0, 0, d0.size⟩, ⟨n1, false, h1, 0, d1.size⟩] := ⟨_, rfl⟩
  have hkl : ks.length = 2 := by rw [hks]; rfl
  have hkids : Kids W2 lv2 ks := by
    have h := Own.rd HDV2.out.row
    unfold Kids
    rw [hks]
    simpa using h
  have hfk : ∀ k ∈ ks, FileK k := by
    rw [hks]
    intro k hk
    simp at hk
    rcases hk with rfl | rfl
    · exact ⟨⟨hh0, rfl, by show d0.size < 1000000; omega⟩, rfl, HZ0.out.2⟩
    · exact ⟨⟨hh1, rfl, by show d1.size < 1000000; omega⟩, rfl, HZ1.out.2⟩
  have hnm : Names ks := by
    subst hks
    intro i hi
    match i, hi with
    | 0, _ => exact ⟨HZ0.out, fun j hj => by omega⟩
    | 1, _ => exact ⟨HZ1.out, fun j hj => by
        have : j = 0 := by omega
        subst this
        exact HLT.out⟩
  have hdl : (dirB ks).length = 80 + n0.size + n1.size := by
    unfold dirB putTo
    rw [hks]
    simp [encD_length, hh0, hh1]
    omega
  have hz0 := HZ0.out.2
  have hz1 := HZ1.out.2
  have hub : ∀ k, lv2.ownBlock = some k → ¬ (k = x ∨ v2.ownBlock = some k) := fun k hk => by
    rintro (h | h)
    · exact HDV2.out.lx (h ▸ hk)
    · exact HDV2.out.lv k hk h
  have hv2 : ∀ i, i < w.heap.size + 3 → v2.ownBlock = some i → v.ownBlock = some i := fun i hi h => by
    rcases F2.out with g | g
    · exact hv1 i hi (g ▸ h)
    · have := g i h; have := HK1.out.size; omega
  have hv32 : ∀ k, v2.ownBlock = some k → 3 < k := fun k hk => by
    by_cases h : k < w.heap.size + 3
    · exact HV.out k (hv2 k h hk)
    · omega
  have hkW2 := HKW1.out.keeps HK2.out (hn2 3 (by omega) (hlow 3 (by omega)).2.2 (hlow 3 (by omega)).1 (hlow 3 (by omega)).2.1)
  have hfW2 := HFW1.out.keeps HK2.out (hn2 2 (by omega) (hlow 2 (by omega)).2.2 (hlow 2 (by omega)).1 (hlow 2 (by omega)).2.1)
  have hcd := fun hol => cu_dir x v2 _ lv2 ks W2 HDV2.out.cu hkW2 hfW2 hx hv32 hkids hub hfk (by omega) hnm (by omega) hol
  have hcd := hcd (by simp; omega)
  have hne1 : ¬ (w.heap.size + 1 = x ∨ v2.ownBlock = some (w.heap.size + 1)) := by
    rintro (h | h)
    · omega
    · have := hvl _ (hv2 _ (by omega) h); omega
  have hres2 := HK2.out.heap (HK1.out.heap HRES.out (hn1 _ (by omega) (by omega) (by omega) (fun h => by have := hvl _ h; omega))) (hn2 _ (by omega) (by omega) (by omega) (fun h => by have := hvl _ h; omega))
  have HCD := Lib.hid hcd; clear hcd
  have HRES2 := Lib.hid hres2; clear hres2
  have HDL := Lib.hid hdl; clear hdl
  have HN1 := Lib.hid hne1; clear hne1
  clear hkW2 hfW2 hkids hfk hnm hub hz0 hz1 hks hkl
  go_wp2_with (first | (go_at_call 122; refine HCD.out.mono ?_; rintro e w5 ⟨hh, v5, hhl, rfl, hcu5, hk5, hf5⟩; obtain ⟨X, hX⟩ : ∃ X, X = kidV (leafK hh 1 0) := ⟨_, rfl⟩; have hx1 : X.length = 36 := (by rw [hX]; exact kidV_length _ hhl); have hx2 : ∀ u ∈ X, u.oneCell' = true := (by rw [hX]; exact kidV_one _); rw [← hX]; have HX := Lib.hid hX; clear hX; have hres5 := hk5.heap HRES2.out HN1.out; have HK5 := Lib.hid hk5; clear hk5; have HCU5 := Lib.hid hcu5; clear hcu5; have HF5 := Lib.hid hf5; clear hf5) | (refine wpList_store_row rfl 146 _ _ rfl (w.heap.size + 1) X.toArray (by rfl) (by rfl) 146 _ hres5 (by simp only [List.size_toArray]; rw [hx1]; exact Tryd.size146) (by simp only [List.size_toArray]; rw [hx1]; rfl) (all_oneCell_toArray hx2) ?_))
  have hz : (Tryd.prog.info? 146).map (·.size) = some X.toArray.size := by simp [hx1, Tryd.size146]
  have hkr : Keeps (fun k => k = w.heap.size + 1) w5 (w5.setRow (w.heap.size + 1) X.toArray) := (Keeps.refl _ _).setRow _ _ (fun _ => rfl)
  have hv5 : ∀ i, i < w.heap.size + 3 → v5.ownBlock = some i → v.ownBlock = some i := fun i hi h => by
    rcases HF5.out with g | g
    · exact hv2 i hi (g ▸ h)
    · have := g i h; have := HK1.out.size; have := HK2.out.size; omega
  refine bodyPost_ret (v := .agg X.toArray) (results_cell_row rfl _ _ (w.heap.size + 1) 146 _ (0, 0) _ (by rfl) (setRow_heap _ _ _ X.toArray _ _ hres5) Tryd.underlying146 rfl hz) rfl ⟨leafK hh 1 0, v5, ⟨(dirB ks).toArray⟩, hhl, by rw [HX.out], ?_, ?_, ?_, ?_⟩
  · show (dirB ks).toArray.size = _
    rw [List.size_toArray]; exact HDL.out
  · have hcu := HCU5.out
    rw [List.append_assoc, List.append_assoc] at hcu
    refine hcu.keeps hkr (fun h => by omega) (fun b hb h => ?_)
    have := hvl _ (hv5 b (by omega) hb); omega
  · have e1 : Keeps (fun k => k = x ∨ v.ownBlock = some k ∨ w.heap.size ≤ k) w W1 := HHK.out.trans HK1.out (fun _ _ h => h.elim) (fun i _ h => by
      rcases h with h | h | h | h
      · exact .inl h
      · exact .inr (.inl h)
      · exact .inr (.inr (by omega))
      · simp [Value.ownBlock] at h)
    have e2 : Keeps (fun k => k = x ∨ v.ownBlock = some k ∨ w.heap.size ≤ k) w W2 := e1.trans HK2.out (fun _ _ h => h) (fun i _ h => by
      by_cases hi : i < w.heap.size + 3
      · by_cases hC : i = w.heap.size + 1 + 1
        · exact .inr (.inr (by omega))
        · by_cases hX : i = x
          · exact .inl hX
          · by_cases hV : v.ownBlock = some i
            · exact .inr (.inl hV)
            · exact absurd h (hn2 i hi hC hX hV)
      · exact .inr (.inr (by omega)))
    have e3 : Keeps (fun k => k = x ∨ v.ownBlock = some k ∨ w.heap.size ≤ k) w w5 := e2.trans HK5.out (fun _ _ h => h) (fun i _ h => by
      rcases h with h | h
      · exact .inl h
      · by_cases hi : i < w.heap.size + 3
        · exact .inr (.inl (hv2 i hi h))
        · exact .inr (.inr (by omega)))
    exact e3.trans hkr (fun i hi h => by
      rcases h with h | h | h
      · exact .inl h
      · exact .inr h
      · omega) (fun i hi h => by omega)
  · have s1 := HK1.out.size
    have s2 := HK2.out.size
    exact ((F1.out.trans F2.out s1).trans HF5.out (by omega)).imp id (fun h k hk => by have := h k hk; omega)
end Go.Proofs.YtpniohbjgpncmaaDoor

namespace Go.Proofs.YtpniohbjgpncmaaDoor
open Go.RowKit
attribute [local go_sem] Oper.semAt_some

def CutPost (R : List ByteArray → Prop) (w : World) (e : Ending) (w' : World) : Prop := ∃ (v : Value) (T : List ByteArray), R T ∧ e = .returned v ∧ Rd w' 1 v T.length (strV T) ∧ Keeps No w w'
set_option maxRecDepth 20000 in
set_option maxHeartbeats 1600000 in
theorem cut_any (b : Bool) (s : ByteArray) (a : Option Addr) (n c : Nat) (w : World) (R : List ByteArray → Prop)
    (hcall : ∀ W x, Keeps No w W → w.heap.size < x → Cu W x (.slice none 0 0) [] → Calls Tryd.prog 75 #[.pointer (some ⟨x, 0, none⟩), .agg #[.bool b, .string s, .slice a n c]] W fun e w' => ∃ r v' T, e = .returned r ∧ R T ∧ Cu w' x v' T ∧ Keeps (fun k => k = x ∨ (Value.slice none 0 0).ownBlock = some k) W w') :
    Calls Tryd.prog 23 #[.agg #[.bool b, .string s, .slice a n c]] w (CutPost R w) := by
  have HCALL := Lib.hid hcall; clear hcall
  go_enter Tryd.func23, Tryd.ntmps23
  go_wp2_with (first | (go_at_call 75; refine (HCALL.out _ (w.heap.size + 1) (keeps_alloc2 _ _ _) (by omega) ⟨heap_next _ (by simp), World.ownsRow_nil _ _ _ _, by simp [Value.ownBlock]⟩).mono ?_; rintro e w1 ⟨r, v', T, rfl, hR, hcu, hk⟩; have e0 := cell_of_heap hcu.heap 0; have e1 := cell_of_heap hcu.heap 1; simp at e0 e1; have HCU := Lib.hid hcu; clear hcu; have HK := Lib.hid hk; clear hk))
  go_ret
  exact ⟨v', T, hR, rfl, by have := Own.rd HCU.out.own; simpa [strV] using this, (keeps_alloc2 w _ _).trans HK.out (fun _ _ h => h) (fun i hi h => by
    rcases h with h | h
    · omega
    · simp [Value.ownBlock] at h)⟩

theorem cut_two (data : ByteArray) (w : World) (hk : KTab w) (hf : KFirst w) (hd1 : 240 < data.size) (hd2 : data.size ≤ 480) :
    Calls Tryd.prog 23 #[fileN data] w (CutPost (fun T => ∃ t1 t2 t3 : ByteArray, T = [t1, t2, t3] ∧ t1.size = 241 ∧ t2.size = data.size - 240 + 1 ∧ t3.size = 76) w) := by
  have h3 : 3 < w.heap.size := by obtain ⟨_, _, _, hh⟩ := hk; exact heap_lt hh
  refine cut_any false data none 0 0 w _ fun W x k hx hcu => ?_
  refine (node_two x (.slice none 0 0) [] data W hcu (hk.keeps k (fun h => h)) (hf.keeps k (fun h => h)) (by omega) (by simp [Value.ownBlock]) hd1 hd2 (by simp)).mono ?_
  rintro e w' ⟨k, v', t1, t2, t3, hh, he, s1, s2, s3, hcu', hkw, _⟩
  exact ⟨_, v', _, he, ⟨t1, t2, t3, rfl, s1, s2, s3⟩, hcu', hkw⟩
theorem cut_dir (kb : Nat) (n0 d0 n1 d1 : ByteArray) (w : World) (hkb : w.heap[kb]? = some (.cells (nodes2 n0 d0 n1 d1) 67)) (hk : KTab w) (hf : KFirst w) (hd0 : d0.size ≤ 240) (hd1 : d1.size ≤ 240) (hz0 : n0.toList.isEmpty = false ∧ n0.size ≤ 16) (hz1 : n1.toList.isEmpty = false ∧ n1.size ≤ 16) (hlt : Op.bytesLess n0.toList n1.toList = true) :
    Calls Tryd.prog 23 #[.agg #[.bool true, .string ⟨#[]⟩, .slice (some ⟨kb, 0, none⟩) 2 2]] w (CutPost (fun T => ∃ t3 : ByteArray, T = [⟨(1 :: bl d0).toArray⟩, ⟨(1 :: bl d1).toArray⟩, t3] ∧ t3.size = 80 + n0.size + n1.size) w) := by
  have h3 : 3 < w.heap.size := by obtain ⟨_, _, _, hh⟩ := hk; exact heap_lt hh
  refine cut_any true ⟨#[]⟩ (some ⟨kb, 0, none⟩) 2 2 w _ fun W x k hx hcu => ?_
  have hkbl := heap_lt hkb
  refine (node_dir x kb (.slice none 0 0) [] n0 d0 n1 d1 W hcu (k.heap hkb (fun h => h)) (hk.keeps k (fun h => h)) (hf.keeps k (fun h => h)) (by omega) (by simp [Value.ownBlock]) hd0 hd1 (by simp) (by omega) (by simp [Value.ownBlock]) hz0 hz1 hlt).mono ?_
  rintro e w' ⟨k, v', t3, hh, he, hs, hcu', hkw, _⟩
  exact ⟨_, v', _, he, ⟨t3, rfl, hs⟩, hcu', hkw⟩
end Go.Proofs.YtpniohbjgpncmaaDoor
