/- cut: a node that is a file: conditions: none but its length. -/
import Derived.Test.YtpniohbjgpncmaaDoorVK
import Derived.Outline
namespace Go.Proofs.YtpniohbjgpncmaaDoor
open Go.RowKit
attribute [local go_sem] Oper.semAt_some

def fileN (data : ByteArray) : Value := .agg #[.bool false, .string data, .slice none 0 0]
set_option maxRecDepth 20000 in
set_option maxHeartbeats 1600000 in
theorem node_file (x : Nat) (v : Value) (data : ByteArray) (w : World) (hxl : x < w.heap.size) (R : KidD → World → Prop)
    (hcall : ∀ W, Keeps No w W → w.heap.size + 2 ≤ W.heap.size → Calls Tryd.prog 121 #[.pointer (some ⟨x, 0, none⟩), .string data] W fun e w' => ∃ k : KidD, k.hash.length = 32 ∧ e = .returned (.agg (kidV k).toArray) ∧ R k w' ∧ Keeps (fun k => k = x ∨ v.ownBlock = some k) W w') (hvl : ∀ k, v.ownBlock = some k → k < w.heap.size) :
    Calls Tryd.prog 75 #[.pointer (some ⟨x, 0, none⟩), fileN data] w fun e w' => ∃ (k : KidD) (w1 : World), k.hash.length = 32 ∧ e = .returned (.agg (kidV k).toArray) ∧ R k w1 ∧ Keeps (fun i => i = w.heap.size + 1) w1 w' ∧ Keeps (fun k => k = x ∨ v.ownBlock = some k) w w' := by
  have HCALL := Lib.hid hcall; clear hcall
  unfold fileN
  go_enter Tryd.func75, Tryd.ntmps75
  go_wp2_with (first | (go_at_call 121; refine (HCALL.out _ (keeps_alloc2 _ _ _) (by simp)).mono ?_; rintro e w1 ⟨k, hh, rfl, hR, hk1⟩; obtain ⟨X, hX⟩ : ∃ X, X = kidV k := ⟨_, rfl⟩; have hx1 : X.length = 36 := (by rw [hX]; exact kidV_length _ hh); have hx2 : ∀ u ∈ X, u.oneCell' = true := (by rw [hX]; exact kidV_one _); rw [← hX]; have HX := Lib.hid hX; clear hX; have hne : ¬ (w.heap.size + 1 = x ∨ v.ownBlock = some (w.heap.size + 1)) := (by rintro (h | h); omega; have := hvl _ h; omega); have hb1 := hk1.heap (heap_new2 w _ _) hne) | (refine wpList_store_row rfl 146 _ _ rfl (w.heap.size + 1) X.toArray (by rfl) (by rfl) 146 _ hb1 (by simp only [List.size_toArray]; rw [hx1]; exact Tryd.size146) (by simp only [List.size_toArray]; rw [hx1]; rfl) (all_oneCell_toArray hx2) ?_))
  have hz : (Tryd.prog.info? 146).map (·.size) = some X.toArray.size := by simp [hx1, Tryd.size146]
  refine bodyPost_ret (v := .agg X.toArray) (results_cell_row rfl _ _ (w.heap.size + 1) 146 _ (0, 0) _ (by rfl) (setRow_heap _ _ _ X.toArray _ _ hb1) Tryd.underlying146 rfl hz) rfl ⟨k, w1, hh, by rw [HX.out], hR, (Keeps.refl _ _).setRow _ _ (fun _ => rfl), ?_⟩
  exact ((keeps_alloc2 w _ _).trans hk1 (U := fun k => k = x ∨ v.ownBlock = some k) (fun _ _ h => h.elim) (fun _ _ h => h)).setRow _ _ (fun h => by omega)

theorem cu_node {w w1 w' : World} {x : Nat} {v v' : Value} {o : List ByteArray} (hx : x < w.heap.size) (hvl : ∀ k, v.ownBlock = some k → k < w.heap.size) (hc : Cu w1 x v' o) (hf : v'.ownBlock = v.ownBlock ∨ ∀ k, v'.ownBlock = some k → w.heap.size + 2 ≤ k) (hk : Keeps (fun i => i = w.heap.size + 1) w1 w') : Cu w' x v' o ∧ Fresh w v v' := by
  refine ⟨hc.keeps hk (fun h => by omega) (fun b hb h => ?_), hf.imp id (fun h k hk => by have := h k hk; omega)⟩
  rcases hf with g | g
  · have := hvl b (g ▸ hb); omega
  · have := g b hb; omega
theorem Fresh.two {w W : World} {v v' : Value} (h : Fresh W v v') (hs : w.heap.size + 2 ≤ W.heap.size) : v'.ownBlock = v.ownBlock ∨ ∀ k, v'.ownBlock = some k → w.heap.size + 2 ≤ k := h.imp id (fun h k hk => Nat.le_trans hs (h k hk))
theorem node_small (x : Nat) (v : Value) (outs : List ByteArray) (data : ByteArray) (w : World) (hc : Cu w x v outs) (hk : KTab w) (hf : KFirst w) (hx : 3 < x) (hv : ∀ k, v.ownBlock = some k → 3 < k) (hd : data.size ≤ 240) (hol : outs.length < 800) :
    Calls Tryd.prog 75 #[.pointer (some ⟨x, 0, none⟩), fileN data] w (FilePost w x v outs data) := by
  have hxl := heap_lt hc.heap
  have hvl : ∀ k, v.ownBlock = some k → k < w.heap.size := fun k hk => own_lt hc.own k hk
  refine (node_file x v data w hxl (fun k w' => PK1 k ∧ ∃ v', Cu w' x v' (outs ++ [⟨(1 :: bl data).toArray⟩]) ∧ (v'.ownBlock = v.ownBlock ∨ ∀ k, v'.ownBlock = some k → w.heap.size + 2 ≤ k)) (fun W k hs => (file_small x v outs data W (hc.no k) (hk.keeps k (fun h => h)) (hf.keeps k (fun h => h)) hx hv hd hol).mono ?_) hvl).mono ?_
  · rintro e w' ⟨k, v', hpk, he, hcu, hkp, hfr⟩
    exact ⟨k, hpk.1.leaf.hash, he, ⟨hpk, v', hcu, hfr.two hs⟩, hkp⟩
  · rintro e w' ⟨k, w1, hh, he, ⟨hpk, v', hcu, hfr⟩, hkp, hkw⟩
    obtain ⟨c1, c2⟩ := cu_node hxl hvl hcu hfr hkp
    exact ⟨k, v', hpk, he, c1, hkw, c2⟩
theorem node_two (x : Nat) (v : Value) (outs : List ByteArray) (data : ByteArray) (w : World) (hc : Cu w x v outs) (hk : KTab w) (hf : KFirst w) (hx : 3 < x) (hv : ∀ k, v.ownBlock = some k → 3 < k) (hd1 : 240 < data.size) (hd2 : data.size ≤ 480) (hol : outs.length < 800) :
    Calls Tryd.prog 75 #[.pointer (some ⟨x, 0, none⟩), fileN data] w (File2Post w x v outs data.size) := by
  have hxl := heap_lt hc.heap
  have hvl : ∀ k, v.ownBlock = some k → k < w.heap.size := fun k hk => own_lt hc.own k hk
  refine (node_file x v data w hxl (fun k w' => ∃ (v' : Value) (t1 t2 t3 : ByteArray), t1.size = 241 ∧ t2.size = data.size - 240 + 1 ∧ t3.size = 76 ∧ Cu w' x v' (outs ++ [t1, t2, t3]) ∧ (v'.ownBlock = v.ownBlock ∨ ∀ k, v'.ownBlock = some k → w.heap.size + 2 ≤ k)) (fun W k hs => (file_two x v outs data W (hc.no k) (hk.keeps k (fun h => h)) (hf.keeps k (fun h => h)) hx hv hd1 hd2 hol).mono ?_) hvl).mono ?_
  · rintro e w' ⟨k, v', t1, t2, t3, hh, he, s1, s2, s3, hcu, hkp, hfr⟩
    exact ⟨k, hh, he, ⟨v', t1, t2, t3, s1, s2, s3, hcu, hfr.two hs⟩, hkp⟩
  · rintro e w' ⟨k, w1, hh, he, ⟨v', t1, t2, t3, s1, s2, s3, hcu, hfr⟩, hkp, hkw⟩
    obtain ⟨c1, c2⟩ := cu_node hxl hvl hcu hfr hkp
    exact ⟨k, v', t1, t2, t3, hh, he, s1, s2, s3, c1, hkw, c2⟩
end Go.Proofs.YtpniohbjgpncmaaDoor
