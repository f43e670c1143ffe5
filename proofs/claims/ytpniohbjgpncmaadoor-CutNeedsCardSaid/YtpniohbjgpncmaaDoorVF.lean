/- A region that draws its order, inside a round of a range over a function: conditions: it defers nothing. -/
import Derived.Test.YtpniohbjgpncmaaDoorVD
import Derived.Test.YtpniohbjgpncmaaDoorS5
import Derived.Outline
import Derived.OrdersIn
import Derived.Deep.RegionHeld
namespace Go.Proofs.YtpniohbjgpncmaaDoor
open Go.RowKit
attribute [local go_sem] Oper.semAt_some

def encP (v : Value) : Array Value := #[v]
theorem pieces147 (a : Option Addr) (n c most : Nat) (w : World) : Calls Tryd.prog 147 #[.slice a n c, .int .i64 most] w fun e w' => e = .returned (.func (.func 169) #[] #[.pointer (some ⟨w.heap.size, 0, none⟩), .pointer (some ⟨w.heap.size + 1, 0, none⟩)]) ∧ w' = (w.alloc (.cells #[.slice a n c] 27)).alloc (.cells #[.int .i64 most] 3) := by
  go_enter Tryd.func147, Tryd.ntmps147
  go_wp2
  go_ret
  exact ⟨rfl, rfl⟩
theorem pieces148 (a : Option Addr) (n c most : Nat) (w : World) : Calls Tryd.prog 148 #[.slice a n c, .int .i64 most] w fun e w' => e = .returned (.func (.func 170) #[] #[.pointer (some ⟨w.heap.size, 0, none⟩), .pointer (some ⟨w.heap.size + 1, 0, none⟩)]) ∧ w' = (w.alloc (.cells #[.slice a n c] 100)).alloc (.cells #[.int .i64 most] 3) := by
  go_enter Tryd.func148, Tryd.ntmps148
  go_wp2
  go_ret
  exact ⟨rfl, rfl⟩

set_option maxRecDepth 20000 in
set_option maxHeartbeats 800000 in
theorem iter169 (a : Option Addr) (n c most : Nat) (hn : n ≤ most) (q1 q2 : Nat) (w : World) (h1 : w.heap[q1]? = some (.cells #[.slice a n c] 27)) (h2 : w.heap[q2]? = some (.cells #[.int .i64 most] 3)) (Sb : Nat → Prop) :
    IterC Tryd.prog 169 #[.pointer (some ⟨q1, 0, none⟩), .pointer (some ⟨q2, 0, none⟩)] encP (fun _ => False) Sb [.slice a n c] (fun _ => True) w := by
  intro l J W hkW hJ hY h0
  have h1W := hkW.heap h1 (fun h => h)
  have h2W := hkW.heap h2 (fun h => h)
  have e1 := cell_of_heap h1W 0
  have e2 := cell_of_heap h2W 0
  simp at e1 e2
  obtain ⟨fn, ytmps, yassign, ybody, hy, hyR⟩ := hY [] (.slice a n c) [] W rfl h0
  have HYR := Lib.hid hyR; clear hyR
  have hnm : ¬ (most : Int) < n := by omega
  clear hJ hY h1W h2W hkW h1 h2
  go_enter Tryd.func169, Tryd.ntmps169
  generalize hc3 : (Code.region 3 _ _) = c3
  have HC3 := Lib.hid hc3; clear hc3
  go_wp2
  refine wp_loop_rounds 1 ?_
  rw [rounds_succ]
  go_wp2
  refine reg7 ?_
  rw [← HC3.out]
  dsimp only [encP] at hy
  gi_wp2_with (refine HYR.out.mono ?_; rintro e W6 ⟨rfl, hj6, hk6⟩)
  go_end0
  exact ⟨⟨_, rfl⟩, trivial, hj6⟩
set_option maxRecDepth 20000 in
set_option maxHeartbeats 800000 in
theorem iter170 (a : Option Addr) (n c most : Nat) (hn : n ≤ most) (q1 q2 : Nat) (w : World) (h1 : w.heap[q1]? = some (.cells #[.slice a n c] 100)) (h2 : w.heap[q2]? = some (.cells #[.int .i64 most] 3)) (Sb : Nat → Prop) :
    IterC Tryd.prog 170 #[.pointer (some ⟨q1, 0, none⟩), .pointer (some ⟨q2, 0, none⟩)] encP (fun _ => False) Sb [.slice a n c] (fun _ => True) w := by
  intro l J W hkW hJ hY h0
  have h1W := hkW.heap h1 (fun h => h)
  have h2W := hkW.heap h2 (fun h => h)
  have e1 := cell_of_heap h1W 0
  have e2 := cell_of_heap h2W 0
  simp at e1 e2
  obtain ⟨fn, ytmps, yassign, ybody, hy, hyR⟩ := hY [] (.slice a n c) [] W rfl h0
  have HYR := Lib.hid hyR; clear hyR
  have hnm : ¬ (most : Int) < n := by omega
  clear hJ hY h1W h2W hkW h1 h2
  go_enter Tryd.func170, Tryd.ntmps170
  generalize hc3 : (Code.region 3 _ _) = c3
  have HC3 := Lib.hid hc3; clear hc3
  go_wp2
  refine wp_loop_rounds 1 ?_
  rw [rounds_succ]
  go_wp2
  refine reg7 ?_
  rw [← HC3.out]
  dsimp only [encP] at hy
  gi_wp2_with (refine HYR.out.mono ?_; rintro e W6 ⟨rfl, hj6, hk6⟩)
  go_end0
  exact ⟨⟨_, rfl⟩, trivial, hj6⟩
set_option maxRecDepth 20000 in
set_option maxHeartbeats 800000 in
theorem iter169b (a : Option Addr) (n c most : Nat) (a1 a2 : Option Addr) (c1 c2 : Nat) (hn : most < n) (hn2 : n ≤ 2 * most) (q1 q2 : Nat) (w : World) (h1 : w.heap[q1]? = some (.cells #[.slice a n c] 27)) (h2 : w.heap[q2]? = some (.cells #[.int .i64 most] 3)) (Sb : Nat → Prop) (hq1 : ¬ Sb q1) (hq2 : ¬ Sb q2) (hqq : q2 ≠ q1)
    (hs1 : ∀ W, Sem.run Tryd.prog (Instr.slice 27 (.slice a n c) none (some (.int .i64 most)) none) W = .ok (.slice a1 most c1) W) (hs2 : ∀ W, Sem.run Tryd.prog (Instr.slice 27 (.slice a n c) (some (.int .i64 most)) none none) W = .ok (.slice a2 (n - most) c2) W) :
    IterC Tryd.prog 169 #[.pointer (some ⟨q1, 0, none⟩), .pointer (some ⟨q2, 0, none⟩)] encP (fun k => k = q1) Sb [.slice a1 most c1, .slice a2 (n - most) c2] (fun _ => True) w := by
  intro l J W hkW hJ hY h0
  have h1W := hkW.heap h1 (fun h => h)
  have h2W := hkW.heap h2 (fun h => h)
  have e1 := cell_of_heap h1W 0
  have e2 := cell_of_heap h2W 0
  simp at e1 e2
  obtain ⟨fn, ytmps, yassign, ybody, hy, hyR⟩ := hY [] (.slice a1 most c1) [.slice a2 (n - most) c2] W rfl h0
  have HYR := Lib.hid hyR; clear hyR
  have HY := Lib.hid hY; clear hY
  have HJ := Lib.hid hJ; clear hJ
  have hnm : (most : Int) < n := by omega
  have hnm2 : ¬ (most : Int) < ((n - most : Nat) : Int) := by omega
  clear hkW h1 h2
  go_enter Tryd.func169, Tryd.ntmps169
  generalize hc3 : (Code.region 3 _ _) = d3
  have HC3 := Lib.hid hc3; clear hc3
  generalize hc1 : (Code.region 1 _ _) = d1
  have HC1 := Lib.hid hc1; clear hc1
  go_wp2
  refine wp_loop_rounds 2 ?_
  rw [rounds_succ]
  go_wp2
  refine reg7 ?_
  rw [← HC1.out]
  dsimp only [encP] at hy
  gi_wp2_with (refine HYR.out.mono ?_; rintro e W6 ⟨rfl, hj6, hk6⟩)
  have h16 := hk6.heap h1W hq1
  have h26 := hk6.heap h2W hq2
  have g1 := cell_of_heap h16 0
  have gf := frozen_of_heap h16 0
  have g2 := cell_of_heap h26 0
  simp at g1 g2
  have hj7 := HJ.out _ _ _ hj6 (((Keeps.refl (fun k => k = q1) W6).setCell ⟨q1, 0, none⟩ (.slice a2 (n - most) c2) (fun _ => rfl)))
  have h17 : (W6.setCell ⟨q1, 0, none⟩ (.slice a2 (n - most) c2)).heap[q1]? = some (.cells #[.slice a2 (n - most) c2] 27) := by rw [heap_setCell_same _ h16]; rfl
  have h27 := ((Keeps.refl (fun k => k = q1) W6).setCell ⟨q1, 0, none⟩ (.slice a2 (n - most) c2) (fun _ => rfl)).heap h26 hqq
  have H17 := Lib.hid h17; clear h17
  have H27 := Lib.hid h27; clear h27
  have HJ7 := Lib.hid hj7; clear hj7
  clear h16 h26 hj6 hk6 h1W h2W e1 e2
  go_wp2
  obtain ⟨W7, hW7⟩ : ∃ W7, W7 = W6.setCell ⟨q1, 0, none⟩ (.slice a2 (n - most) c2) := ⟨_, rfl⟩
  have H17' := H17.out
  have H27' := H27.out
  have HJ7' := HJ7.out
  rw [← hW7] at H17' H27' HJ7' ⊢
  have k1 := cell_of_heap H17' 0
  have k2 := cell_of_heap H27' 0
  simp at k1 k2
  clear g1 gf g2 hW7 H17 H27 HJ7
  obtain ⟨fn2, ytmps2, yassign2, ybody2, hy2, hyR2⟩ := HY.out [.slice a1 most c1] (.slice a2 (n - most) c2) [] W7 rfl HJ7'
  have HYR2 := Lib.hid hyR2; clear hyR2 hy HYR H17' H27' HJ7'
  rw [rounds_succ]
  go_wp2
  refine reg7 ?_
  rw [← HC3.out]
  dsimp only [encP] at hy2
  gi_wp2_with (refine HYR2.out.mono ?_; rintro e W8 ⟨rfl, hj8, hk8⟩)
  go_end0
  exact ⟨⟨_, rfl⟩, trivial, hj8⟩
end Go.Proofs.YtpniohbjgpncmaaDoor

namespace Go.Proofs.YtpniohbjgpncmaaDoor
open Go.RowKit

/-- operations that are walked alike inside a round and outside of it -/
def calmOp (o : Oper) : Bool := match o.op with
  | .defer _ => false
  | _ => true
theorem upon_inRound {P : Program} {o : Oper} {a : Act} {K : Act → World → Prop} {Q : Exit → Act → World → Prop} (l n : Nat) (r : Result Next) (h : o.upon P a K Q r) : o.uponIn (Fence.wide.inRound l) n P a K Q r := by
  cases r with
  | ok x w' =>
    cases x with
    | value v => exact h
    | skip => exact h
    | defer d => exact h
    | enter f args => exact ⟨fun hd => by simp [Fence.wide] at hd, (callsIn_wide (n := n - 1)).2 h⟩
    | row row args => exact ⟨fun hd => by simp [Fence.wide] at hd, fun c cs _ => let ⟨v, w2, r, s⟩ := h c cs; ⟨v, w2, r, stepsIn_wide.2 s⟩⟩
    | _ => exact h.elim
  | halt x w' => cases x <;> first | exact h | exact h.elim
theorem wp_inRound {P : Program} {o : Oper} {a : Act} {w : World} {K : Act → World → Prop} {Q : Exit → Act → World → Prop} (l n : Nat) (hc : calmOp o = true) (h : o.wp P a w K Q) : o.wpIn (Fence.wide.inRound l) n P a w K Q := by
  refine ⟨fun f _ => trivial, ?_⟩
  rw [Oper.semAt_eq _ _ _ (fun c hd => by unfold calmOp at hc; rw [hd] at hc; cases hc)]
  exact upon_inRound l n _ h
theorem wpAny_inRound {P : Program} {ops : Array Oper} {Q : Exit → Act → World → Prop} (l n : Nat) (hc : ops.all calmOp = true) (hq : ¬ LetsOut Q) : ∀ (fuel : Nat) (listed : Array Bool) (a : Act) (w : World), wpAny P .any ops Q fuel listed a w → wpAnyIn (Fence.wide.inRound l) n P .any ops Q fuel listed a w
  | 0, _, _, _, h => h
  | fuel + 1, listed, a, w, h => by
    refine ⟨h.1, fun i hi => ?_⟩
    have h2 := h.2 i hi
    unfold wpOp at h2
    unfold wpOpIn
    cases ho : ops[i]? with
    | none =>
      simp only [ho] at h2 ⊢
      exact wpAny_inRound l n hc hq fuel _ a w h2
    | some o =>
      have hco : calmOp o = true := by
        obtain ⟨hi', he⟩ := Array.getElem?_eq_some_iff.1 ho
        have := Array.all_eq_true.1 hc i hi'
        rwa [he] at this
      simp only [ho] at h2 ⊢
      by_cases hw : Region.wanted o (yielded ops a.tmps) = true
      · simp only [hw, if_true] at h2 ⊢
        rcases h2 with h2 | h2
        · exact Oper.wpIn_mono (fun a' w' h' => wpAny_inRound l n hc hq fuel _ a' w' h') (wp_inRound l n hco h2)
        · exact absurd h2.2 hq
      · simp only [hw] at h2 ⊢
        exact ⟨fun f _ => trivial, wpAny_inRound l n hc hq fuel _ _ w h2⟩
/-- A region of a round, by its held walk. -/
theorem region_inRound {P : Program} {ops : Array Oper} {Q : Exit → Act → World → Prop} {id l n : Nat} {a : Act} {w : World} (S : World → Prop) (hc : ops.all calmOp = true) (hq : ¬ LetsOut Q) (hm : P.follows .mixedOrders = true)
    (h : wpAnyH P .any ops Q S ops.size (Array.replicate ops.size false) a w.drew) : (Code.region id ops true).wpIn (Fence.wide.inRound l) n P Q a w :=
  wpIn_region_any hm (wpAny_inRound l n hc hq _ _ _ _ (wpAny_of_held _ _ _ _ h))
end Go.Proofs.YtpniohbjgpncmaaDoor
