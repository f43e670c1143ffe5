/- sha: the next word of the ring: conditions: none. -/
import Derived.Test.YtpniohbjgpncmaaDoorV1
import Derived.Test.YtpniohbjgpncmaaDoorP5
import Derived.Deep.QuietTactic
import Derived.BigQuiet
import Derived.BigRegion
namespace Go.Proofs.YtpniohbjgpncmaaDoor
open Go.RowKit

def u32V (xs : List Int) : List Value := xs.map (Value.int .u32)
theorem u32V_length (xs : List Int) : (u32V xs).length = xs.length := by simp [u32V]
/-- Block g is a row of n words. -/
def Words (t : TypeId) (n : Nat) (w : World) (g : Nat) : Prop := ∃ xs : List Int, xs.length = n ∧ w.heap[g]? = some (.cells (u32V xs).toArray t)
theorem Words.cell {t : TypeId} {n : Nat} {w : World} {g : Nat} (h : Words t n w g) (k : Nat) (hk : k < n) : ∃ x, w.cell? ⟨g, k, none⟩ = some (.int .u32 x) := by
  obtain ⟨xs, hl, hh⟩ := h
  refine ⟨xs[k]'(by omega), ?_⟩
  rw [cell_of_heap hh k]
  simp [u32V, hl, hk]
theorem Words.free {t : TypeId} {n : Nat} {w : World} {g : Nat} (h : Words t n w g) (k : Nat) : w.frozen? ⟨g, k, none⟩ = false := by
  obtain ⟨xs, hl, hh⟩ := h
  exact frozen_of_heap hh k
theorem Words.lt {t : TypeId} {n : Nat} {w : World} {g : Nat} (h : Words t n w g) : g < w.heap.size := by
  obtain ⟨xs, hl, hh⟩ := h
  exact heap_lt hh
theorem Words.keeps {t : TypeId} {n : Nat} {w w' : World} {g : Nat} {S : Nat → Prop} (h : Words t n w g) (k : Keeps S w w') (hn : ¬ S g) : Words t n w' g := by
  obtain ⟨xs, hl, hh⟩ := h
  exact ⟨xs, hl, k.heap hh hn⟩
theorem Words.set {t : TypeId} {n : Nat} {w : World} {g : Nat} (h : Words t n w g) (k : Nat) (x : Int) : Words t n (w.setCell ⟨g, k, none⟩ (.int .u32 x)) g := by
  obtain ⟨xs, hl, hh⟩ := h
  refine ⟨xs.set k x, by simp [hl], ?_⟩
  rw [heap_setCell_same _ hh]
  simp [u32V, List.map_set]
def NextPost (w : World) (g : Nat) (e : Ending) (w' : World) : Prop := ∃ r, e = .returned (.int .u32 r) ∧ Words 151 16 w' g ∧ Keeps (fun k => k = g) w w'

set_option maxRecDepth 20000 in
set_option maxHeartbeats 400000 in
theorem next_any (i : Nat) (hi : i < 64) (g : Nat) (w : World) (hg : Words 151 16 w g) : Calls Tryd.prog 180 #[.int .i64 i, .pointer (some ⟨g, 0, none⟩)] w (NextPost w g) := by
  obtain ⟨a, ha⟩ : ∃ a : Nat, a = i % 16 := ⟨_, rfl⟩
  have h1 : (i : Int) % 16 = (a : Int) := by omega
  have ha1 : (a : Int) < 16 := by omega
  have ha2 : ¬ (a : Int) < 0 := by omega
  by_cases h : i < 16
  · obtain ⟨x, hx⟩ := hg.cell a (by omega)
    have HG := Lib.hid hg; clear hg
    clear ha
    go_enter Tryd.func180, Tryd.ntmps180
    go_wp2
    go_ret
    exact ⟨_, rfl, HG.out, Keeps.refl _ _⟩
  · obtain ⟨b, hb⟩ : ∃ b : Nat, b = (i + 1) % 16 := ⟨_, rfl⟩
    obtain ⟨c, hc⟩ : ∃ c : Nat, c = (i + 14) % 16 := ⟨_, rfl⟩
    obtain ⟨d, hd⟩ : ∃ d : Nat, d = (i + 9) % 16 := ⟨_, rfl⟩
    have h2 : ((i : Int) + 1) % 16 = (b : Int) := by omega
    have h3 : ((i : Int) + 14) % 16 = (c : Int) := by omega
    have h4 : ((i : Int) + 9) % 16 = (d : Int) := by omega
    have hb1 : (b : Int) < 16 := by omega
    have hb2 : ¬ (b : Int) < 0 := by omega
    have hc1 : (c : Int) < 16 := by omega
    have hc2 : ¬ (c : Int) < 0 := by omega
    have hd1 : (d : Int) < 16 := by omega
    have hd2 : ¬ (d : Int) < 0 := by omega
    obtain ⟨x, hx⟩ := hg.cell a (by omega)
    obtain ⟨y, hy⟩ := hg.cell b (by omega)
    obtain ⟨z, hz⟩ := hg.cell c (by omega)
    obtain ⟨u, hu⟩ := hg.cell d (by omega)
    have hf := hg.free a
    have HG := Lib.hid hg; clear hg
    clear ha hb hc hd
    go_enter Tryd.func180, Tryd.ntmps180
    go_wp2
    go_quiet (fail)
    go_wp2_with (first | (go_at_call 181; (with_reducible refine (right_7 _ _).mono ?_); rintro e w' ⟨rfl, rfl⟩) | (go_at_call 181; (with_reducible refine (right_18 _ _).mono ?_); rintro e w' ⟨rfl, rfl⟩) | (go_at_call 181; (with_reducible refine (right_17 _ _).mono ?_); rintro e w' ⟨rfl, rfl⟩) | (go_at_call 181; (with_reducible refine (right_19 _ _).mono ?_); rintro e w' ⟨rfl, rfl⟩))
    obtain ⟨W, hW⟩ : ∃ W, W = w.drewN nq := ⟨_, rfl⟩
    have hkW : Keeps (fun k => k = g) w W := by rw [hW]; exact Keeps.drewN (Keeps.refl _ w) nq
    have hgW : Words 151 16 W g := by rw [hW]; exact HG.out.keeps (Keeps.drewN (Keeps.refl No w) nq) (fun h => h)
    have hx2 : W.cell? ⟨g, a, none⟩ = some (.int .u32 x) := by rw [hW]; exact hx
    have hu2 : W.cell? ⟨g, d, none⟩ = some (.int .u32 u) := by rw [hW]; exact hu
    have hf2 : W.frozen? ⟨g, a, none⟩ = false := by rw [hW]; exact hf
    rw [← hW]
    clear hW hx hy hz hu hf HG
    go_region
    go_wp2
    go_ret
    exact ⟨_, rfl, (hgW.set a _).keeps ((Keeps.refl No _).drew) (fun h => h), (hkW.setCell _ _ (fun _ => rfl)).drew⟩
end Go.Proofs.YtpniohbjgpncmaaDoor
