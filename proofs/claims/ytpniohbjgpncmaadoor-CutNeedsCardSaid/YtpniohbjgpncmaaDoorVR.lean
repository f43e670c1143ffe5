/- The row of CutNeeds: whatever the texts, the law returns true: conditions: the listed variables start as the text lays them. -/
import Derived.Test.YtpniohbjgpncmaaDoorVQ
import Derived.ProofKit
import Derived.LaidMore
import Derived.OpenShut
import Derived.ShutString
import Derived.Carry
import Derived.SliceStrings
import Derived.Stop.Joined
namespace Go.Proofs.YtpniohbjgpncmaaDoor
open Go.ChangeShapes Go.WideShapes Go.ChangeAt Go.RowKit

abbrev shaLaid : List (String × DataW Unit) := [("armarium/sha.k", Rows.laid_armarium_sha_k), ("armarium/sha.first", Rows.laid_armarium_sha_first)]
theorem Tryd.own3 : ownKnob Tryd.prog.godebug = none := by kernel_rfl
theorem gK : Tryd.prog.globalNamed "armarium/sha.k" = some 3 := by kernel_rfl
theorem tK : (Tryd.prog.globals[3]?).map (·.type) = some 255 := by kernel_rfl
theorem gFirst : Tryd.prog.globalNamed "armarium/sha.first" = some 2 := by kernel_rfl
theorem tFirst : (Tryd.prog.globals[2]?).map (·.type) = some 246 := by kernel_rfl
theorem Tryd.cellsOf31 : Tryd.prog.cellsOf 31 = 1 := by kernel_rfl
theorem Tryd.cellsOf255 : Tryd.prog.cellsOf 255 = 64 := by kernel_rfl
theorem Tryd.cellsOf246 : Tryd.prog.cellsOf 246 = 8 := by kernel_rfl
theorem Tryd.cellsOf9 : Tryd.prog.cellsOf 9 = 1 := by kernel_rfl

theorem u32_of_cells : ∀ (l : List Value) (n : Nat), l.length = n → (∀ k, k < n → ∃ c : Int, l[k]? = some (.int .u32 c)) → ∃ ys : List Int, ys.length = n ∧ l = u32V ys
  | [], n, hl, _ => ⟨[], by simpa using hl, rfl⟩
  | u :: l, 0, hl, _ => by simp at hl
  | u :: l, n + 1, hl, h => by
    obtain ⟨c, h0⟩ := h 0 (by omega)
    simp at h0
    subst h0
    obtain ⟨ys, h1, h2⟩ := u32_of_cells l n (by simpa using hl) (fun k hk => by have := h (k + 1) (by omega); simpa using this)
    exact ⟨c :: ys, by simp [h1], by rw [h2]; rfl⟩
/-- A variable that reads as an array of words is a row of words. -/
theorem words_of_var {W : World} {name : String} {g n : Nat} {t : TypeId} {cs : Array Value} {f : Nat} {d : DataW Unit × List MemPlace} {enc : TypeId × Value → Unit} {base : Nat} {sp : Nat → Bool} {held : Bool}
    (hg : Tryd.prog.globalNamed name = some g) (hv : W.var? Tryd.prog name = some cs) (ht : Tryd.prog.underlying t = some (.array n 31)) (hc : Tryd.prog.cellsOf t = n) (hd : DataW.trod enc Tryd.prog W base sp held f t cs.toList = some d) :
    ∃ xs : List Int, ∃ fr : TypeId × (Nat × Nat), xs.length = n ∧ W.heap[g]? = some (.cells (u32V xs).toArray fr.1 fr.2) := by
  obtain ⟨xs, m1, rfl, hx1, hlen, hn, hel⟩ := DataW.trod_array ht hd
  have hlen' : cs.toList.length = n := by rw [hlen, hc]
  have hcell : ∀ k, k < n → ∃ c : Int, cs.toList[k]? = some (.int .u32 c) := fun k hk => by
    have h0 := hel k hk
    rw [Tryd.cellsOf31, Nat.mul_one] at h0
    obtain ⟨y, hy⟩ : ∃ y, xs[k]? = some y := ⟨_, List.getElem?_eq_getElem (by omega)⟩
    rw [hy] at h0
    obtain ⟨c, e1, e2, _⟩ := DataW.trod_int Tryd.underlying31 h0
    refine ⟨c, ?_⟩
    have h2 := congrArg (fun l => l[0]?) e1
    simp only [List.getElem?_cons_zero] at h2
    rw [List.getElem?_take] at h2
    simpa [List.getElem?_drop] using h2
  obtain ⟨ys, hy1, hy2⟩ := u32_of_cells _ n hlen' hcell
  have hvv := hv
  simp only [World.var?, hg, Option.bind_some] at hvv
  split at hvv
  · rename_i cs' t' fr' hh
    cases hvv
    refine ⟨ys, (t', fr'), hy1, ?_⟩
    rw [hh, ← hy2]
  · cases hvv
theorem tables_of_laid {W : World} (h : laidMetH Tryd.prog shaLaid W) : KTab W ∧ KFirst W := by
  rw [MakeChecks.laidMetH_plain _ _ _ (by kernel_rfl)] at h
  obtain ⟨ps, ⟨g0, t0, cs0, f0, p0, q0, hg0, ht0, hv0, hd0, ⟨g1, t1, cs1, f1, p1, q1, hg1, ht1, hv1, hd1, _, _⟩, _⟩, _, _⟩ := h
  obtain rfl := Option.some.inj (gK.symm.trans hg0)
  obtain rfl := Option.some.inj (tK.symm.trans ht0)
  obtain rfl := Option.some.inj (gFirst.symm.trans hg1)
  obtain rfl := Option.some.inj (tFirst.symm.trans ht1)
  exact ⟨words_of_var hg0 hv0 Tryd.underlying255 Tryd.cellsOf255 hd0, words_of_var hg1 hv1 Tryd.underlying246 Tryd.cellsOf246 hd1⟩

/-- Texts that are handed over read as texts. -/
theorem rd_strings {w : World} {a : Addr} {len cap : Nat} {ss : List ByteArray} (hl : len ≤ cap) (hn : len ≤ ss.length) (hc : ∀ i, i < ss.length → w.cell? (a.add i) = some (.string (ss.getD i ByteArray.empty))) (h0 : 0 < len) :
    Rd w 1 (.slice (some a) len cap) len (strV (ss.take len)) := by
  refine ⟨by simp [strV]; omega, _, cap, rfl, hl, (fun h => by cases h), fun ad had => ?_⟩
  cases had
  have hsp : (a.add 0).spot = none := World.cell?_spot (hc 0 (by omega))
  refine ⟨by simpa [Addr.add] using hsp, fun j u hj => ?_⟩
  have hjl : j < len := by
    have := (List.getElem?_eq_some_iff.1 hj).1
    simp [strV] at this
    omega
  rw [hc j (by omega)]
  simp [strV, hjl] at hj
  obtain ⟨x, hx, rfl⟩ := hj
  simp [List.getD, hx]

theorem Tryd.laidOut2 : laidOutB Tryd.prog = true := by kernel_rfl
theorem sha_met (os : Os) (args : Array Value) : laidMetH Tryd.prog shaLaid ((World.doorLaid Tryd.prog 400 os).forCall (fun _ _ => 0) ⟨#[], args, []⟩).memory :=
  laidMetH_of_parts3 (fuel := 8) (laidMet_of_run' 8 (by kernel_rfl) (by kernel_rfl)) (by kernel_rfl) (by kernel_rfl)

set_option maxRecDepth 100000 in
theorem cutNeeds_lifted (os : Os) (started : os.Started) (H : Type) (enc : TypeId × Value → H) :
    ReturnsInHanded {} Tryd.checked os 3 .any (fun w args => (Rows.cutNeedsSpec.pre enc Tryd.prog Tryd.f3 [] false w args ∧ laidMetH Tryd.prog shaLaid w) ∧ sizedMet enc Tryd.prog Tryd.f3 (OpenSpec.ofChange Rows.cutNeedsSpec) false w args)
      (Rows.cutNeedsSpec.post enc Tryd.prog Tryd.f3 false true false false) := by
  refine returnsInHanded_of_change_and (C := Tryd.checked) (X := fun w _ => laidMetH Tryd.prog shaLaid w) (fun _ _ _ hh h => h.of_heap hh) Tryd.own3 started (by kernel_rfl) Tryd.func3
    (ChangeSpec.witness_shaped (enc := enc) (C := Tryd.checked) (os := os) (X := fun w _ => laidMetH Tryd.prog shaLaid w) false (World.doorLaid Tryd.prog 400 os) #[.slice none 0 0] 8 rfl (World.shaped_of_RefB (by kernel_rfl) (by kernel_rfl)) (by kernel_rfl) (by kernel_rfl) (by kernel_rfl) (sha_met os _)) ?_
  intro W base args ds gs before hval0 hW _ _ hL _
  have hval : ∀ (j : Nat) t v, Tryd.f3.params[j]? = some t → args[j]? = some v → Value.okWide Tryd.prog W .any base t v := hval0
  have hW' := hW
  obtain ⟨p, q, hA0, hV, rfl, hfz, hnd⟩ := hW
  have hA : DataW.TrodAll enc Tryd.prog W 0 (fun _ => true) true Tryd.f3.params.toList args.toList ds p := hA0
  rw [Tryd.params3] at hA hval
  obtain ⟨v0, d0, rfl, rfl, h0⟩ := trodAll_one hA
  obtain ⟨rfl, rfl⟩ := trodVars_none hV
  obtain ⟨a0, len, cap, rfl⟩ := okWide_slice Tryd.underlying22 (hval 0 22 v0 rfl rfl)
  have h0k := h0
  obtain ⟨fuel, hf⟩ := h0
  clear hA0 hval0
  simp only [List.append_nil] at hW'
  have hlt : ∀ x ∈ p, x.block < W.heap.size := fun x hx => by simpa using hW'.lt x hx
  have hargs : ∀ (W' : World), Below W.heap.size W W' → DataW.Trod enc Tryd.prog W' 0 (fun b => decide (b < W.heap.size)) true 22 (.slice a0 len cap) d0 p :=
    fun W' hn => Below.trod Tryd.laidOut2 (by kernel_rfl) (of_decide_eq_true (by kernel_rfl)) h0k hn hlt
  obtain ⟨hkt, hkf⟩ := tables_of_laid hL
  have fin : ∀ e W', (e = Ending.returned (.bool true) ∧ Keeps No W W') → ∃ v, e = Ending.returned v ∧ Rows.cutNeedsSpec.post enc Tryd.checked.prog Tryd.f3 false true false false W #[.slice a0 len cap] v W' := by
    intro e W' ⟨he, hk⟩
    subst he
    have hg := hk.to_below (Nat.le_refl _) (fun _ _ h => h)
    refine ⟨_, rfl, _, _, _, [], p, [], hW', ?_, ?_, ?_, ?_, fun h => by cases h⟩
    · exact trodAll_cons_mk (shut_bool Tryd.underlying4 _) trodAll_mk0
    · exact trodAll_mk1 (hargs _ hg)
    · rfl
    · exact hg.frame _
  rcases open_strings Tryd.underlying22 Tryd.underlying9 Tryd.cellsOf9 hf with ⟨hcs, hx⟩ | ⟨a, len', cap', ss, hcs, _, hl, hm, hz, hx, hcell, hws⟩
  · simp [Value.cells] at hcs
    obtain ⟨rfl, rfl, rfl⟩ := hcs
    exact (cutneeds_any none 0 [] W hkt hkf (fun h => by simp at h)).mono fin
  · simp [Value.cells] at hcs
    obtain ⟨rfl, rfl, rfl⟩ := hcs
    have hsl : len ≤ ss.length := by rw [hz]; split <;> omega
    have hll : (ss.take len).length = len := by rw [List.length_take]; omega
    have h := cutneeds_any (some a) cap (ss.take len) W hkt hkf (fun h => by rw [hll] at h ⊢; exact rd_strings hl hsl hcell h)
    rw [hll] at h
    exact h.mono fin

theorem cutNeeds_holds : Rows.CutNeedsSaid :=
  OpenClaim.holds_of_wide 3 Tryd.f3 rfl rfl rfl rfl rfl rfl rfl ⟨rfl, rfl, rfl, rfl, rfl⟩ rfl rfl rfl rfl rfl (by kernel_rfl) Tryd.func3 (by kernel_rfl)
    (of_decide_eq_true (by kernel_rfl)) (by unfold Func.isWrapper; first | (rw [if_pos (by decide +kernel)]; kernel_rfl) | (rw [if_neg (by decide +kernel)]; exact ⟨rfl, rfl⟩))
    (fun os started H enc _ => cutNeeds_lifted os started H enc)
end Go.Proofs.YtpniohbjgpncmaaDoor
