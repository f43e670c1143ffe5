/- The row of RecordSeals: whatever the integer and the two strings, the law returns true: conditions: the listed variable starts as the text lays it. -/
import Derived.Test.YtpniohbjgpncmaaDoorT4
import Derived.ProofKit
import Derived.LaidMore
import Derived.OpenShut
import Derived.ShutString
import Derived.Stop.Joined
namespace Go.Proofs.YtpniohbjgpncmaaDoor
open Go.ChangeShapes Go.WideShapes Go.ChangeAt Go.RowKit
open Go.ChangeMaps (open_string shut_string)

abbrev halvesLaid : List (String × DataW Unit) := [("armarium/crc.halves", Rows.laid_armarium_crc_halves)]
theorem Tryd.own : ownKnob Tryd.prog.godebug = none := by kernel_rfl
theorem gHalves : Tryd.prog.globalNamed "armarium/crc.halves" = some 0 := by kernel_rfl
theorem tHalves : (Tryd.prog.globals[0]?).map (·.type) = some 151 := by kernel_rfl
theorem Tryd.cells31 : Tryd.prog.cellsOf 31 = 1 := by kernel_rfl
theorem Tryd.cells151 : Tryd.prog.cellsOf 151 = 16 := by kernel_rfl

theorem halves_datum {H : Type} (k : Nat) (hk : k < 16) : ∃ l : List (DataW H), (Rows.laid_armarium_crc_halves : DataW H) = .agg l ∧ l[k]? = some (.lit (.int .u32 ((crcTab[k]?.getD 0 : Nat) : Int))) := by
  refine ⟨_, rfl, ?_⟩
  match k, hk with
  | 0, _ | 1, _ | 2, _ | 3, _ | 4, _ | 5, _ | 6, _ | 7, _ | 8, _ | 9, _ | 10, _ | 11, _ | 12, _ | 13, _ | 14, _ | 15, _ => rfl
  | n + 16, h => omega

theorem halves_of_laid {W : World} (h : laidMetH Tryd.prog halvesLaid W) : Halves W := by
  rw [MakeChecks.laidMetH_plain _ _ _ (by kernel_rfl)] at h
  obtain ⟨ps, ⟨g0, t0, cs0, f0, p0, q0, hg0, ht0, hv0, hd0, _, _⟩, _, _⟩ := h
  obtain rfl := Option.some.inj (gHalves.symm.trans hg0)
  obtain rfl := Option.some.inj (tHalves.symm.trans ht0)
  obtain ⟨xs, m1, rfl, hx1, hlen, hn, hel⟩ := DataW.trod_array Tryd.underlying151 hd0
  intro k hk
  obtain ⟨l, hl, hlk⟩ := halves_datum (H := Unit) k hk
  simp only [Prod.mk.injEq] at hx1
  have hxs : xs.map (·.1) = l := by
    have := hx1.1
    rw [hl] at this
    exact (DataW.agg.inj this).symm
  have h0 := hel k hk
  rw [Tryd.cells31, Nat.mul_one] at h0
  obtain ⟨y, hy⟩ : ∃ y, xs[k]? = some y := ⟨_, List.getElem?_eq_getElem (by omega)⟩
  rw [hy] at h0
  obtain ⟨c, e1, e2, _⟩ := DataW.trod_int Tryd.underlying31 h0
  have hc : c = ((crcTab[k]?.getD 0 : Nat) : Int) := by
    rw [← hxs, List.getElem?_map, hy, e2] at hlk
    simpa using hlk
  have hv := World.var?_cell hg0 hv0 k
  rw [hv, ← hc]
  have : cs0.toList[k]? = some (.int .u32 c) := by
    have h2 := congrArg (fun l => l[0]?) e1
    simp only [List.getElem?_cons_zero] at h2
    rw [List.getElem?_take] at h2
    simpa [List.getElem?_drop] using h2
  simpa using this

/-- The door's own heap meets the condition. -/
theorem halves_met (os : Os) (args : Array Value) : laidMetH Tryd.prog halvesLaid ((World.doorLaid Tryd.prog 400 os).forCall (fun _ _ => 0) ⟨#[], args, []⟩).memory :=
  laidMetH_of_parts3 (fuel := 8) (laidMet_of_run' 8 (by kernel_rfl) (by kernel_rfl)) (by kernel_rfl) (by kernel_rfl)

set_option maxRecDepth 100000 in
theorem recordSeals_lifted (os : Os) (started : os.Started) (H : Type) (enc : TypeId × Value → H) :
    ReturnsInHanded {} Tryd.checked os 4 .any (fun w args => (Rows.recordSealsSpec.pre enc Tryd.prog Tryd.f4 [] false w args ∧ laidMetH Tryd.prog halvesLaid w) ∧ sizedMet enc Tryd.prog Tryd.f4 (OpenSpec.ofChange Rows.recordSealsSpec) false w args)
      (Rows.recordSealsSpec.post enc Tryd.prog Tryd.f4 false true false false) := by
  refine returnsInHanded_of_change_and (C := Tryd.checked) (X := fun w _ => laidMetH Tryd.prog halvesLaid w) (fun _ _ _ hh h => h.of_heap hh) Tryd.own started (by kernel_rfl) Tryd.func4
    (ChangeSpec.witness_shaped (enc := enc) (C := Tryd.checked) (os := os) (X := fun w _ => laidMetH Tryd.prog halvesLaid w) false (World.doorLaid Tryd.prog 400 os) #[.int .i64 0, .string ByteArray.empty, .string ByteArray.empty] 8 rfl (World.shaped_of_RefB (by kernel_rfl) (by kernel_rfl)) (by kernel_rfl) (by kernel_rfl) (by kernel_rfl) (halves_met os _)) ?_
  intro W base args ds gs before hval0 hW _ _ hL _
  have hval : ∀ (j : Nat) t v, Tryd.f4.params[j]? = some t → args[j]? = some v → Value.okWide Tryd.prog W .any base t v := hval0
  have hW' := hW
  obtain ⟨p, q, hA0, hV, rfl, hfz, hnd⟩ := hW
  have hA : DataW.TrodAll enc Tryd.prog W 0 (fun _ => true) true Tryd.f4.params.toList args.toList ds p := hA0
  rw [Tryd.params4] at hA hval
  obtain ⟨v0, vs0, d0, ds0, p0, q0, hargs, rfl, rfl, h0, r0⟩ := trodAll_cons hA
  obtain ⟨v1, vs1, d1, ds1, p1, q1, rfl, rfl, rfl, h1, r1⟩ := trodAll_cons r0
  obtain ⟨v2, vs2, d2, ds2, p2, q2, rfl, rfl, rfl, h2, r2⟩ := trodAll_cons r1
  obtain ⟨rfl, rfl, rfl⟩ := trodAll_nil r2
  obtain rfl : args = #[v0, v1, v2] := by cases args; simp_all
  obtain ⟨rfl, rfl⟩ := trodVars_none hV
  obtain ⟨a0, rfl, rfl, rfl, w0⟩ := open_int Tryd.underlying3 (hval 0 3 v0 rfl rfl) h0
  obtain ⟨a1, rfl, rfl, rfl, w1⟩ := open_string Tryd.underlying9 (hval 1 9 v1 rfl rfl) h1
  obtain ⟨a2, rfl, rfl, rfl, w2⟩ := open_string Tryd.underlying9 (hval 2 9 v2 rfl rfl) h2
  clear hA0 hval0
  simp only [List.append_nil] at hW'
  refine (seals_any a0 a1 a2 W (halves_of_laid hL)).mono fun e W' ⟨he, hk⟩ => ?_
  subst he
  have hg := hk.to_below (Nat.le_refl _) (fun _ _ h => h)
  refine ⟨_, rfl, _, _, [], [], [], [], hW', ?_, ?_, ?_, ?_, fun h => by cases h⟩
  · exact trodAll_cons_mk (shut_bool Tryd.underlying4 _) trodAll_mk0
  · exact trodAll_cons_mk (shut_int Tryd.underlying3 w0) (trodAll_cons_mk (shut_string Tryd.underlying9 w1) (trodAll_cons_mk (shut_string Tryd.underlying9 w2) trodAll_mk0))
  · rfl
  · exact hg.frame _

theorem recordSeals_holds : Rows.RecordSealsSaid :=
  OpenClaim.holds_of_wide 4 Tryd.f4 rfl rfl rfl rfl rfl rfl rfl ⟨rfl, rfl, rfl, rfl, rfl⟩ rfl rfl rfl rfl rfl (by kernel_rfl) Tryd.func4 (by kernel_rfl)
    (of_decide_eq_true (by kernel_rfl)) (by unfold Func.isWrapper; first | (rw [if_pos (by decide +kernel)]; kernel_rfl) | (rw [if_neg (by decide +kernel)]; exact ⟨rfl, rfl⟩))
    (fun os started H enc _ => recordSeals_lifted os started H enc)
end Go.Proofs.YtpniohbjgpncmaaDoor
