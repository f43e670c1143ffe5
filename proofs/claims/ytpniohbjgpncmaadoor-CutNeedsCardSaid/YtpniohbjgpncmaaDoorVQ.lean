/- armariumlaw21.CutNeeds: it returns true: conditions: the two tables lie in their variables. -/
import Derived.Test.YtpniohbjgpncmaaDoorVO
import Derived.Test.YtpniohbjgpncmaaDoorU3
import Derived.Outline
namespace Go.Proofs.YtpniohbjgpncmaaDoor
open Go.RowKit
attribute [local go_sem] Oper.semAt_some

theorem mk241 (w : World) : (Instr.makeSlice 27 (.int .i64 241) (.int .i64 241)).run Tryd.prog w = .ok (.slice (some ⟨w.heap.size, 0, none⟩) 241 241) (w.alloc (.cells (zs 241) 5)) := by kernel_rfl
def tA : ByteArray := ⟨#[1, 97]⟩
def tX : ByteArray := ⟨#[120]⟩
def tY : ByteArray := ⟨#[121]⟩
def ta : ByteArray := ⟨#[97]⟩
def z241 : ByteArray := ⟨(List.replicate 241 0).toArray⟩
theorem z241_size : z241.size = 241 := by
  show (List.replicate 241 (0 : UInt8)).toArray.size = 241
  rw [List.size_toArray, List.length_replicate]
theorem zs241 : zs 241 = (bytesV (List.replicate 241 0)).toArray := rfl
theorem conv241 (W : World) : (convert 27 9 (.slice (some ⟨W.heap.size, 0, none⟩) 241 241)).run Tryd.prog (W.alloc (.cells (zs 241) 5)) = .ok (.string z241) (W.alloc (.cells (zs 241) 5)) := by
  have hz : zs 241 = (bytesV (List.replicate 241 0)).toArray := zs241
  have h : Rd (W.alloc (.cells (zs 241) 5)) 1 (.slice (some ⟨W.heap.size, 0, none⟩) 241 241) (List.replicate 241 (0 : UInt8)).length (bytesV (List.replicate 241 0)) := by
    rw [hz, List.length_replicate]
    exact rd_block (heap_alloc_new W _) 1 241 241 _ (by rw [bytesV_length, List.length_replicate]) (Nat.le_refl _) (fun j u hj => by rw [List.getElem?_toArray]; exact hj)
  exact run_text h 27 5 9 Tryd.underlying27 Tryd.underlying5 Tryd.underlying9
/-- Three cells that a slice reads. -/
theorem rd_three {w : World} {v : Value} {x0 x1 x2 : Value} (h : Rd w 1 v 3 [x0, x1, x2]) : ∃ b o c, v = .slice (some ⟨b, o, none⟩) 3 c ∧ 3 ≤ c ∧ w.cell? ⟨b, o, none⟩ = some x0 ∧ w.cell? ⟨b, o + 1, none⟩ = some x1 ∧ w.cell? ⟨b, o + 2, none⟩ = some x2 := by
  obtain ⟨h1, a, c, rfl, hc, h2, h3⟩ := h
  cases a with
  | none => simp at h2
  | some ad =>
    obtain ⟨h4, h5⟩ := h3 ad rfl
    cases ad with
    | mk b o f =>
      simp at h4
      subst h4
      refine ⟨b, o, c, rfl, hc, ?_, ?_, ?_⟩
      · have := h5 0 x0 rfl; simpa [addr_add] using this
      · have := h5 1 x1 rfl; simpa [addr_add] using this
      · have := h5 2 x2 rfl; simpa [addr_add] using this
theorem need_wakes (t3 : ByteArray) (h : t3.size = 82) : needN [tA, tA, t3] 3 = 152 ∧ needK [tA, tA, t3] 3 = 2 := by
  have h1 : eqB tA t3 = false := by
    cases hb : eqB tA t3 with
    | false => rfl
    | true =>
      have := congrArg List.length (of_eqB hb)
      have hl : t3.data.toList.length = 82 := by rw [← h]; rfl
      rw [hl] at this
      exact absurd this (by decide)
  have h2 : eqB tA tA = true := to_eqB rfl
  have h3 : tA.size = 2 := rfl
  constructor <;> simp [needN, needK, isNew, neTo, txt, h1, h2, h, h3]
theorem need_wakes_at (b o c : Nat) {t3 : ByteArray} (h : t3.size = 82) (w : World) (hv : Rd w 1 (.slice (some ⟨b, o, none⟩) [tA, tA, t3].length c) [tA, tA, t3].length (strV [tA, tA, t3])) :
    Calls Tryd.prog 8 #[.slice (some ⟨b, o, none⟩) 3 c] w fun e w' => e = .returned (.tuple #[.int .i64 152, .int .i64 2]) ∧ Keeps No w w' := by
  obtain ⟨h1, h2⟩ := need_wakes t3 h
  have := need_any (some ⟨b, o, none⟩) c [tA, tA, t3] w (by simp) (fun k hk => by
    match k, hk with
    | 0, _ => show tA.size ≤ 500; decide
    | 1, _ => show tA.size ≤ 500; decide
    | 2, _ => show t3.size ≤ 500; omega) (fun _ => hv)
  rw [show [tA, tA, t3].length = 3 from rfl, h1, h2] at this
  exact this
set_option maxRecDepth 20000 in
set_option maxHeartbeats 3200000 in
theorem wakes_yes (w : World) (hk : KTab w) (hf : KFirst w) : Calls Tryd.prog 7 #[] w fun e w' => e = .returned (.bool true) ∧ Keeps No w w' := by
  have HK := Lib.hid hk; clear hk
  have HF := Lib.hid hf; clear hf
  have hmk := mk241
  have hcv := conv241
  have hz := z241_size
  have HZ := Lib.hid hz; clear hz
  have hcd : Calls Tryd.prog 23 #[.agg #[.bool true, .string ⟨#[]⟩, .slice (some ⟨w.heap.size, 0, none⟩) 2 2]] (w.alloc (.cells #[.string ⟨#[120]⟩, .bool false, .string ⟨#[97]⟩, .slice none 0 0, .string ⟨#[121]⟩, .bool false, .string ⟨#[97]⟩, .slice none 0 0] 67)) (CutPost (fun T => ∃ t3 : ByteArray, T = [tA, tA, t3] ∧ t3.size = 82) (w.alloc (.cells #[.string ⟨#[120]⟩, .bool false, .string ⟨#[97]⟩, .slice none 0 0, .string ⟨#[121]⟩, .bool false, .string ⟨#[97]⟩, .slice none 0 0] 67))) :=
    cut_dir w.heap.size tX ta tY ta (w.alloc (.cells (nodes2 tX ta tY ta) 67)) (heap_alloc_new w _) (HK.out.keeps (keeps_alloc _ _) (fun h => h)) (HF.out.keeps (keeps_alloc _ _) (fun h => h)) (by decide) (by decide) ⟨by decide +kernel, by decide⟩ ⟨by decide +kernel, by decide⟩ (by decide +kernel)
  have HCD := Lib.hid hcd; clear hcd
  have hct : ∀ W, KTab W → KFirst W → Calls Tryd.prog 23 #[.agg #[.bool false, .string z241, .slice none 0 0]] W (CutPost (fun T => ∃ t1 t2 t3 : ByteArray, T = [t1, t2, t3] ∧ t1.size = 241 ∧ t2.size = 2 ∧ t3.size = 76) W) := fun W h1 h2 => by
    have h := cut_two z241 W h1 h2 (by rw [z241_size]; decide) (by rw [z241_size]; decide)
    rw [z241_size] at h
    exact h
  have HCT := Lib.hid hct; clear hct
  go_enter Tryd.func7, Tryd.ntmps7
  go_wp2_with (first | (go_at_call 23; refine HCD.out.mono ?_; rintro e w1 ⟨v1, T1, ⟨t3, hT1, hs3⟩, rfl, hrd1, hk1⟩; have hkw1 := (keeps_alloc w _).same hk1; clear hk1; have HRD1 := Lib.hid hrd1; clear hrd1; have HK1 := Lib.hid hkw1; clear hkw1; have HT1 := Lib.hid hT1; clear hT1; have HS3 := Lib.hid hs3; clear hs3; clear HCD) | (go_at_call 23; refine (HCT.out _ (HK.out.keeps (HK1.out.same (keeps_alloc _ _)) (fun h => h)) (HF.out.keeps (HK1.out.same (keeps_alloc _ _)) (fun h => h))).mono ?_; rintro e w2 ⟨v2, T2, ⟨u1, u2, u3, hT2, hu1, hu2, hu3⟩, rfl, hrd2, hk2⟩; have hrd1 := (HRD1.out.keeps (keeps_alloc _ _) (fun _ _ h => h)).keeps hk2 (fun _ _ h => h); rw [HT1.out] at hrd1; rw [hT2] at hrd2; have HN := Lib.hid (rd_three hrd2); have HRA := Lib.hid hrd1; obtain ⟨b1, o1, c1, rfl, hc1, x10, x11, x12⟩ := rd_three hrd1; have HRB := Lib.hid (show Rd w2 1 (.slice (some ⟨b1, o1, none⟩) [tA, tA, t3].length c1) [tA, tA, t3].length (strV [tA, tA, t3]) from hrd1); have HK2 := Lib.hid ((HK1.out.same (keeps_alloc _ _)).same hk2); have HX := Lib.hid (And.intro x10 (And.intro x11 x12)); have HU := Lib.hid (And.intro hu1 (And.intro hu2 hu3)); clear hrd1 hrd2 hk2 x10 x11 x12 HRD1 HK1 HCT hT2 hu1 hu2 hu3 hmk hcv) | (go_at_call 8; refine (need_wakes_at _ _ _ HS3.out _ HRB.out).mono ?_; rintro e w3 ⟨rfl, hk3⟩; obtain ⟨b2, o2, c2, rfl, hc2, y0, y1, y2⟩ := HN.out; obtain ⟨x0, x1, x2⟩ := HX.out; have x0 := hk3.cell x0 (fun h => h); have x1 := hk3.cell x1 (fun h => h); have x2 := hk3.cell x2 (fun h => h); have y0 := hk3.cell y0 (fun h => h); have y1 := hk3.cell y1 (fun h => h); have y2 := hk3.cell y2 (fun h => h); have HK3 := Lib.hid (HK2.out.same hk3); clear hk3 HN HX HRB HRA HK2))
  obtain ⟨hu1, hu2, hu3⟩ := HU.out
  have hs3 := HS3.out
  have HC1 := hc1
  have HC2 := hc2
  have q11 : (0 : Int) < 3 := by decide
  unfold tA at x0 x1
  clear HU HS3 HT1 HZ HK HF
  go_quiet (fail)
  go_wp2
  go_ret
  exact ⟨rfl, HK3.out.drewN _⟩
end Go.Proofs.YtpniohbjgpncmaaDoor

namespace Go.Proofs.YtpniohbjgpncmaaDoor
open Go.RowKit

set_option maxRecDepth 20000 in
set_option maxHeartbeats 800000 in
theorem cutneeds_long (a : Option Addr) (cap n : Nat) (w : World) (hk : KTab w) (hf : KFirst w) (hn : 60 < n) : Calls Tryd.prog 3 #[.slice a n cap] w fun e w' => e = .returned (.bool true) ∧ Keeps No w w' := by
  have hw := wakes_yes w hk hf
  have HW := Lib.hid hw; clear hw
  have hni : (60 : Int) < n := by omega
  go_enter Tryd.func3, Tryd.ntmps3
  go_wp2_with (first | (go_at_call 7; refine HW.out.mono ?_; rintro e w1 ⟨rfl, hk1⟩))
  go_ret
  exact ⟨rfl, hk1⟩
set_option maxRecDepth 20000 in
set_option maxHeartbeats 1600000 in
theorem cutneeds_any (a : Option Addr) (cap : Nat) (ss : List ByteArray) (w : World) (hk : KTab w) (hf : KFirst w) (hv : 0 < ss.length → Rd w 1 (.slice a ss.length cap) ss.length (strV ss)) :
    Calls Tryd.prog 3 #[.slice a ss.length cap] w fun e w' => e = .returned (.bool true) ∧ Keeps No w w' := by
  by_cases hlen : 60 < ss.length
  · exact cutneeds_long a cap _ w hk hf hlen
  have hl2 : ss.length ≤ 60 := by omega
  have hw := fun W (k : Keeps No w W) => wakes_yes W (hk.keeps k (fun h => h)) (hf.keeps k (fun h => h))
  have HW := Lib.hid hw; clear hw
  have hneed := fun W (k : Keeps No w W) hs => need_any a cap ss W hl2 hs (fun h0 => (hv h0).keeps k (fun _ _ h => h))
  have href := fun W (k : Keeps No w W) hs => refneed_any a cap ss W hl2 hs (fun h0 => (hv h0).keeps k (fun _ _ h => h))
  have HNE := Lib.hid hneed; clear hneed
  have HRE := Lib.hid href; clear href
  have HV := Lib.hid hv; clear hv
  have hli : ¬ ((60 : Int) < ss.length) := by omega
  clear hk hf hlen
  go_enter Tryd.func3, Tryd.ntmps3
  go_wp2
  go_loopw [3] (fun i wr => ∃ k : Nat, k ≤ ss.length ∧ i = .int .i64 k ∧ (∀ j, j < k → (txt ss j).size ≤ 500) ∧ Keeps No w wr) (fun i _ => ss.length - (intOf i).toNat)
  case atStart => exact ⟨0, Nat.zero_le _, rfl, fun j hj => absurd hj (Nat.not_lt_zero _), Keeps.refl _ _⟩
  case round =>
    obtain ⟨k, hk, rfl, hsm, hkw⟩ := hrel
    have HS := Lib.hid hsm; clear hsm
    by_cases hlt : k < ss.length
    · obtain ⟨b, o, rfl, hbl, hck0⟩ := rd_cell (HV.out (by omega)) k _ (strV_get ss k hlt)
      have hck := hkw.cell hck0 (fun h => h)
      clear hck0
      obtain ⟨s, hs⟩ : ∃ s, s = txt ss k := ⟨_, rfl⟩
      rw [← hs] at hck
      by_cases h5 : 500 < s.size
      · have h5i : (500 : Int) < s.size := by omega
        have HSs := Lib.hid hs; clear hs
        go_wp2_with (first | (go_at_call 7; refine (HW.out _ hkw).mono ?_; rintro e w1 ⟨rfl, hk1⟩))
        go_ret
        exact ⟨rfl, hkw.same hk1⟩
      · have h5i : ¬ ((500 : Int) < s.size) := by omega
        have hnext : ∀ j, j < k + 1 → (txt ss j).size ≤ 500 := fun j hj => by
          by_cases h : j = k
          · subst h; rw [← hs]; omega
          · exact HS.out j (by omega)
        have HN := Lib.hid hnext; clear hnext
        have HSs := Lib.hid hs; clear hs
        go_wp2
        go_roundw
        case rel => exact ⟨k + 1, by omega, by go_num, HN.out, hkw⟩
        case measure => simp [intOf]; omega
    · obtain rfl : k = ss.length := by omega
      go_wp2_with (first | (go_at_call 8; refine (HNE.out _ hkw HS.out).mono ?_; rintro e w1 ⟨rfl, hk1⟩; have hkw1 := hkw.same hk1; clear hk1) | (go_at_call 9; refine (HRE.out _ hkw1 HS.out).mono ?_; rintro e w2 ⟨rfl, hk2⟩; have hkw2 := hkw1.same hk2; clear hk2) | (go_at_call 7; refine (HW.out _ hkw2).mono ?_; rintro e w3 ⟨rfl, hk3⟩))
      go_ret
      exact ⟨rfl, hkw2.same hk3⟩
end Go.Proofs.YtpniohbjgpncmaaDoor
