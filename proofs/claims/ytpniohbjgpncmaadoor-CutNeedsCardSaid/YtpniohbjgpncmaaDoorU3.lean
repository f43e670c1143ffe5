/- armariumref21.Need: conditions: at most 60 texts of 500 bytes. -/
import Derived.Test.YtpniohbjgpncmaaDoorU2
import Derived.Test.YtpniohbjgpncmaaDoorP5
namespace Go.Proofs.YtpniohbjgpncmaaDoor
open Go.RowKit Go.Maps Go.WideMaps

theorem eq_txt (a b : ByteArray) : (a.toList == b.toList) = eqB a b := by rw [ByteArray.toList_eq, ByteArray.toList_eq]; rfl
set_option maxRecDepth 20000 in
set_option maxHeartbeats 800000 in
theorem refneed_any (a : Option Addr) (cap : Nat) (ss : List ByteArray) (w : World) (hlen : ss.length ≤ 60) (hs : ∀ k, k < ss.length → (txt ss k).size ≤ 500)
    (hv : 0 < ss.length → Rd w 1 (.slice a ss.length cap) ss.length (strV ss)) :
    Calls Tryd.prog 9 #[.slice a ss.length cap] w fun e w' => e = .returned (.tuple #[.int .i64 (needN ss ss.length), .int .i64 (needK ss ss.length)]) ∧ Keeps No w w' := by
  have HV := Lib.hid hv; clear hv
  have HS := Lib.hid hs; clear hs
  go_enter Tryd.func9, Tryd.ntmps9
  go_wp2
  go_loopw [4, 5, 6, 7, 8] (fun n m i _ _ wr => ∃ k : Nat, k ≤ ss.length ∧ i = .int .i64 k ∧ n = .int .i64 (needN ss k) ∧ m = .int .i64 (needK ss k) ∧ Keeps No w wr)
    (fun _ _ i _ _ _ => ss.length - (intOf i).toNat)
  case atStart => exact ⟨0, Nat.zero_le _, rfl, rfl, rfl, Keeps.refl _ _⟩
  case round =>
    obtain ⟨k, hk, rfl, rfl, rfl, hkw⟩ := hrel
    by_cases hlt : k < ss.length
    · obtain ⟨b, o, rfl, hbl, hck⟩ := rd_cell (HV.out (by omega)) k _ (strV_get ss k hlt)
      have hsz := HS.out k hlt
      have hN := needN_le ss HS.out k hk
      have hK := needK_le ss k
      have hstep : needN ss (k + 1) = needN ss k + if isNew ss k = true then 34 + (txt ss k).size else 0 := rfl
      have hstepk : needK ss (k + 1) = needK ss k + if isNew ss k = true then 1 else 0 := rfl
      have HST := Lib.hid hstep; clear hstep
      have HSK := Lib.hid hstepk; clear hstepk
      obtain ⟨s, hs⟩ : ∃ s, s = txt ss k := ⟨_, rfl⟩
      rw [← hs] at hck hsz
      have HSs := Lib.hid hs; clear hs
      go_wp2
      go_loopw [7, 8] (fun t j W => ∃ n : Nat, n ≤ k ∧ j = .int .i64 n ∧ t = .bool (neTo ss k n) ∧ Keeps No w W) (fun _ j _ => k - (intOf j).toNat)
      case atStart => exact ⟨0, Nat.zero_le _, rfl, rfl, hkw⟩
      case round =>
        obtain ⟨n, hn, rfl, rfl, hkW⟩ := hrel
        by_cases hnk : n < k
        · obtain ⟨b', o', heq, hbl', hcn⟩ := rd_cell (HV.out (by omega)) n _ (strV_get ss n (by omega))
          cases heq
          have hcn2 := hkW.cell hcn (fun h => h)
          have hck2 := hkW.cell hck (fun h => h)
          have hstn : neTo ss k (n + 1) = (neTo ss k n && !eqB (txt ss n) (txt ss k)) := rfl
          rw [← HSs.out] at hstn
          obtain ⟨t, ht⟩ : ∃ t, t = txt ss n := ⟨_, rfl⟩
          rw [← ht] at hcn2 hstn
          have hneq := eq_txt t s
          clear hck hcn ht
          have i1 : ¬ (n : Int) < 0 := by omega
          have i2 : (n : Int) < ss.length := by omega
          have i3 : ¬ (k : Int) < 0 := by omega
          have i4 : (k : Int) < ss.length := by omega
          by_cases hb : neTo ss k n = true
          · rw [hb, Bool.true_and] at hstn
            have HSN := Lib.hid hstn; clear hstn
            go_wp2
            go_quiet (fail)
            go_wp2
            go_roundw
            case rel => exact ⟨n + 1, by omega, by go_num, by rw [HSN.out], Keeps.drewN hkW nq⟩
            case measure => simp [intOf]; omega
          · have hb : neTo ss k n = false := by simpa using hb
            rw [hb, Bool.false_and] at hstn
            have HSN := Lib.hid hstn; clear hstn
            clear hneq
            go_wp2
            go_quiet (fail)
            go_wp2
            go_roundw
            case rel => exact ⟨n + 1, by omega, by go_num, by rw [HSN.out], Keeps.drewN hkW nq⟩
            case measure => simp [intOf]; omega
        · have : n = k := by omega
          subst this
          have hnew : isNew ss n = neTo ss n n := rfl
          have hck2 := hkW.cell hck (fun h => h)
          clear hck
          by_cases hb : neTo ss n n = true
          · have HNW := Lib.hid (hnew.trans hb); clear hnew
            rw [hb]
            go_wp2
            go_roundw
            case rel => exact ⟨n + 1, by omega, by go_num, by rw [HST.out, if_pos HNW.out, ← HSs.out]; go_num, by rw [HSK.out, if_pos HNW.out]; go_num, hkW⟩
            case measure => simp [intOf]; omega
          · have hb : neTo ss n n = false := by simpa using hb
            have HNW := Lib.hid (hnew.trans hb); clear hnew
            rw [hb]
            go_wp2
            refine ⟨⟨n + 1, by omega, by go_num, by rw [HST.out, HNW.out, if_neg (by decide)]; go_num, by rw [HSK.out, HNW.out, if_neg (by decide)]; go_num, hkW⟩, ?_⟩
            simp [intOf]; omega
    · obtain rfl : k = ss.length := by omega
      go_wp2
      go_ret2
      exact ⟨rfl, hkw⟩
end Go.Proofs.YtpniohbjgpncmaaDoor
