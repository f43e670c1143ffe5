/- cut.Need: conditions: at most 60 texts of 500 bytes. -/
import Derived.Test.YtpniohbjgpncmaaDoorU1
namespace Go.Proofs.YtpniohbjgpncmaaDoor
open Go.RowKit Go.Maps Go.WideMaps

theorem law9 : Keyed Tryd.prog 9 := string_keyed Tryd.underlying9
theorem zero3 (w : World) : (zeroValue 3).run Tryd.prog w = .ok (.int .i64 0) w := by kernel_rfl
def strV (ss : List ByteArray) : List Value := ss.map Value.string
theorem strV_length (ss : List ByteArray) : (strV ss).length = ss.length := by simp [strV]
theorem strV_get (ss : List ByteArray) (k : Nat) (h : k < ss.length) : (strV ss)[k]? = some (.string (txt ss k)) := by
  simp [strV, txt, List.getD, List.getElem?_eq_getElem h]
theorem rd_cell {w : World} {a : Option Addr} {n c : Nat} {xs : List Value} (h : Rd w 1 (.slice a n c) n xs) (k : Nat) (x : Value) (hx : xs[k]? = some x) : ∃ b o, a = some ⟨b, o, none⟩ ∧ b < w.heap.size ∧ w.cell? ⟨b, o + k, none⟩ = some x := by
  obtain ⟨h1, a', c', he, hc, h2, h3⟩ := h
  cases he
  cases a with
  | none =>
    have := (h2 rfl).1
    have := (List.getElem?_eq_some_iff.1 hx).1
    omega
  | some ad =>
    obtain ⟨b, o, sp⟩ := ad
    obtain ⟨hsp, h5⟩ := h3 _ rfl
    simp at hsp
    subst hsp
    have := h5 k x hx
    rw [addr_add] at this
    exact ⟨b, o, rfl, World.block_lt_of_cell? w _ this, this⟩
theorem keyL_of (ss : List ByteArray) (k : Nat) (h : (txt ss k).size ≤ 500) : keyOf Tryd.prog 9 (.string (txt ss k)) = some (keyL ss k) :=
  keyOf_string_mk Tryd.underlying9 (Nat.le_trans h (by decide))

set_option maxRecDepth 20000 in
set_option maxHeartbeats 400000 in
theorem need_any (a : Option Addr) (cap : Nat) (ss : List ByteArray) (w : World) (hlen : ss.length ≤ 60) (hs : ∀ k, k < ss.length → (txt ss k).size ≤ 500)
    (hv : 0 < ss.length → Rd w 1 (.slice a ss.length cap) ss.length (strV ss)) :
    Calls Tryd.prog 8 #[.slice a ss.length cap] w fun e w' => e = .returned (.tuple #[.int .i64 (needN ss ss.length), .int .i64 (needK ss ss.length)]) ∧ Keeps No w w' := by
  have hmm := @run_makeMap Tryd.prog
  have HV := Lib.hid hv; clear hv
  have HS := Lib.hid hs; clear hs
  go_enter Tryd.func8, Tryd.ntmps8
  go_wp2
  go_loopw [5, 11] (fun n i wr => ∃ k : Nat, k ≤ ss.length ∧ i = .int .i64 k ∧ n = .int .i64 (needN ss k) ∧ wr.ownsMap Tryd.prog 9 (plainElem (H := Unit) Tryd.prog 3) w.heap.size k (seenD ss k) ∧ Below w.heap.size w wr)
    (fun _ i _ => ss.length - (intOf i).toNat)
  case atStart => exact ⟨0, Nat.zero_le _, rfl, rfl, World.ownsMap_made _ _ _ _, (Below.refl _ _).alloc (Nat.le_refl _) _⟩
  case round =>
    obtain ⟨k, hk, rfl, rfl, hown, hnx⟩ := hrel
    by_cases hlt : k < ss.length
    · obtain ⟨b, o, rfl, hbl, hck⟩ := rd_cell (HV.out (by omega)) k _ (strV_get ss k hlt)
      have hck2 : wr.cell? ⟨b, o + k, none⟩ = some (.string (txt ss k)) := (hnx.cell (by exact hbl)).trans hck
      have hkey := keyL_of ss k (HS.out k hlt)
      have hsz := HS.out k hlt
      have hN := needN_le ss HS.out k hk
      have hat0 := seen_at (H := Unit) ss k k
      clear hck
      obtain ⟨c, hrun, hat, _⟩ := hown.lookup_int law9 Tryd.underlying68 Tryd.underlying3 (zero3 _) hkey
      have hat1 := hat.symm.trans hat0
      have hstep : needN ss (k + 1) = needN ss k + if isNew ss k = true then 34 + (txt ss k).size else 0 := rfl
      have hD : seenD (H := Unit) ss (k + 1) = if isNew ss k = true then (seenD ss k).put (keyL ss k) one64 else seenD ss k := rfl
      obtain ⟨s, hs⟩ : ∃ s, s = txt ss k := ⟨_, rfl⟩
      rw [← hs] at hck2 hkey hrun hsz hstep
      have HSs := Lib.hid hs; clear hs
      by_cases hn : isNew ss k = true
      · have : neTo ss k k = true := hn
        rw [this, if_pos rfl] at hat1
        injection hat1 with hat1; injection hat1 with _ hat1
        subst hat1
        rw [if_pos hn] at hstep hD
        have HST := Lib.hid hstep; clear hstep
        have HD := Lib.hid hD; clear hD
        clear hat hat0 hn this
        go_wp2_with (first
          | (at_mapUpdate; refine wpList_mapUpdate_own _ rfl _ _ _ 68 rfl 9 3 law9 Tryd.underlying68 _ w.heap.size k _ rfl hown (by unfold maxLen; omega) _ _ _ rfl rfl hkey _ [] (plainElem_int Tryd.underlying3 (by decide)) ?_)
          | go_in)
        intro w1 hown1 hgrow1
        have R1 := HD.out.symm ▸ hown1
        have R2 := hnx.grown hgrow1 hnx.size (fun j hj => by cases hj; exact Nat.le_refl _)
        clear hown1 hgrow1 hown hrun
        go_wp2
        go_roundw
        case rel => exact ⟨k + 1, by omega, by go_num, by rw [HST.out]; go_num, R1, R2⟩
        case measure => simp [intOf]; omega
      · have : neTo ss k k = false := by simpa [isNew] using hn
        rw [this, if_neg (by decide)] at hat1
        injection hat1 with hat1; injection hat1 with _ hat1
        subst hat1
        rw [if_neg hn] at hstep hD
        have HST := Lib.hid hstep; clear hstep
        have HD := Lib.hid hD; clear hD
        clear hat hat0 hn this
        go_wp2
        go_roundw
        case rel => exact ⟨k + 1, by omega, by go_num, by rw [HST.out]; rfl, by rw [HD.out]; exact hown.mono (by omega), hnx⟩
        case measure => simp [intOf]; omega
    · obtain rfl : k = ss.length := by omega
      have hsize := seen_size (H := Unit) ss ss.length
      have HZ := Lib.hid hsize; clear hsize
      go_wp2_with (first | (at_len; refine wpList_len_own _ rfl _ 68 rfl 9 3 Tryd.underlying68 _ _ _ _ rfl hown ?_; rw [HZ.out]))
      go_ret2
      exact ⟨rfl, Keeps.of_below hnx _⟩
end Go.Proofs.YtpniohbjgpncmaaDoor
