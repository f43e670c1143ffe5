/- What texts need, by the program and by the reference: conditions: at most 60 texts. -/
import Derived.Test.YtpniohbjgpncmaaDoorK
import Derived.Maps.Own
import Derived.Maps.OwnOps
import Derived.Maps.OwnSet
import Derived.Maps.Views
import Derived.Deep.QuietTactic
import Derived.BigQuiet
namespace Go.Proofs.YtpniohbjgpncmaaDoor
open Go.RowKit Go.Maps Go.WideMaps

def txt (ss : List ByteArray) (k : Nat) : ByteArray := ss.getD k ByteArray.empty
def eqB (a b : ByteArray) : Bool := a.data.toList == b.data.toList
theorem of_eqB {a b : ByteArray} (h : eqB a b = true) : a.data.toList = b.data.toList := by
  unfold eqB at h; rwa [beq_iff_eq] at h
theorem to_eqB {a b : ByteArray} (h : a.data.toList = b.data.toList) : eqB a b = true := by
  unfold eqB; rw [beq_iff_eq]; exact h
theorem eqB_left {a b x : ByteArray} (h : a.data.toList = b.data.toList) : eqB x a = eqB x b := by
  unfold eqB; rw [h]
/-- Do the first j texts all differ from text i? -/
def neTo (ss : List ByteArray) (i : Nat) : Nat → Bool
  | 0 => true
  | j + 1 => neTo ss i j && !eqB (txt ss j) (txt ss i)
def isNew (ss : List ByteArray) (i : Nat) : Bool := neTo ss i i
/-- How much room the first k texts need. -/
def needN (ss : List ByteArray) : Nat → Nat
  | 0 => 0
  | k + 1 => needN ss k + if isNew ss k = true then 34 + (txt ss k).size else 0
/-- How many unlike ones there are among the first k. -/
def needK (ss : List ByteArray) : Nat → Nat
  | 0 => 0
  | k + 1 => needK ss k + if isNew ss k = true then 1 else 0

def keyL (ss : List ByteArray) (k : Nat) : Lit := .string (txt ss k).data.toList
def one64 {H : Type} : DataW H := .lit (.int .i64 1)
def nil64 {H : Type} : DataW H := .lit (.int .i64 0)
/-- The map behind k rounds. -/
def seenD {H : Type} (ss : List ByteArray) : Nat → DataW H
  | 0 => .map []
  | k + 1 => if isNew ss k = true then (seenD ss k).put (keyL ss k) one64 else seenD ss k

theorem seen_isMap {H : Type} (ss : List ByteArray) : ∀ k, IsMap (seenD (H := H) ss k)
  | 0 => isMap_empty
  | k + 1 => by
    unfold seenD
    split
    · exact (seen_isMap ss k).put _ _
    · exact seen_isMap ss k
theorem key_lit (ss : List ByteArray) (k : Nat) : WideAt.IsKeyLit (keyL ss k) := by
  unfold keyL WideAt.IsKeyLit; trivial
theorem seen_at {H : Type} (ss : List ByteArray) (i : Nat) : ∀ k, (seenD (H := H) ss k).atKey (keyL ss i) nil64 = if neTo ss i k = true then nil64 else one64
  | 0 => rfl
  | k + 1 => by
    have ih := seen_at (H := H) ss i k
    unfold seenD neTo
    by_cases hn : isNew ss k = true
    · rw [if_pos hn]
      by_cases hb : eqB (txt ss k) (txt ss i) = true
      · have he := of_eqB hb
        have hk : keyL ss k = keyL ss i := by unfold keyL; rw [he]
        rw [hk, atKey_put_same (seen_isMap ss k) (key_lit ss i)]
        simp [hb]
      · have hk : keyL ss i ≠ keyL ss k := by
          unfold keyL; intro h; injection h with h; exact hb (to_eqB h.symm)
        rw [atKey_put_other hk, ih]
        simp [hb]
    · rw [if_neg hn, ih]
      by_cases hb : eqB (txt ss k) (txt ss i) = true
      · have he := of_eqB hb
        have hx : ∀ j, neTo ss k j = neTo ss i j := by
          intro j
          induction j with
          | zero => rfl
          | succ j ihj => unfold neTo; rw [ihj, eqB_left he]
        have : neTo ss i k = false := by
          rw [← hx k]; simpa [isNew] using hn
        simp [this]
      · simp [hb]
theorem seen_has {H : Type} (ss : List ByteArray) (i : Nat) : ∀ k, Maps.has (seenD (H := H) ss k) (keyL ss i) = !neTo ss i k
  | 0 => rfl
  | k + 1 => by
    have ih := seen_has (H := H) ss i k
    unfold seenD neTo
    by_cases hn : isNew ss k = true
    · rw [if_pos hn]
      by_cases hb : eqB (txt ss k) (txt ss i) = true
      · have he := of_eqB hb
        have hk : keyL ss k = keyL ss i := by unfold keyL; rw [he]
        rw [hk, has_put_same (seen_isMap ss k) (key_lit ss i)]
        simp [hb]
      · have hk : keyL ss i ≠ keyL ss k := by
          unfold keyL; intro h; injection h with h; exact hb (to_eqB h.symm)
        rw [has_put_other hk, ih]
        simp [hb]
    · rw [if_neg hn, ih]
      by_cases hb : eqB (txt ss k) (txt ss i) = true
      · have he := of_eqB hb
        have hx : ∀ j, neTo ss k j = neTo ss i j := by
          intro j
          induction j with
          | zero => rfl
          | succ j ihj => unfold neTo; rw [ihj, eqB_left he]
        have : neTo ss i k = false := by
          rw [← hx k]; simpa [isNew] using hn
        simp [this]
      · simp [hb]
theorem seen_tidy {H : Type} (ss : List ByteArray) : ∀ k, Tidy (seenD (H := H) ss k)
  | 0 => tidy_empty
  | k + 1 => by
    unfold seenD
    split
    · exact (seen_tidy ss k).put (key_lit ss k) _
    · exact seen_tidy ss k
theorem seen_size {H : Type} (ss : List ByteArray) : ∀ k, Maps.size (seenD (H := H) ss k) = needK ss k
  | 0 => rfl
  | k + 1 => by
    have ih := seen_size (H := H) ss k
    unfold seenD needK
    by_cases hn : isNew ss k = true
    · rw [if_pos hn, if_pos hn]
      have hh := seen_has (H := H) ss k k
      have : neTo ss k k = true := hn
      rw [this] at hh
      rw [size_put (seen_tidy ss k)]
      simp [hh, ih]
    · rw [if_neg hn, if_neg hn, ih]; rfl
theorem needN_le (ss : List ByteArray) (h : ∀ k, k < ss.length → (txt ss k).size ≤ 500) : ∀ k, k ≤ ss.length → needN ss k ≤ 534 * k
  | 0, _ => Nat.le_refl _
  | k + 1, hk => by
    have ih := needN_le ss h k (by omega)
    have := h k (by omega)
    unfold needN
    split <;> omega
theorem needK_le (ss : List ByteArray) : ∀ k, needK ss k ≤ k
  | 0 => Nat.le_refl _
  | k + 1 => by
    have ih := needK_le ss k
    unfold needK
    split <;> omega
end Go.Proofs.YtpniohbjgpncmaaDoor
