import Derived.Test.YtpniohbjgpncmaaDoorP7
namespace Go.Proofs.YtpniohbjgpncmaaDoor
open Go.RowKit

def valTo (l : List UInt8) (k : Nat) : Nat := (l.take k).foldl (fun n c => n * 256 + c.toNat) 0

theorem valTo_succ (l : List UInt8) (k : Nat) (h : k < l.length) : valTo l (k + 1) = valTo l k * 256 + (l[k]).toNat := by
  unfold valTo
  rw [List.take_succ_eq_append_getElem h, List.foldl_append]
  rfl
theorem valTo_lt (l : List UInt8) (k : Nat) (h : k ≤ l.length) : valTo l k < 256 ^ k := by
  induction k with
  | zero => simp [valTo]
  | succ k ih =>
    rw [valTo_succ l k h, Nat.pow_succ]
    have := ih (by omega)
    have := (l[k]).toNat_lt
    omega
theorem or_byte (m c : Nat) (hm : m < 72057594037927936) (hc : c < 256) : bits .or .u64 (IntKind.u64.wrap ((m : Int) * 256)) (IntKind.u64.wrap (c : Int)) = ((m * 256 + c : Nat) : Int) := by
  have e1 : IntKind.u64.wrap ((m : Int) * 256) = ((m * 256 : Nat) : Int) := by rw [IntKind.wrap_u64]; omega
  have e2 : IntKind.u64.wrap (c : Int) = ((c : Nat) : Int) := by rw [IntKind.wrap_u64]; omega
  rw [e1, e2, bits_or_u64_nat _ _ (by omega) (by omega), nat_join 8 _ _ (by omega) (by omega)]
theorem take1_step (l : List UInt8) (k : Nat) (h : k < l.length) (h8 : l.length ≤ 8) : bits .or .u64 (IntKind.u64.wrap (↑(valTo l k) * 256)) (IntKind.u64.wrap ↑(l[k]).toNat) = ↑(valTo l (k + 1)) := by
  rw [valTo_succ l k h, or_byte]
  · have := valTo_lt l k (by omega)
    have h2 : 256 ^ k ≤ 256 ^ 7 := Nat.pow_le_pow_right (by omega) (by omega)
    omega
  · exact (l[k]).toNat_lt

set_option maxRecDepth 20000 in
set_option maxHeartbeats 400000 in
theorem take1_any (v : Value) (l : List UInt8) (w : World) (hv : Rd w 1 v l.length (bytesV l)) (hl : l.length ≤ 8) :
    Calls Tryd.prog 84 #[v] w fun e w' => e = .returned (.int .u64 (valTo l l.length)) ∧ w = w' := by
  obtain ⟨h1, a, c, rfl, hc, h2, h3⟩ := hv
  clear h1
  cases a with
  | none => 
    obtain ⟨h4, rfl⟩ := h2 rfl
    obtain rfl : l = [] := List.eq_nil_of_length_eq_zero h4
    clear h3 h2
    go_enter Tryd.func84, Tryd.ntmps84
    go_wp2
    refine wp_loop_rounds 1 ?_
    rw [rounds_succ]
    go_wp2
    go_ret
    exact ⟨rfl, rfl⟩
  | some ad =>
    obtain ⟨b, o, sp⟩ := ad
    obtain ⟨hsp, h5⟩ := h3 _ rfl
    simp at hsp
    subst hsp
    have hcell : ∀ k (h : k < l.length), w.cell? ⟨b, o + k, none⟩ = some (.int .u8 (l[k].toNat : Int)) := fun k h => by
      have := h5 k (.int .u8 (l[k].toNat : Int)) (by simp [bytesV, h])
      rwa [addr_add] at this
    clear h5 h3 h2
    go_enter Tryd.func84, Tryd.ntmps84
    go_wp2
    go_loop [3, 8] (fun n i => ∃ k : Nat, k ≤ l.length ∧ i = .int .i64 k ∧ n = .int .u64 (valTo l k)) (fun _ i => l.length - (intOf i).toNat)
    case atStart => exact ⟨0, Nat.zero_le _, rfl, rfl⟩
    case round =>
      obtain ⟨k, hk, rfl, rfl⟩ := hrel
      by_cases hlt : k < l.length
      · have hck := hcell k hlt
        have H := Lib.hid hcell; clear hcell
        go_wp2
        go_round
        case rel => exact ⟨k + 1, by omega, by go_num, by rw [take1_step l k hlt hl]⟩
        case measure => simp [intOf]; omega
      · go_wp2
        go_ret
        obtain rfl : k = l.length := by omega
        exact ⟨rfl, rfl⟩
end Go.Proofs.YtpniohbjgpncmaaDoor
