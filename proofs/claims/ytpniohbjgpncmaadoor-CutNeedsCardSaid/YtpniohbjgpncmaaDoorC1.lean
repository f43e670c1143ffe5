import Derived.Test.YtpniohbjgpncmaaDoorPB
import Derived.Test.YtpniohbjgpncmaaDoorC0
namespace Go.Proofs.YtpniohbjgpncmaaDoor
open Go.RowKit

/-- the table of the checksum lies in its variable -/
def Halves (w : World) : Prop := ∀ k, k < 16 → w.cell? ⟨0, k, none⟩ = some (.int .u32 ((crcTab[k]?.getD 0 : Nat) : Int))

theorem xor_c (m c : Nat) (hm : m < 4294967296) (hc : c < 256) : bits .xor .u32 (m : Int) ((c : Int) % 4294967296) = ((m ^^^ c : Nat) : Int) := by
  have : (c : Int) % 4294967296 = c := by omega
  rw [this]
  exact u32_xor_nat m c hm (by omega)

theorem ret_int {k : IntKind} {a b : Int} (h : a = b) : Ending.returned (.int k a) = .returned (.int k b) := by rw [h]
theorem not_nat (m : Nat) (h : m < 4294967296) : 4294967295 ^^^ m = 4294967295 - m := by
  have h1 := BitVec.toNat_not (x := BitVec.ofNat 32 m)
  have h2 : ~~~(BitVec.ofNat 32 m) = BitVec.allOnes 32 ^^^ BitVec.ofNat 32 m := by rw [BitVec.xor_comm, BitVec.xor_allOnes]
  rw [h2, BitVec.toNat_xor, BitVec.toNat_allOnes, BitVec.toNat_ofNat] at h1
  have h3 : m % 2 ^ 32 = m := Nat.mod_eq_of_lt h
  rw [h3] at h1
  exact h1
theorem not_u32 (m : Nat) (h : m < 4294967296) : bits .xor .u32 IntKind.u32.max (m : Int) = ((4294967295 - m : Nat) : Int) := by
  have h1 := u32_xor_nat 4294967295 m (by decide) h
  rw [not_nat m h] at h1
  exact h1
theorem tab_lt (k : Nat) : crcTab[k]?.getD 0 < 4294967296 := by
  by_cases h : k < 16
  · have : ∀ r : Fin 16, crcTab[r.val]?.getD 0 < 4294967296 := by decide
    exact this ⟨k, h⟩
  · rw [List.getElem?_eq_none (by simp [crcTab]; omega)]
    decide
theorem crc_step {w : World} (ht : Halves w) (X : Nat) (hX : X < 4294967296) : ∃ T : Nat, bits .and .u32 (X : Int) 15 = ((X % 16 : Nat) : Int) ∧ w.cell? ⟨0, X % 16, none⟩ = some (.int .u32 (T : Int)) ∧ bits .xor .u32 (T : Int) ((X : Int) / 16) = ((crcHalf X : Nat) : Int) ∧ ((X % 16 : Nat) : Int) < 16 := by
  refine ⟨crcTab[X % 16]?.getD 0, ?_, ht _ (Nat.mod_lt _ (by decide)), ?_, by omega⟩
  · have := u32_and_nat X 15 hX (by decide)
    rw [nat_mask4] at this
    exact this
  · have e : ((X : Int) / 16) = ((X / 16 : Nat) : Int) := by omega
    rw [e, u32_xor_nat _ _ (tab_lt _) (by omega)]
    rfl

set_option maxRecDepth 20000 in
set_option maxHeartbeats 400000 in
theorem crc_any (v : Value) (l : List UInt8) (w : World) (hv : Rd w 1 v l.length (bytesV l)) (hl : l.length < 1000000) (ht : Halves w) :
    Calls Tryd.prog 26 #[v] w fun e w' => e = .returned (.int .u32 (crcOf l)) ∧ w = w' := by
  obtain ⟨h1, a, c, rfl, hc, h2, h3⟩ := hv
  clear h1
  have hcell : ∀ k (h : k < l.length), ∃ b o, a = some ⟨b, o, none⟩ ∧ w.cell? ⟨b, o + k, none⟩ = some (.int .u8 (l[k].toNat : Int)) := fun k h => by
    cases a with
    | none => have := (h2 rfl).1; omega
    | some ad =>
      obtain ⟨b, o, sp⟩ := ad
      obtain ⟨hsp, h5⟩ := h3 _ rfl
      simp at hsp
      subst hsp
      have := h5 k (.int .u8 (l[k].toNat : Int)) (by simp [bytesV, h])
      rw [addr_add] at this
      exact ⟨b, o, rfl, this⟩
  clear h3 h2
  have HT := Lib.hid ht; clear ht
  have HC := Lib.hid hcell; clear hcell
  go_enter Tryd.func26, Tryd.ntmps26
  go_wp2
  go_loop [3, 8] (fun n i => ∃ k : Nat, k ≤ l.length ∧ i = .int .i64 k ∧ n = .int .u32 (crcTo l k)) (fun _ i => l.length - (intOf i).toNat)
  case atStart => exact ⟨0, Nat.zero_le _, rfl, rfl⟩
  case round =>
    obtain ⟨k, hk, rfl, rfl⟩ := hrel
    by_cases hlt : k < l.length
    · obtain ⟨b, o, rfl, hck⟩ := HC.out k hlt
      have hx := xor_c (crcTo l k) (l[k]).toNat (crcTo_lt l k hk) (l[k]).toNat_lt
      obtain ⟨X, hX⟩ : ∃ X, X = crcTo l k ^^^ (l[k]).toNat := ⟨_, rfl⟩
      have hXl : X < 4294967296 := by rw [hX]; exact Nat.xor_lt_two_pow (n := 32) (crcTo_lt l k hk) (by have := (l[k]).toNat_lt; omega)
      rw [← hX] at hx
      have HX := Lib.hid hX; clear hX
      obtain ⟨T, ha, hb, hc2, hd⟩ := crc_step HT.out X hXl
      obtain ⟨Y, hY⟩ : ∃ Y, Y = crcHalf X := ⟨_, rfl⟩
      have hYl : Y < 4294967296 := by rw [hY]; exact crcHalf_lt X hXl
      rw [← hY] at hc2
      have HY := Lib.hid hY; clear hY
      obtain ⟨T2, ha2, hb2, hc3, hd2⟩ := crc_step HT.out Y hYl
      obtain ⟨Z, hZ⟩ : ∃ Z, Z = crcHalf Y := ⟨_, rfl⟩
      rw [← hZ] at hc3
      have HZ := Lib.hid hZ; clear hZ
      have hXY : ¬ ((X % 16 : Nat) : Int) < 0 := by omega
      have hXY2 : ¬ ((Y % 16 : Nat) : Int) < 0 := by omega
      go_wp2
      refine wp_loop_rounds 3 ?_
      rw [rounds_succ]
      go_wp2
      rw [rounds_succ]
      go_wp2
      rw [rounds_succ]
      go_wp2
      go_round
      case rel => exact ⟨k + 1, by omega, by go_num, by rw [crcTo_succ l k hlt, crcByte, ← HX.out, ← HY.out, ← HZ.out]⟩
      case measure => simp [intOf]; omega
    · go_wp2
      go_ret
      obtain rfl : k = l.length := by omega
      exact ⟨ret_int (not_u32 _ (crcTo_lt l l.length (Nat.le_refl _))), rfl⟩
end Go.Proofs.YtpniohbjgpncmaaDoor
