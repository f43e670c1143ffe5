import Derived.Test.YtpniohbjgpncmaaDoorR1
namespace Go.Proofs.YtpniohbjgpncmaaDoor
open Go.RowKit

theorem be_succ (i n : Nat) : be (i + 1) n = UInt8.ofNat (n / 256 ^ i) :: be i n := by
  unfold be beTo
  rw [List.range_succ_eq_map, List.map_cons, List.map_map]
  congr 1
  · simp only [Nat.add_sub_cancel, Nat.sub_zero]
    rw [show (256 : Nat) ^ i = 2 ^ (8 * i) by rw [Nat.pow_mul]]
  · apply List.map_congr_left
    intro t ht
    simp only [Function.comp]
    rw [show i + 1 - 1 - (t + 1) = i - 1 - t by omega]

theorem cat_be {n : Nat} (W : World) (M k : Nat) {b : Nat} (hk : k ≤ b) (hbe : be (k + 1) n = UInt8.ofNat M :: be k n) (hb : b ≤ 8 := by decide) : (Op.stringOp .add ⟨#[UInt8.ofNat M]⟩ ⟨(be k n).toArray⟩).run Tryd.prog W = .ok (.string ⟨(be (k + 1) n).toArray⟩) W := by
  rw [hbe]
  exact run_string_add_lists W [UInt8.ofNat M] (be k n) (by simp) (by rw [be_length]; omega)
theorem u64_div (M : Nat) (h : M < U64) : IntKind.u64.wrap ((M : Int) / 256) = ((M / 256 : Nat) : Int) := by
  rw [IntKind.wrap_u64]
  unfold U64 at h
  omega
theorem one_text (w : World) (M C : Nat) (hC : C = M % 256) : (convert 27 9 (.slice (some ⟨w.heap.size, 0, none⟩) 1 1)).run Tryd.prog (w.alloc (.cells #[.int .u8 (C : Int)] 5)) = .ok (.string ⟨#[UInt8.ofNat M]⟩) (w.alloc (.cells #[.int .u8 (C : Int)] 5)) := by
  have h := rd_one w (.int .u8 (C : Int)) 5
  have e : [Value.int .u8 (C : Int)] = bytesV [UInt8.ofNat M] := by show _ = [Value.int .u8 ((UInt8.ofNat M).toNat : Int)]; rw [UInt8.toNat_ofNat', hC]
  have h2 : Rd (w.alloc (.cells #[.int .u8 (C : Int)] 5)) 1 (.slice (some ⟨w.heap.size, 0, none⟩) [UInt8.ofNat M].length 1) [UInt8.ofNat M].length (bytesV [UInt8.ofNat M]) := by rw [← e]; exact h
  exact run_text h2 27 5 9 Tryd.underlying27 Tryd.underlying5 Tryd.underlying9

set_option maxRecDepth 20000 in
set_option maxHeartbeats 800000 in
theorem refnum_any (width n : Nat) (hw : width = 1 ∨ width = 2 ∨ width = 4 ∨ width = 8) (hn : n < U64) (w : World) :
    Calls Tryd.prog 78 #[.int .i64 width, .int .u64 n] w fun e w' => ∃ b, e = .returned (.tuple #[.string ⟨(be width n).toArray⟩, .bool b]) ∧ Keeps No w w' := by
  have HN := Lib.hid hn; clear hn
  rcases hw with rfl | rfl | rfl | rfl
  · go_enter Tryd.func78, Tryd.ntmps78
    go_wp2
    go_loopw [1, 6, 7] (fun m s i wr => ∃ k : Nat, k ≤ 1 ∧ i = .int .i64 k ∧ s = .string ⟨(be k n).toArray⟩ ∧ m = .int .u64 ((n / 256 ^ k : Nat)) ∧ Keeps No w wr) (fun _ _ i _ => 1 - (intOf i).toNat)
    case atStart => exact ⟨0, by omega, rfl, rfl, by simp, Keeps.refl _ _⟩
    case round =>
      obtain ⟨k, hk, rfl, rfl, rfl, hkp⟩ := hrel
      obtain ⟨M, hM⟩ : ∃ M, M = n / 256 ^ k := ⟨_, rfl⟩
      have hbe := be_succ k n
      have hM2 : n / 256 ^ (k + 1) = M / 256 := by rw [hM, Nat.pow_succ, Nat.div_div_eq_div_mul]
      rw [← hM] at hbe ⊢
      have HU : Hid (M < U64) := Nat.lt_of_le_of_lt (by rw [hM]; exact Nat.div_le_self _ _) HN.out
      have HM := Lib.hid hM; clear hM
      have HM2 := Lib.hid hM2; clear hM2
      have hcat := fun W => cat_be (n := n) W M k hk hbe
      have HBE := Lib.hid hbe; clear hbe
      obtain ⟨C, hC⟩ : ∃ C, C = M % 256 := ⟨_, rfl⟩
      have hcl : (C : Int) < 256 := by omega
      have hcl0 : (0 : Int) ≤ C := by omega
      have ht : (M : Int).tmod 256 = (C : Int) := by rw [Int.tmod_eq_emod_of_nonneg (by omega)]; omega
      have hd : (M : Int).tdiv 256 = ((M / 256 : Nat) : Int) := by rw [Int.tdiv_eq_ediv_of_nonneg (by omega)]; omega
      have hcc := one_text wr M C hC
      have HC := Lib.hid hC; clear hC
      by_cases hlt : k < 1
      · go_wp2
        go_roundw
        case rel => exact ⟨k + 1, by omega, by go_num, rfl, by rw [HM2.out, u64_div M HU.out], hkp.alloc _⟩
        case measure => simp [intOf]; omega
      · go_wp2
        go_ret2
        obtain rfl : k = 1 := by omega
        exact ⟨_, rfl, hkp⟩
  · go_enter Tryd.func78, Tryd.ntmps78
    go_wp2
    go_loopw [1, 6, 7] (fun m s i wr => ∃ k : Nat, k ≤ 2 ∧ i = .int .i64 k ∧ s = .string ⟨(be k n).toArray⟩ ∧ m = .int .u64 ((n / 256 ^ k : Nat)) ∧ Keeps No w wr) (fun _ _ i _ => 2 - (intOf i).toNat)
    case atStart => exact ⟨0, by omega, rfl, rfl, by simp, Keeps.refl _ _⟩
    case round =>
      obtain ⟨k, hk, rfl, rfl, rfl, hkp⟩ := hrel
      obtain ⟨M, hM⟩ : ∃ M, M = n / 256 ^ k := ⟨_, rfl⟩
      have hbe := be_succ k n
      have hM2 : n / 256 ^ (k + 1) = M / 256 := by rw [hM, Nat.pow_succ, Nat.div_div_eq_div_mul]
      rw [← hM] at hbe ⊢
      have HU : Hid (M < U64) := Nat.lt_of_le_of_lt (by rw [hM]; exact Nat.div_le_self _ _) HN.out
      have HM := Lib.hid hM; clear hM
      have HM2 := Lib.hid hM2; clear hM2
      have hcat := fun W => cat_be (n := n) W M k hk hbe
      have HBE := Lib.hid hbe; clear hbe
      obtain ⟨C, hC⟩ : ∃ C, C = M % 256 := ⟨_, rfl⟩
      have hcl : (C : Int) < 256 := by omega
      have hcl0 : (0 : Int) ≤ C := by omega
      have ht : (M : Int).tmod 256 = (C : Int) := by rw [Int.tmod_eq_emod_of_nonneg (by omega)]; omega
      have hd : (M : Int).tdiv 256 = ((M / 256 : Nat) : Int) := by rw [Int.tdiv_eq_ediv_of_nonneg (by omega)]; omega
      have hcc := one_text wr M C hC
      have HC := Lib.hid hC; clear hC
      by_cases hlt : k < 2
      · go_wp2
        go_roundw
        case rel => exact ⟨k + 1, by omega, by go_num, rfl, by rw [HM2.out, u64_div M HU.out], hkp.alloc _⟩
        case measure => simp [intOf]; omega
      · go_wp2
        go_ret2
        obtain rfl : k = 2 := by omega
        exact ⟨_, rfl, hkp⟩
  · go_enter Tryd.func78, Tryd.ntmps78
    go_wp2
    go_loopw [1, 6, 7] (fun m s i wr => ∃ k : Nat, k ≤ 4 ∧ i = .int .i64 k ∧ s = .string ⟨(be k n).toArray⟩ ∧ m = .int .u64 ((n / 256 ^ k : Nat)) ∧ Keeps No w wr) (fun _ _ i _ => 4 - (intOf i).toNat)
    case atStart => exact ⟨0, by omega, rfl, rfl, by simp, Keeps.refl _ _⟩
    case round =>
      obtain ⟨k, hk, rfl, rfl, rfl, hkp⟩ := hrel
      obtain ⟨M, hM⟩ : ∃ M, M = n / 256 ^ k := ⟨_, rfl⟩
      have hbe := be_succ k n
      have hM2 : n / 256 ^ (k + 1) = M / 256 := by rw [hM, Nat.pow_succ, Nat.div_div_eq_div_mul]
      rw [← hM] at hbe ⊢
      have HU : Hid (M < U64) := Nat.lt_of_le_of_lt (by rw [hM]; exact Nat.div_le_self _ _) HN.out
      have HM := Lib.hid hM; clear hM
      have HM2 := Lib.hid hM2; clear hM2
      have hcat := fun W => cat_be (n := n) W M k hk hbe
      have HBE := Lib.hid hbe; clear hbe
      obtain ⟨C, hC⟩ : ∃ C, C = M % 256 := ⟨_, rfl⟩
      have hcl : (C : Int) < 256 := by omega
      have hcl0 : (0 : Int) ≤ C := by omega
      have ht : (M : Int).tmod 256 = (C : Int) := by rw [Int.tmod_eq_emod_of_nonneg (by omega)]; omega
      have hd : (M : Int).tdiv 256 = ((M / 256 : Nat) : Int) := by rw [Int.tdiv_eq_ediv_of_nonneg (by omega)]; omega
      have hcc := one_text wr M C hC
      have HC := Lib.hid hC; clear hC
      by_cases hlt : k < 4
      · go_wp2
        go_roundw
        case rel => exact ⟨k + 1, by omega, by go_num, rfl, by rw [HM2.out, u64_div M HU.out], hkp.alloc _⟩
        case measure => simp [intOf]; omega
      · go_wp2
        go_ret2
        obtain rfl : k = 4 := by omega
        exact ⟨_, rfl, hkp⟩
  · go_enter Tryd.func78, Tryd.ntmps78
    go_wp2
    go_loopw [1, 6, 7] (fun m s i wr => ∃ k : Nat, k ≤ 8 ∧ i = .int .i64 k ∧ s = .string ⟨(be k n).toArray⟩ ∧ m = .int .u64 ((n / 256 ^ k : Nat)) ∧ Keeps No w wr) (fun _ _ i _ => 8 - (intOf i).toNat)
    case atStart => exact ⟨0, by omega, rfl, rfl, by simp, Keeps.refl _ _⟩
    case round =>
      obtain ⟨k, hk, rfl, rfl, rfl, hkp⟩ := hrel
      obtain ⟨M, hM⟩ : ∃ M, M = n / 256 ^ k := ⟨_, rfl⟩
      have hbe := be_succ k n
      have hM2 : n / 256 ^ (k + 1) = M / 256 := by rw [hM, Nat.pow_succ, Nat.div_div_eq_div_mul]
      rw [← hM] at hbe ⊢
      have HU : Hid (M < U64) := Nat.lt_of_le_of_lt (by rw [hM]; exact Nat.div_le_self _ _) HN.out
      have HM := Lib.hid hM; clear hM
      have HM2 := Lib.hid hM2; clear hM2
      have hcat := fun W => cat_be (n := n) W M k hk hbe
      have HBE := Lib.hid hbe; clear hbe
      obtain ⟨C, hC⟩ : ∃ C, C = M % 256 := ⟨_, rfl⟩
      have hcl : (C : Int) < 256 := by omega
      have hcl0 : (0 : Int) ≤ C := by omega
      have ht : (M : Int).tmod 256 = (C : Int) := by rw [Int.tmod_eq_emod_of_nonneg (by omega)]; omega
      have hd : (M : Int).tdiv 256 = ((M / 256 : Nat) : Int) := by rw [Int.tdiv_eq_ediv_of_nonneg (by omega)]; omega
      have hcc := one_text wr M C hC
      have HC := Lib.hid hC; clear hC
      by_cases hlt : k < 8
      · go_wp2
        go_roundw
        case rel => exact ⟨k + 1, by omega, by go_num, rfl, by rw [HM2.out, u64_div M HU.out], hkp.alloc _⟩
        case measure => simp [intOf]; omega
      · go_wp2
        go_ret2
        obtain rfl : k = 8 := by omega
        exact ⟨_, rfl, hkp⟩
end Go.Proofs.YtpniohbjgpncmaaDoor
