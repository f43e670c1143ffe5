import Derived.Test.YtpniohbjgpncmaaDoorPF
namespace Go.Proofs.YtpniohbjgpncmaaDoor
open Go.RowKit

theorem xor_poly (A : Nat) (h : A < 4294967296) : Value.int .u32 (bits .xor .u32 ((A : Int) / 2) 2197175160) = Value.int .u32 ((A / 2 ^^^ 2197175160 : Nat) : Int) := by
  have e : ((A : Int) / 2) = ((A / 2 : Nat) : Int) := by omega
  rw [e]
  exact congrArg _ (u32_xor_nat (A / 2) 2197175160 (by omega) (by decide))

set_option maxRecDepth 20000 in
set_option maxHeartbeats 400000 in
theorem refsum_any (s : ByteArray) (w : World) (hs : s.size < 1000000) :
    Calls Tryd.prog 12 #[.string s] w fun e w' => e = .returned (.int .u32 (crcOf (bl s))) ∧ w = w' := by
  go_enter Tryd.func12, Tryd.ntmps12
  go_wp2
  go_loop [3, 4, 5, 6, 7] (fun n i _ _ _ => ∃ k : Nat, k ≤ s.size ∧ i = .int .i64 k ∧ n = .int .u32 (crcTo (bl s) k)) (fun _ i _ _ _ => s.size - (intOf i).toNat)
  case atStart => exact ⟨0, Nat.zero_le _, rfl, rfl⟩
  case round =>
    obtain ⟨k, hk, rfl, rfl⟩ := hrel
    by_cases hlt : k < s.size
    · go_wp2
      have hN : crcTo (bl s) k < 4294967296 := crcTo_lt (bl s) k (by rw [bl_length]; omega)
      have hC : s[k].toNat < 256 := s[k].toNat_lt
      go_loop [3, 5, 6, 7] (fun n c i _ => ∃ j : Nat, j ≤ 8 ∧ i = .int .i64 j ∧ n = .int .u32 (refTo j (crcTo (bl s) k) s[k].toNat).1 ∧ c = .int .u8 (refTo j (crcTo (bl s) k) s[k].toNat).2) (fun _ _ i _ => 8 - (intOf i).toNat)
      case atStart => exact ⟨0, Nat.zero_le _, rfl, rfl, rfl⟩
      case round =>
        obtain ⟨j, hj, rfl, rfl, rfl⟩ := hrel
        by_cases hjt : j < 8
        · obtain ⟨hn, hc⟩ := refTo_lt j (crcTo (bl s) k) s[k].toNat hN hC
          have hX := refTo_succ j (crcTo (bl s) k) s[k].toNat
          obtain ⟨A, hA⟩ : ∃ A, A = (refTo j (crcTo (bl s) k) s[k].toNat).1 := ⟨_, rfl⟩
          obtain ⟨B, hB⟩ : ∃ B, B = (refTo j (crcTo (bl s) k) s[k].toNat).2 := ⟨_, rfl⟩
          rw [← hA, ← hB] at hX
          rw [← hA] at hn ⊢
          rw [← hB] at hc ⊢
          have HX := Lib.hid hX; clear hX
          have HA := Lib.hid hA; clear hA
          have HB := Lib.hid hB; clear hB
          by_cases hone : (A % 2 + B % 2) % 2 = 1
          · have hone' : (((A : Int) % 2 + (B : Int) % 2) % 2 == 1) = true := by rw [beq_iff_eq]; omega
            go_wp2
            go_round
            case rel => exact ⟨j + 1, by omega, by go_num, by rw [HX.out, if_pos hone, xor_poly A hn], by rw [HX.out]; rfl⟩
            case measure => simp [intOf]; omega
          · have hone' : (((A : Int) % 2 + (B : Int) % 2) % 2 == 1) = false := by rw [beq_eq_false_iff_ne]; omega
            go_wp2
            go_round
            case rel => exact ⟨j + 1, by omega, by go_num, by rw [HX.out, if_neg hone]; rfl, by rw [HX.out]; rfl⟩
            case measure => simp [intOf]; omega
        · go_wp2
          go_round
          case rel =>
            obtain rfl : j = 8 := by omega
            exact ⟨k + 1, by omega, by go_num, by rw [refTo_8 _ _ hC, crcTo_succ (bl s) k (by rw [bl_length]; exact hlt)]; rfl⟩
          case measure => simp [intOf]; omega
    · go_wp2
      go_ret
      obtain rfl : k = s.size := by omega
      have := crcTo_lt (bl s) s.size (by rw [bl_length]; exact Nat.le_refl _)
      exact ⟨ret_int (by unfold crcOf; rw [bl_length]; omega), rfl⟩
end Go.Proofs.YtpniohbjgpncmaaDoor
