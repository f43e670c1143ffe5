/- sha: turning bits: conditions: none. -/
import Derived.Test.YtpniohbjgpncmaaDoorK
namespace Go.Proofs.YtpniohbjgpncmaaDoor
open Go.RowKit

def rot (a b : Int) (x : Int) : Int := bits .or .u32 (x * a % 4294967296) (x / b)
set_option maxRecDepth 20000 in
theorem rotl_7 (x : Int) (w : World) : Calls Tryd.prog 187 #[.int .u32 x, .int .i64 (-7)] w fun e w' => e = .returned (.int .u32 (rot 33554432 128 x)) ∧ w = w' := by
  have h1 : bits .and .u64 (IntKind.u64.wrap (-7)) 31 = 25 := by decide +kernel
  go_enter Tryd.func187, Tryd.ntmps187
  go_wp2
  go_ret
  exact ⟨rfl, rfl⟩
set_option maxRecDepth 20000 in
theorem right_7 (x : Int) (w : World) : Calls Tryd.prog 181 #[.int .u32 x, .int .i64 7] w fun e w' => e = .returned (.int .u32 (rot 33554432 128 x)) ∧ w = w' := by
  go_enter Tryd.func181, Tryd.ntmps181
  go_wp2_with (go_at_call 187; refine (rotl_7 _ _).mono ?_; rintro e w' ⟨rfl, rfl⟩)
  go_ret
  exact ⟨rfl, rfl⟩
set_option maxRecDepth 20000 in
theorem rotl_18 (x : Int) (w : World) : Calls Tryd.prog 187 #[.int .u32 x, .int .i64 (-18)] w fun e w' => e = .returned (.int .u32 (rot 16384 262144 x)) ∧ w = w' := by
  have h1 : bits .and .u64 (IntKind.u64.wrap (-18)) 31 = 14 := by decide +kernel
  go_enter Tryd.func187, Tryd.ntmps187
  go_wp2
  go_ret
  exact ⟨rfl, rfl⟩
set_option maxRecDepth 20000 in
theorem right_18 (x : Int) (w : World) : Calls Tryd.prog 181 #[.int .u32 x, .int .i64 18] w fun e w' => e = .returned (.int .u32 (rot 16384 262144 x)) ∧ w = w' := by
  go_enter Tryd.func181, Tryd.ntmps181
  go_wp2_with (go_at_call 187; refine (rotl_18 _ _).mono ?_; rintro e w' ⟨rfl, rfl⟩)
  go_ret
  exact ⟨rfl, rfl⟩
set_option maxRecDepth 20000 in
theorem rotl_17 (x : Int) (w : World) : Calls Tryd.prog 187 #[.int .u32 x, .int .i64 (-17)] w fun e w' => e = .returned (.int .u32 (rot 32768 131072 x)) ∧ w = w' := by
  have h1 : bits .and .u64 (IntKind.u64.wrap (-17)) 31 = 15 := by decide +kernel
  go_enter Tryd.func187, Tryd.ntmps187
  go_wp2
  go_ret
  exact ⟨rfl, rfl⟩
set_option maxRecDepth 20000 in
theorem right_17 (x : Int) (w : World) : Calls Tryd.prog 181 #[.int .u32 x, .int .i64 17] w fun e w' => e = .returned (.int .u32 (rot 32768 131072 x)) ∧ w = w' := by
  go_enter Tryd.func181, Tryd.ntmps181
  go_wp2_with (go_at_call 187; refine (rotl_17 _ _).mono ?_; rintro e w' ⟨rfl, rfl⟩)
  go_ret
  exact ⟨rfl, rfl⟩
set_option maxRecDepth 20000 in
theorem rotl_19 (x : Int) (w : World) : Calls Tryd.prog 187 #[.int .u32 x, .int .i64 (-19)] w fun e w' => e = .returned (.int .u32 (rot 8192 524288 x)) ∧ w = w' := by
  have h1 : bits .and .u64 (IntKind.u64.wrap (-19)) 31 = 13 := by decide +kernel
  go_enter Tryd.func187, Tryd.ntmps187
  go_wp2
  go_ret
  exact ⟨rfl, rfl⟩
set_option maxRecDepth 20000 in
theorem right_19 (x : Int) (w : World) : Calls Tryd.prog 181 #[.int .u32 x, .int .i64 19] w fun e w' => e = .returned (.int .u32 (rot 8192 524288 x)) ∧ w = w' := by
  go_enter Tryd.func181, Tryd.ntmps181
  go_wp2_with (go_at_call 187; refine (rotl_19 _ _).mono ?_; rintro e w' ⟨rfl, rfl⟩)
  go_ret
  exact ⟨rfl, rfl⟩
set_option maxRecDepth 20000 in
theorem rotl_6 (x : Int) (w : World) : Calls Tryd.prog 187 #[.int .u32 x, .int .i64 (-6)] w fun e w' => e = .returned (.int .u32 (rot 67108864 64 x)) ∧ w = w' := by
  have h1 : bits .and .u64 (IntKind.u64.wrap (-6)) 31 = 26 := by decide +kernel
  go_enter Tryd.func187, Tryd.ntmps187
  go_wp2
  go_ret
  exact ⟨rfl, rfl⟩
set_option maxRecDepth 20000 in
theorem right_6 (x : Int) (w : World) : Calls Tryd.prog 181 #[.int .u32 x, .int .i64 6] w fun e w' => e = .returned (.int .u32 (rot 67108864 64 x)) ∧ w = w' := by
  go_enter Tryd.func181, Tryd.ntmps181
  go_wp2_with (go_at_call 187; refine (rotl_6 _ _).mono ?_; rintro e w' ⟨rfl, rfl⟩)
  go_ret
  exact ⟨rfl, rfl⟩
set_option maxRecDepth 20000 in
theorem rotl_11 (x : Int) (w : World) : Calls Tryd.prog 187 #[.int .u32 x, .int .i64 (-11)] w fun e w' => e = .returned (.int .u32 (rot 2097152 2048 x)) ∧ w = w' := by
  have h1 : bits .and .u64 (IntKind.u64.wrap (-11)) 31 = 21 := by decide +kernel
  go_enter Tryd.func187, Tryd.ntmps187
  go_wp2
  go_ret
  exact ⟨rfl, rfl⟩
set_option maxRecDepth 20000 in
theorem right_11 (x : Int) (w : World) : Calls Tryd.prog 181 #[.int .u32 x, .int .i64 11] w fun e w' => e = .returned (.int .u32 (rot 2097152 2048 x)) ∧ w = w' := by
  go_enter Tryd.func181, Tryd.ntmps181
  go_wp2_with (go_at_call 187; refine (rotl_11 _ _).mono ?_; rintro e w' ⟨rfl, rfl⟩)
  go_ret
  exact ⟨rfl, rfl⟩
set_option maxRecDepth 20000 in
theorem rotl_25 (x : Int) (w : World) : Calls Tryd.prog 187 #[.int .u32 x, .int .i64 (-25)] w fun e w' => e = .returned (.int .u32 (rot 128 33554432 x)) ∧ w = w' := by
  have h1 : bits .and .u64 (IntKind.u64.wrap (-25)) 31 = 7 := by decide +kernel
  go_enter Tryd.func187, Tryd.ntmps187
  go_wp2
  go_ret
  exact ⟨rfl, rfl⟩
set_option maxRecDepth 20000 in
theorem right_25 (x : Int) (w : World) : Calls Tryd.prog 181 #[.int .u32 x, .int .i64 25] w fun e w' => e = .returned (.int .u32 (rot 128 33554432 x)) ∧ w = w' := by
  go_enter Tryd.func181, Tryd.ntmps181
  go_wp2_with (go_at_call 187; refine (rotl_25 _ _).mono ?_; rintro e w' ⟨rfl, rfl⟩)
  go_ret
  exact ⟨rfl, rfl⟩
set_option maxRecDepth 20000 in
theorem rotl_2 (x : Int) (w : World) : Calls Tryd.prog 187 #[.int .u32 x, .int .i64 (-2)] w fun e w' => e = .returned (.int .u32 (rot 1073741824 4 x)) ∧ w = w' := by
  have h1 : bits .and .u64 (IntKind.u64.wrap (-2)) 31 = 30 := by decide +kernel
  go_enter Tryd.func187, Tryd.ntmps187
  go_wp2
  go_ret
  exact ⟨rfl, rfl⟩
set_option maxRecDepth 20000 in
theorem right_2 (x : Int) (w : World) : Calls Tryd.prog 181 #[.int .u32 x, .int .i64 2] w fun e w' => e = .returned (.int .u32 (rot 1073741824 4 x)) ∧ w = w' := by
  go_enter Tryd.func181, Tryd.ntmps181
  go_wp2_with (go_at_call 187; refine (rotl_2 _ _).mono ?_; rintro e w' ⟨rfl, rfl⟩)
  go_ret
  exact ⟨rfl, rfl⟩
set_option maxRecDepth 20000 in
theorem rotl_13 (x : Int) (w : World) : Calls Tryd.prog 187 #[.int .u32 x, .int .i64 (-13)] w fun e w' => e = .returned (.int .u32 (rot 524288 8192 x)) ∧ w = w' := by
  have h1 : bits .and .u64 (IntKind.u64.wrap (-13)) 31 = 19 := by decide +kernel
  go_enter Tryd.func187, Tryd.ntmps187
  go_wp2
  go_ret
  exact ⟨rfl, rfl⟩
set_option maxRecDepth 20000 in
theorem right_13 (x : Int) (w : World) : Calls Tryd.prog 181 #[.int .u32 x, .int .i64 13] w fun e w' => e = .returned (.int .u32 (rot 524288 8192 x)) ∧ w = w' := by
  go_enter Tryd.func181, Tryd.ntmps181
  go_wp2_with (go_at_call 187; refine (rotl_13 _ _).mono ?_; rintro e w' ⟨rfl, rfl⟩)
  go_ret
  exact ⟨rfl, rfl⟩
set_option maxRecDepth 20000 in
theorem rotl_22 (x : Int) (w : World) : Calls Tryd.prog 187 #[.int .u32 x, .int .i64 (-22)] w fun e w' => e = .returned (.int .u32 (rot 1024 4194304 x)) ∧ w = w' := by
  have h1 : bits .and .u64 (IntKind.u64.wrap (-22)) 31 = 10 := by decide +kernel
  go_enter Tryd.func187, Tryd.ntmps187
  go_wp2
  go_ret
  exact ⟨rfl, rfl⟩
set_option maxRecDepth 20000 in
theorem right_22 (x : Int) (w : World) : Calls Tryd.prog 181 #[.int .u32 x, .int .i64 22] w fun e w' => e = .returned (.int .u32 (rot 1024 4194304 x)) ∧ w = w' := by
  go_enter Tryd.func181, Tryd.ntmps181
  go_wp2_with (go_at_call 187; refine (rotl_22 _ _).mono ?_; rintro e w' ⟨rfl, rfl⟩)
  go_ret
  exact ⟨rfl, rfl⟩
def rotN (n x : Int) : Int := rot ((2 ^ (32 - n.toNat) : Nat) : Int) ((2 ^ n.toNat : Nat) : Int) x
def counts : List Int := [7, 18, 17, 19, 6, 11, 25, 2, 13, 22]
theorem right_any (x n : Int) (w : World) (hn : n ∈ counts) : Calls Tryd.prog 181 #[.int .u32 x, .int .i64 n] w fun e w' => e = .returned (.int .u32 (rotN n x)) ∧ w = w' := by
  simp only [counts, List.mem_cons, List.not_mem_nil, or_false] at hn
  rcases hn with rfl | rfl | rfl | rfl | rfl | rfl | rfl | rfl | rfl | rfl
  · exact right_7 x w
  · exact right_18 x w
  · exact right_17 x w
  · exact right_19 x w
  · exact right_6 x w
  · exact right_11 x w
  · exact right_25 x w
  · exact right_2 x w
  · exact right_13 x w
  · exact right_22 x w
theorem same_symm {P : Program} {f : FuncId} {args : Array Value} {w : World} {v : Value} (h : Calls P f args w fun e w' => e = .returned v ∧ w = w') : Calls P f args w fun e w' => e = .returned v ∧ w' = w :=
  h.mono fun _ _ ⟨h1, h2⟩ => ⟨h1, h2.symm⟩
end Go.Proofs.YtpniohbjgpncmaaDoor
