import Derived.Test.YtpniohbjgpncmaaDoorR2
namespace Go.Proofs.YtpniohbjgpncmaaDoor
open Go.RowKit

set_option maxRecDepth 20000 in
set_option maxHeartbeats 400000 in
theorem num_any (width n : Nat) (hw : width = 1 ∨ width = 2 ∨ width = 4 ∨ width = 8) (hn : n < U64) (w : World) :
    Calls Tryd.prog 28 #[.int .i64 width, .int .u64 n] w fun e w' => e = .returned (.string ⟨(be width n).toArray⟩) ∧ Keeps No w w' := by
  go_enter Tryd.func28, Tryd.ntmps28
  go_wp2_with (go_at_call 78; refine (refnum_any width n hw hn _).mono ?_; rintro e w1 ⟨b, rfl, hk⟩)
  go_ret
  exact ⟨rfl, hk⟩
theorem num_2 (n : Nat) (hn : n < U64) (w : World) : Calls Tryd.prog 28 #[.int .i64 2, .int .u64 n] w fun e w' => e = .returned (.string ⟨(be 2 n).toArray⟩) ∧ Keeps No w w' := num_any 2 n (.inr (.inl rfl)) hn w
theorem num_4 (n : Nat) (hn : n < U64) (w : World) : Calls Tryd.prog 28 #[.int .i64 4, .int .u64 n] w fun e w' => e = .returned (.string ⟨(be 4 n).toArray⟩) ∧ Keeps No w w' := num_any 4 n (.inr (.inr (.inl rfl))) hn w

theorem value_step (s : ByteArray) (hs : s.size ≤ 8) (k : Nat) (hlt : k < s.size) : IntKind.u64.wrap (IntKind.u64.wrap (↑(valTo (bl s) k) * 256) + IntKind.u64.wrap ↑s[k].toNat) = ((valTo (bl s) (k + 1) : Nat) : Int) := by
  have hb := valTo_lt (bl s) k (by rw [bl_length]; omega)
  have h2 : 256 ^ k ≤ 256 ^ 7 := Nat.pow_le_pow_right (by omega) (by omega)
  have hc := s[k].toNat_lt
  have e : valTo (bl s) (k + 1) = valTo (bl s) k * 256 + s[k].toNat := valTo_succ (bl s) k (by rw [bl_length]; exact hlt)
  rw [e, IntKind.wrap_u64, IntKind.wrap_u64, IntKind.wrap_u64]
  omega

set_option maxRecDepth 20000 in
set_option maxHeartbeats 400000 in
theorem value_any (s : ByteArray) (hs : s.size ≤ 8) (w : World) :
    Calls Tryd.prog 34 #[.string s] w fun e w' => e = .returned (.int .u64 (valTo (bl s) s.size)) ∧ w = w' := by
  go_enter Tryd.func34, Tryd.ntmps34
  go_wp2
  go_loop [3, 4] (fun n i => ∃ k : Nat, k ≤ s.size ∧ i = .int .i64 k ∧ n = .int .u64 (valTo (bl s) k)) (fun _ i => s.size - (intOf i).toNat)
  case atStart => exact ⟨0, Nat.zero_le _, rfl, rfl⟩
  case round =>
    obtain ⟨k, hk, rfl, rfl⟩ := hrel
    by_cases hlt : k < s.size
    · go_wp2
      go_round
      case rel => exact ⟨k + 1, by omega, by go_num, by rw [value_step s hs k hlt]⟩
      case measure => simp [intOf]; omega
    · go_wp2
      go_ret
      obtain rfl : k = s.size := by omega
      exact ⟨rfl, rfl⟩

/-- the sum of two strings, under a name -/
theorem cat_any (a b : ByteArray) (h : a.size + b.size ≤ 1000000) : ∃ c : ByteArray, (∀ W, (Op.stringOp .add a b).run Tryd.prog W = .ok (.string c) W) ∧ bl c = bl a ++ bl b ∧ c.size = a.size + b.size :=
  ⟨a ++ b, fun W => run_string_add_sum W a b (by omega), by simp [bl, ByteArray.data_append], by simp [ByteArray.size_append]⟩
theorem ba_eq {a : ByteArray} {l : List UInt8} (h : bl a = l) : a = ⟨l.toArray⟩ := by
  subst h
  unfold bl
  apply ByteArray.ext
  simp
def Z496 : Array Value := (bytesV (List.replicate 496 0)).toArray
theorem mk496 (w : World) : (Instr.makeSlice 27 (.int .i64 496) (.int .i64 496)).run Tryd.prog w = .ok (.slice (some ⟨w.heap.size, 0, none⟩) 496 496) (w.alloc (.cells Z496 5)) := by kernel_rfl
theorem cv496 (w : World) : (convert 27 9 (.slice (some ⟨w.heap.size, 0, none⟩) 496 496)).run Tryd.prog (w.alloc (.cells Z496 5)) = .ok (.string zs496) (w.alloc (.cells Z496 5)) := by
  have e : zs496 = ⟨(List.replicate 496 0).toArray⟩ := ba_eq zs496_bl
  rw [e]
  have hl : (List.replicate 496 (0 : UInt8)).length = 496 := List.length_replicate
  have h : Rd (w.alloc (.cells Z496 5)) 1 (.slice (some ⟨w.heap.size, 0, none⟩) 496 496) 496 (bytesV (List.replicate 496 0)) :=
    rd_block (heap_alloc_new w _) 1 496 496 _ (by rw [bytesV_length, hl]) (Nat.le_refl _) (fun j u h => by show (bytesV (List.replicate 496 0)).toArray[j]? = _; rw [List.getElem?_toArray]; exact h)
  have h2 : Rd (w.alloc (.cells Z496 5)) 1 (.slice (some ⟨w.heap.size, 0, none⟩) 496 496) (List.replicate 496 (0 : UInt8)).length (bytesV (List.replicate 496 0)) := by rw [hl]; exact h
  exact run_text h2 27 5 9 Tryd.underlying27 Tryd.underlying5 Tryd.underlying9

set_option maxRecDepth 20000 in
set_option maxHeartbeats 800000 in
theorem refput_any (box used sum : Nat) (hb : box < 65536) (hu : used < 65536) (hs : sum < 4294967296) (w : World) :
    Calls Tryd.prog 13 #[.agg #[.int .i64 box, .int .i64 used, .int .u32 sum]] w fun e w' => e = .returned (.string ⟨(headBytes box used sum).toArray⟩) ∧ Keeps No w w' := by
  obtain ⟨D, hD⟩ : ∃ D : ByteArray, D = ⟨(headBytes box used sum).toArray⟩ := ⟨_, rfl⟩
  rw [← hD]
  have HDD := Lib.hid hD; clear hD
  have hq0 : (0 : Int) ≤ box := by omega
  have hq1 : (box : Int) < 65536 := by omega
  have hu1 : (used : Int) < 65536 := by omega
  have hs1 : (sum : Int) < 4294967296 := by omega
  have u1 : box < U64 := by unfold U64; omega
  have u2 : used < U64 := by unfold U64; omega
  have u3 : sum < U64 := by unfold U64; omega
  have U1 := Lib.hid u1; clear u1
  have U2 := Lib.hid u2; clear u2
  have U3 := Lib.hid u3; clear u3
  have w1 : IntKind.u64.wrap (box : Int) = box := by rw [IntKind.wrap_u64]; omega
  have w2 : IntKind.u64.wrap (used : Int) = used := by rw [IntKind.wrap_u64]; omega
  have w3 : IntKind.u64.wrap (sum : Int) = sum := by rw [IntKind.wrap_u64]; omega
  obtain ⟨B1, hB1⟩ : ∃ B : ByteArray, B = ⟨(be 2 box).toArray⟩ := ⟨_, rfl⟩
  obtain ⟨B2, hB2⟩ : ∃ B : ByteArray, B = ⟨(be 2 used).toArray⟩ := ⟨_, rfl⟩
  obtain ⟨B3, hB3⟩ : ∃ B : ByteArray, B = ⟨(be 4 sum).toArray⟩ := ⟨_, rfl⟩
  have n1 := num_2 box U1.out
  have n2 := num_2 used U2.out
  have n3 := num_4 sum U3.out
  rw [← hB1] at n1
  rw [← hB2] at n2
  rw [← hB3] at n3
  have z1 : B1.size = 2 := by rw [hB1]; exact be_length 2 box
  have z2 : B2.size = 2 := by rw [hB2]; exact be_length 2 used
  have z3 : B3.size = 4 := by rw [hB3]; exact be_length 4 sum
  obtain ⟨S1, c1, d1, s1⟩ := cat_any ⟨#[66, 79, 88, 49]⟩ B1 (by rw [z1]; decide)
  have s1' : S1.size = 6 := by rw [s1, z1]; rfl
  obtain ⟨S2, c2, d2, s2⟩ := cat_any S1 B2 (by omega)
  obtain ⟨S3, c3, d3, s3⟩ := cat_any S2 B3 (by omega)
  have s3' : S3.size = 12 := by omega
  obtain ⟨S4, c4, d4, s4⟩ := cat_any S3 zs496 (by rw [zs496_size]; omega)
  have s4' : S4.size = 508 := by rw [s4, s3', zs496_size]
  have hBody : bl S4 = headBody box used sum := by
    rw [d4, d3, d2, d1, zs496_bl, hB1, hB2, hB3]
    rfl
  obtain ⟨C, hC⟩ : ∃ C, C = crcOf (bl S4) := ⟨_, rfl⟩
  have hCl : C < 4294967296 := by rw [hC]; exact crcOf_lt _
  have w4 : IntKind.u64.wrap (C : Int) = C := by rw [IntKind.wrap_u64]; omega
  have hCu : C < U64 := by unfold U64; omega
  obtain ⟨B5, hB5⟩ : ∃ B : ByteArray, B = ⟨(be 4 C).toArray⟩ := ⟨_, rfl⟩
  have n4 := num_4 C hCu
  rw [← hB5] at n4
  have z5 : B5.size = 4 := by rw [hB5]; exact be_length 4 C
  obtain ⟨S5, c5, d5, s5⟩ := cat_any S4 B5 (by omega)
  have hS5 : S5 = D := by
    rw [HDD.out]
    apply ba_eq
    rw [d5, hBody, hB5, hC, hBody]
    rfl
  have hsum := refsum_any S4
  rw [← hC] at hsum
  have N1 := Lib.hid n1; clear n1
  have N2 := Lib.hid n2; clear n2
  have N3 := Lib.hid n3; clear n3
  have N4 := Lib.hid n4; clear n4
  have HS5 := Lib.hid hS5
  have HSUM := Lib.hid hsum; clear hsum
  clear hS5 s5 d5 z5 hB5 hCu hBody s4 d4 s3 d3 s2 d2 s1 d1 z1 z2 z3 hB1 hB2 hB3 s1' hC
  have S4S := Lib.hid s4'; clear s4'
  have hmk := mk496
  have hcv := cv496
  go_enter Tryd.func13, Tryd.ntmps13
  go_wp2_with fail
  obtain ⟨w0, hw0⟩ : ∃ w0, w0 = w.alloc (.cells #[.int .i64 box, .int .i64 used, .int .u32 sum] 34) := ⟨_, rfl⟩
  have hheap : w0.heap[w.heap.size]? = some (.cells #[.int .i64 box, .int .i64 used, .int .u32 sum] 34) := by rw [hw0]; exact heap_alloc_new _ _
  have hc0 := cell_of_heap hheap 0
  have hc1 := cell_of_heap hheap 1
  have hc2 := cell_of_heap hheap 2
  simp at hc0 hc1 hc2
  rw [← hw0]
  have HW := Lib.hid hw0; clear hw0
  clear hheap
  have hk : Keeps No w0 w0.drew := (Keeps.refl _ w0).drew
  go_region_held3 (fun w' => w'.cell? ⟨w.heap.size, 0, none⟩ = some (.int .i64 box) ∧ w'.cell? ⟨w.heap.size, 1, none⟩ = some (.int .i64 used) ∧ w'.cell? ⟨w.heap.size, 2, none⟩ = some (.int .u32 sum)) (first | go_keep | exact ⟨hk.cell hc0 (fun h => h), hk.cell hc1 (fun h => h), hk.cell hc2 (fun h => h)⟩)
    (first | (go_at_call 28; (with_reducible refine (N1.out _).mono ?_); rintro e w1 ⟨rfl, hk1⟩; replace hk := hk.same hk1; clear hk1) | (go_at_call 28; (with_reducible refine (N2.out _).mono ?_); rintro e w1 ⟨rfl, hk1⟩; replace hk := hk.same hk1; clear hk1) | (go_at_call 28; (with_reducible refine (N3.out _).mono ?_); rintro e w1 ⟨rfl, hk1⟩; replace hk := hk.same hk1; clear hk1))
  go_wp2_with (first | (go_at_call 12; refine (HSUM.out _ (by rw [S4S.out]; decide)).mono ?_; rintro e w5 ⟨rfl, rfl⟩) | (go_at_call 28; (with_reducible refine (N4.out _).mono ?_); rintro e w6 ⟨rfl, hk6⟩))
  go_ret
  have hkw : Keeps No w w0 := by rw [HW.out]; exact keeps_alloc w _
  exact ⟨by rw [← HS5.out]; rfl, ((hkw.same hk).same (keeps_alloc _ _)).same hk6⟩
end Go.Proofs.YtpniohbjgpncmaaDoor
