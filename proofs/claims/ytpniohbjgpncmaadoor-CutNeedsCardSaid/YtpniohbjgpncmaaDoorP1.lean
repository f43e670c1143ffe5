import Derived.Test.YtpniohbjgpncmaaDoorK
import Derived.Lib.Hide
namespace Go.Proofs.YtpniohbjgpncmaaDoor
open Go.RowKit

theorem new_any (w : World) : Calls Tryd.prog 35 #[] w fun e w' => e = .returned (.pointer (some ⟨w.heap.size, 0, none⟩)) ∧ w.alloc (.cells #[.slice none 0 0, .int .i64 0] 162) = w' := by
  go_enter Tryd.func35, Tryd.ntmps35
  go_wp2
  go_ret
  exact ⟨rfl, rfl⟩

def wideB (n : Int) : Bool := n == 1 || n == 2 || n == 4 || n == 8
theorem wide_any (n : Int) (w : World) : Calls Tryd.prog 82 #[.int .i64 n] w fun e w' => e = .returned (.bool (wideB n)) ∧ w = w' := by
  unfold wideB
  by_cases h1 : n = 1
  · subst h1
    go_enter Tryd.func82, Tryd.ntmps82
    go_wp2
    go_ret
    exact ⟨rfl, rfl⟩
  · have h1' : (n == 1) = false := by simp [h1]
    by_cases h2 : n = 2
    · subst h2
      go_enter Tryd.func82, Tryd.ntmps82
      go_wp2
      go_ret
      exact ⟨rfl, rfl⟩
    · have h2' : (n == 2) = false := by simp [h2]
      by_cases h4 : n = 4
      · subst h4
        go_enter Tryd.func82, Tryd.ntmps82
        go_wp2
        go_ret
        exact ⟨rfl, rfl⟩
      · have h4' : (n == 4) = false := by simp [h4]
        by_cases h8 : n = 8
        · subst h8
          go_enter Tryd.func82, Tryd.ntmps82
          go_wp2
          go_ret
          exact ⟨rfl, rfl⟩
        · have h8' : (n == 8) = false := by simp [h8]
          go_enter Tryd.func82, Tryd.ntmps82
          go_wp2
          go_ret
          simp [h1', h2', h4', h8']

theorem Tryd.info5 : (Tryd.prog.info? 5).map (fun i => (i.zero, i.size, i.bytes)) = some (some (.int .u8 0), 1, 1) := by kernel_rfl

def U64 : Nat := 18446744073709551616
def bytesV (l : List UInt8) : List Value := l.map fun b => Value.int .u8 b.toNat
/-- the first j bytes of n, written with so many bytes, the highest one first -/
def beTo (width n j : Nat) : List UInt8 := (List.range j).map fun t => UInt8.ofNat (n / 2 ^ (8 * (width - 1 - t)))

theorem bytesV_snoc (l : List UInt8) (c : UInt8) : bytesV (l ++ [c]) = bytesV l ++ [Value.int .u8 c.toNat] := by simp [bytesV]
theorem beTo_succ (width n j : Nat) : beTo width n (j + 1) = beTo width n j ++ [UInt8.ofNat (n / 2 ^ (8 * (width - 1 - j)))] := by
  simp [beTo, List.range_succ]

theorem u8_cell (m : Nat) : Value.int .u8 ((m : Int) % 256) = Value.int .u8 ((UInt8.ofNat m).toNat : Int) := by
  simp [UInt8.toNat_ofNat']
theorem put1_step {w wr w1 : World} {u3 v' : Value} {width n j : Nat} {x : Value} (hx : x = Value.int .u8 (((n : Int) / 2 ^ (8 * (width - 1 - j))) % 256)) {t : TypeId}
    (hk : Keeps No w wr) (HB : ∀ k, u3.ownBlock = some k → w.heap.size ≤ k)
    (hown1 : w1.ownsRow 0 5 1 v' (j + 1) (bytesV (beTo width n j) ++ [x]))
    (hk1 : Keeps (fun k => u3.ownBlock = some k) (wr.alloc (.cells #[x] t)) w1) (hat : v'.ownBlock = u3.ownBlock ∨ v'.ownBlock = some (wr.alloc (.cells #[x] t)).heap.size) :
    w1.ownsRow 0 5 1 v' (j + 1) (bytesV (beTo width n (j + 1))) ∧ Keeps No w w1 ∧ (∀ k, v'.ownBlock = some k → w.heap.size ≤ k) := by
  refine ⟨?_, ?_, ?_⟩
  · rw [beTo_succ, bytesV_snoc, ← u8_cell]
    rw [hx] at hown1
    simpa using hown1
  · exact (hk.alloc _).trans hk1 (fun _ _ h => h) (fun i hi e => by have := HB i e; omega)
  · intro k hk'
    have := hk.size
    rcases hat with h | h
    · exact HB k (h ▸ hk')
    · rw [h] at hk'
      simp at hk'
      omega

set_option maxRecDepth 20000 in
set_option maxHeartbeats 400000 in
theorem put1_any (bw bn : Nat) (width : Nat) (n : Nat) (_hn : n < U64) (hw : 1 ≤ width) (hw8 : width ≤ 8) (w : World) 
   (h1 : w.cell? ⟨bw, 0, none⟩ = some (.int .i64 width)) (h2 : w.cell? ⟨bn, 0, none⟩ = some (.int .u64 n)) :
    Calls Tryd.prog 86 #[.pointer (some ⟨bw, 0, none⟩), .pointer (some ⟨bn, 0, none⟩)] w fun e w' => ∃ v, e = .returned v ∧ w'.ownsRow 0 5 1 v width (bytesV (beTo width n width)) ∧ Keeps No w w' ∧ (∀ k, v.ownBlock = some k → w.heap.size ≤ k) := by
  obtain ⟨i0, hi, hz0, hz1, hz2⟩ := info_parts Tryd.info5
  have hlw := World.block_lt_of_cell? w _ h1
  have hln := World.block_lt_of_cell? w _ h2
  go_enter Tryd.func86, Tryd.ntmps86
  go_wp2
  go_loopw [3, 4] (fun v i wr => ∃ j : Nat, j ≤ width ∧ i = .int .i64 ((width : Int) - 1 - j) ∧ wr.ownsRow 0 5 1 v j (bytesV (beTo width n j)) ∧ Keeps No w wr ∧ (∀ k, v.ownBlock = some k → w.heap.size ≤ k)) (fun _ i _ => (intOf i + 1).toNat)
  case atStart => exact ⟨0, by omega, by simp, World.ownsRow_nil _ _ _ _, Keeps.refl _ _, fun k h => by simp [Value.ownBlock] at h⟩
  case round =>
    obtain ⟨j, hj, rfl, hown, hk, hb⟩ := hrel
    have h2r := hk.cell h2 (fun h => h)
    have HB := Lib.hid hb; clear hb
    clear h1 h2
    by_cases hlt : j < width
    · have hh : (0 : Int) ≤ (width : Int) - 1 - j := by omega
      go_wp2_with (at_builtin; go_must (refine wpList_append_any rfl _ _ 27 27 rfl 5 i0 _ 1 1 Tryd.underlying27 hi hz0 hz1 hz2 rfl (by decide) _ j _ (by rfl) (hown.alloc _) _ 1 [_] (by rfl) (Rd.src Tryd.underlying27 (rd_one _ _ _) (by simp [Value.oneCell'])) (by unfold maxLen; omega) (by omega) ?_); intro ao cp w1 hown1 hk1 hnil hat)
      go_roundw
      case rel => exact ⟨j + 1, by omega, by go_num, put1_step rfl hk HB.out hown1 hk1 hat⟩
      case measure => simp [intOf]; omega
    · have hh : ¬ (0 : Int) ≤ (width : Int) - 1 - j := by omega
      go_wp2
      go_ret
      obtain rfl : j = width := by omega
      exact ⟨_, rfl, hown, hk, HB.out⟩
end Go.Proofs.YtpniohbjgpncmaaDoor
