import Derived.Test.YtpniohbjgpncmaaDoorR3
import Derived.StillTailTactics
namespace Go.Proofs.YtpniohbjgpncmaaDoor
open Go.RowKit

/-- what Seal answers -/
def sealOk (box : Int) (l : List UInt8) : Bool := decide (0 ≤ box ∧ box ≤ 65535 ∧ l.length ≤ 2048)
def SealPost (box : Nat) (l : List UInt8) (w : World) (e : Ending) (w' : World) : Prop := ∃ ao cp, e = .returned (.tuple #[.slice ao (headBytes box l.length (crcOf l)).length cp, .int .i64 0]) ∧
  w'.ownsRow 0 5 1 (.slice ao (headBytes box l.length (crcOf l)).length cp) (headBytes box l.length (crcOf l)).length (bytesV (headBytes box l.length (crcOf l))) ∧ Keeps No w w' ∧ (∀ k, (Value.slice ao (headBytes box l.length (crcOf l)).length cp).ownBlock = some k → w.heap.size ≤ k)

set_option maxRecDepth 20000 in
set_option maxHeartbeats 400000 in
theorem seal_no (box : Int) (v : Value) (l : List UInt8) (w : World) (hv : Rd w 1 v l.length (bytesV l)) (h : box < 0 ∨ 65535 < box ∨ 2048 < l.length) :
    Calls Tryd.prog 11 #[.int .i64 box, v] w fun e w' => e = .returned (.tuple #[.slice none 0 0, .int .i64 2]) ∧ w = w' := by
  obtain ⟨h1, a, c, rfl, hc, h2, h3⟩ := hv
  clear h1 h2 h3
  rcases (show box < 0 ∨ (¬ box < 0 ∧ 65535 < box) ∨ (¬ box < 0 ∧ ¬ 65535 < box ∧ (2048 : Int) < l.length) by omega) with h | ⟨h, h2⟩ | ⟨h, h2, h3⟩
  · go_enter Tryd.func11, Tryd.ntmps11
    go_wp2
    go_ret2
    exact ⟨rfl, rfl⟩
  · go_enter Tryd.func11, Tryd.ntmps11
    go_wp2
    go_ret2
    exact ⟨rfl, rfl⟩
  · go_enter Tryd.func11, Tryd.ntmps11
    go_wp2
    go_ret2
    exact ⟨rfl, rfl⟩

set_option maxRecDepth 20000 in
set_option maxHeartbeats 400000 in
theorem seal_yes (box : Nat) (v : Value) (l : List UInt8) (w : World) (hv : Rd w 1 v l.length (bytesV l)) (hb : box < 65536) (hl : l.length ≤ 2048) (ht : Halves w) :
    Calls Tryd.prog 11 #[.int .i64 box, v] w (SealPost box l w) := by
  have HV := Lib.hid hv
  have HT := Lib.hid ht; clear ht
  obtain ⟨h1, a, c, rfl, hc, h2, h3⟩ := hv
  clear h1 h2 h3
  have q1 : ¬ (box : Int) < 0 := by omega
  have q2 : ¬ (65535 : Int) < box := by omega
  have q3 : ¬ (2048 : Int) < l.length := by omega
  have hcl := crcOf_lt l
  have HCL := Lib.hid hcl; clear hcl
  go_enter Tryd.func11, Tryd.ntmps11
  go_wp2_with (first | (go_at_call 26; refine (crc_any _ l _ HV.out (by omega) HT.out).mono ?_; rintro e w5 ⟨rfl, rfl⟩) | (go_at_call 27; (refine (head_put box l.length (crcOf l) hb (by omega) HCL.out _ HT.out).mono ?_); rintro e w6 ⟨ao, cp, rfl, ho, hk, hf⟩))
  go_ret2
  exact ⟨ao, cp, rfl, ho, hk, hf⟩

theorem Tryd.size34 : (Tryd.prog.info? 34).map (·.size) = some 3 := by kernel_rfl
set_option maxRecDepth 20000 in
set_option maxHeartbeats 400000 in
theorem reftake_no (s : ByteArray) (w : World) (h : s.size ≠ 512) :
    Calls Tryd.prog 15 #[.string s] w fun e w' => e = .returned (takeVal (bl s)) ∧ Keeps No w w' := by
  have hto : takeVal (bl s) = .tuple #[headVal 0 0 0, .int .i64 3] := by
    unfold takeVal
    rw [if_neg]
    intro h2
    exact h (by rw [← bl_length]; exact takeOk_len _ h2)
  have HTO := Lib.hid hto; clear hto
  have hb : ((s.size : Int) != 512) = true := by simpa [bne_iff_ne] using (show (s.size : Int) ≠ 512 by omega)
  go_enter Tryd.func15, Tryd.ntmps15
  go_wp2
  refine bodyPost_ret (results_cell_tmp_row rfl _ _ w.heap.size 34 #[.int .i64 0, .int .i64 0, .int .u32 0] _ _ (by rfl) (heap_alloc_new _ _) Tryd.underlying34 rfl Tryd.size34) rfl ?_
  exact ⟨by rw [HTO.out]; rfl, keeps_alloc w _⟩

theorem bl_extract (s : ByteArray) (a b : Nat) : bl (s.extract a b) = ((bl s).drop a).take (b - a) := by
  unfold bl
  rw [Lib.extract_data]
theorem val_cut (s : ByteArray) (a b n V : Nat) (h8 : n ≤ 8) (hn : b = a + n) (hb : b ≤ s.size) (hV : valTo (((bl s).drop a).take n) n = V) (w : World) :
    Calls Tryd.prog 34 #[.string (s.extract a b)] w fun e w' => e = .returned (.int .u64 V) ∧ w = w' := by
  have hsz : (s.extract a b).size = n := by rw [← bl_length, bl_extract, List.length_take, List.length_drop, bl_length]; omega
  have h := value_any (s.extract a b) (by omega) w
  rw [hsz, bl_extract, show b - a = n by omega, hV] at h
  exact h

end Go.Proofs.YtpniohbjgpncmaaDoor
