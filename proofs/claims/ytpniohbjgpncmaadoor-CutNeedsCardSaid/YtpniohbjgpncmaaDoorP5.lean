import Derived.Test.YtpniohbjgpncmaaDoorP4
import Derived.Deep.QuietTactic
import Derived.BigQuiet
namespace Go.Proofs.YtpniohbjgpncmaaDoor
open Go.RowKit

theorem Keeps.drewN {S : Nat → Prop} {a w : World} (h : Keeps S a w) (n : Nat) : Keeps S a (w.drewN n) := ⟨h.os, h.tape, h.output, h.size, h.block⟩
/-- a slice of bytes that the call made -/
def ClonePost (l : List UInt8) (w : World) (e : Ending) (w' : World) : Prop := ∃ ao cp, e = .returned (.slice ao l.length cp) ∧ w'.ownsRow 0 5 1 (.slice ao l.length cp) l.length (bytesV l) ∧ Keeps No w w' ∧ (∀ k, (Value.slice ao l.length cp).ownBlock = some k → w.heap.size ≤ k)

set_option maxRecDepth 20000 in
set_option maxHeartbeats 400000 in
theorem clone_any (v : Value) (l : List UInt8) (w : World) (hv : Rd w 1 v l.length (bytesV l)) (hl : l.length < 1000000) :
    Calls Tryd.prog 79 #[v] w (ClonePost l w) := by
  obtain ⟨i0, hi, hz0, hz1, hz2⟩ := info_parts Tryd.info5
  have HV := Lib.hid hv
  obtain ⟨h1, a, c, rfl, hc, h2, h3⟩ := hv
  clear h1 h3
  cases a with
  | none =>
    obtain ⟨h4, rfl⟩ := h2 rfl
    have hq := @Lib.run_eql_slice_nil Tryd.prog
    go_enter Tryd.func79, Tryd.ntmps79
    go_wp2
    go_ret
    obtain rfl : l = [] := List.eq_nil_of_length_eq_zero h4
    exact ⟨none, 0, rfl, World.ownsRow_nil _ _ _ _, Keeps.refl _ _, fun k h => by simp [Value.ownBlock] at h⟩
  | some ad =>
    have hq := @Lib.run_eql_slice_nil Tryd.prog
    clear h2
    go_enter Tryd.func79, Tryd.ntmps79
    go_wp2_with (at_builtin; go_must (refine wpList_append_any rfl _ _ 27 27 rfl 5 i0 _ 1 1 Tryd.underlying27 hi hz0 hz1 hz2 rfl (by decide) _ 0 [] (by rfl) (own_built _ 5 1 0 [] rfl (by decide)) _ l.length (bytesV l) (by rfl) (Rd.src Tryd.underlying27 (HV.out.keeps (keeps_alloc _ _) (fun _ _ h => h)) (bytesV_one _)) (by unfold maxLen; omega) (by omega) ?_); intro ao cp w1 hown1 hk1 hnil hat)
    go_wp2
    go_ret
    simp only [Nat.zero_add, List.nil_append] at hown1 hat ⊢
    exact ⟨ao, cp, rfl, hown1, (keeps_alloc w _).trans hk1 (fun _ _ h => h) (fun k hk e => by simp [Value.ownBlock] at e; omega), fun k hk => by
      rcases hat with h | h
      · rw [h] at hk; simp [Value.ownBlock] at hk; omega
      · rw [h] at hk; simp at hk; omega⟩

def BytesPost (l : List UInt8) (w : World) (e : Ending) (w' : World) : Prop := ∃ ao cp, e = .returned (.tuple #[.slice ao l.length cp, .int .i64 0]) ∧ w'.ownsRow 0 5 1 (.slice ao l.length cp) l.length (bytesV l) ∧ Keeps No w w' ∧ (∀ k, (Value.slice ao l.length cp).ownBlock = some k → w.heap.size ≤ k)

set_option maxRecDepth 20000 in
set_option maxHeartbeats 400000 in
theorem pk_bytes (p : Nat) (v : Value) (bs : List UInt8) (w : World) (hp : Pk w p v bs 0) (hlen : bs.length < 1000000) :
    Calls Tryd.prog 42 #[.pointer (some ⟨p, 0, none⟩)] w (BytesPost bs w) := by
  have HP := Lib.hid hp
  have hc0 := cell_of_heap hp.heap 0
  have hc1 := cell_of_heap hp.heap 1
  simp at hc0 hc1
  clear hp
  go_enter Tryd.func42, Tryd.ntmps42
  go_wp2_with (go_at_call 79; refine (clone_any v bs _ (Own.rd HP.out.own) hlen).mono ?_; rintro e w1 ⟨ao, cp, rfl, hown1, hk1, hf1⟩)
  go_ret2
  exact ⟨ao, cp, rfl, hown1, hk1, hf1⟩

set_option maxRecDepth 20000 in
set_option maxHeartbeats 400000 in
theorem pk_bytes_no (p : Nat) (v : Value) (bs : List UInt8) (er : Int) (w : World) (he : (er == 0) = false) (hp : Pk w p v bs er) :
    Calls Tryd.prog 42 #[.pointer (some ⟨p, 0, none⟩)] w fun e w' => e = .returned (.tuple #[.slice none 0 0, .int .i64 er]) ∧ Keeps No w w' := by
  have HP := Lib.hid hp
  have hc0 := cell_of_heap hp.heap 0
  have hc1 := cell_of_heap hp.heap 1
  simp at hc0 hc1
  clear hp
  have he2 : (er != 0) = true := by simpa [bne] using he
  go_enter Tryd.func42, Tryd.ntmps42
  go_wp2
  go_quiet (fail)
  go_wp2
  go_ret2
  exact ⟨rfl, (Keeps.refl _ w).drewN nq⟩
end Go.Proofs.YtpniohbjgpncmaaDoor
