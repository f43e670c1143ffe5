import Derived.Test.YtpniohbjgpncmaaDoorP6
namespace Go.Proofs.YtpniohbjgpncmaaDoor
open Go.RowKit

/-- a take that fails: the error is laid, nothing else turns -/
def BadPost (w : World) (p : Nat) (v : Value) (R : Value) (l : List UInt8) (er : Int) (e : Ending) (w' : World) : Prop :=
  e = .returned R ∧ Opn w' p v l er ∧ Keeps (fun k => k = p) w w'

theorem Opn.err {w : World} {p : Nat} {v : Value} {l : List UInt8} {er : Int} (h : Opn w p v l er) (er' : Int) : Opn (w.setCell ⟨p, 1, none⟩ (.int .i64 er')) p v l er' :=
  ⟨by rw [heap_setCell_same _ h.heap]; rfl, h.rd.keeps ((Keeps.refl (fun k => k = p) w).setCell _ _ (fun _ => rfl)) (fun b hb e => h.ne (by rw [hb, e])), h.ne⟩

set_option maxRecDepth 20000 in
set_option maxHeartbeats 400000 in
theorem take80_bad (p : Nat) (v : Value) (l : List UInt8) (n : Int) (f : Value) (w : World) (hp : Opn w p v l 0) (hn : n < 0 ∨ (l.length : Int) < n) :
    Calls Tryd.prog 80 #[.pointer (some ⟨p, 0, none⟩), .int .i64 n, f] w (BadPost w p v (.string ⟨#[]⟩) l 3) := by
  have HP := Lib.hid hp
  obtain ⟨hh, hrd, hne⟩ := hp
  obtain ⟨h1, a, c, rfl, hc, h2, h3⟩ := hrd
  clear h1 h2 h3 hne
  have hc0 := cell_of_heap hh 0
  have hc1 := cell_of_heap hh 1
  have hf := frozen_of_heap hh 1
  simp at hc0 hc1
  clear hh
  rcases (show n < 0 ∨ (¬ n < 0 ∧ (l.length : Int) < n) by omega) with hn | ⟨hn, hn2⟩
  · go_enter Tryd.func80, Tryd.ntmps80
    go_wp2
    go_ret
    exact ⟨rfl, HP.out.err 3, (Keeps.refl _ w).setCell _ _ (fun _ => rfl)⟩
  · go_enter Tryd.func80, Tryd.ntmps80
    go_wp2
    go_ret
    exact ⟨rfl, HP.out.err 3, (Keeps.refl _ w).setCell _ _ (fun _ => rfl)⟩

set_option maxRecDepth 20000 in
set_option maxHeartbeats 400000 in
theorem take80_dead (p : Nat) (v : Value) (l : List UInt8) (er n : Int) (f : Value) (w : World) (hp : Opn w p v l er) (he : (er != 0) = true) :
    Calls Tryd.prog 80 #[.pointer (some ⟨p, 0, none⟩), .int .i64 n, f] w (BadPost w p v (.string ⟨#[]⟩) l er) := by
  have HP := Lib.hid hp
  obtain ⟨hh, hrd, hne⟩ := hp
  clear hrd hne
  have hc1 := cell_of_heap hh 1
  simp at hc1
  clear hh
  go_enter Tryd.func80, Tryd.ntmps80
  go_wp2
  go_ret
  exact ⟨rfl, HP.out, Keeps.refl _ w⟩
set_option maxRecDepth 20000 in
set_option maxHeartbeats 400000 in
theorem take83_bad (p : Nat) (v : Value) (l : List UInt8) (n : Int) (f : Value) (w : World) (hp : Opn w p v l 0) (hn : n < 0 ∨ (l.length : Int) < n) :
    Calls Tryd.prog 83 #[.pointer (some ⟨p, 0, none⟩), .int .i64 n, f] w (BadPost w p v (.int .u64 0) l 3) := by
  have HP := Lib.hid hp
  obtain ⟨hh, hrd, hne⟩ := hp
  obtain ⟨h1, a, c, rfl, hc, h2, h3⟩ := hrd
  clear h1 h2 h3 hne
  have hc0 := cell_of_heap hh 0
  have hc1 := cell_of_heap hh 1
  have hf := frozen_of_heap hh 1
  simp at hc0 hc1
  clear hh
  rcases (show n < 0 ∨ (¬ n < 0 ∧ (l.length : Int) < n) by omega) with hn | ⟨hn, hn2⟩
  · go_enter Tryd.func83, Tryd.ntmps83
    go_wp2
    go_ret
    exact ⟨rfl, HP.out.err 3, (Keeps.refl _ w).setCell _ _ (fun _ => rfl)⟩
  · go_enter Tryd.func83, Tryd.ntmps83
    go_wp2
    go_ret
    exact ⟨rfl, HP.out.err 3, (Keeps.refl _ w).setCell _ _ (fun _ => rfl)⟩

set_option maxRecDepth 20000 in
set_option maxHeartbeats 400000 in
theorem take83_dead (p : Nat) (v : Value) (l : List UInt8) (er n : Int) (f : Value) (w : World) (hp : Opn w p v l er) (he : (er != 0) = true) :
    Calls Tryd.prog 83 #[.pointer (some ⟨p, 0, none⟩), .int .i64 n, f] w (BadPost w p v (.int .u64 0) l er) := by
  have HP := Lib.hid hp
  obtain ⟨hh, hrd, hne⟩ := hp
  clear hrd hne
  have hc1 := cell_of_heap hh 1
  simp at hc1
  clear hh
  go_enter Tryd.func83, Tryd.ntmps83
  go_wp2
  go_ret
  exact ⟨rfl, HP.out, Keeps.refl _ w⟩
end Go.Proofs.YtpniohbjgpncmaaDoor
