import Derived.Test.YtpniohbjgpncmaaDoorPA
namespace Go.Proofs.YtpniohbjgpncmaaDoor
open Go.RowKit

/-- what is taken, what is left, the error -/
def oTake (l : List UInt8) (er n : Int) : List UInt8 × List UInt8 × Int :=
  if er ≠ 0 then ([], l, er) else if n < 0 ∨ (l.length : Int) < n then ([], l, 3) else (l.take n.toNat, l.drop n.toNat, 0)

theorem BadPost.take {w : World} {p : Nat} {v R : Value} {l : List UInt8} {er : Int} {e : Ending} {w' : World} (h : BadPost w p v R l er e w') : TakePost w p v R l er e w' :=
  ⟨h.1, v, h.2.1, rfl, h.2.2⟩

theorem Tryd.cf81 (W : World) (x : Value) : (callFunc 81 #[x]).run Tryd.prog W = .ok (.enter 81 #[x]) W := by kernel_rfl
theorem Tryd.cf84 (W : World) (x : Value) : (callFunc 84 #[x]).run Tryd.prog W = .ok (.enter 84 #[x]) W := by kernel_rfl

theorem take80_all (p : Nat) (v : Value) (l : List UInt8) (er n : Int) (w : World) (hp : Opn w p v l er) (hll : l.length < 1000000) :
    Calls Tryd.prog 80 #[.pointer (some ⟨p, 0, none⟩), .int .i64 n, .func (.func 81) #[] #[]] w (TakePost w p v (.string ⟨(oTake l er n).1.toArray⟩) (oTake l er n).2.1 (oTake l er n).2.2) := by
  unfold oTake
  by_cases h : er = 0
  · subst h
    by_cases h2 : n < 0 ∨ (l.length : Int) < n
    · rw [if_neg (by simp), if_pos h2]
      exact (take80_bad p v l n _ w hp h2).mono fun _ _ h => h.take
    · rw [if_neg (by simp), if_neg h2]
      obtain ⟨k, rfl⟩ := Int.eq_ofNat_of_zero_le (show 0 ≤ n by omega)
      exact take80 p v l k 81 _ w hp (by omega) hll Tryd.cf81 (fun W a1 c1 h => text_n a1 c1 k _ W (by rw [List.length_take]; omega) h)
  · rw [if_pos h]
    exact (take80_dead p v l er n _ w hp (by simp [h])).mono fun _ _ h => h.take

theorem take83_all (p : Nat) (v : Value) (l : List UInt8) (er n : Int) (w : World) (hp : Opn w p v l er) (hll : l.length < 1000000) (h8 : n ≤ 8) :
    Calls Tryd.prog 83 #[.pointer (some ⟨p, 0, none⟩), .int .i64 n, .func (.func 84) #[] #[]] w (TakePost w p v (.int .u64 (valTo (oTake l er n).1 (oTake l er n).1.length)) (oTake l er n).2.1 (oTake l er n).2.2) := by
  unfold oTake
  by_cases h : er = 0
  · subst h
    by_cases h2 : n < 0 ∨ (l.length : Int) < n
    · rw [if_neg (by simp), if_pos h2]
      exact (take83_bad p v l n _ w hp h2).mono fun _ _ h => h.take
    · rw [if_neg (by simp), if_neg h2]
      obtain ⟨k, rfl⟩ := Int.eq_ofNat_of_zero_le (show 0 ≤ n by omega)
      have hk : (l.take k).length = k := by rw [List.length_take]; omega
      refine take83 p v l k 84 _ w hp (by omega) hll Tryd.cf84 (fun W a1 c1 h => ?_)
      show Calls _ _ _ _ fun e W' => e = .returned (.int .u64 (valTo (l.take k) (l.take k).length)) ∧ _
      rw [hk]
      exact num_n a1 c1 k _ W hk (by omega) h
  · rw [if_pos h]
    exact (take83_dead p v l er n _ w hp (by simp [h])).mono fun _ _ h => h.take

set_option maxRecDepth 20000 in
set_option maxHeartbeats 400000 in
theorem text_all (p : Nat) (v : Value) (l : List UInt8) (er n : Int) (w : World) (hp : Opn w p v l er) (hll : l.length < 1000000) :
    Calls Tryd.prog 30 #[.pointer (some ⟨p, 0, none⟩), .int .i64 n] w (TakePost w p v (.string ⟨(oTake l er n).1.toArray⟩) (oTake l er n).2.1 (oTake l er n).2.2) := by
  have HP := Lib.hid hp; clear hp
  go_enter Tryd.func30, Tryd.ntmps30
  go_wp2_with fail
  refine (take80_all p v l er n _ HP.out hll).mono ?_
  rintro e w' hx
  obtain ⟨rfl, hy⟩ := hx
  go_wp2
  go_ret
  exact ⟨rfl, hy⟩

def oNum (l : List UInt8) (er n : Int) : List UInt8 × List UInt8 × Int := oTake l er (if wideB n then n else -1)
set_option maxRecDepth 20000 in
set_option maxHeartbeats 400000 in
theorem num_all (p : Nat) (v : Value) (l : List UInt8) (er n : Int) (w : World) (hp : Opn w p v l er) (hll : l.length < 1000000) :
    Calls Tryd.prog 31 #[.pointer (some ⟨p, 0, none⟩), .int .i64 n] w (TakePost w p v (.int .u64 (valTo (oNum l er n).1 (oNum l er n).1.length)) (oNum l er n).2.1 (oNum l er n).2.2) := by
  have HP := Lib.hid hp; clear hp
  unfold oNum
  cases hw : wideB n with
  | true =>
    have h8 : n ≤ 8 := by
      unfold wideB at hw
      simp at hw
      omega
    simp only [if_true]
    go_enter Tryd.func31, Tryd.ntmps31
    go_wp2_with (first | (go_at_call 82; refine (wide_any _ _).mono ?_; rintro e w' ⟨rfl, rfl⟩))
    refine (take83_all p v l er n _ HP.out hll h8).mono ?_
    rintro e w' hx
    obtain ⟨rfl, hy⟩ := hx
    go_wp2
    go_ret
    exact ⟨rfl, hy⟩
  | false =>
    simp only [Bool.false_eq_true, if_false]
    go_enter Tryd.func31, Tryd.ntmps31
    go_wp2_with (first | (go_at_call 82; refine (wide_any _ _).mono ?_; rintro e w' ⟨rfl, rfl⟩))
    refine (take83_all p v l er (-1) _ HP.out hll (by omega)).mono ?_
    rintro e w' hx
    obtain ⟨rfl, hy⟩ := hx
    go_wp2
    go_ret
    exact ⟨rfl, hy⟩

set_option maxRecDepth 20000 in
set_option maxHeartbeats 400000 in
theorem left_all (p : Nat) (v : Value) (l : List UInt8) (er : Int) (w : World) (hp : Opn w p v l er) :
    Calls Tryd.prog 45 #[.pointer (some ⟨p, 0, none⟩)] w fun e w' => e = .returned (.int .i64 l.length) ∧ w = w' := by
  obtain ⟨hh, hrd, hne⟩ := hp
  obtain ⟨h1, a, c, rfl, hc, h2, h3⟩ := hrd
  clear h1 h2 h3
  have hc0 := cell_of_heap hh 0
  simp at hc0
  clear hh
  go_enter Tryd.func45, Tryd.ntmps45
  go_wp2
  go_ret
  exact ⟨rfl, rfl⟩
set_option maxRecDepth 20000 in
set_option maxHeartbeats 400000 in
theorem err_all (p : Nat) (v : Value) (l : List UInt8) (er : Int) (w : World) (hp : Opn w p v l er) :
    Calls Tryd.prog 32 #[.pointer (some ⟨p, 0, none⟩)] w fun e w' => e = .returned (.int .i64 er) ∧ w = w' := by
  obtain ⟨hh, hrd, hne⟩ := hp
  clear hrd hne
  have hc1 := cell_of_heap hh 1
  simp at hc1
  clear hh
  go_enter Tryd.func32, Tryd.ntmps32
  go_wp2
  go_ret
  exact ⟨rfl, rfl⟩
def oEnd (l : List UInt8) (er : Int) : Int := if er ≠ 0 then er else if l.length = 0 then 0 else 3
set_option maxRecDepth 20000 in
set_option maxHeartbeats 400000 in
theorem end_all (p : Nat) (v : Value) (l : List UInt8) (er : Int) (w : World) (hp : Opn w p v l er) :
    Calls Tryd.prog 46 #[.pointer (some ⟨p, 0, none⟩)] w fun e w' => e = .returned (.int .i64 (oEnd l er)) ∧ w = w' := by
  have HP := Lib.hid hp; clear hp
  by_cases h : er = 0
  · subst h
    by_cases h2 : l.length = 0
    · have h3 : ((l.length : Int) == 0) = true := by simp [h2]
      have H2 : Hid (oEnd l 0 = 0) := by show _ = _; simp [oEnd, h2]
      clear h2
      go_enter Tryd.func46, Tryd.ntmps46
      go_wp2_with (first | (go_at_call 32; refine (err_all p v l 0 _ HP.out).mono ?_; rintro e w' ⟨rfl, rfl⟩) | (go_at_call 45; refine (left_all p v l 0 _ HP.out).mono ?_; rintro e w' ⟨rfl, rfl⟩))
      go_ret
      exact ⟨by rw [H2.out]; rfl, rfl⟩
    · have h3 : ((l.length : Int) == 0) = false := by simpa using h2
      have H2 : Hid (oEnd l 0 = 3) := by show _ = _; simp only [oEnd]; rw [if_neg (by simp), if_neg h2]
      clear h2
      go_enter Tryd.func46, Tryd.ntmps46
      go_wp2_with (first | (go_at_call 32; refine (err_all p v l 0 _ HP.out).mono ?_; rintro e w' ⟨rfl, rfl⟩) | (go_at_call 45; refine (left_all p v l 0 _ HP.out).mono ?_; rintro e w' ⟨rfl, rfl⟩))
      go_ret
      exact ⟨by rw [H2.out]; rfl, rfl⟩
  · have h3 : (er != 0) = true := by simpa using h
    have H2 : Hid (oEnd l er = er) := by show _ = _; simp [oEnd, h]
    clear h
    go_enter Tryd.func46, Tryd.ntmps46
    go_wp2_with (first | (go_at_call 32; refine (err_all p v l er _ HP.out).mono ?_; rintro e w' ⟨rfl, rfl⟩) | (go_at_call 45; refine (left_all p v l er _ HP.out).mono ?_; rintro e w' ⟨rfl, rfl⟩))
    go_ret
    exact ⟨by rw [H2.out]; rfl, rfl⟩
end Go.Proofs.YtpniohbjgpncmaaDoor
