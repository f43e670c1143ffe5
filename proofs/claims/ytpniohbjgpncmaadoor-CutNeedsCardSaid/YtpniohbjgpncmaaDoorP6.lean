import Derived.Test.YtpniohbjgpncmaaDoorP5
namespace Go.Proofs.YtpniohbjgpncmaaDoor
open Go.RowKit

theorem sliced_rd {W : World} {s : Nat} {a : Option Addr} {len c : Nat} {xs : List Value} (h : Rd W s (.slice a len c) len xs) (l hi : Nat) (h1 : l ≤ hi) (h2 : hi ≤ len) :
    Rd W s (sliced a l hi c s) (hi - l) ((xs.drop (l * s)).take ((hi - l) * s)) := by
  obtain ⟨hl, a', c', heq, hc, hn, hr⟩ := h
  cases heq
  unfold sliced
  have e1 : (hi - l) * s = hi * s - l * s := Nat.sub_mul _ _ _
  have e2 : hi * s ≤ len * s := Nat.mul_le_mul_right s h2
  have e3 : l * s ≤ hi * s := Nat.mul_le_mul_right s h1
  refine ⟨by simp only [List.length_take, List.length_drop, hl]; omega, _, _, rfl, by omega, ?_, ?_⟩
  · intro h
    have : a = none := by
      split at h
      · exact h
      · simpa using h
    obtain ⟨r1, r2⟩ := hn this
    omega
  · intro ad had
    split at had
    · rename_i hcl
      refine ⟨(hr ad had).1, fun j u hj => ?_⟩
      rw [List.getElem?_take] at hj
      split at hj
      · rw [List.getElem?_drop] at hj
        have := (List.getElem?_eq_some_iff.1 hj).1
        have : c * s ≥ len * s := Nat.mul_le_mul_right s hc
        subst hcl
        omega
      · cases hj
    · cases a with
      | none => cases had
      | some ad0 =>
        simp at had
        subst had
        obtain ⟨hsp, hcell⟩ := hr ad0 rfl
        refine ⟨by unfold Addr.add; split <;> simp_all, fun j u hj => ?_⟩
        rw [List.getElem?_take] at hj
        split at hj
        · rw [List.getElem?_drop] at hj
          have := hcell _ u hj
          obtain ⟨b0, o0, s0⟩ := ad0
          simp at hsp
          subst hsp
          rw [addr_add] at this ⊢
          rw [addr_add]
          rw [Nat.add_assoc]
          exact this
        · cases hj

theorem sliced_own (a : Option Addr) (len c l hi s : Nat) : (sliced a l hi c s).ownBlock = (Value.slice a len c).ownBlock := by
  unfold sliced
  cases a with
  | none => simp [Value.ownBlock]
  | some ad =>
    by_cases h : c = l
    · simp [h, Value.ownBlock]
    · simp only [h, if_false, Option.map_some, Value.ownBlock]
      unfold Addr.add
      split <;> rfl

def slA (a : Option Addr) (l c s : Nat) : Option Addr := if c = l then a else a.map (·.add (l * s))
theorem sliced_eq (a : Option Addr) (l h c s : Nat) : sliced a l h c s = .slice (slA a l c s) (h - l) (c - l) := rfl

theorem slice_to {P : Program} {T : TypeId} (ht : P.underlying T = some (.slice (P.elem T))) (s : Nat) (hs : ∀ W, (sizeOf (P.elem T)).run P W = .ok s W) (a : Option Addr) (len c n : Nat) (hc : len ≤ c) (hn : n ≤ len) :
    ∃ a1 c1, (∀ W, (Instr.slice T (.slice a len c) none (some (.int .i64 n)) none).run P W = .ok (.slice a1 n c1) W) ∧
      (∀ W xs, Rd W s (.slice a len c) len xs → Rd W s (.slice a1 n c1) n (xs.take (n * s))) ∧ (Value.slice a1 n c1).ownBlock = (Value.slice a len c).ownBlock := by
  refine ⟨slA a 0 c s, c - 0, fun W => ?_, fun W xs h => ?_, ?_⟩
  · rw [run_slice_h (P := P) (w := W) T a len c ht .i64 n (by omega) (by omega), hs W]
    simp only [Result.andThen, sliced_eq, Int.toNat_natCast, Nat.sub_zero]
  · have := sliced_rd h 0 n (Nat.zero_le _) hn
    rw [sliced_eq] at this
    simpa using this
  · have := sliced_own a len c 0 n s
    rw [sliced_eq] at this
    exact this

theorem slice_from {P : Program} {T : TypeId} (ht : P.underlying T = some (.slice (P.elem T))) (s : Nat) (hs : ∀ W, (sizeOf (P.elem T)).run P W = .ok s W) (a : Option Addr) (len c n : Nat) (hn : n ≤ len) :
    ∃ a1 c1, (∀ W, (Instr.slice T (.slice a len c) (some (.int .i64 n)) none none).run P W = .ok (.slice a1 (len - n) c1) W) ∧
      (∀ W xs, Rd W s (.slice a len c) len xs → Rd W s (.slice a1 (len - n) c1) (len - n) (xs.drop (n * s))) ∧ (Value.slice a1 (len - n) c1).ownBlock = (Value.slice a len c).ownBlock := by
  refine ⟨slA a n c s, c - n, fun W => ?_, fun W xs h => ?_, ?_⟩
  · rw [run_slice_l (P := P) (w := W) T a len c ht .i64 n (by omega) (by omega), hs W]
    simp only [Result.andThen, sliced_eq, Int.toNat_natCast]
  · have := sliced_rd h n len hn (Nat.le_refl _)
    rw [sliced_eq, List.take_of_length_le (by rw [List.length_drop, h.1, Nat.sub_mul]; exact Nat.le_refl _)] at this
    exact this
  · have := sliced_own a len c n len s
    rw [sliced_eq] at this
    exact this

theorem slice_lh {P : Program} {T : TypeId} (ht : P.underlying T = some (.slice (P.elem T))) (s : Nat) (hs : ∀ W, (sizeOf (P.elem T)).run P W = .ok s W) (a : Option Addr) (len c l h : Nat) (hc : len ≤ c) (h1 : l ≤ h) (h2 : h ≤ len) :
    ∃ a1 c1, (∀ W, (Instr.slice T (.slice a len c) (some (.int .i64 l)) (some (.int .i64 h)) none).run P W = .ok (.slice a1 (h - l) c1) W) ∧
      (∀ W xs, Rd W s (.slice a len c) len xs → Rd W s (.slice a1 (h - l) c1) (h - l) ((xs.drop (l * s)).take ((h - l) * s))) ∧ (Value.slice a1 (h - l) c1).ownBlock = (Value.slice a len c).ownBlock := by
  refine ⟨slA a l c s, c - l, fun W => ?_, fun W xs hx => ?_, ?_⟩
  · rw [run_slice_lh (P := P) (w := W) T a len c ht .i64 .i64 l h (by omega) (by omega) (by omega), hs W]
    simp only [Result.andThen, sliced_eq, Int.toNat_natCast]
  · have := sliced_rd hx l h h1 h2
    rw [sliced_eq] at this
    exact this
  · have := sliced_own a len c l h s
    rw [sliced_eq] at this
    exact this

theorem Tryd.elem27 : Tryd.prog.elem 27 = 5 := by kernel_rfl
theorem Tryd.slice27 : Tryd.prog.underlying 27 = some (.slice (Tryd.prog.elem 27)) := by kernel_rfl
theorem Tryd.size27 (W : World) : (sizeOf (Tryd.prog.elem 27)).run Tryd.prog W = .ok 1 W := by kernel_rfl

/-- An opener in block p: its rest v has the bytes l; its error. -/
structure Opn (w : World) (p : Nat) (v : Value) (l : List UInt8) (er : Int) : Prop where
  heap : w.heap[p]? = some (.cells #[v, .int .i64 er] 157 (0, 0))
  rd : Rd w 1 v l.length (bytesV l)
  ne : v.ownBlock ≠ some p

theorem Opn.keeps {S : Nat → Prop} {w w' : World} {p : Nat} {v : Value} {l : List UInt8} {er : Int} (h : Opn w p v l er) (k : Keeps S w w') (h1 : ¬ S p) (h2 : ∀ b, v.ownBlock = some b → ¬ S b) : Opn w' p v l er :=
  ⟨k.heap h.heap h1, h.rd.keeps k h2, h.ne⟩

/-- What a call on an opener leaves. -/
def TakePost (w : World) (p : Nat) (v : Value) (R : Value) (l : List UInt8) (er : Int) (e : Ending) (w' : World) : Prop :=
  e = .returned R ∧ ∃ v', Opn w' p v' l er ∧ v'.ownBlock = v.ownBlock ∧ Keeps (fun k => k = p) w w'

theorem take_close {w w1 : World} {p : Nat} {v R : Value} {l : List UInt8} {n : Nat} (h : Opn w p v l 0) {a1 : Option Addr} {c1 : Nat}
    (hr : ∀ W, Rd W 1 v l.length (bytesV l) → Rd W 1 (.slice a1 (l.length - n) c1) (l.length - n) ((bytesV l).drop (n * 1))) (ho : (Value.slice a1 (l.length - n) c1).ownBlock = v.ownBlock)
    (hk : Keeps No (w.setCell ⟨p, 0, none⟩ (.slice a1 (l.length - n) c1)) w1) : TakePost w p v R (l.drop n) 0 (.returned R) w1 := by
  have hs : Keeps (fun k => k = p) w (w.setCell ⟨p, 0, none⟩ (.slice a1 (l.length - n) c1)) := (Keeps.refl _ w).setCell _ _ (fun _ => rfl)
  refine ⟨rfl, .slice a1 (l.length - n) c1, ⟨?_, ?_, ?_⟩, ho, hs.trans hk (fun _ _ h => h) (fun _ _ h => h.elim)⟩
  · exact hk.heap (by rw [heap_setCell_same _ h.heap]; rfl) (fun h => h)
  · have h1 := hr w h.rd
    rw [Nat.mul_one] at h1
    have h2 : bytesV (l.drop n) = (bytesV l).drop n := by simp [bytesV, List.map_drop]
    rw [h2, List.length_drop]
    exact (h1.keeps hs (fun b hb e => h.ne (by rw [← ho, hb, e]))).keeps hk (fun _ _ h => h)
  · rw [ho]; exact h.ne

theorem take_rd {w : World} {p n : Nat} {v X : Value} {l : List UInt8} (h : Opn w p v l 0) {a1 : Option Addr} {c1 : Nat}
    (hr : ∀ W xs, Rd W 1 v l.length xs → Rd W 1 (.slice a1 n c1) n (xs.take (n * 1))) (ho : (Value.slice a1 n c1).ownBlock = v.ownBlock) : Rd (w.setCell ⟨p, 0, none⟩ X) 1 (.slice a1 n c1) n (bytesV (l.take n)) := by
  have h1 := hr w _ h.rd
  rw [Nat.mul_one] at h1
  have h2 : bytesV (l.take n) = (bytesV l).take n := by simp [bytesV, List.map_take]
  rw [h2]
  exact h1.keeps ((Keeps.refl (fun k => k = p) w).setCell _ _ (fun _ => rfl)) (fun b hb e => h.ne (by rw [← ho, hb, e]))

set_option maxRecDepth 20000 in
set_option maxHeartbeats 400000 in
theorem take80 (p : Nat) (v : Value) (l : List UInt8) (n F : Nat) (R : Value) (w : World) (hp : Opn w p v l 0) (hn : n ≤ l.length) (_hll : l.length < 1000000)
    (hcf : ∀ W x, (callFunc F #[x]).run Tryd.prog W = .ok (.enter F #[x]) W)
    (hsay : ∀ W a1 c1, Rd W 1 (.slice a1 n c1) n (bytesV (l.take n)) → Calls Tryd.prog F #[.slice a1 n c1] W fun e W' => e = .returned R ∧ Keeps No W W') :
    Calls Tryd.prog 80 #[.pointer (some ⟨p, 0, none⟩), .int .i64 n, .func (.func F) #[] #[]] w (TakePost w p v R (l.drop n) 0) := by
  have HP := Lib.hid hp
  obtain ⟨hh, hrd, hne⟩ := hp
  have HR := Lib.hid hrd
  obtain ⟨h1, a, c, rfl, hc, h2, h3⟩ := hrd
  clear h1 h2 h3
  obtain ⟨a1, c1, s1, r1, o1⟩ := slice_to Tryd.slice27 1 Tryd.size27 a l.length c n hc hn
  obtain ⟨a2, c2, s2, r2, o2⟩ := slice_from Tryd.slice27 1 Tryd.size27 a l.length c n hn
  have R1 := Lib.hid r1; clear r1
  have R2 := Lib.hid r2; clear r2
  have O1 := Lib.hid o1; clear o1
  have O2 := Lib.hid o2; clear o2
  have HS := Lib.hid hsay; clear hsay
  have HN := Lib.hid hne; clear hne
  have hc0 := cell_of_heap hh 0
  have hc1 := cell_of_heap hh 1
  have hf := frozen_of_heap hh 0
  simp at hc0 hc1
  have hq : ¬ (l.length : Int) < n := by omega
  have hq2 : ¬ (n : Int) < 0 := by omega
  clear hh
  go_enter Tryd.func80, Tryd.ntmps80
  go_wp2_with fail
  refine (HS.out _ a1 c1 (take_rd HP.out R1.out O1.out)).mono ?_
  rintro e w1 ⟨rfl, hk1⟩
  go_wp2
  go_ret
  exact take_close HP.out (fun W => R2.out W _) O2.out hk1
set_option maxRecDepth 20000 in
set_option maxHeartbeats 400000 in
theorem take83 (p : Nat) (v : Value) (l : List UInt8) (n F : Nat) (R : Value) (w : World) (hp : Opn w p v l 0) (hn : n ≤ l.length) (_hll : l.length < 1000000)
    (hcf : ∀ W x, (callFunc F #[x]).run Tryd.prog W = .ok (.enter F #[x]) W)
    (hsay : ∀ W a1 c1, Rd W 1 (.slice a1 n c1) n (bytesV (l.take n)) → Calls Tryd.prog F #[.slice a1 n c1] W fun e W' => e = .returned R ∧ Keeps No W W') :
    Calls Tryd.prog 83 #[.pointer (some ⟨p, 0, none⟩), .int .i64 n, .func (.func F) #[] #[]] w (TakePost w p v R (l.drop n) 0) := by
  have HP := Lib.hid hp
  obtain ⟨hh, hrd, hne⟩ := hp
  have HR := Lib.hid hrd
  obtain ⟨h1, a, c, rfl, hc, h2, h3⟩ := hrd
  clear h1 h2 h3
  obtain ⟨a1, c1, s1, r1, o1⟩ := slice_to Tryd.slice27 1 Tryd.size27 a l.length c n hc hn
  obtain ⟨a2, c2, s2, r2, o2⟩ := slice_from Tryd.slice27 1 Tryd.size27 a l.length c n hn
  have R1 := Lib.hid r1; clear r1
  have R2 := Lib.hid r2; clear r2
  have O1 := Lib.hid o1; clear o1
  have O2 := Lib.hid o2; clear o2
  have HS := Lib.hid hsay; clear hsay
  have HN := Lib.hid hne; clear hne
  have hc0 := cell_of_heap hh 0
  have hc1 := cell_of_heap hh 1
  have hf := frozen_of_heap hh 0
  simp at hc0 hc1
  have hq : ¬ (l.length : Int) < n := by omega
  have hq2 : ¬ (n : Int) < 0 := by omega
  clear hh
  go_enter Tryd.func83, Tryd.ntmps83
  go_wp2_with fail
  refine (HS.out _ a1 c1 (take_rd HP.out R1.out O1.out)).mono ?_
  rintro e w1 ⟨rfl, hk1⟩
  go_wp2
  go_ret
  exact take_close HP.out (fun W => R2.out W _) O2.out hk1
end Go.Proofs.YtpniohbjgpncmaaDoor
