/- The checksum, in plain words: table-driven and bit by bit are one: conditions: none. -/
namespace Go.Proofs.YtpniohbjgpncmaaDoor

def crcTab : List Nat := [0, 274646895, 549293790, 820201905, 1098587580, 1361435347, 1640403810, 1905808397, 2197175160, 2460548119, 2722870694, 2987750089, 3280807620, 3553878443, 3811616794, 4084100981]
def crcHalf (n : Nat) : Nat := (crcTab[n % 16]?.getD 0) ^^^ (n / 16)
def crcByte (n c : Nat) : Nat := crcHalf (crcHalf (n ^^^ c))
def crcTo (l : List UInt8) (k : Nat) : Nat := (l.take k).foldl (fun n c => crcByte n c.toNat) 4294967295
def crcOf (l : List UInt8) : Nat := 4294967295 - crcTo l l.length

/-- one bit -/
def crcBit (n : Nat) : Nat := if n % 2 = 1 then (n / 2) ^^^ 2197175160 else n / 2

theorem xor_mod2 (a b : Nat) : (a ^^^ b) % 2 = (a % 2) ^^^ (b % 2) := Nat.xor_mod_two_pow (n := 1)
theorem xor_div2 (a b : Nat) : (a ^^^ b) / 2 = a / 2 ^^^ b / 2 := Nat.xor_div_two_pow (n := 1)
theorem crcBit_xor (a b : Nat) : crcBit (a ^^^ b) = crcBit a ^^^ crcBit b := by
  unfold crcBit
  rw [xor_div2, xor_mod2]
  rcases Nat.mod_two_eq_zero_or_one a with ha | ha <;> rcases Nat.mod_two_eq_zero_or_one b with hb | hb <;> rw [ha, hb]
  · simp
  · simp only [Nat.zero_xor, if_true]
    rw [if_neg (by decide), Nat.xor_assoc]
  · simp only [Nat.xor_zero, if_true]
    rw [if_neg (by decide), Nat.xor_assoc, Nat.xor_assoc, Nat.xor_comm (b / 2)]
  · rw [if_neg (by decide), if_pos rfl, if_pos rfl]
    rw [Nat.xor_assoc, Nat.xor_comm (b / 2) 2197175160, ← Nat.xor_assoc 2197175160, Nat.xor_self, Nat.zero_xor]
def crcBits (k n : Nat) : Nat := match k with | 0 => n | k + 1 => crcBits k (crcBit n)
theorem crcBits_xor (k : Nat) : ∀ a b, crcBits k (a ^^^ b) = crcBits k a ^^^ crcBits k b := by
  induction k with
  | zero => intro a b; rfl
  | succ k ih => intro a b; simp only [crcBits]; rw [crcBit_xor, ih]
theorem crcBit_even (q : Nat) : crcBit (2 * q) = q := by
  unfold crcBit
  rw [if_neg (by omega)]
  omega
theorem split16 (n : Nat) : n = (16 * (n / 16)) ^^^ (n % 16) := by
  have h1 : ((16 * (n / 16)) ^^^ (n % 16)) / 16 = n / 16 := by
    have := Nat.xor_div_two_pow (a := 16 * (n / 16)) (b := n % 16) (n := 4)
    simp only [Nat.reducePow] at this
    rw [this, Nat.div_eq_of_lt (Nat.mod_lt n (by decide)), Nat.mul_div_cancel_left _ (by decide), Nat.xor_zero]
  have h2 : ((16 * (n / 16)) ^^^ (n % 16)) % 16 = n % 16 := by
    have := Nat.xor_mod_two_pow (a := 16 * (n / 16)) (b := n % 16) (n := 4)
    simp only [Nat.reducePow] at this
    rw [this, Nat.mul_mod_right, Nat.zero_xor, Nat.mod_mod]
  omega
theorem tab16 (r : Nat) (h : r < 16) : crcBits 4 r = crcTab[r]?.getD 0 := by
  have : ∀ r : Fin 16, crcBits 4 r.val = crcTab[r.val]?.getD 0 := by decide
  exact this ⟨r, h⟩
theorem crcHalf_bits (n : Nat) : crcHalf n = crcBits 4 n := by
  have h := split16 n
  have e : crcBits 4 n = crcBits 4 (16 * (n / 16)) ^^^ crcBits 4 (n % 16) := by rw [← crcBits_xor, ← h]
  rw [e, tab16 _ (Nat.mod_lt _ (by decide))]
  have : crcBits 4 (16 * (n / 16)) = n / 16 := by
    show crcBit (crcBit (crcBit (crcBit (16 * (n / 16))))) = _
    rw [show 16 * (n / 16) = 2 * (2 * (2 * (2 * (n / 16)))) by omega, crcBit_even, crcBit_even, crcBit_even, crcBit_even]
  rw [this, Nat.xor_comm]
  rfl
theorem crcBits_add (j k n : Nat) : crcBits (j + k) n = crcBits k (crcBits j n) := by
  induction j generalizing n with
  | zero => rw [Nat.zero_add]; rfl
  | succ j ih => rw [Nat.succ_add]; simp only [crcBits]; exact ih _
theorem crcByte_bits (n c : Nat) : crcByte n c = crcBits 8 (n ^^^ c) := by
  unfold crcByte
  rw [crcHalf_bits, crcHalf_bits, ← crcBits_add]

theorem crcBit_lt (n : Nat) (h : n < 4294967296) : crcBit n < 4294967296 := by
  unfold crcBit
  split
  · exact Nat.xor_lt_two_pow (n := 32) (by omega) (by omega)
  · omega
theorem crcBits_lt (k : Nat) : ∀ n, n < 4294967296 → crcBits k n < 4294967296 := by
  induction k with
  | zero => intro n h; exact h
  | succ k ih => intro n h; exact ih _ (crcBit_lt n h)
theorem crcHalf_lt (n : Nat) (h : n < 4294967296) : crcHalf n < 4294967296 := by rw [crcHalf_bits]; exact crcBits_lt 4 n h
theorem crcByte_lt (n c : Nat) (h : n < 4294967296) (hc : c < 256) : crcByte n c < 4294967296 := by
  rw [crcByte_bits]
  exact crcBits_lt 8 _ (Nat.xor_lt_two_pow (n := 32) h (by omega))
theorem crcTo_succ (l : List UInt8) (k : Nat) (h : k < l.length) : crcTo l (k + 1) = crcByte (crcTo l k) (l[k]).toNat := by
  unfold crcTo
  rw [List.take_succ_eq_append_getElem h, List.foldl_append]
  rfl
theorem crcTo_lt (l : List UInt8) (k : Nat) (h : k ≤ l.length) : crcTo l k < 4294967296 := by
  induction k with
  | zero => simp [crcTo]
  | succ k ih =>
    rw [crcTo_succ l k h]
    exact crcByte_lt _ _ (ih (by omega)) (l[k]).toNat_lt
theorem crcOf_lt (l : List UInt8) : crcOf l < 4294967296 := by unfold crcOf; omega

/-- the reference's step: a number and a byte, a bit of each at a time -/
def refN : Nat → Nat → Nat → Nat
  | 0, n, _ => n
  | k + 1, n, c => refN k (if (n % 2 + c % 2) % 2 = 1 then (n / 2) ^^^ 2197175160 else n / 2) (c / 2)
theorem refN_bits (k : Nat) : ∀ n c, c < 2 ^ k → refN k n c = crcBits k (n ^^^ c) := by
  induction k with
  | zero =>
    intro n c h
    have : c = 0 := by simpa using h
    subst this
    simp [refN, crcBits]
  | succ k ih =>
    intro n c h
    rw [Nat.pow_succ] at h
    simp only [refN, crcBits]
    rw [ih _ _ (by omega)]
    congr 1
    unfold crcBit
    have e : (n ^^^ c) % 2 = (n % 2 + c % 2) % 2 := by
      rw [xor_mod2]
      rcases Nat.mod_two_eq_zero_or_one n with ha | ha <;> rcases Nat.mod_two_eq_zero_or_one c with hb | hb <;> rw [ha, hb] <;> rfl
    rw [e, xor_div2]
    split
    · rw [Nat.xor_assoc, Nat.xor_assoc, Nat.xor_comm 2197175160]
    · rfl
theorem refN_byte (n c : Nat) (h : c < 256) : refN 8 n c = crcByte n c := by rw [refN_bits 8 n c h, crcByte_bits]
/-- after k bits: what is left to do comes to the same -/
def refTo : Nat → Nat → Nat → Nat × Nat
  | 0, n, c => (n, c)
  | k + 1, n, c => let s := refTo k n c; (if (s.1 % 2 + s.2 % 2) % 2 = 1 then (s.1 / 2) ^^^ 2197175160 else s.1 / 2, s.2 / 2)
theorem refTo_N (j k : Nat) : ∀ n c, refN (j + k) n c = refN k (refTo j n c).1 (refTo j n c).2 := by
  induction j generalizing k with
  | zero => intro n c; rw [Nat.zero_add]; rfl
  | succ j ih =>
    intro n c
    rw [show j + 1 + k = j + (k + 1) by omega, ih]
    rfl
theorem refTo_lt (k n c : Nat) (hn : n < 4294967296) (hc : c < 256) : (refTo k n c).1 < 4294967296 ∧ (refTo k n c).2 < 256 := by
  induction k with
  | zero => exact ⟨hn, hc⟩
  | succ k ih =>
    simp only [refTo]
    refine ⟨?_, by omega⟩
    split
    · exact Nat.xor_lt_two_pow (n := 32) (by omega) (by omega)
    · omega
theorem refTo_succ (k n c : Nat) : refTo (k + 1) n c = (if ((refTo k n c).1 % 2 + (refTo k n c).2 % 2) % 2 = 1 then ((refTo k n c).1 / 2) ^^^ 2197175160 else (refTo k n c).1 / 2, (refTo k n c).2 / 2) := rfl
theorem refTo_8 (n c : Nat) (h : c < 256) : (refTo 8 n c).1 = crcByte n c := by
  rw [← refN_byte n c h, show (8 : Nat) = 8 + 0 from rfl, refTo_N 8 0]
  rfl
end Go.Proofs.YtpniohbjgpncmaaDoor
