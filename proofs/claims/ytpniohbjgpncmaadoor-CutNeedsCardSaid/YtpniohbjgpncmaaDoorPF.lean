import Derived.Test.YtpniohbjgpncmaaDoorPE
namespace Go.Proofs.YtpniohbjgpncmaaDoor
open Go.RowKit

def tBox (l : List UInt8) : Nat := valTo ((l.drop 4).take 2) 2
def tUsed (l : List UInt8) : Nat := valTo ((l.drop 6).take 2) 2
def tSum (l : List UInt8) : Nat := valTo ((l.drop 8).take 4) 4
def takeOk (l : List UInt8) : Bool := decide (tUsed l ≤ 2048 ∧ headBytes (tBox l) (tUsed l) (tSum l) = l)

def s1 (l : List UInt8) := oTake l 0 4
def s2 (l : List UInt8) := oNum (s1 l).2.1 (s1 l).2.2 2
def s3 (l : List UInt8) := oNum (s2 l).2.1 (s2 l).2.2 2
def s4 (l : List UInt8) := oNum (s3 l).2.1 (s3 l).2.2 4

theorem oTake_len (l : List UInt8) (er n : Int) : (oTake l er n).2.1.length ≤ l.length := by
  unfold oTake
  split
  · exact Nat.le_refl _
  · split
    · exact Nat.le_refl _
    · simp only [List.length_drop]; omega
theorem oNum_len (l : List UInt8) (er n : Int) : (oNum l er n).2.1.length ≤ l.length := oTake_len _ _ _
theorem oTake_ok (l : List UInt8) (n : Nat) (h : n ≤ l.length) : oTake l 0 n = (l.take n, l.drop n, 0) := by
  unfold oTake
  rw [if_neg (by simp), if_neg (by omega)]
  simp
theorem oTake_short (l : List UInt8) (n : Nat) (h : ¬ n ≤ l.length) : oTake l 0 n = ([], l, 3) := by
  unfold oTake
  rw [if_neg (by simp), if_pos (by omega)]
theorem oTake_dead (l : List UInt8) (er n : Int) (h : er ≠ 0) : oTake l er n = ([], l, er) := by
  unfold oTake
  rw [if_pos h]
theorem oNum2 (l : List UInt8) (er : Int) : oNum l er 2 = oTake l er 2 := rfl
theorem oNum4 (l : List UInt8) (er : Int) : oNum l er 4 = oTake l er 4 := rfl
theorem oTake_val (l : List UInt8) (er : Int) (n : Nat) : valTo (oTake l er n).1 (oTake l er n).1.length < 256 ^ n := by
  by_cases h : er = 0
  · subst h
    by_cases h2 : n ≤ l.length
    · rw [oTake_ok l n h2]
      have := valTo_lt (l.take n) (l.take n).length (Nat.le_refl _)
      rw [List.length_take, Nat.min_eq_left h2] at this
      simpa [List.length_take, Nat.min_eq_left h2] using this
    · rw [oTake_short l n h2]
      simp [valTo, Nat.pow_pos]
  · rw [oTake_dead l er n h]
    simp [valTo, Nat.pow_pos]

theorem s4_ok (l : List UInt8) (h : 12 ≤ l.length) : (s4 l).2.2 = 0 ∧ valTo (s2 l).1 (s2 l).1.length = tBox l ∧ valTo (s3 l).1 (s3 l).1.length = tUsed l ∧ valTo (s4 l).1 (s4 l).1.length = tSum l := by
  have e1 : s1 l = (l.take 4, l.drop 4, 0) := oTake_ok l 4 (by omega)
  have e2 : s2 l = ((l.drop 4).take 2, (l.drop 4).drop 2, 0) := by unfold s2; rw [e1]; exact oTake_ok _ 2 (by simp only [List.length_drop]; omega)
  have e3 : s3 l = (((l.drop 4).drop 2).take 2, ((l.drop 4).drop 2).drop 2, 0) := by unfold s3; rw [e2]; exact oTake_ok _ 2 (by simp only [List.length_drop]; omega)
  have e4 : s4 l = ((((l.drop 4).drop 2).drop 2).take 4, (((l.drop 4).drop 2).drop 2).drop 4, 0) := by unfold s4; rw [e3]; exact oTake_ok _ 4 (by simp only [List.length_drop]; omega)
  have n2 : ((l.drop 4).take 2).length = 2 := by rw [List.length_take, List.length_drop]; omega
  have n3 : (((l.drop 4).drop 2).take 2).length = 2 := by rw [List.length_take, List.length_drop, List.length_drop]; omega
  have n4 : ((((l.drop 4).drop 2).drop 2).take 4).length = 4 := by rw [List.length_take, List.length_drop, List.length_drop, List.length_drop]; omega
  rw [e4, e3, e2]
  refine ⟨rfl, ?_, ?_, ?_⟩
  · show valTo ((l.drop 4).take 2) ((l.drop 4).take 2).length = _
    rw [n2]; rfl
  · show valTo (((l.drop 4).drop 2).take 2) (((l.drop 4).drop 2).take 2).length = _
    rw [n3, List.drop_drop]; rfl
  · show valTo ((((l.drop 4).drop 2).drop 2).take 4) ((((l.drop 4).drop 2).drop 2).take 4).length = _
    rw [n4, List.drop_drop, List.drop_drop]; rfl
theorem oTake_er (l : List UInt8) (er n : Int) (h : er ≠ 0) : (oTake l er n).2.2 ≠ 0 := by rw [oTake_dead l er n h]; exact h
theorem three_ne : (3 : Int) ≠ 0 := by decide
theorem s4_short (l : List UInt8) (h : ¬ 12 ≤ l.length) : (s4 l).2.2 ≠ 0 := by
  by_cases h1 : 4 ≤ l.length
  · have e1 : s1 l = (l.take 4, l.drop 4, 0) := oTake_ok l 4 h1
    by_cases h2 : 2 ≤ (l.drop 4).length
    · have e2 : s2 l = ((l.drop 4).take 2, (l.drop 4).drop 2, 0) := by unfold s2; rw [e1]; exact oTake_ok _ 2 h2
      by_cases h3 : 2 ≤ ((l.drop 4).drop 2).length
      · have e3 : s3 l = (((l.drop 4).drop 2).take 2, ((l.drop 4).drop 2).drop 2, 0) := by unfold s3; rw [e2]; exact oTake_ok _ 2 h3
        have h4 : ¬ 4 ≤ (((l.drop 4).drop 2).drop 2).length := by simp only [List.length_drop] at *; omega
        unfold s4
        rw [e3, oNum4]
        show (oTake (((l.drop 4).drop 2).drop 2) 0 4).2.2 ≠ 0
        rw [show ((4 : Int)) = ((4 : Nat) : Int) from rfl, oTake_short _ 4 h4]
        show (3 : Int) ≠ 0
        decide
      · have e3 : s3 l = ([], (l.drop 4).drop 2, 3) := by unfold s3; rw [e2]; exact oTake_short _ 2 h3
        unfold s4
        rw [e3]
        exact oTake_er _ _ _ three_ne
    · have e2 : s2 l = ([], l.drop 4, 3) := by unfold s2; rw [e1]; exact oTake_short _ 2 h2
      unfold s4 s3
      rw [e2]
      exact oTake_er _ _ _ (oTake_er _ _ _ three_ne)
  · have e1 : s1 l = ([], l, 3) := oTake_short l 4 h1
    unfold s4 s3 s2
    rw [e1]
    exact oTake_er _ _ _ (oTake_er _ _ _ (oTake_er _ _ _ three_ne))
theorem takeOk_len (l : List UInt8) (h : takeOk l = true) : l.length = 512 := by
  unfold takeOk at h
  have := (of_decide_eq_true h).2
  rw [← this, headBytes_length]

def headVal (b u : Nat) (m : Nat) : Value := .agg #[.int .i64 b, .int .i64 u, .int .u32 m]
def takeVal (l : List UInt8) : Value := if takeOk l then .tuple #[headVal (tBox l) (tUsed l) (tSum l), .int .i64 0] else .tuple #[headVal 0 0 0, .int .i64 3]
def RTPost (l : List UInt8) (w : World) (e : Ending) (w' : World) : Prop := e = .returned (takeVal l) ∧ Keeps No w w'

theorem num_s {w0 w : World} {p : Nat} {l l' : List UInt8} {er er' : Int} {V : Nat} (n : Int) (x : List UInt8 × List UInt8 × Int) (hx : oNum l er n = x) (hV : valTo x.1 x.1.length = V) (h1 : x.2.1 = l') (h2 : x.2.2 = er') (h : OpIn w0 w p l er) (hll : l.length < 1000000) :
    Calls Tryd.prog 31 #[.pointer (some ⟨p, 0, none⟩), .int .i64 n] w (OpPost w0 p (.int .u64 V) l' er') := by
  subst hx hV h1 h2
  exact opin_num n h hll

theorem results_cell_tmp_row {P : Program} {fn : Func} {p u : Tmp} {ty : TypeId} (h : fn.results = #[.cell p ty, .tmp u]) (tmps : Array Value) (w : World) (g : Nat) (t : TypeId) (cs : Array Value) (fr : Nat × Nat) (d : TypeDesc)
    (hp : tmps.getD p undef = .pointer (some ⟨g, 0, none⟩)) (hg : w.heap[g]? = some (.cells cs t fr))
    (hu : P.underlying ty = some d) (hd : (match d with | .struct _ | .array _ _ => true | _ => false) = true) (hi : (P.info? ty).map (·.size) = some cs.size) :
    (results fn tmps).run P w = .ok (.tuple #[.agg cs, tmps.getD u undef]) w := by
  have hp' : tmps[p]?.getD undef = .pointer (some ⟨g, 0, none⟩) := by simpa using hp
  simp [results, h, hp', asAddr, run_loadVar_row w g t ty cs fr d hg hu hd hi]
theorem Tryd.size36 : (Tryd.prog.info? 36).map (·.size) = some 3 := by kernel_rfl

theorem takeVal_no (l : List UInt8) (h : (s4 l).2.2 ≠ 0) : takeVal l = .tuple #[headVal 0 0 0, .int .i64 3] := by
  unfold takeVal
  rw [if_neg]
  intro h2
  have := takeOk_len l h2
  exact h (s4_ok l (by omega)).1
theorem takeVal_big (l : List UInt8) (h2 : 2048 < valTo (s3 l).1 (s3 l).1.length) : takeVal l = .tuple #[headVal 0 0 0, .int .i64 3] := by
  unfold takeVal
  rw [if_neg]
  intro h3
  have hl := takeOk_len l h3
  have := (s4_ok l (by omega)).2.2.1
  unfold takeOk at h3
  have := (of_decide_eq_true h3).1
  omega
theorem takeVal_eq (l : List UInt8) (h : (s4 l).2.2 = 0) (h2 : valTo (s3 l).1 (s3 l).1.length ≤ 2048) :
    (headBytes (valTo (s2 l).1 (s2 l).1.length) (valTo (s3 l).1 (s3 l).1.length) (valTo (s4 l).1 (s4 l).1.length) = l → takeVal l = .tuple #[headVal (valTo (s2 l).1 (s2 l).1.length) (valTo (s3 l).1 (s3 l).1.length) (valTo (s4 l).1 (s4 l).1.length), .int .i64 0]) ∧
    (headBytes (valTo (s2 l).1 (s2 l).1.length) (valTo (s3 l).1 (s3 l).1.length) (valTo (s4 l).1 (s4 l).1.length) ≠ l → takeVal l = .tuple #[headVal 0 0 0, .int .i64 3]) := by
  have hl : 12 ≤ l.length := by
    by_cases h3 : 12 ≤ l.length
    · exact h3
    · exact absurd h (s4_short l h3)
  obtain ⟨_, e2, e3, e4⟩ := s4_ok l hl
  rw [e2, e3, e4]
  rw [e3] at h2
  unfold takeVal takeOk
  constructor
  · intro h3
    rw [if_pos (decide_eq_true ⟨h2, h3⟩)]
  · intro h3
    rw [if_neg]
    intro h4
    exact h3 (of_decide_eq_true h4).2
theorem rt_close {l : List UInt8} {w w1 : World} {R : Value} (h : takeVal l = R) (k : Keeps No w w1) {cs : Array Value} : RTPost l w (.returned R) (w1.setRow w.heap.size cs) :=
  ⟨by rw [h], k.setRow _ _ (fun h => by omega)⟩
theorem rt_close3 {l : List UInt8} {w w1 : World} {R : Value} (h : takeVal l = R) (k : Keeps No w w1) {a b c : Value} : RTPost l w (.returned R) (((w1.setCell ⟨w.heap.size, 0, none⟩ a).setCell ⟨w.heap.size, 1, none⟩ b).setCell ⟨w.heap.size, 2, none⟩ c) :=
  ⟨by rw [h], ((k.setCell ⟨w.heap.size, 0, none⟩ a (fun h => by simp at h)).setCell ⟨w.heap.size, 1, none⟩ b (fun h => by simp at h)).setCell ⟨w.heap.size, 2, none⟩ c (fun h => by simp at h)⟩
theorem equal_any (a b : Value) (l m : List UInt8) (w : World) (h1 : Rd w 1 a l.length (bytesV l)) (h2 : Rd w 1 b m.length (bytesV m)) :
    Calls Tryd.prog 33 #[a, b] w fun e w' => e = .returned (.bool (l == m)) ∧ w = w' := by
  refine (Tryd.bytes_Equal_strs a b ⟨l.toArray⟩ ⟨m.toArray⟩ w (run_text h1 27 5 9 Tryd.underlying27 Tryd.underlying5 Tryd.underlying9) (run_text h2 27 5 9 Tryd.underlying27 Tryd.underlying5 Tryd.underlying9)).mono fun e w' ⟨he, hw⟩ => ⟨?_, hw.symm⟩
  rw [he]
  rw [ByteArray.toList_eq, ByteArray.toList_eq]
set_option maxRecDepth 20000 in
set_option maxHeartbeats 800000 in
theorem rtake_A (v : Value) (l l1 l2 l3 l4 : List UInt8) (e1 e2 e3 e4 : Int) (V1 V2 V3 : Nat) (w : World) (hv : Rd w 1 v l.length (bytesV l)) (hl : l.length < 1000000)
    (q1 : (s1 l).2.1 = l1) (q1e : (s1 l).2.2 = e1) (q2 : (s2 l).2.1 = l2) (q2e : (s2 l).2.2 = e2) (q3 : (s3 l).2.1 = l3) (q3e : (s3 l).2.2 = e3) (q4 : (s4 l).2.1 = l4) (q4e : (s4 l).2.2 = e4)
    (hV1 : valTo (s2 l).1 (s2 l).1.length = V1) (hV2 : valTo (s3 l).1 (s3 l).1.length = V2) (hV3 : valTo (s4 l).1 (s4 l).1.length = V3)
    (h12 : (e4 != 0) = true) (b1 : (V1 : Int) < 65536) (b2 : (V2 : Int) < 65536) (b3 : (V3 : Int) < 4294967296) (k1 : l1.length < 1000000) (k2 : l2.length < 1000000) (k3 : l3.length < 1000000) :
    Calls Tryd.prog 14 #[v] w (RTPost l w) := by
  have HV := Lib.hid hv; clear hv
  have Q1 := Lib.hid q1; clear q1
  have Q1e := Lib.hid q1e; clear q1e
  have Q2 := Lib.hid q2; clear q2
  have Q2e := Lib.hid q2e; clear q2e
  have Q3 := Lib.hid q3; clear q3
  have Q3e := Lib.hid q3e; clear q3e
  have Q4 := Lib.hid q4; clear q4
  have Q4e := Lib.hid q4e; clear q4e
  have HV1 := Lib.hid hV1; clear hV1
  have HV2 := Lib.hid hV2; clear hV2
  have HV3 := Lib.hid hV3; clear hV3
  have r1 : IntKind.i64.wrap (V1 : Int) = V1 := by rw [IntKind.wrap_i64]; omega
  have r2 : IntKind.i64.wrap (V2 : Int) = V2 := by rw [IntKind.wrap_i64]; omega
  have r3 : IntKind.u32.wrap (V3 : Int) = V3 := by rw [IntKind.wrap_u32]; omega
  go_enter Tryd.func14, Tryd.ntmps14
  go_wp2_with (first | (go_at_call 29; refine (of_any v l _ (HV.out.keeps (keeps_alloc _ _) (fun _ _ h => h)) hl).mono ?_; rintro e w1 ⟨p, rfl, h1⟩) | (go_at_call 30; refine (opin_text 4 h1 hl).mono ?_; rintro e w2 ⟨rfl, h2⟩))
  change OpIn _ w2 p (s1 l).2.1 (s1 l).2.2 at h2
  rw [Q1.out, Q1e.out] at h2
  refine (num_s 2 (s2 l) (by rw [← Q1.out, ← Q1e.out]; rfl) HV1.out Q2.out Q2e.out h2 k1).mono ?_
  rintro e w3 ⟨rfl, h3⟩
  go_wp2_with fail
  refine (num_s 2 (s3 l) (by rw [← Q2.out, ← Q2e.out]; rfl) HV2.out Q3.out Q3e.out h3 k2).mono ?_
  rintro e w4 ⟨rfl, h4⟩
  go_wp2_with fail
  refine (num_s 4 (s4 l) (by rw [← Q3.out, ← Q3e.out]; rfl) HV3.out Q4.out Q4e.out h4 k3).mono ?_
  rintro e w5 ⟨rfl, h5⟩
  have hz := h5.keeps.size
  rw [World.size_alloc] at hz
  have hc0 : w5.heap[w.heap.size]? = _ := h5.keeps.heap (heap_alloc_new w _) (fun h => h)
  have hf0 := frozen_of_heap hc0 0
  have hf1 := frozen_of_heap hc0 1
  have hf2 := frozen_of_heap hc0 2
  have hz0 := cell_of_heap hc0 0
  have hz1 := cell_of_heap hc0 1
  have hz2 := cell_of_heap hc0 2
  simp at hz0 hz1 hz2
  have HC0 := Lib.hid hc0; clear hc0
  have hto := takeVal_no l (by rw [Q4e.out]; simpa using h12)
  have HTO := Lib.hid hto; clear hto
  go_wp2_with fail
  refine (opin_err (h5.no (keeps_alloc _ _))).mono ?_
  rintro e w6 ⟨rfl, rfl⟩
  clear b1 b3 k1 k2 k3 hl
  go_wp2_with (refine wpList_store_row rfl 36 _ _ rfl w.heap.size #[.int .i64 0, .int .i64 0, .int .u32 0] (by rfl) (by rfl) 36 _ ((keeps_alloc _ _).heap HC0.out (fun h => h)) Tryd.size36 rfl (by simp [Value.oneCell']) ?_)
  refine bodyPost_ret (results_cell_tmp_row rfl _ _ w.heap.size 36 #[.int .i64 0, .int .i64 0, .int .u32 0] _ _ (by rfl) (setRow_heap _ _ _ _ _ _ ((keeps_alloc _ _).heap HC0.out (fun h => h))) Tryd.underlying36 rfl Tryd.size36) rfl ?_
  exact rt_close HTO.out (((keeps_alloc w _).same h5.keeps).same (keeps_alloc _ _))
set_option maxRecDepth 20000 in
set_option maxHeartbeats 800000 in
theorem rtake_B (v : Value) (l l1 l2 l3 l4 : List UInt8) (e1 e2 e3 e4 : Int) (V1 V2 V3 : Nat) (w : World) (hv : Rd w 1 v l.length (bytesV l)) (hl : l.length < 1000000)
    (q1 : (s1 l).2.1 = l1) (q1e : (s1 l).2.2 = e1) (q2 : (s2 l).2.1 = l2) (q2e : (s2 l).2.2 = e2) (q3 : (s3 l).2.1 = l3) (q3e : (s3 l).2.2 = e3) (q4 : (s4 l).2.1 = l4) (q4e : (s4 l).2.2 = e4)
    (hV1 : valTo (s2 l).1 (s2 l).1.length = V1) (hV2 : valTo (s3 l).1 (s3 l).1.length = V2) (hV3 : valTo (s4 l).1 (s4 l).1.length = V3)
    (h12 : (e4 != 0) = false) (b1 : (V1 : Int) < 65536) (b2 : (V2 : Int) < 65536) (b3 : (V3 : Int) < 4294967296) (k1 : l1.length < 1000000) (k2 : l2.length < 1000000) (k3 : l3.length < 1000000) (hbig : (2048 : Int) < V2) :
    Calls Tryd.prog 14 #[v] w (RTPost l w) := by
  have HV := Lib.hid hv; clear hv
  have Q1 := Lib.hid q1; clear q1
  have Q1e := Lib.hid q1e; clear q1e
  have Q2 := Lib.hid q2; clear q2
  have Q2e := Lib.hid q2e; clear q2e
  have Q3 := Lib.hid q3; clear q3
  have Q3e := Lib.hid q3e; clear q3e
  have Q4 := Lib.hid q4; clear q4
  have Q4e := Lib.hid q4e; clear q4e
  have HV1 := Lib.hid hV1; clear hV1
  have HV2 := Lib.hid hV2; clear hV2
  have HV3 := Lib.hid hV3; clear hV3
  have r1 : IntKind.i64.wrap (V1 : Int) = V1 := by rw [IntKind.wrap_i64]; omega
  have r2 : IntKind.i64.wrap (V2 : Int) = V2 := by rw [IntKind.wrap_i64]; omega
  have r3 : IntKind.u32.wrap (V3 : Int) = V3 := by rw [IntKind.wrap_u32]; omega
  go_enter Tryd.func14, Tryd.ntmps14
  go_wp2_with (first | (go_at_call 29; refine (of_any v l _ (HV.out.keeps (keeps_alloc _ _) (fun _ _ h => h)) hl).mono ?_; rintro e w1 ⟨p, rfl, h1⟩) | (go_at_call 30; refine (opin_text 4 h1 hl).mono ?_; rintro e w2 ⟨rfl, h2⟩))
  change OpIn _ w2 p (s1 l).2.1 (s1 l).2.2 at h2
  rw [Q1.out, Q1e.out] at h2
  refine (num_s 2 (s2 l) (by rw [← Q1.out, ← Q1e.out]; rfl) HV1.out Q2.out Q2e.out h2 k1).mono ?_
  rintro e w3 ⟨rfl, h3⟩
  go_wp2_with fail
  refine (num_s 2 (s3 l) (by rw [← Q2.out, ← Q2e.out]; rfl) HV2.out Q3.out Q3e.out h3 k2).mono ?_
  rintro e w4 ⟨rfl, h4⟩
  go_wp2_with fail
  refine (num_s 4 (s4 l) (by rw [← Q3.out, ← Q3e.out]; rfl) HV3.out Q4.out Q4e.out h4 k3).mono ?_
  rintro e w5 ⟨rfl, h5⟩
  have hz := h5.keeps.size
  rw [World.size_alloc] at hz
  have hc0 : w5.heap[w.heap.size]? = _ := h5.keeps.heap (heap_alloc_new w _) (fun h => h)
  have hf0 := frozen_of_heap hc0 0
  have hf1 := frozen_of_heap hc0 1
  have hf2 := frozen_of_heap hc0 2
  have hz0 := cell_of_heap hc0 0
  have hz1 := cell_of_heap hc0 1
  have hz2 := cell_of_heap hc0 2
  simp at hz0 hz1 hz2
  have HC0 := Lib.hid hc0; clear hc0
  have hto := takeVal_big l (by rw [HV2.out]; omega)
  have HTO := Lib.hid hto; clear hto
  go_wp2_with fail
  refine (opin_err (h5.no (keeps_alloc _ _))).mono ?_
  rintro e w6 ⟨rfl, rfl⟩
  clear b1 b3 k1 k2 k3 hl
  go_wp2_with (refine wpList_store_row rfl 36 _ _ rfl w.heap.size #[.int .i64 0, .int .i64 0, .int .u32 0] (by rfl) (by rfl) 36 _ ((keeps_alloc _ _).heap HC0.out (fun h => h)) Tryd.size36 rfl (by simp [Value.oneCell']) ?_)
  refine bodyPost_ret (results_cell_tmp_row rfl _ _ w.heap.size 36 #[.int .i64 0, .int .i64 0, .int .u32 0] _ _ (by rfl) (setRow_heap _ _ _ _ _ _ ((keeps_alloc _ _).heap HC0.out (fun h => h))) Tryd.underlying36 rfl Tryd.size36) rfl ?_
  exact rt_close HTO.out (((keeps_alloc w _).same h5.keeps).same (keeps_alloc _ _))
set_option maxRecDepth 20000 in
set_option maxHeartbeats 800000 in
theorem rtake_C (v : Value) (l l1 l2 l3 l4 : List UInt8) (e1 e2 e3 e4 : Int) (V1 V2 V3 : Nat) (w : World) (hv : Rd w 1 v l.length (bytesV l)) (hl : l.length < 1000000)
    (q1 : (s1 l).2.1 = l1) (q1e : (s1 l).2.2 = e1) (q2 : (s2 l).2.1 = l2) (q2e : (s2 l).2.2 = e2) (q3 : (s3 l).2.1 = l3) (q3e : (s3 l).2.2 = e3) (q4 : (s4 l).2.1 = l4) (q4e : (s4 l).2.2 = e4)
    (hV1 : valTo (s2 l).1 (s2 l).1.length = V1) (hV2 : valTo (s3 l).1 (s3 l).1.length = V2) (hV3 : valTo (s4 l).1 (s4 l).1.length = V3)
    (h12 : (e4 != 0) = false) (b1 : (V1 : Int) < 65536) (b2 : (V2 : Int) < 65536) (b3 : (V3 : Int) < 4294967296) (k1 : l1.length < 1000000) (k2 : l2.length < 1000000) (k3 : l3.length < 1000000) (ht : Halves w) (hbig : ¬ (2048 : Int) < V2) (hEq : headBytes V1 V2 V3 = l) :
    Calls Tryd.prog 14 #[v] w (RTPost l w) := by
  have HV := Lib.hid hv; clear hv
  have Q1 := Lib.hid q1; clear q1
  have Q1e := Lib.hid q1e; clear q1e
  have Q2 := Lib.hid q2; clear q2
  have Q2e := Lib.hid q2e; clear q2e
  have Q3 := Lib.hid q3; clear q3
  have Q3e := Lib.hid q3e; clear q3e
  have Q4 := Lib.hid q4; clear q4
  have Q4e := Lib.hid q4e; clear q4e
  have HV1 := Lib.hid hV1; clear hV1
  have HV2 := Lib.hid hV2; clear hV2
  have HV3 := Lib.hid hV3; clear hV3
  have r1 : IntKind.i64.wrap (V1 : Int) = V1 := by rw [IntKind.wrap_i64]; omega
  have r2 : IntKind.i64.wrap (V2 : Int) = V2 := by rw [IntKind.wrap_i64]; omega
  have r3 : IntKind.u32.wrap (V3 : Int) = V3 := by rw [IntKind.wrap_u32]; omega
  go_enter Tryd.func14, Tryd.ntmps14
  go_wp2_with (first | (go_at_call 29; refine (of_any v l _ (HV.out.keeps (keeps_alloc _ _) (fun _ _ h => h)) hl).mono ?_; rintro e w1 ⟨p, rfl, h1⟩) | (go_at_call 30; refine (opin_text 4 h1 hl).mono ?_; rintro e w2 ⟨rfl, h2⟩))
  change OpIn _ w2 p (s1 l).2.1 (s1 l).2.2 at h2
  rw [Q1.out, Q1e.out] at h2
  refine (num_s 2 (s2 l) (by rw [← Q1.out, ← Q1e.out]; rfl) HV1.out Q2.out Q2e.out h2 k1).mono ?_
  rintro e w3 ⟨rfl, h3⟩
  go_wp2_with fail
  refine (num_s 2 (s3 l) (by rw [← Q2.out, ← Q2e.out]; rfl) HV2.out Q3.out Q3e.out h3 k2).mono ?_
  rintro e w4 ⟨rfl, h4⟩
  go_wp2_with fail
  refine (num_s 4 (s4 l) (by rw [← Q3.out, ← Q3e.out]; rfl) HV3.out Q4.out Q4e.out h4 k3).mono ?_
  rintro e w5 ⟨rfl, h5⟩
  have hz := h5.keeps.size
  rw [World.size_alloc] at hz
  have hc0 : w5.heap[w.heap.size]? = _ := h5.keeps.heap (heap_alloc_new w _) (fun h => h)
  have hf0 := frozen_of_heap hc0 0
  have hf1 := frozen_of_heap hc0 1
  have hf2 := frozen_of_heap hc0 2
  have hz0 := cell_of_heap hc0 0
  have hz1 := cell_of_heap hc0 1
  have hz2 := cell_of_heap hc0 2
  simp at hz0 hz1 hz2
  have HC0 := Lib.hid hc0; clear hc0
  have hc12 : (s4 l).2.2 = 0 := by rw [Q4e.out]; simpa using h12
  have hto := takeVal_eq l hc12 (by rw [HV2.out]; omega)
  rw [HV1.out, HV2.out, HV3.out] at hto
  have hto2 := hto.1 hEq
  have HTO := Lib.hid hto2; clear hto hto2
  clear hc12
  have hEb : (headBytes V1 V2 V3 == l) = true := by simpa using hEq
  have HEQ := Lib.hid hEq; clear hEq
  have hV1 : V1 < 65536 := by omega
  have hV2 : V2 < 65536 := by omega
  have hV3 : V3 < 4294967296 := by omega
  have HT := Lib.hid ht; clear ht
  go_wp2_with fail
  refine (opin_err (h5.no (keeps_alloc _ _))).mono ?_
  rintro e w6 ⟨rfl, rfl⟩
  clear k1 k2 k3
  have hrow : (w5.alloc (.cells #[.int .i64 V1, .int .i64 V2, .int .u32 V3] 36)).heap[w5.heap.size]? = some (.cells #[.int .i64 V1, .int .i64 V2, .int .u32 V3] 36) := heap_alloc_new _ _
  have HROW := Lib.hid hrow; clear hrow
  go_wp2_with fail
  refine (head_put V1 V2 V3 hV1 hV2 hV3 _ (HT.out.keeps (((keeps_alloc w _).same h5.keeps).same (keeps_alloc _ _)))).mono ?_
  rintro e w7 ⟨ao, cp, rfl, ho7, hk7, hf7⟩
  have hr7 := hk7.heap HROW.out (fun h => h)
  have g0 := cell_of_heap hr7 0
  have g1 := cell_of_heap hr7 1
  have g2 := cell_of_heap hr7 2
  simp at g0 g1 g2
  clear hr7
  have hb7 := hk7.heap ((keeps_alloc _ _).heap HC0.out (fun h => h)) (fun h => h)
  have y0 := cell_of_heap hb7 0
  have y1 := cell_of_heap hb7 1
  have y2 := cell_of_heap hb7 2
  have x0 := frozen_of_heap hb7 0
  have x1 := frozen_of_heap hb7 1
  have x2 := frozen_of_heap hb7 2
  simp at y0 y1 y2
  have HB7 := Lib.hid hb7; clear hb7
  clear b1 b2 b3 hV1 hV2 hV3
  go_wp2_with (first | (go_at_call 33; refine (equal_any _ v _ l _ (Own.rd ho7) (HV.out.keeps ((((keeps_alloc w _).same h5.keeps).same (keeps_alloc _ _)).same hk7) (fun _ _ h => h))).mono ?_; rintro e w8 ⟨rfl, rfl⟩))
  refine bodyPost_ret (results_cell_tmp_row rfl _ _ w.heap.size 36 #[.int .i64 V1, .int .i64 V2, .int .u32 V3] _ _ (by rfl) (heap_setCell_same _ (heap_setCell_same _ (heap_setCell_same _ HB7.out))) Tryd.underlying36 rfl Tryd.size36) rfl ?_
  exact rt_close3 HTO.out ((((keeps_alloc w _).same h5.keeps).same (keeps_alloc _ _)).same hk7)
set_option maxRecDepth 20000 in
set_option maxHeartbeats 800000 in
theorem rtake_D (v : Value) (l l1 l2 l3 l4 : List UInt8) (e1 e2 e3 e4 : Int) (V1 V2 V3 : Nat) (w : World) (hv : Rd w 1 v l.length (bytesV l)) (hl : l.length < 1000000)
    (q1 : (s1 l).2.1 = l1) (q1e : (s1 l).2.2 = e1) (q2 : (s2 l).2.1 = l2) (q2e : (s2 l).2.2 = e2) (q3 : (s3 l).2.1 = l3) (q3e : (s3 l).2.2 = e3) (q4 : (s4 l).2.1 = l4) (q4e : (s4 l).2.2 = e4)
    (hV1 : valTo (s2 l).1 (s2 l).1.length = V1) (hV2 : valTo (s3 l).1 (s3 l).1.length = V2) (hV3 : valTo (s4 l).1 (s4 l).1.length = V3)
    (h12 : (e4 != 0) = false) (b1 : (V1 : Int) < 65536) (b2 : (V2 : Int) < 65536) (b3 : (V3 : Int) < 4294967296) (k1 : l1.length < 1000000) (k2 : l2.length < 1000000) (k3 : l3.length < 1000000) (ht : Halves w) (hbig : ¬ (2048 : Int) < V2) (hEq : headBytes V1 V2 V3 ≠ l) :
    Calls Tryd.prog 14 #[v] w (RTPost l w) := by
  have HV := Lib.hid hv; clear hv
  have Q1 := Lib.hid q1; clear q1
  have Q1e := Lib.hid q1e; clear q1e
  have Q2 := Lib.hid q2; clear q2
  have Q2e := Lib.hid q2e; clear q2e
  have Q3 := Lib.hid q3; clear q3
  have Q3e := Lib.hid q3e; clear q3e
  have Q4 := Lib.hid q4; clear q4
  have Q4e := Lib.hid q4e; clear q4e
  have HV1 := Lib.hid hV1; clear hV1
  have HV2 := Lib.hid hV2; clear hV2
  have HV3 := Lib.hid hV3; clear hV3
  have r1 : IntKind.i64.wrap (V1 : Int) = V1 := by rw [IntKind.wrap_i64]; omega
  have r2 : IntKind.i64.wrap (V2 : Int) = V2 := by rw [IntKind.wrap_i64]; omega
  have r3 : IntKind.u32.wrap (V3 : Int) = V3 := by rw [IntKind.wrap_u32]; omega
  go_enter Tryd.func14, Tryd.ntmps14
  go_wp2_with (first | (go_at_call 29; refine (of_any v l _ (HV.out.keeps (keeps_alloc _ _) (fun _ _ h => h)) hl).mono ?_; rintro e w1 ⟨p, rfl, h1⟩) | (go_at_call 30; refine (opin_text 4 h1 hl).mono ?_; rintro e w2 ⟨rfl, h2⟩))
  change OpIn _ w2 p (s1 l).2.1 (s1 l).2.2 at h2
  rw [Q1.out, Q1e.out] at h2
  refine (num_s 2 (s2 l) (by rw [← Q1.out, ← Q1e.out]; rfl) HV1.out Q2.out Q2e.out h2 k1).mono ?_
  rintro e w3 ⟨rfl, h3⟩
  go_wp2_with fail
  refine (num_s 2 (s3 l) (by rw [← Q2.out, ← Q2e.out]; rfl) HV2.out Q3.out Q3e.out h3 k2).mono ?_
  rintro e w4 ⟨rfl, h4⟩
  go_wp2_with fail
  refine (num_s 4 (s4 l) (by rw [← Q3.out, ← Q3e.out]; rfl) HV3.out Q4.out Q4e.out h4 k3).mono ?_
  rintro e w5 ⟨rfl, h5⟩
  have hz := h5.keeps.size
  rw [World.size_alloc] at hz
  have hc0 : w5.heap[w.heap.size]? = _ := h5.keeps.heap (heap_alloc_new w _) (fun h => h)
  have hf0 := frozen_of_heap hc0 0
  have hf1 := frozen_of_heap hc0 1
  have hf2 := frozen_of_heap hc0 2
  have hz0 := cell_of_heap hc0 0
  have hz1 := cell_of_heap hc0 1
  have hz2 := cell_of_heap hc0 2
  simp at hz0 hz1 hz2
  have HC0 := Lib.hid hc0; clear hc0
  have hc12 : (s4 l).2.2 = 0 := by rw [Q4e.out]; simpa using h12
  have hto := takeVal_eq l hc12 (by rw [HV2.out]; omega)
  rw [HV1.out, HV2.out, HV3.out] at hto
  have hto2 := hto.2 hEq
  have HTO := Lib.hid hto2; clear hto hto2
  clear hc12
  have hEb : (headBytes V1 V2 V3 == l) = false := by simpa using hEq
  have HEQ := Lib.hid hEq; clear hEq
  have hV1 : V1 < 65536 := by omega
  have hV2 : V2 < 65536 := by omega
  have hV3 : V3 < 4294967296 := by omega
  have HT := Lib.hid ht; clear ht
  go_wp2_with fail
  refine (opin_err (h5.no (keeps_alloc _ _))).mono ?_
  rintro e w6 ⟨rfl, rfl⟩
  clear k1 k2 k3
  have hrow : (w5.alloc (.cells #[.int .i64 V1, .int .i64 V2, .int .u32 V3] 36)).heap[w5.heap.size]? = some (.cells #[.int .i64 V1, .int .i64 V2, .int .u32 V3] 36) := heap_alloc_new _ _
  have HROW := Lib.hid hrow; clear hrow
  go_wp2_with fail
  refine (head_put V1 V2 V3 hV1 hV2 hV3 _ (HT.out.keeps (((keeps_alloc w _).same h5.keeps).same (keeps_alloc _ _)))).mono ?_
  rintro e w7 ⟨ao, cp, rfl, ho7, hk7, hf7⟩
  have hr7 := hk7.heap HROW.out (fun h => h)
  have g0 := cell_of_heap hr7 0
  have g1 := cell_of_heap hr7 1
  have g2 := cell_of_heap hr7 2
  simp at g0 g1 g2
  clear hr7
  have hb7 := hk7.heap ((keeps_alloc _ _).heap HC0.out (fun h => h)) (fun h => h)
  have y0 := cell_of_heap hb7 0
  have y1 := cell_of_heap hb7 1
  have y2 := cell_of_heap hb7 2
  have x0 := frozen_of_heap hb7 0
  have x1 := frozen_of_heap hb7 1
  have x2 := frozen_of_heap hb7 2
  simp at y0 y1 y2
  have HB7 := Lib.hid hb7; clear hb7
  clear b1 b2 b3 hV1 hV2 hV3
  go_wp2_with (first | (go_at_call 33; refine (equal_any _ v _ l _ (Own.rd ho7) (HV.out.keeps ((((keeps_alloc w _).same h5.keeps).same (keeps_alloc _ _)).same hk7) (fun _ _ h => h))).mono ?_; rintro e w8 ⟨rfl, rfl⟩))
  refine bodyPost_ret (results_cell_tmp_row rfl _ _ w.heap.size 36 #[.int .i64 0, .int .i64 0, .int .u32 0] _ _ (by rfl) (heap_setCell_same _ (heap_setCell_same _ (heap_setCell_same _ HB7.out))) Tryd.underlying36 rfl Tryd.size36) rfl ?_
  exact rt_close3 HTO.out ((((keeps_alloc w _).same h5.keeps).same (keeps_alloc _ _)).same hk7)

theorem rtake_all (v : Value) (l : List UInt8) (w : World) (hv : Rd w 1 v l.length (bytesV l)) (hl : l.length < 1000000) (ht : Halves w) : Calls Tryd.prog 14 #[v] w (RTPost l w) := by
  have b1 := oTake_val (s1 l).2.1 (s1 l).2.2 2
  have b2 := oTake_val (s2 l).2.1 (s2 l).2.2 2
  have b3 := oTake_val (s3 l).2.1 (s3 l).2.2 4
  have k1 : (s1 l).2.1.length < 1000000 := Nat.lt_of_le_of_lt (oTake_len _ _ _) hl
  have k2 : (s2 l).2.1.length < 1000000 := Nat.lt_of_le_of_lt (oNum_len _ _ _) k1
  have k3 : (s3 l).2.1.length < 1000000 := Nat.lt_of_le_of_lt (oNum_len _ _ _) k2
  have c1 : ((valTo (s2 l).1 (s2 l).1.length : Nat) : Int) < 65536 := by
    have : valTo (s2 l).1 (s2 l).1.length < 256 ^ 2 := b1
    omega
  have c2 : ((valTo (s3 l).1 (s3 l).1.length : Nat) : Int) < 65536 := by
    have : valTo (s3 l).1 (s3 l).1.length < 256 ^ 2 := b2
    omega
  have c3 : ((valTo (s4 l).1 (s4 l).1.length : Nat) : Int) < 4294967296 := by
    have : valTo (s4 l).1 (s4 l).1.length < 256 ^ 4 := b3
    omega
  by_cases h12 : (s4 l).2.2 = 0
  · have h12b : ((s4 l).2.2 != 0) = false := by simpa using h12
    by_cases hbig : (2048 : Int) < ((valTo (s3 l).1 (s3 l).1.length : Nat) : Int)
    · exact rtake_B v l _ _ _ _ _ _ _ _ _ _ _ w hv hl rfl rfl rfl rfl rfl rfl rfl rfl rfl rfl rfl h12b c1 c2 c3 k1 k2 k3 hbig
    · by_cases hEq : headBytes (valTo (s2 l).1 (s2 l).1.length) (valTo (s3 l).1 (s3 l).1.length) (valTo (s4 l).1 (s4 l).1.length) = l
      · exact rtake_C v l _ _ _ _ _ _ _ _ _ _ _ w hv hl rfl rfl rfl rfl rfl rfl rfl rfl rfl rfl rfl h12b c1 c2 c3 k1 k2 k3 ht hbig hEq
      · exact rtake_D v l _ _ _ _ _ _ _ _ _ _ _ w hv hl rfl rfl rfl rfl rfl rfl rfl rfl rfl rfl rfl h12b c1 c2 c3 k1 k2 k3 ht hbig hEq
  · have h12b : ((s4 l).2.2 != 0) = true := by simpa using h12
    exact rtake_A v l _ _ _ _ _ _ _ _ _ _ _ w hv hl rfl rfl rfl rfl rfl rfl rfl rfl rfl rfl rfl h12b c1 c2 c3 k1 k2 k3
end Go.Proofs.YtpniohbjgpncmaaDoor
