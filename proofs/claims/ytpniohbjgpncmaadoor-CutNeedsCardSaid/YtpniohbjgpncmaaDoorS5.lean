/- record.walk's iterator: conditions: none. -/
import Derived.Test.YtpniohbjgpncmaaDoorS4
import Derived.Deep.LoopGhost
import Derived.RangeFuncBound
import Derived.RangeFuncCalls
import Derived.Shelf.Abstract
import Derived.Shelf.RegionOpen
import Derived.OwnWalkIn
import Derived.TacticsInMore
import Derived.LoopNIn
import Derived.LoopIn
namespace Go.Proofs.YtpniohbjgpncmaaDoor
open Go.RowKit
attribute [local go_sem] Oper.semAt_some

/-- Between two rounds of walk: k records still to come. -/
def WI (rs : List (List UInt8 × ByteArray)) (p q : Nat) (ob : Option Nat) (J : List Rc → World → Prop) (k : Nat) (W : World) : Prop :=
  ∃ done rest, rs = done ++ rest ∧ rest.length = k ∧ J (recList 0 done) W ∧ (∃ v, Opn W p v (recsBytes rest) 0 ∧ v.ownBlock = ob) ∧ W.heap[q]? = some (.cells #[.pointer (some ⟨p, 0, none⟩)] 80)

def GoodRecs (rs : List (List UInt8 × ByteArray)) : Prop := (∀ r ∈ rs, r.1.length = 32 ∧ r.2.size ≤ 2014) ∧ (recsBytes rs).length < 1000000

theorem take_cell {w w' : World} {p q : Nat} {v R x : Value} {l : List UInt8} {er : Int} {e : Ending} (h : TakePost w p v R l er e w') (hc : w.cell? ⟨q, 0, none⟩ = some x) (hne : q ≠ p) : w'.cell? ⟨q, 0, none⟩ = some x := by
  obtain ⟨_, _, _, _, hk⟩ := h
  exact hk.cell hc hne
theorem take_heap {w w' : World} {p g : Nat} {v R : Value} {l : List UInt8} {er : Int} {e : Ending} {o : Obj} (h : TakePost w p v R l er e w') (hc : w.heap[g]? = some o) (hne : g ≠ p) : w'.heap[g]? = some o := by
  obtain ⟨_, _, _, _, hk⟩ := h
  exact hk.heap hc hne
theorem take_size {w w' : World} {p : Nat} {v R : Value} {l : List UInt8} {er : Int} {e : Ending} (h : TakePost w p v R l er e w') : w.heap.size ≤ w'.heap.size := by
  obtain ⟨_, _, _, _, hk⟩ := h
  exact hk.size
theorem setRow_cell {w : World} {q g : Nat} {x : Value} (C : Array Value) (h : w.cell? ⟨q, 0, none⟩ = some x) (hne : q ≠ g) : (w.setRow g C).cell? ⟨q, 0, none⟩ = some x :=
  ((Keeps.refl (fun k => k = g) w).setRow g C (fun _ => rfl)).cell h hne
theorem tail_facts {wr w2 w3 w4 : World} {p q g : Nat} {v4 : Value} {R : List UInt8} {C : List Value} {x : Value} {s : ByteArray} (hp4 : Opn w4 p v4 R 0) (hgp : g ≠ p) (hfr : wr.heap.size ≤ g) (hgb : ∀ k, v4.ownBlock = some k → k ≠ g) (hc : w4.cell? ⟨q, 0, none⟩ = some x) (hqg : q ≠ g)
    (hr : w4.heap[g]? = some (.cells C.toArray 76)) (k2 : Keeps (fun k => k = p) wr w2) (k3 : Keeps (fun k => k = p) w2 w3) (k4 : Keeps (fun k => k = p) w3 w4) :
    Opn (w4.setCell ⟨g, 33, none⟩ (.string s)) p v4 R 0 ∧ (w4.setCell ⟨g, 33, none⟩ (.string s)).cell? ⟨q, 0, none⟩ = some x ∧
      (w4.setCell ⟨g, 33, none⟩ (.string s)).heap[g]? = some (.cells (C.toArray.setIfInBounds 33 (.string s)) 76) ∧ Keeps (fun k => k = p) wr (w4.setCell ⟨g, 33, none⟩ (.string s)) := by
  have hk : Keeps (fun k => k = g) w4 (w4.setCell ⟨g, 33, none⟩ (.string s)) := (Keeps.refl _ w4).setCell _ _ (fun _ => rfl)
  refine ⟨hp4.keeps hk (fun e => hgp e.symm) (fun b hb e => hgb b hb e), hk.cell hc hqg, heap_setCell_same _ hr, ?_⟩
  exact ((k2.same k3).same k4).setCell _ _ (fun h => by have : g < wr.heap.size := h; omega)
theorem Tryd.size76 : (Tryd.prog.info? 76).map (·.size) = some 34 := by kernel_rfl
theorem reg7 {P : Program} {Q : Exit → Act → World → Prop} {a : Act} {w : World} {c : Code} (h : c.wpIn Fence.wide 2 P Q a w) : c.wp P Q a w := wpIn_wide.1 h
/-- Where a record's head has been taken and laid in block g. -/
structure AfterHead (wr W2 : World) (p g : Nat) (M : List UInt8) (ob : Option Nat) (C : List Value) : Prop where
  op : ∃ v2, Opn W2 p v2 M 0 ∧ v2.ownBlock = ob
  row : W2.heap[g]? = some (.cells C.toArray 76)
  keeps : Keeps (fun k => k = p) wr W2
  fresh : wr.heap.size ≤ g
  lt : p < wr.heap.size
theorem after_row {w1 : World} {p g : Nat} {v1 : Value} {M : List UInt8} (cs : Array Value) (h : Opn w1 p v1 M 0) (h1 : g ≠ p) (h2 : ∀ b, v1.ownBlock = some b → b ≠ g) : Opn (w1.setRow g cs) p v1 M 0 :=
  h.keeps ((Keeps.refl (fun k => k = g) w1).setRow g cs (fun _ => rfl)) (fun e => h1 e.symm) h2
theorem after_a {wr w1 : World} {p : Nat} {v1 R : Value} {L M : List UInt8} {ob : Option Nat} {C : List Value} {e : Ending} {old : Array Value} (hp : Opn wr.drew p v1 L 0) (hL : 32 ≤ L.length) (ho : v1.ownBlock = ob) (hq : TakePost wr.drew p v1 R M 0 e w1) :
    AfterHead wr ((w1.alloc (.cells old 76)).setRow w1.heap.size C.toArray) p w1.heap.size M ob C := by
  obtain ⟨he, v2, h1, h2, h3⟩ := hq
  have hlt : p < wr.heap.size := heap_lt hp.heap
  have hs : wr.heap.size ≤ w1.heap.size := h3.size
  refine ⟨⟨v2, after_row _ (h1.no (keeps_alloc _ _)) (by omega) (fun b hb e => ?_), h2.trans ho⟩, setRow_heap _ _ _ _ _ _ (heap_alloc_new w1 _), ?_, hs, hlt⟩
  · have := hp.rd.block_lt (by omega) b (h2 ▸ hb)
    have : b < wr.heap.size := this
    omega
  · exact ((((Keeps.refl _ wr).drew).same h3).alloc _).setRow _ _ (fun h => by omega)
theorem after_b {wr w1 : World} {p : Nat} {v1 R : Value} {L M : List UInt8} {ob : Option Nat} {C : List Value} {e : Ending} {old : Array Value} (hp : Opn wr.drew p v1 L 0) (hL : 32 ≤ L.length) (ho : v1.ownBlock = ob) (hq : TakePost (wr.drew.alloc (.cells old 76)) p v1 R M 0 e w1) :
    AfterHead wr (w1.setRow wr.heap.size C.toArray) p wr.heap.size M ob C := by
  have hlt : p < wr.heap.size := heap_lt hp.heap
  have hg := take_heap hq (heap_alloc_new wr.drew _) (show wr.drew.heap.size ≠ p by show wr.heap.size ≠ p; omega)
  obtain ⟨he, v2, h1, h2, h3⟩ := hq
  refine ⟨⟨v2, after_row _ h1 (by omega) (fun b hb e => ?_), h2.trans ho⟩, setRow_heap _ _ _ _ _ _ hg, ?_, Nat.le_refl _, hlt⟩
  · have := hp.rd.block_lt (by omega) b (h2 ▸ hb)
    have : b < wr.heap.size := this
    omega
  · exact ((((Keeps.refl _ wr).drew).alloc _).same (h3.trans (Keeps.refl (fun k => k = p) w1) (fun _ _ h => h) (fun _ _ h => h))).setRow _ _ (fun h => by omega)
theorem cell33 {w : World} {g : Nat} {C : List Value} (h : w.heap[g]? = some (.cells C.toArray 76)) (hl : C.length = 34) : w.cell? ⟨g, 33, none⟩ = some (C[33]'(by omega)) := by
  rw [cell_of_heap h 33]
  simp [hl]
theorem storeC {P : Program} (W : World) (g : Nat) (old : Array Value) (t : TypeId) (C : List Value) (hg : W.heap[g]? = some (.cells old t (0, 0))) (ho : old.size = C.length) (h1 : ∀ u ∈ C, u.oneCell' = true) :
    Sem.run P (storeCells ⟨g, 0, none⟩ C) W = .ok () (W.setRow g C.toArray) := by
  have h := run_storeCells_at (P := P) g 0 t C 0 old W hg (by omega) h1
  rw [h]
  simp [List.drop_of_length_le, ho]
theorem hash_good (p : Nat) (v : Value) (h M L : List UInt8) (w : World) (hp : Opn w p v L 0) (hL : L = h ++ M) (hh : h.length = 32) :
    Calls Tryd.prog 43 #[.pointer (some ⟨p, 0, none⟩)] w (TakePost w p v (.agg (bytesV h).toArray) M 0) := by
  have := hash43 p v L w hp (by rw [hL, List.length_append]; omega)
  rw [hL] at this
  rw [show (h ++ M).take 32 = h by rw [← hh, List.take_left], show (h ++ M).drop 32 = M by rw [← hh, List.drop_left]] at this
  exact this

set_option maxRecDepth 20000 in
set_option maxHeartbeats 800000 in
theorem walk_iter (rs : List (List UInt8 × ByteArray)) (p q : Nat) (v : Value) (w : World) (Sb : Nat → Prop) (hgood : GoodRecs rs) (hp : Opn w p v (recsBytes rs) 0)
    (hq : w.heap[q]? = some (.cells #[.pointer (some ⟨p, 0, none⟩)] 80)) (hne : q ≠ p) (hb1 : ¬ Sb p) (hb2 : ¬ Sb q) (hb3 : ∀ k, v.ownBlock = some k → ¬ Sb k) :
    IterC Tryd.prog 123 #[.pointer (some ⟨q, 0, none⟩)] encR (fun k => k = p) Sb (recList 0 rs)
      (fun W' => ∃ v', Opn W' p v' [] 0 ∧ v'.ownBlock = v.ownBlock) w := by
  intro l J W hkW hJ hY h0
  have hpW := hp.no hkW
  have hqW := hkW.heap hq (fun h => h)
  obtain ⟨ob, hob⟩ : ∃ ob, ob = v.ownBlock := ⟨_, rfl⟩
  rw [← hob] at hb3 ⊢
  have hcW := cell_of_heap hqW 0
  have hfW := frozen_of_heap hqW 0
  simp at hcW
  have HY := Lib.hid hY; clear hY
  have HP := Lib.hid hpW; clear hpW hp
  have HB3 := Lib.hid hb3; clear hb3
  obtain ⟨N, hN⟩ : ∃ N, N = (recsBytes rs).length := ⟨_, rfl⟩
  have h00 : WI rs p q ob J rs.length W := ⟨[], rs, rfl, rfl, h0, ⟨v, HP.out, hob.symm⟩, hqW⟩
  clear hkW hq hqW hob
  go_enter Tryd.func123, Tryd.ntmps123
  go_wp2_with (go_at_call 45; refine (left_all p v _ 0 _ HP.out).mono ?_; rintro e w' ⟨rfl, rfl⟩)
  rw [← hN]
  have HN := Lib.hid hN; clear hN
  go_loopg [] rs.length (fun k wr => WI rs p q ob J k wr)
  case atStart => exact h00
  case round =>
    clear hcW hfW
    obtain ⟨done, rest, hrs, hk, hj, ⟨v1, hp1, ho1⟩, hq1⟩ := hrel
    have HRS := Lib.hid hrs; clear hrs
    have hc1 := cell_of_heap hq1 0
    have hf1 := frozen_of_heap hq1 0
    simp at hc1
    cases rest with
    | nil =>
      go_wp2_with (go_at_call 45; refine (left_all p v1 _ 0 _ hp1).mono ?_; rintro e w' ⟨rfl, rfl⟩)
      go_end0
      refine ⟨⟨_, rfl⟩, ⟨v1, hp1, ho1⟩, ?_⟩
      rw [HRS.out, List.append_nil]
      exact hj
    | cons r rest =>
      obtain ⟨h, s⟩ := r
      obtain ⟨hh, hs⟩ := hgood.1 (h, s) (by rw [HRS.out]; simp)
      simp only at hh hs
      have hlen : (recsBytes ((h, s) :: rest)).length < 1000000 := by
        have h2 := hgood.2
        rw [HRS.out, recsBytes_append, List.length_append] at h2
        omega
      have hL : recsBytes ((h, s) :: rest) = recBytes h s ++ recsBytes rest := rfl
      obtain ⟨L, hLL⟩ : ∃ L, L = recsBytes ((h, s) :: rest) := ⟨_, rfl⟩
      rw [← hLL] at hp1 hlen hL
      have hl32 : 32 ≤ L.length := by rw [hL, List.length_append, recBytes_length]; omega
      have hat : (N : Int) - L.length = ((recsBytes done).length : Int) := by
        rw [HN.out, HRS.out, recsBytes_append, List.length_append, hLL]; omega
      have hpos : (0 : Int) < L.length := by omega
      have hlen2 : ¬ (2014 : Int) < s.size := by omega
      have HL := Lib.hid hL; clear hL
      have HLL := Lib.hid hLL; clear hLL
      have hp0 : Opn wr.drew p v1 L 0 := hp1.no ((Keeps.refl No wr).drew)
      have HP0 := Lib.hid hp0; clear hp0
      have HP1 := Lib.hid hp1; clear hp1
      generalize hc7 : (Code.region 7 _ false).seq _ = c7
      have HC7 := Lib.hid hc7; clear hc7
      go_wp2_with (go_at_call 45; refine (left_all p v1 _ 0 _ HP1.out).mono ?_; rintro e w' ⟨rfl, rfl⟩)
      obtain ⟨M, hM⟩ : ∃ M, M = be 2 s.size ++ (bl s ++ recsBytes rest) := ⟨_, rfl⟩
      have hLM : L = h ++ M := by rw [hM, HL.out]; simp [recBytes]
      obtain ⟨R, hR⟩ : ∃ R, R = recsBytes rest := ⟨_, rfl⟩
      rw [← hR] at hM
      have hMl : M.length < 1000000 := by
        have : L.length = h.length + M.length := by rw [hLM, List.length_append]
        omega
      have hn31 : ∀ (W : World) (u : Value), Opn W p u M 0 → Calls Tryd.prog 31 #[.pointer (some ⟨p, 0, none⟩), .int .i64 2] W (TakePost W p u (.int .u64 s.size) (bl s ++ R) 0) := fun W u hu => by
        rw [hM] at hu hMl
        exact num2_good p u s.size (bl s ++ R) W hu hMl (by omega)
      have ht30 : ∀ (W : World) (u : Value), Opn W p u (bl s ++ R) 0 → Calls Tryd.prog 30 #[.pointer (some ⟨p, 0, none⟩), .int .i64 s.size] W (TakePost W p u (.string s) R 0) := fun W u hu => by
        refine text_good p u s R W hu ?_
        rw [hM, List.length_append] at hMl
        omega
      have N31 := Lib.hid hn31; clear hn31
      have T30 := Lib.hid ht30; clear ht30
      have hws : IntKind.i64.wrap (s.size : Int) = s.size := by rw [IntKind.wrap_i64]; omega
      have HM := Lib.hid hM; clear hM
      have HR := Lib.hid hR; clear hR
      have HLM := Lib.hid hLM; clear hLM
      obtain ⟨B, hB⟩ : ∃ B, B = bytesV h := ⟨_, rfl⟩
      have hB32 : B.length = 32 := by rw [hB, bytesV_length, hh]
      obtain ⟨D, hD⟩ : ∃ D, D = (recsBytes done).length := ⟨_, rfl⟩
      rw [← hD] at hat
      have hwr : IntKind.i64.wrap (D : Int) = D := by
        have h1 : N = D + L.length := by omega
        have h2 : N < 1000000 := by rw [HN.out]; exact hgood.2
        rw [IntKind.wrap_i64]
        omega
      obtain ⟨C, hC⟩ : ∃ C, C = Value.int .i64 D :: (B ++ [Value.string ⟨#[]⟩]) := ⟨_, rfl⟩
      have hfold : List.foldl (fun (cs : Array Value) (x : Value × Nat) => cs.setIfInBounds (1 + x.snd) x.fst) #[Value.int .i64 D, Value.int .u8 0, Value.int .u8 0, Value.int .u8 0, Value.int .u8 0, Value.int .u8 0, Value.int .u8 0, Value.int .u8 0, Value.int .u8 0, Value.int .u8 0, Value.int .u8 0, Value.int .u8 0, Value.int .u8 0, Value.int .u8 0, Value.int .u8 0, Value.int .u8 0, Value.int .u8 0, Value.int .u8 0, Value.int .u8 0, Value.int .u8 0, Value.int .u8 0, Value.int .u8 0, Value.int .u8 0, Value.int .u8 0, Value.int .u8 0, Value.int .u8 0, Value.int .u8 0, Value.int .u8 0, Value.int .u8 0, Value.int .u8 0, Value.int .u8 0, Value.int .u8 0, Value.int .u8 0, Value.string ⟨#[]⟩] B.zipIdx = C.toArray := by
        have := fold_cells B [.int .i64 D] (List.replicate 32 (Value.int .u8 0)) [.string ⟨#[]⟩] 1 0 (by simp [hB32]) rfl
        rw [hC]
        simpa using this
      have hC34 : C.length = 34 := by rw [hC]; simp [hB32]
      have hone : ∀ u ∈ C, u.oneCell' = true := by
        intro u hu
        rw [hC, hB] at hu
        simp only [List.mem_cons, List.mem_append, List.not_mem_nil, or_false] at hu
        rcases hu with rfl | hu | rfl
        · rfl
        · exact bytesV_one h u hu
        · rfl
      have hpw := heap_lt HP0.out.heap
      have hqw : q < wr.drew.heap.size := heap_lt hq1
      have hqw2 : q < wr.heap.size := heap_lt hq1
      have HONE := Lib.hid hone; clear hone
      have hcr : C.toArray.setIfInBounds 33 (.string s) = (recV (D, h, s)).toArray := by
        rw [hC, hB]
        apply Array.ext'
        have e : (bytesV h).length = 32 := by rw [bytesV_length, hh]
        simp [recV, e]
      have HCR := Lib.hid hcr; clear hcr
      have hsz5 : (Tryd.prog.info? 76).map (·.size) = some (recV (D, h, s)).toArray.size := by
        rw [Tryd.size76]
        simp [recV, bytesV_length, hh]
      have HSZ5 := Lib.hid hsz5; clear hsz5
      have hrl : recList 0 rs = recList 0 done ++ (D, h, s) :: recList (D + (recBytes h s).length) rest := by
        rw [HRS.out, recList_append, Nat.zero_add, ← hD]; rfl
      have HRL := Lib.hid hrl; clear hrl
      have hv1 := HP0.out.rd.block_lt (by omega)
      have HV1 : Hid (∀ k, v1.ownBlock = some k → k < wr.heap.size) := Lib.hid hv1
      clear hv1
      have HD := Lib.hid hD; clear hD
      have HB := Lib.hid hB; clear hB
      have HC := Lib.hid hC; clear hC
      have h43 := fun W => hash_good p v1 h M L W
      have H43 := Lib.hid h43; clear h43
      go_region_held3 (fun w' => w'.cell? ⟨q, 0, none⟩ = some (.pointer (some ⟨p, 0, none⟩))) (first | exact hc1 | exact (keeps_alloc _ _).cell hc1 (fun h => h) | exact hcq | exact (keeps_alloc _ _).cell hcq (fun h => h) | exact setRow_cell _ hcq (by omega) | exact setRow_cell _ ((keeps_alloc _ _).cell hcq (fun h => h)) (by omega))
        (first | (go_at_call 45; refine (left_all p v1 L 0 _ (by first | exact HP0.out | exact HP0.out.no (keeps_alloc _ _))).mono ?_; rintro e w' ⟨rfl, rfl⟩) | (go_at_call 43; refine (H43.out _ (by first | exact HP0.out | exact HP0.out.no (keeps_alloc _ _)) HLM.out hh).mono ?_; rintro e w1 hq; have he := hq.1; subst he; rw [← HB.out] at hq ⊢; have hcq := take_cell hq (by first | exact hc1 | exact (keeps_alloc _ _).cell hc1 (fun h => h)) hne; have hsw := take_size hq) | (rw [storeC _ _ _ 76 C (heap_alloc_new _ _) (by rw [hC34]; rfl) HONE.out]) | (rw [storeC w1 wr.heap.size _ 76 C (take_heap hq (heap_alloc_new wr.drew _) (show wr.drew.heap.size ≠ p by omega)) (by rw [hC34]; rfl) HONE.out]))
      all_goals generalize hW2 : World.setRow _ _ _ = W2
      all_goals first | (have ha : AfterHead wr W2 p w1.heap.size M ob C := by (rw [← hW2]; exact after_a HP0.out hl32 ho1 hq)); (generalize w1.heap.size = g at ha ⊢) | (have ha : AfterHead wr W2 p wr.heap.size M ob C := by (rw [← hW2]; exact after_b HP0.out hl32 ho1 hq)); (generalize hg0 : wr.heap.size = g at ha ⊢)
      all_goals clear hq hcq hsw hW2
      all_goals (obtain ⟨⟨v2, hp2, ho2⟩, hrow2, hk2, hfr, hltp⟩ := ha)
      all_goals have hc2 := hk2.cell hc1 hne
      all_goals have hgp : g ≠ p := by omega
      all_goals go_wp2_with (first | (go_at_call 31; refine (N31.out _ _ hp2).mono ?_; rintro e w3 hq3; have he := hq3.1; subst he; have hc3 := take_cell hq3 hc2 hne; have hr3 := take_heap hq3 hrow2 hgp; obtain ⟨_, v3, hp3, ho3, hk3⟩ := hq3) | (go_at_call 30; refine (T30.out _ _ hp3).mono ?_; rintro e w4 hq4; have he := hq4.1; subst he; have hc4 := take_cell hq4 hc3 hne; have hr4 := take_heap hq4 hr3 hgp; have hx4 := cell33 hr4 hC34; have hf4 := frozen_of_heap hr4 33; obtain ⟨_, v4, hp4, ho4, hk4⟩ := hq4))
      all_goals have hT := tail_facts (s := s) hp4 hgp hfr (fun k hk e => by have := HV1.out k (by rw [ho1, ← ho2, ← ho3, ← ho4, hk]); omega) hc4 (by omega) hr4 hk2 hk3 hk4
      all_goals clear hp4 hp3 hp2 hc4 hc3 hc2 hr4 hr3 hrow2 hk2 hk3 hk4 hx4 hf4
      all_goals generalize hW5 : w4.setCell _ _ = W5 at hT ⊢
      all_goals clear hW5
      all_goals (obtain ⟨hp5, hc5, hr5, hk5⟩ := hT)
      all_goals rw [HCR.out] at hr5
      all_goals have hj5 := hJ _ _ _ hj hk5
      all_goals (obtain ⟨fn, ytmps, yassign, ybody, hy, hyR⟩ := HY.out _ (D, h, s) _ _ HRL.out hj5)
      all_goals refine reg7 ?_
      all_goals rw [← HC7.out]
      all_goals dsimp only [encR] at hy
      all_goals gi_wp2_with (first | (refine ⟨trivial, ?_⟩; gi_at_call 32; refine (callsIn_wide.2 (err_all p _ _ _ _ hp5)).mono ?_; rintro e w6 ⟨rfl, rfl⟩) | (refine in_load_row (by rfl) 76 _ rfl g (by rfl) 76 _ _ _ hr5 Tryd.underlying76 rfl HSZ5.out ?_) | (refine hyR.mono ?_; rintro e W6 ⟨rfl, hj6, hk6⟩))
      all_goals have hR2 : R = recsBytes rest := HR.out
      all_goals have hq6 := hk6.heap (hk5.heap hq1 hne) hb2
      all_goals have hp6 := hp5.keeps hk6 hb1 (fun b hb => HB3.out b (by rw [← ho2, ← ho3, ← ho4]; exact hb))
      all_goals rw [hR2] at hp6
      all_goals have hwi : WI rs p q ob J rest.length W6 := ⟨done ++ [(h, s)], rest, by rw [HRS.out, List.append_assoc]; rfl, rfl, by rw [recList_append, Nat.zero_add, ← HD.out]; exact hj6, ⟨_, hp6, by rw [ho4, ho3, ho2]⟩, hq6⟩
      all_goals go_roundg rest.length
      all_goals first | exact hwi | (simp at hk; omega)
end Go.Proofs.YtpniohbjgpncmaaDoor
