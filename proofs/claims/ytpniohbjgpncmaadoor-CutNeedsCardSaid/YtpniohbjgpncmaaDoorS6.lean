/- record.Walk at bytes that begin with records: conditions: none. -/
import Derived.Test.YtpniohbjgpncmaaDoorS5
namespace Go.Proofs.YtpniohbjgpncmaaDoor
open Go.RowKit
attribute [local go_sem] Oper.semAt_some

theorem walk76 (p : Nat) (w : World) :
    Calls Tryd.prog 76 #[.pointer (some ⟨p, 0, none⟩)] w fun e w' => e = .returned (.func (.func 123) #[] #[.pointer (some ⟨w.heap.size, 0, none⟩)]) ∧ w' = w.alloc (.cells #[.pointer (some ⟨p, 0, none⟩)] 80) := by
  go_enter Tryd.func76, Tryd.ntmps76
  go_wp2
  go_ret
  exact ⟨rfl, rfl⟩

theorem fill_one (s : Nat) (Z : Array Value) (X : List Value) (hZ : Z.size = s) (hX : X.length = s) : Instr.fill (fun i => some (i * s, s)) Z [(0, .agg X.toArray)] = some X.toArray := by
  rw [fill_step _ Z 0 0 s (.agg X.toArray) _ (by simp) (show X.toArray.size = s by simpa using hX) (by omega)]
  simp only [Instr.fill]
  refine congrArg some ?_
  have hf := fold_cells X [] Z.toList [] 0 0 (by simp; omega) rfl
  have e2 : (Value.agg X.toArray).cells = X.toArray := rfl
  rw [e2, show X.toArray.zipIdx = (X.zipIdx 0).toArray by simp]
  rw [List.foldl_toArray']
  · simpa using hf
  · rfl
theorem in_build1 {F : Fence} {n : Nat} {P : Program} {ops : Array Oper} {rest : List Oper} {o : Oper} {a : Act} {w : World} {Q : Exit → Act → World → Prop} (hg : o.guard = none) (t e : TypeId) (x : Operand) (ho : o.op = .buildSlice t 1 #[(0, x)])
    (X : List Value) (hx : a.eval x = .agg X.toArray) (ie : TypeInfo) (z : Value) (hu : P.underlying t = some (.slice e)) (hie : P.info? e = some ie) (hz : ie.zero = some z) (hs : ie.size = X.length) (h1 : X.length ≤ 2 ^ 24) (h0 : 0 < X.length)
    (h : wpListIn F n P ops Q rest (a.put o.dst (.slice (some ⟨w.heap.size, 0, none⟩) 1 1)) (w.alloc (.cells X.toArray e))) : wpListIn F n P ops Q (o :: rest) a w := by
  refine wpListIn_plain hg fun K hK' => ?_
  unfold Oper.wpIn
  refine ⟨by simp [Oper.about, ho], ?_⟩
  rw [Oper.semAt_plain F _ _ (by rw [ho]; intro c hc'; cases hc')]
  unfold execOp
  have hf : Instr.fill (fun i => some (i * ie.size, ie.size)) ((Array.range (1 * ie.size)).map (z.cells[· % z.cells.size]!)) (#[(0, x)].map fun (i, x) => (i, a.eval x)).toList = some X.toArray := by
    have e : (#[(0, x)].map fun (i, x) => (i, a.eval x)).toList = [(0, .agg X.toArray)] := by simp [hx]
    rw [e]
    exact fill_one ie.size _ X (by simp) hs.symm
  simp only [ho, Sem.run_bind, run_buildSlice w t e 1 _ X.toArray ie z hu hie hz (by omega) (by omega) hf, Result.andThen_ok]
  exact hK' _ _ h

set_option maxRecDepth 20000 in
set_option maxHeartbeats 400000 in
theorem of_any2 (v : Value) (l : List UInt8) (w : World) (hv : Rd w 1 v l.length (bytesV l)) (hl : l.length < 1000000) :
    Calls Tryd.prog 29 #[v] w fun e w' => ∃ p, e = .returned (.pointer (some ⟨p, 0, none⟩)) ∧ (∃ u, Opn w' p u l 0 ∧ ∀ k, u.ownBlock = some k → k < p) ∧ w.heap.size ≤ p ∧ p < w'.heap.size ∧ Keeps No w w' := by
  have HV := Lib.hid hv; clear hv
  go_enter Tryd.func29, Tryd.ntmps29
  go_wp2_with (go_at_call 79; refine (clone_any v l _ HV.out hl).mono ?_; rintro e w1 ⟨ao, cp, rfl, ho, hk, hf⟩)
  go_ret
  have h := opin_new ho hk hf
  refine ⟨_, rfl, ⟨_, ⟨heap_alloc_new _ _, (Own.rd ho).keeps (keeps_alloc _ _) (fun _ _ h => h), fun e => ?_⟩, own_lt ho⟩, hk.size, by simp, hk.alloc _⟩
  have := own_lt ho _ e
  omega
theorem recList_good (rs : List (List UInt8 × ByteArray)) (h : ∀ r ∈ rs, r.1.length = 32 ∧ r.2.size ≤ 2014) : ∀ n, ∀ x ∈ recList n rs, (recV x).length = 34 ∧ ∀ u ∈ recV x, u.oneCell' = true := by
  induction rs with
  | nil => intro n x hx; simp [recList] at hx
  | cons r rs ih =>
    intro n x hx
    simp only [recList, List.mem_cons] at hx
    rcases hx with rfl | hx
    · refine ⟨by simp [recV, bytesV_length, (h r (by simp)).1], fun u hu => ?_⟩
      simp only [recV, List.mem_cons, List.mem_append, List.not_mem_nil, or_false] at hu
      rcases hu with rfl | hu | rfl
      · rfl
      · exact bytesV_one _ u hu
      · rfl
    · exact ih (fun r hr => h r (by simp [hr])) _ x hx

/-- Between two rounds of Walk's own loop. -/
def WkI (w : World) (C : Nat) (pre : List Rc) (W : World) : Prop :=
  Keeps No w W ∧ ∃ v', W.heap[C]? = some (.cells #[v'] 72) ∧ W.ownsRow 0 76 34 v' pre.length (pre.flatMap recV) ∧ (∀ k, v'.ownBlock = some k → C + 3 < k)
theorem WkI.keeps {w : World} {C : Nat} {pre : List Rc} {A B : World} {S : Nat → Prop} (h : WkI w C pre A) (k : Keeps S A B) (h1 : ∀ i, i < w.heap.size → ¬ S i) (h2 : ¬ S C) (h3 : ∀ i, C + 3 < i → ¬ S i) : WkI w C pre B := by
  obtain ⟨hk, v', hc, ho, hf⟩ := h
  exact ⟨hk.trans k (fun _ _ h => h) (fun i hi hs => (h1 i hi hs).elim), v', k.heap hc h2, Own.keeps ho k (fun b hb => h3 b (hf b hb)), hf⟩
theorem info76 : (Tryd.prog.info? 76).map (fun i => (i.size, i.bytes)) = some (34, 56) := by kernel_rfl
theorem info_parts76 : ∃ ie z, Tryd.prog.info? 76 = some ie ∧ ie.zero = some z ∧ ie.size = 34 ∧ ie.bytes = 56 ∧ z.cells.size = 34 := by
  have h := info76
  have hz := z76
  cases hi : Tryd.prog.info? 76 with
  | none => rw [hi] at h; simp at h
  | some ie =>
    rw [hi] at h hz
    cases hzz : ie.zero with
    | none => simp [hzz] at hz
    | some z =>
      simp [hzz] at hz
      simp at h
      exact ⟨ie, z, rfl, hzz, h.1, h.2, by rw [hz]; rfl⟩
theorem recs_len (rs : List (List UInt8 × ByteArray)) : ∀ n, (recList n rs).length ≤ (recsBytes rs).length := by
  induction rs with
  | nil => intro n; simp [recList]
  | cons r rs ih =>
    intro n
    have := ih (n + (recBytes r.1 r.2).length)
    simp only [recList, recsBytes, List.length_cons, List.length_append]
    have h2 := recBytes_length r.1 r.2
    omega
theorem body_close {w W w6 : World} {C : Nat} {pre : List Rc} {x : Rc} {X : List Value} {v' : Value} {ao : Option Addr} {cp n3 : Nat} (hn : n3 = C + 2) (hwC : w.heap.size ≤ C) (hX : X = recV x) (hkw : Keeps No w W) (hcell : W.heap[C]? = some (.cells #[v'] 72)) (hgl : C + 3 < W.heap.size)
    (hfr : ∀ k, v'.ownBlock = some k → C + 3 < k) (hrow : w6.ownsRow 0 76 34 (.slice ao (pre.length + 1) cp) (pre.length + 1) (pre.flatMap recV ++ X)) (hk : Keeps (fun b => v'.ownBlock = some b) (W.alloc (.cells X.toArray 76)) w6)
    (ho : (Value.slice ao (pre.length + 1) cp).ownBlock = v'.ownBlock ∨ (Value.slice ao (pre.length + 1) cp).ownBlock = some (W.alloc (.cells X.toArray 76)).heap.size) :
    Keeps (fun k => k = C ∨ n3 + 1 < k) W (w6.setCell ⟨C, 0, none⟩ (.slice ao (pre.length + 1) cp)) ∧ WkI w C (pre ++ [x]) (w6.setCell ⟨C, 0, none⟩ (.slice ao (pre.length + 1) cp)) := by
  have hk1 : Keeps (fun b => C + 3 < b) W w6 := (keeps_alloc W _).trans hk (fun _ _ h => h.elim) (fun i _ h => hfr i h)
  have hfr6 : ∀ k, (Value.slice ao (pre.length + 1) cp).ownBlock = some k → C + 3 < k := by
    intro k hk'
    rcases ho with h | h
    · exact hfr k (h ▸ hk')
    · rw [h] at hk'
      simp at hk'
      omega
  have hset : Keeps (fun k => k = C) w6 (w6.setCell ⟨C, 0, none⟩ (.slice ao (pre.length + 1) cp)) := (Keeps.refl _ w6).setCell _ _ (fun _ => rfl)
  refine ⟨hk1.trans hset (fun i _ h => .inr (by omega)) (fun i _ h => .inl h), ?_, _, ?_, ?_, hfr6⟩
  · exact (hkw.trans hk1 (U := No) (fun _ _ h => h) (fun i hi h => by omega)).setCell _ _ (fun h => by have : C < w.heap.size := h; omega)
  · rw [heap_setCell_same _ (hk1.heap hcell (by omega))]; rfl
  · rw [List.length_append, List.flatMap_append]
    simp only [List.length_singleton, List.flatMap_singleton]
    rw [← hX]
    exact Own.keeps hrow hset (fun b hb h => by have := hfr6 b hb; omega)

def WalkPost (rs : List (List UInt8 × ByteArray)) (w : World) (e : Ending) (w' : World) : Prop := ∃ ao cp, e = .returned (.tuple #[.slice ao (recList 0 rs).length cp, .int .i64 0]) ∧
  w'.ownsRow 0 76 34 (.slice ao (recList 0 rs).length cp) (recList 0 rs).length ((recList 0 rs).flatMap recV) ∧ Keeps No w w' ∧ (∀ k, (Value.slice ao (recList 0 rs).length cp).ownBlock = some k → w.heap.size ≤ k)

set_option maxRecDepth 20000 in
set_option maxHeartbeats 800000 in
theorem recwalk (rs : List (List UInt8 × ByteArray)) (b : List UInt8) (v : Value) (used : Nat) (w : World) (hv : Rd w 1 v b.length (bytesV b)) (hu : used ≤ b.length) (hb : b.take used = recsBytes rs) (hg : GoodRecs rs) :
    Calls Tryd.prog 25 #[v, .int .i64 used] w (WalkPost rs w) := by
  have HV := Lib.hid hv
  obtain ⟨h1, a, c, rfl, hc, h2, h3⟩ := hv
  clear h1 h2 h3
  have hu1 : ¬ (used : Int) < 0 := by omega
  have hu2 : ¬ (b.length : Int) < used := by omega
  obtain ⟨a1, c1, hsl, hsr, hso⟩ := slice_to Tryd.slice27 1 Tryd.size27 a b.length c used hc hu
  have hrd : Rd w 1 (.slice a1 used c1) (recsBytes rs).length (bytesV (recsBytes rs)) := by
    have := hsr w _ HV.out
    rw [Nat.mul_one, show (bytesV b).take used = bytesV (recsBytes rs) by rw [← hb]; simp [bytesV]] at this
    rw [show (recsBytes rs).length = used by rw [← hb, List.length_take]; omega]
    exact this
  clear hsr hso
  have HRD := Lib.hid hrd; clear hrd
  have HB := Lib.hid hb; clear hb
  have HG := Lib.hid hg; clear hg
  refine (callsIn_wide (n := 2)).1 (callsIn_of_wp_marks Tryd.func25 rfl trivial ?_)
  refine wpIn_wide.2 ?_
  simp only [Tryd.ntmps25, List.size_toArray, List.length_cons, List.length_nil, Nat.reduceAdd, Nat.reduceSub, Array.replicate_succ, Array.replicate_zero, List.push_toArray, List.append_toArray, List.nil_append, List.cons_append]
  go_wp2_with (first | (go_at_call 29; refine (of_any2 _ (recsBytes rs) _ HRD.out HG.out.2).mono ?_; rintro e w1 ⟨p, rfl, ⟨u, hop, hub⟩, hwp, hpc, hkw1⟩) | (go_at_call 76; refine (walk76 p _).mono ?_; rintro e w2 ⟨rfl, rfl⟩))
  obtain ⟨C, hC⟩ : ∃ C, C = w1.heap.size := ⟨_, rfl⟩
  obtain ⟨w3, hw3⟩ : ∃ w3, w3 = (w1.alloc (.cells #[.slice none 0 0] 72)).alloc (.cells #[.pointer (some ⟨p, 0, none⟩)] 80) := ⟨_, rfl⟩
  have hsz : w3.heap.size = C + 2 := by rw [hw3, hC]; simp
  have hk13 : Keeps No w1 w3 := by rw [hw3]; exact keeps_alloc2 _ _ _
  have hc3 : w3.heap[C]? = some (.cells #[.slice none 0 0] 72) := by rw [hw3]; exact heap_new1 _ _ _ _ hC
  have hq3 : w3.heap[C + 1]? = some (.cells #[.pointer (some ⟨p, 0, none⟩)] 80) := by rw [hw3, hC]; have := heap_alloc_new (w1.alloc (.cells #[.slice none 0 0] 72)) (.cells #[.pointer (some ⟨p, 0, none⟩)] 80); rwa [World.size_alloc] at this
  have hop3 := hop.no hk13
  rw [← hC] at hpc ⊢
  rw [← hw3]
  have h00 : WkI w C [] w3 := ⟨hkw1.same hk13, _, hc3, World.ownsRow_nil _ _ _ _, by simp [Value.ownBlock]⟩
  have hwC : w.heap.size ≤ C := by omega
  have hgood := recList_good rs HG.out.1 0
  clear hk13 hw3 hC hop hc3 hkw1
  refine wp_range_own (gf := 123) (lb := #[.pointer (some ⟨C + 1, 0, none⟩)]) rfl (fun args w => by kernel_rfl) (encs := encR) (Own := fun k => k = p) (Cb := fun k => k = C) (xs := recList 0 rs)
    (S := fun W' => ∃ v', Opn W' p v' [] 0 ∧ v'.ownBlock = u.ownBlock) (fun k hk => by omega)
    (walk_iter rs p (C + 1) u w3 _ HG.out hop3 hq3 (by omega) (by rintro (h | h) <;> omega) (by rintro (h | h) <;> omega) (fun k hk => by have := hub k hk; rintro (h | h) <;> omega)) (fun _ => rfl)
    (WkI w C) (fun s A B hs hk => hs.keeps hk (fun i hi h => by omega) (fun h => by omega) (fun i hi h => by omega)) (fun k hk => by omega)
    (fun A B ⟨v', hv1, hv2⟩ hk => ⟨v', hv1.keeps hk (by omega) (fun b hb h => by have := hub b (hv2 ▸ hb); omega), hv2⟩) h00
    (fun x a' W => ∃ g, C + 3 < g ∧ W.heap[g]? = some (.cells (recV x).toArray 76) ∧ a' = {
      tmps :=
        #[Value.slice a b.length c, Value.int IntKind.i64 ↑used, undef, undef, Value.slice none 0 0,
          Value.int IntKind.i64 0, Value.pointer (some { block := p, off := 0 }),
          Value.pointer (some { block := C, off := 0 }), Value.pointer (some { block := g, off := 0 }), Value.int IntKind.i64 ↑used,
          Value.bool false, Value.bool false, Value.int IntKind.i64 ↑used, Value.slice a b.length c,
          Value.int IntKind.i64 ↑b.length, Value.bool false, Value.bool false, Value.slice a b.length c,
          Value.int IntKind.i64 ↑used, Value.slice a1 used c1, Value.pointer (some { block := p, off := 0 }),
          Value.pointer (some { block := p, off := 0 }),
          Value.func (Fn.func 123) #[] #[Value.pointer (some { block := C + 1, off := 0 })], .agg (recV x).toArray, undef,
          undef, undef, undef, undef, undef, undef, undef],
      defers := [] })
    (fun x a' A B ⟨g, hg1, hg2, hg3⟩ hk => ⟨g, hg1, hk.heap hg2 (by omega), hg3⟩) ?assign ?body ?done
  case assign =>
    intro l x W K hx hlt hK
    obtain ⟨hx1, hx2⟩ := hgood x hx
    unfold encR
    gi_wp2_with (first | (refine in_store_row (by rfl) 76 _ _ rfl W.heap.size (recV x).toArray (by rfl) (by rfl) 76 _ (heap_alloc_new _ _) (by rw [Tryd.size76]; simp [hx1]) (by simp [hx1]) (all_oneCell_toArray hx2) ?_))
    exact hK _ _ ((keeps_alloc W _).setRow _ _ (fun h => by omega)) ⟨W.heap.size, by omega, setRow_heap _ _ _ _ _ _ (heap_alloc_new W _), rfl⟩
  case body =>
    rintro l pre x post a' W hx ⟨hkw, v', hcell, hrow, hfr⟩ ⟨g, hg1, hg2, rfl⟩
    have hxin : x ∈ recList 0 rs := by rw [hx]; simp
    obtain ⟨hx1, hx2⟩ := hgood x hxin
    have hgl := heap_lt hg2
    have hlen : pre.length + 1 ≤ 1000000 := by
      have h1 := recs_len rs 0
      have h2 := HG.out.2
      rw [hx, List.length_append, List.length_cons] at h1
      omega
    have hc := cell_of_heap hcell 0
    have hcf := frozen_of_heap hcell 0
    simp at hc
    obtain ⟨X, hX⟩ : ∃ X, X = recV x := ⟨_, rfl⟩
    rw [← hX] at hg2 hx1 hx2 ⊢
    have HX := Lib.hid hX; clear hX hx
    obtain ⟨ao0, cp0, hv'⟩ := own_form hrow
    subst hv'
    have hown := Own.keeps hrow (keeps_alloc W (.cells X.toArray 76)) (fun _ _ h => h)
    have hsrc : Src Tryd.prog 34 72 (.slice (some ⟨W.heap.size, 0, none⟩) 1 1) 1 X (W.alloc (.cells X.toArray 76)) :=
      Rd.src Tryd.underlying72 (rd_block (heap_alloc_new W _) 34 1 1 X (by rw [hx1]) (Nat.le_refl _) (fun j u hj => by simpa using hj)) hx2
    have HS := Lib.hid hsrc; clear hsrc
    have HO := Lib.hid hown; clear hown
    have HR := Lib.hid hrow; clear hrow
    have hb1 : pre.length + 1 ≤ maxLen := Nat.le_trans hlen (by decide)
    have hb2 : (pre.length + 1) * 56 ≤ 140737488355328 := by omega
    have HB1 := Lib.hid hb1; clear hb1
    have HB2 := Lib.hid hb2; clear hb2
    have HFR := Lib.hid hfr; clear hfr
    obtain ⟨ie, z, hie, hz0, hz1, hz2, hz3⟩ := info_parts76
    gi_wp2_with (first | (refine in_load_row (by rfl) 76 _ rfl g (by rfl) 76 _ _ _ hg2 Tryd.underlying76 rfl (by rw [Tryd.size76]; simp [hx1]) ?_) | (refine in_build1 rfl 72 76 _ rfl X (by rfl) ie z Tryd.underlying72 hie hz0 (by rw [hz1, hx1]) (by omega) (by omega) ?_) | (refine in_append rfl _ _ 72 72 rfl 76 ie z 34 56 Tryd.underlying72 hie hz0 hz1 hz2 hz3 (by decide) (.slice ao0 pre.length cp0) pre.length _ (by rfl) HO.out _ 1 X (by rfl) HS.out HB1.out HB2.out ?_; intro ao cp w6 hrow6 hk6 ho6; have hc6 := hk6.heap ((keeps_alloc W _).heap hcell (fun h => h)) (fun h => by have := HFR.out _ h; omega); have hcc := cell_of_heap hc6 0; have hff := frozen_of_heap hc6 0; have HR6 := Lib.hid hrow6; clear hrow6))
    exact body_close hsz hwC HX.out hkw hcell (by omega) HFR.out HR6.out hk6 ho6
  case done =>
    rintro W ⟨v', hv1, hv2⟩ ⟨hkw, vl, hcell, hrow, hfr⟩ hD
    have hc := cell_of_heap hcell 0
    simp at hc
    obtain ⟨ao0, cp0, hvl⟩ := own_form hrow
    subst hvl
    have HR := Lib.hid hrow; clear hrow
    have HFR := Lib.hid hfr; clear hfr
    go_wp2_with (first | (go_at_call 46; refine (end_all p v' [] 0 _ hv1).mono ?_; rintro e w6 ⟨rfl, rfl⟩; rw [show oEnd [] 0 = 0 by rfl]))
    rw [hsz] at hD
    refine ⟨by simp, .inl ⟨_, _, rfl, run_takeDeferred hD, ?_⟩⟩
    have hk : Keeps (fun k => k = C + 2) W (W.putObj (C + 2) (.deferred none)) := keeps_putObj _ _ _ rfl
    refine ⟨_, results_tmp2 rfl _ _ _, ao0, cp0, rfl, Own.keeps HR.out hk (fun b hb h => by have := HFR.out b hb; omega), hkw.trans hk (fun _ _ h => h) (fun i hi h => by omega), fun k hk' => by have := HFR.out k hk'; omega⟩
end Go.Proofs.YtpniohbjgpncmaaDoor
