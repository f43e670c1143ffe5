/- cut: the round of a directory's kids: conditions: the kid is a file. -/
import Derived.Test.YtpniohbjgpncmaaDoorVL
import Derived.Outline
namespace Go.Proofs.YtpniohbjgpncmaaDoor
open Go.RowKit
attribute [local go_sem] Oper.semAt_some

def findBlock (n : Nat) : Code → Option Code
  | .loop c => findBlock n c
  | .seq a b => match findBlock n a with
    | some c => some c
    | none => findBlock n b
  | .block m c => if m = n then some (.block m c) else findBlock n c
  | .scope c => findBlock n c
  | .cond _ a b => match findBlock n a with
    | some c => some c
    | none => findBlock n b
  | .rangeFunc _ _ a b => match findBlock n a with
    | some c => some c
    | none => findBlock n b
  | _ => none
def zero36 : Array Value := #[Value.string ⟨#[]⟩, Value.bool false, Value.int .u8 0, Value.int .u8 0, Value.int .u8 0, Value.int .u8 0, Value.int .u8 0, Value.int .u8 0, Value.int .u8 0, Value.int .u8 0, Value.int .u8 0, Value.int .u8 0, Value.int .u8 0, Value.int .u8 0, Value.int .u8 0, Value.int .u8 0, Value.int .u8 0, Value.int .u8 0, Value.int .u8 0, Value.int .u8 0, Value.int .u8 0, Value.int .u8 0, Value.int .u8 0, Value.int .u8 0, Value.int .u8 0, Value.int .u8 0, Value.int .u8 0, Value.int .u8 0, Value.int .u8 0, Value.int .u8 0, Value.int .u8 0, Value.int .u8 0, Value.int .u8 0, Value.int .u8 0, Value.int .u8 0, Value.int .u32 0]
theorem wpList_build1 {P : Program} {w : World} {ops : Array Oper} {rest : List Oper} {o : Oper} {a : Act} {Q : Exit → Act → World → Prop} (hg : o.guard = none) (t e : TypeId) (x : Operand) (ho : o.op = .buildSlice t 1 #[(0, x)])
    (X : List Value) (hx : a.eval x = .agg X.toArray) (ie : TypeInfo) (z : Value) (hu : P.underlying t = some (.slice e)) (hie : P.info? e = some ie) (hz : ie.zero = some z) (hs : ie.size = X.length) (h1 : X.length ≤ 2 ^ 24) (h0 : 0 < X.length)
    (h : wpList P ops Q rest (a.put o.dst (.slice (some ⟨w.heap.size, 0, none⟩) 1 1)) (w.alloc (.cells X.toArray e))) : wpList P ops Q (o :: rest) a w :=
  wpList_plain hg fun K hK => by
    have h := step_build1 (ops := ops) (K := K) (Q := Q) (E := False) hg t e x ho X hx ie z hu hie hz hs h1 h0 (hK _ _ h)
    rwa [if_pos (by simp [Region.wanted, hg])] at h
theorem sets_name (k : KidD) (hl : k.hash.length = 32) (h0 : k.height = 0) (n : ByteArray) (s : Nat) : (((kidV k).toArray.setIfInBounds 0 (.string n)).setIfInBounds 1 (.bool false)).setIfInBounds 35 (.int .u32 s) = (kidV ⟨n, false, k.hash, 0, s⟩).toArray := by
  simp [kidV, bytesV_length, hl, h0]
theorem keeps_sets3 (w : World) (g : Nat) (a b c : Value) : Keeps (fun k => k = g) w (((w.setCell ⟨g, 0, none⟩ a).setCell ⟨g, 1, none⟩ b).setCell ⟨g, 35, none⟩ c).drew := by
  have h1 : Keeps (fun k => k = g) w (w.setCell ⟨g, 0, none⟩ a) := (Keeps.refl _ w).setCell ⟨g, 0, none⟩ a (fun _ => rfl)
  have h2 : Keeps (fun k => k = g) w ((w.setCell ⟨g, 0, none⟩ a).setCell ⟨g, 1, none⟩ b) := h1.setCell ⟨g, 1, none⟩ b (fun _ => rfl)
  exact (h2.setCell ⟨g, 35, none⟩ c (fun _ => rfl)).drew
theorem heap_sets3 {w : World} {g : Nat} {cs : Array Value} {t : TypeId} (a b c : Value) (h : w.heap[g]? = some (.cells cs t)) : (((w.setCell ⟨g, 0, none⟩ a).setCell ⟨g, 1, none⟩ b).setCell ⟨g, 35, none⟩ c).drew.heap[g]? = some (.cells (((cs.setIfInBounds 0 a).setIfInBounds 1 b).setIfInBounds 35 c) t) := by
  have h1 := heap_setCell_same (o := 0) a h
  have h2 := heap_setCell_same (o := 1) b h1
  exact heap_setCell_same (o := 35) c h2
noncomputable def nodeB : Code := ((Tryd.f75.body.bind (findBlock 1)).getD .skip)

/-- A cutter's rows v and the kids lv of the chunk in block C. -/
structure Dv (W : World) (x : Nat) (v : Value) (outs : List ByteArray) (C : Nat) (lv : Value) (kn : Nat) (K : List Value) : Prop where
  cu : Cu W x v outs
  cell : W.heap[C]? = some (.cells #[.int .u8 3, .string ⟨#[]⟩, lv] 102)
  row : W.ownsRow 0 146 36 lv kn K
  lx : lv.ownBlock ≠ some x
  lC : lv.ownBlock ≠ some C
  lv : ∀ b, lv.ownBlock = some b → v.ownBlock ≠ some b
  vC : v.ownBlock ≠ some C
  xC : x ≠ C
def DvPost (W : World) (x : Nat) (v : Value) (outs : List ByteArray) (C : Nat) (lv : Value) (kn : Nat) (K : List Value) (s : ByteArray) (name : ByteArray) (n : Nat) (w' : World) : Prop := ∃ (h : List UInt8) (v' lv' : Value), h.length = 32 ∧ Dv w' x v' (outs ++ [s]) C lv' (kn + 1) (K ++ kidV ⟨name, false, h, 0, n⟩) ∧
  Keeps (LvT x v C lv) W w' ∧ Fresh W v v' ∧ Fresh W lv lv'
theorem setaway {w : World} {a b k j : Nat} {u v : Value} (h : w.cell? ⟨a, k, none⟩ = some u) (hne : a ≠ b) : (w.setCell ⟨b, j, none⟩ v).cell? ⟨a, k, none⟩ = some u := ((Keeps.refl (fun k => k = b) w).setCell ⟨b, j, none⟩ v (fun _ => rfl)).cell h hne
def nodes2 (n0 d0 n1 d1 : ByteArray) : Array Value := #[.string n0, .bool false, .string d0, .slice none 0 0, .string n1, .bool false, .string d1, .slice none 0 0]
theorem dv_close {W w1 w3 : World} {x : Nat} {v v' : Value} {outs : List ByteArray} {C : Nat} {lv : Value} {kn : Nat} {K : List Value} {s name : ByteArray} {n : Nat} {h : List UInt8} {a2 : Option Addr} {c2 : Nat} {o : Obj} (hL : Dv W x v outs C lv kn K) (hl : h.length = 32) (hc : Cu w1 x v' (outs ++ [s])) (hk1 : Keeps (fun k => k = x ∨ v.ownBlock = some k) W w1) (hf : Fresh W v v')
    (hk3 : Keeps (fun k => lv.ownBlock = some k) (w1.alloc o) w3) (ho : w3.ownsRow 0 146 36 (.slice a2 (kn + 1) c2) (kn + 1) (K ++ kidV ⟨name, false, h, 0, n⟩)) (hat : (Value.slice a2 (kn + 1) c2).ownBlock = lv.ownBlock ∨ (Value.slice a2 (kn + 1) c2).ownBlock = some (w1.alloc o).heap.size) :
    DvPost W x v outs C lv kn K s name n (w3.setCell ⟨C, 2, none⟩ (.slice a2 (kn + 1) c2)) := by
  have hxl := heap_lt hL.cu.heap
  have hCl := heap_lt hL.cell
  have hs1 := hk1.size
  have hka : Keeps No w1 (w1.alloc o) := keeps_alloc _ _
  have hC1 := hk1.heap hL.cell (by rintro (e | e); exact hL.xC e.symm; exact hL.vC e)
  have hC3 := hk3.heap (hka.heap hC1 (fun h => h)) hL.lC
  have hks : Keeps (fun k => k = C) w3 (w3.setCell ⟨C, 2, none⟩ (.slice a2 (kn + 1) c2)) := (Keeps.refl _ _).setCell _ _ (fun _ => rfl)
  have hv'l : ∀ b, v'.ownBlock = some b → b < w1.heap.size := fun b hb => own_lt hc.own b hb
  have hv'C : v'.ownBlock ≠ some C := by
    rcases hf with e | e
    · rw [e]; exact hL.vC
    · intro e2; have := e _ e2; omega
  have hlb : ∀ b, lv.ownBlock = some b → b < W.heap.size := fun b hb => own_lt hL.row b hb
  have hlv' : ∀ b, lv.ownBlock = some b → v'.ownBlock ≠ some b := fun b hb => by
    rcases hf with e | e
    · rw [e]; exact hL.lv b hb
    · intro e2; have := e _ e2; have := hlb b hb; omega
  have hsz : (w1.alloc o).heap.size = w1.heap.size + 1 := by simp
  have hnC : (Value.slice a2 (kn + 1) c2).ownBlock ≠ some C := by
    rcases hat with e | e
    · rw [e]; exact hL.lC
    · rw [e, hsz]; intro e2; simp at e2; omega
  refine ⟨h, v', .slice a2 (kn + 1) c2, hl, ⟨?_, by rw [heap_setCell_same _ hC3]; rfl, Own.keeps ho hks (fun b hb e => hnC (e ▸ hb)), ?_, hnC, ?_, hv'C, hL.xC⟩, ?_, hf, ?_⟩
  · exact (((hc.no hka).keeps hk3 hL.lx (fun b hb h => hlv' b h hb))).keeps hks hL.xC (fun b hb h => hv'C (h ▸ hb))
  · rcases hat with e | e
    · rw [e]; exact hL.lx
    · rw [e, hsz]; intro e2; simp at e2; omega
  · intro b hb
    rcases hat with e | e
    · rw [e] at hb; exact hlv' b hb
    · rw [e, hsz] at hb; intro e2; simp at hb; have := hv'l b e2; omega
  · exact ((hk1.trans hka (U := fun k => k = x ∨ v.ownBlock = some k) (fun _ _ h => h) (fun _ _ h => h.elim)).trans hk3 (U := LvT x v C lv) (fun i _ h => by rcases h with h | h; exact .inl h; exact .inr (.inl h)) (fun i _ h => .inr (.inr (.inr h)))).trans hks (fun i _ h => h) (fun i _ h => .inr (.inr (.inl h)))
  · rcases hat with e | e
    · exact .inl e
    · refine .inr fun k hk => ?_
      rw [e, hsz] at hk; simp at hk; omega

set_option maxRecDepth 20000 in
set_option maxHeartbeats 1600000 in
theorem node_round0 (x C kb : Nat) (v lv : Value) (outs : List ByteArray) (kn : Nat) (K : List Value) (n0 d0 n1 d1 : ByteArray) (W : World) (Q : Exit → Act → World → Prop) (s1 s2 s3 s4 s6 s7 s8 s9 s10 s11 s12 s13 s14 s15 s16 s17 s19 s21 s22 s23 s24 s25 s26 s27 s28 s29 s30 s31 s32 s33 s34 s35 s36 s37 s38 s39 s40 s41 s42 s43 s44 s45 s46 s47 s48 s49 s50 : Value) (hl : Dv W x v outs C lv kn K) (hkb : W.heap[kb]? = some (.cells (nodes2 n0 d0 n1 d1) 67))
    (hk : KTab W) (hf : KFirst W) (hx : 3 < x) (hv : ∀ k, v.ownBlock = some k → 3 < k) (hd : d0.size ≤ 240) (hol : outs.length < 700) (hkn : kn < 100)
    (hQ : ∀ r7 r8 r22 r23 r24 r25 r26 r27 r28 r29 r30 r31 r32 r33 r34 r35 r36 r37 r38 r39 r40 r41 r42 r43 r44 r45 r46 W', DvPost W x v outs C lv kn K ⟨(1 :: bl d0).toArray⟩ n0 d0.size W' → Q .normal { tmps := #[.pointer (some ⟨x, 0, none⟩), s1, s2, s3, s4, .pointer (some ⟨C, 0, none⟩), s6, r7, r8, s9, s10, s11, s12, s13, s14, s15, s16, s17, .slice (some ⟨kb, 0, none⟩) 2 2, s19, .int .i64 0, s21, r22, r23, r24, r25, r26, r27, r28, r29, r30, r31, r32, r33, r34, r35, r36, r37, r38, r39, r40, r41, r42, r43, r44, r45, r46, s47, s48, s49, s50], defers := [] } W') :
    nodeB.wp Tryd.prog Q { tmps := #[.pointer (some ⟨x, 0, none⟩), s1, s2, s3, s4, .pointer (some ⟨C, 0, none⟩), s6, s7, s8, s9, s10, s11, s12, s13, s14, s15, s16, s17, .slice (some ⟨kb, 0, none⟩) 2 2, s19, .int .i64 0, s21, s22, s23, s24, s25, s26, s27, s28, s29, s30, s31, s32, s33, s34, s35, s36, s37, s38, s39, s40, s41, s42, s43, s44, s45, s46, s47, s48, s49, s50], defers := [] } W := by
  conv => arg 2; whnf
  have e0 := cell_of_heap hkb 0
  have e1 := cell_of_heap hkb 1
  have e2 := cell_of_heap hkb 2
  have e3 := cell_of_heap hkb 3
  simp [nodes2] at e0 e1 e2 e3
  have HL := Lib.hid hl; clear hl
  have HK := Lib.hid hk; clear hk
  have HF := Lib.hid hf; clear hf
  have HV := Lib.hid hv; clear hv
  have HD := Lib.hid hd; clear hd
  have HQ := Lib.hid hQ; clear hQ hkb
  go_wp2_with (first | (go_at_call 75; refine (node_small x v outs d0 _ (HL.out.cu.no (keeps_alloc _ _)) (HK.out.keeps (keeps_alloc _ _) (fun h => h)) (HF.out.keeps (keeps_alloc _ _) (fun h => h)) hx HV.out HD.out (by omega)).mono ?_; rintro e w1 ⟨k, v', hpk, rfl, hcu, hk1, hf1⟩; obtain ⟨X, hX⟩ : ∃ X, X = kidV k := ⟨_, rfl⟩; have hx1 : X.length = 36 := (by rw [hX]; exact kidV_length _ hpk.1.leaf.hash); have hx2 : ∀ u ∈ X, u.oneCell' = true := (by rw [hX]; exact kidV_one _); rw [← hX]; have HX := Lib.hid hX; clear hX; have HPK := Lib.hid hpk; clear hpk; have HCU := Lib.hid hcu; clear hcu; have HK1 := Lib.hid hk1; clear hk1; have HF1 := Lib.hid hf1; clear hf1) | (refine wpList_store_row rfl 146 _ _ rfl w1.heap.size X.toArray (by rfl) (by rfl) 146 _ (heap_alloc_new _ _) (by simp only [List.size_toArray]; rw [hx1]; exact Tryd.size146) (by simp only [List.size_toArray]; rw [hx1]; rfl) (all_oneCell_toArray hx2) ?_))
  obtain ⟨W2, hW2⟩ : ∃ W2, W2 = (w1.alloc (.cells zero36 146)).setRow w1.heap.size X.toArray := ⟨_, rfl⟩
  unfold zero36 at hW2
  rw [← hW2]
  have hb8 : W2.heap[w1.heap.size]? = some (.cells X.toArray 146) := by rw [hW2]; exact setRow_heap _ _ _ _ _ _ (heap_alloc_new _ _)
  have hk2 : Keeps No w1 W2 := by rw [hW2]; exact (keeps_alloc _ _).setRow _ _ (fun h => by omega)
  have hb7 := hk2.heap (HK1.out.heap (heap_alloc_new W _) (by rintro (h | h); have := heap_lt HL.out.cu.heap; omega; have := own_lt HL.out.cu.own _ h; omega)) (fun h => h)
  have hs1 := HK1.out.size
  simp at hs1
  have HHH := Lib.hid HPK.out.1.leaf.hash
  have x0 : W2.cell? ⟨w1.heap.size, 0, none⟩ = some (.string ⟨#[]⟩) := cell_at hb8 (by rw [HX.out]; simp [kidV, HPK.out.1.name])
  have x1 : W2.cell? ⟨w1.heap.size, 1, none⟩ = some (.bool false) := cell_at hb8 (by rw [HX.out]; simp [kidV, HPK.out.1.dir])
  have x35 : W2.cell? ⟨w1.heap.size, 35, none⟩ = some (.int .u32 k.size) := cell_at hb8 (by rw [HX.out]; exact kid35 k HHH.out)
  have z0 := frozen_of_heap hb8 0
  have z1 := frozen_of_heap hb8 1
  have z35 := frozen_of_heap hb8 35
  have y0 := cell_of_heap hb7 0
  have y1 := cell_of_heap hb7 1
  have y2 := cell_of_heap hb7 2
  simp at y0 y1 y2
  have wd : IntKind.u32.wrap (d0.size : Int) = d0.size := by have := HD.out; rw [IntKind.wrap_u32]; omega
  have hne : W.heap.size ≠ w1.heap.size := by omega
  have HW2 := Lib.hid hW2; clear hW2
  have HB8 := Lib.hid hb8; clear hb8
  have HB7 := Lib.hid hb7; clear hb7
  have HK2 := Lib.hid hk2; clear hk2
  clear e0 e1 e2 e3
  try go_frame
  go_region_held3 (fun w' => w'.cell? ⟨W.heap.size, 0, none⟩ = some (.string n0) ∧ w'.cell? ⟨W.heap.size, 1, none⟩ = some (.bool false) ∧ w'.cell? ⟨W.heap.size, 2, none⟩ = some (.string d0)) (first | exact ⟨y0, y1, y2⟩ | exact ⟨setaway y0 hne, setaway y1 hne, setaway y2 hne⟩ | exact ⟨setaway (setaway y0 hne) hne, setaway (setaway y1 hne) hne, setaway (setaway y2 hne) hne⟩ | exact ⟨setaway (setaway (setaway y0 hne) hne) hne, setaway (setaway (setaway y1 hne) hne) hne, setaway (setaway (setaway y2 hne) hne) hne⟩) (fail)
  obtain ⟨Y, hY⟩ : ∃ Y, Y = kidV ⟨n0, false, k.hash, 0, d0.size⟩ := ⟨_, rfl⟩
  have hset := sets_name k HHH.out HPK.out.1.leaf.low n0 d0.size
  rw [← HX.out, ← hY] at hset
  have hy1 : Y.length = 36 := by rw [hY]; exact kidV_length _ HHH.out
  have hy2 : ∀ u ∈ Y, u.oneCell' = true := by rw [hY]; exact kidV_one _
  have HY := Lib.hid hY; clear hY
  obtain ⟨W3, hW3⟩ : ∃ W3, W3 = (((W2.setCell ⟨w1.heap.size, 0, none⟩ (.string n0)).setCell ⟨w1.heap.size, 1, none⟩ (.bool false)).setCell ⟨w1.heap.size, 35, none⟩ (.int .u32 d0.size)).drew := ⟨_, rfl⟩
  rw [← hW3]
  have hk3 : Keeps (fun k => k = w1.heap.size) W2 W3 := by rw [hW3]; exact keeps_sets3 _ _ _ _ _
  have hb3 : W3.heap[w1.heap.size]? = some (.cells Y.toArray 146) := by
    rw [hW3, ← hset]
    exact heap_sets3 _ _ _ HB8.out
  have hk1W : Keeps (fun k => k = x ∨ v.ownBlock = some k) W w1 := (keeps_alloc W _).trans HK1.out (fun _ _ h => h.elim) (fun _ _ h => h)
  have hkW3 : Keeps (fun k => k = x ∨ v.ownBlock = some k) W W3 := (hk1W.trans HK2.out (U := fun k => k = x ∨ v.ownBlock = some k) (fun _ _ h => h) (fun _ _ h => h.elim)).trans hk3 (fun _ _ h => h) (fun i hi h => by omega)
  have hfW : Fresh W v v' := HF1.out.imp id (fun h k hk => by have := h k hk; simp at this; omega)
  have hcu3 : Cu W3 x v' (outs ++ [⟨(1 :: bl d0).toArray⟩]) := (HCU.out.no HK2.out).keeps hk3 (fun h => by have := heap_lt HCU.out.heap; omega) (fun b hb h => by have := own_lt HCU.out.own b hb; omega)
  have hC3 := hkW3.heap HL.out.cell (by rintro (h | h); exact HL.out.xC h.symm; exact HL.out.vC h)
  have hrow3 := Own.keeps HL.out.row hkW3 (fun b hb => by rintro (h | h); exact HL.out.lx (h ▸ hb); exact HL.out.lv b hb h)
  have c0 := cell_of_heap hC3 2
  simp at c0
  have hra3 := range_block hb3
  have hka : Keeps No W3 (W3.alloc (.cells Y.toArray 146)) := keeps_alloc _ _
  have hown := Lib.hid (Own.keeps hrow3 hka (fun _ _ h => h))
  have hsrc : Src Tryd.prog 36 100 (.slice (some ⟨W3.heap.size, 0, none⟩) 1 1) 1 Y (W3.alloc (.cells Y.toArray 146)) :=
    Rd.src Tryd.underlying100 (rd_block (heap_alloc_new W3 _) 36 1 1 Y (by rw [hy1]) (Nat.le_refl _) (fun j u hj => by simpa using hj)) hy2
  have HS := Lib.hid hsrc; clear hsrc
  have HC3 := Lib.hid hC3; clear hC3
  have HRA3 := Lib.hid hra3; clear hra3
  have HB3 := Lib.hid hb3; clear hb3
  have HK3 := Lib.hid hkW3; clear hkW3
  have HCU3 := Lib.hid hcu3; clear hcu3
  have HFW := Lib.hid hfW; clear hfW
  obtain ⟨ie, z, hie, hz0, hz1, hz2, hz3⟩ := info_parts146
  clear hW3 hk3 hk1W hset hrow3 x0 x1 x35 z0 z1 z35 y0 y1 y2 wd
  go_wp2_with (first | (refine wpList_load_mid rfl 146 _ rfl w1.heap.size 0 (by rfl) Y _ HRA3.out Tryd.underlying146 rfl (by rw [hy1]; exact Tryd.size146) ?_) | (refine wpList_build1 rfl 100 146 _ rfl Y (by rfl) ie z Tryd.underlying100 hie hz0 (by rw [hz1, hy1]) (by omega) (by omega) ?_) | (refine wpList_append_any rfl _ _ 100 100 rfl 146 ie z 36 56 Tryd.underlying100 hie hz0 hz1 hz2 hz3 (by decide) lv kn K (by rfl) hown.out _ 1 Y (by rfl) HS.out (by unfold maxLen; omega) (by omega) ?_; intro ao cp w6 ho6 hk6 _ hat6; have hc6 := hk6.heap (hka.heap HC3.out (fun h => h)) HL.out.lC; have hcc := cell_of_heap hc6 2; have hff := frozen_of_heap hc6 2; simp at hcc; have HO6 := Lib.hid ho6; clear ho6; have HK6 := Lib.hid hk6; clear hk6; have HAT := Lib.hid hat6; clear hat6; clear hc6))
  refine HQ.out _ _ _ _ _ _ _ _ _ _ _ _ _ _ _ _ _ _ _ _ _ _ _ _ _ _ _ _ ?_
  exact dv_close HL.out HHH.out HCU3.out HK3.out HFW.out HK6.out (by rw [← HY.out]; exact HO6.out) (by simpa using HAT.out)

set_option maxRecDepth 20000 in
set_option maxHeartbeats 1600000 in
theorem node_round1 (x C kb : Nat) (v lv : Value) (outs : List ByteArray) (kn : Nat) (K : List Value) (n0 d0 n1 d1 : ByteArray) (W : World) (Q : Exit → Act → World → Prop) (s1 s2 s3 s4 s6 s7 s8 s9 s10 s11 s12 s13 s14 s15 s16 s17 s19 s21 s22 s23 s24 s25 s26 s27 s28 s29 s30 s31 s32 s33 s34 s35 s36 s37 s38 s39 s40 s41 s42 s43 s44 s45 s46 s47 s48 s49 s50 : Value) (hl : Dv W x v outs C lv kn K) (hkb : W.heap[kb]? = some (.cells (nodes2 n0 d0 n1 d1) 67))
    (hk : KTab W) (hf : KFirst W) (hx : 3 < x) (hv : ∀ k, v.ownBlock = some k → 3 < k) (hd : d1.size ≤ 240) (hol : outs.length < 700) (hkn : kn < 100)
    (hQ : ∀ r7 r8 r22 r23 r24 r25 r26 r27 r28 r29 r30 r31 r32 r33 r34 r35 r36 r37 r38 r39 r40 r41 r42 r43 r44 r45 r46 W', DvPost W x v outs C lv kn K ⟨(1 :: bl d1).toArray⟩ n1 d1.size W' → Q .normal { tmps := #[.pointer (some ⟨x, 0, none⟩), s1, s2, s3, s4, .pointer (some ⟨C, 0, none⟩), s6, r7, r8, s9, s10, s11, s12, s13, s14, s15, s16, s17, .slice (some ⟨kb, 0, none⟩) 2 2, s19, .int .i64 1, s21, r22, r23, r24, r25, r26, r27, r28, r29, r30, r31, r32, r33, r34, r35, r36, r37, r38, r39, r40, r41, r42, r43, r44, r45, r46, s47, s48, s49, s50], defers := [] } W') :
    nodeB.wp Tryd.prog Q { tmps := #[.pointer (some ⟨x, 0, none⟩), s1, s2, s3, s4, .pointer (some ⟨C, 0, none⟩), s6, s7, s8, s9, s10, s11, s12, s13, s14, s15, s16, s17, .slice (some ⟨kb, 0, none⟩) 2 2, s19, .int .i64 1, s21, s22, s23, s24, s25, s26, s27, s28, s29, s30, s31, s32, s33, s34, s35, s36, s37, s38, s39, s40, s41, s42, s43, s44, s45, s46, s47, s48, s49, s50], defers := [] } W := by
  conv => arg 2; whnf
  have e0 := cell_of_heap hkb 4
  have e1 := cell_of_heap hkb 5
  have e2 := cell_of_heap hkb 6
  have e3 := cell_of_heap hkb 7
  simp [nodes2] at e0 e1 e2 e3
  have HL := Lib.hid hl; clear hl
  have HK := Lib.hid hk; clear hk
  have HF := Lib.hid hf; clear hf
  have HV := Lib.hid hv; clear hv
  have HD := Lib.hid hd; clear hd
  have HQ := Lib.hid hQ; clear hQ hkb
  go_wp2_with (first | (go_at_call 75; refine (node_small x v outs d1 _ (HL.out.cu.no (keeps_alloc _ _)) (HK.out.keeps (keeps_alloc _ _) (fun h => h)) (HF.out.keeps (keeps_alloc _ _) (fun h => h)) hx HV.out HD.out (by omega)).mono ?_; rintro e w1 ⟨k, v', hpk, rfl, hcu, hk1, hf1⟩; obtain ⟨X, hX⟩ : ∃ X, X = kidV k := ⟨_, rfl⟩; have hx1 : X.length = 36 := (by rw [hX]; exact kidV_length _ hpk.1.leaf.hash); have hx2 : ∀ u ∈ X, u.oneCell' = true := (by rw [hX]; exact kidV_one _); rw [← hX]; have HX := Lib.hid hX; clear hX; have HPK := Lib.hid hpk; clear hpk; have HCU := Lib.hid hcu; clear hcu; have HK1 := Lib.hid hk1; clear hk1; have HF1 := Lib.hid hf1; clear hf1) | (refine wpList_store_row rfl 146 _ _ rfl w1.heap.size X.toArray (by rfl) (by rfl) 146 _ (heap_alloc_new _ _) (by simp only [List.size_toArray]; rw [hx1]; exact Tryd.size146) (by simp only [List.size_toArray]; rw [hx1]; rfl) (all_oneCell_toArray hx2) ?_))
  obtain ⟨W2, hW2⟩ : ∃ W2, W2 = (w1.alloc (.cells zero36 146)).setRow w1.heap.size X.toArray := ⟨_, rfl⟩
  unfold zero36 at hW2
  rw [← hW2]
  have hb8 : W2.heap[w1.heap.size]? = some (.cells X.toArray 146) := by rw [hW2]; exact setRow_heap _ _ _ _ _ _ (heap_alloc_new _ _)
  have hk2 : Keeps No w1 W2 := by rw [hW2]; exact (keeps_alloc _ _).setRow _ _ (fun h => by omega)
  have hb7 := hk2.heap (HK1.out.heap (heap_alloc_new W _) (by rintro (h | h); have := heap_lt HL.out.cu.heap; omega; have := own_lt HL.out.cu.own _ h; omega)) (fun h => h)
  have hs1 := HK1.out.size
  simp at hs1
  have HHH := Lib.hid HPK.out.1.leaf.hash
  have x0 : W2.cell? ⟨w1.heap.size, 0, none⟩ = some (.string ⟨#[]⟩) := cell_at hb8 (by rw [HX.out]; simp [kidV, HPK.out.1.name])
  have x1 : W2.cell? ⟨w1.heap.size, 1, none⟩ = some (.bool false) := cell_at hb8 (by rw [HX.out]; simp [kidV, HPK.out.1.dir])
  have x35 : W2.cell? ⟨w1.heap.size, 35, none⟩ = some (.int .u32 k.size) := cell_at hb8 (by rw [HX.out]; exact kid35 k HHH.out)
  have z0 := frozen_of_heap hb8 0
  have z1 := frozen_of_heap hb8 1
  have z35 := frozen_of_heap hb8 35
  have y0 := cell_of_heap hb7 0
  have y1 := cell_of_heap hb7 1
  have y2 := cell_of_heap hb7 2
  simp at y0 y1 y2
  have wd : IntKind.u32.wrap (d1.size : Int) = d1.size := by have := HD.out; rw [IntKind.wrap_u32]; omega
  have hne : W.heap.size ≠ w1.heap.size := by omega
  have HW2 := Lib.hid hW2; clear hW2
  have HB8 := Lib.hid hb8; clear hb8
  have HB7 := Lib.hid hb7; clear hb7
  have HK2 := Lib.hid hk2; clear hk2
  clear e0 e1 e2 e3
  try go_frame
  go_region_held3 (fun w' => w'.cell? ⟨W.heap.size, 0, none⟩ = some (.string n1) ∧ w'.cell? ⟨W.heap.size, 1, none⟩ = some (.bool false) ∧ w'.cell? ⟨W.heap.size, 2, none⟩ = some (.string d1)) (first | exact ⟨y0, y1, y2⟩ | exact ⟨setaway y0 hne, setaway y1 hne, setaway y2 hne⟩ | exact ⟨setaway (setaway y0 hne) hne, setaway (setaway y1 hne) hne, setaway (setaway y2 hne) hne⟩ | exact ⟨setaway (setaway (setaway y0 hne) hne) hne, setaway (setaway (setaway y1 hne) hne) hne, setaway (setaway (setaway y2 hne) hne) hne⟩) (fail)
  obtain ⟨Y, hY⟩ : ∃ Y, Y = kidV ⟨n1, false, k.hash, 0, d1.size⟩ := ⟨_, rfl⟩
  have hset := sets_name k HHH.out HPK.out.1.leaf.low n1 d1.size
  rw [← HX.out, ← hY] at hset
  have hy1 : Y.length = 36 := by rw [hY]; exact kidV_length _ HHH.out
  have hy2 : ∀ u ∈ Y, u.oneCell' = true := by rw [hY]; exact kidV_one _
  have HY := Lib.hid hY; clear hY
  obtain ⟨W3, hW3⟩ : ∃ W3, W3 = (((W2.setCell ⟨w1.heap.size, 0, none⟩ (.string n1)).setCell ⟨w1.heap.size, 1, none⟩ (.bool false)).setCell ⟨w1.heap.size, 35, none⟩ (.int .u32 d1.size)).drew := ⟨_, rfl⟩
  rw [← hW3]
  have hk3 : Keeps (fun k => k = w1.heap.size) W2 W3 := by rw [hW3]; exact keeps_sets3 _ _ _ _ _
  have hb3 : W3.heap[w1.heap.size]? = some (.cells Y.toArray 146) := by
    rw [hW3, ← hset]
    exact heap_sets3 _ _ _ HB8.out
  have hk1W : Keeps (fun k => k = x ∨ v.ownBlock = some k) W w1 := (keeps_alloc W _).trans HK1.out (fun _ _ h => h.elim) (fun _ _ h => h)
  have hkW3 : Keeps (fun k => k = x ∨ v.ownBlock = some k) W W3 := (hk1W.trans HK2.out (U := fun k => k = x ∨ v.ownBlock = some k) (fun _ _ h => h) (fun _ _ h => h.elim)).trans hk3 (fun _ _ h => h) (fun i hi h => by omega)
  have hfW : Fresh W v v' := HF1.out.imp id (fun h k hk => by have := h k hk; simp at this; omega)
  have hcu3 : Cu W3 x v' (outs ++ [⟨(1 :: bl d1).toArray⟩]) := (HCU.out.no HK2.out).keeps hk3 (fun h => by have := heap_lt HCU.out.heap; omega) (fun b hb h => by have := own_lt HCU.out.own b hb; omega)
  have hC3 := hkW3.heap HL.out.cell (by rintro (h | h); exact HL.out.xC h.symm; exact HL.out.vC h)
  have hrow3 := Own.keeps HL.out.row hkW3 (fun b hb => by rintro (h | h); exact HL.out.lx (h ▸ hb); exact HL.out.lv b hb h)
  have c0 := cell_of_heap hC3 2
  simp at c0
  have hra3 := range_block hb3
  have hka : Keeps No W3 (W3.alloc (.cells Y.toArray 146)) := keeps_alloc _ _
  have hown := Lib.hid (Own.keeps hrow3 hka (fun _ _ h => h))
  have hsrc : Src Tryd.prog 36 100 (.slice (some ⟨W3.heap.size, 0, none⟩) 1 1) 1 Y (W3.alloc (.cells Y.toArray 146)) :=
    Rd.src Tryd.underlying100 (rd_block (heap_alloc_new W3 _) 36 1 1 Y (by rw [hy1]) (Nat.le_refl _) (fun j u hj => by simpa using hj)) hy2
  have HS := Lib.hid hsrc; clear hsrc
  have HC3 := Lib.hid hC3; clear hC3
  have HRA3 := Lib.hid hra3; clear hra3
  have HB3 := Lib.hid hb3; clear hb3
  have HK3 := Lib.hid hkW3; clear hkW3
  have HCU3 := Lib.hid hcu3; clear hcu3
  have HFW := Lib.hid hfW; clear hfW
  obtain ⟨ie, z, hie, hz0, hz1, hz2, hz3⟩ := info_parts146
  clear hW3 hk3 hk1W hset hrow3 x0 x1 x35 z0 z1 z35 y0 y1 y2 wd
  go_wp2_with (first | (refine wpList_load_mid rfl 146 _ rfl w1.heap.size 0 (by rfl) Y _ HRA3.out Tryd.underlying146 rfl (by rw [hy1]; exact Tryd.size146) ?_) | (refine wpList_build1 rfl 100 146 _ rfl Y (by rfl) ie z Tryd.underlying100 hie hz0 (by rw [hz1, hy1]) (by omega) (by omega) ?_) | (refine wpList_append_any rfl _ _ 100 100 rfl 146 ie z 36 56 Tryd.underlying100 hie hz0 hz1 hz2 hz3 (by decide) lv kn K (by rfl) hown.out _ 1 Y (by rfl) HS.out (by unfold maxLen; omega) (by omega) ?_; intro ao cp w6 ho6 hk6 _ hat6; have hc6 := hk6.heap (hka.heap HC3.out (fun h => h)) HL.out.lC; have hcc := cell_of_heap hc6 2; have hff := frozen_of_heap hc6 2; simp at hcc; have HO6 := Lib.hid ho6; clear ho6; have HK6 := Lib.hid hk6; clear hk6; have HAT := Lib.hid hat6; clear hat6; clear hc6))
  refine HQ.out _ _ _ _ _ _ _ _ _ _ _ _ _ _ _ _ _ _ _ _ _ _ _ _ _ _ _ _ ?_
  exact dv_close HL.out HHH.out HCU3.out HK3.out HFW.out HK6.out (by rw [← HY.out]; exact HO6.out) (by simpa using HAT.out)

end Go.Proofs.YtpniohbjgpncmaaDoor
