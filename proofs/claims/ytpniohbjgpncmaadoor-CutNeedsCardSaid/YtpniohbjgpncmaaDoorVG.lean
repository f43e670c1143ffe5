/- cut: a level of kids beside a cutter: conditions: their blocks lie apart. -/
import Derived.Test.YtpniohbjgpncmaaDoorVF
import Derived.Test.YtpniohbjgpncmaaDoorS6
import Derived.Outline
namespace Go.Proofs.YtpniohbjgpncmaaDoor
open Go.RowKit
attribute [local go_sem] Oper.semAt_some

theorem info146 : (Tryd.prog.info? 146).map (fun i => (i.size, i.bytes)) = some (36, 56) := by kernel_rfl
theorem info_parts146 : ∃ ie z, Tryd.prog.info? 146 = some ie ∧ ie.zero = some z ∧ ie.size = 36 ∧ ie.bytes = 56 ∧ z.cells.size = 36 := by
  have h := info146
  have hz := z146
  cases hi : Tryd.prog.info? 146 with
  | none => rw [hi] at h; simp at h
  | some ie =>
    rw [hi] at h hz
    cases hzz : ie.zero with
    | none => simp [hzz] at hz
    | some z =>
      simp [hzz] at hz
      simp at h
      exact ⟨ie, z, rfl, hzz, h.1, h.2, by rw [hz]; rfl⟩
/-- A one-element slice is built, as one step of a region that draws. -/
theorem step_build1 {P : Program} {w : World} {ops : Array Oper} {o : Oper} {a : Act} {K : Act → World → Prop} {Q : Exit → Act → World → Prop} {E : Prop} (hg : o.guard = none) (t e : TypeId) (x : Operand) (ho : o.op = .buildSlice t 1 #[(0, x)])
    (X : List Value) (hx : a.eval x = .agg X.toArray) (ie : TypeInfo) (z : Value) (hu : P.underlying t = some (.slice e)) (hie : P.info? e = some ie) (hz : ie.zero = some z) (hs : ie.size = X.length) (h1 : X.length ≤ 2 ^ 24) (h0 : 0 < X.length)
    (h : K (a.put o.dst (.slice (some ⟨w.heap.size, 0, none⟩) 1 1)) (w.alloc (.cells X.toArray e))) : if Region.wanted o (yielded ops a.tmps) = true then Oper.wp P o a w K Q else E := by
  have hw : Region.wanted o (yielded ops a.tmps) = true := by simp [Region.wanted, hg]
  rw [if_pos hw]
  unfold Oper.wp execOp
  have hf : Instr.fill (fun i => some (i * ie.size, ie.size)) ((Array.range (1 * ie.size)).map (z.cells[· % z.cells.size]!)) (#[(0, x)].map fun (i, x) => (i, a.eval x)).toList = some X.toArray := by
    have e : (#[(0, x)].map fun (i, x) => (i, a.eval x)).toList = [(0, .agg X.toArray)] := by simp [hx]
    rw [e]
    exact fill_one ie.size _ X (by simp) hs.symm
  simp only [ho, Sem.run_bind, run_buildSlice w t e 1 _ X.toArray ie z hu hie hz (by omega) (by omega) hf, Result.andThen_ok]
  exact h

/-- A cutter's rows v and the level lv in block C. -/
structure Lv (W : World) (x : Nat) (v : Value) (outs : List ByteArray) (C : Nat) (lv : Value) (kn : Nat) (K : List Value) : Prop where
  cu : Cu W x v outs
  cell : W.heap[C]? = some (.cells #[lv] 100)
  row : W.ownsRow 0 146 36 lv kn K
  lx : lv.ownBlock ≠ some x
  lC : lv.ownBlock ≠ some C
  lv : ∀ b, lv.ownBlock = some b → v.ownBlock ≠ some b
  vC : v.ownBlock ≠ some C
  xC : x ≠ C
def LvT (x : Nat) (v : Value) (C : Nat) (lv : Value) (k : Nat) : Prop := k = x ∨ v.ownBlock = some k ∨ k = C ∨ lv.ownBlock = some k
/-- The blocks of v' are those of v or are new. -/
def Fresh (W : World) (v v' : Value) : Prop := v'.ownBlock = v.ownBlock ∨ ∀ k, v'.ownBlock = some k → W.heap.size ≤ k
theorem Fresh.refl (W : World) (v : Value) : Fresh W v v := .inl rfl
theorem Fresh.trans {W W' : World} {v v' v'' : Value} (h : Fresh W v v') (h' : Fresh W' v' v'') (hs : W.heap.size ≤ W'.heap.size) : Fresh W v v'' := by
  rcases h' with h' | h'
  · unfold Fresh; rw [h']; exact h
  · exact .inr fun k hk => Nat.le_trans hs (h' k hk)
theorem Lv.keeps {S : Nat → Prop} {W W' : World} {x : Nat} {v : Value} {outs : List ByteArray} {C : Nat} {lv : Value} {kn : Nat} {K : List Value} (h : Lv W x v outs C lv kn K) (k : Keeps S W W') (h1 : ∀ i, LvT x v C lv i → ¬ S i) : Lv W' x v outs C lv kn K :=
  ⟨h.cu.keeps k (h1 x (.inl rfl)) (fun b hb => h1 b (.inr (.inl hb))), k.heap h.cell (h1 C (.inr (.inr (.inl rfl)))), Own.keeps h.row k (fun b hb => h1 b (.inr (.inr (.inr hb)))), h.lx, h.lC, h.lv, h.vC, h.xC⟩
def LvPost (W : World) (x : Nat) (v : Value) (outs : List ByteArray) (C : Nat) (lv : Value) (kn : Nat) (K : List Value) (s : ByteArray) (H S : Nat) (w' : World) : Prop := ∃ (h : List UInt8) (v' lv' : Value), h.length = 32 ∧ Lv w' x v' (outs ++ [s]) C lv' (kn + 1) (K ++ kidV (leafK h H S)) ∧
  Keeps (LvT x v C lv) W w' ∧ Fresh W v v' ∧ Fresh W lv lv'
theorem lv_close {W w1 w3 : World} {x : Nat} {v v' : Value} {outs : List ByteArray} {C : Nat} {lv : Value} {kn : Nat} {K : List Value} {s : ByteArray} {H S : Nat} {h : List UInt8} {a2 : Option Addr} {c2 : Nat} {o : Obj} (hL : Lv W x v outs C lv kn K) (hl : h.length = 32) (hc : Cu w1 x v' (outs ++ [s])) (hk1 : Keeps (fun k => k = x ∨ v.ownBlock = some k) W w1) (hf : Fresh W v v')
    (hk3 : Keeps (fun k => lv.ownBlock = some k) (w1.alloc o) w3) (ho : w3.ownsRow 0 146 36 (.slice a2 (kn + 1) c2) (kn + 1) (K ++ kidV (leafK h H S))) (hat : (Value.slice a2 (kn + 1) c2).ownBlock = lv.ownBlock ∨ (Value.slice a2 (kn + 1) c2).ownBlock = some (w1.alloc o).heap.size) :
    LvPost W x v outs C lv kn K s H S (w3.setCell ⟨C, 0, none⟩ (.slice a2 (kn + 1) c2)) := by
  have hxl := heap_lt hL.cu.heap
  have hCl := heap_lt hL.cell
  have hs1 := hk1.size
  have hka : Keeps No w1 (w1.alloc o) := keeps_alloc _ _
  have hC1 := hk1.heap hL.cell (by rintro (e | e); exact hL.xC e.symm; exact hL.vC e)
  have hC3 := hk3.heap (hka.heap hC1 (fun h => h)) hL.lC
  have hks : Keeps (fun k => k = C) w3 (w3.setCell ⟨C, 0, none⟩ (.slice a2 (kn + 1) c2)) := (Keeps.refl _ _).setCell _ _ (fun _ => rfl)
  have hv'l : ∀ b, v'.ownBlock = some b → b < w1.heap.size := fun b hb => own_lt hc.own b hb
  have hv'C : v'.ownBlock ≠ some C := by
    rcases hf with e | e
    · rw [e]; exact hL.vC
    · intro e2; have := e _ e2; omega
  have hlb : ∀ b, lv.ownBlock = some b → b < W.heap.size := fun b hb => own_lt hL.row b hb
  have hlv' : ∀ b, lv.ownBlock = some b → v'.ownBlock ≠ some b := fun b hb => by
    rcases hf with e | e
    · rw [e]; exact hL.lv b hb
    · intro e2; have := e _ e2; have := hlb b hb; omega
  have hsz : (w1.alloc o).heap.size = w1.heap.size + 1 := by simp
  have hnC : (Value.slice a2 (kn + 1) c2).ownBlock ≠ some C := by
    rcases hat with e | e
    · rw [e]; exact hL.lC
    · rw [e, hsz]; intro e2; simp at e2; omega
  refine ⟨h, v', .slice a2 (kn + 1) c2, hl, ⟨?_, by rw [heap_setCell_same _ hC3]; rfl, Own.keeps ho hks (fun b hb e => hnC (e ▸ hb)), ?_, hnC, ?_, hv'C, hL.xC⟩, ?_, hf, ?_⟩
  · exact (((hc.no hka).keeps hk3 hL.lx (fun b hb h => hlv' b h hb))).keeps hks hL.xC (fun b hb h => hv'C (h ▸ hb))
  · rcases hat with e | e
    · rw [e]; exact hL.lx
    · rw [e, hsz]; intro e2; simp at e2; omega
  · intro b hb
    rcases hat with e | e
    · rw [e] at hb; exact hlv' b hb
    · rw [e, hsz] at hb; intro e2; simp at hb; have := hv'l b e2; omega
  · exact ((hk1.trans hka (U := fun k => k = x ∨ v.ownBlock = some k) (fun _ _ h => h) (fun _ _ h => h.elim)).trans hk3 (U := LvT x v C lv) (fun i _ h => by rcases h with h | h; exact .inl h; exact .inr (.inl h)) (fun i _ h => .inr (.inr (.inr h)))).trans hks (fun i _ h => h) (fun i _ h => .inr (.inr (.inl h)))
  · rcases hat with e | e
    · exact .inl e
    · refine .inr fun k hk => ?_
      rw [e, hsz] at hk; simp at hk; omega
theorem lv_t1 {x : Nat} {v : Value} {C : Nat} {lv : Value} {W w1 : World} (h : Keeps (fun k => k = x ∨ v.ownBlock = some k) W w1) : Keeps (LvT x v C lv) W w1 := h.mono fun _ _ h => by rcases h with h | h; exact .inl h; exact .inr (.inl h)
end Go.Proofs.YtpniohbjgpncmaaDoor
