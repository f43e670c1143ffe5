/- A range over a function whose iterator writes blocks of its own, and whose rounds all go on: conditions: none. -/
import Derived.Test.YtpniohbjgpncmaaDoorK
import Derived.RangeFuncNested
import Derived.RangeFuncLeaves
import Derived.OwnWalkIn
import Derived.Laws.Tables
namespace Go.Proofs.YtpniohbjgpncmaaDoor
open Go.RowKit

/-- What an iterator over xs owes: Own its blocks that it writes; the rounds write Sb. -/
def IterC {α : Type} (P : Program) (gf : Nat) (lb : Array Value) (encs : α → Array Value) (Own Sb : Nat → Prop) (xs : List α) (S : World → Prop) (w : World) : Prop :=
  ∀ (l : Nat) (J : List α → World → Prop) (W : World), Keeps No w W → (∀ s A B, J s A → Keeps Own A B → J s B) →
    (∀ pre x post W1, xs = pre ++ x :: post → J pre W1 → YieldAt Fence.wide 1 P l (encs x) W1 fun e W' => e = .returned (.bool true) ∧ J (pre ++ [x]) W' ∧ Keeps Sb W1 W') →
    J [] W → Calls P gf (#[.func (.yield l) #[] #[]] ++ lb) W fun e W' => (∃ v, e = .returned v) ∧ S W' ∧ J xs W'

def roundGoes {α : Type} (Sb : Nat → Prop) (I : List α → World → Prop) (xs : List α) (W : World) : Exit → Act → World → Prop
  | .normal, _, W' => Keeps Sb W W' ∧ I xs W'
  | _, _, _ => False

theorem keeps_putObj {S : Nat → Prop} (W : World) (l : Nat) (o : Obj) (h : S l) : Keeps S W (W.putObj l o) :=
  (Keeps.of_grownBy (grownBy_putObj' W l o)).mono fun k _ e => by cases e; exact h

theorem wp_range_own {α : Type} {P : Program} {g : Operand} {ps : Array Tmp} {assign body : Code} {Q : Exit → Act → World → Prop} {a : Act} {w : World}
    {gf : Nat} {lb : Array Value} (hg : a.eval g = .func (.func gf) #[] lb) (eg : ∀ args w, (callFunc gf args).run P w = .ok (.enter gf args) w)
    {encs : α → Array Value} {Own Cb : Nat → Prop} {xs : List α} {S : World → Prop} (hOwn : ∀ k, Own k → k < w.heap.size)
    (hit : IterC P gf lb encs Own (fun k => Cb k ∨ w.heap.size ≤ k) xs S w) (hps : ∀ x, (encs x).size = ps.size)
    (I : List α → World → Prop) (hI : ∀ s A B, I s A → Keeps (fun k => Own k ∨ k = w.heap.size ∨ k = w.heap.size + 1) A B → I s B)
    (hCb : ∀ k, Cb k → k < w.heap.size) (hS : ∀ A B, S A → Keeps (fun k => k = w.heap.size + 1) A B → S B) (h0 : I [] w) (Ax : α → Act → World → Prop) (hAx : ∀ x a' A B, Ax x a' A → Keeps (fun k => k = w.heap.size + 1) A B → Ax x a' B)
    (hassign : ∀ (l : Nat) (x : α) (W : World) (K : Act → World → Prop), x ∈ xs → w.heap.size + 1 < W.heap.size → (∀ a' W', Keeps No W W' → Ax x a' W' → K a' W') →
      assign.wpIn (Fence.wide.inRound l) 1 P (Exit.then K (fun _ _ _ => False)) { tmps := (ps.zip (encs x)).foldl (fun t (p, v) => t.setIfInBounds p v) a.tmps, defers := [] } W)
    (hbody : ∀ (l : Nat) (pre : List α) (x : α) (post : List α) (a' : Act) (W : World), xs = pre ++ x :: post → I pre W → Ax x a' W →
      body.wpIn (Fence.wide.inRound l) 1 P (roundGoes (fun k => Cb k ∨ w.heap.size + 1 < k) I (pre ++ [x]) W) a' W)
    (hdone : ∀ (W : World), S W → I xs W → W.heap[w.heap.size]? = some (.deferred (some [])) → Q .normal { a with defers := { target := .collected w.heap.size, args := #[] } :: a.defers } W) :
    (Code.rangeFunc g ps assign body).wp P Q a w := by
  refine wpIn_wide (n := 2).1 (wpIn_rangeFunc ?_)
  intro fn hfn
  obtain ⟨rec, hrec⟩ : ∃ rec : LoopState → Option Code → Loop, rec = fun st pe => { state := st, pending := pe, fn, tmps := a.tmps, params := ps, assign, body, defers := w.heap.size } := ⟨_, rfl⟩
  obtain ⟨W1, hW1⟩ : ∃ W1, (w.alloc (.deferred (some []))).alloc (.loop (rec .ready none)) = W1 := ⟨_, rfl⟩
  have hL1 : W1.heap[w.heap.size + 1]? = some (.loop (rec .ready none)) := by
    rw [← hW1]; have := World.alloc_heap_new (w.alloc (.deferred (some []))) (.loop (rec .ready none)); rwa [World.size_alloc] at this
  have hK1 : W1.heap[w.heap.size]? = some (.deferred (some [])) := by
    rw [← hW1]; exact (Below.heap_alloc _ _ _ (by simp)).trans (World.alloc_heap_new w _)
  have hk1 : Keeps No w W1 := by rw [← hW1]; exact ((Keeps.refl No w).alloc _).alloc _
  refine ⟨w.heap.size + 1, [{ target := .collected w.heap.size, args := #[] }], W1, { target := .fn (.func gf) lb, args := #[.func (.yield (w.heap.size + 1)) #[] #[]] }, W1, gf,
    #[.func (.yield (w.heap.size + 1)) #[] #[]] ++ lb, W1, ?_, ?_, fun _ _ => trivial, ?_, fun h => by simp [Fence.wide] at h, ?_⟩
  · rw [← hW1, hrec]; exact run_enterLoop_outer _ _ _ _ _
  · simp only [resolve, hg]
    simp [go_sem]
  · simp [invoke, go_sem, eg]
  refine callsIn_wide.2 ((hit (w.heap.size + 1) (fun pre W => I pre W ∧ W.heap[w.heap.size + 1]? = some (.loop (rec .ready none)) ∧ W.heap[w.heap.size]? = some (.deferred (some []))) W1 hk1 ?_ ?_ ⟨hI _ _ _ h0 (hk1.mono fun _ _ h => h.elim), hL1, hK1⟩).mono ?_)
  · rintro s A B ⟨h1, h2, h3⟩ hk
    exact ⟨hI _ _ _ h1 (hk.mono fun _ _ h => .inl h), hk.heap h2 (fun h => by have := hOwn _ h; omega), hk.heap h3 (fun h => by have := hOwn _ h; omega)⟩
  · rintro pre x post W hx ⟨hi, hl, hd⟩
    have hy := run_yield (P := P) (args := encs x) hl (by rw [hrec]; exact hps x)
    rw [hrec] at hy
    refine ⟨fn, _, assign, body, hy, roundIn_of_wpIn hfn (hassign _ x W _ (by rw [hx]; simp) (heap_lt hl) fun a' Wa hka hxa => ?_)⟩
    have hla := hka.heap hl (fun h => h)
    have hda := hka.heap hd (fun h => h)
    have hlt := heap_lt hla
    refine ⟨_, run_beginRound hla (by rw [hrec]), ?_⟩
    obtain ⟨W2, hW2⟩ : ∃ W2, W2 = Wa.putObj (w.heap.size + 1) (.loop { rec .ready none with state := .busy }) := ⟨_, rfl⟩
    have hl2 : W2.heap[w.heap.size + 1]? = some (.loop { rec .ready none with state := .busy }) := by rw [hW2]; exact World.putObj_heap_same hlt
    have hd2 : W2.heap[w.heap.size]? = some (.deferred (some [])) := by rw [hW2]; exact (World.putObj_heap_other (by omega)).trans hda
    have hk2 : Keeps (fun k => k = w.heap.size + 1) W W2 := by rw [hW2]; exact hka.trans (keeps_putObj (S := fun k => k = w.heap.size + 1) Wa _ _ rfl) (fun _ _ h => h.elim) (fun _ _ h => h)
    rw [← hW2]
    have hi2 : I pre W2 := hI _ _ _ hi (hk2.mono fun _ _ h => .inr (.inr h))
    refine wpIn_mono (hbody _ pre x post a' W2 hx hi2 (hAx _ _ _ _ hxa (by rw [hW2]; exact keeps_putObj Wa _ _ rfl))) ?_
    rintro e a3 W3 hp
    cases e with
    | normal =>
      obtain ⟨hk3, hi3⟩ := hp
      have hn1 : ¬ (Cb (w.heap.size + 1) ∨ w.heap.size + 1 < w.heap.size + 1) := by rintro (h | h); have := hCb _ h; omega; omega
      have hn2 : ¬ (Cb w.heap.size ∨ w.heap.size + 1 < w.heap.size) := by rintro (h | h); have := hCb _ h; omega; omega
      have hl3 := hk3.heap hl2 hn1
      have hd3 := hk3.heap hd2 hn2
      have hend := run_endRound (P := P) none hl3
      rw [hrec] at hl3 hend
      refine ⟨_, _, hend, rfl, ⟨hI _ _ _ hi3 (keeps_putObj _ _ _ (.inr (.inr rfl))), ?_, (World.putObj_heap_other (by omega)).trans hd3⟩, ?_⟩
      · rw [hrec]; exact World.putObj_heap_same (heap_lt hl3)
      · refine (hk2.trans hk3 (U := fun k => Cb k ∨ w.heap.size ≤ k) (fun i _ h => .inr (by omega)) (fun i _ h => h.imp id (fun h => by omega))).trans (keeps_putObj (S := fun k => k = w.heap.size + 1) W3 _ _ rfl) (fun _ _ h => h) (fun i _ h => .inr (by omega))
    | _ => exact hp.elim
  · rintro e W2 ⟨⟨v, rfl⟩, hs, hi, hl, hd⟩
    have hend := run_endLoop (P := P) hl (by rw [hrec]; simp)
    rw [hrec] at hend
    refine ⟨none, _, hend, hdone _ (hS _ _ hs (keeps_putObj _ _ _ rfl)) (hI _ _ _ hi (keeps_putObj _ _ _ (.inr (.inr rfl)))) ((World.putObj_heap_other (by omega)).trans hd)⟩
theorem in_load_row {F : Fence} {n : Nat} {P : Program} {ops : Array Oper} {rest : List Oper} {o : Oper} {a : Act} {w : World} {Q : Exit → Act → World → Prop} (hw : Region.wanted o (yielded ops a.tmps) = true) (ty : TypeId) (x : Operand) (ho : o.op = .load ty x)
    (g : Nat) (hx : a.eval x = .pointer (some ⟨g, 0, none⟩)) (t : TypeId) (cs : Array Value) (fr : Nat × Nat) (d : TypeDesc) (hg : w.heap[g]? = some (.cells cs t fr))
    (hu : P.underlying ty = some d) (hd : (match d with | .struct _ | .array _ _ => true | _ => false) = true) (hi : (P.info? ty).map (·.size) = some cs.size)
    (h : wpListIn F n P ops Q rest (a.put o.dst (.agg cs)) w) : wpListIn F n P ops Q (o :: rest) a w := by
  simp only [wpListIn, hw, if_true, Oper.wpIn]
  refine ⟨by simp [Oper.about, ho], ?_⟩
  rw [Oper.semAt_plain F _ _ (by rw [ho]; intro c hc'; cases hc')]
  unfold execOp
  simp only [ho, hx, Instr.loadAt, Instr.sureAddr, Sem.run_bind, Sem.run_pure, Result.andThen_ok, run_loadVar_row w g t ty cs fr d hg hu hd hi]
  exact h
theorem in_store_row {F : Fence} {n : Nat} {P : Program} {ops : Array Oper} {rest : List Oper} {o : Oper} {a : Act} {w : World} {Q : Exit → Act → World → Prop} (hw : Region.wanted o (yielded ops a.tmps) = true) (ty : TypeId) (x y : Operand) (ho : o.op = .store ty x y)
    (g : Nat) (cells : Array Value) (hx : a.eval x = .pointer (some ⟨g, 0, none⟩)) (hy : a.eval y = .agg cells)
    (t : TypeId) (old : Array Value) (hg : w.heap[g]? = some (.cells old t (0, 0))) (hi : (P.info? ty).map (·.size) = some cells.size)
    (hold : old.size = cells.size) (h1 : cells.all (·.oneCell') = true)
    (h : wpListIn F n P ops Q rest (a.put o.dst undef) (w.setRow g cells)) : wpListIn F n P ops Q (o :: rest) a w := by
  simp only [wpListIn, hw, if_true, Oper.wpIn]
  refine ⟨by simp [Oper.about, ho], ?_⟩
  rw [Oper.semAt_plain F _ _ (by rw [ho]; intro c hc'; cases hc')]
  unfold execOp
  simp only [ho, hx, hy, Instr.storeAt, Instr.sureAddr, Sem.run_bind, Sem.run_pure, Result.andThen_ok, run_storeVar_row w g t ty old cells hg hi hold h1]
  exact h
theorem in_append {F : Fence} {n : Nat} {P : Program} {ops : Array Oper} {rest : List Oper} {o : Oper} {a : Act} {w : World} {Q : Exit → Act → World → Prop} (hg : o.guard = none) (s xo : Operand) (t tx : TypeId)
    (hop : o.op = Op.call { callee := Callee.builtin Builtin.append, args := #[s, xo], argTypes := #[t, tx] }) (e : TypeId) (i : TypeInfo) (z : Value) (size bytes : Nat) (h1 : P.underlying t = some (.slice e)) (h2 : P.info? e = some i) (h3 : i.zero = some z) (h4 : i.size = size) (h5 : i.bytes = bytes) (h6 : z.cells.size = size) (h7 : 0 < size)
    (v : Value) (k : Nat) (xs : List Value) (hs : a.eval s = v) (hown : w.ownsRow 0 e size v k xs) (x : Value) (m : Nat) (news : List Value) (hx : a.eval xo = x) (hsrc : Src P size tx x m news w) (b1 : k + m ≤ maxLen) (b2 : (k + m) * bytes ≤ 140737488355328)
    (hK : ∀ ao cp w', w'.ownsRow 0 e size (.slice ao (k + m) cp) (k + m) (xs ++ news) → Keeps (fun b => v.ownBlock = some b) w w' → ((Value.slice ao (k + m) cp).ownBlock = v.ownBlock ∨ (Value.slice ao (k + m) cp).ownBlock = some w.heap.size) →
      wpListIn F n P ops Q rest (a.put o.dst (.slice ao (k + m) cp)) w') :
    wpListIn F n P ops Q (o :: rest) a w := by
  refine wpListIn_plain hg fun K hK' => ?_
  obtain ⟨v', w', hrun, r1, r2, _, r4⟩ := run_append_any (P := P) w 0 t tx o.type e i z size bytes h1 h2 h3 h4 h5 h6 h7 v k xs hown x m news hsrc b1 b2 (Nat.zero_le _)
  obtain ⟨ao, cp, rfl⟩ := own_form r1
  unfold Oper.wpIn
  refine ⟨?_, ?_⟩
  · simp [Oper.about, hop, resolve, Target.leads, Sem.run_pure]
  · rw [Oper.semAt_plain F _ _ (by rw [hop]; intro c hc'; cases hc')]
    simp [execOp, hop, resolve, invoke, builtin, hs, hx, hrun, Result.andThen]
    exact hK' _ _ (hK ao cp w' r1 r2 r4)
end Go.Proofs.YtpniohbjgpncmaaDoor
