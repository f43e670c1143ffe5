/- Operations of a quiet region by their runs: conditions: none. -/
import Derived.Test.YtpniohbjgpncmaaDoorK
import Derived.BigQuiet
import Derived.Deep.MidRow
namespace Go.Proofs.YtpniohbjgpncmaaDoor
open Go.RowKit Go.BigFrame
section
variable {P : Program} {C : World → Prop} {a : Act} {o : Oper} {K : Act → Prop}
theorem quiet_run (v : Value) (hr : ∀ w, C w → (execOp a.eval o).run P w = .ok (.value v) w) (hk : K (a.put o.dst v)) : o.quiet P a C K :=
  ⟨v, fun w hw => by unfold Oper.quietAt; rw [hr w hw]; exact ⟨rfl, rfl⟩, hk⟩
theorem quiet_convert (s d : TypeId) (x : Operand) (ho : o.op = .convert s d x) (X v : Value) (hx : a.eval x = X) (hr : ∀ w, C w → (convert s d X).run P w = .ok v w) (hk : K (a.put o.dst v)) : o.quiet P a C K :=
  quiet_run v (fun w hw => by unfold execOp; simp only [ho, hx, Sem.run_bind, hr w hw, Result.andThen_ok, Sem.run_pure]) hk
theorem quiet_load_mid (ty : TypeId) (x : Operand) (ho : o.op = .load ty x) (b off : Nat) (hx : a.eval x = .pointer (some ⟨b, off, none⟩)) (cs : List Value) (d : TypeDesc) (hc : ∀ w, C w → w.rangeAt b off cs) (hu : P.underlying ty = some d) (hd : d.isRow = true) (hi : (P.info? ty).map (·.size) = some cs.length) (hk : K (a.put o.dst (.agg cs.toArray))) : o.quiet P a C K :=
  quiet_run _ (fun w hw => by
    unfold execOp
    simp only [ho, hx, Instr.loadAt, Instr.sureAddr, Sem.run_bind, Sem.run_pure, Result.andThen_ok, run_loadVar_mid w b off ty cs d (hc w hw) hu hd hi]) hk
theorem quiet_build (t : TypeId) (parts : Array (Nat × Operand)) (ho : o.op = .build t parts) (l : List (Nat × Value)) (hl : (parts.map fun (i, x) => (i, a.eval x)).toList = l) (cells : Array Value) (hf : P.built t l = some cells) (hk : K (a.put o.dst (.agg cells))) : o.quiet P a C K :=
  quiet_run _ (fun w _ => by
    unfold execOp
    subst hl
    simp only [ho, Sem.run_bind, run_build w t _ _ hf, Result.andThen_ok, Sem.run_pure]) hk
theorem quiet_bin (op : BinOp) (t t' : TypeId) (x y : Operand) (ho : o.op = .binOp op t x y t') (X Y v : Value) (hx : a.eval x = X) (hy : a.eval y = Y) (hr : ∀ w, Sem.run P (do eqGuard op t x y X Y; binOp op t X Y) w = .ok v w) (hk : K (a.put o.dst v)) : o.quiet P a C K :=
  quiet_run v (fun w _ => by
    unfold execOp
    simp only [ho, hx, hy]
    have := hr w
    simp only [Sem.run_bind, this, Result.andThen_ok, Sem.run_pure] at this ⊢) hk
end
end Go.Proofs.YtpniohbjgpncmaaDoor
