/- chunk: how many bytes of a file, and whether a child is plain: conditions: the children are leaves. -/
import Derived.Test.YtpniohbjgpncmaaDoorV5
import Derived.Stop.BytesEq
import Derived.Test.YtpniohbjgpncmaaDoorS4
namespace Go.Proofs.YtpniohbjgpncmaaDoor
open Go.RowKit

def eqF (d : Nat) (xs ys : Array Value) : List (Bool × TypeId × Nat) → Sem Bool
  | [] => pure true
  | (n, t, o) :: fs => if n = true then do
      let a ← part t xs o
      let b ← part t ys o
      let r ← Op.equalIn d t a b
      if (!r) = true then pure false else eqF d xs ys fs
    else eqF d xs ys fs
theorem eqFields_map (d : Nat) (xs ys : Array Value) : ∀ fs : List Field, Op.eqFields d xs ys fs = eqF d xs ys (fs.map fun f => (decide (f.name ≠ "_"), f.type, f.offset))
  | [] => rfl
  | f :: fs => by
    simp only [Op.eqFields, List.map_cons, eqF, eqFields_map d xs ys fs, decide_eq_true_eq]
theorem eqF_step {P : Program} (w : World) (d : Nat) (xs ys : Array Value) (t : TypeId) (o : Nat) (fs : List (Bool × TypeId × Nat)) (a b : Value) (r : Bool)
    (ha : (part t xs o).run P w = .ok a w) (hb : (part t ys o).run P w = .ok b w) (hr : (Op.equalIn d t a b).run P w = .ok r w) :
    (eqF d xs ys ((true, t, o) :: fs)).run P w = if r = true then (eqF d xs ys fs).run P w else .ok false w := by
  simp only [eqF, if_true, Sem.run_bind, ha, hb, hr, Result.andThen_ok]
  cases r <;> simp
theorem part_plain {P : Program} (w : World) (t : TypeId) (xs : Array Value) (o : Nat) (v : Value) (d : TypeDesc) (ht : P.underlying t = some d) (hd : (match d with | .struct _ | .array _ _ => false | _ => true) = true) (hv : xs[o]? = some v) :
    (part t xs o).run P w = .ok v w := by
  unfold part isAgg
  simp only [Sem.run_bind, run_underlying ht, Result.andThen_ok]
  cases d <;> simp_all
theorem part_row {P : Program} (w : World) (t : TypeId) (xs : Array Value) (o n e : Nat) (ht : P.underlying t = some (.array n e)) (hs : (P.info? t).map (·.size) = some n) :
    (part t xs o).run P w = .ok (.agg (xs.extract o (o + n))) w := by
  obtain ⟨ie, hie, hse⟩ : ∃ ie, P.info? t = some ie ∧ ie.size = n := by
    cases h : P.info? t with
    | none => rw [h] at hs; cases hs
    | some ie => rw [h] at hs; exact ⟨ie, rfl, by simpa using hs⟩
  unfold part isAgg
  simp [run_underlying ht, sizeOf, typeInfo, hie, hse]
theorem cell_bytesV (l : List UInt8) : (l.map Extern.Stop.cell).toArray = (bytesV l).toArray := rfl
theorem size_u8 (w : World) : (sizeOf 5).run Tryd.prog w = .ok 1 w := by kernel_rfl
theorem eq_hash (w : World) (d : Nat) (xs ys : List UInt8) (hx : xs.length = 32) (hy : ys.length = 32) : (Op.equalIn (d + 2) 70 (.agg (bytesV xs).toArray) (.agg (bytesV ys).toArray)).run Tryd.prog w = .ok (xs == ys) w :=
  run_equalIn_bytes w d 70 5 32 Tryd.underlying70 Tryd.underlying5 size_u8 xs ys hx hy
theorem flds146 : (Tryd.prog.fieldsOf 146).toList.map (fun f => (decide (f.name ≠ "_"), f.type, f.offset)) = [(true, 9, 0), (true, 4, 1), (true, 70, 2), (true, 5, 34), (true, 31, 35)] := by kernel_rfl
theorem und146 : Tryd.prog.underlying 146 = some (.struct (Tryd.prog.fieldsOf 146)) := by kernel_rfl
theorem stood146 : Tryd.prog.stoodInHeld 146 = false := by kernel_rfl
theorem extract_hash (k : KidD) (h : k.hash.length = 32) : (kidV k).toArray.extract 2 (2 + 32) = (bytesV k.hash).toArray := by
  apply Array.ext'
  simp [kidV, List.extract, List.drop, List.take_left' (by rw [bytesV_length, h] : (bytesV k.hash).length = 32)]
theorem eq_kid (w : World) (a : KidD) (ha : a.hash.length = 32) : (Op.equalIn 10000 146 (.agg (kidV a).toArray) (.agg (kidV a).toArray)).run Tryd.prog w = .ok true w := by
  rw [run_equalIn_struct w 9999 146 _ _ und146 stood146, eqFields_map, flds146]
  have e0 : (kidV a).toArray[0]? = some (.string a.name) := rfl
  have e1 : (kidV a).toArray[1]? = some (.bool a.dir) := rfl
  have e34 : (kidV a).toArray[34]? = some (.int .u8 a.height) := by simp [kidV, bytesV_length, ha]
  have e35 : (kidV a).toArray[35]? = some (.int .u32 a.size) := by simp [kidV, bytesV_length, ha]
  rw [eqF_step w 9999 _ _ 9 0 _ _ _ _ (part_plain w 9 _ 0 _ _ Tryd.underlying9 rfl e0) (part_plain w 9 _ 0 _ _ Tryd.underlying9 rfl e0) (run_equalIn_string w 9998 9 _ _ Tryd.underlying9), if_pos (by simp)]
  rw [eqF_step w 9999 _ _ 4 1 _ _ _ _ (part_plain w 4 _ 1 _ _ Tryd.underlying4 rfl e1) (part_plain w 4 _ 1 _ _ Tryd.underlying4 rfl e1) (run_equalIn_bool' w 9998 4 _ _ Tryd.underlying4), if_pos (by simp)]
  rw [eqF_step w 9999 _ _ 70 2 _ _ _ _ (part_row w 70 _ 2 32 5 Tryd.underlying70 Tryd.size70) (part_row w 70 _ 2 32 5 Tryd.underlying70 Tryd.size70) (by rw [extract_hash a ha]; exact eq_hash w 9997 _ _ ha ha), if_pos (by simp)]
  rw [eqF_step w 9999 _ _ 5 34 _ _ _ _ (part_plain w 5 _ 34 _ _ Tryd.underlying5 rfl e34) (part_plain w 5 _ 34 _ _ Tryd.underlying5 rfl e34) (run_equalIn_int w 9998 5 .u8 .u8 _ _ Tryd.underlying5), if_pos (by simp)]
  rw [eqF_step w 9999 _ _ 31 35 _ _ _ _ (part_plain w 31 _ 35 _ _ Tryd.underlying31 rfl e35) (part_plain w 31 _ 35 _ _ Tryd.underlying31 rfl e35) (run_equalIn_int w 9998 31 .u32 .u32 _ _ Tryd.underlying31), if_pos (by simp)]
  simp [eqF]
theorem guard146 : Tryd.prog.eqGuardType Tryd.prog.depth 146 = false := by kernel_rfl
theorem fold_one (k : IntKind) (a : Int) (n : Nat) (cs : Array Value) : (Value.int k a).cells.zipIdx.foldl (fun (cs : Array Value) (x : Value × Nat) => cs.setIfInBounds (n + x.2) x.1) cs = cs.setIfInBounds (n + 0) (.int k a) := rfl
def zero146 : Array Value := ([Value.string ⟨#[]⟩, Value.bool false] ++ List.replicate 32 (Value.int .u8 0) ++ [Value.int .u8 0, Value.int .u32 0]).toArray
theorem z146 : ((Tryd.prog.info? 146).bind (·.zero)).map (fun z => z.cells) = some zero146 := by kernel_rfl
theorem p146 : (match Tryd.prog.underlying 146 with | some (.struct fs) => fs.toList.mapM (fun f => (Tryd.prog.info? f.type).map fun i => (f.offset, i.size)) | _ => none) = some [(0, 1), (1, 1), (2, 32), (34, 1), (35, 1)] := by kernel_rfl
set_option maxRecDepth 20000 in
theorem built146 (H : List Value) (a b : Int) (h : H.length = 32) : Tryd.prog.built 146 [(2, .agg H.toArray), (3, .int .u8 a), (4, .int .u32 b)] = some ([Value.string ⟨#[]⟩, Value.bool false] ++ H ++ [Value.int .u8 a, Value.int .u32 b]).toArray := by
  have hz := z146
  have hp := p146
  unfold Program.built
  rw [Tryd.underlying146] at hp ⊢
  cases hi : Tryd.prog.info? 146 with
  | none => rw [hi] at hz; simp at hz
  | some it =>
    rw [hi] at hz
    cases hzz : it.zero with
    | none => simp [hzz] at hz
    | some z =>
      simp [hzz] at hz
      dsimp only at hp
      simp only [hp, hzz, hz]
      have hf := fold_cells H [.string ⟨#[]⟩, .bool false] (List.replicate 32 (Value.int .u8 0)) [.int .u8 0, .int .u32 0] 2 0 (by simp [h]) rfl
      unfold zero146
      rw [fill_step _ _ 2 2 32 (.agg H.toArray) _ (by rfl) (show H.toArray.size = 32 by simpa using h) (by simp)]
      have e2 : (Value.agg H.toArray).cells = H.toArray := rfl
      rw [e2, show H.toArray.zipIdx = (H.zipIdx 0).toArray by simp]
      rw [List.foldl_toArray']
      · rw [hf]
        rw [fill_step _ _ 3 34 1 _ _ (by rfl) rfl (by simp [h]), fold_one, fill_step _ _ 4 35 1 _ _ (by rfl) rfl (by simp [h]), fold_one]
        simp only [Instr.fill]
        refine congrArg some ?_
        apply Array.ext'
        simp [h]
      · rfl
end Go.Proofs.YtpniohbjgpncmaaDoor
