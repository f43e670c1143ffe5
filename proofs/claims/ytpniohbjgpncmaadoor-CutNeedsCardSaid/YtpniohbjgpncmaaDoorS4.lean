/- A record's way through an opener: conditions: none. -/
import Derived.Test.YtpniohbjgpncmaaDoorS1
import Derived.Test.YtpniohbjgpncmaaDoorS2
import Derived.Test.YtpniohbjgpncmaaDoorS3
import Derived.Test.YtpniohbjgpncmaaDoorR3
import Derived.Great.BuildSlice
namespace Go.Proofs.YtpniohbjgpncmaaDoor
open Go.RowKit

/-- where a record begins, its hash, its data -/
abbrev Rc := Nat × List UInt8 × ByteArray
def recV (x : Rc) : List Value := .int .i64 x.1 :: (bytesV x.2.1 ++ [.string x.2.2])
def encR (x : Rc) : Array Value := #[.agg (recV x).toArray]
def recsBytes : List (List UInt8 × ByteArray) → List UInt8
  | [] => []
  | r :: rest => recBytes r.1 r.2 ++ recsBytes rest
def recList : Nat → List (List UInt8 × ByteArray) → List Rc
  | _, [] => []
  | n, r :: rest => (n, r.1, r.2) :: recList (n + (recBytes r.1 r.2).length) rest
theorem recsBytes_append (a b : List (List UInt8 × ByteArray)) : recsBytes (a ++ b) = recsBytes a ++ recsBytes b := by
  induction a with
  | nil => rfl
  | cons x a ih => simp [recsBytes, ih]
theorem recList_append (n : Nat) (a b : List (List UInt8 × ByteArray)) : recList n (a ++ b) = recList n a ++ recList (n + (recsBytes a).length) b := by
  induction a generalizing n with
  | nil => rfl
  | cons x a ih => simp [recsBytes, recList, ih, Nat.add_assoc]

theorem valTo_pre (a b : List UInt8) : valTo (a ++ b) a.length = valTo a a.length := by
  unfold valTo
  rw [List.take_left, List.take_of_length_le (Nat.le_refl _)]

theorem num2_good (p : Nat) (v : Value) (n : Nat) (L : List UInt8) (w : World) (hp : Opn w p v (be 2 n ++ L) 0) (hl : (be 2 n ++ L).length < 1000000) (hn : n < 65536) :
    Calls Tryd.prog 31 #[.pointer (some ⟨p, 0, none⟩), .int .i64 2] w (TakePost w p v (.int .u64 n) L 0) := by
  have h := num_all p v (be 2 n ++ L) 0 2 w hp hl
  have e : oNum (be 2 n ++ L) 0 2 = (be 2 n, L, 0) := by
    have hlen := be_length 2 n
    unfold oNum oTake
    rw [if_pos (show wideB 2 = true by decide), if_neg (by simp), if_neg (by rw [List.length_append, hlen]; omega)]
    rw [show (2 : Int).toNat = (be 2 n).length by rw [hlen]; rfl, List.take_left, List.drop_left]
  rw [e] at h
  have e2 : valTo (be 2 n) (be 2 n).length = n := by
    rw [be_length]
    simp [valTo, be, beTo, List.range_succ]
    omega
  rw [e2] at h
  exact h

theorem text_good (p : Nat) (v : Value) (s : ByteArray) (L : List UInt8) (w : World) (hp : Opn w p v (bl s ++ L) 0) (hl : (bl s ++ L).length < 1000000) :
    Calls Tryd.prog 30 #[.pointer (some ⟨p, 0, none⟩), .int .i64 s.size] w (TakePost w p v (.string s) L 0) := by
  have h := text_all p v (bl s ++ L) 0 s.size w hp hl
  have e : oTake (bl s ++ L) 0 s.size = (bl s, L, 0) := by
    unfold oTake
    rw [if_neg (by simp), if_neg (by rw [List.length_append, bl_length]; omega)]
    rw [show (s.size : Int).toNat = (bl s).length by rw [bl_length]; rfl, List.take_left, List.drop_left]
  rw [e] at h
  exact h

def zero76 : Array Value := ([Value.int .i64 0] ++ List.replicate 32 (Value.int .u8 0) ++ [Value.string ⟨#[]⟩]).toArray
theorem z76 : ((Tryd.prog.info? 76).bind (·.zero)).map (fun z => z.cells) = some zero76 := by kernel_rfl
theorem fill_step (place : Nat → Option (Nat × Nat)) (cells : Array Value) (i off size : Nat) (v : Value) (rest : List (Nat × Value)) (h1 : place i = some (off, size)) (h2 : v.cells.size = size) (h3 : off + size ≤ cells.size) :
    Instr.fill place cells ((i, v) :: rest) = Instr.fill place (v.cells.zipIdx.foldl (fun cs (c, j) => cs.setIfInBounds (off + j) c) cells) rest := by
  simp only [Instr.fill, h1, h2]
  rw [if_neg]
  simp
  omega
theorem p76 : (match Tryd.prog.underlying 76 with | some (.struct fs) => fs.toList.mapM (fun f => (Tryd.prog.info? f.type).map fun i => (f.offset, i.size)) | _ => none) = some [(0, 1), (1, 32), (33, 1)] := by kernel_rfl
theorem fold_cells (H : List Value) : ∀ (pre old post : List Value) (n k : Nat), old.length = H.length → n + k = pre.length →
    (H.zipIdx k).foldl (fun (cs : Array Value) (cj : Value × Nat) => cs.setIfInBounds (n + cj.2) cj.1) (pre ++ old ++ post).toArray = (pre ++ H ++ post).toArray := by
  induction H with
  | nil => intro pre old post n k h _; cases old with
    | nil => rfl
    | cons _ _ => simp at h
  | cons x H ih =>
    intro pre old post n k h hk
    cases old with
    | nil => simp at h
    | cons y old =>
      simp only [List.zipIdx_cons, List.foldl_cons]
      have e : (pre ++ y :: old ++ post).toArray.setIfInBounds (n + k) x = ((pre ++ [x]) ++ old ++ post).toArray := by
        simp [hk]
      rw [e, ih (pre ++ [x]) old post n (k + 1) (by simpa using h) (by simp; omega)]
      simp
set_option maxRecDepth 20000 in
theorem built76 (i : Int) (H : List Value) (h : H.length = 32) : Tryd.prog.built 76 [(0, .int .i64 i), (1, .agg H.toArray)] = some (.int .i64 i :: (H ++ [.string ⟨#[]⟩])).toArray := by
  have hz := z76
  have hp := p76
  unfold Program.built
  rw [Tryd.underlying76] at hp ⊢
  cases hi : Tryd.prog.info? 76 with
  | none => rw [hi] at hz; simp at hz
  | some it =>
    rw [hi] at hz
    cases hzz : it.zero with
    | none => simp [hzz] at hz
    | some z =>
      simp [hzz] at hz
      dsimp only at hp
      simp only [hp, hzz, hz]
      have hf := fold_cells H [.int .i64 i] (List.replicate 32 (Value.int .u8 0)) [.string ⟨#[]⟩] 1 0 (by simp [h]) rfl
      rw [fill_step _ _ 0 0 1 _ _ rfl rfl (by decide)]
      have e : (Value.int .i64 i).cells.zipIdx.foldl (fun cs (c, j) => cs.setIfInBounds (0 + j) c) zero76 = ([Value.int .i64 i] ++ List.replicate 32 (Value.int .u8 0) ++ [Value.string ⟨#[]⟩]).toArray := rfl
      rw [e, fill_step _ ([Value.int .i64 i] ++ List.replicate 32 (Value.int .u8 0) ++ [Value.string ⟨#[]⟩]).toArray 1 1 32 (.agg H.toArray) _ (by rfl) (show H.toArray.size = 32 by simpa using h) (by simp)]
      simp only [Instr.fill]
      refine congrArg some ?_
      have e2 : (Value.agg H.toArray).cells = H.toArray := rfl
      rw [e2, show H.toArray.zipIdx = (H.zipIdx 0).toArray by simp]
      rw [List.foldl_toArray']
      exact hf
      rfl
end Go.Proofs.YtpniohbjgpncmaaDoor
