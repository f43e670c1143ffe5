import Derived.Test.YtpniohbjgpncmaaDoorP2
namespace Go.Proofs.YtpniohbjgpncmaaDoor
open Go.RowKit

theorem Pk.keeps {S : Nat → Prop} {w w' : World} {p : Nat} {v : Value} {bs : List UInt8} {er : Int} (h : Pk w p v bs er) (k : Keeps S w w') (h1 : ¬ S p) (h2 : ∀ b, v.ownBlock = some b → ¬ S b) : Pk w' p v bs er :=
  ⟨k.heap h.heap h1, Own.keeps h.own k h2, h.ne⟩
theorem Pk.no {w w' : World} {p : Nat} {v : Value} {bs : List UInt8} {er : Int} (h : Pk w p v bs er) (k : Keeps No w w') : Pk w' p v bs er := h.keeps k (fun h => h) (fun _ _ h => h)
theorem PutsPost.from {w w2 : World} {p : Nat} {v : Value} {bs : List UInt8} {er : Int} {e : Ending} {w' : World} (h : PutsPost w2 p v bs er e w') (k : Keeps No w w2) : PutsPost w p v bs er e w' := by
  obtain ⟨rfl, v', hp, hg⟩ := h
  refine ⟨rfl, v', hp, k.trans hg.keeps (fun _ _ h => h.elim) (fun _ _ h => h), ?_⟩
  rcases hg.row with h | h
  · exact .inl h
  · exact .inr fun k' hk => Nat.le_trans k.size (h k' hk)

theorem alloc2_cell0 (w : World) (x y : Value) (t u : TypeId) : ((w.alloc (.cells #[x] t)).alloc (.cells #[y] u)).cell? ⟨w.heap.size, 0, none⟩ = some x := by
  rw [cell_of_heap ((Below.heap_alloc (w.alloc (.cells #[x] t)) _ w.heap.size (by simp)).trans (heap_alloc_new w _)) 0]; rfl
theorem alloc2_cell1 (w : World) (x y : Value) (t u : TypeId) : ((w.alloc (.cells #[x] t)).alloc (.cells #[y] u)).cell? ⟨w.heap.size + 1, 0, none⟩ = some y := by
  have h := heap_alloc_new (w.alloc (.cells #[x] t)) (.cells #[y] u)
  rw [World.size_alloc] at h
  rw [cell_of_heap h 0]; rfl
theorem keeps_alloc2 (w : World) (a b : Obj) : Keeps No w ((w.alloc a).alloc b) := ((Keeps.refl _ w).alloc a).alloc b

def be (width n : Nat) : List UInt8 := beTo width n width
theorem be_length (width n : Nat) : (be width n).length = width := by simp [be, beTo]

theorem put1_make (bw bn width n : Nat) (hn : n < U64) (hw : 1 ≤ width) (hw8 : width ≤ 8) (w : World)
    (h1 : w.cell? ⟨bw, 0, none⟩ = some (.int .i64 width)) (h2 : w.cell? ⟨bn, 0, none⟩ = some (.int .u64 n)) (W : World) (hW : Keeps No w W) :
    Calls Tryd.prog 86 #[.pointer (some ⟨bw, 0, none⟩), .pointer (some ⟨bn, 0, none⟩)] W (MakePost (be width n).length (bytesV (be width n)) W) := by
  rw [be_length]
  refine (put1_any bw bn width n hn hw hw8 W (hW.cell h1 (fun h => h)) (hW.cell h2 (fun h => h))).mono fun e W' ⟨v, he, ho, hk, _⟩ => ⟨v, he, Own.rd ho, hk⟩

set_option maxRecDepth 20000 in
set_option maxHeartbeats 400000 in
theorem put_yes (p : Nat) (v : Value) (bs : List UInt8) (er : Int) (width n : Nat) (hw : width = 1 ∨ width = 2 ∨ width = 4 ∨ width = 8) (hn : n < U64) (hfit : n < 2 ^ (8 * width)) (w : World) (hp : Pk w p v bs er) (hlen : bs.length < 900000) :
    Calls Tryd.prog 37 #[.pointer (some ⟨p, 0, none⟩), .int .i64 width, .int .u64 n] w (PutsPost w p v (bs ++ be width n) er) := by
  have HP := Lib.hid hp; clear hp
  have hcf : ∀ W cap, (callFunc 86 cap).run Tryd.prog W = .ok (.enter 86 cap) W := fun _ _ => by kernel_rfl
  have HN := Lib.hid hn; clear hn
  rcases hw with rfl | rfl | rfl | rfl
  · have hq : ((n : Int) / 256 == 0) = true := by rw [beq_iff_eq]; omega
    clear hfit
    go_enter Tryd.func37, Tryd.ntmps37
    go_wp2_with (first | (go_at_call 82; refine (wide_any _ _).mono ?_; rintro e w' ⟨rfl, rfl⟩))
    refine (puts_yes p v bs (be 1 n) er 86 _ _ (HP.out.no (keeps_alloc2 _ _ _)) (fun W hW => put1_make _ _ 1 n HN.out (by omega) (by omega) _ (alloc2_cell0 _ _ _ _ _) (alloc2_cell1 _ _ _ _ _) W hW) (fun W => hcf W _) (by rw [be_length]; omega)).mono ?_
    rintro e w' hx
    obtain ⟨rfl, hy⟩ := (hx.from (keeps_alloc2 _ _ _))
    clear hx
    go_wp2
    go_ret
    exact ⟨rfl, hy⟩
  · have hq : ((n : Int) / 65536 == 0) = true := by rw [beq_iff_eq]; omega
    clear hfit
    go_enter Tryd.func37, Tryd.ntmps37
    go_wp2_with (first | (go_at_call 82; refine (wide_any _ _).mono ?_; rintro e w' ⟨rfl, rfl⟩))
    refine (puts_yes p v bs (be 2 n) er 86 _ _ (HP.out.no (keeps_alloc2 _ _ _)) (fun W hW => put1_make _ _ 2 n HN.out (by omega) (by omega) _ (alloc2_cell0 _ _ _ _ _) (alloc2_cell1 _ _ _ _ _) W hW) (fun W => hcf W _) (by rw [be_length]; omega)).mono ?_
    rintro e w' hx
    obtain ⟨rfl, hy⟩ := (hx.from (keeps_alloc2 _ _ _))
    clear hx
    go_wp2
    go_ret
    exact ⟨rfl, hy⟩
  · have hq : ((n : Int) / 4294967296 == 0) = true := by rw [beq_iff_eq]; omega
    clear hfit
    go_enter Tryd.func37, Tryd.ntmps37
    go_wp2_with (first | (go_at_call 82; refine (wide_any _ _).mono ?_; rintro e w' ⟨rfl, rfl⟩))
    refine (puts_yes p v bs (be 4 n) er 86 _ _ (HP.out.no (keeps_alloc2 _ _ _)) (fun W hW => put1_make _ _ 4 n HN.out (by omega) (by omega) _ (alloc2_cell0 _ _ _ _ _) (alloc2_cell1 _ _ _ _ _) W hW) (fun W => hcf W _) (by rw [be_length]; omega)).mono ?_
    rintro e w' hx
    obtain ⟨rfl, hy⟩ := (hx.from (keeps_alloc2 _ _ _))
    clear hx
    go_wp2
    go_ret
    exact ⟨rfl, hy⟩
  · clear hfit
    go_enter Tryd.func37, Tryd.ntmps37
    go_wp2_with (first | (go_at_call 82; refine (wide_any _ _).mono ?_; rintro e w' ⟨rfl, rfl⟩))
    refine (puts_yes p v bs (be 8 n) er 86 _ _ (HP.out.no (keeps_alloc2 _ _ _)) (fun W hW => put1_make _ _ 8 n HN.out (by omega) (by omega) _ (alloc2_cell0 _ _ _ _ _) (alloc2_cell1 _ _ _ _ _) W hW) (fun W => hcf W _) (by rw [be_length]; omega)).mono ?_
    rintro e w' hx
    obtain ⟨rfl, hy⟩ := (hx.from (keeps_alloc2 _ _ _))
    clear hx
    go_wp2
    go_ret
    exact ⟨rfl, hy⟩

def erNo (er : Int) : Int := if er = 0 then 6 else er
theorem puts_no (p : Nat) (v : Value) (bs : List UInt8) (er : Int) (f : Value) (w : World) (hp : Pk w p v bs er) :
    Calls Tryd.prog 85 #[.pointer (some ⟨p, 0, none⟩), .bool false, f] w (PutsPost w p v bs (erNo er)) := by
  by_cases h : er = 0
  · subst h
    exact puts_no0 p v bs f w hp
  · have : erNo er = er := by simp [erNo, h]
    rw [this]
    exact puts_no1 p v bs er (by simp [h]) f w hp

set_option maxRecDepth 20000 in
set_option maxHeartbeats 400000 in
theorem put_no_fit (p : Nat) (v : Value) (bs : List UInt8) (er : Int) (width n : Nat) (hw : width = 1 ∨ width = 2 ∨ width = 4) (hfit : ¬ n < 2 ^ (8 * width)) (w : World) (hp : Pk w p v bs er) :
    Calls Tryd.prog 37 #[.pointer (some ⟨p, 0, none⟩), .int .i64 width, .int .u64 n] w (PutsPost w p v bs (erNo er)) := by
  have HP := Lib.hid hp; clear hp
  rcases hw with rfl | rfl | rfl
  · have hq : ((n : Int) / 256 == 0) = false := by rw [beq_eq_false_iff_ne]; omega
    clear hfit
    go_enter Tryd.func37, Tryd.ntmps37
    go_wp2_with (first | (go_at_call 82; refine (wide_any _ _).mono ?_; rintro e w' ⟨rfl, rfl⟩))
    refine (puts_no p v bs er _ _ (HP.out.no (keeps_alloc2 _ _ _))).mono ?_
    rintro e w' hx
    obtain ⟨rfl, hy⟩ := (hx.from (keeps_alloc2 _ _ _))
    clear hx
    go_wp2
    go_ret
    exact ⟨rfl, hy⟩
  · have hq : ((n : Int) / 65536 == 0) = false := by rw [beq_eq_false_iff_ne]; omega
    clear hfit
    go_enter Tryd.func37, Tryd.ntmps37
    go_wp2_with (first | (go_at_call 82; refine (wide_any _ _).mono ?_; rintro e w' ⟨rfl, rfl⟩))
    refine (puts_no p v bs er _ _ (HP.out.no (keeps_alloc2 _ _ _))).mono ?_
    rintro e w' hx
    obtain ⟨rfl, hy⟩ := (hx.from (keeps_alloc2 _ _ _))
    clear hx
    go_wp2
    go_ret
    exact ⟨rfl, hy⟩
  · have hq : ((n : Int) / 4294967296 == 0) = false := by rw [beq_eq_false_iff_ne]; omega
    clear hfit
    go_enter Tryd.func37, Tryd.ntmps37
    go_wp2_with (first | (go_at_call 82; refine (wide_any _ _).mono ?_; rintro e w' ⟨rfl, rfl⟩))
    refine (puts_no p v bs er _ _ (HP.out.no (keeps_alloc2 _ _ _))).mono ?_
    rintro e w' hx
    obtain ⟨rfl, hy⟩ := (hx.from (keeps_alloc2 _ _ _))
    clear hx
    go_wp2
    go_ret
    exact ⟨rfl, hy⟩

set_option maxRecDepth 20000 in
set_option maxHeartbeats 400000 in
theorem put_no_wide (p : Nat) (v : Value) (bs : List UInt8) (er width : Int) (n : Nat) (hw : wideB width = false) (w : World) (hp : Pk w p v bs er) :
    Calls Tryd.prog 37 #[.pointer (some ⟨p, 0, none⟩), .int .i64 width, .int .u64 n] w (PutsPost w p v bs (erNo er)) := by
  have HP := Lib.hid hp; clear hp
  go_enter Tryd.func37, Tryd.ntmps37
  go_wp2_with (first | (go_at_call 82; refine (wide_any _ _).mono ?_; rintro e w' ⟨rfl, rfl⟩))
  refine (puts_no p v bs er _ _ (HP.out.no (keeps_alloc2 _ _ _))).mono ?_
  rintro e w' hx
  obtain ⟨rfl, hy⟩ := (hx.from (keeps_alloc2 _ _ _))
  clear hx
  go_wp2
  go_ret
  exact ⟨rfl, hy⟩
end Go.Proofs.YtpniohbjgpncmaaDoor
