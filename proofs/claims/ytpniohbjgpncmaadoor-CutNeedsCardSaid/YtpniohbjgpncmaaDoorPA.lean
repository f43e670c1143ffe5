import Derived.Test.YtpniohbjgpncmaaDoorP9
namespace Go.Proofs.YtpniohbjgpncmaaDoor
open Go.RowKit

theorem Opn.no {w w' : World} {p : Nat} {v : Value} {l : List UInt8} {er : Int} (h : Opn w p v l er) (k : Keeps No w w') : Opn w' p v l er := h.keeps k (fun h => h) (fun _ _ h => h)
theorem TakePost.from {w w2 : World} {p : Nat} {v R : Value} {l : List UInt8} {er : Int} {e : Ending} {w' : World} (h : TakePost w2 p v R l er e w') (k : Keeps No w w2) : TakePost w p v R l er e w' := by
  obtain ⟨he, v', h1, h2, h3⟩ := h
  exact ⟨he, v', h1, h2, k.trans h3 (fun _ _ h => h.elim) (fun _ _ h => h)⟩
theorem TakePost.to {w : World} {p : Nat} {v R R' : Value} {l : List UInt8} {er : Int} {e : Ending} {w' w2 : World} (h : TakePost w p v R l er e w') (k : Keeps No w' w2) : TakePost w p v R' l er (.returned R') w2 := by
  obtain ⟨he, v', h1, h2, h3⟩ := h
  exact ⟨rfl, v', h1.no k, h2, h3.trans k (fun _ _ h => h) (fun _ _ h => h.elim)⟩


theorem heap_new1 (w : World) (A B : Obj) (n : Nat) (hn : n = w.heap.size) : ((w.alloc A).alloc B).heap[n]? = some A := by
  subst hn
  exact (Below.heap_alloc (w.alloc A) _ w.heap.size (by simp)).trans (heap_alloc_new w _)
theorem hash_n (a : Option Addr) (c n : Nat) (l : List UInt8) (w : World) (hl : l.length = n) (h32 : n = 32) (hv : Rd w 1 (.slice a n c) n (bytesV l)) :
    Calls Tryd.prog 91 #[.slice a n c] w fun e w' => e = .returned (.agg (bytesV l).toArray) ∧ Keeps No w w' := by
  subst hl
  exact hash_any a c l w h32 hv
theorem text_n (a : Option Addr) (c n : Nat) (l : List UInt8) (w : World) (hl : l.length = n) (hv : Rd w 1 (.slice a n c) n (bytesV l)) :
    Calls Tryd.prog 81 #[.slice a n c] w fun e w' => e = .returned (.string ⟨l.toArray⟩) ∧ Keeps No w w' := by
  subst hl
  exact (text_any a c l w hv).mono fun e w' ⟨h1, h2⟩ => ⟨h1, h2 ▸ Keeps.refl _ _⟩
theorem num_n (a : Option Addr) (c n : Nat) (l : List UInt8) (w : World) (hl : l.length = n) (h8 : n ≤ 8) (hv : Rd w 1 (.slice a n c) n (bytesV l)) :
    Calls Tryd.prog 84 #[.slice a n c] w fun e w' => e = .returned (.int .u64 (valTo l n)) ∧ Keeps No w w' := by
  subst hl
  exact (take1_any _ l w hv h8).mono fun e w' ⟨h1, h2⟩ => ⟨h1, h2 ▸ Keeps.refl _ _⟩

theorem take90_close {w w1 w2 : World} {p g : Nat} {v R : Value} {l : List UInt8} {n : Nat} {A B : Obj} (h : Opn w p v l 0) {a1 : Option Addr} {c1 : Nat}
    (hr : ∀ W, Rd W 1 v l.length (bytesV l) → Rd W 1 (.slice a1 (l.length - n) c1) (l.length - n) ((bytesV l).drop (n * 1))) (ho : (Value.slice a1 (l.length - n) c1).ownBlock = v.ownBlock)
    (hk : Keeps No (((w.setCell ⟨p, 0, none⟩ (.slice a1 (l.length - n) c1)).alloc A).alloc B) w1) (cs : Array Value) (hg : w.heap.size ≤ g) (h2 : w2 = w1.setRow g cs) : TakePost w p v R (l.drop n) 0 (.returned R) w2 := by
  subst h2
  refine take_close h hr ho ?_
  exact ((keeps_alloc2 _ A B).same hk).setRow g cs (fun h => by simp at h; omega)

set_option maxRecDepth 20000 in
set_option maxHeartbeats 400000 in
theorem take90 (p : Nat) (v : Value) (l : List UInt8) (n : Nat) (h32 : n = 32) (w : World) (hp : Opn w p v l 0) (hn : n ≤ l.length) :
    Calls Tryd.prog 90 #[.pointer (some ⟨p, 0, none⟩), .int .i64 n, .func (.func 91) #[] #[]] w (TakePost w p v (.agg (bytesV (l.take n)).toArray) (l.drop n) 0) := by
  have HP := Lib.hid hp
  have H32 := Lib.hid h32; clear h32
  obtain ⟨hh, hrd, hne⟩ := hp
  obtain ⟨h1, a, c, rfl, hc, h2, h3⟩ := hrd
  clear h1 h2 h3
  obtain ⟨a1, c1, s1, r1, o1⟩ := slice_to Tryd.slice27 1 Tryd.size27 a l.length c n hc hn
  obtain ⟨a2, c2, s2, r2, o2⟩ := slice_from Tryd.slice27 1 Tryd.size27 a l.length c n hn
  have R1 := Lib.hid r1; clear r1
  have R2 := Lib.hid r2; clear r2
  have O1 := Lib.hid o1; clear o1
  have O2 := Lib.hid o2; clear o2
  have HN := Lib.hid hne; clear hne
  have hlp := heap_lt hh
  have hc0 := cell_of_heap hh 0
  have hc1 := cell_of_heap hh 1
  have hf := frozen_of_heap hh 0
  simp at hc0 hc1
  have hq : ¬ (l.length : Int) < n := by omega
  have hq2 : ¬ (n : Int) < 0 := by omega
  have HL : Hid ((l.take n).length = 32) := by have h := H32.out; show _ = _; rw [List.length_take]; omega
  clear hh
  go_enter Tryd.func90, Tryd.ntmps90
  go_wp2_with fail
  refine (hash_n a1 c1 n (l.take n) _ (by rw [HL.out, H32.out]) H32.out ((take_rd HP.out R1.out O1.out).keeps (keeps_alloc2 _ _ _) (fun _ _ h => h))).mono ?_
  rintro e w1 ⟨rfl, hk1⟩
  go_wp2_with (refine wpList_store_row rfl 70 _ _ rfl w.heap.size (bytesV (l.take n)).toArray (by rfl) (by rfl) 70 _ (hk1.heap (heap_new1 _ _ _ _ (by simp)) (fun h => h)) (by simp only [List.size_toArray]; rw [bytesV_length, HL.out]; exact Tryd.size70) (by simp only [List.size_toArray]; rw [bytesV_length, HL.out]; rfl) (all_oneCell_toArray (bytesV_one _)) ?_)
  refine bodyPost_ret (v := .agg (bytesV (l.take n)).toArray) (results_cell_row rfl _ _ w.heap.size 70 _ (0, 0) _ (by rfl) (setRow_heap _ _ _ _ _ _ (hk1.heap (heap_new1 _ _ _ _ (by simp)) (fun h => h))) Tryd.underlying70 rfl (by simp only [List.size_toArray]; rw [bytesV_length, HL.out]; exact Tryd.size70)) rfl ?_
  exact take90_close HP.out (fun W => R2.out W _) O2.out hk1 _ (Nat.le_refl _) rfl
end Go.Proofs.YtpniohbjgpncmaaDoor
