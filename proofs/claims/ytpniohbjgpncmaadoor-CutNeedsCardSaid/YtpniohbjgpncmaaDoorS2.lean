/- Opener.Hash at an opener with 32 bytes and more: conditions: none. -/
import Derived.Test.YtpniohbjgpncmaaDoorPE
import Derived.Deep.MidRow
import Derived.RangeFuncNested
import Derived.RangeFuncLeaves
namespace Go.Proofs.YtpniohbjgpncmaaDoor
open Go.RowKit

theorem hash43_close {w w1 : World} {p : Nat} {v R R' : Value} {l : List UInt8} {er : Int} {e : Ending} {cs : Array Value} {O : Obj} (h : TakePost (w.alloc O) p v R' l er e w1) (hp : p < w.heap.size) (hv : ∀ k, v.ownBlock = some k → k < w.heap.size) :
    TakePost w p v R l er (.returned R) (w1.setRow w.heap.size cs) := by
  obtain ⟨he, v', h1, h2, h3⟩ := h
  have hs : Keeps (fun k => k = w.heap.size) w1 (w1.setRow w.heap.size cs) := (Keeps.refl _ w1).setRow _ _ (fun _ => rfl)
  refine ⟨rfl, v', h1.keeps hs (by omega) (fun b hb e => ?_), h2, ?_⟩
  · have := hv b (h2 ▸ hb)
    omega
  · exact ((keeps_alloc w O).trans h3 (fun _ _ h => h.elim) (fun _ _ h => h)).setRow _ _ (fun h => by omega)

theorem Rd.block_lt {w : World} {v : Value} {n : Nat} {l : List UInt8} (h : Rd w 1 v n (bytesV l)) (hn : 0 < l.length) : ∀ k, v.ownBlock = some k → k < w.heap.size := by
  obtain ⟨h1, a, c, rfl, hc, h2, h3⟩ := h
  intro k hk
  cases a with
  | none => simp [Value.ownBlock] at hk
  | some ad =>
    obtain ⟨hsp, h5⟩ := h3 _ rfl
    have h0 : 0 < (bytesV l).length := by rw [bytesV_length]; exact hn
    have hx := h5 0 _ (List.getElem?_eq_getElem h0)
    obtain ⟨o, ho, _⟩ := cells_of_cell hx
    have := (Array.getElem?_eq_some_iff.1 ho).1
    have hb : (ad.add 0).block = ad.block := by unfold Addr.add; split <;> rfl
    rw [hb] at this
    simp [Value.ownBlock] at hk
    omega
theorem hash43_heap {w w1 : World} {p : Nat} {v R' : Value} {l : List UInt8} {er : Int} {e : Ending} {O : Obj} (h : TakePost (w.alloc O) p v R' l er e w1) (hp : p < w.heap.size) : w1.heap[w.heap.size]? = some O := by
  obtain ⟨he, v', h1, h2, h3⟩ := h
  exact h3.heap (heap_alloc_new w O) (by omega)

set_option maxRecDepth 20000 in
set_option maxHeartbeats 400000 in
theorem hash43 (p : Nat) (v : Value) (l : List UInt8) (w : World) (hp : Opn w p v l 0) (hn : 32 ≤ l.length) :
    Calls Tryd.prog 43 #[.pointer (some ⟨p, 0, none⟩)] w (TakePost w p v (.agg (bytesV (l.take 32)).toArray) (l.drop 32) 0) := by
  have hp1 := heap_lt hp.heap
  have HP := Lib.hid hp
  have h32 : (bytesV (l.take 32)).length = 32 := by rw [bytesV_length, List.length_take]; omega
  obtain ⟨H, hH⟩ : ∃ H, H = bytesV (l.take 32) := ⟨_, rfl⟩
  have hone : H.toArray.all (·.oneCell') = true := by rw [hH]; exact all_oneCell_toArray (bytesV_one _)
  rw [← hH] at h32 ⊢
  have HH := Lib.hid hH; clear hH
  have H32 := Lib.hid h32; clear h32
  have HO := Lib.hid hone; clear hone
  clear hp
  go_enter Tryd.func43, Tryd.ntmps43
  go_wp2_with (first | (go_at_call 90; refine (take90 p v l 32 rfl _ (HP.out.no (keeps_alloc w _)) hn).mono ?_; rintro e w1 hq; have he := hq.1; subst he; rw [← HH.out] at hq ⊢; have hg := hash43_heap hq hp1; have HQ := Lib.hid hq; clear hq) | (refine wpList_store_row rfl 70 _ _ rfl w.heap.size H.toArray (by rfl) (by rfl) 70 _ hg (by simp only [List.size_toArray]; rw [H32.out]; exact Tryd.size70) (by simp only [List.size_toArray]; rw [H32.out]; rfl) HO.out ?_))
  refine bodyPost_ret (v := .agg H.toArray) (results_cell_row rfl _ _ w.heap.size 70 _ (0, 0) _ (by rfl) (setRow_heap _ _ _ _ _ _ hg) Tryd.underlying70 rfl (by simp only [List.size_toArray]; rw [H32.out]; exact Tryd.size70)) rfl ?_
  exact hash43_close HQ.out hp1 (HP.out.rd.block_lt (by omega))
end Go.Proofs.YtpniohbjgpncmaaDoor
