import Derived.Test.YtpniohbjgpncmaaDoorP8
namespace Go.Proofs.YtpniohbjgpncmaaDoor
open Go.RowKit

theorem run_text {W : World} {v : Value} {l : List UInt8} (hv : Rd W 1 v l.length (bytesV l)) (src e dst : TypeId) (hs : Tryd.prog.underlying src = some (.slice e)) (he : Tryd.prog.underlying e = some (.int .u8)) (hd : Tryd.prog.underlying dst = some .string) :
    (convert src dst v).run Tryd.prog W = .ok (.string ⟨l.toArray⟩) W := by
  obtain ⟨h1, a, c, rfl, hc, h2, h3⟩ := hv
  cases a with
  | none =>
    obtain ⟨h4, rfl⟩ := h2 rfl
    obtain rfl : l = [] := List.eq_nil_of_length_eq_zero h4
    rw [run_convert_bytes_string W src dst e none _ _ hs he hd]
    rfl
  | some ad =>
    obtain ⟨hsp, h5⟩ := h3 _ rfl
    exact run_convert_bytes_back W src dst e ad c l hs he hd (fun j hj => h5 j _ (by simp [bytesV, hj]))

set_option maxRecDepth 20000 in
set_option maxHeartbeats 400000 in
theorem text_any (a : Option Addr) (c : Nat) (l : List UInt8) (w : World) (hv : Rd w 1 (.slice a l.length c) l.length (bytesV l)) :
    Calls Tryd.prog 81 #[.slice a l.length c] w fun e w' => e = .returned (.string ⟨l.toArray⟩) ∧ w = w' := by
  have hr := run_text hv 27 5 9 Tryd.underlying27 Tryd.underlying5 Tryd.underlying9
  have HV := Lib.hid hv; clear hv
  go_enter Tryd.func81, Tryd.ntmps81
  go_wp2
  go_ret
  exact ⟨rfl, rfl⟩

theorem rangeAt_keeps {S : Nat → Prop} {w w' : World} {b o : Nat} {cs : List Value} (h : w.rangeAt b o cs) (k : Keeps S w w') (hn : ¬ S b := by exact fun h => h) : w'.rangeAt b o cs :=
  fun j v hv => k.cell (h j v hv) hn
theorem Keeps.setRow {S : Nat → Prop} {a w : World} (h : Keeps S a w) (g : Nat) (cs : Array Value) (hg : g < a.heap.size → S g) : Keeps S a (w.setRow g cs) :=
  ⟨h.os, h.tape, h.output, by simpa using h.size, fun k hk hn => (setRow_other w g k _ (fun e => hn (e ▸ hg (e ▸ hk)))).trans (h.block k hk hn)⟩
theorem bytesV_length (l : List UInt8) : (bytesV l).length = l.length := by simp [bytesV]
theorem Tryd.size70 : (Tryd.prog.info? 70).map (·.size) = some 32 := by kernel_rfl
set_option maxRecDepth 20000 in
set_option maxHeartbeats 400000 in
theorem hash_any (a : Option Addr) (c : Nat) (l : List UInt8) (w : World) (hl : l.length = 32) (hv : Rd w 1 (.slice a l.length c) l.length (bytesV l)) :
    Calls Tryd.prog 91 #[.slice a l.length c] w fun e w' => e = .returned (.agg (bytesV l).toArray) ∧ Keeps No w w' := by
  have HV := Lib.hid hv
  obtain ⟨h1, a', c', heq, hc, h2, h3⟩ := hv
  cases heq
  clear h1
  cases a with
  | none => have := (h2 rfl).1; omega
  | some ad =>
  obtain ⟨b, o, sp⟩ := ad
  obtain ⟨hsp, h5⟩ := h3 _ rfl
  simp at hsp
  subst hsp
  have hra : w.rangeAt b o (bytesV l) := fun j v hj => by have := h5 j v hj; rwa [addr_add] at this
  clear h5 h3 h2
  have hra2 := fun o => rangeAt_keeps hra (keeps_alloc w o)
  have HR := Lib.hid hra2; clear hra2 hra
  have hcv := fun W => run_arrayAt (P := Tryd.prog) (w := W) 70 5 32 (some ⟨b, o, none⟩) l.length c Tryd.underlying70 (by omega)
  have HL := Lib.hid hl; clear hl
  go_enter Tryd.func91, Tryd.ntmps91
  go_wp2_with (first | (refine wpList_load_mid rfl 70 _ rfl b o (by rfl) (bytesV l) _ (HR.out _) Tryd.underlying70 rfl (by rw [bytesV_length, HL.out]; exact Tryd.size70) ?_) | (refine wpList_store_row rfl 70 _ _ rfl w.heap.size (bytesV l).toArray (by rfl) (by rfl) 70 _ (heap_alloc_new _ _) (by simp only [List.size_toArray]; rw [bytesV_length, HL.out]; exact Tryd.size70) (by simp only [List.size_toArray]; rw [bytesV_length, HL.out]; rfl) (all_oneCell_toArray (bytesV_one l)) ?_))
  refine bodyPost_ret (v := .agg (bytesV l).toArray) (results_cell_row rfl _ _ w.heap.size 70 _ (0, 0) _ (by rfl) (setRow_heap _ _ _ _ _ _ (heap_alloc_new w _)) Tryd.underlying70 rfl (by simp only [List.size_toArray]; rw [bytesV_length, HL.out]; exact Tryd.size70)) rfl ⟨rfl, ?_⟩
  exact (keeps_alloc w _).setRow w.heap.size _ (fun h => by omega)
end Go.Proofs.YtpniohbjgpncmaaDoor
