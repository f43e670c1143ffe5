/- record.Put at data that fits: conditions: none. -/
import Derived.Test.YtpniohbjgpncmaaDoorPD
import Derived.Deep.MidRow
namespace Go.Proofs.YtpniohbjgpncmaaDoor
open Go.RowKit

/-- the bytes of a record -/
def recBytes (h : List UInt8) (s : ByteArray) : List UInt8 := h ++ be 2 s.size ++ bl s
theorem recBytes_length (h : List UInt8) (s : ByteArray) : (recBytes h s).length = h.length + 2 + s.size := by
  unfold recBytes; rw [List.length_append, List.length_append, be_length, bl_length]

theorem rec_close {w w0 w5 w6 : World} {p : Nat} {bs : List UInt8} {o : Obj} {ao : Option Addr} {cp : Nat} (hw : w0 = w.alloc o) (h5 : PkIn w0 w5 p bs 0) (ho : w6.ownsRow 0 5 1 (.slice ao bs.length cp) bs.length (bytesV bs)) (hk : Keeps No w5 w6) (hf : ∀ k, (Value.slice ao bs.length cp).ownBlock = some k → w5.heap.size ≤ k) :
    BytesPost bs w (.returned (.tuple #[.slice ao bs.length cp, .int .i64 0])) w6 := by
  have h0 : Keeps No w w5 := by subst hw; exact (keeps_alloc w o).same h5.keeps
  exact ⟨ao, cp, rfl, ho, h0.same hk, fun k hk' => Nat.le_trans h0.size (hf k hk')⟩

set_option maxRecDepth 20000 in
set_option maxHeartbeats 800000 in
theorem recput_any (h : List UInt8) (s : ByteArray) (w : World) (hh : h.length = 32) (hs : s.size ≤ 2014) :
    Calls Tryd.prog 24 #[.agg (bytesV h).toArray, .string s] w (BytesPost (recBytes h s) w) := by
  have hlen : ¬ (2014 : Int) < s.size := by omega
  have u1 : s.size < U64 := by unfold U64; omega
  have f1 : s.size < 2 ^ (8 * 2) := by omega
  have l0 : ([] : List UInt8).length < 90000 := by decide
  have l1 : ([] ++ h).length < 90000 := by rw [List.nil_append, hh]; decide
  have l2 : ([] ++ h ++ be 2 s.size).length < 90000 := by rw [List.length_append, be_length, List.nil_append, hh]; decide
  obtain ⟨R, hR⟩ : ∃ R, R = recBytes h s := ⟨_, rfl⟩
  have l3 : R.length < 1000000 := by rw [hR, recBytes_length, hh]; omega
  have hE : [] ++ h ++ be 2 s.size ++ bl s = R := by rw [hR, List.nil_append]; rfl
  rw [← hR]
  have HE := Lib.hid hE; clear hE
  have HR := Lib.hid hR; clear hR
  have hs9 : s.size < 900000 := by omega
  have w1 : IntKind.u64.wrap (s.size : Int) = s.size := by rw [IntKind.wrap_u64]; omega
  have U1 := Lib.hid u1; clear u1
  have F1 := Lib.hid f1; clear f1
  have L1 := Lib.hid l1; clear l1
  have L2 := Lib.hid l2; clear l2
  have L3 := Lib.hid l3; clear l3
  have S9 := Lib.hid hs9; clear hs9
  have HH := Lib.hid hh; clear hh
  go_enter Tryd.func24, Tryd.ntmps24
  go_wp2_with fail
  obtain ⟨w0, hw0⟩ : ∃ w0, w0 = w.alloc (.cells (bytesV h).toArray 70) := ⟨_, rfl⟩
  have hheap : w0.heap[w.heap.size]? = some (.cells (bytesV h).toArray 70) := by rw [hw0]; exact heap_alloc_new _ _
  have hra : w0.rangeAt w.heap.size 0 (bytesV h) := fun j v hj => by
    have := cell_of_heap hheap (0 + j)
    rw [this]; simpa using hj
  rw [← hw0]
  have HW := Lib.hid hw0; clear hw0
  clear hheap
  have HRA := Lib.hid hra; clear hra
  have hnk : Keeps No w0 w0.drew := (Keeps.refl _ w0).drew
  have hsz : (Tryd.prog.info? 70).map (·.size) = some (bytesV h).length := by rw [bytesV_length, HH.out]; exact Tryd.size70
  have hu70 := Tryd.underlying70
  go_region_held3 (fun w' => w'.rangeAt w.heap.size 0 (bytesV h)) (first | exact HRA.out | exact rangeAt_keeps HRA.out hnk | exact rangeAt_keeps HRA.out hq.keeps | exact rangeAt_keeps HRA.out hq4.keeps)
    (first | (go_at_call 35; refine (new_any _).mono ?_; rintro e w1 ⟨rfl, rfl⟩; have hq : PkIn w0 _ w0.heap.size [] 0 := PkIn.new w0 w0.drew hnk) | (go_at_call 39; refine (pkin_hash h HH.out hq l0).mono ?_; clear hq; rintro e w1 ⟨rfl, hq⟩) | (go_at_call 37; (with_reducible refine (pkin_put2 s.size U1.out F1.out hq L1.out).mono ?_); clear hq; rintro e w1 ⟨rfl, hq⟩) | (go_at_call 40; (with_reducible refine (pkin_text s hq L2.out S9.out).mono ?_); clear hq; rintro e w1 ⟨rfl, hq⟩; rw [HE.out] at hq) | (go_at_call 42; (with_reducible refine (pkin_bytes hq L3.out).mono ?_); rintro e w4 ⟨⟨ao, cp, rfl, ho4, hk4, hf4⟩, hq4⟩))
  go_wp2
  go_ret2
  exact rec_close HW.out hq ho4 hk4 hf4
end Go.Proofs.YtpniohbjgpncmaaDoor
