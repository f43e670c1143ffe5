import Derived.Test.YtpniohbjgpncmaaDoorPD
namespace Go.Proofs.YtpniohbjgpncmaaDoor
open Go.RowKit

/-- an opener that was made since the world w0 -/
structure OpIn (w0 w : World) (p : Nat) (l : List UInt8) (er : Int) : Prop where
  op : ∃ v, Opn w p v l er ∧ ∀ k, v.ownBlock = some k → w0.heap.size ≤ k
  le : w0.heap.size ≤ p
  keeps : Keeps No w0 w
def OpPost (w0 : World) (p : Nat) (R : Value) (l : List UInt8) (er : Int) (e : Ending) (w' : World) : Prop := e = .returned R ∧ OpIn w0 w' p l er
theorem OpIn.no {w0 w w' : World} {p : Nat} {l : List UInt8} {er : Int} (h : OpIn w0 w p l er) (k : Keeps No w w') : OpIn w0 w' p l er := by
  obtain ⟨⟨v, hp, hf⟩, hle, hk⟩ := h
  exact ⟨⟨v, hp.no k, hf⟩, hle, hk.same k⟩
theorem OpIn.step {w0 w : World} {p : Nat} {R : Value} {l l' : List UInt8} {er er' : Int} {F : Nat} {args : Array Value} (h : OpIn w0 w p l er)
    (hc : ∀ v, Opn w p v l er → Calls Tryd.prog F args w (TakePost w p v R l' er')) : Calls Tryd.prog F args w (OpPost w0 p R l' er') := by
  obtain ⟨⟨v, hp, hf⟩, hle, hk⟩ := h
  refine (hc v hp).mono fun e w' hx => ?_
  obtain ⟨he, v', hp', hv', hk'⟩ := hx
  refine ⟨he, ⟨v', hp', fun k h => hf k (hv' ▸ h)⟩, hle, hk.trans hk' (fun _ _ h => h) (fun i hi hx => by omega)⟩
theorem opin_text {w0 w : World} {p : Nat} {l : List UInt8} {er : Int} (n : Int) (h : OpIn w0 w p l er) (hll : l.length < 1000000) :
    Calls Tryd.prog 30 #[.pointer (some ⟨p, 0, none⟩), .int .i64 n] w (OpPost w0 p (.string ⟨(oTake l er n).1.toArray⟩) (oTake l er n).2.1 (oTake l er n).2.2) := h.step fun v hp => text_all p v l er n w hp hll
theorem opin_num {w0 w : World} {p : Nat} {l : List UInt8} {er : Int} (n : Int) (h : OpIn w0 w p l er) (hll : l.length < 1000000) :
    Calls Tryd.prog 31 #[.pointer (some ⟨p, 0, none⟩), .int .i64 n] w (OpPost w0 p (.int .u64 (valTo (oNum l er n).1 (oNum l er n).1.length)) (oNum l er n).2.1 (oNum l er n).2.2) := h.step fun v hp => num_all p v l er n w hp hll
theorem opin_err {w0 w : World} {p : Nat} {l : List UInt8} {er : Int} (h : OpIn w0 w p l er) :
    Calls Tryd.prog 32 #[.pointer (some ⟨p, 0, none⟩)] w fun e w' => e = .returned (.int .i64 er) ∧ w = w' := by
  obtain ⟨⟨v, hp, hf⟩, hle, hk⟩ := h
  exact err_all p v l er w hp
theorem opin_left {w0 w : World} {p : Nat} {l : List UInt8} {er : Int} (h : OpIn w0 w p l er) :
    Calls Tryd.prog 45 #[.pointer (some ⟨p, 0, none⟩)] w fun e w' => e = .returned (.int .i64 l.length) ∧ w = w' := by
  obtain ⟨⟨v, hp, hf⟩, hle, hk⟩ := h
  exact left_all p v l er w hp
theorem opin_end {w0 w : World} {p : Nat} {l : List UInt8} {er : Int} (h : OpIn w0 w p l er) :
    Calls Tryd.prog 46 #[.pointer (some ⟨p, 0, none⟩)] w fun e w' => e = .returned (.int .i64 (oEnd l er)) ∧ w = w' := by
  obtain ⟨⟨v, hp, hf⟩, hle, hk⟩ := h
  exact end_all p v l er w hp

theorem opin_new {w w1 : World} {ao : Option Addr} {cp : Nat} {l : List UInt8} (ho : w1.ownsRow 0 5 1 (.slice ao l.length cp) l.length (bytesV l)) (hk : Keeps No w w1) (hf : ∀ k, (Value.slice ao l.length cp).ownBlock = some k → w.heap.size ≤ k) :
    OpIn w (w1.alloc (.cells #[.slice ao l.length cp, .int .i64 0] 157)) w1.heap.size l 0 := by
  refine ⟨⟨_, ⟨heap_alloc_new _ _, (Own.rd ho).keeps (keeps_alloc _ _) (fun _ _ h => h), fun e => ?_⟩, hf⟩, hk.size, hk.alloc _⟩
  have := own_lt ho _ e
  omega
set_option maxRecDepth 20000 in
set_option maxHeartbeats 400000 in
theorem of_any (v : Value) (l : List UInt8) (w : World) (hv : Rd w 1 v l.length (bytesV l)) (hl : l.length < 1000000) :
    Calls Tryd.prog 29 #[v] w fun e w' => ∃ p, OpPost w p (.pointer (some ⟨p, 0, none⟩)) l 0 e w' := by
  have HV := Lib.hid hv; clear hv
  go_enter Tryd.func29, Tryd.ntmps29
  go_wp2_with (go_at_call 79; refine (clone_any v l _ HV.out hl).mono ?_; rintro e w1 ⟨ao, cp, rfl, ho, hk, hf⟩)
  go_ret
  exact ⟨_, rfl, opin_new ho hk hf⟩
end Go.Proofs.YtpniohbjgpncmaaDoor
