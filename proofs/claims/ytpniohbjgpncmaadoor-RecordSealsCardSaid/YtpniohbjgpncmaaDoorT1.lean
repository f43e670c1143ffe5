/- A head that was sealed is taken: conditions: none. -/
import Derived.Test.YtpniohbjgpncmaaDoorS6
import Derived.Test.YtpniohbjgpncmaaDoorR5
namespace Go.Proofs.YtpniohbjgpncmaaDoor
open Go.RowKit

theorem valTo_be2 (n : Nat) (h : n < 65536) : valTo (be 2 n) 2 = n := by
  simp [valTo, be, beTo, List.range_succ]
  omega
theorem valTo_be4 (n : Nat) (h : n < 4294967296) : valTo (be 4 n) 4 = n := by
  simp [valTo, be, beTo, List.range_succ]
  omega
theorem headBytes_parts (b u s : Nat) : ∃ T, headBytes b u s = [66, 79, 88, 49] ++ (be 2 b ++ (be 2 u ++ (be 4 s ++ T))) :=
  ⟨List.replicate 496 0 ++ be 4 (crcOf (headBody b u s)), by unfold headBytes; conv => lhs; lhs; unfold headBody headTop
                                                             simp only [List.append_assoc]⟩
theorem take_head (b u s : Nat) (hb : b < 65536) (hu : u < 65536) (hs : s < 4294967296) : tBox (headBytes b u s) = b ∧ tUsed (headBytes b u s) = u ∧ tSum (headBytes b u s) = s := by
  obtain ⟨T, hT⟩ := headBytes_parts b u s
  rw [hT]
  have e2 := be_length 2 b
  have e3 := be_length 2 u
  have e4 := be_length 4 s
  have d4 : ∀ (X : List UInt8), ([66, 79, 88, 49] ++ X : List UInt8).drop 4 = X := fun X => rfl
  have d6 : ∀ (X : List UInt8), ([66, 79, 88, 49] ++ (be 2 b ++ X) : List UInt8).drop 6 = X := fun X => by
    rw [show 6 = 4 + 2 by rfl, ← List.drop_drop, d4]; exact List.drop_left' e2
  have d8 : ∀ (X : List UInt8), ([66, 79, 88, 49] ++ (be 2 b ++ (be 2 u ++ X)) : List UInt8).drop 8 = X := fun X => by
    rw [show 8 = 6 + 2 by rfl, ← List.drop_drop, d6]; exact List.drop_left' e3
  refine ⟨?_, ?_, ?_⟩
  · unfold tBox; rw [d4, List.take_left' e2, valTo_be2 b hb]
  · unfold tUsed; rw [d6, List.take_left' e3, valTo_be2 u hu]
  · unfold tSum; rw [d8, List.take_left' e4, valTo_be4 s hs]
theorem takeVal_head (b u s : Nat) (hb : b < 65536) (hu : u ≤ 2048) (hs : s < 4294967296) : takeVal (headBytes b u s) = .tuple #[headVal b u s, .int .i64 0] := by
  obtain ⟨h1, h2, h3⟩ := take_head b u s hb (by omega) hs
  unfold takeVal
  have h : takeOk (headBytes b u s) = true := by
    unfold takeOk
    rw [h1, h2, h3]
    simp [hu]
  rw [if_pos h, h1, h2, h3]
end Go.Proofs.YtpniohbjgpncmaaDoor
