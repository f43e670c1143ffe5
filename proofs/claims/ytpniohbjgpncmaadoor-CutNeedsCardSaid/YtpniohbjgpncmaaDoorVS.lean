/- The tied card of CutNeeds: the law returns true at every input, its listed variables tied to the program's text: conditions: those of the row. -/
import Derived.Test.YtpniohbjgpncmaaDoorVR
import Derived.Test.YtpniohbjgpncmaaDoorTie
import Derived.Test.YtpniohbjgpncmaaDoorCards
import Derived.SevenTiedAt
namespace Go.Proofs.YtpniohbjgpncmaaDoor
open Go

theorem cutNeeds_card : Rows.CutNeedsCardSaid :=
  Claim7.holds_tied_plain_at .later [] [.data, .data] true (true, "fa193490b6d2f877daacd26c2dab57f7f515d1b4949f957e44c5d2ec21942318") false
    cutNeeds_holds (fun _ h => by cases h) (by kernel_rfl) (fun _ h => by cases h) cutNeeds_row_tie rfl ⟨rfl, rfl⟩ (by kernel_rfl) rfl
    (fun f fn hf hfn => by
      obtain rfl : f = 3 := Option.some.inj ((show Tryd.prog.funcNamed "armarium/armariumlaw21.CutNeeds" = some 3 by kernel_rfl).symm.trans hf) |>.symm
      obtain rfl : fn = Tryd.f3 := (Option.some.inj (Tryd.func3.symm.trans hfn)).symm
      exact ⟨by kernel_rfl, fun j t ht => by
        rw [Tryd.params3] at ht
        have h3 : t = 22 := by
          match j, ht with
          | 0, ht => simpa using ht.symm
          | n + 1, ht => simp at ht
        subst h3
        exact (show Tryd.prog.wantsStandIn 22 = false by kernel_rfl)⟩)
    (by kernel_rfl)
#print axioms cutNeeds_card
end Go.Proofs.YtpniohbjgpncmaaDoor
