/- The tied card of RecordSeals: the law returns true at every input, its listed variable tied to the program's text: conditions: those of the row. -/
import Derived.Test.YtpniohbjgpncmaaDoorT5
import Derived.Test.YtpniohbjgpncmaaDoorTie
import Derived.Test.YtpniohbjgpncmaaDoorCards
import Derived.SevenTiedAt
namespace Go.Proofs.YtpniohbjgpncmaaDoor
open Go

theorem recordSeals_card : Rows.RecordSealsCardSaid :=
  Claim7.holds_tied_plain_at .later [] [.data] true (true, "fa193490b6d2f877daacd26c2dab57f7f515d1b4949f957e44c5d2ec21942318") false
    recordSeals_holds (fun _ h => by cases h) (by kernel_rfl) (fun _ h => by cases h) recordSeals_row_tie rfl ⟨rfl, rfl⟩ (by kernel_rfl) rfl
    (fun f fn hf hfn => by
      obtain rfl : f = 4 := Option.some.inj ((show Tryd.prog.funcNamed "armarium/armariumlaw13.RecordSeals" = some 4 by kernel_rfl).symm.trans hf) |>.symm
      obtain rfl : fn = Tryd.f4 := (Option.some.inj (Tryd.func4.symm.trans hfn)).symm
      exact ⟨by kernel_rfl, fun j t ht => by
        rw [Tryd.params4] at ht
        have h3 : t = 3 ∨ t = 9 := by
          match j, ht with
          | 0, ht => left; simpa using ht.symm
          | 1, ht => right; simpa using ht.symm
          | 2, ht => right; simpa using ht.symm
          | n + 3, ht => simp at ht
        rcases h3 with rfl | rfl
        · exact (show Tryd.prog.wantsStandIn 3 = false by kernel_rfl)
        · exact (show Tryd.prog.wantsStandIn 9 = false by kernel_rfl)⟩)
    (by kernel_rfl)
#print axioms recordSeals_card
end Go.Proofs.YtpniohbjgpncmaaDoor
