/-
  DERIVED. GIVEN WITH THE SEED: THE CARDS: each row of YtpniohbjgpncmaaDoorRows.lean that lists a variable, with what it lists TIED to the program's text (the seventh form; the later family's looks); each row that meets fmt, with fmt's text TOLD by the authors' own Lean function (tested against real Go, not proved from fmt's source: count such statements apart). THE CARD IS WHAT COUNTS. Prove the row's statement (the work); the ties are given (YtpniohbjgpncmaaDoorTie.lean); close each card by the builder's one call (the guide's Derived/Test/ToyasCard.lean, 'card_holds'). Laid BY PROGRAM, IN A SANDBOX (cutbox-door.mjs). By AI agents, Wed Nov 11 2026. No macro, syntax, notation, axiom, sorry.
-/
import Derived.Test.YtpniohbjgpncmaaDoorRows
import GoSem.ClaimSeven
namespace Go.Proofs.YtpniohbjgpncmaaDoor
namespace Rows

/-- THE TIED CARD OF 'armariumlaw21.CutNeeds'. -/
def cutNeedsCard : Claim7 := { stood := { row := cutNeedsRow, standIns := [], harness := (true, "fa193490b6d2f877daacd26c2dab57f7f515d1b4949f957e44c5d2ec21942318"), looks := false }, kinds := [], alts := [], laidByText := true, laidKinds := [.data, .data], laidTests := true, laidLooks := .later }
def CutNeedsCardSaid : Prop := Claim7.holds Tryd.pinned (.plain (OpenSpec.ofChange cutNeedsSpec)) cutNeedsCard

/-- THE TIED CARD OF 'armariumlaw13.RecordSeals'. -/
def recordSealsCard : Claim7 := { stood := { row := recordSealsRow, standIns := [], harness := (true, "fa193490b6d2f877daacd26c2dab57f7f515d1b4949f957e44c5d2ec21942318"), looks := false }, kinds := [], alts := [], laidByText := true, laidKinds := [.data], laidTests := true, laidLooks := .later }
def RecordSealsCardSaid : Prop := Claim7.holds Tryd.pinned (.plain (OpenSpec.ofChange recordSealsSpec)) recordSealsCard

/-- THE TIED CARD OF 'armariumtop.TopLaid'. -/
def topLaidCard : Claim7 := { stood := { row := topLaidRow, standIns := [], harness := (true, "fa193490b6d2f877daacd26c2dab57f7f515d1b4949f957e44c5d2ec21942318"), looks := false }, kinds := [], alts := [], laidByText := true, laidKinds := [.data, .data], laidTests := true, laidLooks := .later }
def TopLaidCardSaid : Prop := Claim7.holds Tryd.pinned (.plain (OpenSpec.ofChange topLaidSpec)) topLaidCard

/-- THE TIED CARD OF 'armariumtop.TopChanged'. -/
def topChangedCard : Claim7 := { stood := { row := topChangedRow, standIns := [], harness := (true, "fa193490b6d2f877daacd26c2dab57f7f515d1b4949f957e44c5d2ec21942318"), looks := false }, kinds := [], alts := [], laidByText := true, laidKinds := [.data, .pinned], laidTests := true, laidLooks := .later }
def TopChangedCardSaid : Prop := Claim7.holds Tryd.pinned (.plain (OpenSpec.ofChange topChangedSpec)) topChangedCard

/-- THE SECOND FORM's CARD OF 'armariumlaw21.CutNeeds'. -/
def cutNeedsUptoCard : Claim7 := { stood := { row := cutNeedsUptoRow, standIns := [], harness := (true, "fa193490b6d2f877daacd26c2dab57f7f515d1b4949f957e44c5d2ec21942318"), looks := false }, kinds := [], alts := [], laidByText := true, laidKinds := [.data, .data], laidTests := true, laidLooks := .later }
def CutNeedsUptoCardSaid : Prop := Claim7.holds Tryd.pinned (.plain (OpenSpec.upto cutNeedsSpec)) cutNeedsUptoCard

/-- THE SECOND FORM's CARD OF 'armariumlaw13.RecordSeals'. -/
def recordSealsUptoCard : Claim7 := { stood := { row := recordSealsUptoRow, standIns := [], harness := (true, "fa193490b6d2f877daacd26c2dab57f7f515d1b4949f957e44c5d2ec21942318"), looks := false }, kinds := [], alts := [], laidByText := true, laidKinds := [.data], laidTests := true, laidLooks := .later }
def RecordSealsUptoCardSaid : Prop := Claim7.holds Tryd.pinned (.plain (OpenSpec.upto recordSealsSpec)) recordSealsUptoCard

/-- THE SECOND FORM's CARD OF 'armariumtop.TopLaid'. -/
def topLaidUptoCard : Claim7 := { stood := { row := topLaidUptoRow, standIns := [], harness := (true, "fa193490b6d2f877daacd26c2dab57f7f515d1b4949f957e44c5d2ec21942318"), looks := false }, kinds := [], alts := [], laidByText := true, laidKinds := [.data, .data], laidTests := true, laidLooks := .later }
def TopLaidUptoCardSaid : Prop := Claim7.holds Tryd.pinned (.plain (OpenSpec.upto topLaidSpec)) topLaidUptoCard

/-- THE SECOND FORM's CARD OF 'armariumtop.TopChanged'. -/
def topChangedUptoCard : Claim7 := { stood := { row := topChangedUptoRow, standIns := [], harness := (true, "fa193490b6d2f877daacd26c2dab57f7f515d1b4949f957e44c5d2ec21942318"), looks := false }, kinds := [], alts := [], laidByText := true, laidKinds := [.data, .pinned], laidTests := true, laidLooks := .later }
def TopChangedUptoCardSaid : Prop := Claim7.holds Tryd.pinned (.plain (OpenSpec.upto topChangedSpec)) topChangedUptoCard
end Rows
end Go.Proofs.YtpniohbjgpncmaaDoor
