/-
  DERIVED. GIVEN WITH THE SEED: THE CARDS: each row of YtidnikjkpbmhhaaDoorRows.lean that lists a variable, with what it lists TIED to the program's text (the seventh form; the later family's looks); each row that meets fmt, with fmt's text TOLD by the authors' own Lean function (tested against real Go, not proved from fmt's source: count such statements apart). THE CARD IS WHAT COUNTS. Prove the row's statement (the work); the ties are given (YtidnikjkpbmhhaaDoorTie.lean); close each card by the builder's one call (the guide's Derived/Test/ToyasCard.lean, 'card_holds'). Laid BY PROGRAM, IN A SANDBOX (cutbox-door.mjs). By AI agents, Wed Nov 11 2026. No macro, syntax, notation, axiom, sorry.
-/
import Derived.Test.YtidnikjkpbmhhaaDoorRows
import GoSem.ClaimSeven
namespace Go.Proofs.YtidnikjkpbmhhaaDoor
namespace Rows

/-- THE TIED CARD OF 'bioscopelaw01.ReelOrders'. -/
def reelOrdersCard : Claim7 := { stood := { row := reelOrdersRow, standIns := [], harness := (true, "40dba98e98a0f7c2fca7cc71b36ab838aede0d565b62e8fcd4ee4deccee27ae3"), looks := false }, kinds := [], alts := [], laidByText := true, laidKinds := [.funcs, .data, .data], laidTests := true, laidLooks := .later }
def ReelOrdersCardSaid : Prop := Claim7.holds Tryd.pinned (.plain (OpenSpec.ofChange reelOrdersSpec)) reelOrdersCard

/-- THE TIED CARD OF 'bioscopelaw01.ReelPlaces'. -/
def reelPlacesCard : Claim7 := { stood := { row := reelPlacesRow, standIns := [], harness := (true, "40dba98e98a0f7c2fca7cc71b36ab838aede0d565b62e8fcd4ee4deccee27ae3"), looks := false }, kinds := [], alts := [], laidByText := true, laidKinds := [.funcs, .data, .data], laidTests := true, laidLooks := .later }
def ReelPlacesCardSaid : Prop := Claim7.holds Tryd.pinned (.plain (OpenSpec.ofChange reelPlacesSpec)) reelPlacesCard

/-- THE TIED CARD OF 'bioscopelaw01.ReelFeet'. -/
def reelFeetCard : Claim7 := { stood := { row := reelFeetRow, standIns := [], harness := (true, "40dba98e98a0f7c2fca7cc71b36ab838aede0d565b62e8fcd4ee4deccee27ae3"), looks := false }, kinds := [], alts := [], laidByText := true, laidKinds := [.funcs, .data, .data], laidTests := true, laidLooks := .later }
def ReelFeetCardSaid : Prop := Claim7.holds Tryd.pinned (.plain (OpenSpec.ofChange reelFeetSpec)) reelFeetCard

/-- THE TIED CARD OF 'bioscopelaw01.ReelTimes'. -/
def reelTimesCard : Claim7 := { stood := { row := reelTimesRow, standIns := [], harness := (true, "40dba98e98a0f7c2fca7cc71b36ab838aede0d565b62e8fcd4ee4deccee27ae3"), looks := false }, kinds := [], alts := [], laidByText := true, laidKinds := [.funcs, .data, .data], laidTests := true, laidLooks := .later }
def ReelTimesCardSaid : Prop := Claim7.holds Tryd.pinned (.plain (OpenSpec.ofChange reelTimesSpec)) reelTimesCard

/-- THE TIED CARD OF 'bioscopelaw01.ReelMixed'. -/
def reelMixedCard : Claim7 := { stood := { row := reelMixedRow, standIns := [], harness := (true, "40dba98e98a0f7c2fca7cc71b36ab838aede0d565b62e8fcd4ee4deccee27ae3"), looks := false }, kinds := [], alts := [], laidByText := true, laidKinds := [.funcs, .data, .data], laidTests := true, laidLooks := .later }
def ReelMixedCardSaid : Prop := Claim7.holds Tryd.pinned (.plain (OpenSpec.ofChange reelMixedSpec)) reelMixedCard

/-- THE TIED CARD OF 'bioscopelaw01.ReelFirst'. -/
def reelFirstCard : Claim7 := { stood := { row := reelFirstRow, standIns := [], harness := (true, "40dba98e98a0f7c2fca7cc71b36ab838aede0d565b62e8fcd4ee4deccee27ae3"), looks := false }, kinds := [], alts := [], laidByText := true, laidKinds := [.funcs, .data, .data], laidTests := true, laidLooks := .later }
def ReelFirstCardSaid : Prop := Claim7.holds Tryd.pinned (.plain (OpenSpec.ofChange reelFirstSpec)) reelFirstCard

/-- THE TIED CARD OF 'bioscopelaw01.ReelStrange'. -/
def reelStrangeCard : Claim7 := { stood := { row := reelStrangeRow, standIns := [], harness := (true, "40dba98e98a0f7c2fca7cc71b36ab838aede0d565b62e8fcd4ee4deccee27ae3"), looks := false }, kinds := [], alts := [], laidByText := true, laidKinds := [.funcs, .data, .data], laidTests := true, laidLooks := .later }
def ReelStrangeCardSaid : Prop := Claim7.holds Tryd.pinned (.plain (OpenSpec.ofChange reelStrangeSpec)) reelStrangeCard

/-- THE TIED CARD OF 'bioscopelaw01.ReelNarrow'. -/
def reelNarrowCard : Claim7 := { stood := { row := reelNarrowRow, standIns := [], harness := (true, "40dba98e98a0f7c2fca7cc71b36ab838aede0d565b62e8fcd4ee4deccee27ae3"), looks := false }, kinds := [], alts := [], laidByText := true, laidKinds := [.funcs, .data, .data], laidTests := true, laidLooks := .later }
def ReelNarrowCardSaid : Prop := Claim7.holds Tryd.pinned (.plain (OpenSpec.ofChange reelNarrowSpec)) reelNarrowCard

/-- THE TIED CARD OF 'bioscopelaw01.ReelTorn'. -/
def reelTornCard : Claim7 := { stood := { row := reelTornRow, standIns := [], harness := (true, "40dba98e98a0f7c2fca7cc71b36ab838aede0d565b62e8fcd4ee4deccee27ae3"), looks := false }, kinds := [], alts := [], laidByText := true, laidKinds := [.funcs, .data, .data], laidTests := true, laidLooks := .later }
def ReelTornCardSaid : Prop := Claim7.holds Tryd.pinned (.plain (OpenSpec.ofChange reelTornSpec)) reelTornCard

/-- THE TIED CARD OF 'bioscopelaw01.ReelEnds'. -/
def reelEndsCard : Claim7 := { stood := { row := reelEndsRow, standIns := [], harness := (true, "40dba98e98a0f7c2fca7cc71b36ab838aede0d565b62e8fcd4ee4deccee27ae3"), looks := false }, kinds := [], alts := [], laidByText := true, laidKinds := [.funcs, .data, .data], laidTests := true, laidLooks := .later }
def ReelEndsCardSaid : Prop := Claim7.holds Tryd.pinned (.plain (OpenSpec.ofChange reelEndsSpec)) reelEndsCard

/-- THE TIED CARD OF 'bioscopelaw01.ReelTime'. -/
def reelTimeCard : Claim7 := { stood := { row := reelTimeRow, standIns := [], harness := (true, "40dba98e98a0f7c2fca7cc71b36ab838aede0d565b62e8fcd4ee4deccee27ae3"), looks := false }, kinds := [], alts := [], laidByText := true, laidKinds := [.funcs, .data, .data], laidTests := true, laidLooks := .later }
def ReelTimeCardSaid : Prop := Claim7.holds Tryd.pinned (.plain (OpenSpec.ofChange reelTimeSpec)) reelTimeCard

/-- THE TIED CARD OF 'bioscopelaw01.ReelSpools'. -/
def reelSpoolsCard : Claim7 := { stood := { row := reelSpoolsRow, standIns := [], harness := (true, "40dba98e98a0f7c2fca7cc71b36ab838aede0d565b62e8fcd4ee4deccee27ae3"), looks := false }, kinds := [], alts := [], laidByText := true, laidKinds := [.funcs, .data, .data], laidTests := true, laidLooks := .later }
def ReelSpoolsCardSaid : Prop := Claim7.holds Tryd.pinned (.plain (OpenSpec.ofChange reelSpoolsSpec)) reelSpoolsCard

/-- THE TIED CARD OF 'bioscopelaw01.ReelKnown'. -/
def reelKnownCard : Claim7 := { stood := { row := reelKnownRow, standIns := [], harness := (true, "40dba98e98a0f7c2fca7cc71b36ab838aede0d565b62e8fcd4ee4deccee27ae3"), looks := false }, kinds := [], alts := [], laidByText := true, laidKinds := [.funcs, .data, .data], laidTests := true, laidLooks := .later }
def ReelKnownCardSaid : Prop := Claim7.holds Tryd.pinned (.plain (OpenSpec.ofChange reelKnownSpec)) reelKnownCard

/-- THE SECOND FORM's CARD OF 'bioscopelaw01.ReelOrders'. -/
def reelOrdersUptoCard : Claim7 := { stood := { row := reelOrdersUptoRow, standIns := [], harness := (true, "40dba98e98a0f7c2fca7cc71b36ab838aede0d565b62e8fcd4ee4deccee27ae3"), looks := false }, kinds := [], alts := [], laidByText := true, laidKinds := [.funcs, .data, .data], laidTests := true, laidLooks := .later }
def ReelOrdersUptoCardSaid : Prop := Claim7.holds Tryd.pinned (.plain (OpenSpec.upto reelOrdersSpec)) reelOrdersUptoCard

/-- THE SECOND FORM's CARD OF 'bioscopelaw01.ReelPlaces'. -/
def reelPlacesUptoCard : Claim7 := { stood := { row := reelPlacesUptoRow, standIns := [], harness := (true, "40dba98e98a0f7c2fca7cc71b36ab838aede0d565b62e8fcd4ee4deccee27ae3"), looks := false }, kinds := [], alts := [], laidByText := true, laidKinds := [.funcs, .data, .data], laidTests := true, laidLooks := .later }
def ReelPlacesUptoCardSaid : Prop := Claim7.holds Tryd.pinned (.plain (OpenSpec.upto reelPlacesSpec)) reelPlacesUptoCard

/-- THE SECOND FORM's CARD OF 'bioscopelaw01.ReelFeet'. -/
def reelFeetUptoCard : Claim7 := { stood := { row := reelFeetUptoRow, standIns := [], harness := (true, "40dba98e98a0f7c2fca7cc71b36ab838aede0d565b62e8fcd4ee4deccee27ae3"), looks := false }, kinds := [], alts := [], laidByText := true, laidKinds := [.funcs, .data, .data], laidTests := true, laidLooks := .later }
def ReelFeetUptoCardSaid : Prop := Claim7.holds Tryd.pinned (.plain (OpenSpec.upto reelFeetSpec)) reelFeetUptoCard

/-- THE SECOND FORM's CARD OF 'bioscopelaw01.ReelTimes'. -/
def reelTimesUptoCard : Claim7 := { stood := { row := reelTimesUptoRow, standIns := [], harness := (true, "40dba98e98a0f7c2fca7cc71b36ab838aede0d565b62e8fcd4ee4deccee27ae3"), looks := false }, kinds := [], alts := [], laidByText := true, laidKinds := [.funcs, .data, .data], laidTests := true, laidLooks := .later }
def ReelTimesUptoCardSaid : Prop := Claim7.holds Tryd.pinned (.plain (OpenSpec.upto reelTimesSpec)) reelTimesUptoCard

/-- THE SECOND FORM's CARD OF 'bioscopelaw01.ReelMixed'. -/
def reelMixedUptoCard : Claim7 := { stood := { row := reelMixedUptoRow, standIns := [], harness := (true, "40dba98e98a0f7c2fca7cc71b36ab838aede0d565b62e8fcd4ee4deccee27ae3"), looks := false }, kinds := [], alts := [], laidByText := true, laidKinds := [.funcs, .data, .data], laidTests := true, laidLooks := .later }
def ReelMixedUptoCardSaid : Prop := Claim7.holds Tryd.pinned (.plain (OpenSpec.upto reelMixedSpec)) reelMixedUptoCard

/-- THE SECOND FORM's CARD OF 'bioscopelaw01.ReelFirst'. -/
def reelFirstUptoCard : Claim7 := { stood := { row := reelFirstUptoRow, standIns := [], harness := (true, "40dba98e98a0f7c2fca7cc71b36ab838aede0d565b62e8fcd4ee4deccee27ae3"), looks := false }, kinds := [], alts := [], laidByText := true, laidKinds := [.funcs, .data, .data], laidTests := true, laidLooks := .later }
def ReelFirstUptoCardSaid : Prop := Claim7.holds Tryd.pinned (.plain (OpenSpec.upto reelFirstSpec)) reelFirstUptoCard

/-- THE SECOND FORM's CARD OF 'bioscopelaw01.ReelStrange'. -/
def reelStrangeUptoCard : Claim7 := { stood := { row := reelStrangeUptoRow, standIns := [], harness := (true, "40dba98e98a0f7c2fca7cc71b36ab838aede0d565b62e8fcd4ee4deccee27ae3"), looks := false }, kinds := [], alts := [], laidByText := true, laidKinds := [.funcs, .data, .data], laidTests := true, laidLooks := .later }
def ReelStrangeUptoCardSaid : Prop := Claim7.holds Tryd.pinned (.plain (OpenSpec.upto reelStrangeSpec)) reelStrangeUptoCard

/-- THE SECOND FORM's CARD OF 'bioscopelaw01.ReelNarrow'. -/
def reelNarrowUptoCard : Claim7 := { stood := { row := reelNarrowUptoRow, standIns := [], harness := (true, "40dba98e98a0f7c2fca7cc71b36ab838aede0d565b62e8fcd4ee4deccee27ae3"), looks := false }, kinds := [], alts := [], laidByText := true, laidKinds := [.funcs, .data, .data], laidTests := true, laidLooks := .later }
def ReelNarrowUptoCardSaid : Prop := Claim7.holds Tryd.pinned (.plain (OpenSpec.upto reelNarrowSpec)) reelNarrowUptoCard

/-- THE SECOND FORM's CARD OF 'bioscopelaw01.ReelTorn'. -/
def reelTornUptoCard : Claim7 := { stood := { row := reelTornUptoRow, standIns := [], harness := (true, "40dba98e98a0f7c2fca7cc71b36ab838aede0d565b62e8fcd4ee4deccee27ae3"), looks := false }, kinds := [], alts := [], laidByText := true, laidKinds := [.funcs, .data, .data], laidTests := true, laidLooks := .later }
def ReelTornUptoCardSaid : Prop := Claim7.holds Tryd.pinned (.plain (OpenSpec.upto reelTornSpec)) reelTornUptoCard

/-- THE SECOND FORM's CARD OF 'bioscopelaw01.ReelEnds'. -/
def reelEndsUptoCard : Claim7 := { stood := { row := reelEndsUptoRow, standIns := [], harness := (true, "40dba98e98a0f7c2fca7cc71b36ab838aede0d565b62e8fcd4ee4deccee27ae3"), looks := false }, kinds := [], alts := [], laidByText := true, laidKinds := [.funcs, .data, .data], laidTests := true, laidLooks := .later }
def ReelEndsUptoCardSaid : Prop := Claim7.holds Tryd.pinned (.plain (OpenSpec.upto reelEndsSpec)) reelEndsUptoCard

/-- THE SECOND FORM's CARD OF 'bioscopelaw01.ReelTime'. -/
def reelTimeUptoCard : Claim7 := { stood := { row := reelTimeUptoRow, standIns := [], harness := (true, "40dba98e98a0f7c2fca7cc71b36ab838aede0d565b62e8fcd4ee4deccee27ae3"), looks := false }, kinds := [], alts := [], laidByText := true, laidKinds := [.funcs, .data, .data], laidTests := true, laidLooks := .later }
def ReelTimeUptoCardSaid : Prop := Claim7.holds Tryd.pinned (.plain (OpenSpec.upto reelTimeSpec)) reelTimeUptoCard

/-- THE SECOND FORM's CARD OF 'bioscopelaw01.ReelSpools'. -/
def reelSpoolsUptoCard : Claim7 := { stood := { row := reelSpoolsUptoRow, standIns := [], harness := (true, "40dba98e98a0f7c2fca7cc71b36ab838aede0d565b62e8fcd4ee4deccee27ae3"), looks := false }, kinds := [], alts := [], laidByText := true, laidKinds := [.funcs, .data, .data], laidTests := true, laidLooks := .later }
def ReelSpoolsUptoCardSaid : Prop := Claim7.holds Tryd.pinned (.plain (OpenSpec.upto reelSpoolsSpec)) reelSpoolsUptoCard

/-- THE SECOND FORM's CARD OF 'bioscopelaw01.ReelKnown'. -/
def reelKnownUptoCard : Claim7 := { stood := { row := reelKnownUptoRow, standIns := [], harness := (true, "40dba98e98a0f7c2fca7cc71b36ab838aede0d565b62e8fcd4ee4deccee27ae3"), looks := false }, kinds := [], alts := [], laidByText := true, laidKinds := [.funcs, .data, .data], laidTests := true, laidLooks := .later }
def ReelKnownUptoCardSaid : Prop := Claim7.holds Tryd.pinned (.plain (OpenSpec.upto reelKnownSpec)) reelKnownUptoCard
end Rows
end Go.Proofs.YtidnikjkpbmhhaaDoor
