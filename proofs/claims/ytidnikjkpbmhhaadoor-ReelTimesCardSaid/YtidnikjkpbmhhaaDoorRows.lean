/-
  NARROWER THAN 'FOR EVERY INPUT', by the rows' own cells (each row's printed sentence says how): ReelOrders: laid · ReelPlaces: laid · ReelFeet: laid · ReelTimes: laid · ReelMixed: laid · ReelFirst: laid · ReelStrange: laid · ReelNarrow: laid · ReelTorn: laid · ReelEnds: laid · ReelTime: laid · ReelSpools: laid · ReelKnown: laid.
  DERIVED. THE GIVEN ROWS OF THIS SEAT. 13 by the template 'for every input the law returns true; each argument reads behind the call as it read before'; 0 by the template 'total and deterministic' (their statements: YtidnikjkpbmhhaaDoorTotals.lean).
  GIVEN WITH THE SEED: the statements are not yours to turn. If you find one false, say at which input.
  Laid BY PROGRAM, IN A SANDBOX (cutbox-rows.mjs): the forced cells as the released guide's own fill.sh prints them over the translation ba7c7e2e8aff43de… (all of the seat's roots in one cut). By AI agents, Wed Nov 11 2026. No macro, syntax, notation, axiom, sorry.
-/
import Derived.Test.YtidnikjkpbmhhaaDoorChecked
import GoSem.Claim
import GoSem.ClaimJoined
import GoSem.ClaimMapViews
import Derived.JoinedTies
import Derived.KernelRfl
namespace Go.Proofs.YtidnikjkpbmhhaaDoor
/- THE CELL 'sum', in the pinned program and in every row, IS THE sha256 OF THE DUMP (.gsa) THAT YtidnikjkpbmhhaaDoorProg.lean LOADS. Nothing in Lean hashes anything: it is a label: what it is worth is what the hold of that sum in a sandbox is worth. -/
noncomputable def Tryd.pinned : Pinned := { name := "ytidnikjkpbmhhaadoor", sum := "ba7c7e2e8aff43debce16a9b35904669fe6dcf8aa94ed2b5c664c989fbdeb3ee", checked := Tryd.checked }
namespace Rows
def none {H : Type} : Left H := { results := [], args := [] }

/- WHAT THE LISTED PACKAGE-LEVEL VARIABLES READ AS WHEN THE CALL BEGINS. Each datum BY PROGRAM (the guide's laid-datum.mjs) off the statement by which the dump's own 'gosem.cut.vars' lays the variable. In a bare row this is a premise. The card (YtidnikjkpbmhhaaDoorCards.lean) ties it to the program's text. -/
def laid_bioscope_reel_ends {H : Type} : DataW H := .iface "func table" (.agg [.iface "func" (.lit (.string [40, 98, 105, 111, 115, 99, 111, 112, 101, 47, 114, 101, 101, 108, 46, 102, 105, 108, 109, 41, 46, 108, 101, 97, 115, 116])), .iface "func" (.lit (.string [40, 98, 105, 111, 115, 99, 111, 112, 101, 47, 114, 101, 101, 108, 46, 102, 105, 108, 109, 41, 46, 109, 111, 115, 116]))])
def laid_bioscope_reel_nowhere {H : Type} : DataW H := .agg [.lit (.int .i64 1), .lit (.int .i64 0)]
def laid_bioscope_reel_start {H : Type} : DataW H := .agg [.lit (.int .i64 (-1)), .lit (.int .i64 99)]

/-- 'bioscopelaw01.ReelOrders': WHATEVER THE INPUT: true; the input reads as it did. -/
def reelOrdersSpec : ChangeSpec := { name := "reelOrders", fn := fun _ => fun
  | [d1, d2] => { results := [.lit (.bool true)], args := [d1, d2] }
  | _ => none }
def reelOrdersRow : OpenClaim := { program := "ytidnikjkpbmhhaadoor", sum := "ba7c7e2e8aff43debce16a9b35904669fe6dcf8aa94ed2b5c664c989fbdeb3ee", func := "bioscope/bioscopelaw01.ReelOrders", spec := "reelOrders", unfollowed := true, recurses := true, named := ["bioscope/reel.start", "bioscope/reel.nowhere", "bioscope/reel.ends"], plainKeys := false, apart := false, laid := [("bioscope/reel.ends", laid_bioscope_reel_ends), ("bioscope/reel.nowhere", laid_bioscope_reel_nowhere), ("bioscope/reel.start", laid_bioscope_reel_start)] }
def ReelOrdersSaid : Prop := reelOrdersRow.holds Tryd.pinned (OpenSpec.ofChange reelOrdersSpec)

/-- ITS FALSE NEIGHBOUR: 'it returns false'. Refute it at one input. -/
def reelOrdersWrong : ChangeSpec := { name := "reelOrders", fn := fun _ => fun
  | [d1, d2] => { results := [.lit (.bool false)], args := [d1, d2] }
  | _ => none }
def ReelOrdersWrongFalsely : Prop := reelOrdersRow.holds Tryd.pinned (OpenSpec.ofChange reelOrdersWrong)

/-- 'bioscopelaw01.ReelPlaces': WHATEVER THE INPUT: true; the input reads as it did. -/
def reelPlacesSpec : ChangeSpec := { name := "reelPlaces", fn := fun _ => fun
  | [d1, d2] => { results := [.lit (.bool true)], args := [d1, d2] }
  | _ => none }
def reelPlacesRow : OpenClaim := { program := "ytidnikjkpbmhhaadoor", sum := "ba7c7e2e8aff43debce16a9b35904669fe6dcf8aa94ed2b5c664c989fbdeb3ee", func := "bioscope/bioscopelaw01.ReelPlaces", spec := "reelPlaces", unfollowed := true, recurses := true, named := ["bioscope/reel.start", "bioscope/reel.nowhere", "bioscope/reel.ends"], plainKeys := false, apart := false, laid := [("bioscope/reel.ends", laid_bioscope_reel_ends), ("bioscope/reel.nowhere", laid_bioscope_reel_nowhere), ("bioscope/reel.start", laid_bioscope_reel_start)] }
def ReelPlacesSaid : Prop := reelPlacesRow.holds Tryd.pinned (OpenSpec.ofChange reelPlacesSpec)

/-- ITS FALSE NEIGHBOUR: 'it returns false'. Refute it at one input. -/
def reelPlacesWrong : ChangeSpec := { name := "reelPlaces", fn := fun _ => fun
  | [d1, d2] => { results := [.lit (.bool false)], args := [d1, d2] }
  | _ => none }
def ReelPlacesWrongFalsely : Prop := reelPlacesRow.holds Tryd.pinned (OpenSpec.ofChange reelPlacesWrong)

/-- 'bioscopelaw01.ReelFeet': WHATEVER THE INPUT: true; the input reads as it did. -/
def reelFeetSpec : ChangeSpec := { name := "reelFeet", fn := fun _ => fun
  | [d1, d2] => { results := [.lit (.bool true)], args := [d1, d2] }
  | _ => none }
def reelFeetRow : OpenClaim := { program := "ytidnikjkpbmhhaadoor", sum := "ba7c7e2e8aff43debce16a9b35904669fe6dcf8aa94ed2b5c664c989fbdeb3ee", func := "bioscope/bioscopelaw01.ReelFeet", spec := "reelFeet", unfollowed := true, recurses := true, named := ["bioscope/reel.ends", "bioscope/reel.start", "bioscope/reel.nowhere"], plainKeys := false, apart := false, laid := [("bioscope/reel.ends", laid_bioscope_reel_ends), ("bioscope/reel.nowhere", laid_bioscope_reel_nowhere), ("bioscope/reel.start", laid_bioscope_reel_start)] }
def ReelFeetSaid : Prop := reelFeetRow.holds Tryd.pinned (OpenSpec.ofChange reelFeetSpec)

/-- ITS FALSE NEIGHBOUR: 'it returns false'. Refute it at one input. -/
def reelFeetWrong : ChangeSpec := { name := "reelFeet", fn := fun _ => fun
  | [d1, d2] => { results := [.lit (.bool false)], args := [d1, d2] }
  | _ => none }
def ReelFeetWrongFalsely : Prop := reelFeetRow.holds Tryd.pinned (OpenSpec.ofChange reelFeetWrong)

/-- 'bioscopelaw01.ReelTimes': WHATEVER THE INPUT: true; the input reads as it did. -/
def reelTimesSpec : ChangeSpec := { name := "reelTimes", fn := fun _ => fun
  | [d1, d2, d3] => { results := [.lit (.bool true)], args := [d1, d2, d3] }
  | _ => none }
def reelTimesRow : OpenClaim := { program := "ytidnikjkpbmhhaadoor", sum := "ba7c7e2e8aff43debce16a9b35904669fe6dcf8aa94ed2b5c664c989fbdeb3ee", func := "bioscope/bioscopelaw01.ReelTimes", spec := "reelTimes", unfollowed := true, recurses := true, named := ["bioscope/reel.ends", "bioscope/reel.start", "bioscope/reel.nowhere"], plainKeys := false, apart := false, laid := [("bioscope/reel.ends", laid_bioscope_reel_ends), ("bioscope/reel.nowhere", laid_bioscope_reel_nowhere), ("bioscope/reel.start", laid_bioscope_reel_start)] }
def ReelTimesSaid : Prop := reelTimesRow.holds Tryd.pinned (OpenSpec.ofChange reelTimesSpec)

/-- ITS FALSE NEIGHBOUR: 'it returns false'. Refute it at one input. -/
def reelTimesWrong : ChangeSpec := { name := "reelTimes", fn := fun _ => fun
  | [d1, d2, d3] => { results := [.lit (.bool false)], args := [d1, d2, d3] }
  | _ => none }
def ReelTimesWrongFalsely : Prop := reelTimesRow.holds Tryd.pinned (OpenSpec.ofChange reelTimesWrong)

/-- 'bioscopelaw01.ReelMixed': WHATEVER THE INPUT: true; the input reads as it did. -/
def reelMixedSpec : ChangeSpec := { name := "reelMixed", fn := fun _ => fun
  | [d1, d2, d3] => { results := [.lit (.bool true)], args := [d1, d2, d3] }
  | _ => none }
def reelMixedRow : OpenClaim := { program := "ytidnikjkpbmhhaadoor", sum := "ba7c7e2e8aff43debce16a9b35904669fe6dcf8aa94ed2b5c664c989fbdeb3ee", func := "bioscope/bioscopelaw01.ReelMixed", spec := "reelMixed", unfollowed := true, recurses := true, named := ["bioscope/reel.start", "bioscope/reel.nowhere", "bioscope/reel.ends"], plainKeys := false, apart := false, laid := [("bioscope/reel.ends", laid_bioscope_reel_ends), ("bioscope/reel.nowhere", laid_bioscope_reel_nowhere), ("bioscope/reel.start", laid_bioscope_reel_start)] }
def ReelMixedSaid : Prop := reelMixedRow.holds Tryd.pinned (OpenSpec.ofChange reelMixedSpec)

/-- ITS FALSE NEIGHBOUR: 'it returns false'. Refute it at one input. -/
def reelMixedWrong : ChangeSpec := { name := "reelMixed", fn := fun _ => fun
  | [d1, d2, d3] => { results := [.lit (.bool false)], args := [d1, d2, d3] }
  | _ => none }
def ReelMixedWrongFalsely : Prop := reelMixedRow.holds Tryd.pinned (OpenSpec.ofChange reelMixedWrong)

/-- 'bioscopelaw01.ReelFirst': WHATEVER THE INPUT: true; the input reads as it did. -/
def reelFirstSpec : ChangeSpec := { name := "reelFirst", fn := fun _ => fun
  | [d1, d2] => { results := [.lit (.bool true)], args := [d1, d2] }
  | _ => none }
def reelFirstRow : OpenClaim := { program := "ytidnikjkpbmhhaadoor", sum := "ba7c7e2e8aff43debce16a9b35904669fe6dcf8aa94ed2b5c664c989fbdeb3ee", func := "bioscope/bioscopelaw01.ReelFirst", spec := "reelFirst", unfollowed := true, recurses := true, named := ["bioscope/reel.start", "bioscope/reel.nowhere", "bioscope/reel.ends"], plainKeys := false, apart := false, laid := [("bioscope/reel.ends", laid_bioscope_reel_ends), ("bioscope/reel.nowhere", laid_bioscope_reel_nowhere), ("bioscope/reel.start", laid_bioscope_reel_start)] }
def ReelFirstSaid : Prop := reelFirstRow.holds Tryd.pinned (OpenSpec.ofChange reelFirstSpec)

/-- ITS FALSE NEIGHBOUR: 'it returns false'. Refute it at one input. -/
def reelFirstWrong : ChangeSpec := { name := "reelFirst", fn := fun _ => fun
  | [d1, d2] => { results := [.lit (.bool false)], args := [d1, d2] }
  | _ => none }
def ReelFirstWrongFalsely : Prop := reelFirstRow.holds Tryd.pinned (OpenSpec.ofChange reelFirstWrong)

/-- 'bioscopelaw01.ReelStrange': WHATEVER THE INPUT: true; the input reads as it did. -/
def reelStrangeSpec : ChangeSpec := { name := "reelStrange", fn := fun _ => fun
  | [d1, d2] => { results := [.lit (.bool true)], args := [d1, d2] }
  | _ => none }
def reelStrangeRow : OpenClaim := { program := "ytidnikjkpbmhhaadoor", sum := "ba7c7e2e8aff43debce16a9b35904669fe6dcf8aa94ed2b5c664c989fbdeb3ee", func := "bioscope/bioscopelaw01.ReelStrange", spec := "reelStrange", unfollowed := true, recurses := true, named := ["bioscope/reel.start", "bioscope/reel.nowhere", "bioscope/reel.ends"], plainKeys := false, apart := false, laid := [("bioscope/reel.ends", laid_bioscope_reel_ends), ("bioscope/reel.nowhere", laid_bioscope_reel_nowhere), ("bioscope/reel.start", laid_bioscope_reel_start)] }
def ReelStrangeSaid : Prop := reelStrangeRow.holds Tryd.pinned (OpenSpec.ofChange reelStrangeSpec)

/-- ITS FALSE NEIGHBOUR: 'it returns false'. Refute it at one input. -/
def reelStrangeWrong : ChangeSpec := { name := "reelStrange", fn := fun _ => fun
  | [d1, d2] => { results := [.lit (.bool false)], args := [d1, d2] }
  | _ => none }
def ReelStrangeWrongFalsely : Prop := reelStrangeRow.holds Tryd.pinned (OpenSpec.ofChange reelStrangeWrong)

/-- 'bioscopelaw01.ReelNarrow': WHATEVER THE INPUT: true; the input reads as it did. -/
def reelNarrowSpec : ChangeSpec := { name := "reelNarrow", fn := fun _ => fun
  | [d1, d2] => { results := [.lit (.bool true)], args := [d1, d2] }
  | _ => none }
def reelNarrowRow : OpenClaim := { program := "ytidnikjkpbmhhaadoor", sum := "ba7c7e2e8aff43debce16a9b35904669fe6dcf8aa94ed2b5c664c989fbdeb3ee", func := "bioscope/bioscopelaw01.ReelNarrow", spec := "reelNarrow", unfollowed := true, recurses := true, named := ["bioscope/reel.start", "bioscope/reel.nowhere", "bioscope/reel.ends"], plainKeys := false, apart := false, laid := [("bioscope/reel.ends", laid_bioscope_reel_ends), ("bioscope/reel.nowhere", laid_bioscope_reel_nowhere), ("bioscope/reel.start", laid_bioscope_reel_start)] }
def ReelNarrowSaid : Prop := reelNarrowRow.holds Tryd.pinned (OpenSpec.ofChange reelNarrowSpec)

/-- ITS FALSE NEIGHBOUR: 'it returns false'. Refute it at one input. -/
def reelNarrowWrong : ChangeSpec := { name := "reelNarrow", fn := fun _ => fun
  | [d1, d2] => { results := [.lit (.bool false)], args := [d1, d2] }
  | _ => none }
def ReelNarrowWrongFalsely : Prop := reelNarrowRow.holds Tryd.pinned (OpenSpec.ofChange reelNarrowWrong)

/-- 'bioscopelaw01.ReelTorn': WHATEVER THE INPUT: true; the input reads as it did. -/
def reelTornSpec : ChangeSpec := { name := "reelTorn", fn := fun _ => fun
  | [d1, d2, d3, d4] => { results := [.lit (.bool true)], args := [d1, d2, d3, d4] }
  | _ => none }
def reelTornRow : OpenClaim := { program := "ytidnikjkpbmhhaadoor", sum := "ba7c7e2e8aff43debce16a9b35904669fe6dcf8aa94ed2b5c664c989fbdeb3ee", func := "bioscope/bioscopelaw01.ReelTorn", spec := "reelTorn", unfollowed := true, recurses := true, named := ["bioscope/reel.start", "bioscope/reel.nowhere", "bioscope/reel.ends"], plainKeys := false, apart := false, laid := [("bioscope/reel.ends", laid_bioscope_reel_ends), ("bioscope/reel.nowhere", laid_bioscope_reel_nowhere), ("bioscope/reel.start", laid_bioscope_reel_start)] }
def ReelTornSaid : Prop := reelTornRow.holds Tryd.pinned (OpenSpec.ofChange reelTornSpec)

/-- ITS FALSE NEIGHBOUR: 'it returns false'. Refute it at one input. -/
def reelTornWrong : ChangeSpec := { name := "reelTorn", fn := fun _ => fun
  | [d1, d2, d3, d4] => { results := [.lit (.bool false)], args := [d1, d2, d3, d4] }
  | _ => none }
def ReelTornWrongFalsely : Prop := reelTornRow.holds Tryd.pinned (OpenSpec.ofChange reelTornWrong)

/-- 'bioscopelaw01.ReelEnds': WHATEVER THE INPUT: true; the input reads as it did. -/
def reelEndsSpec : ChangeSpec := { name := "reelEnds", fn := fun _ => fun
  | [d1, d2] => { results := [.lit (.bool true)], args := [d1, d2] }
  | _ => none }
def reelEndsRow : OpenClaim := { program := "ytidnikjkpbmhhaadoor", sum := "ba7c7e2e8aff43debce16a9b35904669fe6dcf8aa94ed2b5c664c989fbdeb3ee", func := "bioscope/bioscopelaw01.ReelEnds", spec := "reelEnds", unfollowed := true, recurses := true, named := ["bioscope/reel.start", "bioscope/reel.nowhere", "bioscope/reel.ends"], plainKeys := false, apart := false, laid := [("bioscope/reel.ends", laid_bioscope_reel_ends), ("bioscope/reel.nowhere", laid_bioscope_reel_nowhere), ("bioscope/reel.start", laid_bioscope_reel_start)] }
def ReelEndsSaid : Prop := reelEndsRow.holds Tryd.pinned (OpenSpec.ofChange reelEndsSpec)

/-- ITS FALSE NEIGHBOUR: 'it returns false'. Refute it at one input. -/
def reelEndsWrong : ChangeSpec := { name := "reelEnds", fn := fun _ => fun
  | [d1, d2] => { results := [.lit (.bool false)], args := [d1, d2] }
  | _ => none }
def ReelEndsWrongFalsely : Prop := reelEndsRow.holds Tryd.pinned (OpenSpec.ofChange reelEndsWrong)

/-- 'bioscopelaw01.ReelTime': WHATEVER THE INPUT: true; the input reads as it did. -/
def reelTimeSpec : ChangeSpec := { name := "reelTime", fn := fun _ => fun
  | [d1, d2, d3] => { results := [.lit (.bool true)], args := [d1, d2, d3] }
  | _ => none }
def reelTimeRow : OpenClaim := { program := "ytidnikjkpbmhhaadoor", sum := "ba7c7e2e8aff43debce16a9b35904669fe6dcf8aa94ed2b5c664c989fbdeb3ee", func := "bioscope/bioscopelaw01.ReelTime", spec := "reelTime", unfollowed := true, recurses := true, named := ["bioscope/reel.start", "bioscope/reel.nowhere", "bioscope/reel.ends"], plainKeys := false, apart := false, laid := [("bioscope/reel.ends", laid_bioscope_reel_ends), ("bioscope/reel.nowhere", laid_bioscope_reel_nowhere), ("bioscope/reel.start", laid_bioscope_reel_start)] }
def ReelTimeSaid : Prop := reelTimeRow.holds Tryd.pinned (OpenSpec.ofChange reelTimeSpec)

/-- ITS FALSE NEIGHBOUR: 'it returns false'. Refute it at one input. -/
def reelTimeWrong : ChangeSpec := { name := "reelTime", fn := fun _ => fun
  | [d1, d2, d3] => { results := [.lit (.bool false)], args := [d1, d2, d3] }
  | _ => none }
def ReelTimeWrongFalsely : Prop := reelTimeRow.holds Tryd.pinned (OpenSpec.ofChange reelTimeWrong)

/-- 'bioscopelaw01.ReelSpools': WHATEVER THE INPUT: true; the input reads as it did. -/
def reelSpoolsSpec : ChangeSpec := { name := "reelSpools", fn := fun _ => fun
  | [d1, d2, d3] => { results := [.lit (.bool true)], args := [d1, d2, d3] }
  | _ => none }
def reelSpoolsRow : OpenClaim := { program := "ytidnikjkpbmhhaadoor", sum := "ba7c7e2e8aff43debce16a9b35904669fe6dcf8aa94ed2b5c664c989fbdeb3ee", func := "bioscope/bioscopelaw01.ReelSpools", spec := "reelSpools", unfollowed := true, recurses := true, named := ["bioscope/reel.start", "bioscope/reel.nowhere", "bioscope/reel.ends"], plainKeys := false, apart := false, laid := [("bioscope/reel.ends", laid_bioscope_reel_ends), ("bioscope/reel.nowhere", laid_bioscope_reel_nowhere), ("bioscope/reel.start", laid_bioscope_reel_start)] }
def ReelSpoolsSaid : Prop := reelSpoolsRow.holds Tryd.pinned (OpenSpec.ofChange reelSpoolsSpec)

/-- ITS FALSE NEIGHBOUR: 'it returns false'. Refute it at one input. -/
def reelSpoolsWrong : ChangeSpec := { name := "reelSpools", fn := fun _ => fun
  | [d1, d2, d3] => { results := [.lit (.bool false)], args := [d1, d2, d3] }
  | _ => none }
def ReelSpoolsWrongFalsely : Prop := reelSpoolsRow.holds Tryd.pinned (OpenSpec.ofChange reelSpoolsWrong)

/-- 'bioscopelaw01.ReelKnown': WHATEVER THE INPUT: true; the input reads as it did. -/
def reelKnownSpec : ChangeSpec := { name := "reelKnown", fn := fun _ => fun
  | [] => { results := [.lit (.bool true)], args := [] }
  | _ => none }
def reelKnownRow : OpenClaim := { program := "ytidnikjkpbmhhaadoor", sum := "ba7c7e2e8aff43debce16a9b35904669fe6dcf8aa94ed2b5c664c989fbdeb3ee", func := "bioscope/bioscopelaw01.ReelKnown", spec := "reelKnown", unfollowed := true, recurses := true, named := ["bioscope/reel.start", "bioscope/reel.nowhere", "bioscope/reel.ends"], plainKeys := false, apart := false, laid := [("bioscope/reel.ends", laid_bioscope_reel_ends), ("bioscope/reel.nowhere", laid_bioscope_reel_nowhere), ("bioscope/reel.start", laid_bioscope_reel_start)] }
def ReelKnownSaid : Prop := reelKnownRow.holds Tryd.pinned (OpenSpec.ofChange reelKnownSpec)

/-- ITS FALSE NEIGHBOUR: 'it returns false'. Refute it at one input. -/
def reelKnownWrong : ChangeSpec := { name := "reelKnown", fn := fun _ => fun
  | [] => { results := [.lit (.bool false)], args := [] }
  | _ => none }
def ReelKnownWrongFalsely : Prop := reelKnownRow.holds Tryd.pinned (OpenSpec.ofChange reelKnownWrong)

/- THE SECOND FORM. 'bulk': how many values and letters a reading holds, each counted each time it is reached (what is shared counts as often as it is met; a slice's spare places count too). A statement '..UptoSaid' is the law's where the arguments, and the package variables that the reading takes, are together of bulk at most 1048576: NARROWER than '..Said'. Prove '..Said' where nothing that the law and all that it calls make is longer than what came in: it says more and counts as full. Else prove '..UptoSaid'. A law counts once. -/
mutual
def uptoBulk {H : Type} : DataW H → Nat
  | .lit (.string bytes) => bytes.length + 1
  | .lit _ => 1
  | .nil => 1
  | .ptr d => uptoBulk d + 1
  | .slice elems spare => uptoBulkAll elems + uptoBulkAll spare + 1
  | .agg parts => uptoBulkAll parts + 1
  | .iface _ d => uptoBulk d + 1
  | .map entries => uptoBulkEntries entries + 1
  | .held _ => 1
def uptoBulkAll {H : Type} : List (DataW H) → Nat
  | [] => 0
  | d :: r => uptoBulk d + uptoBulkAll r
def uptoBulkEntries {H : Type} : List (Lit × DataW H) → Nat
  | [] => 0
  | x :: r => uptoBulkEntry x + uptoBulkEntries r
def uptoBulkEntry {H : Type} : Lit × DataW H → Nat
  | (.string bytes, d) => bytes.length + uptoBulk d + 1
  | (_, d) => uptoBulk d + 1
 end
def uptoSmall : (H : Type) → List (DataW H) → Bool := fun _ ds => decide (uptoBulkAll ds ≤ 1048576)
def OpenSpec.upto (s : _root_.Go.ChangeSpec) : _root_.Go.OpenSpec := { _root_.Go.OpenSpec.ofChange s with cond := some uptoSmall }

/-- 'bioscopelaw01.ReelOrders', WHERE WHAT IT READS IS OF BULK AT MOST 1048576: true; the input reads as it did. -/
def reelOrdersUptoRow : OpenClaim := { program := "ytidnikjkpbmhhaadoor", sum := "ba7c7e2e8aff43debce16a9b35904669fe6dcf8aa94ed2b5c664c989fbdeb3ee", func := "bioscope/bioscopelaw01.ReelOrders", spec := "reelOrders", unfollowed := true, recurses := true, named := ["bioscope/reel.start", "bioscope/reel.nowhere", "bioscope/reel.ends"], plainKeys := false, apart := false, laid := [("bioscope/reel.ends", laid_bioscope_reel_ends), ("bioscope/reel.nowhere", laid_bioscope_reel_nowhere), ("bioscope/reel.start", laid_bioscope_reel_start)], narrowed := true }
def ReelOrdersUptoSaid : Prop := reelOrdersUptoRow.holds Tryd.pinned (OpenSpec.upto reelOrdersSpec)

/-- 'bioscopelaw01.ReelPlaces', WHERE WHAT IT READS IS OF BULK AT MOST 1048576: true; the input reads as it did. -/
def reelPlacesUptoRow : OpenClaim := { program := "ytidnikjkpbmhhaadoor", sum := "ba7c7e2e8aff43debce16a9b35904669fe6dcf8aa94ed2b5c664c989fbdeb3ee", func := "bioscope/bioscopelaw01.ReelPlaces", spec := "reelPlaces", unfollowed := true, recurses := true, named := ["bioscope/reel.start", "bioscope/reel.nowhere", "bioscope/reel.ends"], plainKeys := false, apart := false, laid := [("bioscope/reel.ends", laid_bioscope_reel_ends), ("bioscope/reel.nowhere", laid_bioscope_reel_nowhere), ("bioscope/reel.start", laid_bioscope_reel_start)], narrowed := true }
def ReelPlacesUptoSaid : Prop := reelPlacesUptoRow.holds Tryd.pinned (OpenSpec.upto reelPlacesSpec)

/-- 'bioscopelaw01.ReelFeet', WHERE WHAT IT READS IS OF BULK AT MOST 1048576: true; the input reads as it did. -/
def reelFeetUptoRow : OpenClaim := { program := "ytidnikjkpbmhhaadoor", sum := "ba7c7e2e8aff43debce16a9b35904669fe6dcf8aa94ed2b5c664c989fbdeb3ee", func := "bioscope/bioscopelaw01.ReelFeet", spec := "reelFeet", unfollowed := true, recurses := true, named := ["bioscope/reel.ends", "bioscope/reel.start", "bioscope/reel.nowhere"], plainKeys := false, apart := false, laid := [("bioscope/reel.ends", laid_bioscope_reel_ends), ("bioscope/reel.nowhere", laid_bioscope_reel_nowhere), ("bioscope/reel.start", laid_bioscope_reel_start)], narrowed := true }
def ReelFeetUptoSaid : Prop := reelFeetUptoRow.holds Tryd.pinned (OpenSpec.upto reelFeetSpec)

/-- 'bioscopelaw01.ReelTimes', WHERE WHAT IT READS IS OF BULK AT MOST 1048576: true; the input reads as it did. -/
def reelTimesUptoRow : OpenClaim := { program := "ytidnikjkpbmhhaadoor", sum := "ba7c7e2e8aff43debce16a9b35904669fe6dcf8aa94ed2b5c664c989fbdeb3ee", func := "bioscope/bioscopelaw01.ReelTimes", spec := "reelTimes", unfollowed := true, recurses := true, named := ["bioscope/reel.ends", "bioscope/reel.start", "bioscope/reel.nowhere"], plainKeys := false, apart := false, laid := [("bioscope/reel.ends", laid_bioscope_reel_ends), ("bioscope/reel.nowhere", laid_bioscope_reel_nowhere), ("bioscope/reel.start", laid_bioscope_reel_start)], narrowed := true }
def ReelTimesUptoSaid : Prop := reelTimesUptoRow.holds Tryd.pinned (OpenSpec.upto reelTimesSpec)

/-- 'bioscopelaw01.ReelMixed', WHERE WHAT IT READS IS OF BULK AT MOST 1048576: true; the input reads as it did. -/
def reelMixedUptoRow : OpenClaim := { program := "ytidnikjkpbmhhaadoor", sum := "ba7c7e2e8aff43debce16a9b35904669fe6dcf8aa94ed2b5c664c989fbdeb3ee", func := "bioscope/bioscopelaw01.ReelMixed", spec := "reelMixed", unfollowed := true, recurses := true, named := ["bioscope/reel.start", "bioscope/reel.nowhere", "bioscope/reel.ends"], plainKeys := false, apart := false, laid := [("bioscope/reel.ends", laid_bioscope_reel_ends), ("bioscope/reel.nowhere", laid_bioscope_reel_nowhere), ("bioscope/reel.start", laid_bioscope_reel_start)], narrowed := true }
def ReelMixedUptoSaid : Prop := reelMixedUptoRow.holds Tryd.pinned (OpenSpec.upto reelMixedSpec)

/-- 'bioscopelaw01.ReelFirst', WHERE WHAT IT READS IS OF BULK AT MOST 1048576: true; the input reads as it did. -/
def reelFirstUptoRow : OpenClaim := { program := "ytidnikjkpbmhhaadoor", sum := "ba7c7e2e8aff43debce16a9b35904669fe6dcf8aa94ed2b5c664c989fbdeb3ee", func := "bioscope/bioscopelaw01.ReelFirst", spec := "reelFirst", unfollowed := true, recurses := true, named := ["bioscope/reel.start", "bioscope/reel.nowhere", "bioscope/reel.ends"], plainKeys := false, apart := false, laid := [("bioscope/reel.ends", laid_bioscope_reel_ends), ("bioscope/reel.nowhere", laid_bioscope_reel_nowhere), ("bioscope/reel.start", laid_bioscope_reel_start)], narrowed := true }
def ReelFirstUptoSaid : Prop := reelFirstUptoRow.holds Tryd.pinned (OpenSpec.upto reelFirstSpec)

/-- 'bioscopelaw01.ReelStrange', WHERE WHAT IT READS IS OF BULK AT MOST 1048576: true; the input reads as it did. -/
def reelStrangeUptoRow : OpenClaim := { program := "ytidnikjkpbmhhaadoor", sum := "ba7c7e2e8aff43debce16a9b35904669fe6dcf8aa94ed2b5c664c989fbdeb3ee", func := "bioscope/bioscopelaw01.ReelStrange", spec := "reelStrange", unfollowed := true, recurses := true, named := ["bioscope/reel.start", "bioscope/reel.nowhere", "bioscope/reel.ends"], plainKeys := false, apart := false, laid := [("bioscope/reel.ends", laid_bioscope_reel_ends), ("bioscope/reel.nowhere", laid_bioscope_reel_nowhere), ("bioscope/reel.start", laid_bioscope_reel_start)], narrowed := true }
def ReelStrangeUptoSaid : Prop := reelStrangeUptoRow.holds Tryd.pinned (OpenSpec.upto reelStrangeSpec)

/-- 'bioscopelaw01.ReelNarrow', WHERE WHAT IT READS IS OF BULK AT MOST 1048576: true; the input reads as it did. -/
def reelNarrowUptoRow : OpenClaim := { program := "ytidnikjkpbmhhaadoor", sum := "ba7c7e2e8aff43debce16a9b35904669fe6dcf8aa94ed2b5c664c989fbdeb3ee", func := "bioscope/bioscopelaw01.ReelNarrow", spec := "reelNarrow", unfollowed := true, recurses := true, named := ["bioscope/reel.start", "bioscope/reel.nowhere", "bioscope/reel.ends"], plainKeys := false, apart := false, laid := [("bioscope/reel.ends", laid_bioscope_reel_ends), ("bioscope/reel.nowhere", laid_bioscope_reel_nowhere), ("bioscope/reel.start", laid_bioscope_reel_start)], narrowed := true }
def ReelNarrowUptoSaid : Prop := reelNarrowUptoRow.holds Tryd.pinned (OpenSpec.upto reelNarrowSpec)

/-- 'bioscopelaw01.ReelTorn', WHERE WHAT IT READS IS OF BULK AT MOST 1048576: true; the input reads as it did. -/
def reelTornUptoRow : OpenClaim := { program := "ytidnikjkpbmhhaadoor", sum := "ba7c7e2e8aff43debce16a9b35904669fe6dcf8aa94ed2b5c664c989fbdeb3ee", func := "bioscope/bioscopelaw01.ReelTorn", spec := "reelTorn", unfollowed := true, recurses := true, named := ["bioscope/reel.start", "bioscope/reel.nowhere", "bioscope/reel.ends"], plainKeys := false, apart := false, laid := [("bioscope/reel.ends", laid_bioscope_reel_ends), ("bioscope/reel.nowhere", laid_bioscope_reel_nowhere), ("bioscope/reel.start", laid_bioscope_reel_start)], narrowed := true }
def ReelTornUptoSaid : Prop := reelTornUptoRow.holds Tryd.pinned (OpenSpec.upto reelTornSpec)

/-- 'bioscopelaw01.ReelEnds', WHERE WHAT IT READS IS OF BULK AT MOST 1048576: true; the input reads as it did. -/
def reelEndsUptoRow : OpenClaim := { program := "ytidnikjkpbmhhaadoor", sum := "ba7c7e2e8aff43debce16a9b35904669fe6dcf8aa94ed2b5c664c989fbdeb3ee", func := "bioscope/bioscopelaw01.ReelEnds", spec := "reelEnds", unfollowed := true, recurses := true, named := ["bioscope/reel.start", "bioscope/reel.nowhere", "bioscope/reel.ends"], plainKeys := false, apart := false, laid := [("bioscope/reel.ends", laid_bioscope_reel_ends), ("bioscope/reel.nowhere", laid_bioscope_reel_nowhere), ("bioscope/reel.start", laid_bioscope_reel_start)], narrowed := true }
def ReelEndsUptoSaid : Prop := reelEndsUptoRow.holds Tryd.pinned (OpenSpec.upto reelEndsSpec)

/-- 'bioscopelaw01.ReelTime', WHERE WHAT IT READS IS OF BULK AT MOST 1048576: true; the input reads as it did. -/
def reelTimeUptoRow : OpenClaim := { program := "ytidnikjkpbmhhaadoor", sum := "ba7c7e2e8aff43debce16a9b35904669fe6dcf8aa94ed2b5c664c989fbdeb3ee", func := "bioscope/bioscopelaw01.ReelTime", spec := "reelTime", unfollowed := true, recurses := true, named := ["bioscope/reel.start", "bioscope/reel.nowhere", "bioscope/reel.ends"], plainKeys := false, apart := false, laid := [("bioscope/reel.ends", laid_bioscope_reel_ends), ("bioscope/reel.nowhere", laid_bioscope_reel_nowhere), ("bioscope/reel.start", laid_bioscope_reel_start)], narrowed := true }
def ReelTimeUptoSaid : Prop := reelTimeUptoRow.holds Tryd.pinned (OpenSpec.upto reelTimeSpec)

/-- 'bioscopelaw01.ReelSpools', WHERE WHAT IT READS IS OF BULK AT MOST 1048576: true; the input reads as it did. -/
def reelSpoolsUptoRow : OpenClaim := { program := "ytidnikjkpbmhhaadoor", sum := "ba7c7e2e8aff43debce16a9b35904669fe6dcf8aa94ed2b5c664c989fbdeb3ee", func := "bioscope/bioscopelaw01.ReelSpools", spec := "reelSpools", unfollowed := true, recurses := true, named := ["bioscope/reel.start", "bioscope/reel.nowhere", "bioscope/reel.ends"], plainKeys := false, apart := false, laid := [("bioscope/reel.ends", laid_bioscope_reel_ends), ("bioscope/reel.nowhere", laid_bioscope_reel_nowhere), ("bioscope/reel.start", laid_bioscope_reel_start)], narrowed := true }
def ReelSpoolsUptoSaid : Prop := reelSpoolsUptoRow.holds Tryd.pinned (OpenSpec.upto reelSpoolsSpec)

/-- 'bioscopelaw01.ReelKnown', WHERE WHAT IT READS IS OF BULK AT MOST 1048576: true; the input reads as it did. -/
def reelKnownUptoRow : OpenClaim := { program := "ytidnikjkpbmhhaadoor", sum := "ba7c7e2e8aff43debce16a9b35904669fe6dcf8aa94ed2b5c664c989fbdeb3ee", func := "bioscope/bioscopelaw01.ReelKnown", spec := "reelKnown", unfollowed := true, recurses := true, named := ["bioscope/reel.start", "bioscope/reel.nowhere", "bioscope/reel.ends"], plainKeys := false, apart := false, laid := [("bioscope/reel.ends", laid_bioscope_reel_ends), ("bioscope/reel.nowhere", laid_bioscope_reel_nowhere), ("bioscope/reel.start", laid_bioscope_reel_start)], narrowed := true }
def ReelKnownUptoSaid : Prop := reelKnownUptoRow.holds Tryd.pinned (OpenSpec.upto reelKnownSpec)

end Rows
end Go.Proofs.YtidnikjkpbmhhaaDoor
