/- What a reel can end with, as the evaluator walks it where the memo says nothing. -/
import Derived.Test.YtidnikjkpbmhhaaDoorCon
set_option linter.unusedVariables false
set_option maxRecDepth 4000
namespace Go.Proofs.YtidnikjkpbmhhaaDoor
namespace Ev

noncomputable def g97 : List AV → Option (Bool × AV)
  | [.agg [a0, .tok 0 t0 d0], a1] =>
    match dec tRF a0, castD tRF t0 d0, dec tSpot a1 with
    | some x0, some y0, some x1 => some (decide (x0 = y0) && ((lastOK x0 x1)), enc tSpan (lastF x0 x1))
    | _, _, _ => none
  | _ => none
noncomputable def lastT (x : Fi) (p : Int × Sp) : Option AV :=
  bif decide (0 ≤ p.1) && decide (p.1 < (x.1.length : Int)) then
    bif (decide ((if p.2.2 < (((x.1.getD p.1.toNat (((0 : Int), (0 : Int)), ((0 : Int), (0 : Int)), ((0 : Int), (0 : Int)))).1).2) then p.2.2 else (((x.1.getD p.1.toNat (((0 : Int), (0 : Int)), ((0 : Int), (0 : Int)), ((0 : Int), (0 : Int)))).1).2)) < (if (((x.1.getD p.1.toNat (((0 : Int), (0 : Int)), ((0 : Int), (0 : Int)), ((0 : Int), (0 : Int)))).1).1) < p.2.1 then p.2.1 else (((x.1.getD p.1.toNat (((0 : Int), (0 : Int)), ((0 : Int), (0 : Int)), ((0 : Int), (0 : Int)))).1).1)))) then
      bif decide (0 ≤ p.1) && (decide (p.1 < (x.1.length : Int)) && decide (((1 : Int), (0 : Int)) = lastF x p)) then
        some (.agg [.int (1 : Int), .int (0 : Int)])
      else
        none
    else
      bif (decide ((((x.1.getD p.1.toNat (((0 : Int), (0 : Int)), ((0 : Int), (0 : Int)), ((0 : Int), (0 : Int)))).2.1).2) < (if (((x.1.getD p.1.toNat (((0 : Int), (0 : Int)), ((0 : Int), (0 : Int)), ((0 : Int), (0 : Int)))).2.1).1) < (if (((x.1.getD p.1.toNat (((0 : Int), (0 : Int)), ((0 : Int), (0 : Int)), ((0 : Int), (0 : Int)))).1).1) < p.2.1 then p.2.1 else (((x.1.getD p.1.toNat (((0 : Int), (0 : Int)), ((0 : Int), (0 : Int)), ((0 : Int), (0 : Int)))).1).1)) then (if (((x.1.getD p.1.toNat (((0 : Int), (0 : Int)), ((0 : Int), (0 : Int)), ((0 : Int), (0 : Int)))).1).1) < p.2.1 then p.2.1 else (((x.1.getD p.1.toNat (((0 : Int), (0 : Int)), ((0 : Int), (0 : Int)), ((0 : Int), (0 : Int)))).1).1)) else (((x.1.getD p.1.toNat (((0 : Int), (0 : Int)), ((0 : Int), (0 : Int)), ((0 : Int), (0 : Int)))).2.1).1)))) then
        bif decide (0 ≤ p.1) && (decide (p.1 < (x.1.length : Int)) && decide (((1 : Int), (0 : Int)) = lastF x p)) then
          some (.agg [.int (1 : Int), .int (0 : Int)])
        else
          none
      else
        bif decide (0 ≤ p.1) && (decide (p.1 < (x.1.length : Int)) && decide (((if (((x.1.getD p.1.toNat (((0 : Int), (0 : Int)), ((0 : Int), (0 : Int)), ((0 : Int), (0 : Int)))).2.1).1) < (if (((x.1.getD p.1.toNat (((0 : Int), (0 : Int)), ((0 : Int), (0 : Int)), ((0 : Int), (0 : Int)))).1).1) < p.2.1 then p.2.1 else (((x.1.getD p.1.toNat (((0 : Int), (0 : Int)), ((0 : Int), (0 : Int)), ((0 : Int), (0 : Int)))).1).1)) then (if (((x.1.getD p.1.toNat (((0 : Int), (0 : Int)), ((0 : Int), (0 : Int)), ((0 : Int), (0 : Int)))).1).1) < p.2.1 then p.2.1 else (((x.1.getD p.1.toNat (((0 : Int), (0 : Int)), ((0 : Int), (0 : Int)), ((0 : Int), (0 : Int)))).1).1)) else (((x.1.getD p.1.toNat (((0 : Int), (0 : Int)), ((0 : Int), (0 : Int)), ((0 : Int), (0 : Int)))).2.1).1)), ((x.1.getD p.1.toNat (((0 : Int), (0 : Int)), ((0 : Int), (0 : Int)), ((0 : Int), (0 : Int)))).2.1).2) = lastF x p)) then
          some (.agg [.int (if (((x.1.getD p.1.toNat (((0 : Int), (0 : Int)), ((0 : Int), (0 : Int)), ((0 : Int), (0 : Int)))).2.1).1) < (if (((x.1.getD p.1.toNat (((0 : Int), (0 : Int)), ((0 : Int), (0 : Int)), ((0 : Int), (0 : Int)))).1).1) < p.2.1 then p.2.1 else (((x.1.getD p.1.toNat (((0 : Int), (0 : Int)), ((0 : Int), (0 : Int)), ((0 : Int), (0 : Int)))).1).1)) then (if (((x.1.getD p.1.toNat (((0 : Int), (0 : Int)), ((0 : Int), (0 : Int)), ((0 : Int), (0 : Int)))).1).1) < p.2.1 then p.2.1 else (((x.1.getD p.1.toNat (((0 : Int), (0 : Int)), ((0 : Int), (0 : Int)), ((0 : Int), (0 : Int)))).1).1)) else (((x.1.getD p.1.toNat (((0 : Int), (0 : Int)), ((0 : Int), (0 : Int)), ((0 : Int), (0 : Int)))).2.1).1)), .int (((x.1.getD p.1.toNat (((0 : Int), (0 : Int)), ((0 : Int), (0 : Int)), ((0 : Int), (0 : Int)))).2.1).2)])
        else
          none
  else
    none

end Ev
end Go.Proofs.YtidnikjkpbmhhaaDoor
