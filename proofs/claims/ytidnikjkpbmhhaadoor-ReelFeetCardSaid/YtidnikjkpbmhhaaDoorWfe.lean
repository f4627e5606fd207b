/- Reels, feet and showings, as the evaluator walks them. -/
import Derived.Test.YtidnikjkpbmhhaaDoorGon
import Derived.Test.YtidnikjkpbmhhaaDoorLat
import Derived.Test.YtidnikjkpbmhhaaDoorPfe
set_option linter.unusedVariables false
set_option maxRecDepth 4000
namespace Go.Proofs.YtidnikjkpbmhhaaDoor
namespace Ev

noncomputable def g53 : List AV → Option (Bool × AV)
  | [a0, a1] =>
    match dec .int a0, dec .int a1 with
    | some x0, some x1 => some (true, enc tSpan (mk2 x0 x1))
    | _, _ => none
  | _ => none
noncomputable def g55 : List AV → Option (Bool × AV)
  | [a0, a1, a2] =>
    match dec .int a0, dec .int a1, dec .int a2 with
    | some x0, some x1, some x2 => some (true, enc .bool (amid x0 x1 x2))
    | _, _, _ => none
  | _ => none
noncomputable def g56 : List AV → Option (Bool × AV)
  | [a0, a1] =>
    match dec tSpan a0, dec .int a1 with
    | some x0, some x1 => some (true, enc .bool (holds x0 x1))
    | _, _ => none
  | _ => none
noncomputable def g58 : List AV → Option (Bool × AV)
  | [a0] =>
    match dec tSpan a0 with
    | some x0 => some (true, enc .bool (emptyS x0))
    | _ => none
  | _ => none
noncomputable def g68 : List AV → Option (Bool × AV)
  | [a0, a1, a2] =>
    match dec .int a0, dec .int a1, dec .int a2 with
    | some x0, some x1, some x2 => some (true, enc .bool (amid x0 x1 x2))
    | _, _, _ => none
  | _ => none
noncomputable def g69 : List AV → Option (Bool × AV)
  | [a0, a1, a2] =>
    match dec tSpan a0, dec .int a1, dec .int a2 with
    | some x0, some x1, some x2 => some (true, enc .bool (legal x0 x1 x2))
    | _, _, _ => none
  | _ => none
noncomputable def g70 : List AV → Option (Bool × AV)
  | [a0, a1, a2] =>
    match dec tSpan a0, dec .int a1, dec .int a2 with
    | some x0, some x1, some x2 => some (true, enc .bool (legal x0 x1 x2))
    | _, _, _ => none
  | _ => none
noncomputable def g86 : List AV → Option (Bool × AV)
  | [a0] =>
    match dec tRF a0 with
    | some x0 => some (true, .agg [enc tRF (openF x0), .tok 0 tRF (openF x0)])
    | _ => none
  | _ => none
noncomputable def g117 : List AV → Option (Bool × AV)
  | [.agg [a0, .tok 0 t0 d0], a1, a2] =>
    match dec tRF a0, castD tRF t0 d0, dec .int a1, dec .int a2 with
    | some x0, some y0, some x1, some x2 => some (decide (x0 = y0) && ((inReels3 x0 x1 x2)), enc .int (leastI x0 x1 x2))
    | _, _, _, _ => none
  | _ => none
noncomputable def g119 : List AV → Option (Bool × AV)
  | [.agg [a0, .tok 0 t0 d0], a1, a2] =>
    match dec tRF a0, castD tRF t0 d0, dec .int a1, dec .int a2 with
    | some x0, some y0, some x1, some x2 => some (decide (x0 = y0) && ((inReels3 x0 x1 x2)), enc .int (mostI x0 x1 x2))
    | _, _, _, _ => none
  | _ => none
noncomputable def g80 : List AV → Option (Bool × AV)
  | [.agg [a0, .tok 0 t0 d0], a1, a2] =>
    match dec tRF a0, castD tRF t0 d0, dec .int a1, dec .int a2 with
    | some x0, some y0, some x1, some x2 => some (decide (x0 = y0) && ((inReels3 x0 x1 x2)), enc tSpan (wornS x0 x1 x2))
    | _, _, _, _ => none
  | _ => none
noncomputable def g81 : List AV → Option (Bool × AV)
  | [a0, a1, a2] =>
    match dec tRF a0, dec .int a1, dec .int a2 with
    | some x0, some x1, some x2 => some ((inReels3 x0 x1 x2), enc tSpan (wornS x0 x1 x2))
    | _, _, _ => none
  | _ => none
noncomputable def g18 : List AV → Option (Bool × AV)
  | [a0] =>
    match dec tRF a0 with
    | some x0 => some ((chkOK x0), enc .int (checkI x0))
    | _ => none
  | _ => none
noncomputable def g19 : List AV → Option (Bool × AV)
  | [a0] =>
    match dec tRF a0 with
    | some x0 => some ((chkOK x0), enc .int (checkI x0))
    | _ => none
  | _ => none
noncomputable def g62 : List AV → Option (Bool × AV)
  | [a0, a1] =>
    match dec tRF a0, dec .bool a1 with
    | some x0, some x1 => some ((askOK x0 x1), .tup [.agg [enc tRF ((askedF x0 x1).1), .tok 0 tRF ((askedF x0 x1).1)], enc .int ((askedF x0 x1).2)])
    | _, _ => none
  | _ => none
noncomputable def g65 : List AV → Option (Bool × AV)
  | [a0, a1] =>
    match dec tRF a0, dec .bool a1 with
    | some x0, some x1 => some ((askOK x0 x1), enc .int (askedI x0 x1))
    | _, _ => none
  | _ => none
noncomputable def g78 : List AV → Option (Bool × AV)
  | [a0, a1] =>
    match dec tRF a0, dec .int a1 with
    | some x0, some x1 => some (true, enc .bool (isReelB x0 x1))
    | _, _ => none
  | _ => none
noncomputable def g30 : List AV → Option (Bool × AV)
  | [a0, a1, a2] =>
    match dec tRF a0, dec .int a1, dec .int a2 with
    | some x0, some x1, some x2 => some ((chkOK3 x0 x1 x2), .tup [enc tSpan ((WornI x0 x1 x2).1), enc .int ((WornI x0 x1 x2).2)])
    | _, _, _ => none
  | _ => none
noncomputable def g31 : List AV → Option (Bool × AV)
  | [a0, a1, a2] =>
    match dec tRF a0, dec .int a1, dec .int a2 with
    | some x0, some x1, some x2 => some ((chkOK3 x0 x1 x2), .tup [enc tSpan ((WornI x0 x1 x2).1), enc .int ((WornI x0 x1 x2).2)])
    | _, _, _ => none
  | _ => none
noncomputable def g32 : List AV → Option (Bool × AV)
  | [a0, a1, a2] =>
    match dec tRF a0, dec .int a1, dec .int a2 with
    | some x0, some x1, some x2 => some ((chkOK3 x0 x1 x2), .tup [enc .int ((ShowsI x0 x1 x2).1), enc .int ((ShowsI x0 x1 x2).2.1), enc .int ((ShowsI x0 x1 x2).2.2)])
    | _, _, _ => none
  | _ => none
noncomputable def g33 : List AV → Option (Bool × AV)
  | [a0, a1, a2] =>
    match dec tRF a0, dec .int a1, dec .int a2 with
    | some x0, some x1, some x2 => some ((chkOK3 x0 x1 x2), .tup [enc .int ((ShowsI x0 x1 x2).1), enc .int ((ShowsI x0 x1 x2).2.1), enc .int ((ShowsI x0 x1 x2).2.2)])
    | _, _, _ => none
  | _ => none
noncomputable def g34 : List AV → Option (Bool × AV)
  | [a0, a1, a2] =>
    match dec tRF a0, dec .int a1, dec .int a2 with
    | some x0, some x1, some x2 => some ((chkOK3 x0 x1 x2), .tup [enc tSpan ((SeenI x0 x1 x2).1), enc .int ((SeenI x0 x1 x2).2)])
    | _, _, _ => none
  | _ => none
noncomputable def g35 : List AV → Option (Bool × AV)
  | [a0, a1, a2] =>
    match dec tRF a0, dec .int a1, dec .int a2 with
    | some x0, some x1, some x2 => some ((chkOK3 x0 x1 x2), .tup [enc tSpan ((SeenI x0 x1 x2).1), enc .int ((SeenI x0 x1 x2).2)])
    | _, _, _ => none
  | _ => none
noncomputable def X77 : Ctx := { T := TT, G := GG, C := [], L := [] }
noncomputable def f77_s : Option (AV) :=
  some (.arr .bool 6 (List.replicate 6 false))

noncomputable def f77_T : Option (AV) := f77_s

theorem f77_ev (N : Nat) : evF X77 N Tryd.f77 [] = f77_T := by
  have h : evF X77 N Tryd.f77 [] = f77_s := by kernel_rfl
  rw [h]
  rfl
noncomputable def X88 : Ctx := { T := TT, G := GG, C := [(97, g97)], L := [] }
noncomputable def f88_s (a0 : ((List ((Int × Int) × (Int × Int) × (Int × Int))) × (Int × Int) × (Int × Int) × Int)) (a1 : Int) (a2 : (Int × Int)) : Option (AV) :=
  bif decide (a0 = a0) && ((lastOK a0 (a1, (a2.1, (w64 (a2.2 + (1 : Int))))))) then
    some (.tup [enc tSpan (lastF a0 (a1, (a2.1, (w64 (a2.2 + (1 : Int)))))), .bool (!((decide ((lastF a0 (a1, (a2.1, (w64 (a2.2 + (1 : Int)))))).1 = (1 : Int))) && ((decide ((lastF a0 (a1, (a2.1, (w64 (a2.2 + (1 : Int)))))).2 = (0 : Int))) && true)))])
  else
    none

noncomputable def f88_T (a0 : ((List ((Int × Int) × (Int × Int) × (Int × Int))) × (Int × Int) × (Int × Int) × Int)) (a1 : Int) (a2 : (Int × Int)) : Option (AV) := f88_s a0 a1 a2

theorem f88_ev (a0 : ((List ((Int × Int) × (Int × Int) × (Int × Int))) × (Int × Int) × (Int × Int) × Int)) (a1 : Int) (a2 : (Int × Int)) (N : Nat) : evF X88 N Tryd.f88 [.agg [enc tRF a0, .tok 0 tRF a0], enc .int a1, enc tSpan a2] = f88_T a0 a1 a2 := by
  have h : evF X88 N Tryd.f88 [.agg [enc tRF a0, .tok 0 tRF a0], enc .int a1, enc tSpan a2] = f88_s a0 a1 a2 := by kernel_rfl
  rw [h]
  rfl
noncomputable def X53 : Ctx := { T := TT, G := GG, C := [], L := [] }
noncomputable def f53_s (a0 : Int) (a1 : Int) : Option (AV) :=
  some (.agg [.int a0, .int a1])

noncomputable def f53_T (a0 : Int) (a1 : Int) : Option (AV) := f53_s a0 a1

theorem f53_ev (a0 : Int) (a1 : Int) (N : Nat) : evF X53 N Tryd.f53 [enc .int a0, enc .int a1] = f53_T a0 a1 := by
  have h : evF X53 N Tryd.f53 [enc .int a0, enc .int a1] = f53_s a0 a1 := by kernel_rfl
  rw [h]
  rfl
noncomputable def X55 : Ctx := { T := TT, G := GG, C := [], L := [] }
noncomputable def f55_s (a0 : Int) (a1 : Int) (a2 : Int) : Option (AV) :=
  bif (decide (a1 ≤ a0)) then
    some (.bool (decide (a0 ≤ a2)))
  else
    some (.bool false)

noncomputable def f55_T (a0 : Int) (a1 : Int) (a2 : Int) : Option (AV) := f55_s a0 a1 a2

theorem f55_ev (a0 : Int) (a1 : Int) (a2 : Int) (N : Nat) : evF X55 N Tryd.f55 [enc .int a0, enc .int a1, enc .int a2] = f55_T a0 a1 a2 := by
  have h : evF X55 N Tryd.f55 [enc .int a0, enc .int a1, enc .int a2] = f55_s a0 a1 a2 := by kernel_rfl
  rw [h]
  rfl
noncomputable def X56 : Ctx := { T := TT, G := GG, C := [(55, g55)], L := [] }
noncomputable def f56_s (a0 : (Int × Int)) (a1 : Int) : Option (AV) :=
  some (.bool (amid a1 a0.1 a0.2))

noncomputable def f56_T (a0 : (Int × Int)) (a1 : Int) : Option (AV) := f56_s a0 a1

theorem f56_ev (a0 : (Int × Int)) (a1 : Int) (N : Nat) : evF X56 N Tryd.f56 [enc tSpan a0, enc .int a1] = f56_T a0 a1 := by
  have h : evF X56 N Tryd.f56 [enc tSpan a0, enc .int a1] = f56_s a0 a1 := by kernel_rfl
  rw [h]
  rfl
noncomputable def X58 : Ctx := { T := TT, G := GG, C := [], L := [] }
noncomputable def f58_s (a0 : (Int × Int)) : Option (AV) :=
  some (.bool (decide (a0.2 < a0.1)))

noncomputable def f58_T (a0 : (Int × Int)) : Option (AV) := f58_s a0

theorem f58_ev (a0 : (Int × Int)) (N : Nat) : evF X58 N Tryd.f58 [enc tSpan a0] = f58_T a0 := by
  have h : evF X58 N Tryd.f58 [enc tSpan a0] = f58_s a0 := by kernel_rfl
  rw [h]
  rfl
noncomputable def X68 : Ctx := { T := TT, G := GG, C := [], L := [] }
noncomputable def f68_s (a0 : Int) (a1 : Int) (a2 : Int) : Option (AV) :=
  bif (decide (a1 ≤ a0)) then
    some (.bool (decide (a0 ≤ a2)))
  else
    some (.bool false)

noncomputable def f68_T (a0 : Int) (a1 : Int) (a2 : Int) : Option (AV) := f68_s a0 a1 a2

theorem f68_ev (a0 : Int) (a1 : Int) (a2 : Int) (N : Nat) : evF X68 N Tryd.f68 [enc .int a0, enc .int a1, enc .int a2] = f68_T a0 a1 a2 := by
  have h : evF X68 N Tryd.f68 [enc .int a0, enc .int a1, enc .int a2] = f68_s a0 a1 a2 := by kernel_rfl
  rw [h]
  rfl
noncomputable def X69 : Ctx := { T := TT, G := GG, C := [], L := [] }
noncomputable def f69_s (a0 : (Int × Int)) (a1 : Int) (a2 : Int) : Option (AV) :=
  bif (decide (a1 ≤ a0.1)) then
    bif (decide (a0.1 ≤ a0.2)) then
      some (.bool (decide (a0.2 ≤ a2)))
    else
      some (.bool false)
  else
    some (.bool false)

noncomputable def f69_T (a0 : (Int × Int)) (a1 : Int) (a2 : Int) : Option (AV) := f69_s a0 a1 a2

theorem f69_ev (a0 : (Int × Int)) (a1 : Int) (a2 : Int) (N : Nat) : evF X69 N Tryd.f69 [enc tSpan a0, enc .int a1, enc .int a2] = f69_T a0 a1 a2 := by
  have h : evF X69 N Tryd.f69 [enc tSpan a0, enc .int a1, enc .int a2] = f69_s a0 a1 a2 := by kernel_rfl
  rw [h]
  rfl
noncomputable def X70 : Ctx := { T := TT, G := GG, C := [], L := [] }
noncomputable def f70_s (a0 : (Int × Int)) (a1 : Int) (a2 : Int) : Option (AV) :=
  bif (decide (a1 ≤ a0.1)) then
    bif (decide (a0.1 ≤ a0.2)) then
      some (.bool (decide (a0.2 ≤ a2)))
    else
      some (.bool false)
  else
    some (.bool false)

noncomputable def f70_T (a0 : (Int × Int)) (a1 : Int) (a2 : Int) : Option (AV) := f70_s a0 a1 a2

theorem f70_ev (a0 : (Int × Int)) (a1 : Int) (a2 : Int) (N : Nat) : evF X70 N Tryd.f70 [enc tSpan a0, enc .int a1, enc .int a2] = f70_T a0 a1 a2 := by
  have h : evF X70 N Tryd.f70 [enc tSpan a0, enc .int a1, enc .int a2] = f70_s a0 a1 a2 := by kernel_rfl
  rw [h]
  rfl
noncomputable def X86 (x : Fi) : Ctx := { T := TT, G := GG, C := [], L := [], mkm := some ⟨tRF, x⟩ }
theorem f86_ev (x : Fi) (N : Nat) : evF (X86 x) N Tryd.f86 [enc tRF x] = some (.agg [enc tRF x, .tok 0 tRF x]) := by kernel_rfl
noncomputable def X117 : Ctx := { T := TT, G := GG, C := [], L := [] }
noncomputable def f117_s (a0 : ((List ((Int × Int) × (Int × Int) × (Int × Int))) × (Int × Int) × (Int × Int) × Int)) (a1 : Int) (a2 : Int) : Option (AV) :=
  bif decide (0 ≤ a1) && decide (a1 < (a0.1.length : Int)) then
    some (.int (if (0 : Int) < (w64 ((((a0.1.getD a1.toNat (((0 : Int), (0 : Int)), ((0 : Int), (0 : Int)), ((0 : Int), (0 : Int)))).2.2).1) - (w64 (a2 * a0.2.2.1.2)))) then (w64 ((((a0.1.getD a1.toNat (((0 : Int), (0 : Int)), ((0 : Int), (0 : Int)), ((0 : Int), (0 : Int)))).2.2).1) - (w64 (a2 * a0.2.2.1.2)))) else (0 : Int)))
  else
    none

noncomputable def f117_T (a0 : ((List ((Int × Int) × (Int × Int) × (Int × Int))) × (Int × Int) × (Int × Int) × Int)) (a1 : Int) (a2 : Int) : Option (AV) := f117_s a0 a1 a2

theorem f117_ev (a0 : ((List ((Int × Int) × (Int × Int) × (Int × Int))) × (Int × Int) × (Int × Int) × Int)) (a1 : Int) (a2 : Int) (N : Nat) : evF X117 N Tryd.f117 [.agg [enc tRF a0, .tok 0 tRF a0], enc .int a1, enc .int a2] = f117_T a0 a1 a2 := by
  have h : evF X117 N Tryd.f117 [.agg [enc tRF a0, .tok 0 tRF a0], enc .int a1, enc .int a2] = f117_s a0 a1 a2 := by kernel_rfl
  rw [h]
  rfl
noncomputable def X119 : Ctx := { T := TT, G := GG, C := [], L := [] }
noncomputable def f119_s (a0 : ((List ((Int × Int) × (Int × Int) × (Int × Int))) × (Int × Int) × (Int × Int) × Int)) (a1 : Int) (a2 : Int) : Option (AV) :=
  bif decide (0 ≤ a1) && decide (a1 < (a0.1.length : Int)) then
    some (.int (if (0 : Int) < (w64 ((((a0.1.getD a1.toNat (((0 : Int), (0 : Int)), ((0 : Int), (0 : Int)), ((0 : Int), (0 : Int)))).2.2).2) - (w64 (a2 * a0.2.2.1.1)))) then (w64 ((((a0.1.getD a1.toNat (((0 : Int), (0 : Int)), ((0 : Int), (0 : Int)), ((0 : Int), (0 : Int)))).2.2).2) - (w64 (a2 * a0.2.2.1.1)))) else (0 : Int)))
  else
    none

noncomputable def f119_T (a0 : ((List ((Int × Int) × (Int × Int) × (Int × Int))) × (Int × Int) × (Int × Int) × Int)) (a1 : Int) (a2 : Int) : Option (AV) := f119_s a0 a1 a2

theorem f119_ev (a0 : ((List ((Int × Int) × (Int × Int) × (Int × Int))) × (Int × Int) × (Int × Int) × Int)) (a1 : Int) (a2 : Int) (N : Nat) : evF X119 N Tryd.f119 [.agg [enc tRF a0, .tok 0 tRF a0], enc .int a1, enc .int a2] = f119_T a0 a1 a2 := by
  have h : evF X119 N Tryd.f119 [.agg [enc tRF a0, .tok 0 tRF a0], enc .int a1, enc .int a2] = f119_s a0 a1 a2 := by kernel_rfl
  rw [h]
  rfl
noncomputable def X80 : Ctx := { T := TT, G := GG, C := [(117, g117), (119, g119)], L := [] }
noncomputable def f80_s (a0 : ((List ((Int × Int) × (Int × Int) × (Int × Int))) × (Int × Int) × (Int × Int) × Int)) (a1 : Int) (a2 : Int) : Option (AV) :=
  bif decide (0 ≤ (0 : Int)) && decide ((0 : Int) < 2) then
    bif decide (a0 = a0) && ((inReels3 a0 a1 a2)) then
      bif decide (0 ≤ (1 : Int)) && decide ((1 : Int) < 2) then
        bif decide (a0 = a0) && ((inReels3 a0 a1 a2)) then
          some (.agg [.int (leastI a0 a1 a2), .int (mostI a0 a1 a2)])
        else
          none
      else
        none
    else
      none
  else
    none

noncomputable def f80_T (a0 : ((List ((Int × Int) × (Int × Int) × (Int × Int))) × (Int × Int) × (Int × Int) × Int)) (a1 : Int) (a2 : Int) : Option (AV) := f80_s a0 a1 a2

theorem f80_ev (a0 : ((List ((Int × Int) × (Int × Int) × (Int × Int))) × (Int × Int) × (Int × Int) × Int)) (a1 : Int) (a2 : Int) (N : Nat) : evF X80 N Tryd.f80 [.agg [enc tRF a0, .tok 0 tRF a0], enc .int a1, enc .int a2] = f80_T a0 a1 a2 := by
  have h : evF X80 N Tryd.f80 [.agg [enc tRF a0, .tok 0 tRF a0], enc .int a1, enc .int a2] = f80_s a0 a1 a2 := by kernel_rfl
  rw [h]
  rfl
noncomputable def X81 : Ctx := { T := TT, G := GG, C := [(53, g53)], L := [] }
noncomputable def f81_s (a0 : ((List ((Int × Int) × (Int × Int) × (Int × Int))) × (Int × Int) × (Int × Int) × Int)) (a1 : Int) (a2 : Int) : Option (AV) :=
  bif decide (0 ≤ a1) && decide (a1 < (a0.1.length : Int)) then
    some (enc tSpan (mk2 (if (0 : Int) < (w64 ((((a0.1.getD a1.toNat (((0 : Int), (0 : Int)), ((0 : Int), (0 : Int)), ((0 : Int), (0 : Int)))).2.2).1) - (w64 (a2 * a0.2.2.1.2)))) then (w64 ((((a0.1.getD a1.toNat (((0 : Int), (0 : Int)), ((0 : Int), (0 : Int)), ((0 : Int), (0 : Int)))).2.2).1) - (w64 (a2 * a0.2.2.1.2)))) else (0 : Int)) (if (0 : Int) < (w64 ((((a0.1.getD a1.toNat (((0 : Int), (0 : Int)), ((0 : Int), (0 : Int)), ((0 : Int), (0 : Int)))).2.2).2) - (w64 (a2 * a0.2.2.1.1)))) then (w64 ((((a0.1.getD a1.toNat (((0 : Int), (0 : Int)), ((0 : Int), (0 : Int)), ((0 : Int), (0 : Int)))).2.2).2) - (w64 (a2 * a0.2.2.1.1)))) else (0 : Int))))
  else
    none

noncomputable def f81_T (a0 : ((List ((Int × Int) × (Int × Int) × (Int × Int))) × (Int × Int) × (Int × Int) × Int)) (a1 : Int) (a2 : Int) : Option (AV) := f81_s a0 a1 a2

theorem f81_ev (a0 : ((List ((Int × Int) × (Int × Int) × (Int × Int))) × (Int × Int) × (Int × Int) × Int)) (a1 : Int) (a2 : Int) (N : Nat) : evF X81 N Tryd.f81 [enc tRF a0, enc .int a1, enc .int a2] = f81_T a0 a1 a2 := by
  have h : evF X81 N Tryd.f81 [enc tRF a0, enc .int a1, enc .int a2] = f81_s a0 a1 a2 := by kernel_rfl
  rw [h]
  rfl
noncomputable def X18 : Ctx := { T := TT, G := GG, C := [(68, g68), (69, g69)], L := [(3, [0, 1, 2, 4, 5, 6, 7, 8, 9, 10, 11, 12, 13, 14, 15, 16, 17, 18, 19, 20, 21, 22, 23, 24, 25, 29, 30, 31, 32, 33, 34, 35, 36, 37, 38, 39, 40, 41, 42, 43, 44, 45, 46, 47, 48, 49, 50, 51, 52, 53, 54, 55, 56, 57, 58, 59], [26])] }
noncomputable def f18_s0 (a0 : ((List ((Int × Int) × (Int × Int) × (Int × Int))) × (Int × Int) × (Int × Int) × Int)) (k0 : Bool → Int → Option (AV)) (v0_0 : Bool) (v0_1 : Int) : Option (AV) :=
  bif (decide (v0_1 < (a0.1.length : Int))) then
    bif decide (0 ≤ v0_1) && decide (v0_1 < (a0.1.length : Int)) then
      bif v0_0 then
        bif (legal ((a0.1.getD v0_1.toNat (((0 : Int), (0 : Int)), ((0 : Int), (0 : Int)), ((0 : Int), (0 : Int)))).1) (0 : Int) (99 : Int)) then
          bif (legal ((a0.1.getD v0_1.toNat (((0 : Int), (0 : Int)), ((0 : Int), (0 : Int)), ((0 : Int), (0 : Int)))).2.1) (0 : Int) (99 : Int)) then
            bif (decide ((((a0.1.getD v0_1.toNat (((0 : Int), (0 : Int)), ((0 : Int), (0 : Int)), ((0 : Int), (0 : Int)))).1).1) ≤ (((a0.1.getD v0_1.toNat (((0 : Int), (0 : Int)), ((0 : Int), (0 : Int)), ((0 : Int), (0 : Int)))).2.1).2))) then
              k0 (legal ((a0.1.getD v0_1.toNat (((0 : Int), (0 : Int)), ((0 : Int), (0 : Int)), ((0 : Int), (0 : Int)))).2.2) (1 : Int) (1200 : Int)) (w64 (v0_1 + (1 : Int)))
            else
              k0 false (w64 (v0_1 + (1 : Int)))
          else
            k0 false (w64 (v0_1 + (1 : Int)))
        else
          k0 false (w64 (v0_1 + (1 : Int)))
      else
        k0 false (w64 (v0_1 + (1 : Int)))
    else
      none
  else
    bif (!v0_0) then
      some (.int (10 : Int))
    else
      some (.int (0 : Int))

noncomputable def f18_s (a0 : ((List ((Int × Int) × (Int × Int) × (Int × Int))) × (Int × Int) × (Int × Int) × Int)) (k0 : Bool → Int → Option (AV)) : Option (AV) :=
  bif (amid (a0.1.length : Int) (1 : Int) (6 : Int)) then
    bif (legal a0.2.1 (1 : Int) (20 : Int)) then
      bif (legal a0.2.2.1 (0 : Int) (50 : Int)) then
        k0 (amid a0.2.2.2 (1 : Int) (6000 : Int)) (0 : Int)
      else
        k0 false (0 : Int)
    else
      k0 false (0 : Int)
  else
    k0 false (0 : Int)

noncomputable def f18_R0 (a0 : ((List ((Int × Int) × (Int × Int) × (Int × Int))) × (Int × Int) × (Int × Int) × Int)) (N : Nat) (n : Nat) (v0_0 : Bool) (v0_1 : Int) : Option (AV) :=
  loopN (evC X18 N (sub [(1, 0), (1, 0), (0, 0), (1, 0), (0, 0), (0, 0)] (bodyOf Tryd.f18))) (keepOf X18.L (sub [(1, 0), (1, 0), (0, 0), (1, 0), (0, 0), (0, 0)] (bodyOf Tryd.f18))) n ⟨[.poison, .poison, .poison, .bool v0_0, .poison, .poison, .poison, .poison, .poison, .poison, .poison, .poison, .poison, .poison, .poison, .poison, .poison, .poison, .poison, .poison, .poison, .poison, .poison, .poison, .poison, .poison, .sl tReel ⟨false, false, none⟩ a0.1, .int (a0.1.length : Int), .int v0_1, .poison, .poison, .poison, .poison, .poison, .poison, .poison, .poison, .poison, .poison, .poison, .poison, .poison, .poison, .poison, .poison, .poison, .poison, .poison, .poison, .poison, .poison, .poison, .poison, .poison, .poison, .poison, .poison, .poison, .poison, .poison], [.none, .none, .none, .none, .none, .none, .none, .none, .none, .none, .none, .none, .none, .none, .none, .none, .none, .none, .none, .none, .none, .none, .none, .none, .none, .none, .none, .none, .none, .none, .none, .none, .none, .none, .none, .none, .none, .none, .none, .none, .none, .none, .none, .none, .none, .none, .none, .none, .none, .none, .none, .none, .none, .none, .none, .none, .none, .none, .none, .none]⟩ (ctxK X18 N [(1, 0), (1, 0), (0, 0), (1, 0), (0, 0)] (bodyOf Tryd.f18) (finK X18 Tryd.f18))

theorem f18_e0 (a0 : ((List ((Int × Int) × (Int × Int) × (Int × Int))) × (Int × Int) × (Int × Int) × Int)) (N : Nat) (n : Nat) (v0_0 : Bool) (v0_1 : Int) : f18_R0 a0 N (n + 1) v0_0 v0_1 = f18_s0 a0 (f18_R0 a0 N n) v0_0 v0_1 := by kernel_rfl

noncomputable def f18_L0 (a0 : ((List ((Int × Int) × (Int × Int) × (Int × Int))) × (Int × Int) × (Int × Int) × Int)) (N : Nat) : Nat → Bool → Int → Option (AV)
  | 0, _, _ => none
  | n + 1, v0_0, v0_1 => f18_s0 a0 (f18_L0 a0 N n) v0_0 v0_1

theorem f18_q0 (a0 : ((List ((Int × Int) × (Int × Int) × (Int × Int))) × (Int × Int) × (Int × Int) × Int)) (N : Nat) : ∀ n : Nat, f18_R0 a0 N n = f18_L0 a0 N n
  | 0 => by
    funext v0_0
    funext v0_1
    rfl
  | n + 1 => by
    funext v0_0
    funext v0_1
    rw [f18_e0]
    simp only [f18_q0 a0 N n]
    rfl

noncomputable def f18_T (a0 : ((List ((Int × Int) × (Int × Int) × (Int × Int))) × (Int × Int) × (Int × Int) × Int)) (N : Nat) : Option (AV) := f18_s a0 (f18_L0 a0 N N)

theorem f18_ev (a0 : ((List ((Int × Int) × (Int × Int) × (Int × Int))) × (Int × Int) × (Int × Int) × Int)) (N : Nat) : evF X18 N Tryd.f18 [enc tRF a0] = f18_T a0 N := by
  have h : evF X18 N Tryd.f18 [enc tRF a0] = f18_s a0 (f18_R0 a0 N N) := by kernel_rfl
  rw [h, f18_q0]
  rfl
noncomputable def X19 : Ctx := { T := TT, G := GG, C := [(55, g55), (70, g70)], L := [(3, [0, 2, 5, 6, 7, 8, 9, 10, 11, 12, 13, 14, 15, 16, 17, 18, 19, 20, 21, 22, 23, 24, 25, 26, 27, 28, 29, 30, 31, 32, 33, 34, 35, 36, 37, 38, 39, 40, 41, 42, 43, 44, 45, 46, 47, 48, 49, 50, 51, 52, 53, 54, 55, 56, 57, 58, 59, 60, 61, 62, 63], [])] }
noncomputable def f19_s0 (a0 : ((List ((Int × Int) × (Int × Int) × (Int × Int))) × (Int × Int) × (Int × Int) × Int)) (k0 : Bool → Int → Option (AV)) (v0_0 : Bool) (v0_1 : Int) : Option (AV) :=
  bif v0_0 then
    bif (decide (v0_1 < (a0.1.length : Int))) then
      bif decide (0 ≤ v0_1) && decide (v0_1 < (a0.1.length : Int)) then
        bif (legal ((a0.1.getD v0_1.toNat (((0 : Int), (0 : Int)), ((0 : Int), (0 : Int)), ((0 : Int), (0 : Int)))).1) (0 : Int) (99 : Int)) then
          bif (legal ((a0.1.getD v0_1.toNat (((0 : Int), (0 : Int)), ((0 : Int), (0 : Int)), ((0 : Int), (0 : Int)))).2.1) (0 : Int) (99 : Int)) then
            bif (decide ((((a0.1.getD v0_1.toNat (((0 : Int), (0 : Int)), ((0 : Int), (0 : Int)), ((0 : Int), (0 : Int)))).1).1) ≤ (((a0.1.getD v0_1.toNat (((0 : Int), (0 : Int)), ((0 : Int), (0 : Int)), ((0 : Int), (0 : Int)))).2.1).2))) then
              k0 (legal ((a0.1.getD v0_1.toNat (((0 : Int), (0 : Int)), ((0 : Int), (0 : Int)), ((0 : Int), (0 : Int)))).2.2) (1 : Int) (1200 : Int)) (w64 (v0_1 + (1 : Int)))
            else
              k0 false (w64 (v0_1 + (1 : Int)))
          else
            k0 false (w64 (v0_1 + (1 : Int)))
        else
          k0 false (w64 (v0_1 + (1 : Int)))
      else
        none
    else
      bif (!v0_0) then
        some (.int (10 : Int))
      else
        some (.int (0 : Int))
  else
    bif (!v0_0) then
      some (.int (10 : Int))
    else
      some (.int (0 : Int))

noncomputable def f19_s (a0 : ((List ((Int × Int) × (Int × Int) × (Int × Int))) × (Int × Int) × (Int × Int) × Int)) (k0 : Bool → Int → Option (AV)) : Option (AV) :=
  bif (amid (a0.1.length : Int) (1 : Int) (6 : Int)) then
    bif (legal a0.2.1 (1 : Int) (20 : Int)) then
      bif (legal a0.2.2.1 (0 : Int) (50 : Int)) then
        k0 (amid a0.2.2.2 (1 : Int) (6000 : Int)) (0 : Int)
      else
        k0 false (0 : Int)
    else
      k0 false (0 : Int)
  else
    k0 false (0 : Int)

noncomputable def f19_R0 (a0 : ((List ((Int × Int) × (Int × Int) × (Int × Int))) × (Int × Int) × (Int × Int) × Int)) (N : Nat) (n : Nat) (v0_0 : Bool) (v0_1 : Int) : Option (AV) :=
  loopN (evC X19 N (sub [(1, 0), (1, 0), (0, 0), (1, 0), (0, 0), (0, 0)] (bodyOf Tryd.f19))) (keepOf X19.L (sub [(1, 0), (1, 0), (0, 0), (1, 0), (0, 0), (0, 0)] (bodyOf Tryd.f19))) n ⟨[.poison, .ref 1 [], .poison, .bool v0_0, .int v0_1, .poison, .poison, .poison, .poison, .poison, .poison, .poison, .poison, .poison, .poison, .poison, .poison, .poison, .poison, .poison, .poison, .poison, .poison, .poison, .poison, .poison, .poison, .poison, .poison, .poison, .poison, .poison, .poison, .poison, .poison, .poison, .poison, .poison, .poison, .poison, .poison, .poison, .poison, .poison, .poison, .poison, .poison, .poison, .poison, .poison, .poison, .poison, .poison, .poison, .poison, .poison, .poison, .poison, .poison, .poison, .poison, .poison, .poison, .poison], [.none, .box (enc tRF a0), .none, .none, .none, .none, .none, .none, .none, .none, .none, .none, .none, .none, .none, .none, .none, .none, .none, .none, .none, .none, .none, .none, .none, .none, .none, .none, .none, .none, .none, .none, .none, .none, .none, .none, .none, .none, .none, .none, .none, .none, .none, .none, .none, .none, .none, .none, .none, .none, .none, .none, .none, .none, .none, .none, .none, .none, .none, .none, .none, .none, .none, .none]⟩ (ctxK X19 N [(1, 0), (1, 0), (0, 0), (1, 0), (0, 0)] (bodyOf Tryd.f19) (finK X19 Tryd.f19))

theorem f19_e0 (a0 : ((List ((Int × Int) × (Int × Int) × (Int × Int))) × (Int × Int) × (Int × Int) × Int)) (N : Nat) (n : Nat) (v0_0 : Bool) (v0_1 : Int) : f19_R0 a0 N (n + 1) v0_0 v0_1 = f19_s0 a0 (f19_R0 a0 N n) v0_0 v0_1 := by kernel_rfl

noncomputable def f19_L0 (a0 : ((List ((Int × Int) × (Int × Int) × (Int × Int))) × (Int × Int) × (Int × Int) × Int)) (N : Nat) : Nat → Bool → Int → Option (AV)
  | 0, _, _ => none
  | n + 1, v0_0, v0_1 => f19_s0 a0 (f19_L0 a0 N n) v0_0 v0_1

theorem f19_q0 (a0 : ((List ((Int × Int) × (Int × Int) × (Int × Int))) × (Int × Int) × (Int × Int) × Int)) (N : Nat) : ∀ n : Nat, f19_R0 a0 N n = f19_L0 a0 N n
  | 0 => by
    funext v0_0
    funext v0_1
    rfl
  | n + 1 => by
    funext v0_0
    funext v0_1
    rw [f19_e0]
    simp only [f19_q0 a0 N n]
    rfl

noncomputable def f19_T (a0 : ((List ((Int × Int) × (Int × Int) × (Int × Int))) × (Int × Int) × (Int × Int) × Int)) (N : Nat) : Option (AV) := f19_s a0 (f19_L0 a0 N N)

theorem f19_ev (a0 : ((List ((Int × Int) × (Int × Int) × (Int × Int))) × (Int × Int) × (Int × Int) × Int)) (N : Nat) : evF X19 N Tryd.f19 [enc tRF a0] = f19_T a0 N := by
  have h : evF X19 N Tryd.f19 [enc tRF a0] = f19_s a0 (f19_R0 a0 N N) := by kernel_rfl
  rw [h, f19_q0]
  rfl
noncomputable def X62 : Ctx := { T := TT, G := GG, C := [(18, g18), (86, g86)], L := [] }
noncomputable def f62_s (a0 : ((List ((Int × Int) × (Int × Int) × (Int × Int))) × (Int × Int) × (Int × Int) × Int)) (a1 : Bool) : Option (AV) :=
  bif (chkOK a0) then
    bif (!decide ((checkI a0) = (0 : Int))) then
      some (.tup [.agg [.agg [.sl tReel ⟨true, true, none⟩ ([] : List ((Int × Int) × (Int × Int) × (Int × Int))), .agg [.int (0 : Int), .int (0 : Int)], .agg [.int (0 : Int), .int (0 : Int)], .int (0 : Int)], .tok 0 tRF zRF], .int (checkI a0)])
    else
      bif (!a1) then
        some (.tup [.agg [.agg [.sl tReel ⟨true, true, none⟩ ([] : List ((Int × Int) × (Int × Int) × (Int × Int))), .agg [.int (0 : Int), .int (0 : Int)], .agg [.int (0 : Int), .int (0 : Int)], .int (0 : Int)], .tok 0 tRF zRF], .int (11 : Int)])
      else
        some (.tup [.agg [enc tRF (openF a0), .tok 0 tRF (openF a0)], .int (0 : Int)])
  else
    none

noncomputable def f62_T (a0 : ((List ((Int × Int) × (Int × Int) × (Int × Int))) × (Int × Int) × (Int × Int) × Int)) (a1 : Bool) : Option (AV) := f62_s a0 a1

theorem f62_ev (a0 : ((List ((Int × Int) × (Int × Int) × (Int × Int))) × (Int × Int) × (Int × Int) × Int)) (a1 : Bool) (N : Nat) : evF X62 N Tryd.f62 [enc tRF a0, enc .bool a1] = f62_T a0 a1 := by
  have h : evF X62 N Tryd.f62 [enc tRF a0, enc .bool a1] = f62_s a0 a1 := by kernel_rfl
  rw [h]
  rfl
noncomputable def X65 : Ctx := { T := TT, G := GG, C := [(19, g19)], L := [] }
noncomputable def f65_s (a0 : ((List ((Int × Int) × (Int × Int) × (Int × Int))) × (Int × Int) × (Int × Int) × Int)) (a1 : Bool) : Option (AV) :=
  bif (chkOK a0) then
    bif (!decide ((checkI a0) = (0 : Int))) then
      some (.int (checkI a0))
    else
      bif (!a1) then
        some (.int (11 : Int))
      else
        some (.int (0 : Int))
  else
    none

noncomputable def f65_T (a0 : ((List ((Int × Int) × (Int × Int) × (Int × Int))) × (Int × Int) × (Int × Int) × Int)) (a1 : Bool) : Option (AV) := f65_s a0 a1

theorem f65_ev (a0 : ((List ((Int × Int) × (Int × Int) × (Int × Int))) × (Int × Int) × (Int × Int) × Int)) (a1 : Bool) (N : Nat) : evF X65 N Tryd.f65 [enc tRF a0, enc .bool a1] = f65_T a0 a1 := by
  have h : evF X65 N Tryd.f65 [enc tRF a0, enc .bool a1] = f65_s a0 a1 := by kernel_rfl
  rw [h]
  rfl
noncomputable def X78 : Ctx := { T := TT, G := GG, C := [(55, g55)], L := [] }
noncomputable def f78_s (a0 : ((List ((Int × Int) × (Int × Int) × (Int × Int))) × (Int × Int) × (Int × Int) × Int)) (a1 : Int) : Option (AV) :=
  some (.bool (amid a1 (0 : Int) (w64 ((a0.1.length : Int) - (1 : Int)))))

noncomputable def f78_T (a0 : ((List ((Int × Int) × (Int × Int) × (Int × Int))) × (Int × Int) × (Int × Int) × Int)) (a1 : Int) : Option (AV) := f78_s a0 a1

theorem f78_ev (a0 : ((List ((Int × Int) × (Int × Int) × (Int × Int))) × (Int × Int) × (Int × Int) × Int)) (a1 : Int) (N : Nat) : evF X78 N Tryd.f78 [enc tRF a0, enc .int a1] = f78_T a0 a1 := by
  have h : evF X78 N Tryd.f78 [enc tRF a0, enc .int a1] = f78_s a0 a1 := by kernel_rfl
  rw [h]
  rfl
noncomputable def X30 : Ctx := { T := TT, G := GG, C := [(62, g62), (68, g68), (80, g80)], L := [] }
noncomputable def f30_s (a0 : ((List ((Int × Int) × (Int × Int) × (Int × Int))) × (Int × Int) × (Int × Int) × Int)) (a1 : Int) (a2 : Int) : Option (AV) :=
  bif (amid a1 (0 : Int) (w64 ((a0.1.length : Int) - (1 : Int)))) then
    bif (askOK a0 (amid a2 (0 : Int) (999 : Int))) then
      bif (!decide (((askedF a0 (amid a2 (0 : Int) (999 : Int))).2) = (0 : Int))) then
        some (.tup [.agg [.int (0 : Int), .int (0 : Int)], .int ((askedF a0 (amid a2 (0 : Int) (999 : Int))).2)])
      else
        bif decide (((askedF a0 (amid a2 (0 : Int) (999 : Int))).1) = ((askedF a0 (amid a2 (0 : Int) (999 : Int))).1)) && ((inReels3 ((askedF a0 (amid a2 (0 : Int) (999 : Int))).1) a1 a2)) then
          some (.tup [enc tSpan (wornS ((askedF a0 (amid a2 (0 : Int) (999 : Int))).1) a1 a2), .int (0 : Int)])
        else
          none
    else
      none
  else
    bif (askOK a0 false) then
      bif (!decide (((askedF a0 false).2) = (0 : Int))) then
        some (.tup [.agg [.int (0 : Int), .int (0 : Int)], .int ((askedF a0 false).2)])
      else
        bif decide (((askedF a0 false).1) = ((askedF a0 false).1)) && ((inReels3 ((askedF a0 false).1) a1 a2)) then
          some (.tup [enc tSpan (wornS ((askedF a0 false).1) a1 a2), .int (0 : Int)])
        else
          none
    else
      none

noncomputable def f30_T (a0 : ((List ((Int × Int) × (Int × Int) × (Int × Int))) × (Int × Int) × (Int × Int) × Int)) (a1 : Int) (a2 : Int) : Option (AV) := f30_s a0 a1 a2

theorem f30_ev (a0 : ((List ((Int × Int) × (Int × Int) × (Int × Int))) × (Int × Int) × (Int × Int) × Int)) (a1 : Int) (a2 : Int) (N : Nat) : evF X30 N Tryd.f30 [enc tRF a0, enc .int a1, enc .int a2] = f30_T a0 a1 a2 := by
  have h : evF X30 N Tryd.f30 [enc tRF a0, enc .int a1, enc .int a2] = f30_s a0 a1 a2 := by kernel_rfl
  rw [h]
  rfl
noncomputable def X31 : Ctx := { T := TT, G := GG, C := [(55, g55), (65, g65), (78, g78), (81, g81)], L := [] }
noncomputable def f31_s (a0 : ((List ((Int × Int) × (Int × Int) × (Int × Int))) × (Int × Int) × (Int × Int) × Int)) (a1 : Int) (a2 : Int) : Option (AV) :=
  bif (isReelB a0 a1) then
    bif (askOK a0 (amid a2 (0 : Int) (999 : Int))) then
      bif (!decide ((askedI a0 (amid a2 (0 : Int) (999 : Int))) = (0 : Int))) then
        some (.tup [.agg [.int (0 : Int), .int (0 : Int)], .int (askedI a0 (amid a2 (0 : Int) (999 : Int)))])
      else
        bif (inReels3 a0 a1 a2) then
          some (.tup [enc tSpan (wornS a0 a1 a2), .int (0 : Int)])
        else
          none
    else
      none
  else
    bif (askOK a0 false) then
      bif (!decide ((askedI a0 false) = (0 : Int))) then
        some (.tup [.agg [.int (0 : Int), .int (0 : Int)], .int (askedI a0 false)])
      else
        bif (inReels3 a0 a1 a2) then
          some (.tup [enc tSpan (wornS a0 a1 a2), .int (0 : Int)])
        else
          none
    else
      none

noncomputable def f31_T (a0 : ((List ((Int × Int) × (Int × Int) × (Int × Int))) × (Int × Int) × (Int × Int) × Int)) (a1 : Int) (a2 : Int) : Option (AV) := f31_s a0 a1 a2

theorem f31_ev (a0 : ((List ((Int × Int) × (Int × Int) × (Int × Int))) × (Int × Int) × (Int × Int) × Int)) (a1 : Int) (a2 : Int) (N : Nat) : evF X31 N Tryd.f31 [enc tRF a0, enc .int a1, enc .int a2] = f31_T a0 a1 a2 := by
  have h : evF X31 N Tryd.f31 [enc tRF a0, enc .int a1, enc .int a2] = f31_s a0 a1 a2 := by kernel_rfl
  rw [h]
  rfl
noncomputable def X32 : Ctx := { T := TT, G := GG, C := [(62, g62), (68, g68), (80, g80)], L := [(8, [0, 3, 4, 5, 8, 10, 11, 12, 13, 14, 15, 16, 17, 18, 19, 20, 21, 22, 23, 24, 25, 26, 27, 28, 29, 30, 31, 32, 33, 34, 35, 37, 38, 39, 40, 41, 42, 43, 44, 45, 46, 47, 48, 49, 50, 51, 52, 53, 54, 55], [])] }
noncomputable def f32_s0 (a0 : ((List ((Int × Int) × (Int × Int) × (Int × Int))) × (Int × Int) × (Int × Int) × Int)) (a1 : Int) (a2 : Int) (k0 : Int → Int → Int → ((List ((Int × Int) × (Int × Int) × (Int × Int))) × (Int × Int) × (Int × Int) × Int) → ((List ((Int × Int) × (Int × Int) × (Int × Int))) × (Int × Int) × (Int × Int) × Int) → Option (AV)) (v0_0 : Int) (v0_1 : Int) (v0_2 : Int) (v0_3 : ((List ((Int × Int) × (Int × Int) × (Int × Int))) × (Int × Int) × (Int × Int) × Int)) (v0_4 : ((List ((Int × Int) × (Int × Int) × (Int × Int))) × (Int × Int) × (Int × Int) × Int)) : Option (AV) :=
  bif (decide (v0_2 < (1000 : Int))) then
    bif decide (v0_3 = v0_4) && ((inReels3 v0_3 a1 v0_2)) then
      bif (decide (a2 ≤ ((wornS v0_3 a1 v0_2).1))) then
        bif (decide (a2 ≤ ((wornS v0_3 a1 v0_2).2))) then
          k0 v0_2 v0_2 (w64 (v0_2 + (1 : Int))) v0_3 v0_4
        else
          k0 v0_2 v0_1 (w64 (v0_2 + (1 : Int))) v0_3 v0_4
      else
        bif (decide (a2 ≤ ((wornS v0_3 a1 v0_2).2))) then
          k0 v0_0 v0_2 (w64 (v0_2 + (1 : Int))) v0_3 v0_4
        else
          k0 v0_0 v0_1 (w64 (v0_2 + (1 : Int))) v0_3 v0_4
    else
      none
  else
    some (.tup [.int v0_0, .int v0_1, .int (0 : Int)])

noncomputable def f32_s (a0 : ((List ((Int × Int) × (Int × Int) × (Int × Int))) × (Int × Int) × (Int × Int) × Int)) (a1 : Int) (a2 : Int) (k0 : Int → Int → Int → ((List ((Int × Int) × (Int × Int) × (Int × Int))) × (Int × Int) × (Int × Int) × Int) → ((List ((Int × Int) × (Int × Int) × (Int × Int))) × (Int × Int) × (Int × Int) × Int) → Option (AV)) : Option (AV) :=
  bif (amid a1 (0 : Int) (w64 ((a0.1.length : Int) - (1 : Int)))) then
    bif (askOK a0 (amid a2 (1 : Int) (1200 : Int))) then
      bif (!decide (((askedF a0 (amid a2 (1 : Int) (1200 : Int))).2) = (0 : Int))) then
        some (.tup [.int (0 : Int), .int (0 : Int), .int ((askedF a0 (amid a2 (1 : Int) (1200 : Int))).2)])
      else
        bif decide (((askedF a0 (amid a2 (1 : Int) (1200 : Int))).1) = ((askedF a0 (amid a2 (1 : Int) (1200 : Int))).1)) && ((inReels3 ((askedF a0 (amid a2 (1 : Int) (1200 : Int))).1) a1 (0 : Int))) then
          bif (decide (((wornS ((askedF a0 (amid a2 (1 : Int) (1200 : Int))).1) a1 (0 : Int)).2) < a2)) then
            some (.tup [.int (0 : Int), .int (0 : Int), .int (4 : Int)])
          else
            k0 (-1 : Int) (-1 : Int) (0 : Int) ((askedF a0 (amid a2 (1 : Int) (1200 : Int))).1) ((askedF a0 (amid a2 (1 : Int) (1200 : Int))).1)
        else
          none
    else
      none
  else
    bif (askOK a0 false) then
      bif (!decide (((askedF a0 false).2) = (0 : Int))) then
        some (.tup [.int (0 : Int), .int (0 : Int), .int ((askedF a0 false).2)])
      else
        bif decide (((askedF a0 false).1) = ((askedF a0 false).1)) && ((inReels3 ((askedF a0 false).1) a1 (0 : Int))) then
          bif (decide (((wornS ((askedF a0 false).1) a1 (0 : Int)).2) < a2)) then
            some (.tup [.int (0 : Int), .int (0 : Int), .int (4 : Int)])
          else
            k0 (-1 : Int) (-1 : Int) (0 : Int) ((askedF a0 false).1) ((askedF a0 false).1)
        else
          none
    else
      none

noncomputable def f32_R0 (a0 : ((List ((Int × Int) × (Int × Int) × (Int × Int))) × (Int × Int) × (Int × Int) × Int)) (a1 : Int) (a2 : Int) (N : Nat) (n : Nat) (v0_0 : Int) (v0_1 : Int) (v0_2 : Int) (v0_3 : ((List ((Int × Int) × (Int × Int) × (Int × Int))) × (Int × Int) × (Int × Int) × Int)) (v0_4 : ((List ((Int × Int) × (Int × Int) × (Int × Int))) × (Int × Int) × (Int × Int) × Int)) : Option (AV) :=
  loopN (evC X32 N (sub [(1, 0), (1, 0), (1, 0), (1, 0), (1, 0), (0, 0), (1, 0), (0, 0), (0, 0)] (bodyOf Tryd.f32))) (keepOf X32.L (sub [(1, 0), (1, 0), (1, 0), (1, 0), (1, 0), (0, 0), (1, 0), (0, 0), (0, 0)] (bodyOf Tryd.f32))) n ⟨[.poison, .int a1, .int a2, .poison, .poison, .poison, .int v0_0, .int v0_1, .poison, .ref 9 [], .poison, .poison, .poison, .poison, .poison, .poison, .poison, .poison, .poison, .poison, .poison, .poison, .poison, .poison, .poison, .poison, .poison, .poison, .poison, .poison, .poison, .poison, .poison, .poison, .poison, .poison, .int v0_2, .poison, .poison, .poison, .poison, .poison, .poison, .poison, .poison, .poison, .poison, .poison, .poison, .poison, .poison, .poison, .poison, .poison, .poison, .poison], [.none, .none, .none, .none, .none, .none, .none, .none, .none, .box (.agg [enc tRF v0_3, .tok 0 tRF v0_4]), .none, .none, .none, .none, .none, .none, .none, .none, .none, .none, .none, .none, .none, .none, .none, .none, .none, .none, .none, .none, .none, .none, .none, .none, .none, .none, .none, .none, .none, .none, .none, .none, .none, .none, .none, .none, .none, .none, .none, .none, .none, .none, .none, .none, .none, .none]⟩ (ctxK X32 N [(1, 0), (1, 0), (1, 0), (1, 0), (1, 0), (0, 0), (1, 0), (0, 0)] (bodyOf Tryd.f32) (finK X32 Tryd.f32))

theorem f32_e0 (a0 : ((List ((Int × Int) × (Int × Int) × (Int × Int))) × (Int × Int) × (Int × Int) × Int)) (a1 : Int) (a2 : Int) (N : Nat) (n : Nat) (v0_0 : Int) (v0_1 : Int) (v0_2 : Int) (v0_3 : ((List ((Int × Int) × (Int × Int) × (Int × Int))) × (Int × Int) × (Int × Int) × Int)) (v0_4 : ((List ((Int × Int) × (Int × Int) × (Int × Int))) × (Int × Int) × (Int × Int) × Int)) : f32_R0 a0 a1 a2 N (n + 1) v0_0 v0_1 v0_2 v0_3 v0_4 = f32_s0 a0 a1 a2 (f32_R0 a0 a1 a2 N n) v0_0 v0_1 v0_2 v0_3 v0_4 := by kernel_rfl

noncomputable def f32_L0 (a0 : ((List ((Int × Int) × (Int × Int) × (Int × Int))) × (Int × Int) × (Int × Int) × Int)) (a1 : Int) (a2 : Int) (N : Nat) : Nat → Int → Int → Int → ((List ((Int × Int) × (Int × Int) × (Int × Int))) × (Int × Int) × (Int × Int) × Int) → ((List ((Int × Int) × (Int × Int) × (Int × Int))) × (Int × Int) × (Int × Int) × Int) → Option (AV)
  | 0, _, _, _, _, _ => none
  | n + 1, v0_0, v0_1, v0_2, v0_3, v0_4 => f32_s0 a0 a1 a2 (f32_L0 a0 a1 a2 N n) v0_0 v0_1 v0_2 v0_3 v0_4

theorem f32_q0 (a0 : ((List ((Int × Int) × (Int × Int) × (Int × Int))) × (Int × Int) × (Int × Int) × Int)) (a1 : Int) (a2 : Int) (N : Nat) : ∀ n : Nat, f32_R0 a0 a1 a2 N n = f32_L0 a0 a1 a2 N n
  | 0 => by
    funext v0_0
    funext v0_1
    funext v0_2
    funext v0_3
    funext v0_4
    rfl
  | n + 1 => by
    funext v0_0
    funext v0_1
    funext v0_2
    funext v0_3
    funext v0_4
    rw [f32_e0]
    simp only [f32_q0 a0 a1 a2 N n]
    rfl

noncomputable def f32_T (a0 : ((List ((Int × Int) × (Int × Int) × (Int × Int))) × (Int × Int) × (Int × Int) × Int)) (a1 : Int) (a2 : Int) (N : Nat) : Option (AV) := f32_s a0 a1 a2 (f32_L0 a0 a1 a2 N N)

theorem f32_ev (a0 : ((List ((Int × Int) × (Int × Int) × (Int × Int))) × (Int × Int) × (Int × Int) × Int)) (a1 : Int) (a2 : Int) (N : Nat) : evF X32 N Tryd.f32 [enc tRF a0, enc .int a1, enc .int a2] = f32_T a0 a1 a2 N := by
  have h : evF X32 N Tryd.f32 [enc tRF a0, enc .int a1, enc .int a2] = f32_s a0 a1 a2 (f32_R0 a0 a1 a2 N N) := by kernel_rfl
  rw [h, f32_q0]
  rfl
noncomputable def X33 : Ctx := { T := TT, G := GG, C := [(55, g55), (65, g65), (78, g78), (81, g81)], L := [(6, [0, 4, 5, 6, 7, 8, 9, 13, 14, 15, 16, 17, 18, 19, 20, 21, 22, 23, 24, 25, 26, 27, 28, 29, 30, 31, 32, 33, 34, 35, 36, 37, 38, 39, 40, 41, 42, 43, 44, 45, 46, 47], [])] }
noncomputable def f33_s0 (a0 : ((List ((Int × Int) × (Int × Int) × (Int × Int))) × (Int × Int) × (Int × Int) × Int)) (a1 : Int) (a2 : Int) (k0 : Int → Int → Int → Option (AV)) (v0_0 : Int) (v0_1 : Int) (v0_2 : Int) : Option (AV) :=
  bif (decide (v0_2 ≤ (999 : Int))) then
    bif (inReels3 a0 a1 v0_2) then
      bif (decide (a2 ≤ ((wornS a0 a1 v0_2).1))) then
        bif (decide (a2 ≤ ((wornS a0 a1 v0_2).2))) then
          k0 v0_2 v0_2 (w64 (v0_2 + (1 : Int)))
        else
          k0 v0_2 v0_1 (w64 (v0_2 + (1 : Int)))
      else
        bif (decide (a2 ≤ ((wornS a0 a1 v0_2).2))) then
          k0 v0_0 v0_2 (w64 (v0_2 + (1 : Int)))
        else
          k0 v0_0 v0_1 (w64 (v0_2 + (1 : Int)))
    else
      none
  else
    bif (decide (v0_1 < (0 : Int))) then
      some (.tup [.int (0 : Int), .int (0 : Int), .int (4 : Int)])
    else
      some (.tup [.int v0_0, .int v0_1, .int (0 : Int)])

noncomputable def f33_s (a0 : ((List ((Int × Int) × (Int × Int) × (Int × Int))) × (Int × Int) × (Int × Int) × Int)) (a1 : Int) (a2 : Int) (k0 : Int → Int → Int → Option (AV)) : Option (AV) :=
  bif (isReelB a0 a1) then
    bif (askOK a0 (amid a2 (1 : Int) (1200 : Int))) then
      bif (!decide ((askedI a0 (amid a2 (1 : Int) (1200 : Int))) = (0 : Int))) then
        some (.tup [.int (0 : Int), .int (0 : Int), .int (askedI a0 (amid a2 (1 : Int) (1200 : Int)))])
      else
        k0 (-1 : Int) (-1 : Int) (0 : Int)
    else
      none
  else
    bif (askOK a0 false) then
      bif (!decide ((askedI a0 false) = (0 : Int))) then
        some (.tup [.int (0 : Int), .int (0 : Int), .int (askedI a0 false)])
      else
        k0 (-1 : Int) (-1 : Int) (0 : Int)
    else
      none

noncomputable def f33_R0 (a0 : ((List ((Int × Int) × (Int × Int) × (Int × Int))) × (Int × Int) × (Int × Int) × Int)) (a1 : Int) (a2 : Int) (N : Nat) (n : Nat) (v0_0 : Int) (v0_1 : Int) (v0_2 : Int) : Option (AV) :=
  loopN (evC X33 N (sub [(1, 0), (1, 0), (1, 0), (0, 0), (1, 0), (0, 0), (0, 0)] (bodyOf Tryd.f33))) (keepOf X33.L (sub [(1, 0), (1, 0), (1, 0), (0, 0), (1, 0), (0, 0), (0, 0)] (bodyOf Tryd.f33))) n ⟨[.poison, .int a1, .int a2, .ref 3 [], .poison, .poison, .poison, .poison, .poison, .poison, .int v0_0, .int v0_1, .int v0_2, .poison, .poison, .poison, .poison, .poison, .poison, .poison, .poison, .poison, .poison, .poison, .poison, .poison, .poison, .poison, .poison, .poison, .poison, .poison, .poison, .poison, .poison, .poison, .poison, .poison, .poison, .poison, .poison, .poison, .poison, .poison, .poison, .poison, .poison, .poison], [.none, .none, .none, .box (enc tRF a0), .none, .none, .none, .none, .none, .none, .none, .none, .none, .none, .none, .none, .none, .none, .none, .none, .none, .none, .none, .none, .none, .none, .none, .none, .none, .none, .none, .none, .none, .none, .none, .none, .none, .none, .none, .none, .none, .none, .none, .none, .none, .none, .none, .none]⟩ (ctxK X33 N [(1, 0), (1, 0), (1, 0), (0, 0), (1, 0), (0, 0)] (bodyOf Tryd.f33) (finK X33 Tryd.f33))

theorem f33_e0 (a0 : ((List ((Int × Int) × (Int × Int) × (Int × Int))) × (Int × Int) × (Int × Int) × Int)) (a1 : Int) (a2 : Int) (N : Nat) (n : Nat) (v0_0 : Int) (v0_1 : Int) (v0_2 : Int) : f33_R0 a0 a1 a2 N (n + 1) v0_0 v0_1 v0_2 = f33_s0 a0 a1 a2 (f33_R0 a0 a1 a2 N n) v0_0 v0_1 v0_2 := by kernel_rfl

noncomputable def f33_L0 (a0 : ((List ((Int × Int) × (Int × Int) × (Int × Int))) × (Int × Int) × (Int × Int) × Int)) (a1 : Int) (a2 : Int) (N : Nat) : Nat → Int → Int → Int → Option (AV)
  | 0, _, _, _ => none
  | n + 1, v0_0, v0_1, v0_2 => f33_s0 a0 a1 a2 (f33_L0 a0 a1 a2 N n) v0_0 v0_1 v0_2

theorem f33_q0 (a0 : ((List ((Int × Int) × (Int × Int) × (Int × Int))) × (Int × Int) × (Int × Int) × Int)) (a1 : Int) (a2 : Int) (N : Nat) : ∀ n : Nat, f33_R0 a0 a1 a2 N n = f33_L0 a0 a1 a2 N n
  | 0 => by
    funext v0_0
    funext v0_1
    funext v0_2
    rfl
  | n + 1 => by
    funext v0_0
    funext v0_1
    funext v0_2
    rw [f33_e0]
    simp only [f33_q0 a0 a1 a2 N n]
    rfl

noncomputable def f33_T (a0 : ((List ((Int × Int) × (Int × Int) × (Int × Int))) × (Int × Int) × (Int × Int) × Int)) (a1 : Int) (a2 : Int) (N : Nat) : Option (AV) := f33_s a0 a1 a2 (f33_L0 a0 a1 a2 N N)

theorem f33_ev (a0 : ((List ((Int × Int) × (Int × Int) × (Int × Int))) × (Int × Int) × (Int × Int) × Int)) (a1 : Int) (a2 : Int) (N : Nat) : evF X33 N Tryd.f33 [enc tRF a0, enc .int a1, enc .int a2] = f33_T a0 a1 a2 N := by
  have h : evF X33 N Tryd.f33 [enc tRF a0, enc .int a1, enc .int a2] = f33_s a0 a1 a2 (f33_R0 a0 a1 a2 N N) := by kernel_rfl
  rw [h, f33_q0]
  rfl
noncomputable def X34 : Ctx := { T := TT, G := GG, C := [(62, g62), (68, g68), (80, g80)], L := [(6, [0, 3, 4, 5, 7, 9, 11, 12, 13, 14, 15, 16, 17, 18, 19, 20, 21, 22, 23, 24, 25, 26, 27, 28, 29, 30, 31, 32, 34, 35, 36, 37, 38, 39, 40, 41, 42, 43, 44, 45, 46, 47, 48, 49, 50, 51, 52, 53, 54, 55, 56, 57, 58, 59], [])] }
noncomputable def f34_s0 (a0 : ((List ((Int × Int) × (Int × Int) × (Int × Int))) × (Int × Int) × (Int × Int) × Int)) (a1 : Int) (a2 : Int) (k0 : Int → ((List ((Int × Int) × (Int × Int) × (Int × Int))) × (Int × Int) × (Int × Int) × Int) → ((List ((Int × Int) × (Int × Int) × (Int × Int))) × (Int × Int) × (Int × Int) × Int) → Int → Int → Option (AV)) (v0_0 : Int) (v0_1 : ((List ((Int × Int) × (Int × Int) × (Int × Int))) × (Int × Int) × (Int × Int) × Int)) (v0_2 : ((List ((Int × Int) × (Int × Int) × (Int × Int))) × (Int × Int) × (Int × Int) × Int)) (v0_3 : Int) (v0_4 : Int) : Option (AV) :=
  bif (decide (v0_0 < (1000 : Int))) then
    bif decide (v0_1 = v0_2) && ((inReels3 v0_1 a1 v0_0)) then
      bif (!(amid a2 ((wornS v0_1 a1 v0_0).1) ((wornS v0_1 a1 v0_0).2))) then
        k0 (w64 (v0_0 + (1 : Int))) v0_1 v0_2 v0_3 v0_4
      else
        bif (decide (v0_3 < (0 : Int))) then
          k0 (w64 (v0_0 + (1 : Int))) v0_1 v0_2 v0_0 v0_0
        else
          k0 (w64 (v0_0 + (1 : Int))) v0_1 v0_2 v0_3 v0_0
    else
      none
  else
    bif (decide (v0_3 < (0 : Int))) then
      some (.tup [.agg [.int (0 : Int), .int (0 : Int)], .int (4 : Int)])
    else
      some (.tup [.agg [.int v0_3, .int v0_4], .int (0 : Int)])

noncomputable def f34_s (a0 : ((List ((Int × Int) × (Int × Int) × (Int × Int))) × (Int × Int) × (Int × Int) × Int)) (a1 : Int) (a2 : Int) (k0 : Int → ((List ((Int × Int) × (Int × Int) × (Int × Int))) × (Int × Int) × (Int × Int) × Int) → ((List ((Int × Int) × (Int × Int) × (Int × Int))) × (Int × Int) × (Int × Int) × Int) → Int → Int → Option (AV)) : Option (AV) :=
  bif (amid a1 (0 : Int) (w64 ((a0.1.length : Int) - (1 : Int)))) then
    bif (askOK a0 (amid a2 (0 : Int) (1200 : Int))) then
      bif (!decide (((askedF a0 (amid a2 (0 : Int) (1200 : Int))).2) = (0 : Int))) then
        some (.tup [.agg [.int (0 : Int), .int (0 : Int)], .int ((askedF a0 (amid a2 (0 : Int) (1200 : Int))).2)])
      else
        k0 (0 : Int) ((askedF a0 (amid a2 (0 : Int) (1200 : Int))).1) ((askedF a0 (amid a2 (0 : Int) (1200 : Int))).1) (-1 : Int) (-1 : Int)
    else
      none
  else
    bif (askOK a0 false) then
      bif (!decide (((askedF a0 false).2) = (0 : Int))) then
        some (.tup [.agg [.int (0 : Int), .int (0 : Int)], .int ((askedF a0 false).2)])
      else
        k0 (0 : Int) ((askedF a0 false).1) ((askedF a0 false).1) (-1 : Int) (-1 : Int)
    else
      none

noncomputable def f34_R0 (a0 : ((List ((Int × Int) × (Int × Int) × (Int × Int))) × (Int × Int) × (Int × Int) × Int)) (a1 : Int) (a2 : Int) (N : Nat) (n : Nat) (v0_0 : Int) (v0_1 : ((List ((Int × Int) × (Int × Int) × (Int × Int))) × (Int × Int) × (Int × Int) × Int)) (v0_2 : ((List ((Int × Int) × (Int × Int) × (Int × Int))) × (Int × Int) × (Int × Int) × Int)) (v0_3 : Int) (v0_4 : Int) : Option (AV) :=
  loopN (evC X34 N (sub [(1, 0), (1, 0), (1, 0), (1, 0), (0, 0), (1, 0), (0, 0), (0, 0)] (bodyOf Tryd.f34))) (keepOf X34.L (sub [(1, 0), (1, 0), (1, 0), (1, 0), (0, 0), (1, 0), (0, 0), (0, 0)] (bodyOf Tryd.f34))) n ⟨[.poison, .int a1, .int a2, .poison, .poison, .poison, .ref 6 [], .poison, .ref 8 [], .poison, .ref 10 [], .poison, .poison, .poison, .poison, .poison, .poison, .poison, .poison, .poison, .poison, .poison, .poison, .poison, .poison, .poison, .poison, .poison, .poison, .poison, .poison, .poison, .poison, .int v0_0, .poison, .poison, .poison, .poison, .poison, .poison, .poison, .poison, .poison, .poison, .poison, .poison, .poison, .poison, .poison, .poison, .poison, .poison, .poison, .poison, .poison, .poison, .poison, .poison, .poison, .poison], [.none, .none, .none, .none, .none, .none, .box (.agg [.int (0 : Int), .int (0 : Int)]), .none, .box (.agg [enc tRF v0_1, .tok 0 tRF v0_2]), .none, .box (.agg [.int v0_3, .int v0_4]), .none, .none, .none, .none, .none, .none, .none, .none, .none, .none, .none, .none, .none, .none, .none, .none, .none, .none, .none, .none, .none, .none, .none, .none, .none, .none, .none, .none, .none, .none, .none, .none, .none, .none, .none, .none, .none, .none, .none, .none, .none, .none, .none, .none, .none, .none, .none, .none, .none]⟩ (ctxK X34 N [(1, 0), (1, 0), (1, 0), (1, 0), (0, 0), (1, 0), (0, 0)] (bodyOf Tryd.f34) (finK X34 Tryd.f34))

theorem f34_e0 (a0 : ((List ((Int × Int) × (Int × Int) × (Int × Int))) × (Int × Int) × (Int × Int) × Int)) (a1 : Int) (a2 : Int) (N : Nat) (n : Nat) (v0_0 : Int) (v0_1 : ((List ((Int × Int) × (Int × Int) × (Int × Int))) × (Int × Int) × (Int × Int) × Int)) (v0_2 : ((List ((Int × Int) × (Int × Int) × (Int × Int))) × (Int × Int) × (Int × Int) × Int)) (v0_3 : Int) (v0_4 : Int) : f34_R0 a0 a1 a2 N (n + 1) v0_0 v0_1 v0_2 v0_3 v0_4 = f34_s0 a0 a1 a2 (f34_R0 a0 a1 a2 N n) v0_0 v0_1 v0_2 v0_3 v0_4 := by kernel_rfl

noncomputable def f34_L0 (a0 : ((List ((Int × Int) × (Int × Int) × (Int × Int))) × (Int × Int) × (Int × Int) × Int)) (a1 : Int) (a2 : Int) (N : Nat) : Nat → Int → ((List ((Int × Int) × (Int × Int) × (Int × Int))) × (Int × Int) × (Int × Int) × Int) → ((List ((Int × Int) × (Int × Int) × (Int × Int))) × (Int × Int) × (Int × Int) × Int) → Int → Int → Option (AV)
  | 0, _, _, _, _, _ => none
  | n + 1, v0_0, v0_1, v0_2, v0_3, v0_4 => f34_s0 a0 a1 a2 (f34_L0 a0 a1 a2 N n) v0_0 v0_1 v0_2 v0_3 v0_4

theorem f34_q0 (a0 : ((List ((Int × Int) × (Int × Int) × (Int × Int))) × (Int × Int) × (Int × Int) × Int)) (a1 : Int) (a2 : Int) (N : Nat) : ∀ n : Nat, f34_R0 a0 a1 a2 N n = f34_L0 a0 a1 a2 N n
  | 0 => by
    funext v0_0
    funext v0_1
    funext v0_2
    funext v0_3
    funext v0_4
    rfl
  | n + 1 => by
    funext v0_0
    funext v0_1
    funext v0_2
    funext v0_3
    funext v0_4
    rw [f34_e0]
    simp only [f34_q0 a0 a1 a2 N n]
    rfl

noncomputable def f34_T (a0 : ((List ((Int × Int) × (Int × Int) × (Int × Int))) × (Int × Int) × (Int × Int) × Int)) (a1 : Int) (a2 : Int) (N : Nat) : Option (AV) := f34_s a0 a1 a2 (f34_L0 a0 a1 a2 N N)

theorem f34_ev (a0 : ((List ((Int × Int) × (Int × Int) × (Int × Int))) × (Int × Int) × (Int × Int) × Int)) (a1 : Int) (a2 : Int) (N : Nat) : evF X34 N Tryd.f34 [enc tRF a0, enc .int a1, enc .int a2] = f34_T a0 a1 a2 N := by
  have h : evF X34 N Tryd.f34 [enc tRF a0, enc .int a1, enc .int a2] = f34_s a0 a1 a2 (f34_R0 a0 a1 a2 N N) := by kernel_rfl
  rw [h, f34_q0]
  rfl
noncomputable def X35 : Ctx := { T := TT, G := GG, C := [(53, g53), (55, g55), (56, g56), (65, g65), (78, g78), (81, g81)], L := [(6, [0, 4, 5, 7, 8, 11, 12, 13, 14, 15, 16, 17, 18, 19, 20, 21, 22, 23, 24, 25, 26, 27, 28, 29, 30, 31, 32, 33, 34, 35, 36, 37, 38, 39, 40, 41, 42, 43, 44, 45, 46], [])] }
noncomputable def f35_s0 (a0 : ((List ((Int × Int) × (Int × Int) × (Int × Int))) × (Int × Int) × (Int × Int) × Int)) (a1 : Int) (a2 : Int) (k0 : Int → Int → Int → Option (AV)) (v0_0 : Int) (v0_1 : Int) (v0_2 : Int) : Option (AV) :=
  bif (decide (v0_0 ≤ (999 : Int))) then
    bif (inReels3 a0 a1 v0_0) then
      bif (holds (wornS a0 a1 v0_0) a2) then
        bif (decide (v0_1 < (0 : Int))) then
          k0 (w64 (v0_0 + (1 : Int))) v0_0 v0_0
        else
          k0 (w64 (v0_0 + (1 : Int))) v0_1 v0_0
      else
        k0 (w64 (v0_0 + (1 : Int))) v0_1 v0_2
    else
      none
  else
    bif (decide (v0_1 < (0 : Int))) then
      some (.tup [.agg [.int (0 : Int), .int (0 : Int)], .int (4 : Int)])
    else
      some (.tup [.agg [.int v0_1, .int v0_2], .int (0 : Int)])

noncomputable def f35_s (a0 : ((List ((Int × Int) × (Int × Int) × (Int × Int))) × (Int × Int) × (Int × Int) × Int)) (a1 : Int) (a2 : Int) (k0 : Int → Int → Int → Option (AV)) : Option (AV) :=
  bif (isReelB a0 a1) then
    bif (askOK a0 (amid a2 (0 : Int) (1200 : Int))) then
      bif (!decide ((askedI a0 (amid a2 (0 : Int) (1200 : Int))) = (0 : Int))) then
        some (.tup [.agg [.int (0 : Int), .int (0 : Int)], .int (askedI a0 (amid a2 (0 : Int) (1200 : Int)))])
      else
        k0 (0 : Int) ((mk2 (-1 : Int) (-1 : Int)).1) ((mk2 (-1 : Int) (-1 : Int)).2)
    else
      none
  else
    bif (askOK a0 false) then
      bif (!decide ((askedI a0 false) = (0 : Int))) then
        some (.tup [.agg [.int (0 : Int), .int (0 : Int)], .int (askedI a0 false)])
      else
        k0 (0 : Int) ((mk2 (-1 : Int) (-1 : Int)).1) ((mk2 (-1 : Int) (-1 : Int)).2)
    else
      none

noncomputable def f35_R0 (a0 : ((List ((Int × Int) × (Int × Int) × (Int × Int))) × (Int × Int) × (Int × Int) × Int)) (a1 : Int) (a2 : Int) (N : Nat) (n : Nat) (v0_0 : Int) (v0_1 : Int) (v0_2 : Int) : Option (AV) :=
  loopN (evC X35 N (sub [(1, 0), (1, 0), (1, 0), (0, 0), (1, 0), (0, 0), (0, 0)] (bodyOf Tryd.f35))) (keepOf X35.L (sub [(1, 0), (1, 0), (1, 0), (0, 0), (1, 0), (0, 0), (0, 0)] (bodyOf Tryd.f35))) n ⟨[.poison, .int a1, .int a2, .ref 3 [], .poison, .poison, .ref 6 [], .poison, .poison, .ref 9 [], .int v0_0, .poison, .poison, .poison, .poison, .poison, .poison, .poison, .poison, .poison, .poison, .poison, .poison, .poison, .poison, .poison, .poison, .poison, .poison, .poison, .poison, .poison, .poison, .poison, .poison, .poison, .poison, .poison, .poison, .poison, .poison, .poison, .poison, .poison, .poison, .poison, .poison], [.none, .none, .none, .box (enc tRF a0), .none, .none, .box (.agg [.int (0 : Int), .int (0 : Int)]), .none, .none, .box (.agg [.int v0_1, .int v0_2]), .none, .none, .none, .none, .none, .none, .none, .none, .none, .none, .none, .none, .none, .none, .none, .none, .none, .none, .none, .none, .none, .none, .none, .none, .none, .none, .none, .none, .none, .none, .none, .none, .none, .none, .none, .none, .none]⟩ (ctxK X35 N [(1, 0), (1, 0), (1, 0), (0, 0), (1, 0), (0, 0)] (bodyOf Tryd.f35) (finK X35 Tryd.f35))

theorem f35_e0 (a0 : ((List ((Int × Int) × (Int × Int) × (Int × Int))) × (Int × Int) × (Int × Int) × Int)) (a1 : Int) (a2 : Int) (N : Nat) (n : Nat) (v0_0 : Int) (v0_1 : Int) (v0_2 : Int) : f35_R0 a0 a1 a2 N (n + 1) v0_0 v0_1 v0_2 = f35_s0 a0 a1 a2 (f35_R0 a0 a1 a2 N n) v0_0 v0_1 v0_2 := by kernel_rfl

noncomputable def f35_L0 (a0 : ((List ((Int × Int) × (Int × Int) × (Int × Int))) × (Int × Int) × (Int × Int) × Int)) (a1 : Int) (a2 : Int) (N : Nat) : Nat → Int → Int → Int → Option (AV)
  | 0, _, _, _ => none
  | n + 1, v0_0, v0_1, v0_2 => f35_s0 a0 a1 a2 (f35_L0 a0 a1 a2 N n) v0_0 v0_1 v0_2

theorem f35_q0 (a0 : ((List ((Int × Int) × (Int × Int) × (Int × Int))) × (Int × Int) × (Int × Int) × Int)) (a1 : Int) (a2 : Int) (N : Nat) : ∀ n : Nat, f35_R0 a0 a1 a2 N n = f35_L0 a0 a1 a2 N n
  | 0 => by
    funext v0_0
    funext v0_1
    funext v0_2
    rfl
  | n + 1 => by
    funext v0_0
    funext v0_1
    funext v0_2
    rw [f35_e0]
    simp only [f35_q0 a0 a1 a2 N n]
    rfl

noncomputable def f35_T (a0 : ((List ((Int × Int) × (Int × Int) × (Int × Int))) × (Int × Int) × (Int × Int) × Int)) (a1 : Int) (a2 : Int) (N : Nat) : Option (AV) := f35_s a0 a1 a2 (f35_L0 a0 a1 a2 N N)

theorem f35_ev (a0 : ((List ((Int × Int) × (Int × Int) × (Int × Int))) × (Int × Int) × (Int × Int) × Int)) (a1 : Int) (a2 : Int) (N : Nat) : evF X35 N Tryd.f35 [enc tRF a0, enc .int a1, enc .int a2] = f35_T a0 a1 a2 N := by
  have h : evF X35 N Tryd.f35 [enc tRF a0, enc .int a1, enc .int a2] = f35_s a0 a1 a2 (f35_R0 a0 a1 a2 N N) := by kernel_rfl
  rw [h, f35_q0]
  rfl

end Ev
end Go.Proofs.YtidnikjkpbmhhaaDoor
