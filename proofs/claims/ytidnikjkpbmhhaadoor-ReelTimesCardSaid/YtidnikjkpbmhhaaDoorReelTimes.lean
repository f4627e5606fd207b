/- The law ReelTimes and all that it leans on, beyond the common part. -/
import Derived.Test.YtidnikjkpbmhhaaDoorBaseD
/- Choosing, as the evaluator walks it. -/
set_option linter.unusedVariables false
set_option maxRecDepth 4000
namespace Go.Proofs.YtidnikjkpbmhhaaDoor
namespace Ev

noncomputable def g52 : List AV → Option (Bool × AV)
  | [a0, a1] =>
    match dec tSpan a0, dec .int a1 with
    | some x0, some x1 => some (true, enc .int (chooseI x0 x1))
    | _, _ => none
  | _ => none
noncomputable def g54 : List AV → Option (Bool × AV)
  | [a0, a1] =>
    match dec tInts a0, dec .int a1 with
    | some x0, some x1 => some ((pickOK2 x0 x1), enc .int (pickI x0 x1))
    | _, _ => none
  | _ => none
noncomputable def X52 : Ctx := { T := TT, G := GG, C := [(48, g48), (58, g58)], L := [] }
noncomputable def f52_s (a0 : (Int × Int)) (a1 : Int) : Option (AV) :=
  bif (emptyS a0) then
    some (.int a0.1)
  else
    some (.int (w64 (a0.1 + (turnI a1 (w64 ((w64 (a0.2 - a0.1)) + (1 : Int)))))))

noncomputable def f52_T (a0 : (Int × Int)) (a1 : Int) : Option (AV) := f52_s a0 a1

theorem f52_ev (a0 : (Int × Int)) (a1 : Int) (N : Nat) : evF X52 N Tryd.f52 [enc tSpan a0, enc .int a1] = f52_T a0 a1 := by
  have h : evF X52 N Tryd.f52 [enc tSpan a0, enc .int a1] = f52_s a0 a1 := by kernel_rfl
  rw [h]
  rfl
noncomputable def X54 : Ctx := { T := TT, G := GG, C := [(48, g48)], L := [] }
noncomputable def f54_s (a0 : (List Int)) (a1 : Int) : Option (AV) :=
  bif (decide ((a0.length : Int) = (0 : Int))) then
    some (.int (0 : Int))
  else
    bif decide (0 ≤ (turnI a1 (a0.length : Int))) && decide ((turnI a1 (a0.length : Int)) < (a0.length : Int)) then
      some (.int (a0.getD (turnI a1 (a0.length : Int)).toNat (0 : Int)))
    else
      none

noncomputable def f54_T (a0 : (List Int)) (a1 : Int) : Option (AV) := f54_s a0 a1

theorem f54_ev (a0 : (List Int)) (a1 : Int) (N : Nat) : evF X54 N Tryd.f54 [enc tInts a0, enc .int a1] = f54_T a0 a1 := by
  have h : evF X54 N Tryd.f54 [enc tInts a0, enc .int a1] = f54_s a0 a1 := by kernel_rfl
  rw [h]
  rfl

end Ev
end Go.Proofs.YtidnikjkpbmhhaaDoor
/- Choosing: what the walks come to. -/
set_option linter.unusedVariables false
set_option linter.unusedSimpArgs false
set_option maxRecDepth 4000
namespace Go.Proofs.YtidnikjkpbmhhaaDoor
namespace Ev

theorem f52_sp (x0 : (Int × Int)) (x1 : Int) : ∃ (N : Nat) (r0 : AV), f52_T x0 x1 = some r0 ∧ wkAV r0 = enc .int (chooseI x0 x1) := by
  refine ⟨0, .int (chooseI x0 x1), ?_, rfl⟩
  unfold f52_T f52_s chooseI emptyS
  by_cases h : x0.2 < x0.1 <;> simp [h]
theorem f54_sp (x0 : (List Int)) (x1 : Int) (hp : pickOK2 x0 x1 = true) : ∃ (N : Nat) (r0 : AV), f54_T x0 x1 = some r0 ∧ wkAV r0 = enc .int (pickI x0 x1) := by
  have hl : x0.length ≤ 70368744177664 := Nat.le_of_ble_eq_true hp
  refine ⟨0, .int (pickI x0 x1), ?_, rfl⟩
  unfold f54_T f54_s pickI
  by_cases h : x0.length = 0
  · simp [h]
  · have hr := turn_range (n := x1) (m := x0.length) (by omega) (by omega)
    simp [h, hr.1, hr.2]

end Ev
end Go.Proofs.YtidnikjkpbmhhaaDoor
/- The contracts of choosing. -/
set_option linter.unusedVariables false
set_option maxRecDepth 4000
namespace Go.Proofs.YtidnikjkpbmhhaaDoor
namespace Ev

theorem k52 : Good 52 g52 := ⟨ctr_ofN (B := Bs) (X := X52) (ctxOK rfl rfl rfl rfl rfl rfl (AllC.cons k48 (AllC.cons k58 AllC.nil))) Tryd.func52 (fun args r h => by
  unfold g52 at h
  split at h
  · rename_i a0 a1
    split at h
    · rename_i x0 x1 h0 h1
      simp only [Option.some.injEq, Prod.mk.injEq] at h
      obtain ⟨hp, rfl⟩ := h
      obtain ⟨N, r0, q1, q2⟩ := f52_sp x0 x1
      refine ⟨N, r0, ?_, q2⟩
      simp only [wkL, wk_dec h0, wk_dec h1]
      exact (f52_ev x0 x1 N).trans q1
    · cases h
  · cases h), Tryd.f52, Tryd.func52, by kernel_rfl, by kernel_rfl⟩
theorem k54 : Good 54 g54 := ⟨ctr_ofN (B := Bs) (X := X54) (ctxOK rfl rfl rfl rfl rfl rfl (AllC.cons k48 AllC.nil)) Tryd.func54 (fun args r h => by
  unfold g54 at h
  split at h
  · rename_i a0 a1
    split at h
    · rename_i x0 x1 h0 h1
      simp only [Option.some.injEq, Prod.mk.injEq] at h
      obtain ⟨hp, rfl⟩ := h
      obtain ⟨N, r0, q1, q2⟩ := f54_sp x0 x1 hp
      refine ⟨N, r0, ?_, q2⟩
      simp only [wkL, wk_dec h0, wk_dec h1]
      exact (f54_ev x0 x1 N).trans q1
    · cases h
  · cases h), Tryd.f54, Tryd.func54, by kernel_rfl, by kernel_rfl⟩

end Ev
end Go.Proofs.YtidnikjkpbmhhaaDoor
/- Spools, and orders that numbers choose, in plain words. -/
namespace Go.Proofs.YtidnikjkpbmhhaaDoor
namespace Ev

def joinedI (x : Fi) (l : List Int) (n : Int) : Fi × List Int × Int :=
  if askedI x (decide (0 < (l.length : Int)) && (areReelsB x l && amid n 0 999)) = 0 then
    (if (spoolsF x l n).2 = true then (x, (spoolsF x l n).1, 0) else (x, [], 4))
  else (zRF, [], askedI x (decide (0 < (l.length : Int)) && (areReelsB x l && amid n 0 999)))
def joinOK (x : Fi) (l : List Int) (_ : Int) : Bool := chkOK x && lenOK l
def SpoolsI (x : Fi) (l : List Int) (n : Int) : List Int × Int := ((joinedI x l n).2.1, (joinedI x l n).2.2)
def shufG (bits : List Int) : Nat → Nat → List Int → List Int
  | 0, _, out => out
  | m + 1, i, out => shufG bits m (i + 1) (((([] : List Int) ++ (out.take (turnI (pickI bits (i : Int)) ((out.length : Int) + 1)).toNat)) ++ [(i : Int)]) ++ (out.drop (turnI (pickI bits (i : Int)) ((out.length : Int) + 1)).toNat))
def shufI (many : Int) (bits : List Int) : List Int := shufG bits many.toNat 0 []
def shufOK (many : Int) (bits : List Int) : Bool := decide (many ≤ 1000) && lenOK bits

end Ev
end Go.Proofs.YtidnikjkpbmhhaaDoor
/- Spools, and orders that numbers choose, as the evaluator walks them. -/
set_option linter.unusedVariables false
set_option maxRecDepth 4000
namespace Go.Proofs.YtidnikjkpbmhhaaDoor
namespace Ev

noncomputable def g76 : List AV → Option (Bool × AV)
  | [a0, a1] =>
    match dec tInts a0, dec .int a1 with
    | some x0, some x1 => some ((lenOK2 x0 x1), enc .int (findI x0 x1))
    | _, _ => none
  | _ => none
noncomputable def g87 : List AV → Option (Bool × AV)
  | [a0, a1] =>
    match dec tInts a0, dec .int a1 with
    | some x0, some x1 => some ((lenOK2 x0 x1), enc .bool (containsI x0 x1))
    | _, _ => none
  | _ => none
noncomputable def g63 : List AV → Option (Bool × AV)
  | [a0, a1] =>
    match dec tRF a0, dec tInts a1 with
    | some x0, some x1 => some ((areOK x0 x1), enc .bool (areReelsB x0 x1))
    | _, _ => none
  | _ => none
noncomputable def g84 : List AV → Option (Bool × AV)
  | [a0, a1, a2] =>
    match dec tRF a0, dec tInts a1, dec .int a2 with
    | some x0, some x1, some x2 => some ((joinOK x0 x1 x2), .tup [.agg [enc tRF ((joinedI x0 x1 x2).1), .tok 0 tRF ((joinedI x0 x1 x2).1)], enc tInts ((joinedI x0 x1 x2).2.1), enc .int ((joinedI x0 x1 x2).2.2)])
    | _, _, _ => none
  | _ => none
noncomputable def g38 : List AV → Option (Bool × AV)
  | [a0, a1, a2] =>
    match dec tRF a0, dec tInts a1, dec .int a2 with
    | some x0, some x1, some x2 => some ((joinOK x0 x1 x2), .tup [enc tInts ((SpoolsI x0 x1 x2).1), enc .int ((SpoolsI x0 x1 x2).2)])
    | _, _, _ => none
  | _ => none
noncomputable def g57 : List AV → Option (Bool × AV)
  | [a0] =>
    match dec tInts a0 with
    | some x0 => some ((lenOK x0), enc .int (sumI0 x0))
    | _ => none
  | _ => none
noncomputable def g49 : List AV → Option (Bool × AV)
  | [a0, a1] =>
    match dec .int a0, dec tInts a1 with
    | some x0, some x1 => some ((shufOK x0 x1), enc tInts (shufI x0 x1))
    | _, _ => none
  | _ => none
noncomputable def X76 : Ctx := { T := TT, G := GG, C := [], L := [(2, [2, 3, 4, 5, 6, 9, 10, 11, 12, 13, 14, 15, 16, 17, 18], [0])] }
noncomputable def f76_s0 (a0 : (List Int)) (a1 : Int) (k0 : Int → Option (AV)) (v0_0 : Int) : Option (AV) :=
  bif (decide (v0_0 < (a0.length : Int))) then
    bif decide (0 ≤ v0_0) && decide (v0_0 < (a0.length : Int)) then
      bif (decide (a1 = (a0.getD v0_0.toNat (0 : Int)))) then
        some (.int v0_0)
      else
        k0 (w64 (v0_0 + (1 : Int)))
    else
      none
  else
    some (.int (-1 : Int))

noncomputable def f76_s (a0 : (List Int)) (a1 : Int) (k0 : Int → Option (AV)) : Option (AV) :=
  k0 (0 : Int)

noncomputable def f76_R0 (a0 : (List Int)) (a1 : Int) (N : Nat) (n : Nat) (v0_0 : Int) : Option (AV) :=
  loopN (evC X76 N (sub [(1, 0), (0, 0), (1, 0), (0, 0), (0, 0)] (bodyOf Tryd.f76))) (keepOf X76.L (sub [(1, 0), (0, 0), (1, 0), (0, 0), (0, 0)] (bodyOf Tryd.f76))) n ⟨[.sl .int ⟨false, false, none⟩ a0, .int a1, .poison, .poison, .poison, .poison, .poison, .int (a0.length : Int), .int v0_0, .poison, .poison, .poison, .poison, .poison, .poison, .poison, .poison, .poison, .poison], [.none, .none, .none, .none, .none, .none, .none, .none, .none, .none, .none, .none, .none, .none, .none, .none, .none, .none, .none]⟩ (ctxK X76 N [(1, 0), (0, 0), (1, 0), (0, 0)] (bodyOf Tryd.f76) (finK X76 Tryd.f76))

theorem f76_e0 (a0 : (List Int)) (a1 : Int) (N : Nat) (n : Nat) (v0_0 : Int) : f76_R0 a0 a1 N (n + 1) v0_0 = f76_s0 a0 a1 (f76_R0 a0 a1 N n) v0_0 := by kernel_rfl

noncomputable def f76_L0 (a0 : (List Int)) (a1 : Int) (N : Nat) : Nat → Int → Option (AV)
  | 0, _ => none
  | n + 1, v0_0 => f76_s0 a0 a1 (f76_L0 a0 a1 N n) v0_0

theorem f76_q0 (a0 : (List Int)) (a1 : Int) (N : Nat) : ∀ n : Nat, f76_R0 a0 a1 N n = f76_L0 a0 a1 N n
  | 0 => by
    funext v0_0
    rfl
  | n + 1 => by
    funext v0_0
    rw [f76_e0]
    simp only [f76_q0 a0 a1 N n]
    rfl

noncomputable def f76_T (a0 : (List Int)) (a1 : Int) (N : Nat) : Option (AV) := f76_s a0 a1 (f76_L0 a0 a1 N N)

theorem f76_ev (a0 : (List Int)) (a1 : Int) (N : Nat) : evF X76 N Tryd.f76 [enc tInts a0, enc .int a1] = f76_T a0 a1 N := by
  have h : evF X76 N Tryd.f76 [enc tInts a0, enc .int a1] = f76_s a0 a1 (f76_R0 a0 a1 N N) := by kernel_rfl
  rw [h, f76_q0]
  rfl
noncomputable def X87 : Ctx := { T := TT, G := GG, C := [(76, g76)], L := [] }
noncomputable def f87_s (a0 : (List Int)) (a1 : Int) : Option (AV) :=
  bif (lenOK2 a0 a1) then
    some (.bool (decide ((0 : Int) ≤ (findI a0 a1))))
  else
    none

noncomputable def f87_T (a0 : (List Int)) (a1 : Int) : Option (AV) := f87_s a0 a1

theorem f87_ev (a0 : (List Int)) (a1 : Int) (N : Nat) : evF X87 N Tryd.f87 [enc tInts a0, enc .int a1] = f87_T a0 a1 := by
  have h : evF X87 N Tryd.f87 [enc tInts a0, enc .int a1] = f87_s a0 a1 := by kernel_rfl
  rw [h]
  rfl
noncomputable def X63 : Ctx := { T := TT, G := GG, C := [(68, g68), (87, g87)], L := [(2, [0, 3, 4, 5, 6, 10, 11, 12, 13, 14, 15, 16, 17, 18, 19, 20, 21, 22, 23, 24, 25, 26, 27, 28], [1, 7])] }
noncomputable def f63_s0 (a0 : ((List ((Int × Int) × (Int × Int) × (Int × Int))) × (Int × Int) × (Int × Int) × Int)) (a1 : (List Int)) (k0 : Int → Option (AV)) (v0_0 : Int) : Option (AV) :=
  bif (decide (v0_0 < (a1.length : Int))) then
    bif decide (0 ≤ v0_0) && decide (v0_0 < (a1.length : Int)) then
      bif (!(amid (a1.getD v0_0.toNat (0 : Int)) (0 : Int) (w64 ((a0.1.length : Int) - (1 : Int))))) then
        some (.bool false)
      else
        bif decide (0 ≤ v0_0) && decide (v0_0 ≤ (a1.length : Int)) then
          bif (lenOK2 (a1.take v0_0.toNat) (a1.getD v0_0.toNat (0 : Int))) then
            bif (containsI (a1.take v0_0.toNat) (a1.getD v0_0.toNat (0 : Int))) then
              some (.bool false)
            else
              k0 (w64 (v0_0 + (1 : Int)))
          else
            none
        else
          none
    else
      none
  else
    some (.bool true)

noncomputable def f63_s (a0 : ((List ((Int × Int) × (Int × Int) × (Int × Int))) × (Int × Int) × (Int × Int) × Int)) (a1 : (List Int)) (k0 : Int → Option (AV)) : Option (AV) :=
  k0 (0 : Int)

noncomputable def f63_R0 (a0 : ((List ((Int × Int) × (Int × Int) × (Int × Int))) × (Int × Int) × (Int × Int) × Int)) (a1 : (List Int)) (N : Nat) (n : Nat) (v0_0 : Int) : Option (AV) :=
  loopN (evC X63 N (sub [(1, 0), (0, 0), (1, 0), (0, 0), (0, 0)] (bodyOf Tryd.f63))) (keepOf X63.L (sub [(1, 0), (0, 0), (1, 0), (0, 0), (0, 0)] (bodyOf Tryd.f63))) n ⟨[.poison, .sl .int ⟨false, false, none⟩ a1, .ref 2 [], .poison, .poison, .poison, .poison, .sl .int ⟨false, false, none⟩ a1, .int (a1.length : Int), .int v0_0, .poison, .poison, .poison, .poison, .poison, .poison, .poison, .poison, .poison, .poison, .poison, .poison, .poison, .poison, .poison, .poison, .poison, .poison, .poison], [.none, .none, .box (enc tRF a0), .none, .none, .none, .none, .none, .none, .none, .none, .none, .none, .none, .none, .none, .none, .none, .none, .none, .none, .none, .none, .none, .none, .none, .none, .none, .none]⟩ (ctxK X63 N [(1, 0), (0, 0), (1, 0), (0, 0)] (bodyOf Tryd.f63) (finK X63 Tryd.f63))

theorem f63_e0 (a0 : ((List ((Int × Int) × (Int × Int) × (Int × Int))) × (Int × Int) × (Int × Int) × Int)) (a1 : (List Int)) (N : Nat) (n : Nat) (v0_0 : Int) : f63_R0 a0 a1 N (n + 1) v0_0 = f63_s0 a0 a1 (f63_R0 a0 a1 N n) v0_0 := by kernel_rfl

noncomputable def f63_L0 (a0 : ((List ((Int × Int) × (Int × Int) × (Int × Int))) × (Int × Int) × (Int × Int) × Int)) (a1 : (List Int)) (N : Nat) : Nat → Int → Option (AV)
  | 0, _ => none
  | n + 1, v0_0 => f63_s0 a0 a1 (f63_L0 a0 a1 N n) v0_0

theorem f63_q0 (a0 : ((List ((Int × Int) × (Int × Int) × (Int × Int))) × (Int × Int) × (Int × Int) × Int)) (a1 : (List Int)) (N : Nat) : ∀ n : Nat, f63_R0 a0 a1 N n = f63_L0 a0 a1 N n
  | 0 => by
    funext v0_0
    rfl
  | n + 1 => by
    funext v0_0
    rw [f63_e0]
    simp only [f63_q0 a0 a1 N n]
    rfl

noncomputable def f63_T (a0 : ((List ((Int × Int) × (Int × Int) × (Int × Int))) × (Int × Int) × (Int × Int) × Int)) (a1 : (List Int)) (N : Nat) : Option (AV) := f63_s a0 a1 (f63_L0 a0 a1 N N)

theorem f63_ev (a0 : ((List ((Int × Int) × (Int × Int) × (Int × Int))) × (Int × Int) × (Int × Int) × Int)) (a1 : (List Int)) (N : Nat) : evF X63 N Tryd.f63 [enc tRF a0, enc tInts a1] = f63_T a0 a1 N := by
  have h : evF X63 N Tryd.f63 [enc tRF a0, enc tInts a1] = f63_s a0 a1 (f63_R0 a0 a1 N N) := by kernel_rfl
  rw [h, f63_q0]
  rfl
noncomputable def X84 : Ctx := { T := TT, G := GG, C := [(62, g62), (63, g63), (68, g68), (96, g96)], L := [] }
noncomputable def f84_s (a0 : ((List ((Int × Int) × (Int × Int) × (Int × Int))) × (Int × Int) × (Int × Int) × Int)) (a1 : (List Int)) (a2 : Int) : Option (AV) :=
  bif (decide ((0 : Int) < (a1.length : Int))) then
    bif (areOK a0 a1) then
      bif (areReelsB a0 a1) then
        bif (askOK a0 (amid a2 (0 : Int) (999 : Int))) then
          bif (!decide (((askedF a0 (amid a2 (0 : Int) (999 : Int))).2) = (0 : Int))) then
            some (.tup [.agg [enc tRF ((askedF a0 (amid a2 (0 : Int) (999 : Int))).1), .tok 0 tRF ((askedF a0 (amid a2 (0 : Int) (999 : Int))).1)], .sl .int ⟨true, true, none⟩ ([] : List Int), .int ((askedF a0 (amid a2 (0 : Int) (999 : Int))).2)])
          else
            bif decide (((askedF a0 (amid a2 (0 : Int) (999 : Int))).1) = ((askedF a0 (amid a2 (0 : Int) (999 : Int))).1)) && ((spoolsOK ((askedF a0 (amid a2 (0 : Int) (999 : Int))).1) a1 a2)) then
              bif (!((spoolsF ((askedF a0 (amid a2 (0 : Int) (999 : Int))).1) a1 a2).2)) then
                some (.tup [.agg [enc tRF ((askedF a0 (amid a2 (0 : Int) (999 : Int))).1), .tok 0 tRF ((askedF a0 (amid a2 (0 : Int) (999 : Int))).1)], .sl .int ⟨true, true, none⟩ ([] : List Int), .int (4 : Int)])
              else
                some (.tup [.agg [enc tRF ((askedF a0 (amid a2 (0 : Int) (999 : Int))).1), .tok 0 tRF ((askedF a0 (amid a2 (0 : Int) (999 : Int))).1)], .sl .int ⟨false, false, none⟩ ((spoolsF ((askedF a0 (amid a2 (0 : Int) (999 : Int))).1) a1 a2).1), .int (0 : Int)])
            else
              none
        else
          none
      else
        bif (askOK a0 false) then
          bif (!decide (((askedF a0 false).2) = (0 : Int))) then
            some (.tup [.agg [enc tRF ((askedF a0 false).1), .tok 0 tRF ((askedF a0 false).1)], .sl .int ⟨true, true, none⟩ ([] : List Int), .int ((askedF a0 false).2)])
          else
            bif decide (((askedF a0 false).1) = ((askedF a0 false).1)) && ((spoolsOK ((askedF a0 false).1) a1 a2)) then
              bif (!((spoolsF ((askedF a0 false).1) a1 a2).2)) then
                some (.tup [.agg [enc tRF ((askedF a0 false).1), .tok 0 tRF ((askedF a0 false).1)], .sl .int ⟨true, true, none⟩ ([] : List Int), .int (4 : Int)])
              else
                some (.tup [.agg [enc tRF ((askedF a0 false).1), .tok 0 tRF ((askedF a0 false).1)], .sl .int ⟨false, false, none⟩ ((spoolsF ((askedF a0 false).1) a1 a2).1), .int (0 : Int)])
            else
              none
        else
          none
    else
      none
  else
    bif (askOK a0 false) then
      bif (!decide (((askedF a0 false).2) = (0 : Int))) then
        some (.tup [.agg [enc tRF ((askedF a0 false).1), .tok 0 tRF ((askedF a0 false).1)], .sl .int ⟨true, true, none⟩ ([] : List Int), .int ((askedF a0 false).2)])
      else
        bif decide (((askedF a0 false).1) = ((askedF a0 false).1)) && ((spoolsOK ((askedF a0 false).1) a1 a2)) then
          bif (!((spoolsF ((askedF a0 false).1) a1 a2).2)) then
            some (.tup [.agg [enc tRF ((askedF a0 false).1), .tok 0 tRF ((askedF a0 false).1)], .sl .int ⟨true, true, none⟩ ([] : List Int), .int (4 : Int)])
          else
            some (.tup [.agg [enc tRF ((askedF a0 false).1), .tok 0 tRF ((askedF a0 false).1)], .sl .int ⟨false, false, none⟩ ((spoolsF ((askedF a0 false).1) a1 a2).1), .int (0 : Int)])
        else
          none
    else
      none

noncomputable def f84_T (a0 : ((List ((Int × Int) × (Int × Int) × (Int × Int))) × (Int × Int) × (Int × Int) × Int)) (a1 : (List Int)) (a2 : Int) : Option (AV) := f84_s a0 a1 a2

theorem f84_ev (a0 : ((List ((Int × Int) × (Int × Int) × (Int × Int))) × (Int × Int) × (Int × Int) × Int)) (a1 : (List Int)) (a2 : Int) (N : Nat) : evF X84 N Tryd.f84 [enc tRF a0, enc tInts a1, enc .int a2] = f84_T a0 a1 a2 := by
  have h : evF X84 N Tryd.f84 [enc tRF a0, enc tInts a1, enc .int a2] = f84_s a0 a1 a2 := by kernel_rfl
  rw [h]
  rfl
noncomputable def X38 : Ctx := { T := TT, G := GG, C := [(84, g84)], L := [] }
noncomputable def f38_s (a0 : ((List ((Int × Int) × (Int × Int) × (Int × Int))) × (Int × Int) × (Int × Int) × Int)) (a1 : (List Int)) (a2 : Int) : Option (AV) :=
  bif (joinOK a0 a1 a2) then
    bif (!decide (((joinedI a0 a1 a2).2.2) = (0 : Int))) then
      some (.tup [.sl .int ⟨true, true, none⟩ ([] : List Int), .int ((joinedI a0 a1 a2).2.2)])
    else
      bif decide ((((joinedI a0 a1 a2).2.1).length : Int) = (((joinedI a0 a1 a2).2.1).length : Int)) && (decide (0 ≤ (((joinedI a0 a1 a2).2.1).length : Int)) && decide ((((joinedI a0 a1 a2).2.1).length : Int) ≤ (((joinedI a0 a1 a2).2.1).length : Int))) then
        some (.tup [.sl .int ⟨(false && decide ((((joinedI a0 a1 a2).2.1).length : Int) = (((joinedI a0 a1 a2).2.1).length : Int))), true, none⟩ (((joinedI a0 a1 a2).2.1).take (((joinedI a0 a1 a2).2.1).length : Int).toNat), .int (0 : Int)])
      else
        none
  else
    none

noncomputable def f38_T (a0 : ((List ((Int × Int) × (Int × Int) × (Int × Int))) × (Int × Int) × (Int × Int) × Int)) (a1 : (List Int)) (a2 : Int) : Option (AV) := f38_s a0 a1 a2

theorem f38_ev (a0 : ((List ((Int × Int) × (Int × Int) × (Int × Int))) × (Int × Int) × (Int × Int) × Int)) (a1 : (List Int)) (a2 : Int) (N : Nat) : evF X38 N Tryd.f38 [enc tRF a0, enc tInts a1, enc .int a2] = f38_T a0 a1 a2 := by
  have h : evF X38 N Tryd.f38 [enc tRF a0, enc tInts a1, enc .int a2] = f38_s a0 a1 a2 := by kernel_rfl
  rw [h]
  rfl
noncomputable def X57 : Ctx := { T := TT, G := GG, C := [], L := [(3, [1, 2, 5, 6, 7, 8, 9, 10, 11, 12, 13, 14, 15, 16, 17], [0])] }
noncomputable def f57_s0 (a0 : (List Int)) (k0 : Int → Int → Option (AV)) (v0_0 : Int) (v0_1 : Int) : Option (AV) :=
  bif (decide (v0_1 < (a0.length : Int))) then
    bif decide (0 ≤ v0_1) && decide (v0_1 < (a0.length : Int)) then
      k0 (w64 (v0_0 + (a0.getD v0_1.toNat (0 : Int)))) (w64 (v0_1 + (1 : Int)))
    else
      none
  else
    some (.int v0_0)

noncomputable def f57_s (a0 : (List Int)) (k0 : Int → Int → Option (AV)) : Option (AV) :=
  k0 (0 : Int) (0 : Int)

noncomputable def f57_R0 (a0 : (List Int)) (N : Nat) (n : Nat) (v0_0 : Int) (v0_1 : Int) : Option (AV) :=
  loopN (evC X57 N (sub [(1, 0), (1, 0), (0, 0), (1, 0), (0, 0), (0, 0)] (bodyOf Tryd.f57))) (keepOf X57.L (sub [(1, 0), (1, 0), (0, 0), (1, 0), (0, 0), (0, 0)] (bodyOf Tryd.f57))) n ⟨[.sl .int ⟨false, false, none⟩ a0, .poison, .poison, .int v0_0, .int v0_1, .poison, .poison, .poison, .poison, .poison, .poison, .poison, .poison, .poison, .poison, .poison, .poison, .poison], [.none, .none, .none, .none, .none, .none, .none, .none, .none, .none, .none, .none, .none, .none, .none, .none, .none, .none]⟩ (ctxK X57 N [(1, 0), (1, 0), (0, 0), (1, 0), (0, 0)] (bodyOf Tryd.f57) (finK X57 Tryd.f57))

theorem f57_e0 (a0 : (List Int)) (N : Nat) (n : Nat) (v0_0 : Int) (v0_1 : Int) : f57_R0 a0 N (n + 1) v0_0 v0_1 = f57_s0 a0 (f57_R0 a0 N n) v0_0 v0_1 := by kernel_rfl

noncomputable def f57_L0 (a0 : (List Int)) (N : Nat) : Nat → Int → Int → Option (AV)
  | 0, _, _ => none
  | n + 1, v0_0, v0_1 => f57_s0 a0 (f57_L0 a0 N n) v0_0 v0_1

theorem f57_q0 (a0 : (List Int)) (N : Nat) : ∀ n : Nat, f57_R0 a0 N n = f57_L0 a0 N n
  | 0 => by
    funext v0_0
    funext v0_1
    rfl
  | n + 1 => by
    funext v0_0
    funext v0_1
    rw [f57_e0]
    simp only [f57_q0 a0 N n]
    rfl

noncomputable def f57_T (a0 : (List Int)) (N : Nat) : Option (AV) := f57_s a0 (f57_L0 a0 N N)

theorem f57_ev (a0 : (List Int)) (N : Nat) : evF X57 N Tryd.f57 [enc tInts a0] = f57_T a0 N := by
  have h : evF X57 N Tryd.f57 [enc tInts a0] = f57_s a0 (f57_R0 a0 N N) := by kernel_rfl
  rw [h, f57_q0]
  rfl
noncomputable def X49 : Ctx := { T := TT, G := GG, C := [(48, g48), (54, g54)], L := [(3, [2, 3, 4, 7, 8, 9, 10, 11, 12, 13, 14, 15, 16, 17, 18, 19, 20, 21, 22, 23, 24, 25, 26, 27, 28, 29, 30, 31, 32, 33, 34], [1, 5])] }
noncomputable def f49_s0 (a0 : Int) (a1 : (List Int)) (k1 : (List Int) → Int → Option (AV)) : Option (AV) :=
  bif (decide ((0 : Int) < a0)) then
    bif (pickOK2 a1 (0 : Int)) then
      bif decide (0 ≤ (turnI (pickI a1 (0 : Int)) (w64 ((([] : List Int).length : Int) + (1 : Int))))) && decide ((turnI (pickI a1 (0 : Int)) (w64 ((([] : List Int).length : Int) + (1 : Int)))) ≤ (([] : List Int).length : Int)) then
        bif true && roomy ([] : List Int).length (([] : List Int).take (turnI (pickI a1 (0 : Int)) (w64 ((([] : List Int).length : Int) + (1 : Int)))).toNat).length 8 then
          bif roomy (([] : List Int) ++ (([] : List Int).take (turnI (pickI a1 (0 : Int)) (w64 ((([] : List Int).length : Int) + (1 : Int)))).toNat)).length [(0 : Int)].length 8 then
            bif decide (0 ≤ (turnI (pickI a1 (0 : Int)) (w64 ((([] : List Int).length : Int) + (1 : Int))))) && decide ((turnI (pickI a1 (0 : Int)) (w64 ((([] : List Int).length : Int) + (1 : Int)))) ≤ (([] : List Int).length : Int)) then
              bif roomy ((([] : List Int) ++ (([] : List Int).take (turnI (pickI a1 (0 : Int)) (w64 ((([] : List Int).length : Int) + (1 : Int)))).toNat)) ++ [(0 : Int)]).length (([] : List Int).drop (turnI (pickI a1 (0 : Int)) (w64 ((([] : List Int).length : Int) + (1 : Int)))).toNat).length 8 then
                k1 (((([] : List Int) ++ (([] : List Int).take (turnI (pickI a1 (0 : Int)) (w64 ((([] : List Int).length : Int) + (1 : Int)))).toNat)) ++ [(0 : Int)]) ++ (([] : List Int).drop (turnI (pickI a1 (0 : Int)) (w64 ((([] : List Int).length : Int) + (1 : Int)))).toNat)) (w64 ((0 : Int) + (1 : Int)))
              else
                none
            else
              none
          else
            none
        else
          none
      else
        none
    else
      none
  else
    some (.sl .int ⟨false, false, none⟩ ([] : List Int))

noncomputable def f49_s1 (a0 : Int) (a1 : (List Int)) (k1 : (List Int) → Int → Option (AV)) (v1_0 : (List Int)) (v1_1 : Int) : Option (AV) :=
  bif (decide (v1_1 < a0)) then
    bif (pickOK2 a1 v1_1) then
      bif decide (0 ≤ (turnI (pickI a1 v1_1) (w64 ((v1_0.length : Int) + (1 : Int))))) && decide ((turnI (pickI a1 v1_1) (w64 ((v1_0.length : Int) + (1 : Int)))) ≤ (v1_0.length : Int)) then
        bif true && roomy ([] : List Int).length (v1_0.take (turnI (pickI a1 v1_1) (w64 ((v1_0.length : Int) + (1 : Int)))).toNat).length 8 then
          bif roomy (([] : List Int) ++ (v1_0.take (turnI (pickI a1 v1_1) (w64 ((v1_0.length : Int) + (1 : Int)))).toNat)).length [v1_1].length 8 then
            bif decide (0 ≤ (turnI (pickI a1 v1_1) (w64 ((v1_0.length : Int) + (1 : Int))))) && decide ((turnI (pickI a1 v1_1) (w64 ((v1_0.length : Int) + (1 : Int)))) ≤ (v1_0.length : Int)) then
              bif roomy ((([] : List Int) ++ (v1_0.take (turnI (pickI a1 v1_1) (w64 ((v1_0.length : Int) + (1 : Int)))).toNat)) ++ [v1_1]).length (v1_0.drop (turnI (pickI a1 v1_1) (w64 ((v1_0.length : Int) + (1 : Int)))).toNat).length 8 then
                k1 (((([] : List Int) ++ (v1_0.take (turnI (pickI a1 v1_1) (w64 ((v1_0.length : Int) + (1 : Int)))).toNat)) ++ [v1_1]) ++ (v1_0.drop (turnI (pickI a1 v1_1) (w64 ((v1_0.length : Int) + (1 : Int)))).toNat)) (w64 (v1_1 + (1 : Int)))
              else
                none
            else
              none
          else
            none
        else
          none
      else
        none
    else
      none
  else
    some (.sl .int ⟨false, false, none⟩ v1_0)

noncomputable def f49_s (a0 : Int) (a1 : (List Int)) (k0 : Option (AV)) : Option (AV) :=
  k0

noncomputable def f49_R0 (a0 : Int) (a1 : (List Int)) (N : Nat) (n : Nat) : Option (AV) :=
  loopN (evC X49 N (sub [(1, 0), (1, 0), (0, 0), (1, 0), (0, 0), (0, 0)] (bodyOf Tryd.f49))) (keepOf X49.L (sub [(1, 0), (1, 0), (0, 0), (1, 0), (0, 0), (0, 0)] (bodyOf Tryd.f49))) n ⟨[.int a0, .sl .int ⟨false, false, none⟩ a1, .poison, .poison, .poison, .sl .int ⟨false, false, none⟩ ([] : List Int), .int (0 : Int), .poison, .poison, .poison, .poison, .poison, .poison, .poison, .poison, .poison, .poison, .poison, .poison, .poison, .poison, .poison, .poison, .poison, .poison, .poison, .poison, .poison, .poison, .poison, .poison, .poison, .poison, .poison, .poison], [.none, .none, .none, .none, .none, .none, .none, .none, .none, .none, .none, .none, .none, .none, .none, .none, .none, .none, .none, .none, .none, .none, .none, .none, .none, .none, .none, .none, .none, .none, .none, .none, .none, .none, .none]⟩ (ctxK X49 N [(1, 0), (1, 0), (0, 0), (1, 0), (0, 0)] (bodyOf Tryd.f49) (finK X49 Tryd.f49))

noncomputable def f49_R1 (a0 : Int) (a1 : (List Int)) (N : Nat) (n : Nat) (v1_0 : (List Int)) (v1_1 : Int) : Option (AV) :=
  loopN (evC X49 N (sub [(1, 0), (1, 0), (0, 0), (1, 0), (0, 0), (0, 0)] (bodyOf Tryd.f49))) (keepOf X49.L (sub [(1, 0), (1, 0), (0, 0), (1, 0), (0, 0), (0, 0)] (bodyOf Tryd.f49))) n ⟨[.int a0, .sl .int ⟨false, false, none⟩ a1, .poison, .poison, .poison, .sl .int ⟨false, false, none⟩ v1_0, .int v1_1, .poison, .poison, .poison, .poison, .poison, .poison, .poison, .poison, .poison, .poison, .poison, .poison, .poison, .poison, .poison, .poison, .poison, .poison, .poison, .poison, .poison, .poison, .poison, .poison, .poison, .poison, .poison, .poison], [.none, .none, .none, .none, .none, .none, .none, .none, .none, .none, .none, .none, .none, .none, .none, .none, .none, .none, .none, .none, .none, .none, .none, .none, .none, .lin 0 false, .none, .none, .none, .lin 0 false, .none, .none, .none, .lin 0 true, .none]⟩ (ctxK X49 N [(1, 0), (1, 0), (0, 0), (1, 0), (0, 0)] (bodyOf Tryd.f49) (finK X49 Tryd.f49))

theorem f49_e0 (a0 : Int) (a1 : (List Int)) (N : Nat) (n : Nat) : f49_R0 a0 a1 N (n + 1) = f49_s0 a0 a1 (f49_R1 a0 a1 N n) := by kernel_rfl

theorem f49_e1 (a0 : Int) (a1 : (List Int)) (N : Nat) (n : Nat) (v1_0 : (List Int)) (v1_1 : Int) : f49_R1 a0 a1 N (n + 1) v1_0 v1_1 = f49_s1 a0 a1 (f49_R1 a0 a1 N n) v1_0 v1_1 := by kernel_rfl

noncomputable def f49_L1 (a0 : Int) (a1 : (List Int)) (N : Nat) : Nat → (List Int) → Int → Option (AV)
  | 0, _, _ => none
  | n + 1, v1_0, v1_1 => f49_s1 a0 a1 (f49_L1 a0 a1 N n) v1_0 v1_1

noncomputable def f49_L0 (a0 : Int) (a1 : (List Int)) (N : Nat) : Nat → Option (AV)
  | 0 => none
  | n + 1 => f49_s0 a0 a1 (f49_L1 a0 a1 N n)

theorem f49_q1 (a0 : Int) (a1 : (List Int)) (N : Nat) : ∀ n : Nat, f49_R1 a0 a1 N n = f49_L1 a0 a1 N n
  | 0 => by
    funext v1_0
    funext v1_1
    rfl
  | n + 1 => by
    funext v1_0
    funext v1_1
    rw [f49_e1]
    simp only [f49_q1 a0 a1 N n]
    rfl

theorem f49_q0 (a0 : Int) (a1 : (List Int)) (N : Nat) : ∀ n : Nat, f49_R0 a0 a1 N n = f49_L0 a0 a1 N n
  | 0 => by
    rfl
  | n + 1 => by
    rw [f49_e0]
    simp only [f49_q1 a0 a1 N n]
    rfl

noncomputable def f49_T (a0 : Int) (a1 : (List Int)) (N : Nat) : Option (AV) := f49_s a0 a1 (f49_L0 a0 a1 N N)

theorem f49_ev (a0 : Int) (a1 : (List Int)) (N : Nat) : evF X49 N Tryd.f49 [enc .int a0, enc tInts a1] = f49_T a0 a1 N := by
  have h : evF X49 N Tryd.f49 [enc .int a0, enc tInts a1] = f49_s a0 a1 (f49_R0 a0 a1 N N) := by kernel_rfl
  rw [h, f49_q0]
  rfl

end Ev
end Go.Proofs.YtidnikjkpbmhhaaDoor
/- Spools, and orders that numbers choose: what the walks come to. -/
set_option linter.unusedVariables false
set_option linter.unusedSimpArgs false
set_option maxRecDepth 4000
namespace Go.Proofs.YtidnikjkpbmhhaaDoor
namespace Ev

theorem get_int {l : List Int} {i : Nat} (h : i < l.length) : l.getD (i : Int).toNat (0 : Int) = l[i] := by simp [List.getD, h]

theorem f76_loop (l : List Int) (hl : lenOK l = true) (a : Int) (N : Nat) : ∀ (m i : Nat), i + m = l.length → f76_L0 l a N (m + 1) i = some (.int (findFrom a (l.drop i) i))
  | 0, i, h => by
    have e : f76_L0 l a N (0 + 1) i = f76_s0 l a (f76_L0 l a N 0) i := rfl
    rw [e]
    unfold f76_s0
    have h1 : decide ((i : Int) < (l.length : Int)) = false := by simp; omega
    rw [h1, List.drop_eq_nil_of_le (by omega)]
    rfl
  | m + 1, i, h => by
    have e : f76_L0 l a N (m + 1 + 1) i = f76_s0 l a (f76_L0 l a N (m + 1)) i := rfl
    rw [e]
    have hlt : i < l.length := by omega
    unfold f76_s0
    have h1 : decide ((i : Int) < (l.length : Int)) = true := by simp; omega
    have h2 : decide (0 ≤ (i : Int)) = true := by simp
    rw [get_int hlt, h1, h2, w64_succ hlt (Nat.le_of_ble_eq_true hl), List.drop_eq_getElem_cons hlt, findFrom, f76_loop l hl a N m (i + 1) (by omega)]
    by_cases c : a = l[i]
    · rw [decide_eq_true c, if_pos c.symm]
      rfl
    · rw [decide_eq_false c, if_neg fun h => c h.symm]
      simp only [Bool.and_self, cond_true, cond_false]
      rfl
theorem f76_sp (x0 : (List Int)) (x1 : Int) (hp : lenOK2 x0 x1 = true) : ∃ (N : Nat) (r0 : AV), f76_T x0 x1 N = some r0 ∧ wkAV r0 = enc .int (findI x0 x1) :=
  ⟨x0.length + 1, .int (findI x0 x1), f76_loop x0 hp x1 (x0.length + 1) x0.length 0 (by omega), rfl⟩
theorem f87_sp (x0 : (List Int)) (x1 : Int) (hp : lenOK2 x0 x1 = true) : ∃ (N : Nat) (r0 : AV), f87_T x0 x1 = some r0 ∧ wkAV r0 = enc .bool (containsI x0 x1) :=
  ⟨0, .bool (containsI x0 x1), by unfold f87_T f87_s; rw [hp]; rfl, rfl⟩

theorem find_ge (n : Int) : ∀ (l : List Int) (i : Int), 0 ≤ i → (0 ≤ findFrom n l i ↔ n ∈ l)
  | [], i, hi => by simp [findFrom]
  | x :: l, i, hi => by
    rw [findFrom, List.mem_cons]
    by_cases c : x = n
    · rw [if_pos c]
      exact ⟨fun _ => .inl c.symm, fun _ => hi⟩
    · rw [if_neg c, find_ge n l (i + 1) (by omega)]
      exact ⟨.inr, fun h => h.resolve_left fun e => c e.symm⟩
theorem contains_iff (l : List Int) (n : Int) : containsI l n = decide (n ∈ l) := by
  unfold containsI findI
  exact decide_eq_decide.2 (find_ge n l 0 (by omega))

theorem f63_loop (x : Fi) (l : List Int) (hl : lenOK l = true) (N : Nat) : ∀ (m i : Nat), i + m = l.length → f63_L0 x l N (m + 1) i = some (.bool (areFrom x.1.length (l.take i) (l.drop i)))
  | 0, i, h => by
    have e : f63_L0 x l N (0 + 1) i = f63_s0 x l (f63_L0 x l N 0) i := rfl
    rw [e]
    unfold f63_s0
    have h1 : decide ((i : Int) < (l.length : Int)) = false := by simp; omega
    rw [h1, List.drop_eq_nil_of_le (by omega)]
    rfl
  | m + 1, i, h => by
    have e : f63_L0 x l N (m + 1 + 1) i = f63_s0 x l (f63_L0 x l N (m + 1)) i := rfl
    rw [e]
    have hlt : i < l.length := by omega
    unfold f63_s0
    have h1 : decide ((i : Int) < (l.length : Int)) = true := by simp; omega
    have h2 : decide (0 ≤ (i : Int)) = true := by simp
    have h3 : decide ((i : Int) ≤ (l.length : Int)) = true := by simp; omega
    have ht : (i : Int).toNat = i := by simp
    have h4 : lenOK2 (l.take i) l[i] = true := by
      have := Nat.le_of_ble_eq_true hl
      unfold lenOK2 lenOK
      refine Nat.ble_eq_true_of_le ?_
      simp
      omega
    rw [get_int hlt, h1, h2, h3, ht, h4, contains_iff, w64_succ hlt (Nat.le_of_ble_eq_true hl), List.drop_eq_getElem_cons hlt, areFrom, f63_loop x l hl N m (i + 1) (by omega), List.take_succ_eq_append_getElem hlt]
    cases amid l[i] 0 (w64 ((x.1.length : Int) - 1)) <;> cases decide (l[i] ∈ l.take i) <;> rfl
theorem f63_sp (x0 : Fi) (x1 : (List Int)) (hp : areOK x0 x1 = true) : ∃ (N : Nat) (r0 : AV), f63_T x0 x1 N = some r0 ∧ wkAV r0 = enc .bool (areReelsB x0 x1) := by
  refine ⟨x1.length + 1, .bool (areReelsB x0 x1), ?_, rfl⟩
  have := f63_loop x0 x1 hp (x1.length + 1) x1.length 0 (by omega)
  exact this

/-- Numbers of reels, each at most once. -/
theorem are_spec (n : Nat) (hn : n ≤ 1000) (hn0 : 1 ≤ n) : ∀ (l pre : List Int), areFrom n pre l = true → (∀ k ∈ l, 0 ≤ k ∧ k < n) ∧ (∀ k ∈ l, k ∉ pre) ∧ l.Nodup
  | [], pre, h => ⟨by simp, by simp, List.nodup_nil⟩
  | k :: r, pre, h => by
    rw [areFrom] at h
    simp only [Bool.and_eq_true, Bool.not_eq_true', decide_eq_false_iff_not, amid, decide_eq_true_eq] at h
    obtain ⟨⟨h1, h2⟩, h3, h4⟩ := h
    rw [w64_small (by omega) (by omega)] at h2
    obtain ⟨g1, g2, g3⟩ := are_spec n hn hn0 r (pre ++ [k]) h4
    refine ⟨fun j hj => ?_, fun j hj => ?_, List.nodup_cons.2 ⟨fun hk => g2 k hk (by simp), g3⟩⟩
    · rcases List.mem_cons.1 hj with rfl | hj
      · omega
      · exact g1 j hj
    · rcases List.mem_cons.1 hj with rfl | hj
      · exact h3
      · exact fun hp => g2 j hj (by simp [hp])
theorem are_len {x : Fi} {l : List Int} (hc : checkB x = true) (h : areReelsB x l = true) : l.length ≤ x.1.length ∧ l.all (inReels x) = true ∧ l.Nodup := by
  have hl := check_len hc
  obtain ⟨h1, _, h3⟩ := are_spec x.1.length (by omega) (by omega) l [] h
  refine ⟨?_, ?_, h3⟩
  · have hs : l ⊆ (List.range x.1.length).map (fun k : Nat => (k : Int)) := fun k hk => by
      have := h1 k hk
      rw [List.mem_map]
      exact ⟨k.toNat, by simp; omega, by omega⟩
    have := h3.length_le_of_subset hs
    simpa using this
  · rw [List.all_eq_true]
    intro k hk
    have := h1 k hk
    simp only [inReels, Bool.and_eq_true, decide_eq_true_eq]
    exact this

theorem f84_sp (x0 : Fi) (x1 : List Int) (x2 : Int) (hp : joinOK x0 x1 x2 = true) : ∃ (N : Nat) (r0 : AV), f84_T x0 x1 x2 = some r0 ∧ wkAV r0 = .tup [.agg [enc tRF ((joinedI x0 x1 x2).1), .tok 0 tRF ((joinedI x0 x1 x2).1)], enc tInts ((joinedI x0 x1 x2).2.1), enc .int ((joinedI x0 x1 x2).2.2)] := by
  simp only [joinOK, Bool.and_eq_true] at hp
  obtain ⟨hx, hl⟩ := hp
  have h : ∀ r, askOK x0 r = true := fun _ => hx
  have ha : areOK x0 x1 = true := hl
  have e : f84_T x0 x1 x2 = (bif (!decide (((askedF x0 (decide (0 < (x1.length : Int)) && (areReelsB x0 x1 && amid x2 0 999))).2) = (0 : Int))) then
            some (.tup [.agg [enc tRF ((askedF x0 (decide (0 < (x1.length : Int)) && (areReelsB x0 x1 && amid x2 0 999))).1), .tok 0 tRF ((askedF x0 (decide (0 < (x1.length : Int)) && (areReelsB x0 x1 && amid x2 0 999))).1)], .sl .int ⟨true, true, none⟩ ([] : List Int), .int ((askedF x0 (decide (0 < (x1.length : Int)) && (areReelsB x0 x1 && amid x2 0 999))).2)])
          else
            bif decide (((askedF x0 (decide (0 < (x1.length : Int)) && (areReelsB x0 x1 && amid x2 0 999))).1) = ((askedF x0 (decide (0 < (x1.length : Int)) && (areReelsB x0 x1 && amid x2 0 999))).1)) && ((spoolsOK ((askedF x0 (decide (0 < (x1.length : Int)) && (areReelsB x0 x1 && amid x2 0 999))).1) x1 x2)) then
              bif (!((spoolsF ((askedF x0 (decide (0 < (x1.length : Int)) && (areReelsB x0 x1 && amid x2 0 999))).1) x1 x2).2)) then
                some (.tup [.agg [enc tRF ((askedF x0 (decide (0 < (x1.length : Int)) && (areReelsB x0 x1 && amid x2 0 999))).1), .tok 0 tRF ((askedF x0 (decide (0 < (x1.length : Int)) && (areReelsB x0 x1 && amid x2 0 999))).1)], .sl .int ⟨true, true, none⟩ ([] : List Int), .int (4 : Int)])
              else
                some (.tup [.agg [enc tRF ((askedF x0 (decide (0 < (x1.length : Int)) && (areReelsB x0 x1 && amid x2 0 999))).1), .tok 0 tRF ((askedF x0 (decide (0 < (x1.length : Int)) && (areReelsB x0 x1 && amid x2 0 999))).1)], .sl .int ⟨false, false, none⟩ ((spoolsF ((askedF x0 (decide (0 < (x1.length : Int)) && (areReelsB x0 x1 && amid x2 0 999))).1) x1 x2).1), .int (0 : Int)])
            else
              none) := by
    unfold f84_T f84_s
    simp only [h, ha, cond_true]
    cases decide (0 < (x1.length : Int)) <;> cases areReelsB x0 x1 <;> rfl
  rw [e]
  unfold joinedI
  generalize hr : (decide (0 < (x1.length : Int)) && (areReelsB x0 x1 && amid x2 0 999)) = r
  by_cases h0 : askedI x0 r = 0
  · obtain ⟨hc, rfl⟩ := asked_zero h0
    simp only [Bool.and_eq_true] at hr
    have hal := are_len hc hr.2.1
    have hcl := check_len hc
    have hs : spoolsOK x0 x1 x2 = true := by
      simp only [spoolsOK, Bool.and_eq_true, decide_eq_true_eq]
      exact ⟨by omega, hal.2.1⟩
    have e1 : (askedF x0 true) = (x0, 0) := by simp [askedF, h0]
    rw [e1, if_pos h0]
    cases h2 : (spoolsF x0 x1 x2).2 with
    | true =>
      refine ⟨0, .tup [.agg [enc tRF x0, .tok 0 tRF x0], .sl .int ⟨false, false, none⟩ (spoolsF x0 x1 x2).1, .int 0], by simp [hs, h2], ?_⟩
      simp only [wkAV, wkL, wk_enc, if_true, enc]
      rfl
    | false =>
      refine ⟨0, .tup [.agg [enc tRF x0, .tok 0 tRF x0], .sl .int ⟨true, true, none⟩ [], .int 4], by simp [hs, h2], ?_⟩
      simp only [wkAV, wkL, wk_enc, Bool.false_eq_true, if_false, enc]
      rfl
  · rw [if_neg h0]
    refine ⟨0, .tup [.agg [enc tRF zRF, .tok 0 tRF zRF], .sl .int ⟨true, true, none⟩ [], .int (askedI x0 r)], by simp [askedF, h0], ?_⟩
    simp only [wkAV, wkL, wk_enc, enc]
    rfl
theorem f38_sp (x0 : Fi) (x1 : List Int) (x2 : Int) (hp : joinOK x0 x1 x2 = true) : ∃ (N : Nat) (r0 : AV), f38_T x0 x1 x2 = some r0 ∧ wkAV r0 = .tup [enc tInts ((SpoolsI x0 x1 x2).1), enc .int ((SpoolsI x0 x1 x2).2)] := by
  unfold f38_T f38_s SpoolsI
  rw [hp]
  by_cases h0 : (joinedI x0 x1 x2).2.2 = 0
  · refine ⟨0, .tup [.sl .int ⟨false, true, none⟩ ((joinedI x0 x1 x2).2.1), .int 0], by simp [h0], ?_⟩
    simp only [wkAV, wkL, enc, h0]
  · refine ⟨0, .tup [.sl .int ⟨true, true, none⟩ [], .int (joinedI x0 x1 x2).2.2], by simp [h0], ?_⟩
    have hn : (joinedI x0 x1 x2).2.1 = [] := by
      unfold joinedI at h0 ⊢
      split
      · rename_i h1
        rw [if_pos h1] at h0
        split
        · rename_i h2
          rw [if_pos h2] at h0
          exact absurd rfl h0
        · rfl
      · rfl
    simp only [wkAV, wkL, enc, hn]

theorem f57_loop (l : List Int) (hl : lenOK l = true) (N : Nat) : ∀ (m i : Nat) (a : Int), i + m = l.length → f57_L0 l N (m + 1) a i = some (.int (sumI (l.drop i) a))
  | 0, i, a, h => by
    have e : f57_L0 l N (0 + 1) a i = f57_s0 l (f57_L0 l N 0) a i := rfl
    rw [e]
    unfold f57_s0
    have h1 : decide ((i : Int) < (l.length : Int)) = false := by simp; omega
    rw [h1, List.drop_eq_nil_of_le (by omega)]
    rfl
  | m + 1, i, a, h => by
    have e : f57_L0 l N (m + 1 + 1) a i = f57_s0 l (f57_L0 l N (m + 1)) a i := rfl
    rw [e]
    have hlt : i < l.length := by omega
    unfold f57_s0
    have h1 : decide ((i : Int) < (l.length : Int)) = true := by simp; omega
    have h2 : decide (0 ≤ (i : Int)) = true := by simp
    rw [get_int hlt, h1, h2, w64_succ hlt (Nat.le_of_ble_eq_true hl), List.drop_eq_getElem_cons hlt, sumI, f57_loop l hl N m (i + 1) _ (by omega)]
    rfl
theorem f57_sp (x0 : (List Int)) (hp : lenOK x0 = true) : ∃ (N : Nat) (r0 : AV), f57_T x0 N = some r0 ∧ wkAV r0 = enc .int (sumI0 x0) :=
  ⟨x0.length + 1, .int (sumI0 x0), f57_loop x0 hp (x0.length + 1) x0.length 0 0 (by omega), rfl⟩

theorem shuf_len (bits : List Int) : ∀ (m i : Nat) (out : List Int), (shufG bits m i out).length = out.length + m
  | 0, i, out => rfl
  | m + 1, i, out => by
    rw [shufG, shuf_len bits m (i + 1)]
    simp only [List.length_append, List.length_take, List.length_drop, List.length_nil, List.length_cons]
    omega

theorem f49_loop (many : Int) (bits : List Int) (hm : many ≤ 1000) (hb : lenOK bits = true) (N : Nat) : ∀ (m i : Nat) (out : List Int), ((i : Int) + m = many ∨ (m = 0 ∧ many ≤ i)) → out.length = i → i ≤ 1000 → f49_L1 many bits N (m + 1) out i = some (.sl .int ⟨false, false, some (0, 0)⟩ (shufG bits m i out)) ∨ ∃ z g o, f49_L1 many bits N (m + 1) out i = some (.sl .int ⟨z, g, o⟩ (shufG bits m i out))
  | 0, i, out, h, ho, hi => by
    have e : f49_L1 many bits N (0 + 1) out i = f49_s1 many bits (f49_L1 many bits N 0) out i := rfl
    rw [e]
    unfold f49_s1
    have h1 : decide ((i : Int) < many) = false := by simp; omega
    rw [h1]
    exact .inr ⟨_, _, _, rfl⟩
  | m + 1, i, out, h, ho, hi => by
    have e : f49_L1 many bits N (m + 1 + 1) out i = f49_s1 many bits (f49_L1 many bits N (m + 1)) out i := rfl
    rw [e]
    have hlt : (i : Int) < many := by omega
    have hpk : pickOK2 bits (i : Int) = true := hb
    have hw : w64 ((out.length : Int) + 1) = (out.length : Int) + 1 := w64_small (by omega) (by omega)
    have htr := turn_range (n := pickI bits (i : Int)) (m := (out.length : Int) + 1) (by omega) (by omega)
    have hro : ∀ a b : Nat, a + b ≤ 3000 → roomy a b 8 = true := fun a b hab => by
      unfold roomy
      refine Nat.ble_eq_true_of_le ?_
      omega
    have hwi : w64 ((i : Int) + 1) = ((i + 1 : Nat) : Int) := w64_succ (n := 3000) (by omega) (by omega)
    unfold f49_s1
    rw [decide_eq_true hlt, hpk, hw, hwi]
    have h2 : decide (0 ≤ turnI (pickI bits (i : Int)) ((out.length : Int) + 1)) = true := by simpa using htr.1
    have h3 : decide (turnI (pickI bits (i : Int)) ((out.length : Int) + 1) ≤ (out.length : Int)) = true := by simp; omega
    rw [h2, h3, hro _ _ (by simp; omega), hro _ _ (by simp; omega), hro _ _ (by simp; omega)]
    simp only [cond_true, Bool.and_self, Bool.true_and]
    rw [shufG]
    exact f49_loop many bits hm hb N m (i + 1) _ (by omega) (by simp; omega) (by omega)

theorem f49_sp (x0 : Int) (x1 : (List Int)) (hp : shufOK x0 x1 = true) : ∃ (N : Nat) (r0 : AV), f49_T x0 x1 N = some r0 ∧ wkAV r0 = enc tInts (shufI x0 x1) := by
  simp only [shufOK, Bool.and_eq_true, decide_eq_true_eq] at hp
  obtain ⟨hm, hb⟩ := hp
  refine ⟨x0.toNat + 1, ?_⟩
  unfold f49_T f49_s
  have e : f49_L0 x0 x1 (x0.toNat + 1) (x0.toNat + 1) = f49_s0 x0 x1 (f49_L1 x0 x1 (x0.toNat + 1) x0.toNat) := rfl
  rw [e]
  unfold shufI
  by_cases h0 : (0 : Int) < x0
  · obtain ⟨m, hm1⟩ : ∃ m, x0.toNat = m + 1 := ⟨x0.toNat - 1, by omega⟩
    have hpk : pickOK2 x1 0 = true := hb
    have htr := turn_range (n := pickI x1 0) (m := 1) (by omega) (by omega)
    have ht0 : turnI (pickI x1 0) 1 = 0 := by omega
    have hwi : w64 ((0 : Int) + 1) = ((1 : Nat) : Int) := w64_succ (i := 0) (n := 3000) (by omega) (by omega)
    unfold f49_s0
    rw [decide_eq_true h0, hpk]
    have hw1 : w64 ((([] : List Int).length : Int) + 1) = 1 := w64_small (n := 1) (by omega) (by omega)
    have hw2 : w64 (((0 : Nat) : Int) + 1) = 1 := hw1
    simp only [hw1, hw2, ht0]
    rw [hm1, shufG]
    have hl := f49_loop x0 x1 hm hb (m + 1 + 1) m 1 [0] (by omega) rfl (by omega)
    have hg : ((([] : List Int) ++ (([] : List Int).take (turnI (pickI x1 ((0 : Nat) : Int)) ((([] : List Int).length : Int) + 1)).toNat)) ++ [((0 : Nat) : Int)]) ++ (([] : List Int).drop (turnI (pickI x1 ((0 : Nat) : Int)) ((([] : List Int).length : Int) + 1)).toNat) = [0] := by simp
    rw [hg]
    rcases hl with hl | ⟨z, g, o, hl⟩
    · exact ⟨_, hl, rfl⟩
    · exact ⟨_, hl, rfl⟩
  · have hz : x0.toNat = 0 := by omega
    unfold f49_s0
    rw [decide_eq_false h0, hz]
    exact ⟨_, rfl, rfl⟩

end Ev
end Go.Proofs.YtidnikjkpbmhhaaDoor
/- The contracts of spools, and of orders that numbers choose. -/
set_option linter.unusedVariables false
set_option maxRecDepth 4000
namespace Go.Proofs.YtidnikjkpbmhhaaDoor
namespace Ev

theorem k76 : Good 76 g76 := ⟨ctr_ofN (B := Bs) (X := X76) (ctxOK rfl rfl rfl rfl rfl rfl AllC.nil) Tryd.func76 (fun args r h => by
  unfold g76 at h
  split at h
  · rename_i a0 a1
    split at h
    · rename_i x0 x1 h0 h1
      simp only [Option.some.injEq, Prod.mk.injEq] at h
      obtain ⟨hp, rfl⟩ := h
      obtain ⟨N, r0, q1, q2⟩ := f76_sp x0 x1 hp
      refine ⟨N, r0, ?_, q2⟩
      simp only [wkL, wk_dec h0, wk_dec h1]
      exact (f76_ev x0 x1 N).trans q1
    · cases h
  · cases h), Tryd.f76, Tryd.func76, by kernel_rfl, by kernel_rfl⟩
theorem k87 : Good 87 g87 := ⟨ctr_ofN (B := Bs) (X := X87) (ctxOK rfl rfl rfl rfl rfl rfl (AllC.cons k76 AllC.nil)) Tryd.func87 (fun args r h => by
  unfold g87 at h
  split at h
  · rename_i a0 a1
    split at h
    · rename_i x0 x1 h0 h1
      simp only [Option.some.injEq, Prod.mk.injEq] at h
      obtain ⟨hp, rfl⟩ := h
      obtain ⟨N, r0, q1, q2⟩ := f87_sp x0 x1 hp
      refine ⟨N, r0, ?_, q2⟩
      simp only [wkL, wk_dec h0, wk_dec h1]
      exact (f87_ev x0 x1 N).trans q1
    · cases h
  · cases h), Tryd.f87, Tryd.func87, by kernel_rfl, by kernel_rfl⟩
theorem k63 : Good 63 g63 := ⟨ctr_ofN (B := Bs) (X := X63) (ctxOK rfl rfl rfl rfl rfl rfl (AllC.cons k68 (AllC.cons k87 AllC.nil))) Tryd.func63 (fun args r h => by
  unfold g63 at h
  split at h
  · rename_i a0 a1
    split at h
    · rename_i x0 x1 h0 h1
      simp only [Option.some.injEq, Prod.mk.injEq] at h
      obtain ⟨hp, rfl⟩ := h
      obtain ⟨N, r0, q1, q2⟩ := f63_sp x0 x1 hp
      refine ⟨N, r0, ?_, q2⟩
      simp only [wkL, wk_dec h0, wk_dec h1]
      exact (f63_ev x0 x1 N).trans q1
    · cases h
  · cases h), Tryd.f63, Tryd.func63, by kernel_rfl, by kernel_rfl⟩
theorem k84 : Good 84 g84 := ⟨ctr_ofN (B := Bs) (X := X84) (ctxOK rfl rfl rfl rfl rfl rfl (AllC.cons k62 (AllC.cons k63 (AllC.cons k68 (AllC.cons k96 AllC.nil))))) Tryd.func84 (fun args r h => by
  unfold g84 at h
  split at h
  · rename_i a0 a1 a2
    split at h
    · rename_i x0 x1 x2 h0 h1 h2
      simp only [Option.some.injEq, Prod.mk.injEq] at h
      obtain ⟨hp, rfl⟩ := h
      obtain ⟨N, r0, q1, q2⟩ := f84_sp x0 x1 x2 hp
      refine ⟨N, r0, ?_, q2⟩
      simp only [wkL, wk_dec h0, wk_dec h1, wk_dec h2]
      exact (f84_ev x0 x1 x2 N).trans q1
    · cases h
  · cases h), Tryd.f84, Tryd.func84, by kernel_rfl, by kernel_rfl⟩
theorem k38 : Good 38 g38 := ⟨ctr_ofN (B := Bs) (X := X38) (ctxOK rfl rfl rfl rfl rfl rfl (AllC.cons k84 AllC.nil)) Tryd.func38 (fun args r h => by
  unfold g38 at h
  split at h
  · rename_i a0 a1 a2
    split at h
    · rename_i x0 x1 x2 h0 h1 h2
      simp only [Option.some.injEq, Prod.mk.injEq] at h
      obtain ⟨hp, rfl⟩ := h
      obtain ⟨N, r0, q1, q2⟩ := f38_sp x0 x1 x2 hp
      refine ⟨N, r0, ?_, q2⟩
      simp only [wkL, wk_dec h0, wk_dec h1, wk_dec h2]
      exact (f38_ev x0 x1 x2 N).trans q1
    · cases h
  · cases h), Tryd.f38, Tryd.func38, by kernel_rfl, by kernel_rfl⟩
theorem k57 : Good 57 g57 := ⟨ctr_ofN (B := Bs) (X := X57) (ctxOK rfl rfl rfl rfl rfl rfl AllC.nil) Tryd.func57 (fun args r h => by
  unfold g57 at h
  split at h
  · rename_i a0
    split at h
    · rename_i x0 h0
      simp only [Option.some.injEq, Prod.mk.injEq] at h
      obtain ⟨hp, rfl⟩ := h
      obtain ⟨N, r0, q1, q2⟩ := f57_sp x0 hp
      refine ⟨N, r0, ?_, q2⟩
      simp only [wkL, wk_dec h0]
      exact (f57_ev x0 N).trans q1
    · cases h
  · cases h), Tryd.f57, Tryd.func57, by kernel_rfl, by kernel_rfl⟩
theorem k49 : Good 49 g49 := ⟨ctr_ofN (B := Bs) (X := X49) (ctxOK rfl rfl rfl rfl rfl rfl (AllC.cons k48 (AllC.cons k54 AllC.nil))) Tryd.func49 (fun args r h => by
  unfold g49 at h
  split at h
  · rename_i a0 a1
    split at h
    · rename_i x0 x1 h0 h1
      simp only [Option.some.injEq, Prod.mk.injEq] at h
      obtain ⟨hp, rfl⟩ := h
      obtain ⟨N, r0, q1, q2⟩ := f49_sp x0 x1 hp
      refine ⟨N, r0, ?_, q2⟩
      simp only [wkL, wk_dec h0, wk_dec h1]
      exact (f49_ev x0 x1 N).trans q1
    · cases h
  · cases h), Tryd.f49, Tryd.func49, by kernel_rfl, by kernel_rfl⟩

end Ev
end Go.Proofs.YtidnikjkpbmhhaaDoor
/- How long reels last, in plain words. -/
namespace Go.Proofs.YtidnikjkpbmhhaaDoor
namespace Ev

def loI (s : Sp) : Int := s.1
def hiI (s : Sp) : Int := s.2
def endI (b : Bool) (s : Sp) : Int := if b = true then s.2 else s.1
def lastsL (b : Bool) (x : Fi) (l : List Int) (n : Int) : List Int := l.map fun k => w64 (endI b (wornS x k n) * endI b x.2.1)
def lastsI (b : Bool) (x : Fi) (l : List Int) (n : Int) : Int := sumI0 (lastsL b x l n)
def TimeI (x : Fi) (l : List Int) (n : Int) : Sp := (lastsI false x l n, lastsI true x l n)
def LastsI (x : Fi) (l : List Int) (n : Int) : Sp × Int :=
  (if askedI x (areReelsB x l && amid n 0 999) = 0 then TimeI x l n else z2, askedI x (areReelsB x l && amid n 0 999))
def chG (x : Fi) (l : List Int) (n : Int) : List Int → Int → List Sp
  | [], _ => []
  | c :: cs, at_ => TimeI x (l.take (w64 (at_ + c)).toNat) n :: chG x l n cs (w64 (at_ + c))
def ChangesI (x : Fi) (l : List Int) (n : Int) : List Sp × Int :=
  (if (joinedI x l n).2.2 = 0 then chG x l n ((joinedI x l n).2.1.take (w64 (((joinedI x l n).2.1.length : Int) - 1)).toNat) 0 else [], (joinedI x l n).2.2)

end Ev
end Go.Proofs.YtidnikjkpbmhhaaDoor
/- How long reels last, as the evaluator walks it. -/
set_option linter.unusedVariables false
set_option maxRecDepth 4000
namespace Go.Proofs.YtidnikjkpbmhhaaDoor
namespace Ev

noncomputable def g100 : List AV → Option (Bool × AV)
  | [a0] =>
    match dec tSpan a0 with
    | some x0 => some (true, enc .int (loI x0))
    | _ => none
  | _ => none
noncomputable def g101 : List AV → Option (Bool × AV)
  | [a0] =>
    match dec tSpan a0 with
    | some x0 => some (true, enc .int (hiI x0))
    | _ => none
  | _ => none
noncomputable def g99 : List AV → Option (Bool × AV)
  | [a0] =>
    match dec tInts a0 with
    | some x0 => some ((lenOK x0), enc .int (sumI0 x0))
    | _ => none
  | _ => none
noncomputable def g93l : List AV → Option (Bool × AV)
  | [.agg [a0, .tok 0 t0 d0], a1, a2, .agg [.fn 100 [] []]] =>
    match dec tRF a0, castD tRF t0 d0, dec tInts a1, dec .int a2 with
    | some x0, some y0, some x1, some x2 => some (decide (x0 = y0) && (spoolsOK x0 x1 x2), enc .int (lastsI false x0 x1 x2))
    | _, _, _, _ => none
  | _ => none
noncomputable def g93h : List AV → Option (Bool × AV)
  | [.agg [a0, .tok 0 t0 d0], a1, a2, .agg [.fn 101 [] []]] =>
    match dec tRF a0, castD tRF t0 d0, dec tInts a1, dec .int a2 with
    | some x0, some y0, some x1, some x2 => some (decide (x0 = y0) && (spoolsOK x0 x1 x2), enc .int (lastsI true x0 x1 x2))
    | _, _, _, _ => none
  | _ => none
noncomputable def g93 (args : List AV) : Option (Bool × AV) := match g93l args with
  | some r => some r
  | none => g93h args
noncomputable def g94 : List AV → Option (Bool × AV)
  | [] => some (true, .agg [.fn 100 [] []])
  | _ => none
noncomputable def g95 : List AV → Option (Bool × AV)
  | [] => some (true, .agg [.fn 101 [] []])
  | _ => none
noncomputable def g82 : List AV → Option (Bool × AV)
  | [.agg [a0, .tok 0 t0 d0], a1, a2] =>
    match dec tRF a0, castD tRF t0 d0, dec tInts a1, dec .int a2 with
    | some x0, some y0, some x1, some x2 => some (decide (x0 = y0) && ((spoolsOK x0 x1 x2)), enc tSpan (TimeI x0 x1 x2))
    | _, _, _, _ => none
  | _ => none
noncomputable def g36 : List AV → Option (Bool × AV)
  | [a0, a1, a2] =>
    match dec tRF a0, dec tInts a1, dec .int a2 with
    | some x0, some x1, some x2 => some ((joinOK x0 x1 x2), .tup [enc tSpan ((LastsI x0 x1 x2).1), enc .int ((LastsI x0 x1 x2).2)])
    | _, _, _ => none
  | _ => none
noncomputable def g40 : List AV → Option (Bool × AV)
  | [a0, a1, a2] =>
    match dec tRF a0, dec tInts a1, dec .int a2 with
    | some x0, some x1, some x2 => some ((joinOK x0 x1 x2), .tup [enc tSpans ((ChangesI x0 x1 x2).1), enc .int ((ChangesI x0 x1 x2).2)])
    | _, _, _ => none
  | _ => none
noncomputable def X100 : Ctx := { T := TT, G := GG, C := [], L := [] }
noncomputable def f100_s (a0 : (Int × Int)) : Option (AV) :=
  some (.int a0.1)

noncomputable def f100_T (a0 : (Int × Int)) : Option (AV) := f100_s a0

theorem f100_ev (a0 : (Int × Int)) (N : Nat) : evF X100 N Tryd.f100 [enc tSpan a0] = f100_T a0 := by
  have h : evF X100 N Tryd.f100 [enc tSpan a0] = f100_s a0 := by kernel_rfl
  rw [h]
  rfl
noncomputable def X101 : Ctx := { T := TT, G := GG, C := [], L := [] }
noncomputable def f101_s (a0 : (Int × Int)) : Option (AV) :=
  some (.int a0.2)

noncomputable def f101_T (a0 : (Int × Int)) : Option (AV) := f101_s a0

theorem f101_ev (a0 : (Int × Int)) (N : Nat) : evF X101 N Tryd.f101 [enc tSpan a0] = f101_T a0 := by
  have h : evF X101 N Tryd.f101 [enc tSpan a0] = f101_s a0 := by kernel_rfl
  rw [h]
  rfl
noncomputable def X99 : Ctx := { T := TT, G := GG, C := [], L := [(3, [0, 1, 2, 4, 5, 9, 10, 11, 12, 13, 14, 15, 16], [6])] }
noncomputable def f99_s0 (a0 : (List Int)) (k0 : Int → Int → Option (AV)) (v0_0 : Int) (v0_1 : Int) : Option (AV) :=
  bif (decide (v0_1 < (a0.length : Int))) then
    bif decide (0 ≤ v0_1) && decide (v0_1 < (a0.length : Int)) then
      k0 (w64 (v0_0 + (a0.getD v0_1.toNat (0 : Int)))) (w64 (v0_1 + (1 : Int)))
    else
      none
  else
    some (.int v0_0)

noncomputable def f99_s (a0 : (List Int)) (k0 : Int → Int → Option (AV)) : Option (AV) :=
  k0 (0 : Int) (0 : Int)

noncomputable def f99_R0 (a0 : (List Int)) (N : Nat) (n : Nat) (v0_0 : Int) (v0_1 : Int) : Option (AV) :=
  loopN (evC X99 N (sub [(1, 0), (1, 0), (0, 0), (1, 0), (0, 0), (0, 0)] (bodyOf Tryd.f99))) (keepOf X99.L (sub [(1, 0), (1, 0), (0, 0), (1, 0), (0, 0), (0, 0)] (bodyOf Tryd.f99))) n ⟨[.poison, .poison, .poison, .int v0_0, .poison, .poison, .sl .int ⟨false, false, none⟩ a0, .int (a0.length : Int), .int v0_1, .poison, .poison, .poison, .poison, .poison, .poison, .poison, .poison], [.none, .none, .none, .none, .none, .none, .none, .none, .none, .none, .none, .none, .none, .none, .none, .none, .none]⟩ (ctxK X99 N [(1, 0), (1, 0), (0, 0), (1, 0), (0, 0)] (bodyOf Tryd.f99) (finK X99 Tryd.f99))

theorem f99_e0 (a0 : (List Int)) (N : Nat) (n : Nat) (v0_0 : Int) (v0_1 : Int) : f99_R0 a0 N (n + 1) v0_0 v0_1 = f99_s0 a0 (f99_R0 a0 N n) v0_0 v0_1 := by kernel_rfl

noncomputable def f99_L0 (a0 : (List Int)) (N : Nat) : Nat → Int → Int → Option (AV)
  | 0, _, _ => none
  | n + 1, v0_0, v0_1 => f99_s0 a0 (f99_L0 a0 N n) v0_0 v0_1

theorem f99_q0 (a0 : (List Int)) (N : Nat) : ∀ n : Nat, f99_R0 a0 N n = f99_L0 a0 N n
  | 0 => by
    funext v0_0
    funext v0_1
    rfl
  | n + 1 => by
    funext v0_0
    funext v0_1
    rw [f99_e0]
    simp only [f99_q0 a0 N n]
    rfl

noncomputable def f99_T (a0 : (List Int)) (N : Nat) : Option (AV) := f99_s a0 (f99_L0 a0 N N)

theorem f99_ev (a0 : (List Int)) (N : Nat) : evF X99 N Tryd.f99 [enc tInts a0] = f99_T a0 N := by
  have h : evF X99 N Tryd.f99 [enc tInts a0] = f99_s a0 (f99_R0 a0 N N) := by kernel_rfl
  rw [h, f99_q0]
  rfl
noncomputable def X93l : Ctx := { T := TT, G := GG, C := [(80, g80), (99, g99), (100, g100)], L := [(3, [0, 1, 3, 5, 6, 8, 10, 11, 15, 16, 17, 18, 19, 20, 21, 22, 23, 24, 25, 26, 27, 28, 29, 30, 31, 32, 33, 34, 35, 36, 37], [12])] }
noncomputable def f93l_s0 (a0 : ((List ((Int × Int) × (Int × Int) × (Int × Int))) × (Int × Int) × (Int × Int) × Int)) (a1 : (List Int)) (a2 : Int) (k1 : (List Int) → Int → Option (AV)) : Option (AV) :=
  bif (decide ((0 : Int) < (a1.length : Int))) then
    bif decide (0 ≤ (0 : Int)) && decide ((0 : Int) < (a1.length : Int)) then
      bif decide (a0 = a0) && ((inReels3 a0 (a1.getD 0 (0 : Int)) a2)) then
        bif true && roomy ([] : List Int).length [(w64 ((loI (wornS a0 (a1.getD 0 (0 : Int)) a2)) * (loI a0.2.1)))].length 8 then
          k1 (([] : List Int) ++ [(w64 ((loI (wornS a0 (a1.getD 0 (0 : Int)) a2)) * (loI a0.2.1)))]) (w64 ((0 : Int) + (1 : Int)))
        else
          none
      else
        none
    else
      none
  else
    bif (lenOK ([] : List Int)) then
      some (.int (sumI0 ([] : List Int)))
    else
      none

noncomputable def f93l_s1 (a0 : ((List ((Int × Int) × (Int × Int) × (Int × Int))) × (Int × Int) × (Int × Int) × Int)) (a1 : (List Int)) (a2 : Int) (k1 : (List Int) → Int → Option (AV)) (v1_0 : (List Int)) (v1_1 : Int) : Option (AV) :=
  bif (decide (v1_1 < (a1.length : Int))) then
    bif decide (0 ≤ v1_1) && decide (v1_1 < (a1.length : Int)) then
      bif decide (a0 = a0) && ((inReels3 a0 (a1.getD v1_1.toNat (0 : Int)) a2)) then
        bif roomy v1_0.length [(w64 ((loI (wornS a0 (a1.getD v1_1.toNat (0 : Int)) a2)) * (loI a0.2.1)))].length 8 then
          k1 (v1_0 ++ [(w64 ((loI (wornS a0 (a1.getD v1_1.toNat (0 : Int)) a2)) * (loI a0.2.1)))]) (w64 (v1_1 + (1 : Int)))
        else
          none
      else
        none
    else
      none
  else
    bif (lenOK v1_0) then
      some (.int (sumI0 v1_0))
    else
      none

noncomputable def f93l_s (a0 : ((List ((Int × Int) × (Int × Int) × (Int × Int))) × (Int × Int) × (Int × Int) × Int)) (a1 : (List Int)) (a2 : Int) (k0 : Option (AV)) : Option (AV) :=
  k0

noncomputable def f93l_R0 (a0 : ((List ((Int × Int) × (Int × Int) × (Int × Int))) × (Int × Int) × (Int × Int) × Int)) (a1 : (List Int)) (a2 : Int) (N : Nat) (n : Nat) : Option (AV) :=
  loopN (evC X93l N (sub [(1, 0), (1, 0), (0, 0), (1, 0), (0, 0), (0, 0)] (bodyOf Tryd.f93))) (keepOf X93l.L (sub [(1, 0), (1, 0), (0, 0), (1, 0), (0, 0), (0, 0)] (bodyOf Tryd.f93))) n ⟨[.poison, .poison, .int a2, .poison, .ref 4 [], .poison, .poison, .ref 7 [], .poison, .sl .int ⟨true, true, none⟩ ([] : List Int), .poison, .poison, .sl .int ⟨false, false, none⟩ a1, .int (a1.length : Int), .int (0 : Int), .poison, .poison, .poison, .poison, .poison, .poison, .poison, .poison, .poison, .poison, .poison, .poison, .poison, .poison, .poison, .poison, .poison, .poison, .poison, .poison, .poison, .poison, .poison], [.none, .none, .none, .none, .box (.agg [enc tRF a0, .tok 0 tRF a0]), .none, .none, .box (.agg [.fn 100 [] []]), .none, .none, .none, .none, .none, .none, .none, .none, .none, .none, .none, .none, .none, .none, .none, .none, .none, .none, .none, .none, .none, .none, .none, .none, .none, .none, .none, .none, .none, .none]⟩ (ctxK X93l N [(1, 0), (1, 0), (0, 0), (1, 0), (0, 0)] (bodyOf Tryd.f93) (finK X93l Tryd.f93))

noncomputable def f93l_R1 (a0 : ((List ((Int × Int) × (Int × Int) × (Int × Int))) × (Int × Int) × (Int × Int) × Int)) (a1 : (List Int)) (a2 : Int) (N : Nat) (n : Nat) (v1_0 : (List Int)) (v1_1 : Int) : Option (AV) :=
  loopN (evC X93l N (sub [(1, 0), (1, 0), (0, 0), (1, 0), (0, 0), (0, 0)] (bodyOf Tryd.f93))) (keepOf X93l.L (sub [(1, 0), (1, 0), (0, 0), (1, 0), (0, 0), (0, 0)] (bodyOf Tryd.f93))) n ⟨[.poison, .poison, .int a2, .poison, .ref 4 [], .poison, .poison, .ref 7 [], .poison, .sl .int ⟨true, false, (some (34, 0))⟩ v1_0, .poison, .poison, .sl .int ⟨false, false, none⟩ a1, .int (a1.length : Int), .int v1_1, .poison, .poison, .poison, .poison, .poison, .poison, .poison, .poison, .poison, .poison, .poison, .poison, .poison, .poison, .poison, .poison, .poison, .poison, .poison, .poison, .poison, .poison, .poison], [.none, .none, .none, .none, .box (.agg [enc tRF a0, .tok 0 tRF a0]), .none, .none, .box (.agg [.fn 100 [] []]), .none, .none, .none, .none, .none, .none, .none, .none, .none, .none, .none, .none, .none, .none, .none, .none, .none, .none, .none, .none, .none, .none, .none, .none, .none, .none, .lin 0 true, .none, .none, .none]⟩ (ctxK X93l N [(1, 0), (1, 0), (0, 0), (1, 0), (0, 0)] (bodyOf Tryd.f93) (finK X93l Tryd.f93))

theorem f93l_e0 (a0 : ((List ((Int × Int) × (Int × Int) × (Int × Int))) × (Int × Int) × (Int × Int) × Int)) (a1 : (List Int)) (a2 : Int) (N : Nat) (n : Nat) : f93l_R0 a0 a1 a2 N (n + 1) = f93l_s0 a0 a1 a2 (f93l_R1 a0 a1 a2 N n) := by kernel_rfl

theorem f93l_e1 (a0 : ((List ((Int × Int) × (Int × Int) × (Int × Int))) × (Int × Int) × (Int × Int) × Int)) (a1 : (List Int)) (a2 : Int) (N : Nat) (n : Nat) (v1_0 : (List Int)) (v1_1 : Int) : f93l_R1 a0 a1 a2 N (n + 1) v1_0 v1_1 = f93l_s1 a0 a1 a2 (f93l_R1 a0 a1 a2 N n) v1_0 v1_1 := by kernel_rfl

noncomputable def f93l_L1 (a0 : ((List ((Int × Int) × (Int × Int) × (Int × Int))) × (Int × Int) × (Int × Int) × Int)) (a1 : (List Int)) (a2 : Int) (N : Nat) : Nat → (List Int) → Int → Option (AV)
  | 0, _, _ => none
  | n + 1, v1_0, v1_1 => f93l_s1 a0 a1 a2 (f93l_L1 a0 a1 a2 N n) v1_0 v1_1

noncomputable def f93l_L0 (a0 : ((List ((Int × Int) × (Int × Int) × (Int × Int))) × (Int × Int) × (Int × Int) × Int)) (a1 : (List Int)) (a2 : Int) (N : Nat) : Nat → Option (AV)
  | 0 => none
  | n + 1 => f93l_s0 a0 a1 a2 (f93l_L1 a0 a1 a2 N n)

theorem f93l_q1 (a0 : ((List ((Int × Int) × (Int × Int) × (Int × Int))) × (Int × Int) × (Int × Int) × Int)) (a1 : (List Int)) (a2 : Int) (N : Nat) : ∀ n : Nat, f93l_R1 a0 a1 a2 N n = f93l_L1 a0 a1 a2 N n
  | 0 => by
    funext v1_0
    funext v1_1
    rfl
  | n + 1 => by
    funext v1_0
    funext v1_1
    rw [f93l_e1]
    simp only [f93l_q1 a0 a1 a2 N n]
    rfl

theorem f93l_q0 (a0 : ((List ((Int × Int) × (Int × Int) × (Int × Int))) × (Int × Int) × (Int × Int) × Int)) (a1 : (List Int)) (a2 : Int) (N : Nat) : ∀ n : Nat, f93l_R0 a0 a1 a2 N n = f93l_L0 a0 a1 a2 N n
  | 0 => by
    rfl
  | n + 1 => by
    rw [f93l_e0]
    simp only [f93l_q1 a0 a1 a2 N n]
    rfl

noncomputable def f93l_T (a0 : ((List ((Int × Int) × (Int × Int) × (Int × Int))) × (Int × Int) × (Int × Int) × Int)) (a1 : (List Int)) (a2 : Int) (N : Nat) : Option (AV) := f93l_s a0 a1 a2 (f93l_L0 a0 a1 a2 N N)

theorem f93l_ev (a0 : ((List ((Int × Int) × (Int × Int) × (Int × Int))) × (Int × Int) × (Int × Int) × Int)) (a1 : (List Int)) (a2 : Int) (N : Nat) : evF X93l N Tryd.f93 [.agg [enc tRF a0, .tok 0 tRF a0], enc tInts a1, enc .int a2, .agg [.fn 100 [] []]] = f93l_T a0 a1 a2 N := by
  have h : evF X93l N Tryd.f93 [.agg [enc tRF a0, .tok 0 tRF a0], enc tInts a1, enc .int a2, .agg [.fn 100 [] []]] = f93l_s a0 a1 a2 (f93l_R0 a0 a1 a2 N N) := by kernel_rfl
  rw [h, f93l_q0]
  rfl
noncomputable def X93h : Ctx := { T := TT, G := GG, C := [(80, g80), (99, g99), (101, g101)], L := [(3, [0, 1, 3, 5, 6, 8, 10, 11, 15, 16, 17, 18, 19, 20, 21, 22, 23, 24, 25, 26, 27, 28, 29, 30, 31, 32, 33, 34, 35, 36, 37], [12])] }
noncomputable def f93h_s0 (a0 : ((List ((Int × Int) × (Int × Int) × (Int × Int))) × (Int × Int) × (Int × Int) × Int)) (a1 : (List Int)) (a2 : Int) (k1 : (List Int) → Int → Option (AV)) : Option (AV) :=
  bif (decide ((0 : Int) < (a1.length : Int))) then
    bif decide (0 ≤ (0 : Int)) && decide ((0 : Int) < (a1.length : Int)) then
      bif decide (a0 = a0) && ((inReels3 a0 (a1.getD 0 (0 : Int)) a2)) then
        bif true && roomy ([] : List Int).length [(w64 ((hiI (wornS a0 (a1.getD 0 (0 : Int)) a2)) * (hiI a0.2.1)))].length 8 then
          k1 (([] : List Int) ++ [(w64 ((hiI (wornS a0 (a1.getD 0 (0 : Int)) a2)) * (hiI a0.2.1)))]) (w64 ((0 : Int) + (1 : Int)))
        else
          none
      else
        none
    else
      none
  else
    bif (lenOK ([] : List Int)) then
      some (.int (sumI0 ([] : List Int)))
    else
      none

noncomputable def f93h_s1 (a0 : ((List ((Int × Int) × (Int × Int) × (Int × Int))) × (Int × Int) × (Int × Int) × Int)) (a1 : (List Int)) (a2 : Int) (k1 : (List Int) → Int → Option (AV)) (v1_0 : (List Int)) (v1_1 : Int) : Option (AV) :=
  bif (decide (v1_1 < (a1.length : Int))) then
    bif decide (0 ≤ v1_1) && decide (v1_1 < (a1.length : Int)) then
      bif decide (a0 = a0) && ((inReels3 a0 (a1.getD v1_1.toNat (0 : Int)) a2)) then
        bif roomy v1_0.length [(w64 ((hiI (wornS a0 (a1.getD v1_1.toNat (0 : Int)) a2)) * (hiI a0.2.1)))].length 8 then
          k1 (v1_0 ++ [(w64 ((hiI (wornS a0 (a1.getD v1_1.toNat (0 : Int)) a2)) * (hiI a0.2.1)))]) (w64 (v1_1 + (1 : Int)))
        else
          none
      else
        none
    else
      none
  else
    bif (lenOK v1_0) then
      some (.int (sumI0 v1_0))
    else
      none

noncomputable def f93h_s (a0 : ((List ((Int × Int) × (Int × Int) × (Int × Int))) × (Int × Int) × (Int × Int) × Int)) (a1 : (List Int)) (a2 : Int) (k0 : Option (AV)) : Option (AV) :=
  k0

noncomputable def f93h_R0 (a0 : ((List ((Int × Int) × (Int × Int) × (Int × Int))) × (Int × Int) × (Int × Int) × Int)) (a1 : (List Int)) (a2 : Int) (N : Nat) (n : Nat) : Option (AV) :=
  loopN (evC X93h N (sub [(1, 0), (1, 0), (0, 0), (1, 0), (0, 0), (0, 0)] (bodyOf Tryd.f93))) (keepOf X93h.L (sub [(1, 0), (1, 0), (0, 0), (1, 0), (0, 0), (0, 0)] (bodyOf Tryd.f93))) n ⟨[.poison, .poison, .int a2, .poison, .ref 4 [], .poison, .poison, .ref 7 [], .poison, .sl .int ⟨true, true, none⟩ ([] : List Int), .poison, .poison, .sl .int ⟨false, false, none⟩ a1, .int (a1.length : Int), .int (0 : Int), .poison, .poison, .poison, .poison, .poison, .poison, .poison, .poison, .poison, .poison, .poison, .poison, .poison, .poison, .poison, .poison, .poison, .poison, .poison, .poison, .poison, .poison, .poison], [.none, .none, .none, .none, .box (.agg [enc tRF a0, .tok 0 tRF a0]), .none, .none, .box (.agg [.fn 101 [] []]), .none, .none, .none, .none, .none, .none, .none, .none, .none, .none, .none, .none, .none, .none, .none, .none, .none, .none, .none, .none, .none, .none, .none, .none, .none, .none, .none, .none, .none, .none]⟩ (ctxK X93h N [(1, 0), (1, 0), (0, 0), (1, 0), (0, 0)] (bodyOf Tryd.f93) (finK X93h Tryd.f93))

noncomputable def f93h_R1 (a0 : ((List ((Int × Int) × (Int × Int) × (Int × Int))) × (Int × Int) × (Int × Int) × Int)) (a1 : (List Int)) (a2 : Int) (N : Nat) (n : Nat) (v1_0 : (List Int)) (v1_1 : Int) : Option (AV) :=
  loopN (evC X93h N (sub [(1, 0), (1, 0), (0, 0), (1, 0), (0, 0), (0, 0)] (bodyOf Tryd.f93))) (keepOf X93h.L (sub [(1, 0), (1, 0), (0, 0), (1, 0), (0, 0), (0, 0)] (bodyOf Tryd.f93))) n ⟨[.poison, .poison, .int a2, .poison, .ref 4 [], .poison, .poison, .ref 7 [], .poison, .sl .int ⟨true, false, (some (34, 0))⟩ v1_0, .poison, .poison, .sl .int ⟨false, false, none⟩ a1, .int (a1.length : Int), .int v1_1, .poison, .poison, .poison, .poison, .poison, .poison, .poison, .poison, .poison, .poison, .poison, .poison, .poison, .poison, .poison, .poison, .poison, .poison, .poison, .poison, .poison, .poison, .poison], [.none, .none, .none, .none, .box (.agg [enc tRF a0, .tok 0 tRF a0]), .none, .none, .box (.agg [.fn 101 [] []]), .none, .none, .none, .none, .none, .none, .none, .none, .none, .none, .none, .none, .none, .none, .none, .none, .none, .none, .none, .none, .none, .none, .none, .none, .none, .none, .lin 0 true, .none, .none, .none]⟩ (ctxK X93h N [(1, 0), (1, 0), (0, 0), (1, 0), (0, 0)] (bodyOf Tryd.f93) (finK X93h Tryd.f93))

theorem f93h_e0 (a0 : ((List ((Int × Int) × (Int × Int) × (Int × Int))) × (Int × Int) × (Int × Int) × Int)) (a1 : (List Int)) (a2 : Int) (N : Nat) (n : Nat) : f93h_R0 a0 a1 a2 N (n + 1) = f93h_s0 a0 a1 a2 (f93h_R1 a0 a1 a2 N n) := by kernel_rfl

theorem f93h_e1 (a0 : ((List ((Int × Int) × (Int × Int) × (Int × Int))) × (Int × Int) × (Int × Int) × Int)) (a1 : (List Int)) (a2 : Int) (N : Nat) (n : Nat) (v1_0 : (List Int)) (v1_1 : Int) : f93h_R1 a0 a1 a2 N (n + 1) v1_0 v1_1 = f93h_s1 a0 a1 a2 (f93h_R1 a0 a1 a2 N n) v1_0 v1_1 := by kernel_rfl

noncomputable def f93h_L1 (a0 : ((List ((Int × Int) × (Int × Int) × (Int × Int))) × (Int × Int) × (Int × Int) × Int)) (a1 : (List Int)) (a2 : Int) (N : Nat) : Nat → (List Int) → Int → Option (AV)
  | 0, _, _ => none
  | n + 1, v1_0, v1_1 => f93h_s1 a0 a1 a2 (f93h_L1 a0 a1 a2 N n) v1_0 v1_1

noncomputable def f93h_L0 (a0 : ((List ((Int × Int) × (Int × Int) × (Int × Int))) × (Int × Int) × (Int × Int) × Int)) (a1 : (List Int)) (a2 : Int) (N : Nat) : Nat → Option (AV)
  | 0 => none
  | n + 1 => f93h_s0 a0 a1 a2 (f93h_L1 a0 a1 a2 N n)

theorem f93h_q1 (a0 : ((List ((Int × Int) × (Int × Int) × (Int × Int))) × (Int × Int) × (Int × Int) × Int)) (a1 : (List Int)) (a2 : Int) (N : Nat) : ∀ n : Nat, f93h_R1 a0 a1 a2 N n = f93h_L1 a0 a1 a2 N n
  | 0 => by
    funext v1_0
    funext v1_1
    rfl
  | n + 1 => by
    funext v1_0
    funext v1_1
    rw [f93h_e1]
    simp only [f93h_q1 a0 a1 a2 N n]
    rfl

theorem f93h_q0 (a0 : ((List ((Int × Int) × (Int × Int) × (Int × Int))) × (Int × Int) × (Int × Int) × Int)) (a1 : (List Int)) (a2 : Int) (N : Nat) : ∀ n : Nat, f93h_R0 a0 a1 a2 N n = f93h_L0 a0 a1 a2 N n
  | 0 => by
    rfl
  | n + 1 => by
    rw [f93h_e0]
    simp only [f93h_q1 a0 a1 a2 N n]
    rfl

noncomputable def f93h_T (a0 : ((List ((Int × Int) × (Int × Int) × (Int × Int))) × (Int × Int) × (Int × Int) × Int)) (a1 : (List Int)) (a2 : Int) (N : Nat) : Option (AV) := f93h_s a0 a1 a2 (f93h_L0 a0 a1 a2 N N)

theorem f93h_ev (a0 : ((List ((Int × Int) × (Int × Int) × (Int × Int))) × (Int × Int) × (Int × Int) × Int)) (a1 : (List Int)) (a2 : Int) (N : Nat) : evF X93h N Tryd.f93 [.agg [enc tRF a0, .tok 0 tRF a0], enc tInts a1, enc .int a2, .agg [.fn 101 [] []]] = f93h_T a0 a1 a2 N := by
  have h : evF X93h N Tryd.f93 [.agg [enc tRF a0, .tok 0 tRF a0], enc tInts a1, enc .int a2, .agg [.fn 101 [] []]] = f93h_s a0 a1 a2 (f93h_R0 a0 a1 a2 N N) := by kernel_rfl
  rw [h, f93h_q0]
  rfl
noncomputable def X82 : Ctx := { T := TT, G := GG, C := [(93, g93), (94, g94), (95, g95)], L := [] }
noncomputable def f82_s (a0 : ((List ((Int × Int) × (Int × Int) × (Int × Int))) × (Int × Int) × (Int × Int) × Int)) (a1 : (List Int)) (a2 : Int) : Option (AV) :=
  bif decide (a0 = a0) && (spoolsOK a0 a1 a2) then
    bif decide (a0 = a0) && (spoolsOK a0 a1 a2) then
      some (.agg [.int (lastsI false a0 a1 a2), .int (lastsI true a0 a1 a2)])
    else
      none
  else
    none

noncomputable def f82_T (a0 : ((List ((Int × Int) × (Int × Int) × (Int × Int))) × (Int × Int) × (Int × Int) × Int)) (a1 : (List Int)) (a2 : Int) : Option (AV) := f82_s a0 a1 a2

theorem f82_ev (a0 : ((List ((Int × Int) × (Int × Int) × (Int × Int))) × (Int × Int) × (Int × Int) × Int)) (a1 : (List Int)) (a2 : Int) (N : Nat) : evF X82 N Tryd.f82 [.agg [enc tRF a0, .tok 0 tRF a0], enc tInts a1, enc .int a2] = f82_T a0 a1 a2 := by
  have h : evF X82 N Tryd.f82 [.agg [enc tRF a0, .tok 0 tRF a0], enc tInts a1, enc .int a2] = f82_s a0 a1 a2 := by kernel_rfl
  rw [h]
  rfl
noncomputable def X36 : Ctx := { T := TT, G := GG, C := [(62, g62), (63, g63), (68, g68), (82, g82)], L := [] }
noncomputable def f36_s (a0 : ((List ((Int × Int) × (Int × Int) × (Int × Int))) × (Int × Int) × (Int × Int) × Int)) (a1 : (List Int)) (a2 : Int) : Option (AV) :=
  bif (areOK a0 a1) then
    bif (areReelsB a0 a1) then
      bif (askOK a0 (amid a2 (0 : Int) (999 : Int))) then
        bif (!decide (((askedF a0 (amid a2 (0 : Int) (999 : Int))).2) = (0 : Int))) then
          some (.tup [.agg [.int (0 : Int), .int (0 : Int)], .int ((askedF a0 (amid a2 (0 : Int) (999 : Int))).2)])
        else
          bif decide (((askedF a0 (amid a2 (0 : Int) (999 : Int))).1) = ((askedF a0 (amid a2 (0 : Int) (999 : Int))).1)) && ((spoolsOK ((askedF a0 (amid a2 (0 : Int) (999 : Int))).1) a1 a2)) then
            some (.tup [enc tSpan (TimeI ((askedF a0 (amid a2 (0 : Int) (999 : Int))).1) a1 a2), .int (0 : Int)])
          else
            none
      else
        none
    else
      bif (askOK a0 false) then
        bif (!decide (((askedF a0 false).2) = (0 : Int))) then
          some (.tup [.agg [.int (0 : Int), .int (0 : Int)], .int ((askedF a0 false).2)])
        else
          bif decide (((askedF a0 false).1) = ((askedF a0 false).1)) && ((spoolsOK ((askedF a0 false).1) a1 a2)) then
            some (.tup [enc tSpan (TimeI ((askedF a0 false).1) a1 a2), .int (0 : Int)])
          else
            none
      else
        none
  else
    none

noncomputable def f36_T (a0 : ((List ((Int × Int) × (Int × Int) × (Int × Int))) × (Int × Int) × (Int × Int) × Int)) (a1 : (List Int)) (a2 : Int) : Option (AV) := f36_s a0 a1 a2

theorem f36_ev (a0 : ((List ((Int × Int) × (Int × Int) × (Int × Int))) × (Int × Int) × (Int × Int) × Int)) (a1 : (List Int)) (a2 : Int) (N : Nat) : evF X36 N Tryd.f36 [enc tRF a0, enc tInts a1, enc .int a2] = f36_T a0 a1 a2 := by
  have h : evF X36 N Tryd.f36 [enc tRF a0, enc tInts a1, enc .int a2] = f36_s a0 a1 a2 := by kernel_rfl
  rw [h]
  rfl
noncomputable def X40 : Ctx := { T := TT, G := GG, C := [(82, g82), (84, g84)], L := [(7, [0, 3, 4, 5, 6, 7, 9, 10, 13, 14, 15, 16, 17, 18, 19, 20, 21, 22, 23, 24, 25, 26, 27, 28, 29, 33, 34, 35, 36, 37, 38, 39, 40, 41, 42, 43, 44, 45, 46, 47, 48, 49, 50, 51, 52, 53, 54], [1, 30])] }
noncomputable def f40_s0 (a0 : ((List ((Int × Int) × (Int × Int) × (Int × Int))) × (Int × Int) × (Int × Int) × Int)) (a1 : (List Int)) (a2 : Int) (k1 : (List (Int × Int)) → Int → Int → Option (AV)) : Option (AV) :=
  bif (decide ((0 : Int) < ((((joinedI a0 a1 a2).2.1).take (w64 ((((joinedI a0 a1 a2).2.1).length : Int) - (1 : Int))).toNat).length : Int))) then
    bif decide (0 ≤ (0 : Int)) && decide ((0 : Int) < ((((joinedI a0 a1 a2).2.1).take (w64 ((((joinedI a0 a1 a2).2.1).length : Int) - (1 : Int))).toNat).length : Int)) then
      bif decide (0 ≤ (w64 ((0 : Int) + ((((joinedI a0 a1 a2).2.1).take (w64 ((((joinedI a0 a1 a2).2.1).length : Int) - (1 : Int))).toNat).getD 0 (0 : Int))))) && decide ((w64 ((0 : Int) + ((((joinedI a0 a1 a2).2.1).take (w64 ((((joinedI a0 a1 a2).2.1).length : Int) - (1 : Int))).toNat).getD 0 (0 : Int)))) ≤ (a1.length : Int)) then
        bif decide (((joinedI a0 a1 a2).1) = ((joinedI a0 a1 a2).1)) && ((spoolsOK ((joinedI a0 a1 a2).1) (a1.take (w64 ((0 : Int) + ((((joinedI a0 a1 a2).2.1).take (w64 ((((joinedI a0 a1 a2).2.1).length : Int) - (1 : Int))).toNat).getD 0 (0 : Int)))).toNat) a2)) then
          bif true && roomy ([] : List (Int × Int)).length [(TimeI ((joinedI a0 a1 a2).1) (a1.take (w64 ((0 : Int) + ((((joinedI a0 a1 a2).2.1).take (w64 ((((joinedI a0 a1 a2).2.1).length : Int) - (1 : Int))).toNat).getD 0 (0 : Int)))).toNat) a2)].length 16 then
            k1 (([] : List (Int × Int)) ++ [(TimeI ((joinedI a0 a1 a2).1) (a1.take (w64 ((0 : Int) + ((((joinedI a0 a1 a2).2.1).take (w64 ((((joinedI a0 a1 a2).2.1).length : Int) - (1 : Int))).toNat).getD 0 (0 : Int)))).toNat) a2)]) (w64 ((0 : Int) + ((((joinedI a0 a1 a2).2.1).take (w64 ((((joinedI a0 a1 a2).2.1).length : Int) - (1 : Int))).toNat).getD 0 (0 : Int)))) (w64 ((0 : Int) + (1 : Int)))
          else
            none
        else
          none
      else
        none
    else
      none
  else
    bif decide ((([] : List (Int × Int)).length : Int) = (([] : List (Int × Int)).length : Int)) && (decide (0 ≤ (([] : List (Int × Int)).length : Int)) && decide ((([] : List (Int × Int)).length : Int) ≤ (([] : List (Int × Int)).length : Int))) then
      some (.tup [.sl tSpan ⟨(true && decide ((([] : List (Int × Int)).length : Int) = (([] : List (Int × Int)).length : Int))), true, none⟩ (([] : List (Int × Int)).take (([] : List (Int × Int)).length : Int).toNat), .int (0 : Int)])
    else
      none

noncomputable def f40_s1 (a0 : ((List ((Int × Int) × (Int × Int) × (Int × Int))) × (Int × Int) × (Int × Int) × Int)) (a1 : (List Int)) (a2 : Int) (k1 : (List (Int × Int)) → Int → Int → Option (AV)) (v1_0 : (List (Int × Int))) (v1_1 : Int) (v1_2 : Int) : Option (AV) :=
  bif (decide (v1_2 < ((((joinedI a0 a1 a2).2.1).take (w64 ((((joinedI a0 a1 a2).2.1).length : Int) - (1 : Int))).toNat).length : Int))) then
    bif decide (0 ≤ v1_2) && decide (v1_2 < ((((joinedI a0 a1 a2).2.1).take (w64 ((((joinedI a0 a1 a2).2.1).length : Int) - (1 : Int))).toNat).length : Int)) then
      bif decide (0 ≤ (w64 (v1_1 + ((((joinedI a0 a1 a2).2.1).take (w64 ((((joinedI a0 a1 a2).2.1).length : Int) - (1 : Int))).toNat).getD v1_2.toNat (0 : Int))))) && decide ((w64 (v1_1 + ((((joinedI a0 a1 a2).2.1).take (w64 ((((joinedI a0 a1 a2).2.1).length : Int) - (1 : Int))).toNat).getD v1_2.toNat (0 : Int)))) ≤ (a1.length : Int)) then
        bif decide (((joinedI a0 a1 a2).1) = ((joinedI a0 a1 a2).1)) && ((spoolsOK ((joinedI a0 a1 a2).1) (a1.take (w64 (v1_1 + ((((joinedI a0 a1 a2).2.1).take (w64 ((((joinedI a0 a1 a2).2.1).length : Int) - (1 : Int))).toNat).getD v1_2.toNat (0 : Int)))).toNat) a2)) then
          bif roomy v1_0.length [(TimeI ((joinedI a0 a1 a2).1) (a1.take (w64 (v1_1 + ((((joinedI a0 a1 a2).2.1).take (w64 ((((joinedI a0 a1 a2).2.1).length : Int) - (1 : Int))).toNat).getD v1_2.toNat (0 : Int)))).toNat) a2)].length 16 then
            k1 (v1_0 ++ [(TimeI ((joinedI a0 a1 a2).1) (a1.take (w64 (v1_1 + ((((joinedI a0 a1 a2).2.1).take (w64 ((((joinedI a0 a1 a2).2.1).length : Int) - (1 : Int))).toNat).getD v1_2.toNat (0 : Int)))).toNat) a2)]) (w64 (v1_1 + ((((joinedI a0 a1 a2).2.1).take (w64 ((((joinedI a0 a1 a2).2.1).length : Int) - (1 : Int))).toNat).getD v1_2.toNat (0 : Int)))) (w64 (v1_2 + (1 : Int)))
          else
            none
        else
          none
      else
        none
    else
      none
  else
    bif decide ((v1_0.length : Int) = (v1_0.length : Int)) && (decide (0 ≤ (v1_0.length : Int)) && decide ((v1_0.length : Int) ≤ (v1_0.length : Int))) then
      some (.tup [.sl tSpan ⟨(true && decide ((v1_0.length : Int) = (v1_0.length : Int))), true, none⟩ (v1_0.take (v1_0.length : Int).toNat), .int (0 : Int)])
    else
      none

noncomputable def f40_s (a0 : ((List ((Int × Int) × (Int × Int) × (Int × Int))) × (Int × Int) × (Int × Int) × Int)) (a1 : (List Int)) (a2 : Int) (k0 : Option (AV)) : Option (AV) :=
  bif (joinOK a0 a1 a2) then
    bif (!decide (((joinedI a0 a1 a2).2.2) = (0 : Int))) then
      some (.tup [.sl tSpan ⟨true, true, none⟩ ([] : List (Int × Int)), .int ((joinedI a0 a1 a2).2.2)])
    else
      bif decide (0 ≤ (w64 ((((joinedI a0 a1 a2).2.1).length : Int) - (1 : Int)))) && decide ((w64 ((((joinedI a0 a1 a2).2.1).length : Int) - (1 : Int))) ≤ (((joinedI a0 a1 a2).2.1).length : Int)) then
        k0
      else
        none
  else
    none

noncomputable def f40_R0 (a0 : ((List ((Int × Int) × (Int × Int) × (Int × Int))) × (Int × Int) × (Int × Int) × Int)) (a1 : (List Int)) (a2 : Int) (N : Nat) (n : Nat) : Option (AV) :=
  loopN (evC X40 N (sub [(1, 0), (1, 0), (1, 0), (1, 0), (1, 0), (0, 0), (1, 0), (0, 0), (0, 0)] (bodyOf Tryd.f40))) (keepOf X40.L (sub [(1, 0), (1, 0), (1, 0), (1, 0), (1, 0), (0, 0), (1, 0), (0, 0), (0, 0)] (bodyOf Tryd.f40))) n ⟨[.poison, .sl .int ⟨false, false, none⟩ a1, .int a2, .poison, .poison, .poison, .poison, .poison, .ref 8 [], .poison, .poison, .sl tSpan ⟨true, true, none⟩ ([] : List (Int × Int)), .int (0 : Int), .poison, .poison, .poison, .poison, .poison, .poison, .poison, .poison, .poison, .poison, .poison, .poison, .poison, .poison, .poison, .poison, .poison, .sl .int ⟨false, false, none⟩ (((joinedI a0 a1 a2).2.1).take (w64 ((((joinedI a0 a1 a2).2.1).length : Int) - (1 : Int))).toNat), .int ((((joinedI a0 a1 a2).2.1).take (w64 ((((joinedI a0 a1 a2).2.1).length : Int) - (1 : Int))).toNat).length : Int), .int (0 : Int), .poison, .poison, .poison, .poison, .poison, .poison, .poison, .poison, .poison, .poison, .poison, .poison, .poison, .poison, .poison, .poison, .poison, .poison, .poison, .poison, .poison, .poison], [.none, .none, .none, .none, .none, .none, .none, .none, .box (.agg [enc tRF ((joinedI a0 a1 a2).1), .tok 0 tRF ((joinedI a0 a1 a2).1)]), .none, .none, .none, .none, .none, .none, .none, .none, .none, .none, .none, .none, .none, .none, .none, .none, .none, .none, .none, .none, .none, .none, .none, .none, .none, .none, .none, .none, .none, .none, .none, .none, .none, .none, .none, .none, .none, .none, .none, .none, .none, .none, .none, .none, .none, .none]⟩ (ctxK X40 N [(1, 0), (1, 0), (1, 0), (1, 0), (1, 0), (0, 0), (1, 0), (0, 0)] (bodyOf Tryd.f40) (finK X40 Tryd.f40))

noncomputable def f40_R1 (a0 : ((List ((Int × Int) × (Int × Int) × (Int × Int))) × (Int × Int) × (Int × Int) × Int)) (a1 : (List Int)) (a2 : Int) (N : Nat) (n : Nat) (v1_0 : (List (Int × Int))) (v1_1 : Int) (v1_2 : Int) : Option (AV) :=
  loopN (evC X40 N (sub [(1, 0), (1, 0), (1, 0), (1, 0), (1, 0), (0, 0), (1, 0), (0, 0), (0, 0)] (bodyOf Tryd.f40))) (keepOf X40.L (sub [(1, 0), (1, 0), (1, 0), (1, 0), (1, 0), (0, 0), (1, 0), (0, 0), (0, 0)] (bodyOf Tryd.f40))) n ⟨[.poison, .sl .int ⟨false, false, none⟩ a1, .int a2, .poison, .poison, .poison, .poison, .poison, .ref 8 [], .poison, .poison, .sl tSpan ⟨true, false, (some (47, 0))⟩ v1_0, .int v1_1, .poison, .poison, .poison, .poison, .poison, .poison, .poison, .poison, .poison, .poison, .poison, .poison, .poison, .poison, .poison, .poison, .poison, .sl .int ⟨false, false, none⟩ (((joinedI a0 a1 a2).2.1).take (w64 ((((joinedI a0 a1 a2).2.1).length : Int) - (1 : Int))).toNat), .int ((((joinedI a0 a1 a2).2.1).take (w64 ((((joinedI a0 a1 a2).2.1).length : Int) - (1 : Int))).toNat).length : Int), .int v1_2, .poison, .poison, .poison, .poison, .poison, .poison, .poison, .poison, .poison, .poison, .poison, .poison, .poison, .poison, .poison, .poison, .poison, .poison, .poison, .poison, .poison, .poison], [.none, .none, .none, .none, .none, .none, .none, .none, .box (.agg [enc tRF ((joinedI a0 a1 a2).1), .tok 0 tRF ((joinedI a0 a1 a2).1)]), .none, .none, .none, .none, .none, .none, .none, .none, .none, .none, .none, .none, .none, .none, .none, .none, .none, .none, .none, .none, .none, .none, .none, .none, .none, .none, .none, .none, .none, .none, .none, .none, .none, .none, .none, .none, .none, .none, .lin 0 true, .none, .none, .none, .none, .none, .none, .none]⟩ (ctxK X40 N [(1, 0), (1, 0), (1, 0), (1, 0), (1, 0), (0, 0), (1, 0), (0, 0)] (bodyOf Tryd.f40) (finK X40 Tryd.f40))

theorem f40_e0 (a0 : ((List ((Int × Int) × (Int × Int) × (Int × Int))) × (Int × Int) × (Int × Int) × Int)) (a1 : (List Int)) (a2 : Int) (N : Nat) (n : Nat) : f40_R0 a0 a1 a2 N (n + 1) = f40_s0 a0 a1 a2 (f40_R1 a0 a1 a2 N n) := by kernel_rfl

theorem f40_e1 (a0 : ((List ((Int × Int) × (Int × Int) × (Int × Int))) × (Int × Int) × (Int × Int) × Int)) (a1 : (List Int)) (a2 : Int) (N : Nat) (n : Nat) (v1_0 : (List (Int × Int))) (v1_1 : Int) (v1_2 : Int) : f40_R1 a0 a1 a2 N (n + 1) v1_0 v1_1 v1_2 = f40_s1 a0 a1 a2 (f40_R1 a0 a1 a2 N n) v1_0 v1_1 v1_2 := by kernel_rfl

noncomputable def f40_L1 (a0 : ((List ((Int × Int) × (Int × Int) × (Int × Int))) × (Int × Int) × (Int × Int) × Int)) (a1 : (List Int)) (a2 : Int) (N : Nat) : Nat → (List (Int × Int)) → Int → Int → Option (AV)
  | 0, _, _, _ => none
  | n + 1, v1_0, v1_1, v1_2 => f40_s1 a0 a1 a2 (f40_L1 a0 a1 a2 N n) v1_0 v1_1 v1_2

noncomputable def f40_L0 (a0 : ((List ((Int × Int) × (Int × Int) × (Int × Int))) × (Int × Int) × (Int × Int) × Int)) (a1 : (List Int)) (a2 : Int) (N : Nat) : Nat → Option (AV)
  | 0 => none
  | n + 1 => f40_s0 a0 a1 a2 (f40_L1 a0 a1 a2 N n)

theorem f40_q1 (a0 : ((List ((Int × Int) × (Int × Int) × (Int × Int))) × (Int × Int) × (Int × Int) × Int)) (a1 : (List Int)) (a2 : Int) (N : Nat) : ∀ n : Nat, f40_R1 a0 a1 a2 N n = f40_L1 a0 a1 a2 N n
  | 0 => by
    funext v1_0
    funext v1_1
    funext v1_2
    rfl
  | n + 1 => by
    funext v1_0
    funext v1_1
    funext v1_2
    rw [f40_e1]
    simp only [f40_q1 a0 a1 a2 N n]
    rfl

theorem f40_q0 (a0 : ((List ((Int × Int) × (Int × Int) × (Int × Int))) × (Int × Int) × (Int × Int) × Int)) (a1 : (List Int)) (a2 : Int) (N : Nat) : ∀ n : Nat, f40_R0 a0 a1 a2 N n = f40_L0 a0 a1 a2 N n
  | 0 => by
    rfl
  | n + 1 => by
    rw [f40_e0]
    simp only [f40_q1 a0 a1 a2 N n]
    rfl

noncomputable def f40_T (a0 : ((List ((Int × Int) × (Int × Int) × (Int × Int))) × (Int × Int) × (Int × Int) × Int)) (a1 : (List Int)) (a2 : Int) (N : Nat) : Option (AV) := f40_s a0 a1 a2 (f40_L0 a0 a1 a2 N N)

theorem f40_ev (a0 : ((List ((Int × Int) × (Int × Int) × (Int × Int))) × (Int × Int) × (Int × Int) × Int)) (a1 : (List Int)) (a2 : Int) (N : Nat) : evF X40 N Tryd.f40 [enc tRF a0, enc tInts a1, enc .int a2] = f40_T a0 a1 a2 N := by
  have h : evF X40 N Tryd.f40 [enc tRF a0, enc tInts a1, enc .int a2] = f40_s a0 a1 a2 (f40_R0 a0 a1 a2 N N) := by kernel_rfl
  rw [h, f40_q0]
  rfl

end Ev
end Go.Proofs.YtidnikjkpbmhhaaDoor
/- Joining reels one by one, as far as there is room: no other way needs fewer spools. -/
set_option linter.unusedVariables false
set_option linter.unusedSimpArgs false
namespace Go.Proofs.YtidnikjkpbmhhaaDoor
namespace Ev

/-- How many reels each spool has, from one on that has c already. -/
def seg (S : Int) : List Int → Int → Int → List Int
  | [], c, _ => [c]
  | w :: r, c, room => if room < w then c :: seg S r 1 (S - w) else seg S r (c + 1) (room - w)
/-- How many spools more. -/
def nl (S : Int) : List Int → Int → Nat
  | [], _ => 0
  | w :: r, room => if room < w then nl S r (S - w) + 1 else nl S r (room - w)
theorem seg_len (S : Int) : ∀ (r : List Int) (c room : Int), (seg S r c room).length = nl S r room + 1
  | [], c, room => rfl
  | w :: r, c, room => by
    rw [seg, nl]
    split
    · rw [List.length_cons, seg_len S r]
    · exact seg_len S r _ _

/-- Another way to join: it may end a spool where it need not. -/
def ot (S : Int) : List (Int × Bool) → Int → Nat
  | [], _ => 0
  | (w, f) :: r, room => if room < w ∨ f = true then ot S r (S - w) + 1 else ot S r (room - w)

theorem ahead {S S' : Int} (hS : S ≤ S') : ∀ (l : List (Int × Int × Bool)), (∀ x ∈ l, 0 ≤ x.2.1 ∧ x.1 ≤ x.2.1) → (∀ g a : Int, a ≤ S → a ≤ g → nl S' (l.map (·.1)) g ≤ ot S (l.map (·.2)) a) ∧ ∀ g a : Int, a ≤ S → 0 ≤ g → nl S' (l.map (·.1)) g ≤ ot S (l.map (·.2)) a + 1
  | [], h => ⟨fun _ _ _ _ => Nat.le_refl _, fun _ _ _ _ => Nat.zero_le _⟩
  | (w', w, f) :: l, h => by
    obtain ⟨A, Bq⟩ := ahead hS l fun x hx => h x (List.mem_cons_of_mem _ hx)
    obtain ⟨h1, h2⟩ := h (w', w, f) (List.mem_cons_self ..)
    dsimp only at h1 h2
    constructor
    · intro g a ha hga
      simp only [List.map_cons, nl, ot]
      by_cases c1 : g < w'
      · rw [if_pos c1, if_pos (.inl (by omega))]
        have := A (S' - w') (S - w) (by omega) (by omega)
        omega
      · rw [if_neg c1]
        split
        · exact Bq _ _ (by omega) (by omega)
        · exact A _ _ (by omega) (by omega)
    · intro g a ha hg
      simp only [List.map_cons, nl, ot]
      by_cases c1 : g < w'
      · rw [if_pos c1]
        split
        · have := A (S' - w') (S - w) (by omega) (by omega)
          omega
        · have := A (S' - w') (a - w) (by omega) (by omega)
          omega
      · rw [if_neg c1]
        split
        · have := Bq (g - w') (S - w) (by omega) (by omega)
          omega
        · exact Bq _ _ (by omega) (by omega)

def sumZ : List Int → Int
  | [] => 0
  | x :: l => x + sumZ l
theorem sumZ_append : ∀ a b : List Int, sumZ (a ++ b) = sumZ a + sumZ b
  | [], b => by simp [sumZ]
  | x :: a, b => by
    simp only [List.cons_append, sumZ, sumZ_append a b]
    omega
theorem sumZ_nonneg : ∀ l : List Int, (∀ x ∈ l, 0 ≤ x) → 0 ≤ sumZ l
  | [], _ => Int.le_refl _
  | x :: l, h => by
    have := sumZ_nonneg l fun y hy => h y (List.mem_cons_of_mem _ hy)
    have := h x (List.mem_cons_self ..)
    simp only [sumZ]
    omega
theorem sumI_eq : ∀ (l : List Int) (a : Int), (∀ x ∈ l, 0 ≤ x ∧ x ≤ 100000) → 0 ≤ a → a + 100000 * l.length ≤ 4611686018427387904 → sumI l a = a + sumZ l
  | [], a, h, h0, h1 => by simp [sumI, sumZ]
  | x :: l, a, h, h0, h1 => by
    have hx := h x (List.mem_cons_self ..)
    simp only [List.length_cons, Int.natCast_add, Int.mul_add] at h1
    rw [sumI, w64_small (by omega) (by omega), sumI_eq l (a + x) (fun y hy => h y (List.mem_cons_of_mem _ hy)) (by omega) (by omega), sumZ]
    omega

/-- Each spool is full as far as reels come. -/
def GS (S : Int) : List Int → List Int → Prop
  | [], f => f = []
  | c :: cs, f => 1 ≤ c ∧ c ≤ f.length ∧ sumZ (f.take c.toNat) ≤ S ∧ (∀ w, f[c.toNat]? = some w → S < sumZ (f.take c.toNat) + w) ∧ GS S cs (f.drop c.toNat)

theorem seg_gs (S : Int) : ∀ (r pre : List Int) (room : Int), (∀ w ∈ r, 0 ≤ w ∧ w ≤ S) → pre ≠ [] → sumZ pre = S - room → 0 ≤ room → GS S (seg S r pre.length room) (pre ++ r)
  | [], pre, room, h, hp, hs, h0 => by
    have := List.length_pos_iff.2 hp
    rw [seg, GS, List.append_nil]
    refine ⟨by omega, by omega, ?_, ?_, ?_⟩
    · simp only [Int.toNat_natCast, List.take_length]
      omega
    · intro w hw
      simp at hw
    · simp [GS]
  | w :: r, pre, room, h, hp, hs, h0 => by
    have hpl := List.length_pos_iff.2 hp
    obtain ⟨hw0, hwS⟩ := h w (List.mem_cons_self ..)
    rw [seg]
    split
    · rename_i hlt
      rw [GS]
      refine ⟨by omega, by simp; omega, ?_, ?_, ?_⟩
      · rw [Int.toNat_natCast, List.take_left]
        omega
      · intro v hv
        simp only [Int.toNat_natCast] at hv ⊢
        rw [List.getElem?_append_right (Nat.le_refl _), Nat.sub_self, List.getElem?_cons_zero] at hv
        cases hv
        rw [List.take_left]
        omega
      · simp only [Int.toNat_natCast]
        rw [List.drop_left]
        have := seg_gs S r [w] (S - w) (fun v hv => h v (List.mem_cons_of_mem _ hv)) (by simp) (by simp only [sumZ]; omega) (by omega)
        simpa using this
    · have := seg_gs S r (pre ++ [w]) (room - w) (fun v hv => h v (List.mem_cons_of_mem _ hv)) (by simp) (by rw [sumZ_append]; simp only [sumZ]; omega) (by omega)
      simpa using this

theorem gs_sum (S : Int) : ∀ (l f : List Int), GS S l f → sumZ l = f.length ∧ ∀ c ∈ l, 0 ≤ c ∧ c ≤ f.length
  | [], f, h => by
    simp only [GS] at h
    subst h
    exact ⟨rfl, by simp⟩
  | c :: cs, f, h => by
    simp only [GS] at h
    obtain ⟨h1, h2, _, _, h5⟩ := h
    obtain ⟨g1, g2⟩ := gs_sum S cs _ h5
    rw [List.length_drop] at g1 g2
    refine ⟨by simp only [sumZ, g1]; omega, fun d hd => ?_⟩
    rcases List.mem_cons.1 hd with rfl | hd
    · omega
    · have := g2 d hd
      omega

theorem incLast_app (l : List Int) (c : Int) (h0 : 0 ≤ c) (h1 : c ≤ 100000) : incLast (l ++ [c]) = l ++ [c + 1] := by
  unfold incLast
  rw [w64_small (by simp; omega) (by simp; omega)]
  simp

theorem spGo_seg {x : Fi} {n : Int} (hS : 0 ≤ x.2.2.2) (hS2 : x.2.2.2 ≤ 6000) : ∀ (l done : List Int) (c room : Int), (∀ k ∈ l, mostI x k n ≤ x.2.2.2) → 0 ≤ room → room ≤ 6000 → 0 ≤ c → c + l.length ≤ 1000 → spGo x n l (done ++ [c]) room = (done ++ seg x.2.2.2 (l.map fun k => mostI x k n) c room, true)
  | [], done, c, room, h, h0, h1, h2, h3 => rfl
  | k :: l, done, c, room, h, h0, h1, h2, h3 => by
    have hk := h k (List.mem_cons_self ..)
    have hk0 := most_nonneg x k n
    simp only [List.length_cons, Int.natCast_add] at h3
    rw [spGo, if_neg (by omega), List.map_cons, seg]
    split
    · rw [w64_small (by omega) (by omega), show done ++ [c] ++ [0] = (done ++ [c]) ++ [0] from rfl, incLast_app (done ++ [c]) 0 (by omega) (by omega)]
      rw [show (0 : Int) + 1 = 1 from rfl, spGo_seg hS hS2 l (done ++ [c]) 1 _ (fun j hj => h j (List.mem_cons_of_mem _ hj)) (by omega) (by omega) (by omega) (by omega)]
      simp
    · rw [w64_small (by omega) (by omega), incLast_app done c h2 (by omega)]
      exact spGo_seg hS hS2 l done (c + 1) _ (fun j hj => h j (List.mem_cons_of_mem _ hj)) (by omega) (by omega) (by omega) (by omega)

theorem spGo_large {x : Fi} {n : Int} : ∀ (l out : List Int) (room : Int), (∃ k ∈ l, x.2.2.2 < mostI x k n) → spGo x n l out room = ([], false)
  | [], out, room, h => by simp at h
  | k :: l, out, room, h => by
    rw [spGo]
    split
    · rfl
    · rename_i hk
      have h' : ∃ j ∈ l, x.2.2.2 < mostI x j n := by
        obtain ⟨j, hj, hl⟩ := h
        rcases List.mem_cons.1 hj with rfl | hj
        · exact absurd hl hk
        · exact ⟨j, hj, hl⟩
      split
      · exact spGo_large l _ _ h'
      · exact spGo_large l _ _ h'

theorem spools_seg {x : Fi} {n : Int} (hS : 0 ≤ x.2.2.2) (hS2 : x.2.2.2 ≤ 6000) {k : Int} {l : List Int} (h : ∀ j ∈ k :: l, mostI x j n ≤ x.2.2.2) (hl : l.length ≤ 900) : spoolsF x (k :: l) n = (seg x.2.2.2 (l.map fun k => mostI x k n) 1 (x.2.2.2 - mostI x k n), true) := by
  have hk := h k (List.mem_cons_self ..)
  have hk0 := most_nonneg x k n
  unfold spoolsF
  rw [spGo, if_neg (by omega), if_pos (by omega), w64_small (by omega) (by omega), incLast_app [] 0 (by omega) (by omega)]
  exact spGo_seg hS hS2 l [] 1 _ (fun j hj => h j (List.mem_cons_of_mem _ hj)) (by omega) (by omega) (by omega) (by omega)

end Ev
end Go.Proofs.YtidnikjkpbmhhaaDoor
/- How long reels last: what the walks come to. -/
set_option linter.unusedVariables false
set_option linter.unusedSimpArgs false
set_option maxRecDepth 4000
namespace Go.Proofs.YtidnikjkpbmhhaaDoor
namespace Ev

theorem f100_sp (x0 : Sp) : ∃ (N : Nat) (r0 : AV), f100_T x0 = some r0 ∧ wkAV r0 = enc .int (loI x0) := ⟨0, .int (loI x0), rfl, rfl⟩
theorem f101_sp (x0 : Sp) : ∃ (N : Nat) (r0 : AV), f101_T x0 = some r0 ∧ wkAV r0 = enc .int (hiI x0) := ⟨0, .int (hiI x0), rfl, rfl⟩

theorem f99_loop (l : List Int) (hl : lenOK l = true) (N : Nat) : ∀ (m i : Nat) (a : Int), i + m = l.length → f99_L0 l N (m + 1) a i = some (.int (sumI (l.drop i) a))
  | 0, i, a, h => by
    have e : f99_L0 l N (0 + 1) a i = f99_s0 l (f99_L0 l N 0) a i := rfl
    rw [e]
    unfold f99_s0
    have h1 : decide ((i : Int) < (l.length : Int)) = false := by simp; omega
    rw [h1, List.drop_eq_nil_of_le (by omega)]
    rfl
  | m + 1, i, a, h => by
    have e : f99_L0 l N (m + 1 + 1) a i = f99_s0 l (f99_L0 l N (m + 1)) a i := rfl
    rw [e]
    have hlt : i < l.length := by omega
    unfold f99_s0
    have h1 : decide ((i : Int) < (l.length : Int)) = true := by simp; omega
    have h2 : decide (0 ≤ (i : Int)) = true := by simp
    rw [get_int hlt, h1, h2, w64_succ hlt (Nat.le_of_ble_eq_true hl), List.drop_eq_getElem_cons hlt, sumI, f99_loop l hl N m (i + 1) _ (by omega)]
    rfl
theorem f99_sp (x0 : (List Int)) (hp : lenOK x0 = true) : ∃ (N : Nat) (r0 : AV), f99_T x0 N = some r0 ∧ wkAV r0 = enc .int (sumI0 x0) :=
  ⟨x0.length + 1, .int (sumI0 x0), f99_loop x0 hp (x0.length + 1) x0.length 0 0 (by omega), rfl⟩

theorem spoolsOK_at {x : Fi} {l : List Int} {n : Int} (h : spoolsOK x l n = true) : l.length ≤ 1000 ∧ ∀ k ∈ l, inReels x k = true := by
  simp only [spoolsOK, Bool.and_eq_true, decide_eq_true_eq, List.all_eq_true] at h
  exact h
theorem lasts_len {b : Bool} {x : Fi} {l : List Int} {n : Int} (h : l.length ≤ 1000) : lenOK (lastsL b x l n) = true := by
  unfold lenOK lastsL
  refine Nat.ble_eq_true_of_le ?_
  simp
  omega
theorem lastsL_app {b : Bool} {x : Fi} {l m : List Int} {n : Int} : lastsL b x (l ++ m) n = lastsL b x l n ++ lastsL b x m n := List.map_append

theorem f93l_loop (x : Fi) (l : List Int) (n : Int) (hp : spoolsOK x l n = true) (N : Nat) : ∀ (m i : Nat), i + m = l.length → f93l_L1 x l n N (m + 1) (lastsL false x (l.take i) n) i = some (.int (lastsI false x l n))
  | 0, i, h => by
    have e : f93l_L1 x l n N (0 + 1) (lastsL false x (l.take i) n) i = f93l_s1 x l n (f93l_L1 x l n N 0) (lastsL false x (l.take i) n) i := rfl
    rw [e, List.take_of_length_le (by omega)]
    unfold f93l_s1
    have h1 : decide ((i : Int) < (l.length : Int)) = false := by simp; omega
    rw [h1, lasts_len (l := l) (by have := (spoolsOK_at hp).1; omega)]
    rfl
  | m + 1, i, h => by
    have e : f93l_L1 x l n N (m + 1 + 1) (lastsL false x (l.take i) n) i = f93l_s1 x l n (f93l_L1 x l n N (m + 1)) (lastsL false x (l.take i) n) i := rfl
    rw [e]
    have hlt : i < l.length := by omega
    have hl := (spoolsOK_at hp).1
    have h3 : inReels3 x l[i] n = true := (spoolsOK_at hp).2 _ (List.getElem_mem hlt)
    have hn := f93l_loop x l n hp N m (i + 1) (by omega)
    rw [List.take_succ_eq_append_getElem hlt, lastsL_app] at hn
    have h1 : (decide (0 ≤ (i : Int)) && decide ((i : Int) < (l.length : Int))) = true := by simp; omega
    have hro : ∀ z : Int, roomy (lastsL false x (l.take i) n).length [z].length 8 = true := fun z => by
      unfold roomy lastsL
      refine Nat.ble_eq_true_of_le ?_
      simp
      omega
    unfold f93l_s1
    rw [get_int hlt, h1, h3, hro, decide_eq_true (show (i : Int) < (l.length : Int) by omega), w64_succ (i := i) (n := 3000) (by omega) (by omega)]
    simp only [decide_true, Bool.and_self, cond_true]
    exact hn
theorem f93l_sp (x0 : Fi) (x1 : List Int) (x2 : Int) (hp : spoolsOK x0 x1 x2 = true) : ∃ (N : Nat) (r0 : AV), f93l_T x0 x1 x2 N = some r0 ∧ wkAV r0 = enc .int (lastsI false x0 x1 x2) := by
  refine ⟨x1.length + 1, .int (lastsI false x0 x1 x2), ?_, rfl⟩
  unfold f93l_T f93l_s
  have e : f93l_L0 x0 x1 x2 (x1.length + 1) (x1.length + 1) = f93l_s0 x0 x1 x2 (f93l_L1 x0 x1 x2 (x1.length + 1) x1.length) := rfl
  rw [e]
  match x1, hp with
  | [], hp => rfl
  | k :: r, hp =>
    have hn := f93l_loop x0 (k :: r) x2 hp ((k :: r).length + 1) r.length 1 (by simp; omega)
    have h3 : inReels3 x0 k x2 = true := (spoolsOK_at hp).2 _ (List.mem_cons_self ..)
    unfold f93l_s0
    have h1 : decide ((0 : Int) < ((k :: r).length : Int)) = true := decide_eq_true (by simp only [List.length_cons]; omega)
    rw [h1, show (k :: r).getD 0 (0 : Int) = k from rfl, h3, show w64 ((0 : Int) + 1) = ((1 : Nat) : Int) from w64_small (n := 1) (by omega) (by omega)]
    simp only [decide_true, Bool.and_self, cond_true]
    exact hn

theorem f93h_loop (x : Fi) (l : List Int) (n : Int) (hp : spoolsOK x l n = true) (N : Nat) : ∀ (m i : Nat), i + m = l.length → f93h_L1 x l n N (m + 1) (lastsL true x (l.take i) n) i = some (.int (lastsI true x l n))
  | 0, i, h => by
    have e : f93h_L1 x l n N (0 + 1) (lastsL true x (l.take i) n) i = f93h_s1 x l n (f93h_L1 x l n N 0) (lastsL true x (l.take i) n) i := rfl
    rw [e, List.take_of_length_le (by omega)]
    unfold f93h_s1
    have h1 : decide ((i : Int) < (l.length : Int)) = false := by simp; omega
    rw [h1, lasts_len (l := l) (by have := (spoolsOK_at hp).1; omega)]
    rfl
  | m + 1, i, h => by
    have e : f93h_L1 x l n N (m + 1 + 1) (lastsL true x (l.take i) n) i = f93h_s1 x l n (f93h_L1 x l n N (m + 1)) (lastsL true x (l.take i) n) i := rfl
    rw [e]
    have hlt : i < l.length := by omega
    have hl := (spoolsOK_at hp).1
    have h3 : inReels3 x l[i] n = true := (spoolsOK_at hp).2 _ (List.getElem_mem hlt)
    have hn := f93h_loop x l n hp N m (i + 1) (by omega)
    rw [List.take_succ_eq_append_getElem hlt, lastsL_app] at hn
    have h1 : (decide (0 ≤ (i : Int)) && decide ((i : Int) < (l.length : Int))) = true := by simp; omega
    have hro : ∀ z : Int, roomy (lastsL true x (l.take i) n).length [z].length 8 = true := fun z => by
      unfold roomy lastsL
      refine Nat.ble_eq_true_of_le ?_
      simp
      omega
    unfold f93h_s1
    rw [get_int hlt, h1, h3, hro, decide_eq_true (show (i : Int) < (l.length : Int) by omega), w64_succ (i := i) (n := 3000) (by omega) (by omega)]
    simp only [decide_true, Bool.and_self, cond_true]
    exact hn
theorem f93h_sp (x0 : Fi) (x1 : List Int) (x2 : Int) (hp : spoolsOK x0 x1 x2 = true) : ∃ (N : Nat) (r0 : AV), f93h_T x0 x1 x2 N = some r0 ∧ wkAV r0 = enc .int (lastsI true x0 x1 x2) := by
  refine ⟨x1.length + 1, .int (lastsI true x0 x1 x2), ?_, rfl⟩
  unfold f93h_T f93h_s
  have e : f93h_L0 x0 x1 x2 (x1.length + 1) (x1.length + 1) = f93h_s0 x0 x1 x2 (f93h_L1 x0 x1 x2 (x1.length + 1) x1.length) := rfl
  rw [e]
  match x1, hp with
  | [], hp => rfl
  | k :: r, hp =>
    have hn := f93h_loop x0 (k :: r) x2 hp ((k :: r).length + 1) r.length 1 (by simp; omega)
    have h3 : inReels3 x0 k x2 = true := (spoolsOK_at hp).2 _ (List.mem_cons_self ..)
    unfold f93h_s0
    have h1 : decide ((0 : Int) < ((k :: r).length : Int)) = true := decide_eq_true (by simp only [List.length_cons]; omega)
    rw [h1, show (k :: r).getD 0 (0 : Int) = k from rfl, h3, show w64 ((0 : Int) + 1) = ((1 : Nat) : Int) from w64_small (n := 1) (by omega) (by omega)]
    simp only [decide_true, Bool.and_self, cond_true]
    exact hn

theorem f82_sp (x0 : Fi) (x1 : List Int) (x2 : Int) (hp : spoolsOK x0 x1 x2 = true) : ∃ (N : Nat) (r0 : AV), f82_T x0 x1 x2 = some r0 ∧ wkAV r0 = enc tSpan (TimeI x0 x1 x2) :=
  ⟨0, enc tSpan (TimeI x0 x1 x2), by unfold f82_T f82_s; simp [hp, TimeI, enc, encT], wk_enc _ _⟩

theorem are_spools {x : Fi} {l : List Int} (n : Int) (hc : checkB x = true) (h : areReelsB x l = true) : spoolsOK x l n = true := by
  have hal := are_len hc h
  have hcl := check_len hc
  simp only [spoolsOK, Bool.and_eq_true, decide_eq_true_eq]
  exact ⟨by omega, hal.2.1⟩
theorem take_spools {x : Fi} {l : List Int} {n : Int} (p : Nat) (h : spoolsOK x l n = true) : spoolsOK x (l.take p) n = true := by
  obtain ⟨h1, h2⟩ := spoolsOK_at h
  simp only [spoolsOK, Bool.and_eq_true, decide_eq_true_eq, List.all_eq_true]
  exact ⟨by simp; omega, fun k hk => h2 k (List.mem_of_mem_take hk)⟩

theorem f36_sp (x0 : Fi) (x1 : List Int) (x2 : Int) (hp : joinOK x0 x1 x2 = true) : ∃ (N : Nat) (r0 : AV), f36_T x0 x1 x2 = some r0 ∧ wkAV r0 = .tup [enc tSpan ((LastsI x0 x1 x2).1), enc .int ((LastsI x0 x1 x2).2)] := by
  simp only [joinOK, Bool.and_eq_true] at hp
  obtain ⟨hx, hl⟩ := hp
  have h : ∀ r, askOK x0 r = true := fun _ => hx
  have ha : areOK x0 x1 = true := hl
  have e : f36_T x0 x1 x2 = (bif (!decide (((askedF x0 (areReelsB x0 x1 && amid x2 0 999)).2) = (0 : Int))) then
        some (.tup [.agg [.int (0 : Int), .int (0 : Int)], .int ((askedF x0 (areReelsB x0 x1 && amid x2 0 999)).2)])
      else
        bif decide (((askedF x0 (areReelsB x0 x1 && amid x2 0 999)).1) = ((askedF x0 (areReelsB x0 x1 && amid x2 0 999)).1)) && ((spoolsOK ((askedF x0 (areReelsB x0 x1 && amid x2 0 999)).1) x1 x2)) then
          some (.tup [enc tSpan (TimeI ((askedF x0 (areReelsB x0 x1 && amid x2 0 999)).1) x1 x2), .int (0 : Int)])
        else
          none) := by
    unfold f36_T f36_s
    simp only [h, ha, cond_true]
    cases areReelsB x0 x1 <;> rfl
  rw [e]
  unfold LastsI
  generalize hr : (areReelsB x0 x1 && amid x2 0 999) = r
  by_cases h0 : askedI x0 r = 0
  · obtain ⟨hc, rfl⟩ := asked_zero h0
    rw [Bool.and_eq_true] at hr
    have hin := are_spools x2 hc hr.1
    have e1 : (askedF x0 true) = (x0, 0) := by simp [askedF, h0]
    exact ⟨0, .tup [enc tSpan (TimeI x0 x1 x2), .int 0], by simp [e1, hin], by simp [wkAV, wkL, wk_enc, wkT_enc, h0, enc]⟩
  · exact ⟨0, .tup [.agg [.int 0, .int 0], .int (askedI x0 r)], by simp [askedF, h0], by simp [wkAV, wkL, h0, enc, encT]⟩

/-- The spools of reels that are joined are full as far as reels come. -/
theorem spools_gs {x : Fi} {l : List Int} {n : Int} (hc : checkB x = true) (ha : areReelsB x l = true) (h0 : 0 < l.length) (hs : (spoolsF x l n).2 = true) : GS x.2.2.2 (spoolsF x l n).1 (l.map fun k => mostI x k n) := by
  have hS : 1 ≤ x.2.2.2 ∧ x.2.2.2 ≤ 6000 := by
    simp only [checkB, amid, Bool.and_eq_true, decide_eq_true_eq] at hc
    exact hc.2.2.2.1
  have hal := are_len hc ha
  have hcl := check_len hc
  match l, ha, h0, hs, hal with
  | k :: r, ha, h0, hs, hal =>
    have hsm : ∀ j ∈ k :: r, mostI x j n ≤ x.2.2.2 := fun j hj => by
      refine Int.not_lt.1 fun hlt => ?_
      unfold spoolsF at hs
      rw [spGo_large (k :: r) [] (-1) ⟨j, hj, hlt⟩] at hs
      cases hs
    simp only [List.length_cons] at hal
    rw [spools_seg (by omega) hS.2 hsm (by omega)]
    have hs0 := hsm k (List.mem_cons_self ..)
    have := seg_gs x.2.2.2 (r.map fun k => mostI x k n) [mostI x k n] (x.2.2.2 - mostI x k n) (fun w hw => by
      obtain ⟨j, hj, rfl⟩ := List.mem_map.1 hw
      exact ⟨most_nonneg x j n, hsm j (List.mem_cons_of_mem _ hj)⟩) (by simp) (by simp only [sumZ]; omega) (by omega)
    exact this
theorem gs_ne {S : Int} : ∀ {l f : List Int}, GS S l f → f ≠ [] → l ≠ []
  | [], f, h, hf => absurd h hf
  | c :: cs, f, h, hf => List.cons_ne_nil _ _
theorem gs_pos {S : Int} : ∀ {l f : List Int}, GS S l f → ∀ c ∈ l, 1 ≤ c
  | [], f, h, c, hc => nomatch hc
  | d :: cs, f, h, c, hc => by
    simp only [GS] at h
    rcases List.mem_cons.1 hc with rfl | hc
    · exact h.1
    · exact gs_pos h.2.2.2.2 c hc
theorem gs_length {S : Int} : ∀ {l f : List Int}, GS S l f → l.length ≤ f.length
  | [], f, h => Nat.zero_le _
  | d :: cs, f, h => by
    simp only [GS] at h
    have := gs_length h.2.2.2.2
    rw [List.length_drop] at this
    simp only [List.length_cons]
    omega

theorem joined_zero {x : Fi} {l : List Int} {n : Int} (h : (joinedI x l n).2.2 = 0) : checkB x = true ∧ areReelsB x l = true ∧ 0 < l.length ∧ amid n 0 999 = true ∧ (spoolsF x l n).2 = true ∧ joinedI x l n = (x, (spoolsF x l n).1, 0) := by
  unfold joinedI at h ⊢
  generalize hr : (decide (0 < (l.length : Int)) && (areReelsB x l && amid n 0 999)) = r at h ⊢
  by_cases h0 : askedI x r = 0
  · obtain ⟨hc, rfl⟩ := asked_zero h0
    simp only [Bool.and_eq_true, decide_eq_true_eq] at hr
    rw [if_pos h0] at h ⊢
    by_cases h2 : (spoolsF x l n).2 = true
    · rw [if_pos h2]
      exact ⟨hc, hr.2.1, by omega, hr.2.2, h2, rfl⟩
    · rw [if_neg h2] at h
      cases h
  · rw [if_neg h0] at h
    exact absurd h h0

theorem f40_loop {x : Fi} {l : List Int} {n : Int} {L : List Int} (hJ : joinedI x l n = (x, L, 0)) (hsp : spoolsOK x l n = true) (hL : L.length ≤ 1000) (hL0 : 0 < L.length) {F : List Int} {S : Int} (hF : F.length = l.length) (N : Nat) : ∀ (m i p : Nat) (out : List Sp) (N' : Nat), i + m + 1 = L.length → m < N' → p ≤ l.length → GS S (L.drop i) (F.drop p) → out.length ≤ i → ∃ z, f40_L1 x l n N N' out p i = some (.tup [.sl tSpan ⟨z, true, none⟩ (out ++ chG x l n ((L.take (L.length - 1)).drop i) p), .int 0])
  | 0, i, p, out, N' + 1, hi, hN, hp, hg, ho => by
    have e : f40_L1 x l n N (N' + 1) out p i = f40_s1 x l n (f40_L1 x l n N N') out p i := rfl
    rw [e]
    unfold f40_s1
    simp only [hJ]
    have hw : (w64 ((L.length : Int) - 1)).toNat = L.length - 1 := by rw [w64_small (by omega) (by omega)]; omega
    have h1 : decide ((i : Int) < ((L.take (L.length - 1)).length : Int)) = false := by simp; omega
    rw [hw, h1, List.drop_eq_nil_of_le (by simp; omega)]
    have h2 : (decide (0 ≤ (out.length : Int)) && decide ((out.length : Int) ≤ (out.length : Int))) = true := by simp
    rw [h2, show ((out.length : Int).toNat) = out.length by simp, List.take_length]
    simp only [chG, List.append_nil, cond_true, cond_false, decide_true, Bool.and_self]
    exact ⟨_, rfl⟩
  | m + 1, i, p, out, N' + 1, hi, hN, hp, hg, ho => by
    have e : f40_L1 x l n N (N' + 1) out p i = f40_s1 x l n (f40_L1 x l n N N') out p i := rfl
    have hw : (w64 ((L.length : Int) - 1)).toNat = L.length - 1 := by rw [w64_small (by omega) (by omega)]; omega
    have hlt : i < (L.take (L.length - 1)).length := by simp; omega
    have hlt' : i < L.length := by omega
    have hgt : (L.take (L.length - 1))[i] = L[i] := List.getElem_take
    have hg0 := hg
    rw [List.drop_eq_getElem_cons hlt'] at hg
    simp only [GS, List.length_drop] at hg
    obtain ⟨g1, g2, g3, g4, g5⟩ := hg
    have hsl := (spoolsOK_at hsp).1
    obtain ⟨c, hc⟩ := Int.eq_ofNat_of_zero_le (show 0 ≤ L[i] by omega)
    rw [hc] at g1 g2 g5
    simp only [Int.toNat_natCast, List.drop_drop] at g5
    have hw1 : w64 ((p : Int) + (c : Int)) = ((p + c : Nat) : Int) := by rw [w64_small (by omega) (by omega)]; omega
    obtain ⟨z, hz⟩ := f40_loop hJ hsp hL hL0 hF N m (i + 1) (p + c) (out ++ [TimeI x (l.take (p + c)) n]) N' (by omega) (by omega) (by omega) g5 (by simp; omega)
    refine ⟨z, ?_⟩
    rw [e]
    unfold f40_s1
    simp only [hJ]
    have h1 : (decide (0 ≤ (i : Int)) && decide ((i : Int) < ((L.take (L.length - 1)).length : Int))) = true := by simp; omega
    have h2 : (decide (0 ≤ ((p + c : Nat) : Int)) && decide (((p + c : Nat) : Int) ≤ (l.length : Int))) = true := by simp; omega
    have hro : ∀ z : Sp, roomy out.length [z].length 16 = true := fun z => by
      unfold roomy
      refine Nat.ble_eq_true_of_le ?_
      simp
      omega
    rw [hw, get_int hlt, hgt, hc, hw1, h1, h2, Int.toNat_natCast, take_spools _ hsp, hro, decide_eq_true (show (i : Int) < ((L.take (L.length - 1)).length : Int) by omega), w64_succ (i := i) (n := 3000) (by omega) (by omega)]
    simp only [decide_true, Bool.and_self, cond_true]
    rw [List.drop_eq_getElem_cons hlt, hgt, hc, chG, hw1, Int.toNat_natCast]
    rw [hz]
    simp

theorem f40_sp (x0 : Fi) (x1 : List Int) (x2 : Int) (hp : joinOK x0 x1 x2 = true) : ∃ (N : Nat) (r0 : AV), f40_T x0 x1 x2 N = some r0 ∧ wkAV r0 = .tup [enc tSpans ((ChangesI x0 x1 x2).1), enc .int ((ChangesI x0 x1 x2).2)] := by
  by_cases h0 : (joinedI x0 x1 x2).2.2 = 0
  · obtain ⟨hc, ha, hl0, _, hs, hJ⟩ := joined_zero h0
    have hgs := spools_gs hc ha hl0 hs
    have hal := are_len hc ha
    have hcl := check_len hc
    have hsp := are_spools x2 hc ha
    generalize hL : (spoolsF x0 x1 x2).1 = L at hJ hgs
    have hLl := gs_length hgs
    rw [List.length_map] at hLl
    have hLp : 0 < L.length := List.length_pos_iff.2 (gs_ne hgs fun h => by
      have := congrArg List.length h
      simp at this
      subst this
      simp at hl0)
    have hw : w64 ((L.length : Int) - 1) = ((L.length - 1 : Nat) : Int) := by rw [w64_small (by omega) (by omega)]; omega
    have hcha : ChangesI x0 x1 x2 = (chG x0 x1 x2 (L.take (L.length - 1)) 0, 0) := by
      unfold ChangesI
      rw [hJ]
      simp only [if_true, hw, Int.toNat_natCast]
    have e : f40_L0 x0 x1 x2 (L.length + 1) (L.length + 1) = f40_s0 x0 x1 x2 (f40_L1 x0 x1 x2 (L.length + 1) L.length) := rfl
    have hmain : ∃ z, f40_L0 x0 x1 x2 (L.length + 1) (L.length + 1) = some (.tup [.sl tSpan ⟨z, true, none⟩ (chG x0 x1 x2 (L.take (L.length - 1)) 0), .int 0]) := by
      rw [e]
      unfold f40_s0
      simp only [hJ, hw, Int.toNat_natCast]
      match L, hLl, hLp, hgs, hJ with
      | [c], _, _, _, _ => exact ⟨true, rfl⟩
      | c :: d :: r, hLl, hLp, hgs, hJ =>
        have hg := hgs
        rw [GS] at hg
        obtain ⟨g1, g2, g3, g4, g5⟩ := hg
        rw [List.length_map] at g2
        obtain ⟨c', rfl⟩ := Int.eq_ofNat_of_zero_le (show 0 ≤ c by omega)
        simp only [Int.toNat_natCast] at g5
        have hw1 : w64 ((0 : Int) + (c' : Int)) = (c' : Int) := by rw [w64_small (by omega) (by omega)]; omega
        obtain ⟨z, hz⟩ := f40_loop hJ hsp (by omega) (by omega) (F := x1.map fun k => mostI x0 k x2) (by simp) (((c' : Int) :: d :: r).length + 1) r.length 1 c' [TimeI x0 (x1.take c') x2] ((c' : Int) :: d :: r).length (by simp; omega) (by simp; omega) (by omega) g5 (by simp)
        refine ⟨z, ?_⟩
        have h1 : decide ((0 : Int) < (((((c' : Int) :: d :: r).take (((c' : Int) :: d :: r).length - 1)).length : Nat) : Int)) = true := decide_eq_true (by rw [List.length_take]; simp only [List.length_cons]; omega)
        have h2 : (decide (0 ≤ (c' : Int)) && decide ((c' : Int) ≤ (x1.length : Int))) = true := by simp; omega
        have h3 : (((c' : Int) :: d :: r).take (((c' : Int) :: d :: r).length - 1)).getD 0 (0 : Int) = (c' : Int) := rfl
        have hro : ∀ z : Sp, roomy ([] : List Sp).length [z].length 16 = true := fun z => rfl
        rw [h1, h3, hw1, h2, Int.toNat_natCast, take_spools _ hsp, hro, show w64 ((0 : Int) + 1) = ((1 : Nat) : Int) from w64_small (n := 1) (by omega) (by omega)]
        simp only [decide_true, Bool.and_self, cond_true, List.nil_append, Int.le_refl]
        refine Eq.trans hz ?_
        rw [show ((c' : Int) :: d :: r).take (((c' : Int) :: d :: r).length - 1) = (c' : Int) :: (((c' : Int) :: d :: r).take (((c' : Int) :: d :: r).length - 1)).drop 1 from rfl, chG, hw1, Int.toNat_natCast]
        rfl
    obtain ⟨z, hz⟩ := hmain
    refine ⟨L.length + 1, .tup [.sl tSpan ⟨z, true, none⟩ (chG x0 x1 x2 (L.take (L.length - 1)) 0), .int 0], ?_, ?_⟩
    · unfold f40_T f40_s
      rw [hp, hz, hJ]
      have h1 : (decide (0 ≤ (w64 ((L.length : Int) - 1))) && decide ((w64 ((L.length : Int) - 1)) ≤ (L.length : Int))) = true := by rw [hw]; simp
      simp only [h1, decide_true, Bool.not_true, cond_true, cond_false]
    · rw [hcha]
      simp only [wkAV, wkL, enc]
  · refine ⟨0, .tup [.sl tSpan ⟨true, true, none⟩ [], .int (joinedI x0 x1 x2).2.2], ?_, ?_⟩
    · unfold f40_T f40_s
      rw [hp]
      simp [h0]
    · unfold ChangesI
      simp only [wkAV, wkL, enc, if_neg h0]

end Ev
end Go.Proofs.YtidnikjkpbmhhaaDoor
/- The contracts of how long reels last. -/
set_option linter.unusedVariables false
set_option maxRecDepth 4000
namespace Go.Proofs.YtidnikjkpbmhhaaDoor
namespace Ev

theorem k100 : Good 100 g100 := ⟨ctr_ofN (B := Bs) (X := X100) (ctxOK rfl rfl rfl rfl rfl rfl AllC.nil) Tryd.func100 (fun args r h => by
  unfold g100 at h
  split at h
  · rename_i a0
    split at h
    · rename_i x0 h0
      simp only [Option.some.injEq, Prod.mk.injEq] at h
      obtain ⟨hp, rfl⟩ := h
      obtain ⟨N, r0, q1, q2⟩ := f100_sp x0
      refine ⟨N, r0, ?_, q2⟩
      simp only [wkL, wk_dec h0]
      exact (f100_ev x0 N).trans q1
    · cases h
  · cases h), Tryd.f100, Tryd.func100, by kernel_rfl, by kernel_rfl⟩
theorem k101 : Good 101 g101 := ⟨ctr_ofN (B := Bs) (X := X101) (ctxOK rfl rfl rfl rfl rfl rfl AllC.nil) Tryd.func101 (fun args r h => by
  unfold g101 at h
  split at h
  · rename_i a0
    split at h
    · rename_i x0 h0
      simp only [Option.some.injEq, Prod.mk.injEq] at h
      obtain ⟨hp, rfl⟩ := h
      obtain ⟨N, r0, q1, q2⟩ := f101_sp x0
      refine ⟨N, r0, ?_, q2⟩
      simp only [wkL, wk_dec h0]
      exact (f101_ev x0 N).trans q1
    · cases h
  · cases h), Tryd.f101, Tryd.func101, by kernel_rfl, by kernel_rfl⟩
theorem k99 : Good 99 g99 := ⟨ctr_ofN (B := Bs) (X := X99) (ctxOK rfl rfl rfl rfl rfl rfl AllC.nil) Tryd.func99 (fun args r h => by
  unfold g99 at h
  split at h
  · rename_i a0
    split at h
    · rename_i x0 h0
      simp only [Option.some.injEq, Prod.mk.injEq] at h
      obtain ⟨hp, rfl⟩ := h
      obtain ⟨N, r0, q1, q2⟩ := f99_sp x0 hp
      refine ⟨N, r0, ?_, q2⟩
      simp only [wkL, wk_dec h0]
      exact (f99_ev x0 N).trans q1
    · cases h
  · cases h), Tryd.f99, Tryd.func99, by kernel_rfl, by kernel_rfl⟩
theorem sg94_eq : sg94 [] = some (true, .agg [.fn 100 [] []]) := by kernel_rfl
theorem k94 : Good 94 g94 := ⟨ctr_of_each (fun args r h => by
  unfold g94 at h
  split at h
  · cases h
    exact ⟨sg94, sk94.1, sg94_eq⟩
  · cases h), Tryd.f94, Tryd.func94, by kernel_rfl, by kernel_rfl⟩
theorem sg95_eq : sg95 [] = some (true, .agg [.fn 101 [] []]) := by kernel_rfl
theorem k95 : Good 95 g95 := ⟨ctr_of_each (fun args r h => by
  unfold g95 at h
  split at h
  · cases h
    exact ⟨sg95, sk95.1, sg95_eq⟩
  · cases h), Tryd.f95, Tryd.func95, by kernel_rfl, by kernel_rfl⟩
theorem k93l : Good 93 g93l := ⟨ctr_ofN (B := Bs) (X := X93l) (ctxOK rfl rfl rfl rfl rfl rfl (AllC.cons k80 (AllC.cons k99 (AllC.cons k100 AllC.nil)))) Tryd.func93 (fun args r h => by
  unfold g93l at h
  split at h
  · rename_i a0 t0 d0 a1 a2
    split at h
    · rename_i x0 y0 x1 x2 h0 k0 h1 h2
      simp only [Option.some.injEq, Prod.mk.injEq] at h
      obtain ⟨hp, rfl⟩ := h
      simp only [Bool.and_eq_true, decide_eq_true_eq] at hp
      obtain ⟨e0, hp⟩ := hp
      subst e0
      obtain ⟨N, r0, q1, q2⟩ := f93l_sp x0 x1 x2 hp
      refine ⟨N, r0, ?_, q2⟩
      have hfn : wkAV (.agg [.fn 100 [] []]) = .agg [.fn 100 [] []] := by kernel_rfl
      simp only [wkL, wk_film h0 k0, wk_dec h1, wk_dec h2, hfn]
      exact (f93l_ev x0 x1 x2 N).trans q1
    · cases h
  · cases h), Tryd.f93, Tryd.func93, by kernel_rfl, by kernel_rfl⟩
theorem k93h : Good 93 g93h := ⟨ctr_ofN (B := Bs) (X := X93h) (ctxOK rfl rfl rfl rfl rfl rfl (AllC.cons k80 (AllC.cons k99 (AllC.cons k101 AllC.nil)))) Tryd.func93 (fun args r h => by
  unfold g93h at h
  split at h
  · rename_i a0 t0 d0 a1 a2
    split at h
    · rename_i x0 y0 x1 x2 h0 k0 h1 h2
      simp only [Option.some.injEq, Prod.mk.injEq] at h
      obtain ⟨hp, rfl⟩ := h
      simp only [Bool.and_eq_true, decide_eq_true_eq] at hp
      obtain ⟨e0, hp⟩ := hp
      subst e0
      obtain ⟨N, r0, q1, q2⟩ := f93h_sp x0 x1 x2 hp
      refine ⟨N, r0, ?_, q2⟩
      have hfn : wkAV (.agg [.fn 101 [] []]) = .agg [.fn 101 [] []] := by kernel_rfl
      simp only [wkL, wk_film h0 k0, wk_dec h1, wk_dec h2, hfn]
      exact (f93h_ev x0 x1 x2 N).trans q1
    · cases h
  · cases h), Tryd.f93, Tryd.func93, by kernel_rfl, by kernel_rfl⟩
theorem k93 : Good 93 g93 := ⟨ctr_of_each (fun args r h => by
  unfold g93 at h
  split at h
  · rename_i r' hr
    cases h
    exact ⟨g93l, k93l.1, hr⟩
  · exact ⟨g93h, k93h.1, h⟩), Tryd.f93, Tryd.func93, by kernel_rfl, by kernel_rfl⟩
theorem k82 : Good 82 g82 := ⟨ctr_ofN (B := Bs) (X := X82) (ctxOK rfl rfl rfl rfl rfl rfl (AllC.cons k93 (AllC.cons k94 (AllC.cons k95 AllC.nil)))) Tryd.func82 (fun args r h => by
  unfold g82 at h
  split at h
  · rename_i a0 t0 d0 a1 a2
    split at h
    · rename_i x0 y0 x1 x2 h0 k0 h1 h2
      simp only [Option.some.injEq, Prod.mk.injEq] at h
      obtain ⟨hp, rfl⟩ := h
      simp only [Bool.and_eq_true, decide_eq_true_eq] at hp
      obtain ⟨e0, hp⟩ := hp
      subst e0
      obtain ⟨N, r0, q1, q2⟩ := f82_sp x0 x1 x2 hp
      refine ⟨N, r0, ?_, q2⟩
      simp only [wkL, wk_film h0 k0, wk_dec h1, wk_dec h2]
      exact (f82_ev x0 x1 x2 N).trans q1
    · cases h
  · cases h), Tryd.f82, Tryd.func82, by kernel_rfl, by kernel_rfl⟩
theorem k36 : Good 36 g36 := ⟨ctr_ofN (B := Bs) (X := X36) (ctxOK rfl rfl rfl rfl rfl rfl (AllC.cons k62 (AllC.cons k63 (AllC.cons k68 (AllC.cons k82 AllC.nil))))) Tryd.func36 (fun args r h => by
  unfold g36 at h
  split at h
  · rename_i a0 a1 a2
    split at h
    · rename_i x0 x1 x2 h0 h1 h2
      simp only [Option.some.injEq, Prod.mk.injEq] at h
      obtain ⟨hp, rfl⟩ := h
      obtain ⟨N, r0, q1, q2⟩ := f36_sp x0 x1 x2 hp
      refine ⟨N, r0, ?_, q2⟩
      simp only [wkL, wk_dec h0, wk_dec h1, wk_dec h2]
      exact (f36_ev x0 x1 x2 N).trans q1
    · cases h
  · cases h), Tryd.f36, Tryd.func36, by kernel_rfl, by kernel_rfl⟩
theorem k40 : Good 40 g40 := ⟨ctr_ofN (B := Bs) (X := X40) (ctxOK rfl rfl rfl rfl rfl rfl (AllC.cons k82 (AllC.cons k84 AllC.nil))) Tryd.func40 (fun args r h => by
  unfold g40 at h
  split at h
  · rename_i a0 a1 a2
    split at h
    · rename_i x0 x1 x2 h0 h1 h2
      simp only [Option.some.injEq, Prod.mk.injEq] at h
      obtain ⟨hp, rfl⟩ := h
      obtain ⟨N, r0, q1, q2⟩ := f40_sp x0 x1 x2 hp
      refine ⟨N, r0, ?_, q2⟩
      simp only [wkL, wk_dec h0, wk_dec h1, wk_dec h2]
      exact (f40_ev x0 x1 x2 N).trans q1
    · cases h
  · cases h), Tryd.f40, Tryd.func40, by kernel_rfl, by kernel_rfl⟩

end Ev
end Go.Proofs.YtidnikjkpbmhhaaDoor
/- Lists that are alike, in plain words. -/
namespace Go.Proofs.YtidnikjkpbmhhaaDoor
namespace Ev

def sameOK (a c : List Int) : Bool := lenOK a && lenOK c
def sameOK2 (a c : List Sp) : Bool := lenOK a && lenOK c

end Ev
end Go.Proofs.YtidnikjkpbmhhaaDoor
/- Lists that are alike, as the evaluator walks them. -/
set_option linter.unusedVariables false
set_option maxRecDepth 4000
namespace Go.Proofs.YtidnikjkpbmhhaaDoor
namespace Ev

noncomputable def g46 : List AV → Option (Bool × AV)
  | [a0, a1] =>
    match dec tInts a0, dec .int a1 with
    | some x0, some x1 => some ((lenOK2 x0 x1), enc .int (findI x0 x1))
    | _, _ => none
  | _ => none
noncomputable def g24 : List AV → Option (Bool × AV)
  | [a0, a1] =>
    match dec tInts a0, dec tInts a1 with
    | some x0, some x1 => some ((sameOK x0 x1), enc .bool (sameI x0 x1))
    | _, _ => none
  | _ => none
noncomputable def g42 : List AV → Option (Bool × AV)
  | [a0, a1] =>
    match dec tSpans a0, dec tSpans a1 with
    | some x0, some x1 => some ((sameOK2 x0 x1), enc .bool (sameS x0 x1))
    | _, _ => none
  | _ => none
noncomputable def X46 : Ctx := { T := TT, G := GG, C := [], L := [(2, [2, 3, 4, 6, 7, 8, 9, 10, 11, 12, 13, 14, 15, 16, 17, 18], [0])] }
noncomputable def f46_s0 (a0 : (List Int)) (a1 : Int) (k0 : Int → Option (AV)) (v0_0 : Int) : Option (AV) :=
  bif (decide (v0_0 < (a0.length : Int))) then
    bif decide (0 ≤ v0_0) && decide (v0_0 < (a0.length : Int)) then
      bif (decide ((a0.getD v0_0.toNat (0 : Int)) = a1)) then
        some (.int v0_0)
      else
        k0 (w64 (v0_0 + (1 : Int)))
    else
      none
  else
    some (.int (-1 : Int))

noncomputable def f46_s (a0 : (List Int)) (a1 : Int) (k0 : Int → Option (AV)) : Option (AV) :=
  k0 (0 : Int)

noncomputable def f46_R0 (a0 : (List Int)) (a1 : Int) (N : Nat) (n : Nat) (v0_0 : Int) : Option (AV) :=
  loopN (evC X46 N (sub [(1, 0), (0, 0), (1, 0), (0, 0), (0, 0)] (bodyOf Tryd.f46))) (keepOf X46.L (sub [(1, 0), (0, 0), (1, 0), (0, 0), (0, 0)] (bodyOf Tryd.f46))) n ⟨[.sl .int ⟨false, false, none⟩ a0, .int a1, .poison, .poison, .poison, .int v0_0, .poison, .poison, .poison, .poison, .poison, .poison, .poison, .poison, .poison, .poison, .poison, .poison, .poison], [.none, .none, .none, .none, .none, .none, .none, .none, .none, .none, .none, .none, .none, .none, .none, .none, .none, .none, .none]⟩ (ctxK X46 N [(1, 0), (0, 0), (1, 0), (0, 0)] (bodyOf Tryd.f46) (finK X46 Tryd.f46))

theorem f46_e0 (a0 : (List Int)) (a1 : Int) (N : Nat) (n : Nat) (v0_0 : Int) : f46_R0 a0 a1 N (n + 1) v0_0 = f46_s0 a0 a1 (f46_R0 a0 a1 N n) v0_0 := by kernel_rfl

noncomputable def f46_L0 (a0 : (List Int)) (a1 : Int) (N : Nat) : Nat → Int → Option (AV)
  | 0, _ => none
  | n + 1, v0_0 => f46_s0 a0 a1 (f46_L0 a0 a1 N n) v0_0

theorem f46_q0 (a0 : (List Int)) (a1 : Int) (N : Nat) : ∀ n : Nat, f46_R0 a0 a1 N n = f46_L0 a0 a1 N n
  | 0 => by
    funext v0_0
    rfl
  | n + 1 => by
    funext v0_0
    rw [f46_e0]
    simp only [f46_q0 a0 a1 N n]
    rfl

noncomputable def f46_T (a0 : (List Int)) (a1 : Int) (N : Nat) : Option (AV) := f46_s a0 a1 (f46_L0 a0 a1 N N)

theorem f46_ev (a0 : (List Int)) (a1 : Int) (N : Nat) : evF X46 N Tryd.f46 [enc tInts a0, enc .int a1] = f46_T a0 a1 N := by
  have h : evF X46 N Tryd.f46 [enc tInts a0, enc .int a1] = f46_s a0 a1 (f46_R0 a0 a1 N N) := by kernel_rfl
  rw [h, f46_q0]
  rfl
noncomputable def X24 : Ctx := { T := TT, G := GG, C := [], L := [(3, [2, 3, 4, 7, 8, 9, 10, 11, 12, 13, 14, 15, 16, 17, 18, 19, 20, 21, 22, 23, 24, 25, 26, 27, 28, 29, 30], [0, 1])] }
noncomputable def f24_s0 (a0 : (List Int)) (a1 : (List Int)) (k0 : Bool → Int → Option (AV)) (v0_0 : Bool) (v0_1 : Int) : Option (AV) :=
  bif v0_0 then
    bif (decide (v0_1 < (a0.length : Int))) then
      bif decide (0 ≤ v0_1) && decide (v0_1 < (a0.length : Int)) then
        bif decide (0 ≤ v0_1) && decide (v0_1 < (a1.length : Int)) then
          k0 (decide ((a0.getD v0_1.toNat (0 : Int)) = (a1.getD v0_1.toNat (0 : Int)))) (w64 (v0_1 + (1 : Int)))
        else
          none
      else
        none
    else
      some (.bool v0_0)
  else
    some (.bool v0_0)

noncomputable def f24_s (a0 : (List Int)) (a1 : (List Int)) (k0 : Bool → Int → Option (AV)) : Option (AV) :=
  k0 (decide ((a0.length : Int) = (a1.length : Int))) (0 : Int)

noncomputable def f24_R0 (a0 : (List Int)) (a1 : (List Int)) (N : Nat) (n : Nat) (v0_0 : Bool) (v0_1 : Int) : Option (AV) :=
  loopN (evC X24 N (sub [(1, 0), (1, 0), (0, 0), (1, 0), (0, 0), (0, 0)] (bodyOf Tryd.f24))) (keepOf X24.L (sub [(1, 0), (1, 0), (0, 0), (1, 0), (0, 0), (0, 0)] (bodyOf Tryd.f24))) n ⟨[.sl .int ⟨false, false, none⟩ a0, .sl .int ⟨false, false, none⟩ a1, .poison, .poison, .poison, .bool v0_0, .int v0_1, .poison, .poison, .poison, .poison, .poison, .poison, .poison, .poison, .poison, .poison, .poison, .poison, .poison, .poison, .poison, .poison, .poison, .poison, .poison, .poison, .poison, .poison, .poison, .poison], [.none, .none, .none, .none, .none, .none, .none, .none, .none, .none, .none, .none, .none, .none, .none, .none, .none, .none, .none, .none, .none, .none, .none, .none, .none, .none, .none, .none, .none, .none, .none]⟩ (ctxK X24 N [(1, 0), (1, 0), (0, 0), (1, 0), (0, 0)] (bodyOf Tryd.f24) (finK X24 Tryd.f24))

theorem f24_e0 (a0 : (List Int)) (a1 : (List Int)) (N : Nat) (n : Nat) (v0_0 : Bool) (v0_1 : Int) : f24_R0 a0 a1 N (n + 1) v0_0 v0_1 = f24_s0 a0 a1 (f24_R0 a0 a1 N n) v0_0 v0_1 := by kernel_rfl

noncomputable def f24_L0 (a0 : (List Int)) (a1 : (List Int)) (N : Nat) : Nat → Bool → Int → Option (AV)
  | 0, _, _ => none
  | n + 1, v0_0, v0_1 => f24_s0 a0 a1 (f24_L0 a0 a1 N n) v0_0 v0_1

theorem f24_q0 (a0 : (List Int)) (a1 : (List Int)) (N : Nat) : ∀ n : Nat, f24_R0 a0 a1 N n = f24_L0 a0 a1 N n
  | 0 => by
    funext v0_0
    funext v0_1
    rfl
  | n + 1 => by
    funext v0_0
    funext v0_1
    rw [f24_e0]
    simp only [f24_q0 a0 a1 N n]
    rfl

noncomputable def f24_T (a0 : (List Int)) (a1 : (List Int)) (N : Nat) : Option (AV) := f24_s a0 a1 (f24_L0 a0 a1 N N)

theorem f24_ev (a0 : (List Int)) (a1 : (List Int)) (N : Nat) : evF X24 N Tryd.f24 [enc tInts a0, enc tInts a1] = f24_T a0 a1 N := by
  have h : evF X24 N Tryd.f24 [enc tInts a0, enc tInts a1] = f24_s a0 a1 (f24_R0 a0 a1 N N) := by kernel_rfl
  rw [h, f24_q0]
  rfl
noncomputable def X42 : Ctx := { T := TT, G := GG, C := [], L := [(3, [2, 3, 4, 7, 8, 9, 10, 11, 12, 13, 14, 15, 16, 17, 18, 19, 20, 21, 22, 23, 24, 25, 26, 27, 28, 29, 30], [0, 1])] }
noncomputable def f42_s0 (a0 : (List (Int × Int))) (a1 : (List (Int × Int))) (k0 : Bool → Int → Option (AV)) (v0_0 : Bool) (v0_1 : Int) : Option (AV) :=
  bif v0_0 then
    bif (decide (v0_1 < (a0.length : Int))) then
      bif decide (0 ≤ v0_1) && decide (v0_1 < (a0.length : Int)) then
        bif decide (0 ≤ v0_1) && decide (v0_1 < (a1.length : Int)) then
          k0 ((decide ((a0.getD v0_1.toNat ((0 : Int), (0 : Int))).1 = (a1.getD v0_1.toNat ((0 : Int), (0 : Int))).1)) && ((decide ((a0.getD v0_1.toNat ((0 : Int), (0 : Int))).2 = (a1.getD v0_1.toNat ((0 : Int), (0 : Int))).2)) && true)) (w64 (v0_1 + (1 : Int)))
        else
          none
      else
        none
    else
      some (.bool v0_0)
  else
    some (.bool v0_0)

noncomputable def f42_s (a0 : (List (Int × Int))) (a1 : (List (Int × Int))) (k0 : Bool → Int → Option (AV)) : Option (AV) :=
  k0 (decide ((a0.length : Int) = (a1.length : Int))) (0 : Int)

noncomputable def f42_R0 (a0 : (List (Int × Int))) (a1 : (List (Int × Int))) (N : Nat) (n : Nat) (v0_0 : Bool) (v0_1 : Int) : Option (AV) :=
  loopN (evC X42 N (sub [(1, 0), (1, 0), (0, 0), (1, 0), (0, 0), (0, 0)] (bodyOf Tryd.f42))) (keepOf X42.L (sub [(1, 0), (1, 0), (0, 0), (1, 0), (0, 0), (0, 0)] (bodyOf Tryd.f42))) n ⟨[.sl tSpan ⟨false, false, none⟩ a0, .sl tSpan ⟨false, false, none⟩ a1, .poison, .poison, .poison, .bool v0_0, .int v0_1, .poison, .poison, .poison, .poison, .poison, .poison, .poison, .poison, .poison, .poison, .poison, .poison, .poison, .poison, .poison, .poison, .poison, .poison, .poison, .poison, .poison, .poison, .poison, .poison], [.none, .none, .none, .none, .none, .none, .none, .none, .none, .none, .none, .none, .none, .none, .none, .none, .none, .none, .none, .none, .none, .none, .none, .none, .none, .none, .none, .none, .none, .none, .none]⟩ (ctxK X42 N [(1, 0), (1, 0), (0, 0), (1, 0), (0, 0)] (bodyOf Tryd.f42) (finK X42 Tryd.f42))

theorem f42_e0 (a0 : (List (Int × Int))) (a1 : (List (Int × Int))) (N : Nat) (n : Nat) (v0_0 : Bool) (v0_1 : Int) : f42_R0 a0 a1 N (n + 1) v0_0 v0_1 = f42_s0 a0 a1 (f42_R0 a0 a1 N n) v0_0 v0_1 := by kernel_rfl

noncomputable def f42_L0 (a0 : (List (Int × Int))) (a1 : (List (Int × Int))) (N : Nat) : Nat → Bool → Int → Option (AV)
  | 0, _, _ => none
  | n + 1, v0_0, v0_1 => f42_s0 a0 a1 (f42_L0 a0 a1 N n) v0_0 v0_1

theorem f42_q0 (a0 : (List (Int × Int))) (a1 : (List (Int × Int))) (N : Nat) : ∀ n : Nat, f42_R0 a0 a1 N n = f42_L0 a0 a1 N n
  | 0 => by
    funext v0_0
    funext v0_1
    rfl
  | n + 1 => by
    funext v0_0
    funext v0_1
    rw [f42_e0]
    simp only [f42_q0 a0 a1 N n]
    rfl

noncomputable def f42_T (a0 : (List (Int × Int))) (a1 : (List (Int × Int))) (N : Nat) : Option (AV) := f42_s a0 a1 (f42_L0 a0 a1 N N)

theorem f42_ev (a0 : (List (Int × Int))) (a1 : (List (Int × Int))) (N : Nat) : evF X42 N Tryd.f42 [enc tSpans a0, enc tSpans a1] = f42_T a0 a1 N := by
  have h : evF X42 N Tryd.f42 [enc tSpans a0, enc tSpans a1] = f42_s a0 a1 (f42_R0 a0 a1 N N) := by kernel_rfl
  rw [h, f42_q0]
  rfl

end Ev
end Go.Proofs.YtidnikjkpbmhhaaDoor
/- Lists that are alike: what the walks come to. -/
set_option linter.unusedVariables false
set_option linter.unusedSimpArgs false
set_option maxRecDepth 4000
namespace Go.Proofs.YtidnikjkpbmhhaaDoor
namespace Ev

theorem get_span {l : List Sp} {i : Nat} (h : i < l.length) : l.getD (i : Int).toNat ((0 : Int), (0 : Int)) = l[i] := by simp [List.getD, h]

theorem f46_loop (l : List Int) (hl : lenOK l = true) (a : Int) (N : Nat) : ∀ (m i : Nat), i + m = l.length → f46_L0 l a N (m + 1) i = some (.int (findFrom a (l.drop i) i))
  | 0, i, h => by
    have e : f46_L0 l a N (0 + 1) i = f46_s0 l a (f46_L0 l a N 0) i := rfl
    rw [e]
    unfold f46_s0
    have h1 : decide ((i : Int) < (l.length : Int)) = false := by simp; omega
    rw [h1, List.drop_eq_nil_of_le (by omega)]
    rfl
  | m + 1, i, h => by
    have e : f46_L0 l a N (m + 1 + 1) i = f46_s0 l a (f46_L0 l a N (m + 1)) i := rfl
    rw [e]
    have hlt : i < l.length := by omega
    unfold f46_s0
    have h1 : decide ((i : Int) < (l.length : Int)) = true := by simp; omega
    have h2 : decide (0 ≤ (i : Int)) = true := by simp
    rw [get_int hlt, h1, h2, w64_succ hlt (Nat.le_of_ble_eq_true hl), List.drop_eq_getElem_cons hlt, findFrom, f46_loop l hl a N m (i + 1) (by omega)]
    by_cases c : l[i] = a
    · rw [decide_eq_true c, if_pos c]
      rfl
    · rw [decide_eq_false c, if_neg c]
      rfl
theorem f46_sp (x0 : (List Int)) (x1 : Int) (hp : lenOK2 x0 x1 = true) : ∃ (N : Nat) (r0 : AV), f46_T x0 x1 N = some r0 ∧ wkAV r0 = enc .int (findI x0 x1) :=
  ⟨x0.length + 1, .int (findI x0 x1), f46_loop x0 hp x1 (x0.length + 1) x0.length 0 (by omega), rfl⟩

theorem f24_loop (l0 l1 : List Int) (hl : lenOK l0 = true) (hll : l0.length = l1.length) (N : Nat) : ∀ (m i : Nat) (ok : Bool), i + m = l0.length → ok = decide (l0.take i = l1.take i) → f24_L0 l0 l1 N (m + 1) ok i = some (.bool (decide (l0 = l1)))
  | 0, i, ok, h, hok => by
    have e : f24_L0 l0 l1 N (0 + 1) ok i = f24_s0 l0 l1 (f24_L0 l0 l1 N 0) ok i := rfl
    rw [List.take_of_length_le (by omega), List.take_of_length_le (by omega)] at hok
    rw [e]
    unfold f24_s0
    have h1 : decide ((i : Int) < (l0.length : Int)) = false := by simp; omega
    rw [h1, hok]
    cases decide (l0 = l1) <;> rfl
  | m + 1, i, ok, h, hok => by
    have e : f24_L0 l0 l1 N (m + 1 + 1) ok i = f24_s0 l0 l1 (f24_L0 l0 l1 N (m + 1)) ok i := rfl
    rw [e]
    have hlt : i < l0.length := by omega
    have hlt1 : i < l1.length := by omega
    have h1 : (decide (0 ≤ (i : Int)) && decide ((i : Int) < (l0.length : Int))) = true := by simp; omega
    have h2 : (decide (0 ≤ (i : Int)) && decide ((i : Int) < (l1.length : Int))) = true := by simp; omega
    unfold f24_s0
    cases ok with
    | false =>
      have hne : l0 ≠ l1 := fun he => by
        rw [he] at hok
        simp at hok
      rw [decide_eq_false hne]
      rfl
    | true =>
      have hin := of_decide_eq_true hok.symm
      rw [h1, h2, get_int hlt, get_int hlt1, decide_eq_true (show (i : Int) < (l0.length : Int) by omega), w64_succ hlt (Nat.le_of_ble_eq_true hl)]
      refine f24_loop l0 l1 hl hll N m (i + 1) _ (by omega) ?_
      rw [List.take_succ_eq_append_getElem hlt, List.take_succ_eq_append_getElem hlt1, hin]
      exact decide_eq_decide.2 ⟨fun h => by rw [h], fun h => (List.cons.inj (List.append_cancel_left h)).1⟩
theorem f24_sp (x0 x1 : List Int) (hp : sameOK x0 x1 = true) : ∃ (N : Nat) (r0 : AV), f24_T x0 x1 N = some r0 ∧ wkAV r0 = enc .bool (sameI x0 x1) := by
  simp only [sameOK, Bool.and_eq_true] at hp
  refine ⟨x0.length + 1, .bool (sameI x0 x1), ?_, rfl⟩
  unfold f24_T f24_s sameI
  by_cases hll : x0.length = x1.length
  · rw [decide_eq_true (show (x0.length : Int) = (x1.length : Int) by omega)]
    exact f24_loop x0 x1 hp.1 hll (x0.length + 1) x0.length 0 true (by omega) rfl
  · rw [decide_eq_false (show ¬ (x0.length : Int) = (x1.length : Int) by omega), decide_eq_false (show ¬ x0 = x1 from fun he => hll (by rw [he]))]
    rfl

theorem f42_loop (l0 l1 : List Sp) (hl : lenOK l0 = true) (hll : l0.length = l1.length) (N : Nat) : ∀ (m i : Nat) (ok : Bool), i + m = l0.length → ok = decide (l0.take i = l1.take i) → f42_L0 l0 l1 N (m + 1) ok i = some (.bool (decide (l0 = l1)))
  | 0, i, ok, h, hok => by
    have e : f42_L0 l0 l1 N (0 + 1) ok i = f42_s0 l0 l1 (f42_L0 l0 l1 N 0) ok i := rfl
    rw [List.take_of_length_le (by omega), List.take_of_length_le (by omega)] at hok
    rw [e]
    unfold f42_s0
    have h1 : decide ((i : Int) < (l0.length : Int)) = false := by simp; omega
    rw [h1, hok]
    cases decide (l0 = l1) <;> rfl
  | m + 1, i, ok, h, hok => by
    have e : f42_L0 l0 l1 N (m + 1 + 1) ok i = f42_s0 l0 l1 (f42_L0 l0 l1 N (m + 1)) ok i := rfl
    rw [e]
    have hlt : i < l0.length := by omega
    have hlt1 : i < l1.length := by omega
    have h1 : (decide (0 ≤ (i : Int)) && decide ((i : Int) < (l0.length : Int))) = true := by simp; omega
    have h2 : (decide (0 ≤ (i : Int)) && decide ((i : Int) < (l1.length : Int))) = true := by simp; omega
    unfold f42_s0
    cases ok with
    | false =>
      have hne : l0 ≠ l1 := fun he => by
        rw [he] at hok
        simp at hok
      rw [decide_eq_false hne]
      rfl
    | true =>
      have hin := of_decide_eq_true hok.symm
      rw [h1, h2, get_span hlt, get_span hlt1, decide_eq_true (show (i : Int) < (l0.length : Int) by omega), w64_succ hlt (Nat.le_of_ble_eq_true hl)]
      refine f42_loop l0 l1 hl hll N m (i + 1) _ (by omega) ?_
      rw [List.take_succ_eq_append_getElem hlt, List.take_succ_eq_append_getElem hlt1, hin]
      rw [Bool.and_true, ← Bool.decide_and]
      exact decide_eq_decide.2 ⟨fun h => by rw [Prod.ext h.1 h.2], fun h => by
        have : l0[i] = l1[i] := (List.cons.inj (List.append_cancel_left h)).1
        rw [this]
        exact ⟨rfl, rfl⟩⟩
theorem f42_sp (x0 x1 : List Sp) (hp : sameOK2 x0 x1 = true) : ∃ (N : Nat) (r0 : AV), f42_T x0 x1 N = some r0 ∧ wkAV r0 = enc .bool (sameS x0 x1) := by
  simp only [sameOK2, Bool.and_eq_true] at hp
  refine ⟨x0.length + 1, .bool (sameS x0 x1), ?_, rfl⟩
  unfold f42_T f42_s sameS
  by_cases hll : x0.length = x1.length
  · rw [decide_eq_true (show (x0.length : Int) = (x1.length : Int) by omega)]
    exact f42_loop x0 x1 hp.1 hll (x0.length + 1) x0.length 0 true (by omega) rfl
  · rw [decide_eq_false (show ¬ (x0.length : Int) = (x1.length : Int) by omega), decide_eq_false (show ¬ x0 = x1 from fun he => hll (by rw [he]))]
    rfl

end Ev
end Go.Proofs.YtidnikjkpbmhhaaDoor
/- The contracts of lists that are alike. -/
set_option linter.unusedVariables false
set_option maxRecDepth 4000
namespace Go.Proofs.YtidnikjkpbmhhaaDoor
namespace Ev

theorem k46 : Good 46 g46 := ⟨ctr_ofN (B := Bs) (X := X46) (ctxOK rfl rfl rfl rfl rfl rfl AllC.nil) Tryd.func46 (fun args r h => by
  unfold g46 at h
  split at h
  · rename_i a0 a1
    split at h
    · rename_i x0 x1 h0 h1
      simp only [Option.some.injEq, Prod.mk.injEq] at h
      obtain ⟨hp, rfl⟩ := h
      obtain ⟨N, r0, q1, q2⟩ := f46_sp x0 x1 hp
      refine ⟨N, r0, ?_, q2⟩
      simp only [wkL, wk_dec h0, wk_dec h1]
      exact (f46_ev x0 x1 N).trans q1
    · cases h
  · cases h), Tryd.f46, Tryd.func46, by kernel_rfl, by kernel_rfl⟩
theorem k24 : Good 24 g24 := ⟨ctr_ofN (B := Bs) (X := X24) (ctxOK rfl rfl rfl rfl rfl rfl AllC.nil) Tryd.func24 (fun args r h => by
  unfold g24 at h
  split at h
  · rename_i a0 a1
    split at h
    · rename_i x0 x1 h0 h1
      simp only [Option.some.injEq, Prod.mk.injEq] at h
      obtain ⟨hp, rfl⟩ := h
      obtain ⟨N, r0, q1, q2⟩ := f24_sp x0 x1 hp
      refine ⟨N, r0, ?_, q2⟩
      simp only [wkL, wk_dec h0, wk_dec h1]
      exact (f24_ev x0 x1 N).trans q1
    · cases h
  · cases h), Tryd.f24, Tryd.func24, by kernel_rfl, by kernel_rfl⟩
theorem k42 : Good 42 g42 := ⟨ctr_ofN (B := Bs) (X := X42) (ctxOK rfl rfl rfl rfl rfl rfl AllC.nil) Tryd.func42 (fun args r h => by
  unfold g42 at h
  split at h
  · rename_i a0 a1
    split at h
    · rename_i x0 x1 h0 h1
      simp only [Option.some.injEq, Prod.mk.injEq] at h
      obtain ⟨hp, rfl⟩ := h
      obtain ⟨N, r0, q1, q2⟩ := f42_sp x0 x1 hp
      refine ⟨N, r0, ?_, q2⟩
      simp only [wkL, wk_dec h0, wk_dec h1]
      exact (f42_ev x0 x1 N).trans q1
    · cases h
  · cases h), Tryd.f42, Tryd.func42, by kernel_rfl, by kernel_rfl⟩

end Ev
end Go.Proofs.YtidnikjkpbmhhaaDoor
/- The reference's times, as the evaluator walks them. -/
set_option linter.unusedVariables false
set_option maxRecDepth 4000
namespace Go.Proofs.YtidnikjkpbmhhaaDoor
namespace Ev

noncomputable def g66 : List AV → Option (Bool × AV)
  | [a0, a1] =>
    match dec tRF a0, dec tInts a1 with
    | some x0, some x1 => some ((areOK x0 x1), enc .bool (areReelsB x0 x1))
    | _, _ => none
  | _ => none
noncomputable def g83 : List AV → Option (Bool × AV)
  | [a0, a1, a2] =>
    match dec tRF a0, dec tInts a1, dec .int a2 with
    | some x0, some x1, some x2 => some ((spoolsOK x0 x1 x2), enc tSpan (TimeI x0 x1 x2))
    | _, _, _ => none
  | _ => none
noncomputable def g37 : List AV → Option (Bool × AV)
  | [a0, a1, a2] =>
    match dec tRF a0, dec tInts a1, dec .int a2 with
    | some x0, some x1, some x2 => some ((joinOK x0 x1 x2), .tup [enc tSpan ((LastsI x0 x1 x2).1), enc .int ((LastsI x0 x1 x2).2)])
    | _, _, _ => none
  | _ => none
noncomputable def g39 : List AV → Option (Bool × AV)
  | [a0, a1, a2] =>
    match dec tRF a0, dec tInts a1, dec .int a2 with
    | some x0, some x1, some x2 => some ((joinOK x0 x1 x2), .tup [enc tInts ((SpoolsI x0 x1 x2).1), enc .int ((SpoolsI x0 x1 x2).2)])
    | _, _, _ => none
  | _ => none
noncomputable def g41 : List AV → Option (Bool × AV)
  | [a0, a1, a2] =>
    match dec tRF a0, dec tInts a1, dec .int a2 with
    | some x0, some x1, some x2 => some ((joinOK x0 x1 x2), .tup [enc tSpans ((ChangesI x0 x1 x2).1), enc .int ((ChangesI x0 x1 x2).2)])
    | _, _, _ => none
  | _ => none
noncomputable def X66 : Ctx := { T := TT, G := GG, C := [(46, g46), (55, g55)], L := [(2, [0, 3, 4, 6, 7, 8, 9, 10, 11, 12, 13, 14, 15, 16, 17, 18, 19, 20, 21, 22, 23, 24, 25, 26, 27, 28, 29, 30, 31], [1])] }
noncomputable def f66_s0 (a0 : ((List ((Int × Int) × (Int × Int) × (Int × Int))) × (Int × Int) × (Int × Int) × Int)) (a1 : (List Int)) (k0 : Int → Option (AV)) (v0_0 : Int) : Option (AV) :=
  bif (decide (v0_0 < (a1.length : Int))) then
    bif decide (0 ≤ v0_0) && decide (v0_0 < (a1.length : Int)) then
      bif (!(amid (a1.getD v0_0.toNat (0 : Int)) (0 : Int) (w64 ((a0.1.length : Int) - (1 : Int))))) then
        some (.bool false)
      else
        bif decide (0 ≤ v0_0) && decide (v0_0 < (a1.length : Int)) then
          bif (lenOK2 a1 (a1.getD v0_0.toNat (0 : Int))) then
            bif (!decide ((findI a1 (a1.getD v0_0.toNat (0 : Int))) = v0_0)) then
              some (.bool false)
            else
              k0 (w64 (v0_0 + (1 : Int)))
          else
            none
        else
          none
    else
      none
  else
    some (.bool true)

noncomputable def f66_s (a0 : ((List ((Int × Int) × (Int × Int) × (Int × Int))) × (Int × Int) × (Int × Int) × Int)) (a1 : (List Int)) (k0 : Int → Option (AV)) : Option (AV) :=
  k0 (0 : Int)

noncomputable def f66_R0 (a0 : ((List ((Int × Int) × (Int × Int) × (Int × Int))) × (Int × Int) × (Int × Int) × Int)) (a1 : (List Int)) (N : Nat) (n : Nat) (v0_0 : Int) : Option (AV) :=
  loopN (evC X66 N (sub [(1, 0), (0, 0), (1, 0), (0, 0), (0, 0)] (bodyOf Tryd.f66))) (keepOf X66.L (sub [(1, 0), (0, 0), (1, 0), (0, 0), (0, 0)] (bodyOf Tryd.f66))) n ⟨[.poison, .sl .int ⟨false, false, none⟩ a1, .ref 2 [], .poison, .poison, .int v0_0, .poison, .poison, .poison, .poison, .poison, .poison, .poison, .poison, .poison, .poison, .poison, .poison, .poison, .poison, .poison, .poison, .poison, .poison, .poison, .poison, .poison, .poison, .poison, .poison, .poison, .poison], [.none, .none, .box (enc tRF a0), .none, .none, .none, .none, .none, .none, .none, .none, .none, .none, .none, .none, .none, .none, .none, .none, .none, .none, .none, .none, .none, .none, .none, .none, .none, .none, .none, .none, .none]⟩ (ctxK X66 N [(1, 0), (0, 0), (1, 0), (0, 0)] (bodyOf Tryd.f66) (finK X66 Tryd.f66))

theorem f66_e0 (a0 : ((List ((Int × Int) × (Int × Int) × (Int × Int))) × (Int × Int) × (Int × Int) × Int)) (a1 : (List Int)) (N : Nat) (n : Nat) (v0_0 : Int) : f66_R0 a0 a1 N (n + 1) v0_0 = f66_s0 a0 a1 (f66_R0 a0 a1 N n) v0_0 := by kernel_rfl

noncomputable def f66_L0 (a0 : ((List ((Int × Int) × (Int × Int) × (Int × Int))) × (Int × Int) × (Int × Int) × Int)) (a1 : (List Int)) (N : Nat) : Nat → Int → Option (AV)
  | 0, _ => none
  | n + 1, v0_0 => f66_s0 a0 a1 (f66_L0 a0 a1 N n) v0_0

theorem f66_q0 (a0 : ((List ((Int × Int) × (Int × Int) × (Int × Int))) × (Int × Int) × (Int × Int) × Int)) (a1 : (List Int)) (N : Nat) : ∀ n : Nat, f66_R0 a0 a1 N n = f66_L0 a0 a1 N n
  | 0 => by
    funext v0_0
    rfl
  | n + 1 => by
    funext v0_0
    rw [f66_e0]
    simp only [f66_q0 a0 a1 N n]
    rfl

noncomputable def f66_T (a0 : ((List ((Int × Int) × (Int × Int) × (Int × Int))) × (Int × Int) × (Int × Int) × Int)) (a1 : (List Int)) (N : Nat) : Option (AV) := f66_s a0 a1 (f66_L0 a0 a1 N N)

theorem f66_ev (a0 : ((List ((Int × Int) × (Int × Int) × (Int × Int))) × (Int × Int) × (Int × Int) × Int)) (a1 : (List Int)) (N : Nat) : evF X66 N Tryd.f66 [enc tRF a0, enc tInts a1] = f66_T a0 a1 N := by
  have h : evF X66 N Tryd.f66 [enc tRF a0, enc tInts a1] = f66_s a0 a1 (f66_R0 a0 a1 N N) := by kernel_rfl
  rw [h, f66_q0]
  rfl
noncomputable def X83 : Ctx := { T := TT, G := GG, C := [(53, g53), (81, g81)], L := [(3, [0, 4, 5, 9, 10, 11, 12, 13, 14, 15, 16, 17, 18, 19, 20, 21, 22, 23, 24, 25, 26, 27, 28, 29, 30, 31, 32, 33, 34, 35, 36, 37, 38, 39, 40, 41, 42, 43], [1])] }
noncomputable def f83_s0 (a0 : ((List ((Int × Int) × (Int × Int) × (Int × Int))) × (Int × Int) × (Int × Int) × Int)) (a1 : (List Int)) (a2 : Int) (k0 : Int → (Int × Int) → Option (AV)) (v0_0 : Int) (v0_1 : (Int × Int)) : Option (AV) :=
  bif (decide (v0_0 < (a1.length : Int))) then
    bif decide (0 ≤ v0_0) && decide (v0_0 < (a1.length : Int)) then
      bif (inReels3 a0 (a1.getD v0_0.toNat (0 : Int)) a2) then
        k0 (w64 (v0_0 + (1 : Int))) (mk2 (w64 (v0_1.1 + (w64 (((wornS a0 (a1.getD v0_0.toNat (0 : Int)) a2).1) * a0.2.1.1)))) (w64 (v0_1.2 + (w64 (((wornS a0 (a1.getD v0_0.toNat (0 : Int)) a2).2) * a0.2.1.2)))))
      else
        none
    else
      none
  else
    some (enc tSpan v0_1)

noncomputable def f83_s (a0 : ((List ((Int × Int) × (Int × Int) × (Int × Int))) × (Int × Int) × (Int × Int) × Int)) (a1 : (List Int)) (a2 : Int) (k0 : Int → (Int × Int) → Option (AV)) : Option (AV) :=
  k0 (0 : Int) (mk2 (0 : Int) (0 : Int))

noncomputable def f83_R0 (a0 : ((List ((Int × Int) × (Int × Int) × (Int × Int))) × (Int × Int) × (Int × Int) × Int)) (a1 : (List Int)) (a2 : Int) (N : Nat) (n : Nat) (v0_0 : Int) (v0_1 : (Int × Int)) : Option (AV) :=
  loopN (evC X83 N (sub [(1, 0), (1, 0), (0, 0), (1, 0), (0, 0), (0, 0)] (bodyOf Tryd.f83))) (keepOf X83.L (sub [(1, 0), (1, 0), (0, 0), (1, 0), (0, 0), (0, 0)] (bodyOf Tryd.f83))) n ⟨[.poison, .sl .int ⟨false, false, none⟩ a1, .int a2, .ref 3 [], .poison, .poison, .ref 6 [], .ref 7 [], .int v0_0, .poison, .poison, .poison, .poison, .poison, .poison, .poison, .poison, .poison, .poison, .poison, .poison, .poison, .poison, .poison, .poison, .poison, .poison, .poison, .poison, .poison, .poison, .poison, .poison, .poison, .poison, .poison, .poison, .poison, .poison, .poison, .poison, .poison, .poison, .poison], [.none, .none, .none, .box (enc tRF a0), .none, .none, .box (.agg [.int (0 : Int), .int (0 : Int)]), .box (enc tSpan v0_1), .none, .none, .none, .none, .none, .none, .none, .none, .none, .none, .none, .none, .none, .none, .none, .none, .none, .none, .none, .none, .none, .none, .none, .none, .none, .none, .none, .none, .none, .none, .none, .none, .none, .none, .none, .none]⟩ (ctxK X83 N [(1, 0), (1, 0), (0, 0), (1, 0), (0, 0)] (bodyOf Tryd.f83) (finK X83 Tryd.f83))

theorem f83_e0 (a0 : ((List ((Int × Int) × (Int × Int) × (Int × Int))) × (Int × Int) × (Int × Int) × Int)) (a1 : (List Int)) (a2 : Int) (N : Nat) (n : Nat) (v0_0 : Int) (v0_1 : (Int × Int)) : f83_R0 a0 a1 a2 N (n + 1) v0_0 v0_1 = f83_s0 a0 a1 a2 (f83_R0 a0 a1 a2 N n) v0_0 v0_1 := by kernel_rfl

noncomputable def f83_L0 (a0 : ((List ((Int × Int) × (Int × Int) × (Int × Int))) × (Int × Int) × (Int × Int) × Int)) (a1 : (List Int)) (a2 : Int) (N : Nat) : Nat → Int → (Int × Int) → Option (AV)
  | 0, _, _ => none
  | n + 1, v0_0, v0_1 => f83_s0 a0 a1 a2 (f83_L0 a0 a1 a2 N n) v0_0 v0_1

theorem f83_q0 (a0 : ((List ((Int × Int) × (Int × Int) × (Int × Int))) × (Int × Int) × (Int × Int) × Int)) (a1 : (List Int)) (a2 : Int) (N : Nat) : ∀ n : Nat, f83_R0 a0 a1 a2 N n = f83_L0 a0 a1 a2 N n
  | 0 => by
    funext v0_0
    funext v0_1
    rfl
  | n + 1 => by
    funext v0_0
    funext v0_1
    rw [f83_e0]
    simp only [f83_q0 a0 a1 a2 N n]
    rfl

noncomputable def f83_T (a0 : ((List ((Int × Int) × (Int × Int) × (Int × Int))) × (Int × Int) × (Int × Int) × Int)) (a1 : (List Int)) (a2 : Int) (N : Nat) : Option (AV) := f83_s a0 a1 a2 (f83_L0 a0 a1 a2 N N)

theorem f83_ev (a0 : ((List ((Int × Int) × (Int × Int) × (Int × Int))) × (Int × Int) × (Int × Int) × Int)) (a1 : (List Int)) (a2 : Int) (N : Nat) : evF X83 N Tryd.f83 [enc tRF a0, enc tInts a1, enc .int a2] = f83_T a0 a1 a2 N := by
  have h : evF X83 N Tryd.f83 [enc tRF a0, enc tInts a1, enc .int a2] = f83_s a0 a1 a2 (f83_R0 a0 a1 a2 N N) := by kernel_rfl
  rw [h, f83_q0]
  rfl
noncomputable def X37 : Ctx := { T := TT, G := GG, C := [(55, g55), (65, g65), (66, g66), (83, g83)], L := [] }
noncomputable def f37_s (a0 : ((List ((Int × Int) × (Int × Int) × (Int × Int))) × (Int × Int) × (Int × Int) × Int)) (a1 : (List Int)) (a2 : Int) : Option (AV) :=
  bif (areOK a0 a1) then
    bif (areReelsB a0 a1) then
      bif (askOK a0 (amid a2 (0 : Int) (999 : Int))) then
        bif (!decide ((askedI a0 (amid a2 (0 : Int) (999 : Int))) = (0 : Int))) then
          some (.tup [.agg [.int (0 : Int), .int (0 : Int)], .int (askedI a0 (amid a2 (0 : Int) (999 : Int)))])
        else
          bif (spoolsOK a0 a1 a2) then
            some (.tup [enc tSpan (TimeI a0 a1 a2), .int (0 : Int)])
          else
            none
      else
        none
    else
      bif (askOK a0 false) then
        bif (!decide ((askedI a0 false) = (0 : Int))) then
          some (.tup [.agg [.int (0 : Int), .int (0 : Int)], .int (askedI a0 false)])
        else
          bif (spoolsOK a0 a1 a2) then
            some (.tup [enc tSpan (TimeI a0 a1 a2), .int (0 : Int)])
          else
            none
      else
        none
  else
    none

noncomputable def f37_T (a0 : ((List ((Int × Int) × (Int × Int) × (Int × Int))) × (Int × Int) × (Int × Int) × Int)) (a1 : (List Int)) (a2 : Int) : Option (AV) := f37_s a0 a1 a2

theorem f37_ev (a0 : ((List ((Int × Int) × (Int × Int) × (Int × Int))) × (Int × Int) × (Int × Int) × Int)) (a1 : (List Int)) (a2 : Int) (N : Nat) : evF X37 N Tryd.f37 [enc tRF a0, enc tInts a1, enc .int a2] = f37_T a0 a1 a2 := by
  have h : evF X37 N Tryd.f37 [enc tRF a0, enc tInts a1, enc .int a2] = f37_s a0 a1 a2 := by kernel_rfl
  rw [h]
  rfl
noncomputable def X41 : Ctx := { T := TT, G := GG, C := [(39, g39), (83, g83)], L := [(7, [0, 4, 5, 6, 7, 9, 13, 14, 15, 16, 17, 18, 19, 20, 21, 22, 23, 24, 25, 26, 27, 28, 29, 30, 31, 32, 33, 34, 35, 36, 37, 38, 39, 40, 41, 42, 43, 44, 45], [1, 8])] }
noncomputable def f41_s0 (a0 : ((List ((Int × Int) × (Int × Int) × (Int × Int))) × (Int × Int) × (Int × Int) × Int)) (a1 : (List Int)) (a2 : Int) (k1 : (List (Int × Int)) → Int → Int → Option (AV)) : Option (AV) :=
  bif (decide ((w64 ((0 : Int) + (1 : Int))) < (((SpoolsI a0 a1 a2).1).length : Int))) then
    bif decide (0 ≤ (0 : Int)) && decide ((0 : Int) < (((SpoolsI a0 a1 a2).1).length : Int)) then
      bif decide (0 ≤ (w64 ((0 : Int) + (((SpoolsI a0 a1 a2).1).getD 0 (0 : Int))))) && decide ((w64 ((0 : Int) + (((SpoolsI a0 a1 a2).1).getD 0 (0 : Int)))) ≤ (a1.length : Int)) then
        bif (spoolsOK a0 (a1.take (w64 ((0 : Int) + (((SpoolsI a0 a1 a2).1).getD 0 (0 : Int)))).toNat) a2) then
          bif true && roomy ([] : List (Int × Int)).length [(TimeI a0 (a1.take (w64 ((0 : Int) + (((SpoolsI a0 a1 a2).1).getD 0 (0 : Int)))).toNat) a2)].length 16 then
            k1 (([] : List (Int × Int)) ++ [(TimeI a0 (a1.take (w64 ((0 : Int) + (((SpoolsI a0 a1 a2).1).getD 0 (0 : Int)))).toNat) a2)]) (w64 ((0 : Int) + (((SpoolsI a0 a1 a2).1).getD 0 (0 : Int)))) (w64 ((0 : Int) + (1 : Int)))
          else
            none
        else
          none
      else
        none
    else
      none
  else
    some (.tup [.sl tSpan ⟨true, true, none⟩ ([] : List (Int × Int)), .int (0 : Int)])

noncomputable def f41_s1 (a0 : ((List ((Int × Int) × (Int × Int) × (Int × Int))) × (Int × Int) × (Int × Int) × Int)) (a1 : (List Int)) (a2 : Int) (k1 : (List (Int × Int)) → Int → Int → Option (AV)) (v1_0 : (List (Int × Int))) (v1_1 : Int) (v1_2 : Int) : Option (AV) :=
  bif (decide ((w64 (v1_2 + (1 : Int))) < (((SpoolsI a0 a1 a2).1).length : Int))) then
    bif decide (0 ≤ v1_2) && decide (v1_2 < (((SpoolsI a0 a1 a2).1).length : Int)) then
      bif decide (0 ≤ (w64 (v1_1 + (((SpoolsI a0 a1 a2).1).getD v1_2.toNat (0 : Int))))) && decide ((w64 (v1_1 + (((SpoolsI a0 a1 a2).1).getD v1_2.toNat (0 : Int)))) ≤ (a1.length : Int)) then
        bif (spoolsOK a0 (a1.take (w64 (v1_1 + (((SpoolsI a0 a1 a2).1).getD v1_2.toNat (0 : Int)))).toNat) a2) then
          bif roomy v1_0.length [(TimeI a0 (a1.take (w64 (v1_1 + (((SpoolsI a0 a1 a2).1).getD v1_2.toNat (0 : Int)))).toNat) a2)].length 16 then
            k1 (v1_0 ++ [(TimeI a0 (a1.take (w64 (v1_1 + (((SpoolsI a0 a1 a2).1).getD v1_2.toNat (0 : Int)))).toNat) a2)]) (w64 (v1_1 + (((SpoolsI a0 a1 a2).1).getD v1_2.toNat (0 : Int)))) (w64 (v1_2 + (1 : Int)))
          else
            none
        else
          none
      else
        none
    else
      none
  else
    some (.tup [.sl tSpan ⟨true, false, none⟩ v1_0, .int (0 : Int)])

noncomputable def f41_s (a0 : ((List ((Int × Int) × (Int × Int) × (Int × Int))) × (Int × Int) × (Int × Int) × Int)) (a1 : (List Int)) (a2 : Int) (k0 : Option (AV)) : Option (AV) :=
  bif (joinOK a0 a1 a2) then
    bif (!decide (((SpoolsI a0 a1 a2).2) = (0 : Int))) then
      some (.tup [.sl tSpan ⟨true, true, none⟩ ([] : List (Int × Int)), .int ((SpoolsI a0 a1 a2).2)])
    else
      k0
  else
    none

noncomputable def f41_R0 (a0 : ((List ((Int × Int) × (Int × Int) × (Int × Int))) × (Int × Int) × (Int × Int) × Int)) (a1 : (List Int)) (a2 : Int) (N : Nat) (n : Nat) : Option (AV) :=
  loopN (evC X41 N (sub [(1, 0), (1, 0), (1, 0), (1, 0), (1, 0), (0, 0), (1, 0), (0, 0), (0, 0)] (bodyOf Tryd.f41))) (keepOf X41.L (sub [(1, 0), (1, 0), (1, 0), (1, 0), (1, 0), (0, 0), (1, 0), (0, 0), (0, 0)] (bodyOf Tryd.f41))) n ⟨[.poison, .sl .int ⟨false, false, none⟩ a1, .int a2, .ref 3 [], .poison, .poison, .poison, .poison, .sl .int ⟨false, false, none⟩ ((SpoolsI a0 a1 a2).1), .poison, .sl tSpan ⟨true, true, none⟩ ([] : List (Int × Int)), .int (0 : Int), .int (0 : Int), .poison, .poison, .poison, .poison, .poison, .poison, .poison, .poison, .poison, .poison, .poison, .poison, .poison, .poison, .poison, .poison, .poison, .poison, .poison, .poison, .poison, .poison, .poison, .poison, .poison, .poison, .poison, .poison, .poison, .poison, .poison, .poison, .poison], [.none, .none, .none, .box (enc tRF a0), .none, .none, .none, .none, .none, .none, .none, .none, .none, .none, .none, .none, .none, .none, .none, .none, .none, .none, .none, .none, .none, .none, .none, .none, .none, .none, .none, .none, .none, .none, .none, .none, .none, .none, .none, .none, .none, .none, .none, .none, .none, .none]⟩ (ctxK X41 N [(1, 0), (1, 0), (1, 0), (1, 0), (1, 0), (0, 0), (1, 0), (0, 0)] (bodyOf Tryd.f41) (finK X41 Tryd.f41))

noncomputable def f41_R1 (a0 : ((List ((Int × Int) × (Int × Int) × (Int × Int))) × (Int × Int) × (Int × Int) × Int)) (a1 : (List Int)) (a2 : Int) (N : Nat) (n : Nat) (v1_0 : (List (Int × Int))) (v1_1 : Int) (v1_2 : Int) : Option (AV) :=
  loopN (evC X41 N (sub [(1, 0), (1, 0), (1, 0), (1, 0), (1, 0), (0, 0), (1, 0), (0, 0), (0, 0)] (bodyOf Tryd.f41))) (keepOf X41.L (sub [(1, 0), (1, 0), (1, 0), (1, 0), (1, 0), (0, 0), (1, 0), (0, 0), (0, 0)] (bodyOf Tryd.f41))) n ⟨[.poison, .sl .int ⟨false, false, none⟩ a1, .int a2, .ref 3 [], .poison, .poison, .poison, .poison, .sl .int ⟨false, false, none⟩ ((SpoolsI a0 a1 a2).1), .poison, .sl tSpan ⟨true, false, (some (44, 0))⟩ v1_0, .int v1_1, .int v1_2, .poison, .poison, .poison, .poison, .poison, .poison, .poison, .poison, .poison, .poison, .poison, .poison, .poison, .poison, .poison, .poison, .poison, .poison, .poison, .poison, .poison, .poison, .poison, .poison, .poison, .poison, .poison, .poison, .poison, .poison, .poison, .poison, .poison], [.none, .none, .none, .box (enc tRF a0), .none, .none, .none, .none, .none, .none, .none, .none, .none, .none, .none, .none, .none, .none, .none, .none, .none, .none, .none, .none, .none, .none, .none, .none, .none, .none, .none, .none, .none, .none, .none, .none, .none, .none, .none, .none, .none, .none, .none, .none, .lin 0 true, .none]⟩ (ctxK X41 N [(1, 0), (1, 0), (1, 0), (1, 0), (1, 0), (0, 0), (1, 0), (0, 0)] (bodyOf Tryd.f41) (finK X41 Tryd.f41))

theorem f41_e0 (a0 : ((List ((Int × Int) × (Int × Int) × (Int × Int))) × (Int × Int) × (Int × Int) × Int)) (a1 : (List Int)) (a2 : Int) (N : Nat) (n : Nat) : f41_R0 a0 a1 a2 N (n + 1) = f41_s0 a0 a1 a2 (f41_R1 a0 a1 a2 N n) := by kernel_rfl

theorem f41_e1 (a0 : ((List ((Int × Int) × (Int × Int) × (Int × Int))) × (Int × Int) × (Int × Int) × Int)) (a1 : (List Int)) (a2 : Int) (N : Nat) (n : Nat) (v1_0 : (List (Int × Int))) (v1_1 : Int) (v1_2 : Int) : f41_R1 a0 a1 a2 N (n + 1) v1_0 v1_1 v1_2 = f41_s1 a0 a1 a2 (f41_R1 a0 a1 a2 N n) v1_0 v1_1 v1_2 := by kernel_rfl

noncomputable def f41_L1 (a0 : ((List ((Int × Int) × (Int × Int) × (Int × Int))) × (Int × Int) × (Int × Int) × Int)) (a1 : (List Int)) (a2 : Int) (N : Nat) : Nat → (List (Int × Int)) → Int → Int → Option (AV)
  | 0, _, _, _ => none
  | n + 1, v1_0, v1_1, v1_2 => f41_s1 a0 a1 a2 (f41_L1 a0 a1 a2 N n) v1_0 v1_1 v1_2

noncomputable def f41_L0 (a0 : ((List ((Int × Int) × (Int × Int) × (Int × Int))) × (Int × Int) × (Int × Int) × Int)) (a1 : (List Int)) (a2 : Int) (N : Nat) : Nat → Option (AV)
  | 0 => none
  | n + 1 => f41_s0 a0 a1 a2 (f41_L1 a0 a1 a2 N n)

theorem f41_q1 (a0 : ((List ((Int × Int) × (Int × Int) × (Int × Int))) × (Int × Int) × (Int × Int) × Int)) (a1 : (List Int)) (a2 : Int) (N : Nat) : ∀ n : Nat, f41_R1 a0 a1 a2 N n = f41_L1 a0 a1 a2 N n
  | 0 => by
    funext v1_0
    funext v1_1
    funext v1_2
    rfl
  | n + 1 => by
    funext v1_0
    funext v1_1
    funext v1_2
    rw [f41_e1]
    simp only [f41_q1 a0 a1 a2 N n]
    rfl

theorem f41_q0 (a0 : ((List ((Int × Int) × (Int × Int) × (Int × Int))) × (Int × Int) × (Int × Int) × Int)) (a1 : (List Int)) (a2 : Int) (N : Nat) : ∀ n : Nat, f41_R0 a0 a1 a2 N n = f41_L0 a0 a1 a2 N n
  | 0 => by
    rfl
  | n + 1 => by
    rw [f41_e0]
    simp only [f41_q1 a0 a1 a2 N n]
    rfl

noncomputable def f41_T (a0 : ((List ((Int × Int) × (Int × Int) × (Int × Int))) × (Int × Int) × (Int × Int) × Int)) (a1 : (List Int)) (a2 : Int) (N : Nat) : Option (AV) := f41_s a0 a1 a2 (f41_L0 a0 a1 a2 N N)

theorem f41_ev (a0 : ((List ((Int × Int) × (Int × Int) × (Int × Int))) × (Int × Int) × (Int × Int) × Int)) (a1 : (List Int)) (a2 : Int) (N : Nat) : evF X41 N Tryd.f41 [enc tRF a0, enc tInts a1, enc .int a2] = f41_T a0 a1 a2 N := by
  have h : evF X41 N Tryd.f41 [enc tRF a0, enc tInts a1, enc .int a2] = f41_s a0 a1 a2 (f41_R0 a0 a1 a2 N N) := by kernel_rfl
  rw [h, f41_q0]
  rfl

end Ev
end Go.Proofs.YtidnikjkpbmhhaaDoor
/- The reference's times: what the walks come to. -/
set_option linter.unusedVariables false
set_option linter.unusedSimpArgs false
set_option maxRecDepth 4000
namespace Go.Proofs.YtidnikjkpbmhhaaDoor
namespace Ev

theorem find_pre (k : Int) : ∀ (pre r : List Int) (j : Int), (k ∉ pre → findFrom k (pre ++ k :: r) j = j + pre.length) ∧ (k ∈ pre → findFrom k (pre ++ k :: r) j < j + pre.length)
  | [], r, j => by
    refine ⟨fun _ => ?_, fun h => by simp at h⟩
    rw [List.nil_append, findFrom, if_pos rfl]
    simp
  | x :: pre, r, j => by
    obtain ⟨h1, h2⟩ := find_pre k pre r (j + 1)
    rw [List.cons_append, findFrom]
    refine ⟨fun h => ?_, fun h => ?_⟩
    · rw [List.mem_cons, not_or] at h
      rw [if_neg (fun e => h.1 e.symm), h1 h.2]
      simp only [List.length_cons]
      omega
    · by_cases c : x = k
      · rw [if_pos c]
        simp only [List.length_cons]
        omega
      · rw [if_neg c]
        have := h2 ((List.mem_cons.1 h).resolve_left fun e => c e.symm)
        simp only [List.length_cons]
        omega
theorem find_at {l : List Int} {i : Nat} (hi : i < l.length) : decide (findI l l[i] = (i : Int)) = !decide (l[i] ∈ l.take i) := by
  have e : l = l.take i ++ l[i] :: l.drop (i + 1) := by rw [← List.drop_eq_getElem_cons hi, List.take_append_drop]
  obtain ⟨h1, h2⟩ := find_pre l[i] (l.take i) (l.drop (i + 1)) 0
  rw [← e] at h1 h2
  have hl : (l.take i).length = i := by simp; omega
  rw [hl] at h1 h2
  unfold findI
  by_cases c : l[i] ∈ l.take i
  · have := h2 c
    rw [decide_eq_true c, decide_eq_false (by omega)]
    rfl
  · have := h1 c
    rw [decide_eq_false c, decide_eq_true (by omega)]
    rfl

theorem f66_loop (x : Fi) (l : List Int) (hl : lenOK l = true) (N : Nat) : ∀ (m i : Nat), i + m = l.length → f66_L0 x l N (m + 1) i = some (.bool (areFrom x.1.length (l.take i) (l.drop i)))
  | 0, i, h => by
    have e : f66_L0 x l N (0 + 1) i = f66_s0 x l (f66_L0 x l N 0) i := rfl
    rw [e]
    unfold f66_s0
    have h1 : decide ((i : Int) < (l.length : Int)) = false := by simp; omega
    rw [h1, List.drop_eq_nil_of_le (by omega)]
    rfl
  | m + 1, i, h => by
    have e : f66_L0 x l N (m + 1 + 1) i = f66_s0 x l (f66_L0 x l N (m + 1)) i := rfl
    rw [e]
    have hlt : i < l.length := by omega
    unfold f66_s0
    have h1 : decide ((i : Int) < (l.length : Int)) = true := by simp; omega
    have h2 : decide (0 ≤ (i : Int)) = true := by simp
    have h4 : lenOK2 l l[i] = true := hl
    rw [get_int hlt, h1, h2, h4, find_at hlt, w64_succ hlt (Nat.le_of_ble_eq_true hl), List.drop_eq_getElem_cons hlt, areFrom, f66_loop x l hl N m (i + 1) (by omega), List.take_succ_eq_append_getElem hlt]
    cases amid l[i] 0 (w64 ((x.1.length : Int) - 1)) <;> cases decide (l[i] ∈ l.take i) <;> rfl
theorem f66_sp (x0 : Fi) (x1 : (List Int)) (hp : areOK x0 x1 = true) : ∃ (N : Nat) (r0 : AV), f66_T x0 x1 N = some r0 ∧ wkAV r0 = enc .bool (areReelsB x0 x1) :=
  ⟨x1.length + 1, .bool (areReelsB x0 x1), f66_loop x0 x1 hp (x1.length + 1) x1.length 0 (by omega), rfl⟩

theorem sumI_app : ∀ (l : List Int) (a z : Int), sumI (l ++ [z]) a = w64 (sumI l a + z)
  | [], a, z => rfl
  | x :: l, a, z => by
    rw [List.cons_append, sumI, sumI_app l, sumI]
theorem last_app (b : Bool) (x : Fi) {l : List Int} (n : Int) {i : Nat} (hi : i < l.length) : lastsI b x (l.take (i + 1)) n = w64 (lastsI b x (l.take i) n + w64 (endI b (wornS x l[i] n) * endI b x.2.1)) := by
  rw [List.take_succ_eq_append_getElem hi]
  unfold lastsI sumI0
  rw [lastsL_app]
  exact sumI_app _ _ _

theorem f83_loop (x : Fi) (l : List Int) (n : Int) (hp : spoolsOK x l n = true) (N : Nat) : ∀ (m i : Nat), i + m = l.length → f83_L0 x l n N (m + 1) i (TimeI x (l.take i) n) = some (enc tSpan (TimeI x l n))
  | 0, i, h => by
    have e : f83_L0 x l n N (0 + 1) i (TimeI x (l.take i) n) = f83_s0 x l n (f83_L0 x l n N 0) i (TimeI x (l.take i) n) := rfl
    rw [e, List.take_of_length_le (by omega)]
    unfold f83_s0
    have h1 : decide ((i : Int) < (l.length : Int)) = false := by simp; omega
    rw [h1]
    rfl
  | m + 1, i, h => by
    have e : f83_L0 x l n N (m + 1 + 1) i (TimeI x (l.take i) n) = f83_s0 x l n (f83_L0 x l n N (m + 1)) i (TimeI x (l.take i) n) := rfl
    rw [e]
    have hlt : i < l.length := by omega
    have hl := (spoolsOK_at hp).1
    have h3 : inReels3 x l[i] n = true := (spoolsOK_at hp).2 _ (List.getElem_mem hlt)
    have hn := f83_loop x l n hp N m (i + 1) (by omega)
    have ht : TimeI x (l.take (i + 1)) n = (w64 (lastsI false x (l.take i) n + w64 (endI false (wornS x l[i] n) * endI false x.2.1)), w64 (lastsI true x (l.take i) n + w64 (endI true (wornS x l[i] n) * endI true x.2.1))) := by
      unfold TimeI
      rw [last_app false x n hlt, last_app true x n hlt]
    rw [ht] at hn
    have h1 : (decide (0 ≤ (i : Int)) && decide ((i : Int) < (l.length : Int))) = true := by simp; omega
    unfold f83_s0
    rw [get_int hlt, h1, h3, decide_eq_true (show (i : Int) < (l.length : Int) by omega), w64_succ (i := i) (n := 3000) (by omega) (by omega)]
    exact hn
theorem f83_sp (x0 : Fi) (x1 : List Int) (x2 : Int) (hp : spoolsOK x0 x1 x2 = true) : ∃ (N : Nat) (r0 : AV), f83_T x0 x1 x2 N = some r0 ∧ wkAV r0 = enc tSpan (TimeI x0 x1 x2) :=
  ⟨x1.length + 1, enc tSpan (TimeI x0 x1 x2), f83_loop x0 x1 x2 hp (x1.length + 1) x1.length 0 (by omega), wk_enc _ _⟩

theorem f37_sp (x0 : Fi) (x1 : List Int) (x2 : Int) (hp : joinOK x0 x1 x2 = true) : ∃ (N : Nat) (r0 : AV), f37_T x0 x1 x2 = some r0 ∧ wkAV r0 = .tup [enc tSpan ((LastsI x0 x1 x2).1), enc .int ((LastsI x0 x1 x2).2)] := by
  simp only [joinOK, Bool.and_eq_true] at hp
  obtain ⟨hx, hl⟩ := hp
  have h : ∀ r, askOK x0 r = true := fun _ => hx
  have ha : areOK x0 x1 = true := hl
  have e : f37_T x0 x1 x2 = (bif (!decide (((askedI x0 (areReelsB x0 x1 && amid x2 0 999))) = (0 : Int))) then
        some (.tup [.agg [.int (0 : Int), .int (0 : Int)], .int ((askedI x0 (areReelsB x0 x1 && amid x2 0 999)))])
      else
        bif (spoolsOK x0 x1 x2) then
          some (.tup [enc tSpan (TimeI x0 x1 x2), .int (0 : Int)])
        else
          none) := by
    unfold f37_T f37_s
    simp only [h, ha, cond_true]
    cases areReelsB x0 x1 <;> rfl
  rw [e]
  unfold LastsI
  generalize hr : (areReelsB x0 x1 && amid x2 0 999) = r
  by_cases h0 : askedI x0 r = 0
  · obtain ⟨hc, rfl⟩ := asked_zero h0
    rw [Bool.and_eq_true] at hr
    have hin := are_spools x2 hc hr.1
    exact ⟨0, .tup [enc tSpan (TimeI x0 x1 x2), .int 0], by simp [h0, hin], by simp [wkAV, wkL, wk_enc, wkT_enc, h0, enc]⟩
  · exact ⟨0, .tup [.agg [.int 0, .int 0], .int (askedI x0 r)], by simp [h0], by simp [wkAV, wkL, h0, enc, encT]⟩

theorem f41_loop {x : Fi} {l : List Int} {n : Int} {L : List Int} (hJ : SpoolsI x l n = (L, 0)) (hsp : spoolsOK x l n = true) (hL : L.length ≤ 1000) (hL0 : 0 < L.length) {F : List Int} {S : Int} (hF : F.length = l.length) (N : Nat) : ∀ (m i p : Nat) (out : List Sp) (N' : Nat), i + m + 1 = L.length → m < N' → p ≤ l.length → GS S (L.drop i) (F.drop p) → out.length ≤ i → f41_L1 x l n N N' out p i = some (.tup [.sl tSpan ⟨true, false, none⟩ (out ++ chG x l n ((L.take (L.length - 1)).drop i) p), .int 0])
  | 0, i, p, out, N' + 1, hi, hN, hp, hg, ho => by
    have e : f41_L1 x l n N (N' + 1) out p i = f41_s1 x l n (f41_L1 x l n N N') out p i := rfl
    rw [e]
    unfold f41_s1
    rw [hJ, w64_succ (i := i) (n := 3000) (by omega) (by omega), decide_eq_false (show ¬ ((i + 1 : Nat) : Int) < (L.length : Int) by omega), List.drop_eq_nil_of_le (by simp; omega)]
    simp only [chG, List.append_nil, cond_false]
  | m + 1, i, p, out, N' + 1, hi, hN, hp, hg, ho => by
    have e : f41_L1 x l n N (N' + 1) out p i = f41_s1 x l n (f41_L1 x l n N N') out p i := rfl
    have hlt : i < (L.take (L.length - 1)).length := by simp; omega
    have hlt' : i < L.length := by omega
    have hgt : (L.take (L.length - 1))[i] = L[i] := List.getElem_take
    rw [List.drop_eq_getElem_cons hlt'] at hg
    simp only [GS, List.length_drop] at hg
    obtain ⟨g1, g2, g3, g4, g5⟩ := hg
    have hsl := (spoolsOK_at hsp).1
    obtain ⟨c, hc⟩ := Int.eq_ofNat_of_zero_le (show 0 ≤ L[i] by omega)
    rw [hc] at g1 g2 g5
    simp only [Int.toNat_natCast, List.drop_drop] at g5
    have hw1 : w64 ((p : Int) + (c : Int)) = ((p + c : Nat) : Int) := by rw [w64_small (by omega) (by omega)]; omega
    have hz := f41_loop hJ hsp hL hL0 hF N m (i + 1) (p + c) (out ++ [TimeI x (l.take (p + c)) n]) N' (by omega) (by omega) (by omega) g5 (by simp; omega)
    rw [e]
    unfold f41_s1
    have h1 : (decide (0 ≤ (i : Int)) && decide ((i : Int) < (L.length : Int))) = true := by simp; omega
    have h2 : (decide (0 ≤ ((p + c : Nat) : Int)) && decide (((p + c : Nat) : Int) ≤ (l.length : Int))) = true := by simp; omega
    have hro : ∀ z : Sp, roomy out.length [z].length 16 = true := fun z => by
      unfold roomy
      refine Nat.ble_eq_true_of_le ?_
      simp
      omega
    rw [hJ, w64_succ (i := i) (n := 3000) (by omega) (by omega), get_int hlt', hc, hw1, h1, h2, Int.toNat_natCast, take_spools _ hsp, hro, decide_eq_true (show ((i + 1 : Nat) : Int) < (L.length : Int) by omega)]
    simp only [cond_true]
    rw [List.drop_eq_getElem_cons hlt, hgt, hc, chG, hw1, Int.toNat_natCast]
    rw [hz]
    simp

theorem f41_sp (x0 : Fi) (x1 : List Int) (x2 : Int) (hp : joinOK x0 x1 x2 = true) : ∃ (N : Nat) (r0 : AV), f41_T x0 x1 x2 N = some r0 ∧ wkAV r0 = .tup [enc tSpans ((ChangesI x0 x1 x2).1), enc .int ((ChangesI x0 x1 x2).2)] := by
  by_cases h0 : (joinedI x0 x1 x2).2.2 = 0
  · obtain ⟨hc, ha, hl0, _, hs, hJ⟩ := joined_zero h0
    have hgs := spools_gs hc ha hl0 hs
    have hal := are_len hc ha
    have hcl := check_len hc
    have hsp := are_spools x2 hc ha
    generalize hL : (spoolsF x0 x1 x2).1 = L at hJ hgs
    have hLl := gs_length hgs
    rw [List.length_map] at hLl
    have hLp : 0 < L.length := List.length_pos_iff.2 (gs_ne hgs fun h => by
      have := congrArg List.length h
      simp at this
      subst this
      simp at hl0)
    have hw : w64 ((L.length : Int) - 1) = ((L.length - 1 : Nat) : Int) := by rw [w64_small (by omega) (by omega)]; omega
    have hcha : ChangesI x0 x1 x2 = (chG x0 x1 x2 (L.take (L.length - 1)) 0, 0) := by
      unfold ChangesI
      rw [hJ]
      simp only [if_true, hw, Int.toNat_natCast]
    have hSP : SpoolsI x0 x1 x2 = (L, 0) := by
      unfold SpoolsI
      rw [hJ]
    have e : f41_L0 x0 x1 x2 (L.length + 1) (L.length + 1) = f41_s0 x0 x1 x2 (f41_L1 x0 x1 x2 (L.length + 1) L.length) := rfl
    have hmain : ∃ g, f41_L0 x0 x1 x2 (L.length + 1) (L.length + 1) = some (.tup [.sl tSpan ⟨true, g, none⟩ (chG x0 x1 x2 (L.take (L.length - 1)) 0), .int 0]) := by
      rw [e]
      unfold f41_s0
      rw [hSP]
      match L, hLl, hLp, hgs, hSP with
      | [c], _, _, _, _ => exact ⟨true, rfl⟩
      | c :: d :: r, hLl, hLp, hgs, hSP =>
        have hg := hgs
        rw [GS] at hg
        obtain ⟨g1, g2, g3, g4, g5⟩ := hg
        rw [List.length_map] at g2
        obtain ⟨c', rfl⟩ := Int.eq_ofNat_of_zero_le (show 0 ≤ c by omega)
        simp only [Int.toNat_natCast] at g5
        have hw1 : w64 ((0 : Int) + (c' : Int)) = (c' : Int) := by rw [w64_small (by omega) (by omega)]; omega
        have hz := f41_loop hSP hsp (by omega) (by omega) (F := x1.map fun k => mostI x0 k x2) (by simp) (((c' : Int) :: d :: r).length + 1) r.length 1 c' [TimeI x0 (x1.take c') x2] ((c' : Int) :: d :: r).length (by simp; omega) (by simp; omega) (by omega) g5 (by simp)
        refine ⟨false, ?_⟩
        have h1 : decide (((1 : Nat) : Int) < ((((c' : Int) :: d :: r).length : Nat) : Int)) = true := decide_eq_true (by simp only [List.length_cons]; omega)
        have h1' : (decide (0 ≤ (0 : Int)) && decide ((0 : Int) < ((((c' : Int) :: d :: r).length : Nat) : Int))) = true := by
          rw [decide_eq_true (show (0 : Int) < ((((c' : Int) :: d :: r).length : Nat) : Int) by simp only [List.length_cons]; omega)]
          rfl
        have h2 : (decide (0 ≤ (c' : Int)) && decide ((c' : Int) ≤ (x1.length : Int))) = true := by simp; omega
        have h3 : ((c' : Int) :: d :: r).getD 0 (0 : Int) = (c' : Int) := rfl
        have hro : ∀ z : Sp, roomy ([] : List Sp).length [z].length 16 = true := fun z => rfl
        dsimp only
        rw [h1', h3, hw1, h2, Int.toNat_natCast, take_spools _ hsp, hro, show w64 ((0 : Int) + 1) = ((1 : Nat) : Int) from w64_small (n := 1) (by omega) (by omega), h1]
        simp only [Bool.and_self, cond_true, List.nil_append]
        refine Eq.trans hz ?_
        rw [show ((c' : Int) :: d :: r).take (((c' : Int) :: d :: r).length - 1) = (c' : Int) :: (((c' : Int) :: d :: r).take (((c' : Int) :: d :: r).length - 1)).drop 1 from rfl, chG, hw1, Int.toNat_natCast]
        rfl
    obtain ⟨g, hz⟩ := hmain
    refine ⟨L.length + 1, .tup [.sl tSpan ⟨true, g, none⟩ (chG x0 x1 x2 (L.take (L.length - 1)) 0), .int 0], ?_, ?_⟩
    · unfold f41_T f41_s
      rw [hp, hz, hSP]
      rfl
    · rw [hcha]
      simp only [wkAV, wkL, enc]
  · have hn : (SpoolsI x0 x1 x2).2 = (joinedI x0 x1 x2).2.2 := rfl
    refine ⟨0, .tup [.sl tSpan ⟨true, true, none⟩ [], .int (joinedI x0 x1 x2).2.2], ?_, ?_⟩
    · unfold f41_T f41_s
      rw [hp, hn]
      simp [h0]
    · unfold ChangesI
      simp only [wkAV, wkL, enc, if_neg h0]

end Ev
end Go.Proofs.YtidnikjkpbmhhaaDoor
/- The contracts of the reference's times, but f39 and f41. -/
set_option linter.unusedVariables false
set_option maxRecDepth 4000
namespace Go.Proofs.YtidnikjkpbmhhaaDoor
namespace Ev

theorem k66 : Good 66 g66 := ⟨ctr_ofN (B := Bs) (X := X66) (ctxOK rfl rfl rfl rfl rfl rfl (AllC.cons k46 (AllC.cons k55 AllC.nil))) Tryd.func66 (fun args r h => by
  unfold g66 at h
  split at h
  · rename_i a0 a1
    split at h
    · rename_i x0 x1 h0 h1
      simp only [Option.some.injEq, Prod.mk.injEq] at h
      obtain ⟨hp, rfl⟩ := h
      obtain ⟨N, r0, q1, q2⟩ := f66_sp x0 x1 hp
      refine ⟨N, r0, ?_, q2⟩
      simp only [wkL, wk_dec h0, wk_dec h1]
      exact (f66_ev x0 x1 N).trans q1
    · cases h
  · cases h), Tryd.f66, Tryd.func66, by kernel_rfl, by kernel_rfl⟩
theorem k83 : Good 83 g83 := ⟨ctr_ofN (B := Bs) (X := X83) (ctxOK rfl rfl rfl rfl rfl rfl (AllC.cons k53 (AllC.cons k81 AllC.nil))) Tryd.func83 (fun args r h => by
  unfold g83 at h
  split at h
  · rename_i a0 a1 a2
    split at h
    · rename_i x0 x1 x2 h0 h1 h2
      simp only [Option.some.injEq, Prod.mk.injEq] at h
      obtain ⟨hp, rfl⟩ := h
      obtain ⟨N, r0, q1, q2⟩ := f83_sp x0 x1 x2 hp
      refine ⟨N, r0, ?_, q2⟩
      simp only [wkL, wk_dec h0, wk_dec h1, wk_dec h2]
      exact (f83_ev x0 x1 x2 N).trans q1
    · cases h
  · cases h), Tryd.f83, Tryd.func83, by kernel_rfl, by kernel_rfl⟩
theorem k37 : Good 37 g37 := ⟨ctr_ofN (B := Bs) (X := X37) (ctxOK rfl rfl rfl rfl rfl rfl (AllC.cons k55 (AllC.cons k65 (AllC.cons k66 (AllC.cons k83 AllC.nil))))) Tryd.func37 (fun args r h => by
  unfold g37 at h
  split at h
  · rename_i a0 a1 a2
    split at h
    · rename_i x0 x1 x2 h0 h1 h2
      simp only [Option.some.injEq, Prod.mk.injEq] at h
      obtain ⟨hp, rfl⟩ := h
      obtain ⟨N, r0, q1, q2⟩ := f37_sp x0 x1 x2 hp
      refine ⟨N, r0, ?_, q2⟩
      simp only [wkL, wk_dec h0, wk_dec h1, wk_dec h2]
      exact (f37_ev x0 x1 x2 N).trans q1
    · cases h
  · cases h), Tryd.f37, Tryd.func37, by kernel_rfl, by kernel_rfl⟩

end Ev
end Go.Proofs.YtidnikjkpbmhhaaDoor
/- The reference's spools: the code, piece by piece. -/
set_option linter.unusedVariables false
set_option maxRecDepth 4000
namespace Go.Proofs.YtidnikjkpbmhhaaDoor
namespace Ev
namespace S39

noncomputable def cz0 : Code := sub [(0, 0)] (bodyOf Tryd.f39)
noncomputable def cq : Code := sub [(1, 0), (0, 0)] (bodyOf Tryd.f39)
noncomputable def cr4 : Code := sub [(1, 0), (1, 0), (0, 0)] (bodyOf Tryd.f39)
noncomputable def cr5 : Code := sub [(1, 0), (1, 0), (1, 0), (0, 0)] (bodyOf Tryd.f39)
noncomputable def cr6 : Code := sub [(1, 0), (1, 0), (1, 0), (1, 0), (0, 0), (0, 0)] (bodyOf Tryd.f39)
noncomputable def cz4 : Code := sub [(1, 0), (1, 0), (1, 0), (1, 0), (0, 0), (1, 0), (0, 0), (0, 0), (0, 0), (0, 0)] (bodyOf Tryd.f39)
noncomputable def cz13 : Code := sub [(1, 0), (1, 0), (1, 0), (1, 0), (0, 0), (1, 0), (0, 0), (0, 0), (1, 0), (1, 0)] (bodyOf Tryd.f39)
noncomputable def cz6 : Code := sub [(1, 0), (1, 0), (1, 0), (1, 0), (0, 0), (1, 0), (0, 0), (0, 0), (1, 0), (0, 0), (0, 0), (0, 0)] (bodyOf Tryd.f39)
noncomputable def cz7 : Code := sub [(1, 0), (1, 0), (1, 0), (1, 0), (0, 0), (1, 0), (0, 0), (0, 0), (1, 0), (0, 0), (0, 0), (1, 0), (0, 0), (0, 0)] (bodyOf Tryd.f39)
noncomputable def cz8 : Code := sub [(1, 0), (1, 0), (1, 0), (1, 0), (0, 0), (1, 0), (0, 0), (0, 0), (1, 0), (0, 0), (0, 0), (1, 0), (0, 0), (1, 0), (0, 0)] (bodyOf Tryd.f39)
noncomputable def cz9 : Code := sub [(1, 0), (1, 0), (1, 0), (1, 0), (0, 0), (1, 0), (0, 0), (0, 0), (1, 0), (0, 0), (0, 0), (1, 0), (1, 0), (0, 0), (0, 0)] (bodyOf Tryd.f39)
noncomputable def cz10 : Code := sub [(1, 0), (1, 0), (1, 0), (1, 0), (0, 0), (1, 0), (0, 0), (0, 0), (1, 0), (0, 0), (0, 0), (1, 0), (1, 0), (0, 0), (1, 0), (0, 0)] (bodyOf Tryd.f39)
noncomputable def cz11 : Code := sub [(1, 0), (1, 0), (1, 0), (1, 0), (0, 0), (1, 0), (0, 0), (0, 0), (1, 0), (0, 0), (0, 0), (1, 0), (1, 0), (1, 0), (0, 0)] (bodyOf Tryd.f39)
noncomputable def cz12 : Code := sub [(1, 0), (1, 0), (1, 0), (1, 0), (0, 0), (1, 0), (0, 0), (0, 0), (1, 0), (0, 0), (0, 0), (1, 0), (1, 0), (1, 0), (1, 0)] (bodyOf Tryd.f39)
noncomputable def czE : Code := sub [(1, 0), (1, 0), (1, 0), (1, 0), (1, 0)] (bodyOf Tryd.f39)
noncomputable def czB : Code := .seq cz6 (.seq (.seq cz7 (.cond (.tmp 47) cz8 .skip)) (.seq (.seq cz9 (.cond (.tmp 54) cz10 .skip)) (.seq cz11 cz12)))
noncomputable def czL : Code := .seq (.seq cz4 (.cond (.tmp 33) .skip (.exit 0))) (.seq (.block 1 czB) cz13)
theorem spools_body : Tryd.f39.body = some (.seq cz0 (.seq cq (.seq cr4 (.seq cr5 (.seq (.seq cr6 (.block 0 (.loop czL))) czE))))) := by kernel_rfl
noncomputable def X39 : Ctx := { T := TT, G := GG, C := [(55, g55), (65, g65), (66, g66), (81, g81)], L := [] }
theorem ctx39 : CtxOK Bs.env X39 := ctxOK rfl rfl rfl rfl rfl rfl (AllC.cons k55 (AllC.cons k65 (AllC.cons k66 (AllC.cons k81 AllC.nil))))

end S39
end Ev
end Go.Proofs.YtidnikjkpbmhhaaDoor
/- The reference's spools: walked by hand around the list that is written in place. -/
set_option linter.unusedVariables false
set_option linter.unusedSimpArgs false
set_option maxRecDepth 4000
namespace Go.Proofs.YtidnikjkpbmhhaaDoor
namespace Ev
namespace S39

variable {B : Base} {V0 : Nat → Nat → Prop} {io0 : Io} {W0 : World} {C C' : Cx} {s s' s1 : St} {a a' : Act} {W W' : World} {X : Ctx}

noncomputable def run1 (c : Code) (s : St) : St := ((evC X39 0 c s cap).getD (.norm, ⟨[], []⟩)).2
noncomputable def stp (z : Code) (s : St) : St := (steps X39 (opsOf z).toList (opsOf z).toList s).getD ⟨[], []⟩
noncomputable def kAt (l : List Int) (i : Int) : Int := l.getD i.toNat (0 : Int)

/-! The start. -/
noncomputable def sA (x : Fi) (l : List Int) (n : Int) : St := st0 Tryd.f39 [enc tRF x, enc tInts l, .int n]
noncomputable def sA0 (x : Fi) (l : List Int) (n : Int) : St := stp cz0 (sA x l n)
theorem cz0r : cz0 = .region 0 (opsOf cz0) false := by kernel_rfl
theorem sA0_eq (x : Fi) (l : List Int) (n : Int) : steps X39 (opsOf cz0).toList (opsOf cz0).toList (sA x l n) = some (sA0 x l n) := by kernel_rfl
noncomputable def sR (x : Fi) (l : List Int) (n : Int) : St := ⟨frL (sA0 x l n).objs (sA0 x l n).tmps, List.replicate 72 .none⟩
theorem sR_1 (x : Fi) (l : List Int) (n : Int) : (sR x l n).tmps[1]? = some (enc tInts l) := by kernel_rfl
theorem sR_2 (x : Fi) (l : List Int) (n : Int) : (sR x l n).tmps[2]? = some (.int n) := by kernel_rfl
theorem sR_3 (x : Fi) (l : List Int) (n : Int) : (sR x l n).tmps[3]? = some (.cref (enc tRF x) []) := by kernel_rfl
theorem sR_len (x : Fi) (l : List Int) (n : Int) : (sR x l n).tmps.length = 72 := by kernel_rfl

/-- What is asked first: an early answer, or none. -/
noncomputable def kQ (e : Ex) (s : St) : Option (Option AV) := match e with
  | .norm => some none
  | .ret => (match finK X39 Tryd.f39 .ret s with | some r => some (some r) | none => none)
  | .exit _ => none
noncomputable def eQ (z : Int) : Option (Option AV) := bif (!decide (z = 0)) then some (some (.tup [.sl .int ⟨true, true, none⟩ [], .int z])) else some none
theorem q_eq (x : Fi) (l : List Int) (n : Int) : evC X39 0 cq (sR x l n) kQ =
    bif decide ((0 : Int) < (l.length : Int)) then
      bif areOK x l then
        bif areReelsB x l then
          bif askOK x (amid n 0 999) then eQ (askedI x (amid n 0 999)) else none
        else
          bif askOK x false then eQ (askedI x false) else none
      else none
    else
      bif askOK x false then eQ (askedI x false) else none := by kernel_rfl

/-! One round. -/
noncomputable def pd (x : Fi) (l : List Int) (n : Int) : St := frm 72 [(1, enc tInts l), (2, .int n), (3, .cref (enc tRF x) [])]
noncomputable def pd4 (x : Fi) (l : List Int) (n : Int) : St := run1 cr4 (pd x l n)
noncomputable def pd5 (x : Fi) (l : List Int) (n : Int) : St := run1 cr5 (pd4 x l n)
noncomputable def pd6 (x : Fi) (l : List Int) (n : Int) : St := run1 cr6 (pd5 x l n)
theorem pd4_eq (x : Fi) (l : List Int) (n : Int) : evC X39 0 cr4 (pd x l n) cap = some (.norm, pd4 x l n) := by kernel_rfl
theorem pd5_eq (x : Fi) (l : List Int) (n : Int) : evC X39 0 cr5 (pd4 x l n) cap = some (.norm, pd5 x l n) := by kernel_rfl
theorem pd6_eq (x : Fi) (l : List Int) (n : Int) : evC X39 0 cr6 (pd5 x l n) cap = some (.norm, pd6 x l n) := by kernel_rfl
theorem pd6_9 (x : Fi) (l : List Int) (n : Int) : (pd6 x l n).tmps[9]? = some (.sl .int ⟨true, true, none⟩ []) := by kernel_rfl
theorem pd6_10 (x : Fi) (l : List Int) (n : Int) : (pd6 x l n).tmps[10]? = some (.int 0) := by kernel_rfl
theorem pd6_11 (x : Fi) (l : List Int) (n : Int) : (pd6 x l n).tmps[11]? = some (.int 0) := by kernel_rfl
noncomputable def hd (x : Fi) (l : List Int) (n i room : Int) : St := frm 72 [(1, enc tInts l), (2, .int n), (3, .cref (enc tRF x) []), (10, .int room), (11, .int i)]
noncomputable def md (x : Fi) (l : List Int) (n i room w : Int) : St := frm 72 [(1, enc tInts l), (2, .int n), (3, .cref (enc tRF x) []), (10, .int room), (11, .int i), (12, .int w)]
theorem md_n (x : Fi) (l : List Int) (n i room w : Int) : noneB (md x l n i room w) = true := by kernel_rfl
theorem hd_n (x : Fi) (l : List Int) (n i room : Int) : noneB (hd x l n i room) = true := by kernel_rfl
noncomputable def t4 (x : Fi) (l : List Int) (n i room : Int) : St := run1 cz4 (hd x l n i room)
theorem t4_eq (x : Fi) (l : List Int) (n i room : Int) : evC X39 0 cz4 (hd x l n i room) cap = some (.norm, t4 x l n i room) := by kernel_rfl
theorem t4_c (x : Fi) (l : List Int) (n i room : Int) : (t4 x l n i room).get 33 = .bool (decide (i < l.length)) := by kernel_rfl
theorem t4_n (x : Fi) (l : List Int) (n i room : Int) : noneB (t4 x l n i room) = true := by kernel_rfl
noncomputable def t6 (x : Fi) (l : List Int) (n i room : Int) : St := (((((((((t4 x l n i room).put (some 36) (enc tRF x)).put (some 37) (enc tInts l)).put (some 38) (.int i)).put (some 39) (.cref (.int (kAt l i)) [])).put (some 40) (.int (kAt l i))).put (some 41) (.int n)).put (some 42) (enc tSpan (wornS x (kAt l i) n))).put (some 43) (.int (mostI x (kAt l i) n))).put (some 12) (.int (mostI x (kAt l i) n))
theorem t6_eq (x : Fi) (l : List Int) (n i room : Int) : evC X39 0 cz6 (t4 x l n i room) cap = bif decide (0 ≤ i) && decide (i < l.length) then (bif inReels3 x (kAt l i) n then some (.norm, t6 x l n i room) else none) else none := by kernel_rfl
theorem t6_n (x : Fi) (l : List Int) (n i room : Int) : noneB (t6 x l n i room) = true := by kernel_rfl
theorem t6_12 (x : Fi) (l : List Int) (n i room : Int) : (t6 x l n i room).tmps[12]? = some (.int (mostI x (kAt l i) n)) := by kernel_rfl
noncomputable def t7 (x : Fi) (l : List Int) (n i room : Int) : St := run1 cz7 (t6 x l n i room)
theorem t7_eq (x : Fi) (l : List Int) (n i room : Int) : evC X39 0 cz7 (t6 x l n i room) cap = some (.norm, t7 x l n i room) := by kernel_rfl
theorem t7_c (x : Fi) (l : List Int) (n i room : Int) : (t7 x l n i room).get 47 = .bool (decide (x.2.2.2 < mostI x (kAt l i) n)) := by kernel_rfl
theorem t7_n (x : Fi) (l : List Int) (n i room : Int) : noneB (t7 x l n i room) = true := by kernel_rfl
noncomputable def t8 (x : Fi) (l : List Int) (n i room : Int) : St := run1 cz8 (t7 x l n i room)
theorem t8_eq (x : Fi) (l : List Int) (n i room : Int) : evC X39 0 cz8 (t7 x l n i room) cap = some (.ret, t8 x l n i room) := by kernel_rfl
theorem t8_f (x : Fi) (l : List Int) (n i room : Int) : finK X39 Tryd.f39 .ret (t8 x l n i room) = some (.tup [.sl .int ⟨true, true, none⟩ [], .int 4]) := by kernel_rfl
noncomputable def kB (e : Ex) (s : St) : Option Bool := match e with
  | .norm => (match s.get 54 with | .bool b => (bif noneB s then some b else none) | _ => none)
  | _ => none
theorem t9_eq (x : Fi) (l : List Int) (n i room : Int) : evC X39 0 cz9 (t7 x l n i room) kB = bif decide (i = 0) then some true else some (decide (room < mostI x (kAt l i) n)) := by kernel_rfl

/-! The drawn region: any order. -/
noncomputable def dops : Array Oper := opsOf cz10
theorem cz10_eq : cz10 = .region 13 dops true := by kernel_rfl
theorem dops_0 : (dops[0]?).map (fun o => (o.op, o.dst, o.guard)) = some (.move (.tmp 9), some 55, none) := by kernel_rfl
theorem dops_2 : (dops[2]?).map (fun o => (o.op, o.dst, o.guard)) = some (.call { callee := .builtin .append, args := #[.tmp 55, .tmp 56], argTypes := #[27, 27] }, some 57, none) := by kernel_rfl
theorem dops_5 : (dops[5]?).map (fun o => (o.op, o.dst, o.guard)) = some (.assign (.tmp 57), some 9, none) := by kernel_rfl
def offB (d : Option Nat) : Bool := match d with | some d => decide (d ≠ 3) && (decide (d ≠ 9) && (decide (d ≠ 1) && (decide (d ≠ 55) && decide (d ≠ 57)))) | none => false
noncomputable def dstp (i : Nat) (listed : Array Bool) (s : St) : Option St :=
  if i = 0 then some (s.put (some 55) .poison)
  else if i = 2 then (if (listed[0]?.getD false && !(listed[2]?.getD false)) = true ∧ dec tInts (s.get 56) = some [(0 : Int)] then some (s.put (some 57) .poison) else none)
  else if i = 5 then (if listed[2]?.getD false = true then some (s.put (some 9) .poison) else none)
  else match dops[i]? with
    | some o => (match st1 X39 dops.toList s o with | some s1 => if (offB o.dst && noneB s1) = true then some s1 else none | none => none)
    | none => none
def dfin (listed : Array Bool) : Bool := listed[5]?.getD false
noncomputable def dend (x : Fi) (l : List Int) (n i room w : Int) : St := ((((((md x l n i room w).put (some 55) .poison).put (some 56) (.sl .int ⟨true, true, none⟩ [(0 : Int)])).put (some 57) .poison).put (some 58) (.cref (enc tRF x) [.fld 3 5])).put (some 59) (.int x.2.2.2)).put (some 10) (.int x.2.2.2)
theorem dend_eq (x : Fi) (l : List Int) (n i room w : Int) : collectG .any dops dstp dfin dops.size (Array.replicate dops.size false) (md x l n i room w) = some (List.replicate 30 (dend x l n i room w)) := by kernel_rfl
theorem dend_n (x : Fi) (l : List Int) (n i room w : Int) : noneB (dend x l n i room w) = true := by kernel_rfl
theorem dend_2 (x : Fi) (l : List Int) (n i room w : Int) : (dend x l n i room w).tmps[2]? = some (.int n) := by kernel_rfl
theorem dend_10 (x : Fi) (l : List Int) (n i room w : Int) : (dend x l n i room w).tmps[10]? = some (.int x.2.2.2) := by kernel_rfl
theorem dend_11 (x : Fi) (l : List Int) (n i room w : Int) : (dend x l n i room w).tmps[11]? = some (.int i) := by kernel_rfl
theorem dend_12 (x : Fi) (l : List Int) (n i room w : Int) : (dend x l n i room w).tmps[12]? = some (.int w) := by kernel_rfl

def JD (V : Nat → Nat → Prop) (io1 : Io) (W1 : World) (v3 v13 : Value) (out : List Int) (listed : Array Bool) (s : St) (a : Act) (W : World) : Prop :=
  ∃ C, Sim Bs.env V io1 W1 C s a W ∧ AllNone s ∧ listed.size = 7 ∧ a.tmps.size = 72 ∧ a.tmps[3]? = some v3 ∧ a.tmps[1]? = some v13 ∧
    (listed[2]?.getD false = false → ∃ v, a.tmps[9]? = some v ∧ OwnI W1.heap.size C W v out ∧ (listed[0]?.getD false = true → a.tmps[55]? = some v) ∧ listed[5]?.getD false = false) ∧
    (listed[2]?.getD false = true → ∃ v, a.tmps[57]? = some v ∧ OwnI W1.heap.size C W v (out ++ [0]) ∧ (listed[5]?.getD false = true → a.tmps[9]? = some v))

theorem dstep {V : Nat → Nat → Prop} {io1 : Io} {W1 : World} {v3 v13 : Value} {out : List Int} (hout : out.length ≤ 1000) {Q : Exit → Act → World → Prop} (i : Nat) (listed : Array Bool) (s s1 : St) (h : dstp i listed s = some s1) (a : Act) (W : World) (hJ : JD V io1 W1 v3 v13 out listed s a W) (K : Act → World → Prop) (hK : ∀ a' W', JD V io1 W1 v3 v13 out (listed.setIfInBounds i true) s1 a' W' → K a' W') : wpOpIn (Fr none) 0 Tryd.prog dops Q i K a W := by
  obtain ⟨C, S, hs, hz, hsz, h3, h13, hA, hB⟩ := hJ
  unfold dstp at h
  split at h
  · rename_i e
    subst e
    cases h
    have h0 := dops_0
    cases hq : dops[0]? with
    | none => rw [hq] at h0; cases h0
    | some o =>
      rw [hq] at h0
      simp only [Option.map_some, Option.some.injEq, Prod.mk.injEq] at h0
      obtain ⟨o1, o2, o3⟩ := h0
      refine hand_value hq o3 (v := a.eval (.tmp 9)) (W' := W) (by unfold execOp; rw [o1]; rfl) (hK _ _ ?_)
      rw [o2]
      refine ⟨C, S.put (some 55) (vr_poison _), noneB_put hs _ _, by simpa using hz, by rw [put_size]; exact hsz, by rw [put_other _ _ (by decide)]; exact h3, by rw [put_other _ _ (by decide)]; exact h13, fun hl => ?_, fun hl => ?_⟩
      · rw [set_get (by omega)] at hl
        obtain ⟨v, g1, g2, g3, g4⟩ := hA (by simpa using hl)
        refine ⟨v, by rw [put_other _ _ (by decide)]; exact g1, g2, fun _ => ?_, by rw [set_get (by omega)]; simpa using g4⟩
        rw [put_same _ _ _ (by omega), eval_tmp g1]
      · rw [set_get (by omega)] at hl
        obtain ⟨v, g1, g2, g3⟩ := hB (by simpa using hl)
        refine ⟨v, by rw [put_other _ _ (by decide)]; exact g1, g2, fun h6 => ?_⟩
        rw [set_get (by omega)] at h6
        rw [put_other _ _ (by decide)]
        exact g3 (by simpa using h6)
  · split at h
    · rename_i e
      subst e
      split at h
      · rename_i hc
        cases h
        obtain ⟨hl, hd⟩ := hc
        simp only [Bool.and_eq_true, Bool.not_eq_true'] at hl
        obtain ⟨v, g1, g2, g3, g4⟩ := hA hl.2
        have g3 := g3 hl.1
        have h0 := dops_2
        cases hq : dops[2]? with
        | none => rw [hq] at h0; cases h0
        | some o =>
          rw [hq] at h0
          simp only [Option.map_some, Option.some.injEq, Prod.mk.injEq] at h0
          obtain ⟨o1, o2, o3⟩ := h0
          have hv := vr_wk (S.get 56)
          rw [wk_dec hd] at hv
          obtain ⟨A, c, ev, hr⟩ := VR.sl_inv (E := Bs.env) (t := .int) (f := ⟨false, false, none⟩) (l := [(0 : Int)]) hv
          obtain ⟨q1, q2, _⟩ := rel_row (E := Bs.env) hr
          obtain ⟨ad, ds, e1, e2, e3, e4⟩ := q2 0 0 rfl
          have e2' : ds = [Value.int .i64 0] := e2
          subst e2'
          have hcell := (e4 0 _ rfl).1
          rw [add_zero] at hcell
          simp only [Nat.zero_mul, add_zero] at hcell
          obtain ⟨inf, zv, i1, i2, i3, i4, i5, i6⟩ := elInt
          obtain ⟨v', W', V', hrun, S', hown⟩ := own_append S hs rfl (t := 27) (e := 3) (ty0 := o.type) i6 i1 i2 i3 i4 i5 g2 hcell (by omega)
          refine hand_value hq o3 (v := v') (W' := W') (run_append_call (d := 57) o1 ?_) (hK _ _ ?_)
          · rw [eval_tmp g3, show a.eval (.tmp 56) = .slice (some ad) 1 c from by rw [← e1]; exact ev]
            exact hrun
          · rw [o2]
            refine ⟨_, S'.put (some 57) (vr_poison _), noneB_put hs _ _, by simpa using hz, by rw [put_size]; exact hsz, by rw [put_other _ _ (by decide)]; exact h3, by rw [put_other _ _ (by decide)]; exact h13, fun hl => ?_, fun hl => ?_⟩
            · rw [set_get (by omega)] at hl
              simp at hl
            · refine ⟨v', put_same _ _ _ (by omega), hown, fun h6 => ?_⟩
              rw [set_get (by omega)] at h6
              simp [g4] at h6
      · cases h
    · split at h
      · rename_i e
        subst e
        split at h
        · rename_i hl
          cases h
          obtain ⟨v, g1, g2, g3⟩ := hB hl
          have h0 := dops_5
          cases hq : dops[5]? with
          | none => rw [hq] at h0; cases h0
          | some o =>
            rw [hq] at h0
            simp only [Option.map_some, Option.some.injEq, Prod.mk.injEq] at h0
            obtain ⟨o1, o2, o3⟩ := h0
            refine hand_value hq o3 (v := a.eval (.tmp 57)) (W' := W) (by unfold execOp; rw [o1]; rfl) (hK _ _ ?_)
            rw [o2]
            refine ⟨C, S.put (some 9) (vr_poison _), noneB_put hs _ _, by simpa using hz, by rw [put_size]; exact hsz, by rw [put_other _ _ (by decide)]; exact h3, by rw [put_other _ _ (by decide)]; exact h13, fun hl2 => ?_, fun hl2 => ?_⟩
            · rw [set_get (by omega)] at hl2
              simp [hl] at hl2
            · refine ⟨v, by rw [put_other _ _ (by decide)]; exact g1, g2, fun _ => ?_⟩
              rw [put_same _ _ _ (by omega), eval_tmp g1]
        · cases h
      · rename_i n0 n2 n6
        split at h
        · rename_i o hq
          split at h
          · rename_i s2 hs2
            split at h
            · rename_i hc
              cases h
              simp only [Bool.and_eq_true] at hc
              obtain ⟨hoff, hn⟩ := hc
              refine wpOp_of_step (E := Bs.env) (st1_ok ctx39 hs2) S hq none fun C' a' W' S' hf => hK _ _ ?_
              have hk : ∀ k, k = 3 ∨ k = 9 ∨ k = 1 ∨ k = 55 ∨ k = 57 → a'.tmps[k]? = a.tmps[k]? := fun k hk => hf.tm k fun e => by
                simp only [e, offB, Bool.and_eq_true, decide_eq_true_eq] at hoff
                omega
              have hg : ∀ j, j = 0 ∨ j = 2 ∨ j = 5 → (listed.setIfInBounds i true)[j]?.getD false = listed[j]?.getD false := fun j hj => by
                have : i ≠ j := by omega
                rw [Array.getElem?_setIfInBounds, if_neg this]
              refine ⟨C', S', noneB_ok hn, by simpa using hz, hf.sz.trans hsz, (hk 3 (by omega)).trans h3, (hk 1 (by omega)).trans h13, fun hl => ?_, fun hl => ?_⟩
              · rw [hg 2 (by omega)] at hl
                obtain ⟨v, g1, g2, g3, g4⟩ := hA hl
                exact ⟨v, (hk 9 (by omega)).trans g1, g2.step S hs hf, fun h0 => (hk 55 (by omega)).trans (g3 (by rw [← hg 0 (by omega)]; exact h0)), by rw [hg 5 (by omega)]; exact g4⟩
              · rw [hg 2 (by omega)] at hl
                obtain ⟨v, g1, g2, g3⟩ := hB hl
                exact ⟨v, (hk 57 (by omega)).trans g1, g2.step S hs hf, fun h6 => (hk 9 (by omega)).trans (g3 (by rw [← hg 5 (by omega)]; exact h6))⟩
            · cases h
          · cases h
        · cases h

theorem r10 {V : Nat → Nat → Prop} {io1 : Io} {W1 : World} {v3 v13 v8 : Value} {out : List Int} (hout : out.length ≤ 1000) {x : Fi} {l : List Int} {n i room w : Int} {C : Cx} {a : Act} {W : World} (S : Sim Bs.env V io1 W1 C (md x l n i room w) a W) (hz : a.tmps.size = 72) (h3 : a.tmps[3]? = some v3) (h13 : a.tmps[1]? = some v13) (h8 : a.tmps[9]? = some v8) (ho : OwnI W1.heap.size C W v8 out)
    {Q : Exit → Act → World → Prop} (hQ : ∀ C' a' W', Sim Bs.env V io1 W1 C' (dend x l n i room w) a' W' → a'.tmps.size = 72 → a'.tmps[3]? = some v3 → a'.tmps[1]? = some v13 → ∀ v, a'.tmps[9]? = some v → OwnI W1.heap.size C' W' v (out ++ [0]) → Q .normal a' W') : cz10.wpIn (Fr none) 0 Tryd.prog Q a W := by
  rw [cz10_eq]
  refine wpIn_region_any mixed ?_
  have S' := (S.keep (Keep.drew C.io W) (IoOK.drew S.iok)).2
  have h88 : dops.size = 7 := by kernel_rfl
  refine collectG_ok (JD V io1 W1 v3 v13 out) (fun i listed s s1 h a W hJ K hK => dstep hout (Q := Q) i listed s s1 h a W hJ K hK) _ _ _ _ (dend_eq x l n i room w) _ _ ?_ ?_
  · refine ⟨_, S', fun k y h => List.eq_of_mem_replicate (List.mem_of_getElem? (show (List.replicate 72 Ob.none)[k]? = some y from h)), by simp [h88], hz, h3, h13, fun _ => ⟨v8, h8, ho, fun h => ?_, by simp [h88]⟩, fun h => ?_⟩
    · simp [h88] at h
    · simp [h88] at h
  · intro s' hs' listed' a' W' hf hJ
    have := List.eq_of_mem_replicate hs'
    subst this
    obtain ⟨C', S2, hs, hsz, g1, g2, g3, hA, hB⟩ := hJ
    unfold dfin at hf
    cases h2 : listed'[2]?.getD false with
    | false =>
      obtain ⟨v, q1, q2, q3, q4⟩ := hA h2
      rw [hf] at q4
      cases q4
    | true =>
      obtain ⟨v, q1, q2, q3⟩ := hB h2
      exact hQ C' a' W' S2 g1 g2 g3 v (q3 hf) q2

noncomputable def iops : Array Oper := opsOf cz11
theorem cz11_eq : cz11 = .region 14 iops false := by kernel_rfl
theorem iops_size : iops.size = 9 := by kernel_rfl
theorem iops_0 : (iops[0]?).map (fun o => (o.op, o.dst, o.guard)) = some (.move (.tmp 9), some 60, none) := by kernel_rfl
theorem iops_1 : (iops[1]?).map (fun o => (o.op, o.dst, o.guard)) = some (.move (.tmp 9), some 61, none) := by kernel_rfl
theorem iops_2 : (iops[2]?).map (fun o => (o.op, o.dst, o.guard)) = some (.call { callee := .builtin .len, args := #[.tmp 61], argTypes := #[27] }, some 62, none) := by kernel_rfl
theorem iops_3 : (iops[3]?).map (fun o => (o.op, o.dst, o.guard)) = some (.binOp .sub 3 (.tmp 62) (.const (.int .i64 1)) 3, some 63, none) := by kernel_rfl
theorem iops_4 : (iops[4]?).map (fun o => (o.op, o.dst, o.guard)) = some (.indexAddr 27 (.tmp 60) (.tmp 63), some 64, none) := by kernel_rfl
theorem iops_5 : (iops[5]?).map (fun o => (o.op, o.dst, o.guard)) = some (.load 3 (.tmp 64), some 65, none) := by kernel_rfl
theorem iops_6 : (iops[6]?).map (fun o => (o.op, o.dst, o.guard)) = some (.binOp .add 3 (.tmp 65) (.const (.int .i64 1)) 3, some 66, none) := by kernel_rfl
theorem iops_7 : (iops[7]?).map (fun o => (o.op, o.dst, o.guard)) = some (.indexAddr 27 (.tmp 60) (.tmp 63), some 67, none) := by kernel_rfl
theorem iops_8 : (iops[8]?).map (fun o => (o.op, o.dst, o.guard)) = some (.store 3 (.tmp 67) (.tmp 66), none, none) := by kernel_rfl

theorem r11 {V : Nat → Nat → Prop} {io1 : Io} {W1 : World} {v8 : Value} {out : List Int} (hout : out.length ≤ 2000) (hne : out ≠ []) {s : St} {C : Cx} {a : Act} {W : World} (S : Sim Bs.env V io1 W1 C s a W) (hs : AllNone s) (hz : a.tmps.size = 72) (h8 : a.tmps[9]? = some v8) (ho : OwnI W1.heap.size C W v8 out)
    {Q : Exit → Act → World → Prop} (hQ : ∀ s' a' W', Sim Bs.env V io1 W1 C s' a' W' → AllNone s' → a'.tmps.size = 72 → (∀ k, k < 60 → a'.tmps[k]? = a.tmps[k]?) → OwnI W1.heap.size C W' v8 (incLast out) → Q .normal a' W') : cz11.wpIn (Fr none) 0 Tryd.prog Q a W := by
  have hm := List.length_pos_iff.2 hne
  rcases ho with ⟨_, h⟩ | ⟨b, cs, ty, rfl, h2, h3, h4, h5, h6⟩
  · exact absurd h hne
  obtain ⟨o0, k0, p0, d0, e0⟩ := op_of iops_0
  obtain ⟨o1, k1, p1, d1, e1⟩ := op_of iops_1
  obtain ⟨o2, k2, p2, d2, e2⟩ := op_of iops_2
  obtain ⟨o3, k3, p3, d3, e3⟩ := op_of iops_3
  obtain ⟨o4, k4, p4, d4, e4⟩ := op_of iops_4
  obtain ⟨o5, k5, p5, d5, e5⟩ := op_of iops_5
  obtain ⟨o6, k6, p6, d6, e6⟩ := op_of iops_6
  obtain ⟨o7, k7, p7, d7, e7⟩ := op_of iops_7
  obtain ⟨o8, k8, p8, d8, e8⟩ := op_of iops_8
  obtain ⟨inf, zv, i1, i2, i3, i4, i5, i6⟩ := elInt
  have hti : TiOK Bs 3 ti3 := chkTi_ok rfl chk3
  have hadd : (⟨b, 0, none⟩ : Addr).add (((out.length : Int) - 1).toNat * 1) = ⟨b, out.length - 1, none⟩ := by
    have : ((out.length : Int) - 1).toNat * 1 = out.length - 1 := by omega
    rw [this]
    unfold Addr.add
    split <;> simp_all
  have hcell : W.cell? ⟨b, out.length - 1, none⟩ = some (.int .i64 (out.getLastD 0)) := by
    unfold World.cell?
    simp only [h3]
    simpa using h5 _ _ (last_get hne)
  have hw : w64 ((out.length : Int) - 1) = (out.length : Int) - 1 := w64_small (by omega) (by omega)
  rw [cz11_eq]
  refine wpIn_region ?_
  rw [iops_size, show List.range 9 = [0, 1, 2, 3, 4, 5, 6, 7, 8] from rfl]
  rw [wpOpsIn_cons]
  refine hand_value k0 e0 (v := .slice (some ⟨b, 0, none⟩) out.length cs.size) (W' := W) (by unfold execOp; rw [p0, ← eval_tmp h8]; rfl) ?_
  rw [d0]
  generalize ha1 : a.put (some 60) (.slice (some ⟨b, 0, none⟩) out.length cs.size) = a1
  have S1 : Sim Bs.env V io1 W1 C (s.put (some 60) .poison) a1 W := by rw [← ha1]; exact S.put _ (vr_poison _)
  have z1 : a1.tmps.size = 72 := by rw [← ha1, put_size]; exact hz
  have f1 : a1.tmps[60]? = some (.slice (some ⟨b, 0, none⟩) out.length cs.size) := by rw [← ha1]; exact put_same _ _ _ (by omega)
  have g1 : ∀ k, k < 60 → a1.tmps[k]? = a.tmps[k]? := fun k hk => by rw [← ha1, put_other _ _ (by omega)]
  rw [wpOpsIn_cons]
  refine hand_value k1 e1 (v := .slice (some ⟨b, 0, none⟩) out.length cs.size) (W' := W) (by unfold execOp; rw [p1, ← eval_tmp ((g1 9 (by omega)).trans h8)]; rfl) ?_
  rw [d1]
  generalize ha2 : a1.put (some 61) (.slice (some ⟨b, 0, none⟩) out.length cs.size) = a2
  have S2 : Sim Bs.env V io1 W1 C ((s.put (some 60) .poison).put (some 61) .poison) a2 W := by rw [← ha2]; exact S1.put _ (vr_poison _)
  have z2 : a2.tmps.size = 72 := by rw [← ha2, put_size]; exact z1
  have f2 : a2.tmps[61]? = some (.slice (some ⟨b, 0, none⟩) out.length cs.size) := by rw [← ha2]; exact put_same _ _ _ (by omega)
  have g2 : ∀ k, k < 61 → a2.tmps[k]? = a1.tmps[k]? := fun k hk => by rw [← ha2, put_other _ _ (by omega)]
  rw [wpOpsIn_cons]
  refine hand_value k2 e2 (v := .int .i64 out.length) (W' := W) ?_ ?_
  · unfold execOp
    rw [p2]
    simp only [Sem.run_bind, resolve, Sem.run_pure, Result.andThen_ok, invoke, builtin]
    simp [Builtin.len_, run_underlying i6, eval_tmp f2, goInt]
  rw [d2]
  generalize ha3 : a2.put (some 62) (.int .i64 out.length) = a3
  have S3 : Sim Bs.env V io1 W1 C (((s.put (some 60) .poison).put (some 61) .poison).put (some 62) .poison) a3 W := by rw [← ha3]; exact S2.put _ (vr_poison _)
  have z3 : a3.tmps.size = 72 := by rw [← ha3, put_size]; exact z2
  have f3 : a3.tmps[62]? = some (.int .i64 out.length) := by rw [← ha3]; exact put_same _ _ _ (by omega)
  have g3 : ∀ k, k < 62 → a3.tmps[k]? = a2.tmps[k]? := fun k hk => by rw [← ha3, put_other _ _ (by omega)]
  rw [wpOpsIn_cons]
  refine hand_value k3 e3 (v := .int .i64 ((out.length : Int) - 1)) (W' := W) ?_ ?_
  · unfold execOp
    rw [p3]
    refine run_v ?_
    rw [eval_tmp f3, show a3.eval (.const (.int .i64 1)) = .int .i64 1 from rfl]
    have : (do eqGuard .sub 3 (.tmp 62) (.const (.int .i64 1)) (.int .i64 out.length) (.int .i64 1); binOp .sub 3 (.int .i64 out.length) (.int .i64 1) : Sem Value).run Tryd.prog W = .ok (.int .i64 (w64 ((out.length : Int) - 1))) W := rfl
    rw [this, hw]
  rw [d3]
  generalize ha4 : a3.put (some 63) (.int .i64 ((out.length : Int) - 1)) = a4
  have S4 : Sim Bs.env V io1 W1 C ((((s.put (some 60) .poison).put (some 61) .poison).put (some 62) .poison).put (some 63) .poison) a4 W := by rw [← ha4]; exact S3.put _ (vr_poison _)
  have z4 : a4.tmps.size = 72 := by rw [← ha4, put_size]; exact z3
  have f4 : a4.tmps[63]? = some (.int .i64 ((out.length : Int) - 1)) := by rw [← ha4]; exact put_same _ _ _ (by omega)
  have g4 : ∀ k, k < 63 → a4.tmps[k]? = a3.tmps[k]? := fun k hk => by rw [← ha4, put_other _ _ (by omega)]
  have c38 : a4.tmps[60]? = some (.slice (some ⟨b, 0, none⟩) out.length cs.size) := by rw [g4 _ (by omega), g3 _ (by omega), g2 _ (by omega)]; exact f1
  rw [wpOpsIn_cons]
  refine hand_value k4 e4 (v := .pointer (some ⟨b, out.length - 1, none⟩)) (W' := W) ?_ ?_
  · unfold execOp
    rw [p4]
    refine run_v ?_
    rw [eval_tmp c38, eval_tmp f4, ← hadd]
    simp [Instr.indexAt, asIntOf, run_underlying i6, run_sizeOf' (E := Bs.env) i1, i3, show (0 : Int) ≤ (out.length : Int) - 1 by omega, show (out.length : Int) - 1 < out.length by omega]
    intro h
    omega
  rw [d4]
  generalize ha5 : a4.put (some 64) (.pointer (some ⟨b, out.length - 1, none⟩)) = a5
  have S5 : Sim Bs.env V io1 W1 C (((((s.put (some 60) .poison).put (some 61) .poison).put (some 62) .poison).put (some 63) .poison).put (some 64) .poison) a5 W := by rw [← ha5]; exact S4.put _ (vr_poison _)
  have z5 : a5.tmps.size = 72 := by rw [← ha5, put_size]; exact z4
  have f5 : a5.tmps[64]? = some (.pointer (some ⟨b, out.length - 1, none⟩)) := by rw [← ha5]; exact put_same _ _ _ (by omega)
  have g5 : ∀ k, k < 64 → a5.tmps[k]? = a4.tmps[k]? := fun k hk => by rw [← ha5, put_other _ _ (by omega)]
  rw [wpOpsIn_cons]
  refine hand_value k5 e5 (v := .int .i64 (out.getLastD 0)) (W' := W) ?_ ?_
  · unfold execOp
    rw [p5]
    refine run_v ?_
    rw [eval_tmp f5]
    simp only [Instr.loadAt, Instr.sureAddr, Sem.run_bind, Sem.run_pure, Result.andThen_ok]
    exact run_loadVar' (E := Bs.env) hti (v := .int (out.getLastD 0)) (cs := [.int .i64 (out.getLastD 0)]) rfl rfl rfl (fun j u hu => by
      cases j with
      | zero => cases hu; rw [add_zero]; exact hcell
      | succ j => simp at hu) (fun _ => rfl)
  rw [d5]
  generalize ha6 : a5.put (some 65) (.int .i64 (out.getLastD 0)) = a6
  have S6 : Sim Bs.env V io1 W1 C ((((((s.put (some 60) .poison).put (some 61) .poison).put (some 62) .poison).put (some 63) .poison).put (some 64) .poison).put (some 65) .poison) a6 W := by rw [← ha6]; exact S5.put _ (vr_poison _)
  have z6 : a6.tmps.size = 72 := by rw [← ha6, put_size]; exact z5
  have f6 : a6.tmps[65]? = some (.int .i64 (out.getLastD 0)) := by rw [← ha6]; exact put_same _ _ _ (by omega)
  have g6 : ∀ k, k < 65 → a6.tmps[k]? = a5.tmps[k]? := fun k hk => by rw [← ha6, put_other _ _ (by omega)]
  rw [wpOpsIn_cons]
  refine hand_value k6 e6 (v := .int .i64 (w64 (out.getLastD 0 + 1))) (W' := W) ?_ ?_
  · unfold execOp
    rw [p6]
    refine run_v ?_
    rw [eval_tmp f6, show a6.eval (.const (.int .i64 1)) = .int .i64 1 from rfl]
    rfl
  rw [d6]
  generalize ha7 : a6.put (some 66) (.int .i64 (w64 (out.getLastD 0 + 1))) = a7
  have S7 : Sim Bs.env V io1 W1 C (((((((s.put (some 60) .poison).put (some 61) .poison).put (some 62) .poison).put (some 63) .poison).put (some 64) .poison).put (some 65) .poison).put (some 66) .poison) a7 W := by rw [← ha7]; exact S6.put _ (vr_poison _)
  have z7 : a7.tmps.size = 72 := by rw [← ha7, put_size]; exact z6
  have f7 : a7.tmps[66]? = some (.int .i64 (w64 (out.getLastD 0 + 1))) := by rw [← ha7]; exact put_same _ _ _ (by omega)
  have g7 : ∀ k, k < 66 → a7.tmps[k]? = a6.tmps[k]? := fun k hk => by rw [← ha7, put_other _ _ (by omega)]
  have c38' : a7.tmps[60]? = some (.slice (some ⟨b, 0, none⟩) out.length cs.size) := by rw [g7 _ (by omega), g6 _ (by omega), g5 _ (by omega)]; exact c38
  have c41 : a7.tmps[63]? = some (.int .i64 ((out.length : Int) - 1)) := by rw [g7 _ (by omega), g6 _ (by omega), g5 _ (by omega)]; exact f4
  rw [wpOpsIn_cons]
  refine hand_value k7 e7 (v := .pointer (some ⟨b, out.length - 1, none⟩)) (W' := W) ?_ ?_
  · unfold execOp
    rw [p7]
    refine run_v ?_
    rw [eval_tmp c38', eval_tmp c41, ← hadd]
    simp [Instr.indexAt, asIntOf, run_underlying i6, run_sizeOf' (E := Bs.env) i1, i3, show (0 : Int) ≤ (out.length : Int) - 1 by omega, show (out.length : Int) - 1 < out.length by omega]
    intro h
    omega
  rw [d7]
  generalize ha8 : a7.put (some 67) (.pointer (some ⟨b, out.length - 1, none⟩)) = a8
  have S8 : Sim Bs.env V io1 W1 C ((((((((s.put (some 60) .poison).put (some 61) .poison).put (some 62) .poison).put (some 63) .poison).put (some 64) .poison).put (some 65) .poison).put (some 66) .poison).put (some 67) .poison) a8 W := by rw [← ha8]; exact S7.put _ (vr_poison _)
  have z8 : a8.tmps.size = 72 := by rw [← ha8, put_size]; exact z7
  have f8 : a8.tmps[67]? = some (.pointer (some ⟨b, out.length - 1, none⟩)) := by rw [← ha8]; exact put_same _ _ _ (by omega)
  have g8 : ∀ k, k < 67 → a8.tmps[k]? = a7.tmps[k]? := fun k hk => by rw [← ha8, put_other _ _ (by omega)]
  have c44 : a8.tmps[66]? = some (.int .i64 (w64 (out.getLastD 0 + 1))) := by rw [g8 _ (by omega)]; exact f7
  have hst := run_storeVar' (E := Bs.env) (C := C) (W := W) hti (u := .int (w64 (out.getLastD 0 + 1))) (ds := [.int .i64 (w64 (out.getLastD 0 + 1))]) (b := b) (off := out.length - 1) rfl (by simp [Rel]) rfl h3 (by simp; omega)
  rw [wpOpsIn_cons]
  refine hand_skip k8 e8 (W' := W.setRow b (cs.toList.take (out.length - 1) ++ [Value.int .i64 (w64 (out.getLastD 0 + 1))] ++ cs.toList.drop (out.length - 1 + 1)).toArray) ?_ ?_
  · unfold execOp
    rw [p8]
    simp only [Instr.storeAt, eval_tmp f8, eval_tmp c44, Instr.sureAddr, Sem.run_bind, Sem.run_pure, Result.andThen_ok]
    have hst' : (storeVar 3 ⟨b, out.length - 1, none⟩ (.int .i64 (w64 (out.getLastD 0 + 1)))).run Tryd.prog W = .ok () (W.setRow b (cs.toList.take (out.length - 1) ++ [Value.int .i64 (w64 (out.getLastD 0 + 1))] ++ cs.toList.drop (out.length - 1 + 1)).toArray) := hst
    rw [hst']
    rfl
  rw [d8]
  have hsA : AllNone ((((((((s.put (some 60) .poison).put (some 61) .poison).put (some 62) .poison).put (some 63) .poison).put (some 64) .poison).put (some 65) .poison).put (some 66) .poison).put (some 67) .poison) := hs
  have S9 := S8.volWrite hsA (cs' := (cs.toList.take (out.length - 1) ++ [Value.int .i64 (w64 (out.getLastD 0 + 1))] ++ cs.toList.drop (out.length - 1 + 1)).toArray) h2 h3 h6
  refine hQ _ a8 _ S9 hsA z8 (fun k hk => by rw [g8 _ (by omega), g7 _ (by omega), g6 _ (by omega), g5 _ (by omega), g4 _ (by omega), g3 _ (by omega), g2 _ (by omega), g1 _ hk]) (.inr ⟨b, _, ty, ?_, h2, setRow_heap W b cs _ ty _ h3, ?_, fun i y hy => ?_, h6⟩)
  · rw [incLast_len hne]
    congr 1
    simp
    omega
  · rw [incLast_len hne]
    simp
    omega
  · rw [List.getElem?_toArray, List.append_assoc, List.getElem?_append]
    rcases incLast_get hne hy with ⟨q1, q2⟩ | ⟨q1, q2⟩
    · rw [if_pos (by simp; omega), List.getElem?_take, if_pos q1]
      simpa using h5 i y q2
    · rw [if_neg (by simp; omega)]
      have : i - (cs.toList.take (out.length - 1)).length = 0 := by simp; omega
      rw [this, q2]
      rfl



end S39
end Ev
end Go.Proofs.YtidnikjkpbmhhaaDoor
/- The reference's spools: one round, all rounds, the contract. -/
set_option linter.unusedVariables false
set_option linter.unusedSimpArgs false
set_option maxRecDepth 4000
namespace Go.Proofs.YtidnikjkpbmhhaaDoor
namespace Ev
namespace S39

noncomputable def u12 (x : Fi) (l : List Int) (n i room w : Int) : St := run1 cz12 (md x l n i room w)
theorem u12_eq (x : Fi) (l : List Int) (n i room w : Int) : evC X39 0 cz12 (md x l n i room w) cap = some (.norm, u12 x l n i room w) := by kernel_rfl
theorem u12_n (x : Fi) (l : List Int) (n i room w : Int) : noneB (u12 x l n i room w) = true := by kernel_rfl
noncomputable def u13 (x : Fi) (l : List Int) (n i room w : Int) : St := run1 cz13 (u12 x l n i room w)
theorem u13_eq (x : Fi) (l : List Int) (n i room w : Int) : evC X39 0 cz13 (u12 x l n i room w) cap = some (.norm, u13 x l n i room w) := by kernel_rfl
theorem u13_10 (x : Fi) (l : List Int) (n i room w : Int) : (u13 x l n i room w).tmps[10]? = some (.int (w64 (room - w))) := by kernel_rfl
theorem u13_11 (x : Fi) (l : List Int) (n i room w : Int) : (u13 x l n i room w).tmps[11]? = some (.int (w64 (i + 1))) := by kernel_rfl

def offs (c : Code) : Bool := memN (dsts c) 1 || (memN (dsts c) 2 || (memN (dsts c) 3 || memN (dsts c) 9))
theorem offs_ok {c : Code} (h : offs c = false) : memN (dsts c) 1 = false ∧ memN (dsts c) 2 = false ∧ memN (dsts c) 3 = false ∧ memN (dsts c) 9 = false := by
  simpa [offs, Bool.or_eq_false_iff] using h
theorem o4 : offs cz4 = false := by kernel_rfl
theorem o6 : offs cz6 = false := by kernel_rfl
theorem o7 : offs cz7 = false := by kernel_rfl
theorem o9 : offs cz9 = false := by kernel_rfl
theorem o12 : offs cz12 = false := by kernel_rfl
theorem o13 : offs cz13 = false := by kernel_rfl
theorem m4 : (memN (dsts cz4) 10 || (memN (dsts cz4) 11)) = false := by kernel_rfl
theorem m6 : (memN (dsts cz6) 10 || (memN (dsts cz6) 11)) = false := by kernel_rfl
theorem m7 : (memN (dsts cz7) 10 || (memN (dsts cz7) 11 || memN (dsts cz7) 12)) = false := by kernel_rfl
theorem m9 : (memN (dsts cz9) 10 || (memN (dsts cz9) 11 || memN (dsts cz9) 12)) = false := by kernel_rfl

section
variable {V : Nat → Nat → Prop} {io1 : Io} {W1 : World} {v3 v1 : Value} {x : Fi} {l : List Int} {n : Int}

/-- The slots that stay. -/
structure Kp (v3 v1 : Value) (n room i : Int) (v9 : Value) (a : Act) : Prop where
  sz : a.tmps.size = 72
  h1 : a.tmps[1]? = some v1
  h2 : a.tmps[2]? = some (.int .i64 n)
  h3 : a.tmps[3]? = some v3
  h9 : a.tmps[9]? = some v9
  h10 : a.tmps[10]? = some (.int .i64 room)
  h11 : a.tmps[11]? = some (.int .i64 i)

theorem Kp.keep {room i : Int} {v9 : Value} {M : Nat → Prop} {c : Code} {a a' : Act} {C C' : Cx} {W W' : World} (h : Kp v3 v1 n room i v9 a) (f : Fm M (fun k => k ∈ dsts c) a a' C C' W W') (ho : offs c = false) (hm : memN (dsts c) 10 = false ∧ memN (dsts c) 11 = false) : Kp v3 v1 n room i v9 a' := by
  obtain ⟨o1, o2, o3, o9⟩ := offs_ok ho
  exact ⟨f.sz.trans h.sz, f.keep o1 h.h1, f.keep o2 h.h2, f.keep o3 h.h3, f.keep o9 h.h9, f.keep hm.1 h.h10, f.keep hm.2 h.h11⟩

theorem hd_of (hb : BaseOK Bs V io1 W1) (hv3 : VR TRr (baseCx V io1) W1 (.cref (enc tRF x) []) v3) (hv1 : VR TRr (baseCx V io1) W1 (enc tInts l) v1) {s : St} {C : Cx} {a : Act} {W : World} (S : Sim Bs.env V io1 W1 C s a W) {i room : Int} {v9 : Value} (h : Kp v3 v1 n room i v9 a) : Sim Bs.env V io1 W1 (vCx V W1 W C.io) (hd x l n i room) a W := by
  refine frm_sim hb S h.sz _ fun k v hk => ?_
  have hm := findA_mem hk
  simp only [List.mem_cons, Prod.mk.injEq, List.not_mem_nil, or_false] at hm
  rcases hm with ⟨rfl, rfl⟩ | ⟨rfl, rfl⟩ | ⟨rfl, rfl⟩ | ⟨rfl, rfl⟩ | ⟨rfl, rfl⟩
  · exact ⟨_, h.h1, fun hle => hv1.mono Bs.hT hle⟩
  · exact ⟨_, h.h2, fun _ => vr_int (E := Bs.env) _⟩
  · exact ⟨_, h.h3, fun hle => hv3.mono Bs.hT hle⟩
  · exact ⟨_, h.h10, fun _ => vr_int (E := Bs.env) _⟩
  · exact ⟨_, h.h11, fun _ => vr_int (E := Bs.env) _⟩
theorem md_of (hb : BaseOK Bs V io1 W1) (hv3 : VR TRr (baseCx V io1) W1 (.cref (enc tRF x) []) v3) (hv1 : VR TRr (baseCx V io1) W1 (enc tInts l) v1) {s : St} {C : Cx} {a : Act} {W : World} (S : Sim Bs.env V io1 W1 C s a W) {i room w : Int} {v9 : Value} (h : Kp v3 v1 n room i v9 a) (h12 : a.tmps[12]? = some (.int .i64 w)) : Sim Bs.env V io1 W1 (vCx V W1 W C.io) (md x l n i room w) a W := by
  refine frm_sim hb S h.sz _ fun k v hk => ?_
  have hm := findA_mem hk
  simp only [List.mem_cons, Prod.mk.injEq, List.not_mem_nil, or_false] at hm
  rcases hm with ⟨rfl, rfl⟩ | ⟨rfl, rfl⟩ | ⟨rfl, rfl⟩ | ⟨rfl, rfl⟩ | ⟨rfl, rfl⟩ | ⟨rfl, rfl⟩
  · exact ⟨_, h.h1, fun hle => hv1.mono Bs.hT hle⟩
  · exact ⟨_, h.h2, fun _ => vr_int (E := Bs.env) _⟩
  · exact ⟨_, h.h3, fun hle => hv3.mono Bs.hT hle⟩
  · exact ⟨_, h.h10, fun _ => vr_int (E := Bs.env) _⟩
  · exact ⟨_, h.h11, fun _ => vr_int (E := Bs.env) _⟩
  · exact ⟨_, h12, fun _ => vr_int (E := Bs.env) _⟩

/-- What stands at a loop's head. -/
def Head (V : Nat → Nat → Prop) (io1 : Io) (W1 : World) (v3 v1 : Value) (x : Fi) (l : List Int) (n i room : Int) (out : List Int) (a : Act) (W : World) : Prop :=
  ∃ io v9, Kp v3 v1 n room i v9 a ∧ OwnI W1.heap.size (vCx V W1 W io) W v9 out ∧ Sim Bs.env V io1 W1 (vCx V W1 W io) (hd x l n i room) a W

theorem head_of (hb : BaseOK Bs V io1 W1) (hv3 : VR TRr (baseCx V io1) W1 (.cref (enc tRF x) []) v3) (hv1 : VR TRr (baseCx V io1) W1 (enc tInts l) v1) {s : St} {C : Cx} {a : Act} {W : World} (S : Sim Bs.env V io1 W1 C s a W) {i room : Int} {out : List Int} {v9 : Value} (h : Kp v3 v1 n room i v9 a) (ho : OwnI W1.heap.size C W v9 out) : Head V io1 W1 v3 v1 x l n i room out a W :=
  ⟨C.io, v9, h, ho.reV rfl, hd_of hb hv3 hv1 S h⟩

theorem tail_round (hb : BaseOK Bs V io1 W1) (hv3 : VR TRr (baseCx V io1) W1 (.cref (enc tRF x) []) v3) (hv1 : VR TRr (baseCx V io1) W1 (enc tInts l) v1) {i room w : Int} {out : List Int} (hout : out.length ≤ 2000) (hne : out ≠ []) {s : St} {C : Cx} {a : Act} {W : World} (S : Sim Bs.env V io1 W1 C s a W) (hs : AllNone s)
    {v9 : Value} (h : Kp v3 v1 n room i v9 a) (ho : OwnI W1.heap.size C W v9 out) (h12 : a.tmps[12]? = some (.int .i64 w))
    {Qb Qe : Exit → Act → World → Prop} (hQe : ∀ a W, cz13.wpIn (Fr none) 0 Tryd.prog Qb a W → Qe .normal a W) (hQ : ∀ a W, Head V io1 W1 v3 v1 x l n (w64 (i + 1)) (w64 (room - w)) (incLast out) a W → Qb .normal a W) : (Code.seq cz11 cz12).wpIn (Fr none) 0 Tryd.prog Qe a W := by
  refine wpIn_seq (r11 hout hne S hs h.sz h.h9 ho fun s' a1 W2 S1 hs1 z1 g1 o1 => ?_)
  have c := fun (k : Nat) (h : k < 60) => g1 k h
  have h' : Kp v3 v1 n room i v9 a1 := ⟨z1, (c 1 (by omega)).trans h.h1, (c 2 (by omega)).trans h.h2, (c 3 (by omega)).trans h.h3, (c 9 (by omega)).trans h.h9, (c 10 (by omega)).trans h.h10, (c 11 (by omega)).trans h.h11⟩
  have S2 := md_of hb hv3 hv1 S1 h' ((c 12 (by omega)).trans h12)
  have o2 : OwnI W1.heap.size (vCx V W1 W2 C.io) W2 v9 (incLast out) := o1.reV rfl
  refine piece (E := Bs.env) ctx39 0 (u12_eq x l n i room w) S2 fun C3 a3 W3 S3 f3 => ?_
  have o3 := o2.step S2 (noneB_ok (md_n ..)) f3
  refine hQe a3 W3 ?_
  refine piece (E := Bs.env) ctx39 0 (u13_eq x l n i room w) S3 fun C4 a4 W4 S4 f4 => ?_
  have o4' := o3.step S3 (noneB_ok (u12_n ..)) f4
  obtain ⟨p1, p2, p3, p9⟩ := offs_ok o12
  obtain ⟨q1, q2, q3, q9⟩ := offs_ok o13
  have h4 : Kp v3 v1 n (w64 (room - w)) (w64 (i + 1)) v9 a4 := ⟨f4.sz.trans (f3.sz.trans z1), f4.keep q1 (f3.keep p1 h'.h1), f4.keep q2 (f3.keep p2 h'.h2), f4.keep q3 (f3.keep p3 h'.h3), f4.keep q9 (f3.keep p9 h'.h9), S4.intAt (u13_10 ..), S4.intAt (u13_11 ..)⟩
  exact hQ a4 W4 (head_of hb hv3 hv1 S4 h4 o4')

theorem spools_rounds (hb : BaseOK Bs V io1 W1) (hv3 : VR TRr (baseCx V io1) W1 (.cref (enc tRF x) []) v3) (hv1 : VR TRr (baseCx V io1) W1 (enc tInts l) v1) (hok : spoolsOK x l n = true) {R : List Int × Bool} {Q : Exit → Act → World → Prop}
    (hdone : ∀ i room a W, R.2 = true → Head V io1 W1 v3 v1 x l n i room R.1 a W → Q (.exit 0) a W) (hfail : R = ([], false) → ∀ s C a W, Sim Bs.env V io1 W1 C s a W → finK X39 Tryd.f39 .ret s = some (.tup [.sl .int ⟨true, true, none⟩ [], .int 4]) → Q .ret a W) : ∀ (m i : Nat) (room rm : Int) (out : List Int) (a : Act) (W : World), i + m = l.length → Head V io1 W1 v3 v1 x l n i room out a W → ((i = 0 ∧ rm = -1) ∨ (0 < i ∧ rm = room ∧ out ≠ [])) → out.length ≤ i → spGo x n (l.drop i) out rm = R →
    Code.roundsIn (Fr none) 0 Tryd.prog czL Q (m + 1) a W := by
  simp only [spoolsOK, Bool.and_eq_true, decide_eq_true_eq] at hok
  obtain ⟨hlen, hall⟩ := hok
  intro m
  induction m with
  | zero =>
    intro i room rm out a W hi hH hr ho hR
    rw [roundsIn_succ]
    obtain ⟨io, v9, hk, own, S⟩ := hH
    refine wpIn_seq (wpIn_seq ?_)
    refine piece (E := Bs.env) ctx39 0 (t4_eq x l n i room) S fun C1 a1 W2 S1 f1 => ?_
    have hc := S1.get 33
    rw [t4_c] at hc
    have hf : decide ((i : Int) < l.length) = false := by simp; omega
    rw [hf] at hc
    have hcv : a1.eval (.tmp 33) = .bool false := hc.bool_inv
    refine wpIn_cond_false hcv (wpIn_exit ?_)
    have hnil : l.drop i = [] := List.drop_eq_nil_of_le (by omega)
    rw [hnil] at hR
    have hR1 : R.1 = out := by rw [← hR]; rfl
    have hR2 : R.2 = true := by rw [← hR]; rfl
    have own1 := own.step S (noneB_ok (hd_n ..)) f1
    have k1 := hk.keep f1 o4 (by simpa [Bool.or_eq_false_iff] using m4)
    exact hdone i room a1 W2 hR2 (hR1 ▸ head_of hb hv3 hv1 S1 k1 own1)
  | succ m ih =>
    intro i room rm out a W hi hH hr ho hR
    rw [roundsIn_succ]
    obtain ⟨io, v9, hk, own, S⟩ := hH
    have hlt : i < l.length := by omega
    have hka : kAt l i = l[i] := by simp [kAt, List.getD, hlt]
    have hin : inReels x (kAt l i) = true := by
      rw [hka]
      exact List.all_eq_true.1 hall _ (List.getElem_mem hlt)
    rw [List.drop_eq_getElem_cons hlt, ← hka, spGo] at hR
    refine wpIn_seq (wpIn_seq ?_)
    refine piece (E := Bs.env) ctx39 0 (t4_eq x l n i room) S fun C1 a1 W2 S1 f1 => ?_
    have own1 := own.step S (noneB_ok (hd_n ..)) f1
    have k1 := hk.keep f1 o4 (by simpa [Bool.or_eq_false_iff] using m4)
    have hc := S1.get 33
    rw [t4_c] at hc
    have hf : decide ((i : Int) < l.length) = true := by simp; omega
    rw [hf] at hc
    refine wpIn_cond_true (show a1.eval (.tmp 33) = .bool true from hc.bool_inv) (wpIn_skip ?_)
    refine wpIn_seq (wpIn_block ?_)
    refine wpIn_seq ?_
    have h6 : evC X39 0 cz6 (t4 x l n i room) cap = some (.norm, t6 x l n i room) := by
      rw [t6_eq, hf, show inReels3 x (kAt l i) n = true from hin]
      simp
    refine piece (E := Bs.env) ctx39 0 h6 S1 fun C3 a3 W4 S3 f3 => ?_
    have own3 := own1.step S1 (noneB_ok (t4_n ..)) f3
    have k3 := k1.keep f3 o6 (by simpa [Bool.or_eq_false_iff] using m6)
    have h12 := S3.intAt (t6_12 x l n i room)
    refine wpIn_seq (wpIn_seq ?_)
    refine piece (E := Bs.env) ctx39 0 (t7_eq x l n i room) S3 fun C4 a4 W5 S4 f4 => ?_
    have own4 := own3.step S3 (noneB_ok (t6_n ..)) f4
    have m7' : memN (dsts cz7) 10 = false ∧ memN (dsts cz7) 11 = false ∧ memN (dsts cz7) 12 = false := by simpa [Bool.or_eq_false_iff] using m7
    have m9' : memN (dsts cz9) 10 = false ∧ memN (dsts cz9) 11 = false ∧ memN (dsts cz9) 12 = false := by simpa [Bool.or_eq_false_iff] using m9
    have k4 := k3.keep f4 o7 ⟨m7'.1, m7'.2.1⟩
    have h12' := f4.keep m7'.2.2 h12
    have hc2 := S4.get 47
    rw [t7_c] at hc2
    by_cases c1 : x.2.2.2 < mostI x (kAt l i) n
    · rw [decide_eq_true c1] at hc2
      rw [if_pos c1] at hR
      refine wpIn_cond_true (show a4.eval (.tmp 47) = .bool true from hc2.bool_inv) ?_
      refine piece (E := Bs.env) ctx39 0 (t8_eq x l n i room) S4 fun C5 a5 W6 S5 f5 => ?_
      exact hfail hR.symm _ _ _ _ S5 (t8_f ..)
    · rw [decide_eq_false c1] at hc2
      rw [if_neg c1] at hR
      refine wpIn_cond_false (show a4.eval (.tmp 47) = .bool false from hc2.bool_inv) (wpIn_skip ?_)
      refine wpIn_seq (wpIn_seq ?_)
      have hw1 : w64 ((i : Int) + 1) = ((i + 1 : Nat) : Int) := w64_succ (n := l.length) hlt (by omega)
      have hmn := most_nonneg x (kAt l i) n
      -- does a spool begin?
      have hbeg : evC X39 0 cz9 (t7 x l n i room) kB = some (decide (rm < mostI x (kAt l i) n)) := by
        rw [t9_eq]
        rcases hr with ⟨rfl, rfl⟩ | ⟨h0, rfl, _⟩
        · rw [decide_eq_true (show ((0 : Nat) : Int) = 0 from rfl), decide_eq_true (show (-1 : Int) < _ by omega)]
          rfl
        · rw [decide_eq_false (show ¬ (i : Int) = 0 by omega)]
          rfl
      refine evC_ok (E := Bs.env) ctx39 0 cz9 none (.inl rfl) (D := fun k => k ∈ dsts cz9) (fun _ h => h) kB _ _ ?_ _ _ _ _ hbeg S4 (Fm.refl _ _ _ _ _)
      intro e s' he C5 a5 W6 S5 f5
      unfold kB at he
      cases e with
      | ret => cases he
      | exit j => cases he
      | norm =>
        have he' : (match s'.get 54 with | .bool b => (bif noneB s' then some b else none) | _ => none) = some (decide (rm < mostI x (kAt l i) n)) := he
        have hg : s'.get 54 = .bool (decide (rm < mostI x (kAt l i) n)) ∧ noneB s' = true := by
          revert he'
          cases s'.get 54 <;> intro he'
          all_goals first
            | (cases hn : noneB s' with
               | true => rw [hn] at he'; cases he'; exact ⟨rfl, rfl⟩
               | false => rw [hn] at he'; cases he')
            | cases he'
        have own5 := own4.step S4 (noneB_ok (t7_n ..)) f5
        have k5 := k4.keep f5 o9 ⟨m9'.1, m9'.2.1⟩
        have h12'' := f5.keep m9'.2.2 h12'
        have hc3 := S5.get 54
        rw [hg.1] at hc3
        by_cases c2 : rm < mostI x (kAt l i) n
        · rw [decide_eq_true c2] at hc3
          rw [if_pos c2] at hR
          refine wpIn_cond_true (show a5.eval (.tmp 54) = .bool true from hc3.bool_inv) ?_
          have SM := md_of hb hv3 hv1 S5 k5 h12''
          refine r10 (by omega) SM k5.sz k5.h3 k5.h1 k5.h9 (own5.reV rfl) fun C6 a6 W7 S6 z6 j3 j1 v9' j9 own6 => ?_
          have k6 : Kp v3 v1 n x.2.2.2 i v9' a6 := ⟨z6, j1, S6.intAt (dend_2 ..), j3, j9, S6.intAt (dend_10 ..), S6.intAt (dend_11 ..)⟩
          refine tail_round hb hv3 hv1 (w := mostI x (kAt l i) n) (out := out ++ [0]) (by simp; omega) (by simp) S6 (noneB_ok (dend_n ..)) k6 own6 (S6.intAt (dend_12 ..)) (fun a W h => h) fun a7 W8 hH7 => ?_
          rw [hw1] at hH7
          exact ih (i + 1) _ _ _ a7 W8 (by omega) hH7 (.inr ⟨by omega, rfl, fun h => by have := congrArg List.length h; rw [incLast_len (by simp)] at this; simp at this⟩) (by rw [incLast_len (by simp)]; simp; omega) hR
        · rw [decide_eq_false c2] at hc3
          rw [if_neg c2] at hR
          obtain ⟨h0, rfl, hne⟩ : 0 < i ∧ rm = room ∧ out ≠ [] := hr.resolve_left fun h => by
            have := h.2
            omega
          refine wpIn_cond_false (show a5.eval (.tmp 54) = .bool false from hc3.bool_inv) (wpIn_skip ?_)
          refine tail_round hb hv3 hv1 (w := mostI x (kAt l i) n) (out := out) (by omega) hne S5 (noneB_ok hg.2) k5 own5 h12'' (fun a W h => h) fun a7 W8 hH7 => ?_
          rw [hw1] at hH7
          exact ih (i + 1) _ _ _ a7 W8 (by omega) hH7 (.inr ⟨by omega, rfl, fun h => by have := congrArg List.length h; rw [incLast_len hne] at this; exact absurd (List.eq_nil_of_length_eq_zero this) hne⟩) (by rw [incLast_len hne]; omega) hR
end

noncomputable def fE (x : Fi) (l : List Int) (n i room : Int) (out : List Int) : St := (hd x l n i room).put (some 9) (enc tInts out)
theorem fE_eq (x : Fi) (l : List Int) (n i room : Int) (out : List Int) : evC X39 0 czE (fE x l n i room out) (finK X39 Tryd.f39) = some (.tup [enc tInts out, .int 0]) := by kernel_rfl
theorem hd_fr (x : Fi) (l : List Int) (n i room : Int) : (⟨frL (hd x l n i room).objs (hd x l n i room).tmps, List.replicate (hd x l n i room).tmps.length .none⟩ : St) = hd x l n i room := by kernel_rfl
theorem oq : (memN (dsts cq) 1 || (memN (dsts cq) 2 || memN (dsts cq) 3)) = false := by kernel_rfl
theorem o456 : (memN (dsts cr4) 1 || (memN (dsts cr4) 2 || (memN (dsts cr4) 3 || (memN (dsts cr5) 1 || (memN (dsts cr5) 2 || (memN (dsts cr5) 3 || (memN (dsts cr6) 1 || (memN (dsts cr6) 2 || memN (dsts cr6) 3)))))))) = false := by kernel_rfl
theorem pd6_n (x : Fi) (l : List Int) (n : Int) : noneB (pd6 x l n) = true := by kernel_rfl

/-- What is asked first comes to. -/
theorem q_val {x : Fi} {l : List Int} {n : Int} (hx : chkOK x = true) (hl : lenOK l = true) : evC X39 0 cq (sR x l n) kQ = eQ (askedI x (decide (0 < (l.length : Int)) && (areReelsB x l && amid n 0 999))) := by
  have h : ∀ r, askOK x r = true := fun _ => hx
  have ha : areOK x l = true := hl
  rw [q_eq]
  simp only [h, ha, cond_true]
  cases decide ((0 : Int) < (l.length : Int)) <;> cases areReelsB x l <;> rfl

end S39

open S39 in
theorem k39 : Good 39 g39 := by
  refine ⟨ctr_hand (B := Bs) Tryd.func39 S39.spools_body fun args r hg V io W vs a hd0 hb hr S => ?_, Tryd.f39, Tryd.func39, by kernel_rfl, by kernel_rfl⟩
  unfold g39 at hg
  split at hg
  · rename_i a0 a1 a2
    split at hg
    · rename_i x l n hx hl hn
      simp only [Option.some.injEq, Prod.mk.injEq] at hg
      obtain ⟨hok, rfl⟩ := hg
      simp only [joinOK, Bool.and_eq_true] at hok
      obtain ⟨hxk, hlk⟩ := hok
      simp only [wkL, wk_dec hx, wk_dec hl, wk_dec hn] at S hr
      have hq := S39.q_val (n := n) hxk hlk
      generalize hrr : (decide (0 < (l.length : Int)) && (areReelsB x l && amid n 0 999)) = rr at hq
      by_cases h0 : askedI x rr = 0
      · -- it may be asked
        obtain ⟨hc, rfl⟩ := asked_zero h0
        have hq2 : evC S39.X39 0 S39.cq (S39.sR x l n) S39.kQ = some none := by
          rw [hq]
          unfold S39.eQ
          rw [h0]
          rfl
        simp only [Bool.and_eq_true] at hrr
        have hok := are_spools n hc hrr.2.1
        let R := spoolsF x l n
        have hR : spGo x n l [] (-1) = R := rfl
        have hR2 : R = ([], false) ∨ R.2 = true := by
          have key : ∀ (l : List Int) (out : List Int) (room : Int), spGo x n l out room = ([], false) ∨ (spGo x n l out room).2 = true := by
            intro l
            induction l with
            | nil => intro out room; exact .inr rfl
            | cons k r ih =>
              intro out room
              rw [spGo]
              split
              · exact .inl rfl
              · split
                · exact ih _ _
                · exact ih _ _
          exact key l [] (-1)
        have hSP : SpoolsI x l n = if R.2 = true then (R.1, 0) else ([], 4) := by
          unfold SpoolsI joinedI
          rw [show (decide (0 < (l.length : Int)) && (areReelsB x l && amid n 0 999)) = true by simp only [Bool.and_eq_true]; exact hrr, if_pos h0]
          split <;> rfl
        refine ⟨S39.X39, if R.2 = true then .tup [enc tInts R.1, .int 0] else .tup [.sl .int ⟨true, true, none⟩ [], .int 4], S39.ctx39, ?_, fun Q hQ => ?_⟩
        · rw [hSP]
          rcases hR2 with h | h
          · rw [show R = ([], false) from h]
            rfl
          · rw [if_pos h, if_pos h]
            simp only [wkAV, wkL, wk_enc, enc]
        refine wpIn_seq (pieceD (E := Bs.env) S39.ctx39 S39.cz0r (by kernel_rfl) (S39.sA0_eq x l n) S fun C0 a0 W0 S0 d0 => ?_)
        obtain ⟨SR, hb3, hk3⟩ := S0.rebase (by rw [d0, hd0]) (m := 72)
        have SR' : Sim Bs.env V C0.io W0 (baseCx V C0.io) (S39.sR x l n) a0 W0 := SR
        obtain ⟨v3, g3, hv3⟩ := SR'.tm 3 _ (S39.sR_3 x l n)
        obtain ⟨v1, g1, hv1⟩ := SR'.tm 1 _ (S39.sR_1 x l n)
        have g2 := SR'.intAt (S39.sR_2 x l n)
        have hz : a0.tmps.size = 72 := by rw [SR'.len]; exact S39.sR_len x l n
        refine wpIn_seq ?_
        refine evC_ok (E := Bs.env) S39.ctx39 0 S39.cq none (.inl rfl) (D := fun k => k ∈ dsts S39.cq) (fun _ h => h) S39.kQ none _ ?_ _ _ _ _ hq2 SR' (Fm.refl _ _ _ _ _)
        intro e s' he C1 a1 W1 S1 f1
        cases e with
        | exit j => cases he
        | ret =>
          unfold S39.kQ at he
          dsimp only at he
          split at he
          · cases he
          · cases he
        | norm =>
          have hoq : memN (dsts S39.cq) 1 = false ∧ memN (dsts S39.cq) 2 = false ∧ memN (dsts S39.cq) 3 = false := by simpa [Bool.or_eq_false_iff] using S39.oq
          have ho4 : memN (dsts S39.cr4) 1 = false ∧ memN (dsts S39.cr4) 2 = false ∧ memN (dsts S39.cr4) 3 = false ∧ memN (dsts S39.cr5) 1 = false ∧ memN (dsts S39.cr5) 2 = false ∧ memN (dsts S39.cr5) 3 = false ∧ memN (dsts S39.cr6) 1 = false ∧ memN (dsts S39.cr6) 2 = false ∧ memN (dsts S39.cr6) 3 = false := by simpa [Bool.or_eq_false_iff] using S39.o456
          obtain ⟨b1, b2, b3, b4, b5, b6, b7, b8, b9⟩ := ho4
          have e1 := f1.keep hoq.1 g1
          have e2 := f1.keep hoq.2.1 g2
          have e3 := f1.keep hoq.2.2 g3
          have SP : Sim Bs.env V C0.io W0 (vCx V W0 W1 C1.io) (S39.pd x l n) a1 W1 := by
            refine frm_sim hb3 S1 (f1.sz.trans hz) _ fun k v hk => ?_
            have hm := findA_mem hk
            simp only [List.mem_cons, Prod.mk.injEq, List.not_mem_nil, or_false] at hm
            rcases hm with ⟨rfl, rfl⟩ | ⟨rfl, rfl⟩ | ⟨rfl, rfl⟩
            · exact ⟨_, e1, fun hle => hv1.mono Bs.hT hle⟩
            · exact ⟨_, e2, fun _ => vr_int (E := Bs.env) _⟩
            · exact ⟨_, e3, fun hle => hv3.mono Bs.hT hle⟩
          refine wpIn_seq (piece (E := Bs.env) S39.ctx39 0 (S39.pd4_eq x l n) SP fun C4 a4 W4 S4 f4 => ?_)
          refine wpIn_seq (piece (E := Bs.env) S39.ctx39 0 (S39.pd5_eq x l n) S4 fun C5 a5 W5 S5 f5 => ?_)
          refine wpIn_seq (wpIn_seq (piece (E := Bs.env) S39.ctx39 0 (S39.pd6_eq x l n) S5 fun C6 a6 W6 S6 f6 => ?_))
          obtain ⟨v9, g9, hv9⟩ := S6.tm 9 _ (S39.pd6_9 x l n)
          have hv9' : v9 = .slice none 0 0 := by
            obtain ⟨A, c, ev, hrl⟩ := VR.sl_inv (E := Bs.env) (t := .int) (l := ([] : List Int)) hv9
            obtain ⟨_, _, q3, _⟩ := rel_row (E := Bs.env) (t := .int) (l := ([] : List Int)) hrl
            obtain ⟨rfl, rfl⟩ := q3 rfl rfl
            exact ev
          have hK : S39.Kp v3 v1 n 0 ((0 : Nat) : Int) v9 a6 := ⟨f6.sz.trans (f5.sz.trans (f4.sz.trans (f1.sz.trans hz))), f6.keep b7 (f5.keep b4 (f4.keep b1 e1)), f6.keep b8 (f5.keep b5 (f4.keep b2 e2)), f6.keep b9 (f5.keep b6 (f4.keep b3 e3)), g9, S6.intAt (S39.pd6_10 x l n), S6.intAt (S39.pd6_11 x l n)⟩
          have hH : S39.Head V C0.io W0 v3 v1 x l n ((0 : Nat) : Int) 0 [] a6 W6 := S39.head_of hb3 hv3 hv1 S6 hK (.inl ⟨hv9', rfl⟩)
          refine wpIn_block (wpIn_loop_rounds (l.length + 1) ?_)
          refine S39.spools_rounds hb3 hv3 hv1 hok (R := R) (fun i room a W hr2 hH => ?_) (fun hf s C a W S hfin => ?_) l.length 0 0 (-1) [] a6 W6 (by omega) hH (.inl ⟨rfl, rfl⟩) (by simp) hR
          · obtain ⟨io4, v9, hk, own, S4⟩ := hH
            have S5 := S4.toBase
            rw [S39.hd_fr] at S5
            have hv : VR TRr (baseCx V io4) W (enc tInts R.1) v9 := own_vr own hb3.old
            have S6 := S5.tell hk.h9 hv
            refine evC_ok (E := Bs.env) S39.ctx39 0 S39.czE none (.inl rfl) (D := fun _ => True) (fun _ _ => trivial) (finK S39.X39 Tryd.f39) _ _ ?_ _ _ _ W (S39.fE_eq x l n i room R.1) S6 (Fm.refl _ _ _ _ _)
            intro e s' he C' a' W' S' _
            exact hQ e s' (by rw [if_pos hr2]; exact he) W0 C0.io hk3 C' a' W' S'
          · exact hQ .ret s (by rw [hf]; exact hfin) W0 C0.io hk3 C a W S
      · -- an early answer
        have hq2 : evC S39.X39 0 S39.cq (S39.sR x l n) S39.kQ = some (some (.tup [.sl .int ⟨true, true, none⟩ [], .int (askedI x rr)])) := by
          rw [hq]
          unfold S39.eQ
          rw [decide_eq_false h0]
          rfl
        have hSP : SpoolsI x l n = ([], askedI x rr) := by
          unfold SpoolsI joinedI
          rw [hrr, if_neg h0]
        refine ⟨S39.X39, .tup [.sl .int ⟨true, true, none⟩ [], .int (askedI x rr)], S39.ctx39, ?_, fun Q hQ => ?_⟩
        · rw [hSP]
          rfl
        refine wpIn_seq (pieceD (E := Bs.env) S39.ctx39 S39.cz0r (by kernel_rfl) (S39.sA0_eq x l n) S fun C0 a0 W0 S0 d0 => ?_)
        obtain ⟨SR, hb3, hk3⟩ := S0.rebase (by rw [d0, hd0]) (m := 72)
        have SR' : Sim Bs.env V C0.io W0 (baseCx V C0.io) (S39.sR x l n) a0 W0 := SR
        refine wpIn_seq ?_
        refine evC_ok (E := Bs.env) S39.ctx39 0 S39.cq none (.inl rfl) (D := fun k => k ∈ dsts S39.cq) (fun _ h => h) S39.kQ _ _ ?_ _ _ _ _ hq2 SR' (Fm.refl _ _ _ _ _)
        intro e s' he C1 a1 W1 S1 f1
        cases e with
        | exit j => cases he
        | norm => cases he
        | ret =>
          unfold S39.kQ at he
          dsimp only at he
          split at he
          · rename_i r' hf
            cases he
            exact hQ .ret s' hf W0 C0.io hk3 C1 a1 W1 S1
          · cases he
    · cases hg
  · cases hg

end Ev
end Go.Proofs.YtidnikjkpbmhhaaDoor
/- The contract of the reference's changes. -/
set_option linter.unusedVariables false
set_option maxRecDepth 4000
namespace Go.Proofs.YtidnikjkpbmhhaaDoor
namespace Ev

theorem k41 : Good 41 g41 := ⟨ctr_ofN (B := Bs) (X := X41) (ctxOK rfl rfl rfl rfl rfl rfl (AllC.cons k39 (AllC.cons k83 AllC.nil))) Tryd.func41 (fun args r h => by
  unfold g41 at h
  split at h
  · rename_i a0 a1 a2
    split at h
    · rename_i x0 x1 x2 h0 h1 h2
      simp only [Option.some.injEq, Prod.mk.injEq] at h
      obtain ⟨hp, rfl⟩ := h
      obtain ⟨N, r0, q1, q2⟩ := f41_sp x0 x1 x2 hp
      refine ⟨N, r0, ?_, q2⟩
      simp only [wkL, wk_dec h0, wk_dec h1, wk_dec h2]
      exact (f41_ev x0 x1 x2 N).trans q1
    · cases h
  · cases h), Tryd.f41, Tryd.func41, by kernel_rfl, by kernel_rfl⟩

end Ev
end Go.Proofs.YtidnikjkpbmhhaaDoor
/- The law of the times, as the evaluator walks it. -/
set_option linter.unusedVariables false
set_option maxRecDepth 4000
namespace Go.Proofs.YtidnikjkpbmhhaaDoor
namespace Ev

def tmsB (_ : Fi) (_ : List Int) (_ : Int) : Bool := true
def tmsOK (x : Fi) (l : List Int) (n : Int) : Bool := joinOK x l n
noncomputable def g6 : List AV → Option (Bool × AV)
  | [a0, a1, a2] =>
    match dec tRF a0, dec tInts a1, dec .int a2 with
    | some x0, some x1, some x2 => some ((tmsOK x0 x1 x2), enc .bool (tmsB x0 x1 x2))
    | _, _, _ => none
  | _ => none
noncomputable def X6 : Ctx := { T := TT, G := GG, C := [(24, g24), (25, g25), (36, g36), (37, g37), (38, g38), (39, g39), (40, g40), (41, g41), (42, g42)], L := [] }
noncomputable def f6_s (a0 : ((List ((Int × Int) × (Int × Int) × (Int × Int))) × (Int × Int) × (Int × Int) × Int)) (a1 : (List Int)) (a2 : Int) : Option (AV) :=
  bif (joinOK a0 a1 a2) then
    bif (joinOK a0 a1 a2) then
      bif (!((decide (((LastsI a0 a1 a2).1).1 = ((LastsI a0 a1 a2).1).1)) && ((decide (((LastsI a0 a1 a2).1).2 = ((LastsI a0 a1 a2).1).2)) && true))) then
        some (.bool false)
      else
        bif (!decide (((LastsI a0 a1 a2).2) = ((LastsI a0 a1 a2).2))) then
          some (.bool false)
        else
          bif (joinOK a0 a1 a2) then
            bif (joinOK a0 a1 a2) then
              bif (sameOK ((SpoolsI a0 a1 a2).1) ((SpoolsI a0 a1 a2).1)) then
                bif (!(sameI ((SpoolsI a0 a1 a2).1) ((SpoolsI a0 a1 a2).1))) then
                  some (.bool false)
                else
                  bif (!decide (((SpoolsI a0 a1 a2).2) = ((SpoolsI a0 a1 a2).2))) then
                    some (.bool false)
                  else
                    bif (joinOK a0 a1 a2) then
                      bif (joinOK a0 a1 a2) then
                        bif (sameOK2 ((ChangesI a0 a1 a2).1) ((ChangesI a0 a1 a2).1)) then
                          bif (sameS ((ChangesI a0 a1 a2).1) ((ChangesI a0 a1 a2).1)) then
                            bif (decide (((ChangesI a0 a1 a2).2) = ((ChangesI a0 a1 a2).2))) then
                              some (.bool turnedB)
                            else
                              some (.bool false)
                          else
                            some (.bool false)
                        else
                          none
                      else
                        none
                    else
                      none
              else
                none
            else
              none
          else
            none
    else
      none
  else
    none

noncomputable def f6_T (a0 : ((List ((Int × Int) × (Int × Int) × (Int × Int))) × (Int × Int) × (Int × Int) × Int)) (a1 : (List Int)) (a2 : Int) : Option (AV) := f6_s a0 a1 a2

theorem f6_ev (a0 : ((List ((Int × Int) × (Int × Int) × (Int × Int))) × (Int × Int) × (Int × Int) × Int)) (a1 : (List Int)) (a2 : Int) (N : Nat) : evF X6 N Tryd.f6 [enc tRF a0, enc tInts a1, enc .int a2] = f6_T a0 a1 a2 := by
  have h : evF X6 N Tryd.f6 [enc tRF a0, enc tInts a1, enc .int a2] = f6_s a0 a1 a2 := by kernel_rfl
  rw [h]
  rfl

end Ev
end Go.Proofs.YtidnikjkpbmhhaaDoor
/- The law of the times: what the walk comes to is true. -/
set_option linter.unusedVariables false
set_option linter.unusedSimpArgs false
namespace Go.Proofs.YtidnikjkpbmhhaaDoor
namespace Ev

theorem len_ok {α : Type} {l : List α} (h : l.length ≤ 1000) : lenOK l = true := by
  unfold lenOK
  refine Nat.ble_eq_true_of_le ?_
  omega
theorem chG_len2 (x : Fi) (l : List Int) (n : Int) : ∀ (D : List Int) (a : Int), (chG x l n D a).length = D.length
  | [], a => rfl
  | c :: cs, a => by rw [chG, List.length_cons, chG_len2 x l n cs, List.length_cons]
theorem spools_short (x : Fi) (l : List Int) (n : Int) : (SpoolsI x l n).1.length ≤ 6 ∧ (ChangesI x l n).1.length ≤ 6 := by
  by_cases h0 : (joinedI x l n).2.2 = 0
  · obtain ⟨hc, ha, hl0, _, hs, hJ⟩ := joined_zero h0
    have hgs := gs_length (spools_gs hc ha hl0 hs)
    rw [List.length_map] at hgs
    have hal := are_len hc ha
    have hcl := check_len hc
    constructor
    · unfold SpoolsI
      rw [hJ]
      show (spoolsF x l n).1.length ≤ 6
      omega
    · unfold ChangesI
      rw [hJ]
      simp only [if_true]
      rw [chG_len2, List.length_take]
      omega
  · have h1 : (joinedI x l n).2.1 = [] := by
      unfold joinedI at h0 ⊢
      split
      · rename_i h1
        rw [if_pos h1] at h0
        split
        · rename_i h2
          rw [if_pos h2] at h0
          exact absurd rfl h0
        · rfl
      · rfl
    constructor
    · unfold SpoolsI
      rw [h1]
      simp
    · unfold ChangesI
      rw [if_neg h0]
      simp
theorem f6_sp (x0 : Fi) (x1 : List Int) (x2 : Int) (hp : tmsOK x0 x1 x2 = true) : ∃ (N : Nat) (r0 : AV), f6_T x0 x1 x2 = some r0 ∧ wkAV r0 = enc .bool (tmsB x0 x1 x2) := by
  have h : joinOK x0 x1 x2 = true := hp
  obtain ⟨h1, h2⟩ := spools_short x0 x1 x2
  have h3 : sameOK (SpoolsI x0 x1 x2).1 (SpoolsI x0 x1 x2).1 = true := by
    simp only [sameOK, Bool.and_eq_true]
    exact ⟨len_ok (by omega), len_ok (by omega)⟩
  have h4 : sameOK2 (ChangesI x0 x1 x2).1 (ChangesI x0 x1 x2).1 = true := by
    simp only [sameOK2, Bool.and_eq_true]
    exact ⟨len_ok (by omega), len_ok (by omega)⟩
  refine ⟨0, .bool true, ?_, rfl⟩
  unfold f6_T f6_s
  simp [h, h3, h4, sameI, sameS, turnedB]

end Ev
end Go.Proofs.YtidnikjkpbmhhaaDoor
/- The contract of the law of the times. -/
set_option linter.unusedVariables false
set_option maxRecDepth 4000
namespace Go.Proofs.YtidnikjkpbmhhaaDoor
namespace Ev

theorem k6 : Good 6 g6 := ⟨ctr_ofN (B := Bs) (X := X6) (ctxOK rfl rfl rfl rfl rfl rfl (AllC.cons k24 (AllC.cons k25 (AllC.cons k36 (AllC.cons k37 (AllC.cons k38 (AllC.cons k39 (AllC.cons k40 (AllC.cons k41 (AllC.cons k42 AllC.nil)))))))))) Tryd.func6 (fun args r h => by
  unfold g6 at h
  split at h
  · rename_i a0 a1 a2
    split at h
    · rename_i x0 x1 x2 h0 h1 h2
      simp only [Option.some.injEq, Prod.mk.injEq] at h
      obtain ⟨hp, rfl⟩ := h
      obtain ⟨N, r0, q1, q2⟩ := f6_sp x0 x1 x2 hp
      refine ⟨N, r0, ?_, q2⟩
      simp only [wkL, wk_dec h0, wk_dec h1, wk_dec h2]
      exact (f6_ev x0 x1 x2 N).trans q1
    · cases h
  · cases h), Tryd.f6, Tryd.func6, by kernel_rfl, by kernel_rfl⟩

end Ev
end Go.Proofs.YtidnikjkpbmhhaaDoor
/- ReelTimes returns true for every film, list and number, and leaves them as they were: where the package variables hold what its text lays. -/
set_option linter.unusedVariables false
set_option linter.unusedSimpArgs false
set_option maxRecDepth 4000
namespace Go.Proofs.YtidnikjkpbmhhaaDoor
namespace Ev
open Go.ChangeShapes Go.WideShapes Go.ChangeAt Go.RowKit

theorem tms_contract (H : Type) (enc' : TypeId × Value → H) (W : World) (base : Nat) (args : Array Value) (ds gs : List (DataW H)) (before : List MemPlace)
    (hval : ∀ (j : Nat) t v, Tryd.f6.params[j]? = some t → args[j]? = some v → Value.okWide Tryd.prog W .any base t v)
    (hW : DataW.Whole enc' Tryd.prog Tryd.f6.params.toList Rows.reelTimesSpec.vars false W args.toList ds gs before)
    (hw : (DataW.weightsEach Tryd.prog (Tryd.f6.params.toList ++ (OpenSpec.ofChange Rows.reelTimesSpec).bare.plain.varTypes Tryd.prog) (ds ++ gs)).all (· ≤ reachBytes) = true) (hL : laidMetH Tryd.prog laidAll W) :
    Calls Tryd.prog 6 args W fun e W' => ∃ v, e = .returned v ∧ Rows.reelTimesSpec.post enc' Tryd.prog Tryd.f6 false true false false W args v W' := by
  have hW' := hW
  obtain ⟨p, q, hA0, hV, rfl, hfz, hnd⟩ := hW
  have hA : DataW.TrodAll enc' Tryd.prog W 0 (fun _ => true) true Tryd.f6.params.toList args.toList ds p := hA0
  rw [Tryd.params6] at hA hval
  obtain ⟨v0, vs0, d0, ds0, p0, q0, hargs, rfl, rfl, h0, r0⟩ := trodAll_cons hA
  obtain ⟨v1, vs1, d1, ds1, p1, q1, rfl, rfl, rfl, h1, r1⟩ := trodAll_cons r0
  obtain ⟨v2, vs2, d2, ds2, p2, q2, rfl, rfl, rfl, h2, r2⟩ := trodAll_cons r1
  obtain ⟨rfl, rfl, rfl⟩ := trodAll_nil r2
  obtain rfl : args = #[v0, v1, v2] := by cases args; simp_all
  obtain ⟨rfl, rfl⟩ := trodVars_none hV
  have hvt : (OpenSpec.ofChange Rows.reelTimesSpec).bare.plain.varTypes Tryd.prog = [] := by kernel_rfl
  rw [Tryd.params6, hvt] at hw
  obtain ⟨n0, h0⟩ := h0
  obtain ⟨x0, e0, hd0⟩ := rd_film h0
  have hx0 : chkOK x0 = true := film_bound hd0 fun n hn => by
    have := List.all_eq_true.1 hw n (by
      simp only [List.append_nil, DataW.weightsEach, List.mem_append]
      exact .inl hn)
    simpa using this
  obtain ⟨n1, h1⟩ := h1
  obtain ⟨x1, e1, hd1⟩ := rd_list h1
  have hx1 : lenOK x1 = true := list_bound hd1 fun n hn => by
    have := List.all_eq_true.1 hw n (by
      simp only [List.append_nil, DataW.weightsEach, List.mem_append]
      exact .inr (.inl hn))
    simpa using this
  obtain ⟨n2, h2⟩ := h2
  obtain ⟨x2, e2, _⟩ := rd_int h2
  have hx2 := trivial
  have hrel : RelV TRr (baseCx noV noIo) W [enc tRF x0, enc tInts x1, enc .int x2] [v0, v1, v2] := by
    simp only [RelV]
    exact ⟨v0, _, rfl, vr_film e0 (agg_of Tryd.underlying26 (hval 0 _ v0 rfl rfl)), ⟨v1, _, rfl, vr_list e1 (hval 1 _ v1 rfl rfl), ⟨v2, _, rfl, vr_num e2 (hval 2 _ v2 rfl rfl), rfl⟩⟩⟩
  have hg : g6 [enc tRF x0, enc tInts x1, enc .int x2] = some (true, .bool true) := by
    have g0 : dec tRF (enc tRF x0) = some x0 := by kernel_rfl
    have g1 : dec tInts (enc tInts x1) = some x1 := by kernel_rfl
    have g2 : dec .int (enc .int x2) = some x2 := by kernel_rfl
    unfold g6
    simp only [g0, g1, g2]
    have : tmsOK x0 x1 x2 = true := (by simp [tmsOK, joinOK, hx0, hx1])
    rw [this]
    rfl
  refine Calls.mono (law_calls k6 hL hrel hg) ?_
  rintro e W' ⟨rfl, io', hk⟩
  exact ⟨_, rfl, post_true hk hW' rfl (by kernel_rfl) (by kernel_rfl) rfl⟩

theorem tms_reads (os : Os) {H : Type} (enc : TypeId × Value → H) : ∃ places, DataW.whole enc Tryd.prog ((World.doorLaid Tryd.prog 24 os).forCall (fun _ _ => 0) ⟨#[], #[zFilm, .slice none 0 0, .int .i64 0], []⟩).memory Tryd.f6.params.toList Rows.reelTimesSpec.vars false (#[zFilm, .slice none 0 0, .int .i64 0] : Array Value).toList 8 = some ([.agg [.nil, .agg [.lit (.int .i64 0), .lit (.int .i64 0)], .agg [.lit (.int .i64 0), .lit (.int .i64 0)], .lit (.int .i64 0)], .nil, .lit (.int .i64 0)], [], places) :=
  ⟨[], by kernel_rfl⟩

set_option maxRecDepth 100000 in
theorem tms_lifted (os : Os) (started : os.Started) (H : Type) (enc : TypeId × Value → H) (F : Stop.Interp) :
    ReturnsInHanded {} Tryd.checked os 6 .any ((OpenSpec.ofChange Rows.reelTimesSpec).preRow enc Tryd.prog Tryd.f6 Rows.reelTimesRow.domain false Rows.reelTimesRow.laid) (((OpenSpec.ofChange Rows.reelTimesSpec).at F).post enc Tryd.prog Tryd.f6 false true false false) := by
  obtain ⟨places, hx⟩ := tms_reads os enc
  refine returnsInHanded_of_row (C := Tryd.checked) (s := OpenSpec.ofChange Rows.reelTimesSpec) own started (by kernel_rfl) Tryd.func6
    (witness_row_at (enc := enc) (C := Tryd.checked) false (World.doorLaid Tryd.prog 24 os) #[zFilm, .slice none 0 0, .int .i64 0] rfl (by kernel_rfl) (by kernel_rfl) (by kernel_rfl)
      (OpenSpec.preRow_of_cond 8 hx (by kernel_rfl) (fun k hk => by cases hk) (by kernel_rfl) (door_met os _))) ?_
  intro W base args ds gs before hval hW _ _ hw hL _ _
  exact tms_contract H enc W base args ds gs before hval hW hw hL

theorem tms_said : Rows.ReelTimesSaid :=
  OpenClaim.holds_of_cond 6 Tryd.f6 rfl rfl rfl rfl rfl rfl rfl ⟨rfl, rfl, rfl, rfl, rfl⟩ rfl rfl rfl rfl rfl (by kernel_rfl) Tryd.func6 (by kernel_rfl)
    (of_decide_eq_true (by kernel_rfl)) (by unfold Func.isWrapper; first | (rw [if_pos (by decide +kernel)]; kernel_rfl) | (rw [if_neg (by decide +kernel)]; exact ⟨rfl, rfl⟩))
    (fun os started H enc _ F => by rw [OpenClaim.pre_eq_preRow]; exact tms_lifted os started H enc F)

theorem tms_plain (f : FuncId) (fn : Func) (hf : Tryd.pinned.checked.prog.funcNamed "bioscope/bioscopelaw01.ReelTimes" = some f) (hfn : Tryd.pinned.checked.prog.funcs[f]? = some fn) :
    false = Tryd.pinned.checked.prog.looks [] ∧ ∀ (j : Nat) t, fn.params[j]? = some t → Tryd.pinned.checked.prog.wantsStandIn t = false := by
  obtain rfl : f = 6 := Option.some.inj ((show Tryd.prog.funcNamed "bioscope/bioscopelaw01.ReelTimes" = some 6 by kernel_rfl).symm.trans hf) |>.symm
  obtain rfl : fn = Tryd.f6 := (Option.some.inj (Tryd.func6.symm.trans hfn)).symm
  refine ⟨by kernel_rfl, fun j t ht => ?_⟩
  have hall : (Tryd.f6.params.toList.all fun u => !Tryd.prog.wantsStandIn u) = true := by kernel_rfl
  have hm : t ∈ Tryd.f6.params.toList := by simpa using Array.mem_of_getElem? ht
  have h2 : Tryd.prog.wantsStandIn t = false := by simpa using List.all_eq_true.1 hall t hm
  exact h2

end Ev

/-- The statement. -/
theorem reelTimes_holds : Rows.ReelTimesCardSaid :=
  Claim7.holds_tied_plain_at .later [] _ _ _ _ Ev.tms_said (fun _ h => by cases h) (by kernel_rfl) (fun _ h => by cases h) reelTimes_row_tie rfl ⟨rfl, rfl⟩ (by kernel_rfl) rfl Ev.tms_plain (by kernel_rfl)
end Go.Proofs.YtidnikjkpbmhhaaDoor
