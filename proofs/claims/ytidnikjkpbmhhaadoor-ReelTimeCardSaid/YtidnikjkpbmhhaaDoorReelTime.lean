/- The law ReelTime and all that it leans on, beyond the common part. -/
import Derived.Test.YtidnikjkpbmhhaaDoorBaseD
/- Choosing, as the evaluator walks it. -/
set_option linter.unusedVariables false
set_option maxRecDepth 4000
namespace Go.Proofs.YtidnikjkpbmhhaaDoor
namespace Ev

noncomputable def g52 : List AV → Option (Bool × AV)
  | [a0, a1] =>
    match dec tSpan a0, dec .int a1 with
    | some x0, some x1 => some (true, enc .int (chooseI x0 x1))
    | _, _ => none
  | _ => none
noncomputable def g54 : List AV → Option (Bool × AV)
  | [a0, a1] =>
    match dec tInts a0, dec .int a1 with
    | some x0, some x1 => some ((pickOK2 x0 x1), enc .int (pickI x0 x1))
    | _, _ => none
  | _ => none
noncomputable def X52 : Ctx := { T := TT, G := GG, C := [(48, g48), (58, g58)], L := [] }
noncomputable def f52_s (a0 : (Int × Int)) (a1 : Int) : Option (AV) :=
  bif (emptyS a0) then
    some (.int a0.1)
  else
    some (.int (w64 (a0.1 + (turnI a1 (w64 ((w64 (a0.2 - a0.1)) + (1 : Int)))))))

noncomputable def f52_T (a0 : (Int × Int)) (a1 : Int) : Option (AV) := f52_s a0 a1

theorem f52_ev (a0 : (Int × Int)) (a1 : Int) (N : Nat) : evF X52 N Tryd.f52 [enc tSpan a0, enc .int a1] = f52_T a0 a1 := by
  have h : evF X52 N Tryd.f52 [enc tSpan a0, enc .int a1] = f52_s a0 a1 := by kernel_rfl
  rw [h]
  rfl
noncomputable def X54 : Ctx := { T := TT, G := GG, C := [(48, g48)], L := [] }
noncomputable def f54_s (a0 : (List Int)) (a1 : Int) : Option (AV) :=
  bif (decide ((a0.length : Int) = (0 : Int))) then
    some (.int (0 : Int))
  else
    bif decide (0 ≤ (turnI a1 (a0.length : Int))) && decide ((turnI a1 (a0.length : Int)) < (a0.length : Int)) then
      some (.int (a0.getD (turnI a1 (a0.length : Int)).toNat (0 : Int)))
    else
      none

noncomputable def f54_T (a0 : (List Int)) (a1 : Int) : Option (AV) := f54_s a0 a1

theorem f54_ev (a0 : (List Int)) (a1 : Int) (N : Nat) : evF X54 N Tryd.f54 [enc tInts a0, enc .int a1] = f54_T a0 a1 := by
  have h : evF X54 N Tryd.f54 [enc tInts a0, enc .int a1] = f54_s a0 a1 := by kernel_rfl
  rw [h]
  rfl

end Ev
end Go.Proofs.YtidnikjkpbmhhaaDoor
/- Choosing: what the walks come to. -/
set_option linter.unusedVariables false
set_option linter.unusedSimpArgs false
set_option maxRecDepth 4000
namespace Go.Proofs.YtidnikjkpbmhhaaDoor
namespace Ev

theorem f52_sp (x0 : (Int × Int)) (x1 : Int) : ∃ (N : Nat) (r0 : AV), f52_T x0 x1 = some r0 ∧ wkAV r0 = enc .int (chooseI x0 x1) := by
  refine ⟨0, .int (chooseI x0 x1), ?_, rfl⟩
  unfold f52_T f52_s chooseI emptyS
  by_cases h : x0.2 < x0.1 <;> simp [h]
theorem f54_sp (x0 : (List Int)) (x1 : Int) (hp : pickOK2 x0 x1 = true) : ∃ (N : Nat) (r0 : AV), f54_T x0 x1 = some r0 ∧ wkAV r0 = enc .int (pickI x0 x1) := by
  have hl : x0.length ≤ 70368744177664 := Nat.le_of_ble_eq_true hp
  refine ⟨0, .int (pickI x0 x1), ?_, rfl⟩
  unfold f54_T f54_s pickI
  by_cases h : x0.length = 0
  · simp [h]
  · have hr := turn_range (n := x1) (m := x0.length) (by omega) (by omega)
    simp [h, hr.1, hr.2]

end Ev
end Go.Proofs.YtidnikjkpbmhhaaDoor
/- The contracts of choosing. -/
set_option linter.unusedVariables false
set_option maxRecDepth 4000
namespace Go.Proofs.YtidnikjkpbmhhaaDoor
namespace Ev

theorem k52 : Good 52 g52 := ⟨ctr_ofN (B := Bs) (X := X52) (ctxOK rfl rfl rfl rfl rfl rfl (AllC.cons k48 (AllC.cons k58 AllC.nil))) Tryd.func52 (fun args r h => by
  unfold g52 at h
  split at h
  · rename_i a0 a1
    split at h
    · rename_i x0 x1 h0 h1
      simp only [Option.some.injEq, Prod.mk.injEq] at h
      obtain ⟨hp, rfl⟩ := h
      obtain ⟨N, r0, q1, q2⟩ := f52_sp x0 x1
      refine ⟨N, r0, ?_, q2⟩
      simp only [wkL, wk_dec h0, wk_dec h1]
      exact (f52_ev x0 x1 N).trans q1
    · cases h
  · cases h), Tryd.f52, Tryd.func52, by kernel_rfl, by kernel_rfl⟩
theorem k54 : Good 54 g54 := ⟨ctr_ofN (B := Bs) (X := X54) (ctxOK rfl rfl rfl rfl rfl rfl (AllC.cons k48 AllC.nil)) Tryd.func54 (fun args r h => by
  unfold g54 at h
  split at h
  · rename_i a0 a1
    split at h
    · rename_i x0 x1 h0 h1
      simp only [Option.some.injEq, Prod.mk.injEq] at h
      obtain ⟨hp, rfl⟩ := h
      obtain ⟨N, r0, q1, q2⟩ := f54_sp x0 x1 hp
      refine ⟨N, r0, ?_, q2⟩
      simp only [wkL, wk_dec h0, wk_dec h1]
      exact (f54_ev x0 x1 N).trans q1
    · cases h
  · cases h), Tryd.f54, Tryd.func54, by kernel_rfl, by kernel_rfl⟩

end Ev
end Go.Proofs.YtidnikjkpbmhhaaDoor
/- Spools, and orders that numbers choose, in plain words. -/
namespace Go.Proofs.YtidnikjkpbmhhaaDoor
namespace Ev

def joinedI (x : Fi) (l : List Int) (n : Int) : Fi × List Int × Int :=
  if askedI x (decide (0 < (l.length : Int)) && (areReelsB x l && amid n 0 999)) = 0 then
    (if (spoolsF x l n).2 = true then (x, (spoolsF x l n).1, 0) else (x, [], 4))
  else (zRF, [], askedI x (decide (0 < (l.length : Int)) && (areReelsB x l && amid n 0 999)))
def joinOK (x : Fi) (l : List Int) (_ : Int) : Bool := chkOK x && lenOK l
def SpoolsI (x : Fi) (l : List Int) (n : Int) : List Int × Int := ((joinedI x l n).2.1, (joinedI x l n).2.2)
def shufG (bits : List Int) : Nat → Nat → List Int → List Int
  | 0, _, out => out
  | m + 1, i, out => shufG bits m (i + 1) (((([] : List Int) ++ (out.take (turnI (pickI bits (i : Int)) ((out.length : Int) + 1)).toNat)) ++ [(i : Int)]) ++ (out.drop (turnI (pickI bits (i : Int)) ((out.length : Int) + 1)).toNat))
def shufI (many : Int) (bits : List Int) : List Int := shufG bits many.toNat 0 []
def shufOK (many : Int) (bits : List Int) : Bool := decide (many ≤ 1000) && lenOK bits

end Ev
end Go.Proofs.YtidnikjkpbmhhaaDoor
/- Spools, and orders that numbers choose, as the evaluator walks them. -/
set_option linter.unusedVariables false
set_option maxRecDepth 4000
namespace Go.Proofs.YtidnikjkpbmhhaaDoor
namespace Ev

noncomputable def g76 : List AV → Option (Bool × AV)
  | [a0, a1] =>
    match dec tInts a0, dec .int a1 with
    | some x0, some x1 => some ((lenOK2 x0 x1), enc .int (findI x0 x1))
    | _, _ => none
  | _ => none
noncomputable def g87 : List AV → Option (Bool × AV)
  | [a0, a1] =>
    match dec tInts a0, dec .int a1 with
    | some x0, some x1 => some ((lenOK2 x0 x1), enc .bool (containsI x0 x1))
    | _, _ => none
  | _ => none
noncomputable def g63 : List AV → Option (Bool × AV)
  | [a0, a1] =>
    match dec tRF a0, dec tInts a1 with
    | some x0, some x1 => some ((areOK x0 x1), enc .bool (areReelsB x0 x1))
    | _, _ => none
  | _ => none
noncomputable def g84 : List AV → Option (Bool × AV)
  | [a0, a1, a2] =>
    match dec tRF a0, dec tInts a1, dec .int a2 with
    | some x0, some x1, some x2 => some ((joinOK x0 x1 x2), .tup [.agg [enc tRF ((joinedI x0 x1 x2).1), .tok 0 tRF ((joinedI x0 x1 x2).1)], enc tInts ((joinedI x0 x1 x2).2.1), enc .int ((joinedI x0 x1 x2).2.2)])
    | _, _, _ => none
  | _ => none
noncomputable def g38 : List AV → Option (Bool × AV)
  | [a0, a1, a2] =>
    match dec tRF a0, dec tInts a1, dec .int a2 with
    | some x0, some x1, some x2 => some ((joinOK x0 x1 x2), .tup [enc tInts ((SpoolsI x0 x1 x2).1), enc .int ((SpoolsI x0 x1 x2).2)])
    | _, _, _ => none
  | _ => none
noncomputable def g57 : List AV → Option (Bool × AV)
  | [a0] =>
    match dec tInts a0 with
    | some x0 => some ((lenOK x0), enc .int (sumI0 x0))
    | _ => none
  | _ => none
noncomputable def g49 : List AV → Option (Bool × AV)
  | [a0, a1] =>
    match dec .int a0, dec tInts a1 with
    | some x0, some x1 => some ((shufOK x0 x1), enc tInts (shufI x0 x1))
    | _, _ => none
  | _ => none
noncomputable def X76 : Ctx := { T := TT, G := GG, C := [], L := [(2, [2, 3, 4, 5, 6, 9, 10, 11, 12, 13, 14, 15, 16, 17, 18], [0])] }
noncomputable def f76_s0 (a0 : (List Int)) (a1 : Int) (k0 : Int → Option (AV)) (v0_0 : Int) : Option (AV) :=
  bif (decide (v0_0 < (a0.length : Int))) then
    bif decide (0 ≤ v0_0) && decide (v0_0 < (a0.length : Int)) then
      bif (decide (a1 = (a0.getD v0_0.toNat (0 : Int)))) then
        some (.int v0_0)
      else
        k0 (w64 (v0_0 + (1 : Int)))
    else
      none
  else
    some (.int (-1 : Int))

noncomputable def f76_s (a0 : (List Int)) (a1 : Int) (k0 : Int → Option (AV)) : Option (AV) :=
  k0 (0 : Int)

noncomputable def f76_R0 (a0 : (List Int)) (a1 : Int) (N : Nat) (n : Nat) (v0_0 : Int) : Option (AV) :=
  loopN (evC X76 N (sub [(1, 0), (0, 0), (1, 0), (0, 0), (0, 0)] (bodyOf Tryd.f76))) (keepOf X76.L (sub [(1, 0), (0, 0), (1, 0), (0, 0), (0, 0)] (bodyOf Tryd.f76))) n ⟨[.sl .int ⟨false, false, none⟩ a0, .int a1, .poison, .poison, .poison, .poison, .poison, .int (a0.length : Int), .int v0_0, .poison, .poison, .poison, .poison, .poison, .poison, .poison, .poison, .poison, .poison], [.none, .none, .none, .none, .none, .none, .none, .none, .none, .none, .none, .none, .none, .none, .none, .none, .none, .none, .none]⟩ (ctxK X76 N [(1, 0), (0, 0), (1, 0), (0, 0)] (bodyOf Tryd.f76) (finK X76 Tryd.f76))

theorem f76_e0 (a0 : (List Int)) (a1 : Int) (N : Nat) (n : Nat) (v0_0 : Int) : f76_R0 a0 a1 N (n + 1) v0_0 = f76_s0 a0 a1 (f76_R0 a0 a1 N n) v0_0 := by kernel_rfl

noncomputable def f76_L0 (a0 : (List Int)) (a1 : Int) (N : Nat) : Nat → Int → Option (AV)
  | 0, _ => none
  | n + 1, v0_0 => f76_s0 a0 a1 (f76_L0 a0 a1 N n) v0_0

theorem f76_q0 (a0 : (List Int)) (a1 : Int) (N : Nat) : ∀ n : Nat, f76_R0 a0 a1 N n = f76_L0 a0 a1 N n
  | 0 => by
    funext v0_0
    rfl
  | n + 1 => by
    funext v0_0
    rw [f76_e0]
    simp only [f76_q0 a0 a1 N n]
    rfl

noncomputable def f76_T (a0 : (List Int)) (a1 : Int) (N : Nat) : Option (AV) := f76_s a0 a1 (f76_L0 a0 a1 N N)

theorem f76_ev (a0 : (List Int)) (a1 : Int) (N : Nat) : evF X76 N Tryd.f76 [enc tInts a0, enc .int a1] = f76_T a0 a1 N := by
  have h : evF X76 N Tryd.f76 [enc tInts a0, enc .int a1] = f76_s a0 a1 (f76_R0 a0 a1 N N) := by kernel_rfl
  rw [h, f76_q0]
  rfl
noncomputable def X87 : Ctx := { T := TT, G := GG, C := [(76, g76)], L := [] }
noncomputable def f87_s (a0 : (List Int)) (a1 : Int) : Option (AV) :=
  bif (lenOK2 a0 a1) then
    some (.bool (decide ((0 : Int) ≤ (findI a0 a1))))
  else
    none

noncomputable def f87_T (a0 : (List Int)) (a1 : Int) : Option (AV) := f87_s a0 a1

theorem f87_ev (a0 : (List Int)) (a1 : Int) (N : Nat) : evF X87 N Tryd.f87 [enc tInts a0, enc .int a1] = f87_T a0 a1 := by
  have h : evF X87 N Tryd.f87 [enc tInts a0, enc .int a1] = f87_s a0 a1 := by kernel_rfl
  rw [h]
  rfl
noncomputable def X63 : Ctx := { T := TT, G := GG, C := [(68, g68), (87, g87)], L := [(2, [0, 3, 4, 5, 6, 10, 11, 12, 13, 14, 15, 16, 17, 18, 19, 20, 21, 22, 23, 24, 25, 26, 27, 28], [1, 7])] }
noncomputable def f63_s0 (a0 : ((List ((Int × Int) × (Int × Int) × (Int × Int))) × (Int × Int) × (Int × Int) × Int)) (a1 : (List Int)) (k0 : Int → Option (AV)) (v0_0 : Int) : Option (AV) :=
  bif (decide (v0_0 < (a1.length : Int))) then
    bif decide (0 ≤ v0_0) && decide (v0_0 < (a1.length : Int)) then
      bif (!(amid (a1.getD v0_0.toNat (0 : Int)) (0 : Int) (w64 ((a0.1.length : Int) - (1 : Int))))) then
        some (.bool false)
      else
        bif decide (0 ≤ v0_0) && decide (v0_0 ≤ (a1.length : Int)) then
          bif (lenOK2 (a1.take v0_0.toNat) (a1.getD v0_0.toNat (0 : Int))) then
            bif (containsI (a1.take v0_0.toNat) (a1.getD v0_0.toNat (0 : Int))) then
              some (.bool false)
            else
              k0 (w64 (v0_0 + (1 : Int)))
          else
            none
        else
          none
    else
      none
  else
    some (.bool true)

noncomputable def f63_s (a0 : ((List ((Int × Int) × (Int × Int) × (Int × Int))) × (Int × Int) × (Int × Int) × Int)) (a1 : (List Int)) (k0 : Int → Option (AV)) : Option (AV) :=
  k0 (0 : Int)

noncomputable def f63_R0 (a0 : ((List ((Int × Int) × (Int × Int) × (Int × Int))) × (Int × Int) × (Int × Int) × Int)) (a1 : (List Int)) (N : Nat) (n : Nat) (v0_0 : Int) : Option (AV) :=
  loopN (evC X63 N (sub [(1, 0), (0, 0), (1, 0), (0, 0), (0, 0)] (bodyOf Tryd.f63))) (keepOf X63.L (sub [(1, 0), (0, 0), (1, 0), (0, 0), (0, 0)] (bodyOf Tryd.f63))) n ⟨[.poison, .sl .int ⟨false, false, none⟩ a1, .ref 2 [], .poison, .poison, .poison, .poison, .sl .int ⟨false, false, none⟩ a1, .int (a1.length : Int), .int v0_0, .poison, .poison, .poison, .poison, .poison, .poison, .poison, .poison, .poison, .poison, .poison, .poison, .poison, .poison, .poison, .poison, .poison, .poison, .poison], [.none, .none, .box (enc tRF a0), .none, .none, .none, .none, .none, .none, .none, .none, .none, .none, .none, .none, .none, .none, .none, .none, .none, .none, .none, .none, .none, .none, .none, .none, .none, .none]⟩ (ctxK X63 N [(1, 0), (0, 0), (1, 0), (0, 0)] (bodyOf Tryd.f63) (finK X63 Tryd.f63))

theorem f63_e0 (a0 : ((List ((Int × Int) × (Int × Int) × (Int × Int))) × (Int × Int) × (Int × Int) × Int)) (a1 : (List Int)) (N : Nat) (n : Nat) (v0_0 : Int) : f63_R0 a0 a1 N (n + 1) v0_0 = f63_s0 a0 a1 (f63_R0 a0 a1 N n) v0_0 := by kernel_rfl

noncomputable def f63_L0 (a0 : ((List ((Int × Int) × (Int × Int) × (Int × Int))) × (Int × Int) × (Int × Int) × Int)) (a1 : (List Int)) (N : Nat) : Nat → Int → Option (AV)
  | 0, _ => none
  | n + 1, v0_0 => f63_s0 a0 a1 (f63_L0 a0 a1 N n) v0_0

theorem f63_q0 (a0 : ((List ((Int × Int) × (Int × Int) × (Int × Int))) × (Int × Int) × (Int × Int) × Int)) (a1 : (List Int)) (N : Nat) : ∀ n : Nat, f63_R0 a0 a1 N n = f63_L0 a0 a1 N n
  | 0 => by
    funext v0_0
    rfl
  | n + 1 => by
    funext v0_0
    rw [f63_e0]
    simp only [f63_q0 a0 a1 N n]
    rfl

noncomputable def f63_T (a0 : ((List ((Int × Int) × (Int × Int) × (Int × Int))) × (Int × Int) × (Int × Int) × Int)) (a1 : (List Int)) (N : Nat) : Option (AV) := f63_s a0 a1 (f63_L0 a0 a1 N N)

theorem f63_ev (a0 : ((List ((Int × Int) × (Int × Int) × (Int × Int))) × (Int × Int) × (Int × Int) × Int)) (a1 : (List Int)) (N : Nat) : evF X63 N Tryd.f63 [enc tRF a0, enc tInts a1] = f63_T a0 a1 N := by
  have h : evF X63 N Tryd.f63 [enc tRF a0, enc tInts a1] = f63_s a0 a1 (f63_R0 a0 a1 N N) := by kernel_rfl
  rw [h, f63_q0]
  rfl
noncomputable def X84 : Ctx := { T := TT, G := GG, C := [(62, g62), (63, g63), (68, g68), (96, g96)], L := [] }
noncomputable def f84_s (a0 : ((List ((Int × Int) × (Int × Int) × (Int × Int))) × (Int × Int) × (Int × Int) × Int)) (a1 : (List Int)) (a2 : Int) : Option (AV) :=
  bif (decide ((0 : Int) < (a1.length : Int))) then
    bif (areOK a0 a1) then
      bif (areReelsB a0 a1) then
        bif (askOK a0 (amid a2 (0 : Int) (999 : Int))) then
          bif (!decide (((askedF a0 (amid a2 (0 : Int) (999 : Int))).2) = (0 : Int))) then
            some (.tup [.agg [enc tRF ((askedF a0 (amid a2 (0 : Int) (999 : Int))).1), .tok 0 tRF ((askedF a0 (amid a2 (0 : Int) (999 : Int))).1)], .sl .int ⟨true, true, none⟩ ([] : List Int), .int ((askedF a0 (amid a2 (0 : Int) (999 : Int))).2)])
          else
            bif decide (((askedF a0 (amid a2 (0 : Int) (999 : Int))).1) = ((askedF a0 (amid a2 (0 : Int) (999 : Int))).1)) && ((spoolsOK ((askedF a0 (amid a2 (0 : Int) (999 : Int))).1) a1 a2)) then
              bif (!((spoolsF ((askedF a0 (amid a2 (0 : Int) (999 : Int))).1) a1 a2).2)) then
                some (.tup [.agg [enc tRF ((askedF a0 (amid a2 (0 : Int) (999 : Int))).1), .tok 0 tRF ((askedF a0 (amid a2 (0 : Int) (999 : Int))).1)], .sl .int ⟨true, true, none⟩ ([] : List Int), .int (4 : Int)])
              else
                some (.tup [.agg [enc tRF ((askedF a0 (amid a2 (0 : Int) (999 : Int))).1), .tok 0 tRF ((askedF a0 (amid a2 (0 : Int) (999 : Int))).1)], .sl .int ⟨false, false, none⟩ ((spoolsF ((askedF a0 (amid a2 (0 : Int) (999 : Int))).1) a1 a2).1), .int (0 : Int)])
            else
              none
        else
          none
      else
        bif (askOK a0 false) then
          bif (!decide (((askedF a0 false).2) = (0 : Int))) then
            some (.tup [.agg [enc tRF ((askedF a0 false).1), .tok 0 tRF ((askedF a0 false).1)], .sl .int ⟨true, true, none⟩ ([] : List Int), .int ((askedF a0 false).2)])
          else
            bif decide (((askedF a0 false).1) = ((askedF a0 false).1)) && ((spoolsOK ((askedF a0 false).1) a1 a2)) then
              bif (!((spoolsF ((askedF a0 false).1) a1 a2).2)) then
                some (.tup [.agg [enc tRF ((askedF a0 false).1), .tok 0 tRF ((askedF a0 false).1)], .sl .int ⟨true, true, none⟩ ([] : List Int), .int (4 : Int)])
              else
                some (.tup [.agg [enc tRF ((askedF a0 false).1), .tok 0 tRF ((askedF a0 false).1)], .sl .int ⟨false, false, none⟩ ((spoolsF ((askedF a0 false).1) a1 a2).1), .int (0 : Int)])
            else
              none
        else
          none
    else
      none
  else
    bif (askOK a0 false) then
      bif (!decide (((askedF a0 false).2) = (0 : Int))) then
        some (.tup [.agg [enc tRF ((askedF a0 false).1), .tok 0 tRF ((askedF a0 false).1)], .sl .int ⟨true, true, none⟩ ([] : List Int), .int ((askedF a0 false).2)])
      else
        bif decide (((askedF a0 false).1) = ((askedF a0 false).1)) && ((spoolsOK ((askedF a0 false).1) a1 a2)) then
          bif (!((spoolsF ((askedF a0 false).1) a1 a2).2)) then
            some (.tup [.agg [enc tRF ((askedF a0 false).1), .tok 0 tRF ((askedF a0 false).1)], .sl .int ⟨true, true, none⟩ ([] : List Int), .int (4 : Int)])
          else
            some (.tup [.agg [enc tRF ((askedF a0 false).1), .tok 0 tRF ((askedF a0 false).1)], .sl .int ⟨false, false, none⟩ ((spoolsF ((askedF a0 false).1) a1 a2).1), .int (0 : Int)])
        else
          none
    else
      none

noncomputable def f84_T (a0 : ((List ((Int × Int) × (Int × Int) × (Int × Int))) × (Int × Int) × (Int × Int) × Int)) (a1 : (List Int)) (a2 : Int) : Option (AV) := f84_s a0 a1 a2

theorem f84_ev (a0 : ((List ((Int × Int) × (Int × Int) × (Int × Int))) × (Int × Int) × (Int × Int) × Int)) (a1 : (List Int)) (a2 : Int) (N : Nat) : evF X84 N Tryd.f84 [enc tRF a0, enc tInts a1, enc .int a2] = f84_T a0 a1 a2 := by
  have h : evF X84 N Tryd.f84 [enc tRF a0, enc tInts a1, enc .int a2] = f84_s a0 a1 a2 := by kernel_rfl
  rw [h]
  rfl
noncomputable def X38 : Ctx := { T := TT, G := GG, C := [(84, g84)], L := [] }
noncomputable def f38_s (a0 : ((List ((Int × Int) × (Int × Int) × (Int × Int))) × (Int × Int) × (Int × Int) × Int)) (a1 : (List Int)) (a2 : Int) : Option (AV) :=
  bif (joinOK a0 a1 a2) then
    bif (!decide (((joinedI a0 a1 a2).2.2) = (0 : Int))) then
      some (.tup [.sl .int ⟨true, true, none⟩ ([] : List Int), .int ((joinedI a0 a1 a2).2.2)])
    else
      bif decide ((((joinedI a0 a1 a2).2.1).length : Int) = (((joinedI a0 a1 a2).2.1).length : Int)) && (decide (0 ≤ (((joinedI a0 a1 a2).2.1).length : Int)) && decide ((((joinedI a0 a1 a2).2.1).length : Int) ≤ (((joinedI a0 a1 a2).2.1).length : Int))) then
        some (.tup [.sl .int ⟨(false && decide ((((joinedI a0 a1 a2).2.1).length : Int) = (((joinedI a0 a1 a2).2.1).length : Int))), true, none⟩ (((joinedI a0 a1 a2).2.1).take (((joinedI a0 a1 a2).2.1).length : Int).toNat), .int (0 : Int)])
      else
        none
  else
    none

noncomputable def f38_T (a0 : ((List ((Int × Int) × (Int × Int) × (Int × Int))) × (Int × Int) × (Int × Int) × Int)) (a1 : (List Int)) (a2 : Int) : Option (AV) := f38_s a0 a1 a2

theorem f38_ev (a0 : ((List ((Int × Int) × (Int × Int) × (Int × Int))) × (Int × Int) × (Int × Int) × Int)) (a1 : (List Int)) (a2 : Int) (N : Nat) : evF X38 N Tryd.f38 [enc tRF a0, enc tInts a1, enc .int a2] = f38_T a0 a1 a2 := by
  have h : evF X38 N Tryd.f38 [enc tRF a0, enc tInts a1, enc .int a2] = f38_s a0 a1 a2 := by kernel_rfl
  rw [h]
  rfl
noncomputable def X57 : Ctx := { T := TT, G := GG, C := [], L := [(3, [1, 2, 5, 6, 7, 8, 9, 10, 11, 12, 13, 14, 15, 16, 17], [0])] }
noncomputable def f57_s0 (a0 : (List Int)) (k0 : Int → Int → Option (AV)) (v0_0 : Int) (v0_1 : Int) : Option (AV) :=
  bif (decide (v0_1 < (a0.length : Int))) then
    bif decide (0 ≤ v0_1) && decide (v0_1 < (a0.length : Int)) then
      k0 (w64 (v0_0 + (a0.getD v0_1.toNat (0 : Int)))) (w64 (v0_1 + (1 : Int)))
    else
      none
  else
    some (.int v0_0)

noncomputable def f57_s (a0 : (List Int)) (k0 : Int → Int → Option (AV)) : Option (AV) :=
  k0 (0 : Int) (0 : Int)

noncomputable def f57_R0 (a0 : (List Int)) (N : Nat) (n : Nat) (v0_0 : Int) (v0_1 : Int) : Option (AV) :=
  loopN (evC X57 N (sub [(1, 0), (1, 0), (0, 0), (1, 0), (0, 0), (0, 0)] (bodyOf Tryd.f57))) (keepOf X57.L (sub [(1, 0), (1, 0), (0, 0), (1, 0), (0, 0), (0, 0)] (bodyOf Tryd.f57))) n ⟨[.sl .int ⟨false, false, none⟩ a0, .poison, .poison, .int v0_0, .int v0_1, .poison, .poison, .poison, .poison, .poison, .poison, .poison, .poison, .poison, .poison, .poison, .poison, .poison], [.none, .none, .none, .none, .none, .none, .none, .none, .none, .none, .none, .none, .none, .none, .none, .none, .none, .none]⟩ (ctxK X57 N [(1, 0), (1, 0), (0, 0), (1, 0), (0, 0)] (bodyOf Tryd.f57) (finK X57 Tryd.f57))

theorem f57_e0 (a0 : (List Int)) (N : Nat) (n : Nat) (v0_0 : Int) (v0_1 : Int) : f57_R0 a0 N (n + 1) v0_0 v0_1 = f57_s0 a0 (f57_R0 a0 N n) v0_0 v0_1 := by kernel_rfl

noncomputable def f57_L0 (a0 : (List Int)) (N : Nat) : Nat → Int → Int → Option (AV)
  | 0, _, _ => none
  | n + 1, v0_0, v0_1 => f57_s0 a0 (f57_L0 a0 N n) v0_0 v0_1

theorem f57_q0 (a0 : (List Int)) (N : Nat) : ∀ n : Nat, f57_R0 a0 N n = f57_L0 a0 N n
  | 0 => by
    funext v0_0
    funext v0_1
    rfl
  | n + 1 => by
    funext v0_0
    funext v0_1
    rw [f57_e0]
    simp only [f57_q0 a0 N n]
    rfl

noncomputable def f57_T (a0 : (List Int)) (N : Nat) : Option (AV) := f57_s a0 (f57_L0 a0 N N)

theorem f57_ev (a0 : (List Int)) (N : Nat) : evF X57 N Tryd.f57 [enc tInts a0] = f57_T a0 N := by
  have h : evF X57 N Tryd.f57 [enc tInts a0] = f57_s a0 (f57_R0 a0 N N) := by kernel_rfl
  rw [h, f57_q0]
  rfl
noncomputable def X49 : Ctx := { T := TT, G := GG, C := [(48, g48), (54, g54)], L := [(3, [2, 3, 4, 7, 8, 9, 10, 11, 12, 13, 14, 15, 16, 17, 18, 19, 20, 21, 22, 23, 24, 25, 26, 27, 28, 29, 30, 31, 32, 33, 34], [1, 5])] }
noncomputable def f49_s0 (a0 : Int) (a1 : (List Int)) (k1 : (List Int) → Int → Option (AV)) : Option (AV) :=
  bif (decide ((0 : Int) < a0)) then
    bif (pickOK2 a1 (0 : Int)) then
      bif decide (0 ≤ (turnI (pickI a1 (0 : Int)) (w64 ((([] : List Int).length : Int) + (1 : Int))))) && decide ((turnI (pickI a1 (0 : Int)) (w64 ((([] : List Int).length : Int) + (1 : Int)))) ≤ (([] : List Int).length : Int)) then
        bif true && roomy ([] : List Int).length (([] : List Int).take (turnI (pickI a1 (0 : Int)) (w64 ((([] : List Int).length : Int) + (1 : Int)))).toNat).length 8 then
          bif roomy (([] : List Int) ++ (([] : List Int).take (turnI (pickI a1 (0 : Int)) (w64 ((([] : List Int).length : Int) + (1 : Int)))).toNat)).length [(0 : Int)].length 8 then
            bif decide (0 ≤ (turnI (pickI a1 (0 : Int)) (w64 ((([] : List Int).length : Int) + (1 : Int))))) && decide ((turnI (pickI a1 (0 : Int)) (w64 ((([] : List Int).length : Int) + (1 : Int)))) ≤ (([] : List Int).length : Int)) then
              bif roomy ((([] : List Int) ++ (([] : List Int).take (turnI (pickI a1 (0 : Int)) (w64 ((([] : List Int).length : Int) + (1 : Int)))).toNat)) ++ [(0 : Int)]).length (([] : List Int).drop (turnI (pickI a1 (0 : Int)) (w64 ((([] : List Int).length : Int) + (1 : Int)))).toNat).length 8 then
                k1 (((([] : List Int) ++ (([] : List Int).take (turnI (pickI a1 (0 : Int)) (w64 ((([] : List Int).length : Int) + (1 : Int)))).toNat)) ++ [(0 : Int)]) ++ (([] : List Int).drop (turnI (pickI a1 (0 : Int)) (w64 ((([] : List Int).length : Int) + (1 : Int)))).toNat)) (w64 ((0 : Int) + (1 : Int)))
              else
                none
            else
              none
          else
            none
        else
          none
      else
        none
    else
      none
  else
    some (.sl .int ⟨false, false, none⟩ ([] : List Int))

noncomputable def f49_s1 (a0 : Int) (a1 : (List Int)) (k1 : (List Int) → Int → Option (AV)) (v1_0 : (List Int)) (v1_1 : Int) : Option (AV) :=
  bif (decide (v1_1 < a0)) then
    bif (pickOK2 a1 v1_1) then
      bif decide (0 ≤ (turnI (pickI a1 v1_1) (w64 ((v1_0.length : Int) + (1 : Int))))) && decide ((turnI (pickI a1 v1_1) (w64 ((v1_0.length : Int) + (1 : Int)))) ≤ (v1_0.length : Int)) then
        bif true && roomy ([] : List Int).length (v1_0.take (turnI (pickI a1 v1_1) (w64 ((v1_0.length : Int) + (1 : Int)))).toNat).length 8 then
          bif roomy (([] : List Int) ++ (v1_0.take (turnI (pickI a1 v1_1) (w64 ((v1_0.length : Int) + (1 : Int)))).toNat)).length [v1_1].length 8 then
            bif decide (0 ≤ (turnI (pickI a1 v1_1) (w64 ((v1_0.length : Int) + (1 : Int))))) && decide ((turnI (pickI a1 v1_1) (w64 ((v1_0.length : Int) + (1 : Int)))) ≤ (v1_0.length : Int)) then
              bif roomy ((([] : List Int) ++ (v1_0.take (turnI (pickI a1 v1_1) (w64 ((v1_0.length : Int) + (1 : Int)))).toNat)) ++ [v1_1]).length (v1_0.drop (turnI (pickI a1 v1_1) (w64 ((v1_0.length : Int) + (1 : Int)))).toNat).length 8 then
                k1 (((([] : List Int) ++ (v1_0.take (turnI (pickI a1 v1_1) (w64 ((v1_0.length : Int) + (1 : Int)))).toNat)) ++ [v1_1]) ++ (v1_0.drop (turnI (pickI a1 v1_1) (w64 ((v1_0.length : Int) + (1 : Int)))).toNat)) (w64 (v1_1 + (1 : Int)))
              else
                none
            else
              none
          else
            none
        else
          none
      else
        none
    else
      none
  else
    some (.sl .int ⟨false, false, none⟩ v1_0)

noncomputable def f49_s (a0 : Int) (a1 : (List Int)) (k0 : Option (AV)) : Option (AV) :=
  k0

noncomputable def f49_R0 (a0 : Int) (a1 : (List Int)) (N : Nat) (n : Nat) : Option (AV) :=
  loopN (evC X49 N (sub [(1, 0), (1, 0), (0, 0), (1, 0), (0, 0), (0, 0)] (bodyOf Tryd.f49))) (keepOf X49.L (sub [(1, 0), (1, 0), (0, 0), (1, 0), (0, 0), (0, 0)] (bodyOf Tryd.f49))) n ⟨[.int a0, .sl .int ⟨false, false, none⟩ a1, .poison, .poison, .poison, .sl .int ⟨false, false, none⟩ ([] : List Int), .int (0 : Int), .poison, .poison, .poison, .poison, .poison, .poison, .poison, .poison, .poison, .poison, .poison, .poison, .poison, .poison, .poison, .poison, .poison, .poison, .poison, .poison, .poison, .poison, .poison, .poison, .poison, .poison, .poison, .poison], [.none, .none, .none, .none, .none, .none, .none, .none, .none, .none, .none, .none, .none, .none, .none, .none, .none, .none, .none, .none, .none, .none, .none, .none, .none, .none, .none, .none, .none, .none, .none, .none, .none, .none, .none]⟩ (ctxK X49 N [(1, 0), (1, 0), (0, 0), (1, 0), (0, 0)] (bodyOf Tryd.f49) (finK X49 Tryd.f49))

noncomputable def f49_R1 (a0 : Int) (a1 : (List Int)) (N : Nat) (n : Nat) (v1_0 : (List Int)) (v1_1 : Int) : Option (AV) :=
  loopN (evC X49 N (sub [(1, 0), (1, 0), (0, 0), (1, 0), (0, 0), (0, 0)] (bodyOf Tryd.f49))) (keepOf X49.L (sub [(1, 0), (1, 0), (0, 0), (1, 0), (0, 0), (0, 0)] (bodyOf Tryd.f49))) n ⟨[.int a0, .sl .int ⟨false, false, none⟩ a1, .poison, .poison, .poison, .sl .int ⟨false, false, none⟩ v1_0, .int v1_1, .poison, .poison, .poison, .poison, .poison, .poison, .poison, .poison, .poison, .poison, .poison, .poison, .poison, .poison, .poison, .poison, .poison, .poison, .poison, .poison, .poison, .poison, .poison, .poison, .poison, .poison, .poison, .poison], [.none, .none, .none, .none, .none, .none, .none, .none, .none, .none, .none, .none, .none, .none, .none, .none, .none, .none, .none, .none, .none, .none, .none, .none, .none, .lin 0 false, .none, .none, .none, .lin 0 false, .none, .none, .none, .lin 0 true, .none]⟩ (ctxK X49 N [(1, 0), (1, 0), (0, 0), (1, 0), (0, 0)] (bodyOf Tryd.f49) (finK X49 Tryd.f49))

theorem f49_e0 (a0 : Int) (a1 : (List Int)) (N : Nat) (n : Nat) : f49_R0 a0 a1 N (n + 1) = f49_s0 a0 a1 (f49_R1 a0 a1 N n) := by kernel_rfl

theorem f49_e1 (a0 : Int) (a1 : (List Int)) (N : Nat) (n : Nat) (v1_0 : (List Int)) (v1_1 : Int) : f49_R1 a0 a1 N (n + 1) v1_0 v1_1 = f49_s1 a0 a1 (f49_R1 a0 a1 N n) v1_0 v1_1 := by kernel_rfl

noncomputable def f49_L1 (a0 : Int) (a1 : (List Int)) (N : Nat) : Nat → (List Int) → Int → Option (AV)
  | 0, _, _ => none
  | n + 1, v1_0, v1_1 => f49_s1 a0 a1 (f49_L1 a0 a1 N n) v1_0 v1_1

noncomputable def f49_L0 (a0 : Int) (a1 : (List Int)) (N : Nat) : Nat → Option (AV)
  | 0 => none
  | n + 1 => f49_s0 a0 a1 (f49_L1 a0 a1 N n)

theorem f49_q1 (a0 : Int) (a1 : (List Int)) (N : Nat) : ∀ n : Nat, f49_R1 a0 a1 N n = f49_L1 a0 a1 N n
  | 0 => by
    funext v1_0
    funext v1_1
    rfl
  | n + 1 => by
    funext v1_0
    funext v1_1
    rw [f49_e1]
    simp only [f49_q1 a0 a1 N n]
    rfl

theorem f49_q0 (a0 : Int) (a1 : (List Int)) (N : Nat) : ∀ n : Nat, f49_R0 a0 a1 N n = f49_L0 a0 a1 N n
  | 0 => by
    rfl
  | n + 1 => by
    rw [f49_e0]
    simp only [f49_q1 a0 a1 N n]
    rfl

noncomputable def f49_T (a0 : Int) (a1 : (List Int)) (N : Nat) : Option (AV) := f49_s a0 a1 (f49_L0 a0 a1 N N)

theorem f49_ev (a0 : Int) (a1 : (List Int)) (N : Nat) : evF X49 N Tryd.f49 [enc .int a0, enc tInts a1] = f49_T a0 a1 N := by
  have h : evF X49 N Tryd.f49 [enc .int a0, enc tInts a1] = f49_s a0 a1 (f49_R0 a0 a1 N N) := by kernel_rfl
  rw [h, f49_q0]
  rfl

end Ev
end Go.Proofs.YtidnikjkpbmhhaaDoor
/- Spools, and orders that numbers choose: what the walks come to. -/
set_option linter.unusedVariables false
set_option linter.unusedSimpArgs false
set_option maxRecDepth 4000
namespace Go.Proofs.YtidnikjkpbmhhaaDoor
namespace Ev

theorem get_int {l : List Int} {i : Nat} (h : i < l.length) : l.getD (i : Int).toNat (0 : Int) = l[i] := by simp [List.getD, h]

theorem f76_loop (l : List Int) (hl : lenOK l = true) (a : Int) (N : Nat) : ∀ (m i : Nat), i + m = l.length → f76_L0 l a N (m + 1) i = some (.int (findFrom a (l.drop i) i))
  | 0, i, h => by
    have e : f76_L0 l a N (0 + 1) i = f76_s0 l a (f76_L0 l a N 0) i := rfl
    rw [e]
    unfold f76_s0
    have h1 : decide ((i : Int) < (l.length : Int)) = false := by simp; omega
    rw [h1, List.drop_eq_nil_of_le (by omega)]
    rfl
  | m + 1, i, h => by
    have e : f76_L0 l a N (m + 1 + 1) i = f76_s0 l a (f76_L0 l a N (m + 1)) i := rfl
    rw [e]
    have hlt : i < l.length := by omega
    unfold f76_s0
    have h1 : decide ((i : Int) < (l.length : Int)) = true := by simp; omega
    have h2 : decide (0 ≤ (i : Int)) = true := by simp
    rw [get_int hlt, h1, h2, w64_succ hlt (Nat.le_of_ble_eq_true hl), List.drop_eq_getElem_cons hlt, findFrom, f76_loop l hl a N m (i + 1) (by omega)]
    by_cases c : a = l[i]
    · rw [decide_eq_true c, if_pos c.symm]
      rfl
    · rw [decide_eq_false c, if_neg fun h => c h.symm]
      simp only [Bool.and_self, cond_true, cond_false]
      rfl
theorem f76_sp (x0 : (List Int)) (x1 : Int) (hp : lenOK2 x0 x1 = true) : ∃ (N : Nat) (r0 : AV), f76_T x0 x1 N = some r0 ∧ wkAV r0 = enc .int (findI x0 x1) :=
  ⟨x0.length + 1, .int (findI x0 x1), f76_loop x0 hp x1 (x0.length + 1) x0.length 0 (by omega), rfl⟩
theorem f87_sp (x0 : (List Int)) (x1 : Int) (hp : lenOK2 x0 x1 = true) : ∃ (N : Nat) (r0 : AV), f87_T x0 x1 = some r0 ∧ wkAV r0 = enc .bool (containsI x0 x1) :=
  ⟨0, .bool (containsI x0 x1), by unfold f87_T f87_s; rw [hp]; rfl, rfl⟩

theorem find_ge (n : Int) : ∀ (l : List Int) (i : Int), 0 ≤ i → (0 ≤ findFrom n l i ↔ n ∈ l)
  | [], i, hi => by simp [findFrom]
  | x :: l, i, hi => by
    rw [findFrom, List.mem_cons]
    by_cases c : x = n
    · rw [if_pos c]
      exact ⟨fun _ => .inl c.symm, fun _ => hi⟩
    · rw [if_neg c, find_ge n l (i + 1) (by omega)]
      exact ⟨.inr, fun h => h.resolve_left fun e => c e.symm⟩
theorem contains_iff (l : List Int) (n : Int) : containsI l n = decide (n ∈ l) := by
  unfold containsI findI
  exact decide_eq_decide.2 (find_ge n l 0 (by omega))

theorem f63_loop (x : Fi) (l : List Int) (hl : lenOK l = true) (N : Nat) : ∀ (m i : Nat), i + m = l.length → f63_L0 x l N (m + 1) i = some (.bool (areFrom x.1.length (l.take i) (l.drop i)))
  | 0, i, h => by
    have e : f63_L0 x l N (0 + 1) i = f63_s0 x l (f63_L0 x l N 0) i := rfl
    rw [e]
    unfold f63_s0
    have h1 : decide ((i : Int) < (l.length : Int)) = false := by simp; omega
    rw [h1, List.drop_eq_nil_of_le (by omega)]
    rfl
  | m + 1, i, h => by
    have e : f63_L0 x l N (m + 1 + 1) i = f63_s0 x l (f63_L0 x l N (m + 1)) i := rfl
    rw [e]
    have hlt : i < l.length := by omega
    unfold f63_s0
    have h1 : decide ((i : Int) < (l.length : Int)) = true := by simp; omega
    have h2 : decide (0 ≤ (i : Int)) = true := by simp
    have h3 : decide ((i : Int) ≤ (l.length : Int)) = true := by simp; omega
    have ht : (i : Int).toNat = i := by simp
    have h4 : lenOK2 (l.take i) l[i] = true := by
      have := Nat.le_of_ble_eq_true hl
      unfold lenOK2 lenOK
      refine Nat.ble_eq_true_of_le ?_
      simp
      omega
    rw [get_int hlt, h1, h2, h3, ht, h4, contains_iff, w64_succ hlt (Nat.le_of_ble_eq_true hl), List.drop_eq_getElem_cons hlt, areFrom, f63_loop x l hl N m (i + 1) (by omega), List.take_succ_eq_append_getElem hlt]
    cases amid l[i] 0 (w64 ((x.1.length : Int) - 1)) <;> cases decide (l[i] ∈ l.take i) <;> rfl
theorem f63_sp (x0 : Fi) (x1 : (List Int)) (hp : areOK x0 x1 = true) : ∃ (N : Nat) (r0 : AV), f63_T x0 x1 N = some r0 ∧ wkAV r0 = enc .bool (areReelsB x0 x1) := by
  refine ⟨x1.length + 1, .bool (areReelsB x0 x1), ?_, rfl⟩
  have := f63_loop x0 x1 hp (x1.length + 1) x1.length 0 (by omega)
  exact this

/-- Numbers of reels, each at most once. -/
theorem are_spec (n : Nat) (hn : n ≤ 1000) (hn0 : 1 ≤ n) : ∀ (l pre : List Int), areFrom n pre l = true → (∀ k ∈ l, 0 ≤ k ∧ k < n) ∧ (∀ k ∈ l, k ∉ pre) ∧ l.Nodup
  | [], pre, h => ⟨by simp, by simp, List.nodup_nil⟩
  | k :: r, pre, h => by
    rw [areFrom] at h
    simp only [Bool.and_eq_true, Bool.not_eq_true', decide_eq_false_iff_not, amid, decide_eq_true_eq] at h
    obtain ⟨⟨h1, h2⟩, h3, h4⟩ := h
    rw [w64_small (by omega) (by omega)] at h2
    obtain ⟨g1, g2, g3⟩ := are_spec n hn hn0 r (pre ++ [k]) h4
    refine ⟨fun j hj => ?_, fun j hj => ?_, List.nodup_cons.2 ⟨fun hk => g2 k hk (by simp), g3⟩⟩
    · rcases List.mem_cons.1 hj with rfl | hj
      · omega
      · exact g1 j hj
    · rcases List.mem_cons.1 hj with rfl | hj
      · exact h3
      · exact fun hp => g2 j hj (by simp [hp])
theorem are_len {x : Fi} {l : List Int} (hc : checkB x = true) (h : areReelsB x l = true) : l.length ≤ x.1.length ∧ l.all (inReels x) = true ∧ l.Nodup := by
  have hl := check_len hc
  obtain ⟨h1, _, h3⟩ := are_spec x.1.length (by omega) (by omega) l [] h
  refine ⟨?_, ?_, h3⟩
  · have hs : l ⊆ (List.range x.1.length).map (fun k : Nat => (k : Int)) := fun k hk => by
      have := h1 k hk
      rw [List.mem_map]
      exact ⟨k.toNat, by simp; omega, by omega⟩
    have := h3.length_le_of_subset hs
    simpa using this
  · rw [List.all_eq_true]
    intro k hk
    have := h1 k hk
    simp only [inReels, Bool.and_eq_true, decide_eq_true_eq]
    exact this

theorem f84_sp (x0 : Fi) (x1 : List Int) (x2 : Int) (hp : joinOK x0 x1 x2 = true) : ∃ (N : Nat) (r0 : AV), f84_T x0 x1 x2 = some r0 ∧ wkAV r0 = .tup [.agg [enc tRF ((joinedI x0 x1 x2).1), .tok 0 tRF ((joinedI x0 x1 x2).1)], enc tInts ((joinedI x0 x1 x2).2.1), enc .int ((joinedI x0 x1 x2).2.2)] := by
  simp only [joinOK, Bool.and_eq_true] at hp
  obtain ⟨hx, hl⟩ := hp
  have h : ∀ r, askOK x0 r = true := fun _ => hx
  have ha : areOK x0 x1 = true := hl
  have e : f84_T x0 x1 x2 = (bif (!decide (((askedF x0 (decide (0 < (x1.length : Int)) && (areReelsB x0 x1 && amid x2 0 999))).2) = (0 : Int))) then
            some (.tup [.agg [enc tRF ((askedF x0 (decide (0 < (x1.length : Int)) && (areReelsB x0 x1 && amid x2 0 999))).1), .tok 0 tRF ((askedF x0 (decide (0 < (x1.length : Int)) && (areReelsB x0 x1 && amid x2 0 999))).1)], .sl .int ⟨true, true, none⟩ ([] : List Int), .int ((askedF x0 (decide (0 < (x1.length : Int)) && (areReelsB x0 x1 && amid x2 0 999))).2)])
          else
            bif decide (((askedF x0 (decide (0 < (x1.length : Int)) && (areReelsB x0 x1 && amid x2 0 999))).1) = ((askedF x0 (decide (0 < (x1.length : Int)) && (areReelsB x0 x1 && amid x2 0 999))).1)) && ((spoolsOK ((askedF x0 (decide (0 < (x1.length : Int)) && (areReelsB x0 x1 && amid x2 0 999))).1) x1 x2)) then
              bif (!((spoolsF ((askedF x0 (decide (0 < (x1.length : Int)) && (areReelsB x0 x1 && amid x2 0 999))).1) x1 x2).2)) then
                some (.tup [.agg [enc tRF ((askedF x0 (decide (0 < (x1.length : Int)) && (areReelsB x0 x1 && amid x2 0 999))).1), .tok 0 tRF ((askedF x0 (decide (0 < (x1.length : Int)) && (areReelsB x0 x1 && amid x2 0 999))).1)], .sl .int ⟨true, true, none⟩ ([] : List Int), .int (4 : Int)])
              else
                some (.tup [.agg [enc tRF ((askedF x0 (decide (0 < (x1.length : Int)) && (areReelsB x0 x1 && amid x2 0 999))).1), .tok 0 tRF ((askedF x0 (decide (0 < (x1.length : Int)) && (areReelsB x0 x1 && amid x2 0 999))).1)], .sl .int ⟨false, false, none⟩ ((spoolsF ((askedF x0 (decide (0 < (x1.length : Int)) && (areReelsB x0 x1 && amid x2 0 999))).1) x1 x2).1), .int (0 : Int)])
            else
              none) := by
    unfold f84_T f84_s
    simp only [h, ha, cond_true]
    cases decide (0 < (x1.length : Int)) <;> cases areReelsB x0 x1 <;> rfl
  rw [e]
  unfold joinedI
  generalize hr : (decide (0 < (x1.length : Int)) && (areReelsB x0 x1 && amid x2 0 999)) = r
  by_cases h0 : askedI x0 r = 0
  · obtain ⟨hc, rfl⟩ := asked_zero h0
    simp only [Bool.and_eq_true] at hr
    have hal := are_len hc hr.2.1
    have hcl := check_len hc
    have hs : spoolsOK x0 x1 x2 = true := by
      simp only [spoolsOK, Bool.and_eq_true, decide_eq_true_eq]
      exact ⟨by omega, hal.2.1⟩
    have e1 : (askedF x0 true) = (x0, 0) := by simp [askedF, h0]
    rw [e1, if_pos h0]
    cases h2 : (spoolsF x0 x1 x2).2 with
    | true =>
      refine ⟨0, .tup [.agg [enc tRF x0, .tok 0 tRF x0], .sl .int ⟨false, false, none⟩ (spoolsF x0 x1 x2).1, .int 0], by simp [hs, h2], ?_⟩
      simp only [wkAV, wkL, wk_enc, if_true, enc]
      rfl
    | false =>
      refine ⟨0, .tup [.agg [enc tRF x0, .tok 0 tRF x0], .sl .int ⟨true, true, none⟩ [], .int 4], by simp [hs, h2], ?_⟩
      simp only [wkAV, wkL, wk_enc, Bool.false_eq_true, if_false, enc]
      rfl
  · rw [if_neg h0]
    refine ⟨0, .tup [.agg [enc tRF zRF, .tok 0 tRF zRF], .sl .int ⟨true, true, none⟩ [], .int (askedI x0 r)], by simp [askedF, h0], ?_⟩
    simp only [wkAV, wkL, wk_enc, enc]
    rfl
theorem f38_sp (x0 : Fi) (x1 : List Int) (x2 : Int) (hp : joinOK x0 x1 x2 = true) : ∃ (N : Nat) (r0 : AV), f38_T x0 x1 x2 = some r0 ∧ wkAV r0 = .tup [enc tInts ((SpoolsI x0 x1 x2).1), enc .int ((SpoolsI x0 x1 x2).2)] := by
  unfold f38_T f38_s SpoolsI
  rw [hp]
  by_cases h0 : (joinedI x0 x1 x2).2.2 = 0
  · refine ⟨0, .tup [.sl .int ⟨false, true, none⟩ ((joinedI x0 x1 x2).2.1), .int 0], by simp [h0], ?_⟩
    simp only [wkAV, wkL, enc, h0]
  · refine ⟨0, .tup [.sl .int ⟨true, true, none⟩ [], .int (joinedI x0 x1 x2).2.2], by simp [h0], ?_⟩
    have hn : (joinedI x0 x1 x2).2.1 = [] := by
      unfold joinedI at h0 ⊢
      split
      · rename_i h1
        rw [if_pos h1] at h0
        split
        · rename_i h2
          rw [if_pos h2] at h0
          exact absurd rfl h0
        · rfl
      · rfl
    simp only [wkAV, wkL, enc, hn]

theorem f57_loop (l : List Int) (hl : lenOK l = true) (N : Nat) : ∀ (m i : Nat) (a : Int), i + m = l.length → f57_L0 l N (m + 1) a i = some (.int (sumI (l.drop i) a))
  | 0, i, a, h => by
    have e : f57_L0 l N (0 + 1) a i = f57_s0 l (f57_L0 l N 0) a i := rfl
    rw [e]
    unfold f57_s0
    have h1 : decide ((i : Int) < (l.length : Int)) = false := by simp; omega
    rw [h1, List.drop_eq_nil_of_le (by omega)]
    rfl
  | m + 1, i, a, h => by
    have e : f57_L0 l N (m + 1 + 1) a i = f57_s0 l (f57_L0 l N (m + 1)) a i := rfl
    rw [e]
    have hlt : i < l.length := by omega
    unfold f57_s0
    have h1 : decide ((i : Int) < (l.length : Int)) = true := by simp; omega
    have h2 : decide (0 ≤ (i : Int)) = true := by simp
    rw [get_int hlt, h1, h2, w64_succ hlt (Nat.le_of_ble_eq_true hl), List.drop_eq_getElem_cons hlt, sumI, f57_loop l hl N m (i + 1) _ (by omega)]
    rfl
theorem f57_sp (x0 : (List Int)) (hp : lenOK x0 = true) : ∃ (N : Nat) (r0 : AV), f57_T x0 N = some r0 ∧ wkAV r0 = enc .int (sumI0 x0) :=
  ⟨x0.length + 1, .int (sumI0 x0), f57_loop x0 hp (x0.length + 1) x0.length 0 0 (by omega), rfl⟩

theorem shuf_len (bits : List Int) : ∀ (m i : Nat) (out : List Int), (shufG bits m i out).length = out.length + m
  | 0, i, out => rfl
  | m + 1, i, out => by
    rw [shufG, shuf_len bits m (i + 1)]
    simp only [List.length_append, List.length_take, List.length_drop, List.length_nil, List.length_cons]
    omega

theorem f49_loop (many : Int) (bits : List Int) (hm : many ≤ 1000) (hb : lenOK bits = true) (N : Nat) : ∀ (m i : Nat) (out : List Int), ((i : Int) + m = many ∨ (m = 0 ∧ many ≤ i)) → out.length = i → i ≤ 1000 → f49_L1 many bits N (m + 1) out i = some (.sl .int ⟨false, false, some (0, 0)⟩ (shufG bits m i out)) ∨ ∃ z g o, f49_L1 many bits N (m + 1) out i = some (.sl .int ⟨z, g, o⟩ (shufG bits m i out))
  | 0, i, out, h, ho, hi => by
    have e : f49_L1 many bits N (0 + 1) out i = f49_s1 many bits (f49_L1 many bits N 0) out i := rfl
    rw [e]
    unfold f49_s1
    have h1 : decide ((i : Int) < many) = false := by simp; omega
    rw [h1]
    exact .inr ⟨_, _, _, rfl⟩
  | m + 1, i, out, h, ho, hi => by
    have e : f49_L1 many bits N (m + 1 + 1) out i = f49_s1 many bits (f49_L1 many bits N (m + 1)) out i := rfl
    rw [e]
    have hlt : (i : Int) < many := by omega
    have hpk : pickOK2 bits (i : Int) = true := hb
    have hw : w64 ((out.length : Int) + 1) = (out.length : Int) + 1 := w64_small (by omega) (by omega)
    have htr := turn_range (n := pickI bits (i : Int)) (m := (out.length : Int) + 1) (by omega) (by omega)
    have hro : ∀ a b : Nat, a + b ≤ 3000 → roomy a b 8 = true := fun a b hab => by
      unfold roomy
      refine Nat.ble_eq_true_of_le ?_
      omega
    have hwi : w64 ((i : Int) + 1) = ((i + 1 : Nat) : Int) := w64_succ (n := 3000) (by omega) (by omega)
    unfold f49_s1
    rw [decide_eq_true hlt, hpk, hw, hwi]
    have h2 : decide (0 ≤ turnI (pickI bits (i : Int)) ((out.length : Int) + 1)) = true := by simpa using htr.1
    have h3 : decide (turnI (pickI bits (i : Int)) ((out.length : Int) + 1) ≤ (out.length : Int)) = true := by simp; omega
    rw [h2, h3, hro _ _ (by simp; omega), hro _ _ (by simp; omega), hro _ _ (by simp; omega)]
    simp only [cond_true, Bool.and_self, Bool.true_and]
    rw [shufG]
    exact f49_loop many bits hm hb N m (i + 1) _ (by omega) (by simp; omega) (by omega)

theorem f49_sp (x0 : Int) (x1 : (List Int)) (hp : shufOK x0 x1 = true) : ∃ (N : Nat) (r0 : AV), f49_T x0 x1 N = some r0 ∧ wkAV r0 = enc tInts (shufI x0 x1) := by
  simp only [shufOK, Bool.and_eq_true, decide_eq_true_eq] at hp
  obtain ⟨hm, hb⟩ := hp
  refine ⟨x0.toNat + 1, ?_⟩
  unfold f49_T f49_s
  have e : f49_L0 x0 x1 (x0.toNat + 1) (x0.toNat + 1) = f49_s0 x0 x1 (f49_L1 x0 x1 (x0.toNat + 1) x0.toNat) := rfl
  rw [e]
  unfold shufI
  by_cases h0 : (0 : Int) < x0
  · obtain ⟨m, hm1⟩ : ∃ m, x0.toNat = m + 1 := ⟨x0.toNat - 1, by omega⟩
    have hpk : pickOK2 x1 0 = true := hb
    have htr := turn_range (n := pickI x1 0) (m := 1) (by omega) (by omega)
    have ht0 : turnI (pickI x1 0) 1 = 0 := by omega
    have hwi : w64 ((0 : Int) + 1) = ((1 : Nat) : Int) := w64_succ (i := 0) (n := 3000) (by omega) (by omega)
    unfold f49_s0
    rw [decide_eq_true h0, hpk]
    have hw1 : w64 ((([] : List Int).length : Int) + 1) = 1 := w64_small (n := 1) (by omega) (by omega)
    have hw2 : w64 (((0 : Nat) : Int) + 1) = 1 := hw1
    simp only [hw1, hw2, ht0]
    rw [hm1, shufG]
    have hl := f49_loop x0 x1 hm hb (m + 1 + 1) m 1 [0] (by omega) rfl (by omega)
    have hg : ((([] : List Int) ++ (([] : List Int).take (turnI (pickI x1 ((0 : Nat) : Int)) ((([] : List Int).length : Int) + 1)).toNat)) ++ [((0 : Nat) : Int)]) ++ (([] : List Int).drop (turnI (pickI x1 ((0 : Nat) : Int)) ((([] : List Int).length : Int) + 1)).toNat) = [0] := by simp
    rw [hg]
    rcases hl with hl | ⟨z, g, o, hl⟩
    · exact ⟨_, hl, rfl⟩
    · exact ⟨_, hl, rfl⟩
  · have hz : x0.toNat = 0 := by omega
    unfold f49_s0
    rw [decide_eq_false h0, hz]
    exact ⟨_, rfl, rfl⟩

end Ev
end Go.Proofs.YtidnikjkpbmhhaaDoor
/- The contracts of spools, and of orders that numbers choose. -/
set_option linter.unusedVariables false
set_option maxRecDepth 4000
namespace Go.Proofs.YtidnikjkpbmhhaaDoor
namespace Ev

theorem k76 : Good 76 g76 := ⟨ctr_ofN (B := Bs) (X := X76) (ctxOK rfl rfl rfl rfl rfl rfl AllC.nil) Tryd.func76 (fun args r h => by
  unfold g76 at h
  split at h
  · rename_i a0 a1
    split at h
    · rename_i x0 x1 h0 h1
      simp only [Option.some.injEq, Prod.mk.injEq] at h
      obtain ⟨hp, rfl⟩ := h
      obtain ⟨N, r0, q1, q2⟩ := f76_sp x0 x1 hp
      refine ⟨N, r0, ?_, q2⟩
      simp only [wkL, wk_dec h0, wk_dec h1]
      exact (f76_ev x0 x1 N).trans q1
    · cases h
  · cases h), Tryd.f76, Tryd.func76, by kernel_rfl, by kernel_rfl⟩
theorem k87 : Good 87 g87 := ⟨ctr_ofN (B := Bs) (X := X87) (ctxOK rfl rfl rfl rfl rfl rfl (AllC.cons k76 AllC.nil)) Tryd.func87 (fun args r h => by
  unfold g87 at h
  split at h
  · rename_i a0 a1
    split at h
    · rename_i x0 x1 h0 h1
      simp only [Option.some.injEq, Prod.mk.injEq] at h
      obtain ⟨hp, rfl⟩ := h
      obtain ⟨N, r0, q1, q2⟩ := f87_sp x0 x1 hp
      refine ⟨N, r0, ?_, q2⟩
      simp only [wkL, wk_dec h0, wk_dec h1]
      exact (f87_ev x0 x1 N).trans q1
    · cases h
  · cases h), Tryd.f87, Tryd.func87, by kernel_rfl, by kernel_rfl⟩
theorem k63 : Good 63 g63 := ⟨ctr_ofN (B := Bs) (X := X63) (ctxOK rfl rfl rfl rfl rfl rfl (AllC.cons k68 (AllC.cons k87 AllC.nil))) Tryd.func63 (fun args r h => by
  unfold g63 at h
  split at h
  · rename_i a0 a1
    split at h
    · rename_i x0 x1 h0 h1
      simp only [Option.some.injEq, Prod.mk.injEq] at h
      obtain ⟨hp, rfl⟩ := h
      obtain ⟨N, r0, q1, q2⟩ := f63_sp x0 x1 hp
      refine ⟨N, r0, ?_, q2⟩
      simp only [wkL, wk_dec h0, wk_dec h1]
      exact (f63_ev x0 x1 N).trans q1
    · cases h
  · cases h), Tryd.f63, Tryd.func63, by kernel_rfl, by kernel_rfl⟩
theorem k84 : Good 84 g84 := ⟨ctr_ofN (B := Bs) (X := X84) (ctxOK rfl rfl rfl rfl rfl rfl (AllC.cons k62 (AllC.cons k63 (AllC.cons k68 (AllC.cons k96 AllC.nil))))) Tryd.func84 (fun args r h => by
  unfold g84 at h
  split at h
  · rename_i a0 a1 a2
    split at h
    · rename_i x0 x1 x2 h0 h1 h2
      simp only [Option.some.injEq, Prod.mk.injEq] at h
      obtain ⟨hp, rfl⟩ := h
      obtain ⟨N, r0, q1, q2⟩ := f84_sp x0 x1 x2 hp
      refine ⟨N, r0, ?_, q2⟩
      simp only [wkL, wk_dec h0, wk_dec h1, wk_dec h2]
      exact (f84_ev x0 x1 x2 N).trans q1
    · cases h
  · cases h), Tryd.f84, Tryd.func84, by kernel_rfl, by kernel_rfl⟩
theorem k38 : Good 38 g38 := ⟨ctr_ofN (B := Bs) (X := X38) (ctxOK rfl rfl rfl rfl rfl rfl (AllC.cons k84 AllC.nil)) Tryd.func38 (fun args r h => by
  unfold g38 at h
  split at h
  · rename_i a0 a1 a2
    split at h
    · rename_i x0 x1 x2 h0 h1 h2
      simp only [Option.some.injEq, Prod.mk.injEq] at h
      obtain ⟨hp, rfl⟩ := h
      obtain ⟨N, r0, q1, q2⟩ := f38_sp x0 x1 x2 hp
      refine ⟨N, r0, ?_, q2⟩
      simp only [wkL, wk_dec h0, wk_dec h1, wk_dec h2]
      exact (f38_ev x0 x1 x2 N).trans q1
    · cases h
  · cases h), Tryd.f38, Tryd.func38, by kernel_rfl, by kernel_rfl⟩
theorem k57 : Good 57 g57 := ⟨ctr_ofN (B := Bs) (X := X57) (ctxOK rfl rfl rfl rfl rfl rfl AllC.nil) Tryd.func57 (fun args r h => by
  unfold g57 at h
  split at h
  · rename_i a0
    split at h
    · rename_i x0 h0
      simp only [Option.some.injEq, Prod.mk.injEq] at h
      obtain ⟨hp, rfl⟩ := h
      obtain ⟨N, r0, q1, q2⟩ := f57_sp x0 hp
      refine ⟨N, r0, ?_, q2⟩
      simp only [wkL, wk_dec h0]
      exact (f57_ev x0 N).trans q1
    · cases h
  · cases h), Tryd.f57, Tryd.func57, by kernel_rfl, by kernel_rfl⟩
theorem k49 : Good 49 g49 := ⟨ctr_ofN (B := Bs) (X := X49) (ctxOK rfl rfl rfl rfl rfl rfl (AllC.cons k48 (AllC.cons k54 AllC.nil))) Tryd.func49 (fun args r h => by
  unfold g49 at h
  split at h
  · rename_i a0 a1
    split at h
    · rename_i x0 x1 h0 h1
      simp only [Option.some.injEq, Prod.mk.injEq] at h
      obtain ⟨hp, rfl⟩ := h
      obtain ⟨N, r0, q1, q2⟩ := f49_sp x0 x1 hp
      refine ⟨N, r0, ?_, q2⟩
      simp only [wkL, wk_dec h0, wk_dec h1]
      exact (f49_ev x0 x1 N).trans q1
    · cases h
  · cases h), Tryd.f49, Tryd.func49, by kernel_rfl, by kernel_rfl⟩

end Ev
end Go.Proofs.YtidnikjkpbmhhaaDoor
/- How long reels last, in plain words. -/
namespace Go.Proofs.YtidnikjkpbmhhaaDoor
namespace Ev

def loI (s : Sp) : Int := s.1
def hiI (s : Sp) : Int := s.2
def endI (b : Bool) (s : Sp) : Int := if b = true then s.2 else s.1
def lastsL (b : Bool) (x : Fi) (l : List Int) (n : Int) : List Int := l.map fun k => w64 (endI b (wornS x k n) * endI b x.2.1)
def lastsI (b : Bool) (x : Fi) (l : List Int) (n : Int) : Int := sumI0 (lastsL b x l n)
def TimeI (x : Fi) (l : List Int) (n : Int) : Sp := (lastsI false x l n, lastsI true x l n)
def LastsI (x : Fi) (l : List Int) (n : Int) : Sp × Int :=
  (if askedI x (areReelsB x l && amid n 0 999) = 0 then TimeI x l n else z2, askedI x (areReelsB x l && amid n 0 999))
def chG (x : Fi) (l : List Int) (n : Int) : List Int → Int → List Sp
  | [], _ => []
  | c :: cs, at_ => TimeI x (l.take (w64 (at_ + c)).toNat) n :: chG x l n cs (w64 (at_ + c))
def ChangesI (x : Fi) (l : List Int) (n : Int) : List Sp × Int :=
  (if (joinedI x l n).2.2 = 0 then chG x l n ((joinedI x l n).2.1.take (w64 (((joinedI x l n).2.1.length : Int) - 1)).toNat) 0 else [], (joinedI x l n).2.2)

end Ev
end Go.Proofs.YtidnikjkpbmhhaaDoor
/- How long reels last, as the evaluator walks it. -/
set_option linter.unusedVariables false
set_option maxRecDepth 4000
namespace Go.Proofs.YtidnikjkpbmhhaaDoor
namespace Ev

noncomputable def g100 : List AV → Option (Bool × AV)
  | [a0] =>
    match dec tSpan a0 with
    | some x0 => some (true, enc .int (loI x0))
    | _ => none
  | _ => none
noncomputable def g101 : List AV → Option (Bool × AV)
  | [a0] =>
    match dec tSpan a0 with
    | some x0 => some (true, enc .int (hiI x0))
    | _ => none
  | _ => none
noncomputable def g99 : List AV → Option (Bool × AV)
  | [a0] =>
    match dec tInts a0 with
    | some x0 => some ((lenOK x0), enc .int (sumI0 x0))
    | _ => none
  | _ => none
noncomputable def g93l : List AV → Option (Bool × AV)
  | [.agg [a0, .tok 0 t0 d0], a1, a2, .agg [.fn 100 [] []]] =>
    match dec tRF a0, castD tRF t0 d0, dec tInts a1, dec .int a2 with
    | some x0, some y0, some x1, some x2 => some (decide (x0 = y0) && (spoolsOK x0 x1 x2), enc .int (lastsI false x0 x1 x2))
    | _, _, _, _ => none
  | _ => none
noncomputable def g93h : List AV → Option (Bool × AV)
  | [.agg [a0, .tok 0 t0 d0], a1, a2, .agg [.fn 101 [] []]] =>
    match dec tRF a0, castD tRF t0 d0, dec tInts a1, dec .int a2 with
    | some x0, some y0, some x1, some x2 => some (decide (x0 = y0) && (spoolsOK x0 x1 x2), enc .int (lastsI true x0 x1 x2))
    | _, _, _, _ => none
  | _ => none
noncomputable def g93 (args : List AV) : Option (Bool × AV) := match g93l args with
  | some r => some r
  | none => g93h args
noncomputable def g94 : List AV → Option (Bool × AV)
  | [] => some (true, .agg [.fn 100 [] []])
  | _ => none
noncomputable def g95 : List AV → Option (Bool × AV)
  | [] => some (true, .agg [.fn 101 [] []])
  | _ => none
noncomputable def g82 : List AV → Option (Bool × AV)
  | [.agg [a0, .tok 0 t0 d0], a1, a2] =>
    match dec tRF a0, castD tRF t0 d0, dec tInts a1, dec .int a2 with
    | some x0, some y0, some x1, some x2 => some (decide (x0 = y0) && ((spoolsOK x0 x1 x2)), enc tSpan (TimeI x0 x1 x2))
    | _, _, _, _ => none
  | _ => none
noncomputable def g36 : List AV → Option (Bool × AV)
  | [a0, a1, a2] =>
    match dec tRF a0, dec tInts a1, dec .int a2 with
    | some x0, some x1, some x2 => some ((joinOK x0 x1 x2), .tup [enc tSpan ((LastsI x0 x1 x2).1), enc .int ((LastsI x0 x1 x2).2)])
    | _, _, _ => none
  | _ => none
noncomputable def g40 : List AV → Option (Bool × AV)
  | [a0, a1, a2] =>
    match dec tRF a0, dec tInts a1, dec .int a2 with
    | some x0, some x1, some x2 => some ((joinOK x0 x1 x2), .tup [enc tSpans ((ChangesI x0 x1 x2).1), enc .int ((ChangesI x0 x1 x2).2)])
    | _, _, _ => none
  | _ => none
noncomputable def X100 : Ctx := { T := TT, G := GG, C := [], L := [] }
noncomputable def f100_s (a0 : (Int × Int)) : Option (AV) :=
  some (.int a0.1)

noncomputable def f100_T (a0 : (Int × Int)) : Option (AV) := f100_s a0

theorem f100_ev (a0 : (Int × Int)) (N : Nat) : evF X100 N Tryd.f100 [enc tSpan a0] = f100_T a0 := by
  have h : evF X100 N Tryd.f100 [enc tSpan a0] = f100_s a0 := by kernel_rfl
  rw [h]
  rfl
noncomputable def X101 : Ctx := { T := TT, G := GG, C := [], L := [] }
noncomputable def f101_s (a0 : (Int × Int)) : Option (AV) :=
  some (.int a0.2)

noncomputable def f101_T (a0 : (Int × Int)) : Option (AV) := f101_s a0

theorem f101_ev (a0 : (Int × Int)) (N : Nat) : evF X101 N Tryd.f101 [enc tSpan a0] = f101_T a0 := by
  have h : evF X101 N Tryd.f101 [enc tSpan a0] = f101_s a0 := by kernel_rfl
  rw [h]
  rfl
noncomputable def X99 : Ctx := { T := TT, G := GG, C := [], L := [(3, [0, 1, 2, 4, 5, 9, 10, 11, 12, 13, 14, 15, 16], [6])] }
noncomputable def f99_s0 (a0 : (List Int)) (k0 : Int → Int → Option (AV)) (v0_0 : Int) (v0_1 : Int) : Option (AV) :=
  bif (decide (v0_1 < (a0.length : Int))) then
    bif decide (0 ≤ v0_1) && decide (v0_1 < (a0.length : Int)) then
      k0 (w64 (v0_0 + (a0.getD v0_1.toNat (0 : Int)))) (w64 (v0_1 + (1 : Int)))
    else
      none
  else
    some (.int v0_0)

noncomputable def f99_s (a0 : (List Int)) (k0 : Int → Int → Option (AV)) : Option (AV) :=
  k0 (0 : Int) (0 : Int)

noncomputable def f99_R0 (a0 : (List Int)) (N : Nat) (n : Nat) (v0_0 : Int) (v0_1 : Int) : Option (AV) :=
  loopN (evC X99 N (sub [(1, 0), (1, 0), (0, 0), (1, 0), (0, 0), (0, 0)] (bodyOf Tryd.f99))) (keepOf X99.L (sub [(1, 0), (1, 0), (0, 0), (1, 0), (0, 0), (0, 0)] (bodyOf Tryd.f99))) n ⟨[.poison, .poison, .poison, .int v0_0, .poison, .poison, .sl .int ⟨false, false, none⟩ a0, .int (a0.length : Int), .int v0_1, .poison, .poison, .poison, .poison, .poison, .poison, .poison, .poison], [.none, .none, .none, .none, .none, .none, .none, .none, .none, .none, .none, .none, .none, .none, .none, .none, .none]⟩ (ctxK X99 N [(1, 0), (1, 0), (0, 0), (1, 0), (0, 0)] (bodyOf Tryd.f99) (finK X99 Tryd.f99))

theorem f99_e0 (a0 : (List Int)) (N : Nat) (n : Nat) (v0_0 : Int) (v0_1 : Int) : f99_R0 a0 N (n + 1) v0_0 v0_1 = f99_s0 a0 (f99_R0 a0 N n) v0_0 v0_1 := by kernel_rfl

noncomputable def f99_L0 (a0 : (List Int)) (N : Nat) : Nat → Int → Int → Option (AV)
  | 0, _, _ => none
  | n + 1, v0_0, v0_1 => f99_s0 a0 (f99_L0 a0 N n) v0_0 v0_1

theorem f99_q0 (a0 : (List Int)) (N : Nat) : ∀ n : Nat, f99_R0 a0 N n = f99_L0 a0 N n
  | 0 => by
    funext v0_0
    funext v0_1
    rfl
  | n + 1 => by
    funext v0_0
    funext v0_1
    rw [f99_e0]
    simp only [f99_q0 a0 N n]
    rfl

noncomputable def f99_T (a0 : (List Int)) (N : Nat) : Option (AV) := f99_s a0 (f99_L0 a0 N N)

theorem f99_ev (a0 : (List Int)) (N : Nat) : evF X99 N Tryd.f99 [enc tInts a0] = f99_T a0 N := by
  have h : evF X99 N Tryd.f99 [enc tInts a0] = f99_s a0 (f99_R0 a0 N N) := by kernel_rfl
  rw [h, f99_q0]
  rfl
noncomputable def X93l : Ctx := { T := TT, G := GG, C := [(80, g80), (99, g99), (100, g100)], L := [(3, [0, 1, 3, 5, 6, 8, 10, 11, 15, 16, 17, 18, 19, 20, 21, 22, 23, 24, 25, 26, 27, 28, 29, 30, 31, 32, 33, 34, 35, 36, 37], [12])] }
noncomputable def f93l_s0 (a0 : ((List ((Int × Int) × (Int × Int) × (Int × Int))) × (Int × Int) × (Int × Int) × Int)) (a1 : (List Int)) (a2 : Int) (k1 : (List Int) → Int → Option (AV)) : Option (AV) :=
  bif (decide ((0 : Int) < (a1.length : Int))) then
    bif decide (0 ≤ (0 : Int)) && decide ((0 : Int) < (a1.length : Int)) then
      bif decide (a0 = a0) && ((inReels3 a0 (a1.getD 0 (0 : Int)) a2)) then
        bif true && roomy ([] : List Int).length [(w64 ((loI (wornS a0 (a1.getD 0 (0 : Int)) a2)) * (loI a0.2.1)))].length 8 then
          k1 (([] : List Int) ++ [(w64 ((loI (wornS a0 (a1.getD 0 (0 : Int)) a2)) * (loI a0.2.1)))]) (w64 ((0 : Int) + (1 : Int)))
        else
          none
      else
        none
    else
      none
  else
    bif (lenOK ([] : List Int)) then
      some (.int (sumI0 ([] : List Int)))
    else
      none

noncomputable def f93l_s1 (a0 : ((List ((Int × Int) × (Int × Int) × (Int × Int))) × (Int × Int) × (Int × Int) × Int)) (a1 : (List Int)) (a2 : Int) (k1 : (List Int) → Int → Option (AV)) (v1_0 : (List Int)) (v1_1 : Int) : Option (AV) :=
  bif (decide (v1_1 < (a1.length : Int))) then
    bif decide (0 ≤ v1_1) && decide (v1_1 < (a1.length : Int)) then
      bif decide (a0 = a0) && ((inReels3 a0 (a1.getD v1_1.toNat (0 : Int)) a2)) then
        bif roomy v1_0.length [(w64 ((loI (wornS a0 (a1.getD v1_1.toNat (0 : Int)) a2)) * (loI a0.2.1)))].length 8 then
          k1 (v1_0 ++ [(w64 ((loI (wornS a0 (a1.getD v1_1.toNat (0 : Int)) a2)) * (loI a0.2.1)))]) (w64 (v1_1 + (1 : Int)))
        else
          none
      else
        none
    else
      none
  else
    bif (lenOK v1_0) then
      some (.int (sumI0 v1_0))
    else
      none

noncomputable def f93l_s (a0 : ((List ((Int × Int) × (Int × Int) × (Int × Int))) × (Int × Int) × (Int × Int) × Int)) (a1 : (List Int)) (a2 : Int) (k0 : Option (AV)) : Option (AV) :=
  k0

noncomputable def f93l_R0 (a0 : ((List ((Int × Int) × (Int × Int) × (Int × Int))) × (Int × Int) × (Int × Int) × Int)) (a1 : (List Int)) (a2 : Int) (N : Nat) (n : Nat) : Option (AV) :=
  loopN (evC X93l N (sub [(1, 0), (1, 0), (0, 0), (1, 0), (0, 0), (0, 0)] (bodyOf Tryd.f93))) (keepOf X93l.L (sub [(1, 0), (1, 0), (0, 0), (1, 0), (0, 0), (0, 0)] (bodyOf Tryd.f93))) n ⟨[.poison, .poison, .int a2, .poison, .ref 4 [], .poison, .poison, .ref 7 [], .poison, .sl .int ⟨true, true, none⟩ ([] : List Int), .poison, .poison, .sl .int ⟨false, false, none⟩ a1, .int (a1.length : Int), .int (0 : Int), .poison, .poison, .poison, .poison, .poison, .poison, .poison, .poison, .poison, .poison, .poison, .poison, .poison, .poison, .poison, .poison, .poison, .poison, .poison, .poison, .poison, .poison, .poison], [.none, .none, .none, .none, .box (.agg [enc tRF a0, .tok 0 tRF a0]), .none, .none, .box (.agg [.fn 100 [] []]), .none, .none, .none, .none, .none, .none, .none, .none, .none, .none, .none, .none, .none, .none, .none, .none, .none, .none, .none, .none, .none, .none, .none, .none, .none, .none, .none, .none, .none, .none]⟩ (ctxK X93l N [(1, 0), (1, 0), (0, 0), (1, 0), (0, 0)] (bodyOf Tryd.f93) (finK X93l Tryd.f93))

noncomputable def f93l_R1 (a0 : ((List ((Int × Int) × (Int × Int) × (Int × Int))) × (Int × Int) × (Int × Int) × Int)) (a1 : (List Int)) (a2 : Int) (N : Nat) (n : Nat) (v1_0 : (List Int)) (v1_1 : Int) : Option (AV) :=
  loopN (evC X93l N (sub [(1, 0), (1, 0), (0, 0), (1, 0), (0, 0), (0, 0)] (bodyOf Tryd.f93))) (keepOf X93l.L (sub [(1, 0), (1, 0), (0, 0), (1, 0), (0, 0), (0, 0)] (bodyOf Tryd.f93))) n ⟨[.poison, .poison, .int a2, .poison, .ref 4 [], .poison, .poison, .ref 7 [], .poison, .sl .int ⟨true, false, (some (34, 0))⟩ v1_0, .poison, .poison, .sl .int ⟨false, false, none⟩ a1, .int (a1.length : Int), .int v1_1, .poison, .poison, .poison, .poison, .poison, .poison, .poison, .poison, .poison, .poison, .poison, .poison, .poison, .poison, .poison, .poison, .poison, .poison, .poison, .poison, .poison, .poison, .poison], [.none, .none, .none, .none, .box (.agg [enc tRF a0, .tok 0 tRF a0]), .none, .none, .box (.agg [.fn 100 [] []]), .none, .none, .none, .none, .none, .none, .none, .none, .none, .none, .none, .none, .none, .none, .none, .none, .none, .none, .none, .none, .none, .none, .none, .none, .none, .none, .lin 0 true, .none, .none, .none]⟩ (ctxK X93l N [(1, 0), (1, 0), (0, 0), (1, 0), (0, 0)] (bodyOf Tryd.f93) (finK X93l Tryd.f93))

theorem f93l_e0 (a0 : ((List ((Int × Int) × (Int × Int) × (Int × Int))) × (Int × Int) × (Int × Int) × Int)) (a1 : (List Int)) (a2 : Int) (N : Nat) (n : Nat) : f93l_R0 a0 a1 a2 N (n + 1) = f93l_s0 a0 a1 a2 (f93l_R1 a0 a1 a2 N n) := by kernel_rfl

theorem f93l_e1 (a0 : ((List ((Int × Int) × (Int × Int) × (Int × Int))) × (Int × Int) × (Int × Int) × Int)) (a1 : (List Int)) (a2 : Int) (N : Nat) (n : Nat) (v1_0 : (List Int)) (v1_1 : Int) : f93l_R1 a0 a1 a2 N (n + 1) v1_0 v1_1 = f93l_s1 a0 a1 a2 (f93l_R1 a0 a1 a2 N n) v1_0 v1_1 := by kernel_rfl

noncomputable def f93l_L1 (a0 : ((List ((Int × Int) × (Int × Int) × (Int × Int))) × (Int × Int) × (Int × Int) × Int)) (a1 : (List Int)) (a2 : Int) (N : Nat) : Nat → (List Int) → Int → Option (AV)
  | 0, _, _ => none
  | n + 1, v1_0, v1_1 => f93l_s1 a0 a1 a2 (f93l_L1 a0 a1 a2 N n) v1_0 v1_1

noncomputable def f93l_L0 (a0 : ((List ((Int × Int) × (Int × Int) × (Int × Int))) × (Int × Int) × (Int × Int) × Int)) (a1 : (List Int)) (a2 : Int) (N : Nat) : Nat → Option (AV)
  | 0 => none
  | n + 1 => f93l_s0 a0 a1 a2 (f93l_L1 a0 a1 a2 N n)

theorem f93l_q1 (a0 : ((List ((Int × Int) × (Int × Int) × (Int × Int))) × (Int × Int) × (Int × Int) × Int)) (a1 : (List Int)) (a2 : Int) (N : Nat) : ∀ n : Nat, f93l_R1 a0 a1 a2 N n = f93l_L1 a0 a1 a2 N n
  | 0 => by
    funext v1_0
    funext v1_1
    rfl
  | n + 1 => by
    funext v1_0
    funext v1_1
    rw [f93l_e1]
    simp only [f93l_q1 a0 a1 a2 N n]
    rfl

theorem f93l_q0 (a0 : ((List ((Int × Int) × (Int × Int) × (Int × Int))) × (Int × Int) × (Int × Int) × Int)) (a1 : (List Int)) (a2 : Int) (N : Nat) : ∀ n : Nat, f93l_R0 a0 a1 a2 N n = f93l_L0 a0 a1 a2 N n
  | 0 => by
    rfl
  | n + 1 => by
    rw [f93l_e0]
    simp only [f93l_q1 a0 a1 a2 N n]
    rfl

noncomputable def f93l_T (a0 : ((List ((Int × Int) × (Int × Int) × (Int × Int))) × (Int × Int) × (Int × Int) × Int)) (a1 : (List Int)) (a2 : Int) (N : Nat) : Option (AV) := f93l_s a0 a1 a2 (f93l_L0 a0 a1 a2 N N)

theorem f93l_ev (a0 : ((List ((Int × Int) × (Int × Int) × (Int × Int))) × (Int × Int) × (Int × Int) × Int)) (a1 : (List Int)) (a2 : Int) (N : Nat) : evF X93l N Tryd.f93 [.agg [enc tRF a0, .tok 0 tRF a0], enc tInts a1, enc .int a2, .agg [.fn 100 [] []]] = f93l_T a0 a1 a2 N := by
  have h : evF X93l N Tryd.f93 [.agg [enc tRF a0, .tok 0 tRF a0], enc tInts a1, enc .int a2, .agg [.fn 100 [] []]] = f93l_s a0 a1 a2 (f93l_R0 a0 a1 a2 N N) := by kernel_rfl
  rw [h, f93l_q0]
  rfl
noncomputable def X93h : Ctx := { T := TT, G := GG, C := [(80, g80), (99, g99), (101, g101)], L := [(3, [0, 1, 3, 5, 6, 8, 10, 11, 15, 16, 17, 18, 19, 20, 21, 22, 23, 24, 25, 26, 27, 28, 29, 30, 31, 32, 33, 34, 35, 36, 37], [12])] }
noncomputable def f93h_s0 (a0 : ((List ((Int × Int) × (Int × Int) × (Int × Int))) × (Int × Int) × (Int × Int) × Int)) (a1 : (List Int)) (a2 : Int) (k1 : (List Int) → Int → Option (AV)) : Option (AV) :=
  bif (decide ((0 : Int) < (a1.length : Int))) then
    bif decide (0 ≤ (0 : Int)) && decide ((0 : Int) < (a1.length : Int)) then
      bif decide (a0 = a0) && ((inReels3 a0 (a1.getD 0 (0 : Int)) a2)) then
        bif true && roomy ([] : List Int).length [(w64 ((hiI (wornS a0 (a1.getD 0 (0 : Int)) a2)) * (hiI a0.2.1)))].length 8 then
          k1 (([] : List Int) ++ [(w64 ((hiI (wornS a0 (a1.getD 0 (0 : Int)) a2)) * (hiI a0.2.1)))]) (w64 ((0 : Int) + (1 : Int)))
        else
          none
      else
        none
    else
      none
  else
    bif (lenOK ([] : List Int)) then
      some (.int (sumI0 ([] : List Int)))
    else
      none

noncomputable def f93h_s1 (a0 : ((List ((Int × Int) × (Int × Int) × (Int × Int))) × (Int × Int) × (Int × Int) × Int)) (a1 : (List Int)) (a2 : Int) (k1 : (List Int) → Int → Option (AV)) (v1_0 : (List Int)) (v1_1 : Int) : Option (AV) :=
  bif (decide (v1_1 < (a1.length : Int))) then
    bif decide (0 ≤ v1_1) && decide (v1_1 < (a1.length : Int)) then
      bif decide (a0 = a0) && ((inReels3 a0 (a1.getD v1_1.toNat (0 : Int)) a2)) then
        bif roomy v1_0.length [(w64 ((hiI (wornS a0 (a1.getD v1_1.toNat (0 : Int)) a2)) * (hiI a0.2.1)))].length 8 then
          k1 (v1_0 ++ [(w64 ((hiI (wornS a0 (a1.getD v1_1.toNat (0 : Int)) a2)) * (hiI a0.2.1)))]) (w64 (v1_1 + (1 : Int)))
        else
          none
      else
        none
    else
      none
  else
    bif (lenOK v1_0) then
      some (.int (sumI0 v1_0))
    else
      none

noncomputable def f93h_s (a0 : ((List ((Int × Int) × (Int × Int) × (Int × Int))) × (Int × Int) × (Int × Int) × Int)) (a1 : (List Int)) (a2 : Int) (k0 : Option (AV)) : Option (AV) :=
  k0

noncomputable def f93h_R0 (a0 : ((List ((Int × Int) × (Int × Int) × (Int × Int))) × (Int × Int) × (Int × Int) × Int)) (a1 : (List Int)) (a2 : Int) (N : Nat) (n : Nat) : Option (AV) :=
  loopN (evC X93h N (sub [(1, 0), (1, 0), (0, 0), (1, 0), (0, 0), (0, 0)] (bodyOf Tryd.f93))) (keepOf X93h.L (sub [(1, 0), (1, 0), (0, 0), (1, 0), (0, 0), (0, 0)] (bodyOf Tryd.f93))) n ⟨[.poison, .poison, .int a2, .poison, .ref 4 [], .poison, .poison, .ref 7 [], .poison, .sl .int ⟨true, true, none⟩ ([] : List Int), .poison, .poison, .sl .int ⟨false, false, none⟩ a1, .int (a1.length : Int), .int (0 : Int), .poison, .poison, .poison, .poison, .poison, .poison, .poison, .poison, .poison, .poison, .poison, .poison, .poison, .poison, .poison, .poison, .poison, .poison, .poison, .poison, .poison, .poison, .poison], [.none, .none, .none, .none, .box (.agg [enc tRF a0, .tok 0 tRF a0]), .none, .none, .box (.agg [.fn 101 [] []]), .none, .none, .none, .none, .none, .none, .none, .none, .none, .none, .none, .none, .none, .none, .none, .none, .none, .none, .none, .none, .none, .none, .none, .none, .none, .none, .none, .none, .none, .none]⟩ (ctxK X93h N [(1, 0), (1, 0), (0, 0), (1, 0), (0, 0)] (bodyOf Tryd.f93) (finK X93h Tryd.f93))

noncomputable def f93h_R1 (a0 : ((List ((Int × Int) × (Int × Int) × (Int × Int))) × (Int × Int) × (Int × Int) × Int)) (a1 : (List Int)) (a2 : Int) (N : Nat) (n : Nat) (v1_0 : (List Int)) (v1_1 : Int) : Option (AV) :=
  loopN (evC X93h N (sub [(1, 0), (1, 0), (0, 0), (1, 0), (0, 0), (0, 0)] (bodyOf Tryd.f93))) (keepOf X93h.L (sub [(1, 0), (1, 0), (0, 0), (1, 0), (0, 0), (0, 0)] (bodyOf Tryd.f93))) n ⟨[.poison, .poison, .int a2, .poison, .ref 4 [], .poison, .poison, .ref 7 [], .poison, .sl .int ⟨true, false, (some (34, 0))⟩ v1_0, .poison, .poison, .sl .int ⟨false, false, none⟩ a1, .int (a1.length : Int), .int v1_1, .poison, .poison, .poison, .poison, .poison, .poison, .poison, .poison, .poison, .poison, .poison, .poison, .poison, .poison, .poison, .poison, .poison, .poison, .poison, .poison, .poison, .poison, .poison], [.none, .none, .none, .none, .box (.agg [enc tRF a0, .tok 0 tRF a0]), .none, .none, .box (.agg [.fn 101 [] []]), .none, .none, .none, .none, .none, .none, .none, .none, .none, .none, .none, .none, .none, .none, .none, .none, .none, .none, .none, .none, .none, .none, .none, .none, .none, .none, .lin 0 true, .none, .none, .none]⟩ (ctxK X93h N [(1, 0), (1, 0), (0, 0), (1, 0), (0, 0)] (bodyOf Tryd.f93) (finK X93h Tryd.f93))

theorem f93h_e0 (a0 : ((List ((Int × Int) × (Int × Int) × (Int × Int))) × (Int × Int) × (Int × Int) × Int)) (a1 : (List Int)) (a2 : Int) (N : Nat) (n : Nat) : f93h_R0 a0 a1 a2 N (n + 1) = f93h_s0 a0 a1 a2 (f93h_R1 a0 a1 a2 N n) := by kernel_rfl

theorem f93h_e1 (a0 : ((List ((Int × Int) × (Int × Int) × (Int × Int))) × (Int × Int) × (Int × Int) × Int)) (a1 : (List Int)) (a2 : Int) (N : Nat) (n : Nat) (v1_0 : (List Int)) (v1_1 : Int) : f93h_R1 a0 a1 a2 N (n + 1) v1_0 v1_1 = f93h_s1 a0 a1 a2 (f93h_R1 a0 a1 a2 N n) v1_0 v1_1 := by kernel_rfl

noncomputable def f93h_L1 (a0 : ((List ((Int × Int) × (Int × Int) × (Int × Int))) × (Int × Int) × (Int × Int) × Int)) (a1 : (List Int)) (a2 : Int) (N : Nat) : Nat → (List Int) → Int → Option (AV)
  | 0, _, _ => none
  | n + 1, v1_0, v1_1 => f93h_s1 a0 a1 a2 (f93h_L1 a0 a1 a2 N n) v1_0 v1_1

noncomputable def f93h_L0 (a0 : ((List ((Int × Int) × (Int × Int) × (Int × Int))) × (Int × Int) × (Int × Int) × Int)) (a1 : (List Int)) (a2 : Int) (N : Nat) : Nat → Option (AV)
  | 0 => none
  | n + 1 => f93h_s0 a0 a1 a2 (f93h_L1 a0 a1 a2 N n)

theorem f93h_q1 (a0 : ((List ((Int × Int) × (Int × Int) × (Int × Int))) × (Int × Int) × (Int × Int) × Int)) (a1 : (List Int)) (a2 : Int) (N : Nat) : ∀ n : Nat, f93h_R1 a0 a1 a2 N n = f93h_L1 a0 a1 a2 N n
  | 0 => by
    funext v1_0
    funext v1_1
    rfl
  | n + 1 => by
    funext v1_0
    funext v1_1
    rw [f93h_e1]
    simp only [f93h_q1 a0 a1 a2 N n]
    rfl

theorem f93h_q0 (a0 : ((List ((Int × Int) × (Int × Int) × (Int × Int))) × (Int × Int) × (Int × Int) × Int)) (a1 : (List Int)) (a2 : Int) (N : Nat) : ∀ n : Nat, f93h_R0 a0 a1 a2 N n = f93h_L0 a0 a1 a2 N n
  | 0 => by
    rfl
  | n + 1 => by
    rw [f93h_e0]
    simp only [f93h_q1 a0 a1 a2 N n]
    rfl

noncomputable def f93h_T (a0 : ((List ((Int × Int) × (Int × Int) × (Int × Int))) × (Int × Int) × (Int × Int) × Int)) (a1 : (List Int)) (a2 : Int) (N : Nat) : Option (AV) := f93h_s a0 a1 a2 (f93h_L0 a0 a1 a2 N N)

theorem f93h_ev (a0 : ((List ((Int × Int) × (Int × Int) × (Int × Int))) × (Int × Int) × (Int × Int) × Int)) (a1 : (List Int)) (a2 : Int) (N : Nat) : evF X93h N Tryd.f93 [.agg [enc tRF a0, .tok 0 tRF a0], enc tInts a1, enc .int a2, .agg [.fn 101 [] []]] = f93h_T a0 a1 a2 N := by
  have h : evF X93h N Tryd.f93 [.agg [enc tRF a0, .tok 0 tRF a0], enc tInts a1, enc .int a2, .agg [.fn 101 [] []]] = f93h_s a0 a1 a2 (f93h_R0 a0 a1 a2 N N) := by kernel_rfl
  rw [h, f93h_q0]
  rfl
noncomputable def X82 : Ctx := { T := TT, G := GG, C := [(93, g93), (94, g94), (95, g95)], L := [] }
noncomputable def f82_s (a0 : ((List ((Int × Int) × (Int × Int) × (Int × Int))) × (Int × Int) × (Int × Int) × Int)) (a1 : (List Int)) (a2 : Int) : Option (AV) :=
  bif decide (a0 = a0) && (spoolsOK a0 a1 a2) then
    bif decide (a0 = a0) && (spoolsOK a0 a1 a2) then
      some (.agg [.int (lastsI false a0 a1 a2), .int (lastsI true a0 a1 a2)])
    else
      none
  else
    none

noncomputable def f82_T (a0 : ((List ((Int × Int) × (Int × Int) × (Int × Int))) × (Int × Int) × (Int × Int) × Int)) (a1 : (List Int)) (a2 : Int) : Option (AV) := f82_s a0 a1 a2

theorem f82_ev (a0 : ((List ((Int × Int) × (Int × Int) × (Int × Int))) × (Int × Int) × (Int × Int) × Int)) (a1 : (List Int)) (a2 : Int) (N : Nat) : evF X82 N Tryd.f82 [.agg [enc tRF a0, .tok 0 tRF a0], enc tInts a1, enc .int a2] = f82_T a0 a1 a2 := by
  have h : evF X82 N Tryd.f82 [.agg [enc tRF a0, .tok 0 tRF a0], enc tInts a1, enc .int a2] = f82_s a0 a1 a2 := by kernel_rfl
  rw [h]
  rfl
noncomputable def X36 : Ctx := { T := TT, G := GG, C := [(62, g62), (63, g63), (68, g68), (82, g82)], L := [] }
noncomputable def f36_s (a0 : ((List ((Int × Int) × (Int × Int) × (Int × Int))) × (Int × Int) × (Int × Int) × Int)) (a1 : (List Int)) (a2 : Int) : Option (AV) :=
  bif (areOK a0 a1) then
    bif (areReelsB a0 a1) then
      bif (askOK a0 (amid a2 (0 : Int) (999 : Int))) then
        bif (!decide (((askedF a0 (amid a2 (0 : Int) (999 : Int))).2) = (0 : Int))) then
          some (.tup [.agg [.int (0 : Int), .int (0 : Int)], .int ((askedF a0 (amid a2 (0 : Int) (999 : Int))).2)])
        else
          bif decide (((askedF a0 (amid a2 (0 : Int) (999 : Int))).1) = ((askedF a0 (amid a2 (0 : Int) (999 : Int))).1)) && ((spoolsOK ((askedF a0 (amid a2 (0 : Int) (999 : Int))).1) a1 a2)) then
            some (.tup [enc tSpan (TimeI ((askedF a0 (amid a2 (0 : Int) (999 : Int))).1) a1 a2), .int (0 : Int)])
          else
            none
      else
        none
    else
      bif (askOK a0 false) then
        bif (!decide (((askedF a0 false).2) = (0 : Int))) then
          some (.tup [.agg [.int (0 : Int), .int (0 : Int)], .int ((askedF a0 false).2)])
        else
          bif decide (((askedF a0 false).1) = ((askedF a0 false).1)) && ((spoolsOK ((askedF a0 false).1) a1 a2)) then
            some (.tup [enc tSpan (TimeI ((askedF a0 false).1) a1 a2), .int (0 : Int)])
          else
            none
      else
        none
  else
    none

noncomputable def f36_T (a0 : ((List ((Int × Int) × (Int × Int) × (Int × Int))) × (Int × Int) × (Int × Int) × Int)) (a1 : (List Int)) (a2 : Int) : Option (AV) := f36_s a0 a1 a2

theorem f36_ev (a0 : ((List ((Int × Int) × (Int × Int) × (Int × Int))) × (Int × Int) × (Int × Int) × Int)) (a1 : (List Int)) (a2 : Int) (N : Nat) : evF X36 N Tryd.f36 [enc tRF a0, enc tInts a1, enc .int a2] = f36_T a0 a1 a2 := by
  have h : evF X36 N Tryd.f36 [enc tRF a0, enc tInts a1, enc .int a2] = f36_s a0 a1 a2 := by kernel_rfl
  rw [h]
  rfl
noncomputable def X40 : Ctx := { T := TT, G := GG, C := [(82, g82), (84, g84)], L := [(7, [0, 3, 4, 5, 6, 7, 9, 10, 13, 14, 15, 16, 17, 18, 19, 20, 21, 22, 23, 24, 25, 26, 27, 28, 29, 33, 34, 35, 36, 37, 38, 39, 40, 41, 42, 43, 44, 45, 46, 47, 48, 49, 50, 51, 52, 53, 54], [1, 30])] }
noncomputable def f40_s0 (a0 : ((List ((Int × Int) × (Int × Int) × (Int × Int))) × (Int × Int) × (Int × Int) × Int)) (a1 : (List Int)) (a2 : Int) (k1 : (List (Int × Int)) → Int → Int → Option (AV)) : Option (AV) :=
  bif (decide ((0 : Int) < ((((joinedI a0 a1 a2).2.1).take (w64 ((((joinedI a0 a1 a2).2.1).length : Int) - (1 : Int))).toNat).length : Int))) then
    bif decide (0 ≤ (0 : Int)) && decide ((0 : Int) < ((((joinedI a0 a1 a2).2.1).take (w64 ((((joinedI a0 a1 a2).2.1).length : Int) - (1 : Int))).toNat).length : Int)) then
      bif decide (0 ≤ (w64 ((0 : Int) + ((((joinedI a0 a1 a2).2.1).take (w64 ((((joinedI a0 a1 a2).2.1).length : Int) - (1 : Int))).toNat).getD 0 (0 : Int))))) && decide ((w64 ((0 : Int) + ((((joinedI a0 a1 a2).2.1).take (w64 ((((joinedI a0 a1 a2).2.1).length : Int) - (1 : Int))).toNat).getD 0 (0 : Int)))) ≤ (a1.length : Int)) then
        bif decide (((joinedI a0 a1 a2).1) = ((joinedI a0 a1 a2).1)) && ((spoolsOK ((joinedI a0 a1 a2).1) (a1.take (w64 ((0 : Int) + ((((joinedI a0 a1 a2).2.1).take (w64 ((((joinedI a0 a1 a2).2.1).length : Int) - (1 : Int))).toNat).getD 0 (0 : Int)))).toNat) a2)) then
          bif true && roomy ([] : List (Int × Int)).length [(TimeI ((joinedI a0 a1 a2).1) (a1.take (w64 ((0 : Int) + ((((joinedI a0 a1 a2).2.1).take (w64 ((((joinedI a0 a1 a2).2.1).length : Int) - (1 : Int))).toNat).getD 0 (0 : Int)))).toNat) a2)].length 16 then
            k1 (([] : List (Int × Int)) ++ [(TimeI ((joinedI a0 a1 a2).1) (a1.take (w64 ((0 : Int) + ((((joinedI a0 a1 a2).2.1).take (w64 ((((joinedI a0 a1 a2).2.1).length : Int) - (1 : Int))).toNat).getD 0 (0 : Int)))).toNat) a2)]) (w64 ((0 : Int) + ((((joinedI a0 a1 a2).2.1).take (w64 ((((joinedI a0 a1 a2).2.1).length : Int) - (1 : Int))).toNat).getD 0 (0 : Int)))) (w64 ((0 : Int) + (1 : Int)))
          else
            none
        else
          none
      else
        none
    else
      none
  else
    bif decide ((([] : List (Int × Int)).length : Int) = (([] : List (Int × Int)).length : Int)) && (decide (0 ≤ (([] : List (Int × Int)).length : Int)) && decide ((([] : List (Int × Int)).length : Int) ≤ (([] : List (Int × Int)).length : Int))) then
      some (.tup [.sl tSpan ⟨(true && decide ((([] : List (Int × Int)).length : Int) = (([] : List (Int × Int)).length : Int))), true, none⟩ (([] : List (Int × Int)).take (([] : List (Int × Int)).length : Int).toNat), .int (0 : Int)])
    else
      none

noncomputable def f40_s1 (a0 : ((List ((Int × Int) × (Int × Int) × (Int × Int))) × (Int × Int) × (Int × Int) × Int)) (a1 : (List Int)) (a2 : Int) (k1 : (List (Int × Int)) → Int → Int → Option (AV)) (v1_0 : (List (Int × Int))) (v1_1 : Int) (v1_2 : Int) : Option (AV) :=
  bif (decide (v1_2 < ((((joinedI a0 a1 a2).2.1).take (w64 ((((joinedI a0 a1 a2).2.1).length : Int) - (1 : Int))).toNat).length : Int))) then
    bif decide (0 ≤ v1_2) && decide (v1_2 < ((((joinedI a0 a1 a2).2.1).take (w64 ((((joinedI a0 a1 a2).2.1).length : Int) - (1 : Int))).toNat).length : Int)) then
      bif decide (0 ≤ (w64 (v1_1 + ((((joinedI a0 a1 a2).2.1).take (w64 ((((joinedI a0 a1 a2).2.1).length : Int) - (1 : Int))).toNat).getD v1_2.toNat (0 : Int))))) && decide ((w64 (v1_1 + ((((joinedI a0 a1 a2).2.1).take (w64 ((((joinedI a0 a1 a2).2.1).length : Int) - (1 : Int))).toNat).getD v1_2.toNat (0 : Int)))) ≤ (a1.length : Int)) then
        bif decide (((joinedI a0 a1 a2).1) = ((joinedI a0 a1 a2).1)) && ((spoolsOK ((joinedI a0 a1 a2).1) (a1.take (w64 (v1_1 + ((((joinedI a0 a1 a2).2.1).take (w64 ((((joinedI a0 a1 a2).2.1).length : Int) - (1 : Int))).toNat).getD v1_2.toNat (0 : Int)))).toNat) a2)) then
          bif roomy v1_0.length [(TimeI ((joinedI a0 a1 a2).1) (a1.take (w64 (v1_1 + ((((joinedI a0 a1 a2).2.1).take (w64 ((((joinedI a0 a1 a2).2.1).length : Int) - (1 : Int))).toNat).getD v1_2.toNat (0 : Int)))).toNat) a2)].length 16 then
            k1 (v1_0 ++ [(TimeI ((joinedI a0 a1 a2).1) (a1.take (w64 (v1_1 + ((((joinedI a0 a1 a2).2.1).take (w64 ((((joinedI a0 a1 a2).2.1).length : Int) - (1 : Int))).toNat).getD v1_2.toNat (0 : Int)))).toNat) a2)]) (w64 (v1_1 + ((((joinedI a0 a1 a2).2.1).take (w64 ((((joinedI a0 a1 a2).2.1).length : Int) - (1 : Int))).toNat).getD v1_2.toNat (0 : Int)))) (w64 (v1_2 + (1 : Int)))
          else
            none
        else
          none
      else
        none
    else
      none
  else
    bif decide ((v1_0.length : Int) = (v1_0.length : Int)) && (decide (0 ≤ (v1_0.length : Int)) && decide ((v1_0.length : Int) ≤ (v1_0.length : Int))) then
      some (.tup [.sl tSpan ⟨(true && decide ((v1_0.length : Int) = (v1_0.length : Int))), true, none⟩ (v1_0.take (v1_0.length : Int).toNat), .int (0 : Int)])
    else
      none

noncomputable def f40_s (a0 : ((List ((Int × Int) × (Int × Int) × (Int × Int))) × (Int × Int) × (Int × Int) × Int)) (a1 : (List Int)) (a2 : Int) (k0 : Option (AV)) : Option (AV) :=
  bif (joinOK a0 a1 a2) then
    bif (!decide (((joinedI a0 a1 a2).2.2) = (0 : Int))) then
      some (.tup [.sl tSpan ⟨true, true, none⟩ ([] : List (Int × Int)), .int ((joinedI a0 a1 a2).2.2)])
    else
      bif decide (0 ≤ (w64 ((((joinedI a0 a1 a2).2.1).length : Int) - (1 : Int)))) && decide ((w64 ((((joinedI a0 a1 a2).2.1).length : Int) - (1 : Int))) ≤ (((joinedI a0 a1 a2).2.1).length : Int)) then
        k0
      else
        none
  else
    none

noncomputable def f40_R0 (a0 : ((List ((Int × Int) × (Int × Int) × (Int × Int))) × (Int × Int) × (Int × Int) × Int)) (a1 : (List Int)) (a2 : Int) (N : Nat) (n : Nat) : Option (AV) :=
  loopN (evC X40 N (sub [(1, 0), (1, 0), (1, 0), (1, 0), (1, 0), (0, 0), (1, 0), (0, 0), (0, 0)] (bodyOf Tryd.f40))) (keepOf X40.L (sub [(1, 0), (1, 0), (1, 0), (1, 0), (1, 0), (0, 0), (1, 0), (0, 0), (0, 0)] (bodyOf Tryd.f40))) n ⟨[.poison, .sl .int ⟨false, false, none⟩ a1, .int a2, .poison, .poison, .poison, .poison, .poison, .ref 8 [], .poison, .poison, .sl tSpan ⟨true, true, none⟩ ([] : List (Int × Int)), .int (0 : Int), .poison, .poison, .poison, .poison, .poison, .poison, .poison, .poison, .poison, .poison, .poison, .poison, .poison, .poison, .poison, .poison, .poison, .sl .int ⟨false, false, none⟩ (((joinedI a0 a1 a2).2.1).take (w64 ((((joinedI a0 a1 a2).2.1).length : Int) - (1 : Int))).toNat), .int ((((joinedI a0 a1 a2).2.1).take (w64 ((((joinedI a0 a1 a2).2.1).length : Int) - (1 : Int))).toNat).length : Int), .int (0 : Int), .poison, .poison, .poison, .poison, .poison, .poison, .poison, .poison, .poison, .poison, .poison, .poison, .poison, .poison, .poison, .poison, .poison, .poison, .poison, .poison, .poison, .poison], [.none, .none, .none, .none, .none, .none, .none, .none, .box (.agg [enc tRF ((joinedI a0 a1 a2).1), .tok 0 tRF ((joinedI a0 a1 a2).1)]), .none, .none, .none, .none, .none, .none, .none, .none, .none, .none, .none, .none, .none, .none, .none, .none, .none, .none, .none, .none, .none, .none, .none, .none, .none, .none, .none, .none, .none, .none, .none, .none, .none, .none, .none, .none, .none, .none, .none, .none, .none, .none, .none, .none, .none, .none]⟩ (ctxK X40 N [(1, 0), (1, 0), (1, 0), (1, 0), (1, 0), (0, 0), (1, 0), (0, 0)] (bodyOf Tryd.f40) (finK X40 Tryd.f40))

noncomputable def f40_R1 (a0 : ((List ((Int × Int) × (Int × Int) × (Int × Int))) × (Int × Int) × (Int × Int) × Int)) (a1 : (List Int)) (a2 : Int) (N : Nat) (n : Nat) (v1_0 : (List (Int × Int))) (v1_1 : Int) (v1_2 : Int) : Option (AV) :=
  loopN (evC X40 N (sub [(1, 0), (1, 0), (1, 0), (1, 0), (1, 0), (0, 0), (1, 0), (0, 0), (0, 0)] (bodyOf Tryd.f40))) (keepOf X40.L (sub [(1, 0), (1, 0), (1, 0), (1, 0), (1, 0), (0, 0), (1, 0), (0, 0), (0, 0)] (bodyOf Tryd.f40))) n ⟨[.poison, .sl .int ⟨false, false, none⟩ a1, .int a2, .poison, .poison, .poison, .poison, .poison, .ref 8 [], .poison, .poison, .sl tSpan ⟨true, false, (some (47, 0))⟩ v1_0, .int v1_1, .poison, .poison, .poison, .poison, .poison, .poison, .poison, .poison, .poison, .poison, .poison, .poison, .poison, .poison, .poison, .poison, .poison, .sl .int ⟨false, false, none⟩ (((joinedI a0 a1 a2).2.1).take (w64 ((((joinedI a0 a1 a2).2.1).length : Int) - (1 : Int))).toNat), .int ((((joinedI a0 a1 a2).2.1).take (w64 ((((joinedI a0 a1 a2).2.1).length : Int) - (1 : Int))).toNat).length : Int), .int v1_2, .poison, .poison, .poison, .poison, .poison, .poison, .poison, .poison, .poison, .poison, .poison, .poison, .poison, .poison, .poison, .poison, .poison, .poison, .poison, .poison, .poison, .poison], [.none, .none, .none, .none, .none, .none, .none, .none, .box (.agg [enc tRF ((joinedI a0 a1 a2).1), .tok 0 tRF ((joinedI a0 a1 a2).1)]), .none, .none, .none, .none, .none, .none, .none, .none, .none, .none, .none, .none, .none, .none, .none, .none, .none, .none, .none, .none, .none, .none, .none, .none, .none, .none, .none, .none, .none, .none, .none, .none, .none, .none, .none, .none, .none, .none, .lin 0 true, .none, .none, .none, .none, .none, .none, .none]⟩ (ctxK X40 N [(1, 0), (1, 0), (1, 0), (1, 0), (1, 0), (0, 0), (1, 0), (0, 0)] (bodyOf Tryd.f40) (finK X40 Tryd.f40))

theorem f40_e0 (a0 : ((List ((Int × Int) × (Int × Int) × (Int × Int))) × (Int × Int) × (Int × Int) × Int)) (a1 : (List Int)) (a2 : Int) (N : Nat) (n : Nat) : f40_R0 a0 a1 a2 N (n + 1) = f40_s0 a0 a1 a2 (f40_R1 a0 a1 a2 N n) := by kernel_rfl

theorem f40_e1 (a0 : ((List ((Int × Int) × (Int × Int) × (Int × Int))) × (Int × Int) × (Int × Int) × Int)) (a1 : (List Int)) (a2 : Int) (N : Nat) (n : Nat) (v1_0 : (List (Int × Int))) (v1_1 : Int) (v1_2 : Int) : f40_R1 a0 a1 a2 N (n + 1) v1_0 v1_1 v1_2 = f40_s1 a0 a1 a2 (f40_R1 a0 a1 a2 N n) v1_0 v1_1 v1_2 := by kernel_rfl

noncomputable def f40_L1 (a0 : ((List ((Int × Int) × (Int × Int) × (Int × Int))) × (Int × Int) × (Int × Int) × Int)) (a1 : (List Int)) (a2 : Int) (N : Nat) : Nat → (List (Int × Int)) → Int → Int → Option (AV)
  | 0, _, _, _ => none
  | n + 1, v1_0, v1_1, v1_2 => f40_s1 a0 a1 a2 (f40_L1 a0 a1 a2 N n) v1_0 v1_1 v1_2

noncomputable def f40_L0 (a0 : ((List ((Int × Int) × (Int × Int) × (Int × Int))) × (Int × Int) × (Int × Int) × Int)) (a1 : (List Int)) (a2 : Int) (N : Nat) : Nat → Option (AV)
  | 0 => none
  | n + 1 => f40_s0 a0 a1 a2 (f40_L1 a0 a1 a2 N n)

theorem f40_q1 (a0 : ((List ((Int × Int) × (Int × Int) × (Int × Int))) × (Int × Int) × (Int × Int) × Int)) (a1 : (List Int)) (a2 : Int) (N : Nat) : ∀ n : Nat, f40_R1 a0 a1 a2 N n = f40_L1 a0 a1 a2 N n
  | 0 => by
    funext v1_0
    funext v1_1
    funext v1_2
    rfl
  | n + 1 => by
    funext v1_0
    funext v1_1
    funext v1_2
    rw [f40_e1]
    simp only [f40_q1 a0 a1 a2 N n]
    rfl

theorem f40_q0 (a0 : ((List ((Int × Int) × (Int × Int) × (Int × Int))) × (Int × Int) × (Int × Int) × Int)) (a1 : (List Int)) (a2 : Int) (N : Nat) : ∀ n : Nat, f40_R0 a0 a1 a2 N n = f40_L0 a0 a1 a2 N n
  | 0 => by
    rfl
  | n + 1 => by
    rw [f40_e0]
    simp only [f40_q1 a0 a1 a2 N n]
    rfl

noncomputable def f40_T (a0 : ((List ((Int × Int) × (Int × Int) × (Int × Int))) × (Int × Int) × (Int × Int) × Int)) (a1 : (List Int)) (a2 : Int) (N : Nat) : Option (AV) := f40_s a0 a1 a2 (f40_L0 a0 a1 a2 N N)

theorem f40_ev (a0 : ((List ((Int × Int) × (Int × Int) × (Int × Int))) × (Int × Int) × (Int × Int) × Int)) (a1 : (List Int)) (a2 : Int) (N : Nat) : evF X40 N Tryd.f40 [enc tRF a0, enc tInts a1, enc .int a2] = f40_T a0 a1 a2 N := by
  have h : evF X40 N Tryd.f40 [enc tRF a0, enc tInts a1, enc .int a2] = f40_s a0 a1 a2 (f40_R0 a0 a1 a2 N N) := by kernel_rfl
  rw [h, f40_q0]
  rfl

end Ev
end Go.Proofs.YtidnikjkpbmhhaaDoor
/- Joining reels one by one, as far as there is room: no other way needs fewer spools. -/
set_option linter.unusedVariables false
set_option linter.unusedSimpArgs false
namespace Go.Proofs.YtidnikjkpbmhhaaDoor
namespace Ev

/-- How many reels each spool has, from one on that has c already. -/
def seg (S : Int) : List Int → Int → Int → List Int
  | [], c, _ => [c]
  | w :: r, c, room => if room < w then c :: seg S r 1 (S - w) else seg S r (c + 1) (room - w)
/-- How many spools more. -/
def nl (S : Int) : List Int → Int → Nat
  | [], _ => 0
  | w :: r, room => if room < w then nl S r (S - w) + 1 else nl S r (room - w)
theorem seg_len (S : Int) : ∀ (r : List Int) (c room : Int), (seg S r c room).length = nl S r room + 1
  | [], c, room => rfl
  | w :: r, c, room => by
    rw [seg, nl]
    split
    · rw [List.length_cons, seg_len S r]
    · exact seg_len S r _ _

/-- Another way to join: it may end a spool where it need not. -/
def ot (S : Int) : List (Int × Bool) → Int → Nat
  | [], _ => 0
  | (w, f) :: r, room => if room < w ∨ f = true then ot S r (S - w) + 1 else ot S r (room - w)

theorem ahead {S S' : Int} (hS : S ≤ S') : ∀ (l : List (Int × Int × Bool)), (∀ x ∈ l, 0 ≤ x.2.1 ∧ x.1 ≤ x.2.1) → (∀ g a : Int, a ≤ S → a ≤ g → nl S' (l.map (·.1)) g ≤ ot S (l.map (·.2)) a) ∧ ∀ g a : Int, a ≤ S → 0 ≤ g → nl S' (l.map (·.1)) g ≤ ot S (l.map (·.2)) a + 1
  | [], h => ⟨fun _ _ _ _ => Nat.le_refl _, fun _ _ _ _ => Nat.zero_le _⟩
  | (w', w, f) :: l, h => by
    obtain ⟨A, Bq⟩ := ahead hS l fun x hx => h x (List.mem_cons_of_mem _ hx)
    obtain ⟨h1, h2⟩ := h (w', w, f) (List.mem_cons_self ..)
    dsimp only at h1 h2
    constructor
    · intro g a ha hga
      simp only [List.map_cons, nl, ot]
      by_cases c1 : g < w'
      · rw [if_pos c1, if_pos (.inl (by omega))]
        have := A (S' - w') (S - w) (by omega) (by omega)
        omega
      · rw [if_neg c1]
        split
        · exact Bq _ _ (by omega) (by omega)
        · exact A _ _ (by omega) (by omega)
    · intro g a ha hg
      simp only [List.map_cons, nl, ot]
      by_cases c1 : g < w'
      · rw [if_pos c1]
        split
        · have := A (S' - w') (S - w) (by omega) (by omega)
          omega
        · have := A (S' - w') (a - w) (by omega) (by omega)
          omega
      · rw [if_neg c1]
        split
        · have := Bq (g - w') (S - w) (by omega) (by omega)
          omega
        · exact Bq _ _ (by omega) (by omega)

def sumZ : List Int → Int
  | [] => 0
  | x :: l => x + sumZ l
theorem sumZ_append : ∀ a b : List Int, sumZ (a ++ b) = sumZ a + sumZ b
  | [], b => by simp [sumZ]
  | x :: a, b => by
    simp only [List.cons_append, sumZ, sumZ_append a b]
    omega
theorem sumZ_nonneg : ∀ l : List Int, (∀ x ∈ l, 0 ≤ x) → 0 ≤ sumZ l
  | [], _ => Int.le_refl _
  | x :: l, h => by
    have := sumZ_nonneg l fun y hy => h y (List.mem_cons_of_mem _ hy)
    have := h x (List.mem_cons_self ..)
    simp only [sumZ]
    omega
theorem sumI_eq : ∀ (l : List Int) (a : Int), (∀ x ∈ l, 0 ≤ x ∧ x ≤ 100000) → 0 ≤ a → a + 100000 * l.length ≤ 4611686018427387904 → sumI l a = a + sumZ l
  | [], a, h, h0, h1 => by simp [sumI, sumZ]
  | x :: l, a, h, h0, h1 => by
    have hx := h x (List.mem_cons_self ..)
    simp only [List.length_cons, Int.natCast_add, Int.mul_add] at h1
    rw [sumI, w64_small (by omega) (by omega), sumI_eq l (a + x) (fun y hy => h y (List.mem_cons_of_mem _ hy)) (by omega) (by omega), sumZ]
    omega

/-- Each spool is full as far as reels come. -/
def GS (S : Int) : List Int → List Int → Prop
  | [], f => f = []
  | c :: cs, f => 1 ≤ c ∧ c ≤ f.length ∧ sumZ (f.take c.toNat) ≤ S ∧ (∀ w, f[c.toNat]? = some w → S < sumZ (f.take c.toNat) + w) ∧ GS S cs (f.drop c.toNat)

theorem seg_gs (S : Int) : ∀ (r pre : List Int) (room : Int), (∀ w ∈ r, 0 ≤ w ∧ w ≤ S) → pre ≠ [] → sumZ pre = S - room → 0 ≤ room → GS S (seg S r pre.length room) (pre ++ r)
  | [], pre, room, h, hp, hs, h0 => by
    have := List.length_pos_iff.2 hp
    rw [seg, GS, List.append_nil]
    refine ⟨by omega, by omega, ?_, ?_, ?_⟩
    · simp only [Int.toNat_natCast, List.take_length]
      omega
    · intro w hw
      simp at hw
    · simp [GS]
  | w :: r, pre, room, h, hp, hs, h0 => by
    have hpl := List.length_pos_iff.2 hp
    obtain ⟨hw0, hwS⟩ := h w (List.mem_cons_self ..)
    rw [seg]
    split
    · rename_i hlt
      rw [GS]
      refine ⟨by omega, by simp; omega, ?_, ?_, ?_⟩
      · rw [Int.toNat_natCast, List.take_left]
        omega
      · intro v hv
        simp only [Int.toNat_natCast] at hv ⊢
        rw [List.getElem?_append_right (Nat.le_refl _), Nat.sub_self, List.getElem?_cons_zero] at hv
        cases hv
        rw [List.take_left]
        omega
      · simp only [Int.toNat_natCast]
        rw [List.drop_left]
        have := seg_gs S r [w] (S - w) (fun v hv => h v (List.mem_cons_of_mem _ hv)) (by simp) (by simp only [sumZ]; omega) (by omega)
        simpa using this
    · have := seg_gs S r (pre ++ [w]) (room - w) (fun v hv => h v (List.mem_cons_of_mem _ hv)) (by simp) (by rw [sumZ_append]; simp only [sumZ]; omega) (by omega)
      simpa using this

theorem gs_sum (S : Int) : ∀ (l f : List Int), GS S l f → sumZ l = f.length ∧ ∀ c ∈ l, 0 ≤ c ∧ c ≤ f.length
  | [], f, h => by
    simp only [GS] at h
    subst h
    exact ⟨rfl, by simp⟩
  | c :: cs, f, h => by
    simp only [GS] at h
    obtain ⟨h1, h2, _, _, h5⟩ := h
    obtain ⟨g1, g2⟩ := gs_sum S cs _ h5
    rw [List.length_drop] at g1 g2
    refine ⟨by simp only [sumZ, g1]; omega, fun d hd => ?_⟩
    rcases List.mem_cons.1 hd with rfl | hd
    · omega
    · have := g2 d hd
      omega

theorem incLast_app (l : List Int) (c : Int) (h0 : 0 ≤ c) (h1 : c ≤ 100000) : incLast (l ++ [c]) = l ++ [c + 1] := by
  unfold incLast
  rw [w64_small (by simp; omega) (by simp; omega)]
  simp

theorem spGo_seg {x : Fi} {n : Int} (hS : 0 ≤ x.2.2.2) (hS2 : x.2.2.2 ≤ 6000) : ∀ (l done : List Int) (c room : Int), (∀ k ∈ l, mostI x k n ≤ x.2.2.2) → 0 ≤ room → room ≤ 6000 → 0 ≤ c → c + l.length ≤ 1000 → spGo x n l (done ++ [c]) room = (done ++ seg x.2.2.2 (l.map fun k => mostI x k n) c room, true)
  | [], done, c, room, h, h0, h1, h2, h3 => rfl
  | k :: l, done, c, room, h, h0, h1, h2, h3 => by
    have hk := h k (List.mem_cons_self ..)
    have hk0 := most_nonneg x k n
    simp only [List.length_cons, Int.natCast_add] at h3
    rw [spGo, if_neg (by omega), List.map_cons, seg]
    split
    · rw [w64_small (by omega) (by omega), show done ++ [c] ++ [0] = (done ++ [c]) ++ [0] from rfl, incLast_app (done ++ [c]) 0 (by omega) (by omega)]
      rw [show (0 : Int) + 1 = 1 from rfl, spGo_seg hS hS2 l (done ++ [c]) 1 _ (fun j hj => h j (List.mem_cons_of_mem _ hj)) (by omega) (by omega) (by omega) (by omega)]
      simp
    · rw [w64_small (by omega) (by omega), incLast_app done c h2 (by omega)]
      exact spGo_seg hS hS2 l done (c + 1) _ (fun j hj => h j (List.mem_cons_of_mem _ hj)) (by omega) (by omega) (by omega) (by omega)

theorem spGo_large {x : Fi} {n : Int} : ∀ (l out : List Int) (room : Int), (∃ k ∈ l, x.2.2.2 < mostI x k n) → spGo x n l out room = ([], false)
  | [], out, room, h => by simp at h
  | k :: l, out, room, h => by
    rw [spGo]
    split
    · rfl
    · rename_i hk
      have h' : ∃ j ∈ l, x.2.2.2 < mostI x j n := by
        obtain ⟨j, hj, hl⟩ := h
        rcases List.mem_cons.1 hj with rfl | hj
        · exact absurd hl hk
        · exact ⟨j, hj, hl⟩
      split
      · exact spGo_large l _ _ h'
      · exact spGo_large l _ _ h'

theorem spools_seg {x : Fi} {n : Int} (hS : 0 ≤ x.2.2.2) (hS2 : x.2.2.2 ≤ 6000) {k : Int} {l : List Int} (h : ∀ j ∈ k :: l, mostI x j n ≤ x.2.2.2) (hl : l.length ≤ 900) : spoolsF x (k :: l) n = (seg x.2.2.2 (l.map fun k => mostI x k n) 1 (x.2.2.2 - mostI x k n), true) := by
  have hk := h k (List.mem_cons_self ..)
  have hk0 := most_nonneg x k n
  unfold spoolsF
  rw [spGo, if_neg (by omega), if_pos (by omega), w64_small (by omega) (by omega), incLast_app [] 0 (by omega) (by omega)]
  exact spGo_seg hS hS2 l [] 1 _ (fun j hj => h j (List.mem_cons_of_mem _ hj)) (by omega) (by omega) (by omega) (by omega)

end Ev
end Go.Proofs.YtidnikjkpbmhhaaDoor
/- How long reels last: what the walks come to. -/
set_option linter.unusedVariables false
set_option linter.unusedSimpArgs false
set_option maxRecDepth 4000
namespace Go.Proofs.YtidnikjkpbmhhaaDoor
namespace Ev

theorem f100_sp (x0 : Sp) : ∃ (N : Nat) (r0 : AV), f100_T x0 = some r0 ∧ wkAV r0 = enc .int (loI x0) := ⟨0, .int (loI x0), rfl, rfl⟩
theorem f101_sp (x0 : Sp) : ∃ (N : Nat) (r0 : AV), f101_T x0 = some r0 ∧ wkAV r0 = enc .int (hiI x0) := ⟨0, .int (hiI x0), rfl, rfl⟩

theorem f99_loop (l : List Int) (hl : lenOK l = true) (N : Nat) : ∀ (m i : Nat) (a : Int), i + m = l.length → f99_L0 l N (m + 1) a i = some (.int (sumI (l.drop i) a))
  | 0, i, a, h => by
    have e : f99_L0 l N (0 + 1) a i = f99_s0 l (f99_L0 l N 0) a i := rfl
    rw [e]
    unfold f99_s0
    have h1 : decide ((i : Int) < (l.length : Int)) = false := by simp; omega
    rw [h1, List.drop_eq_nil_of_le (by omega)]
    rfl
  | m + 1, i, a, h => by
    have e : f99_L0 l N (m + 1 + 1) a i = f99_s0 l (f99_L0 l N (m + 1)) a i := rfl
    rw [e]
    have hlt : i < l.length := by omega
    unfold f99_s0
    have h1 : decide ((i : Int) < (l.length : Int)) = true := by simp; omega
    have h2 : decide (0 ≤ (i : Int)) = true := by simp
    rw [get_int hlt, h1, h2, w64_succ hlt (Nat.le_of_ble_eq_true hl), List.drop_eq_getElem_cons hlt, sumI, f99_loop l hl N m (i + 1) _ (by omega)]
    rfl
theorem f99_sp (x0 : (List Int)) (hp : lenOK x0 = true) : ∃ (N : Nat) (r0 : AV), f99_T x0 N = some r0 ∧ wkAV r0 = enc .int (sumI0 x0) :=
  ⟨x0.length + 1, .int (sumI0 x0), f99_loop x0 hp (x0.length + 1) x0.length 0 0 (by omega), rfl⟩

theorem spoolsOK_at {x : Fi} {l : List Int} {n : Int} (h : spoolsOK x l n = true) : l.length ≤ 1000 ∧ ∀ k ∈ l, inReels x k = true := by
  simp only [spoolsOK, Bool.and_eq_true, decide_eq_true_eq, List.all_eq_true] at h
  exact h
theorem lasts_len {b : Bool} {x : Fi} {l : List Int} {n : Int} (h : l.length ≤ 1000) : lenOK (lastsL b x l n) = true := by
  unfold lenOK lastsL
  refine Nat.ble_eq_true_of_le ?_
  simp
  omega
theorem lastsL_app {b : Bool} {x : Fi} {l m : List Int} {n : Int} : lastsL b x (l ++ m) n = lastsL b x l n ++ lastsL b x m n := List.map_append

theorem f93l_loop (x : Fi) (l : List Int) (n : Int) (hp : spoolsOK x l n = true) (N : Nat) : ∀ (m i : Nat), i + m = l.length → f93l_L1 x l n N (m + 1) (lastsL false x (l.take i) n) i = some (.int (lastsI false x l n))
  | 0, i, h => by
    have e : f93l_L1 x l n N (0 + 1) (lastsL false x (l.take i) n) i = f93l_s1 x l n (f93l_L1 x l n N 0) (lastsL false x (l.take i) n) i := rfl
    rw [e, List.take_of_length_le (by omega)]
    unfold f93l_s1
    have h1 : decide ((i : Int) < (l.length : Int)) = false := by simp; omega
    rw [h1, lasts_len (l := l) (by have := (spoolsOK_at hp).1; omega)]
    rfl
  | m + 1, i, h => by
    have e : f93l_L1 x l n N (m + 1 + 1) (lastsL false x (l.take i) n) i = f93l_s1 x l n (f93l_L1 x l n N (m + 1)) (lastsL false x (l.take i) n) i := rfl
    rw [e]
    have hlt : i < l.length := by omega
    have hl := (spoolsOK_at hp).1
    have h3 : inReels3 x l[i] n = true := (spoolsOK_at hp).2 _ (List.getElem_mem hlt)
    have hn := f93l_loop x l n hp N m (i + 1) (by omega)
    rw [List.take_succ_eq_append_getElem hlt, lastsL_app] at hn
    have h1 : (decide (0 ≤ (i : Int)) && decide ((i : Int) < (l.length : Int))) = true := by simp; omega
    have hro : ∀ z : Int, roomy (lastsL false x (l.take i) n).length [z].length 8 = true := fun z => by
      unfold roomy lastsL
      refine Nat.ble_eq_true_of_le ?_
      simp
      omega
    unfold f93l_s1
    rw [get_int hlt, h1, h3, hro, decide_eq_true (show (i : Int) < (l.length : Int) by omega), w64_succ (i := i) (n := 3000) (by omega) (by omega)]
    simp only [decide_true, Bool.and_self, cond_true]
    exact hn
theorem f93l_sp (x0 : Fi) (x1 : List Int) (x2 : Int) (hp : spoolsOK x0 x1 x2 = true) : ∃ (N : Nat) (r0 : AV), f93l_T x0 x1 x2 N = some r0 ∧ wkAV r0 = enc .int (lastsI false x0 x1 x2) := by
  refine ⟨x1.length + 1, .int (lastsI false x0 x1 x2), ?_, rfl⟩
  unfold f93l_T f93l_s
  have e : f93l_L0 x0 x1 x2 (x1.length + 1) (x1.length + 1) = f93l_s0 x0 x1 x2 (f93l_L1 x0 x1 x2 (x1.length + 1) x1.length) := rfl
  rw [e]
  match x1, hp with
  | [], hp => rfl
  | k :: r, hp =>
    have hn := f93l_loop x0 (k :: r) x2 hp ((k :: r).length + 1) r.length 1 (by simp; omega)
    have h3 : inReels3 x0 k x2 = true := (spoolsOK_at hp).2 _ (List.mem_cons_self ..)
    unfold f93l_s0
    have h1 : decide ((0 : Int) < ((k :: r).length : Int)) = true := decide_eq_true (by simp only [List.length_cons]; omega)
    rw [h1, show (k :: r).getD 0 (0 : Int) = k from rfl, h3, show w64 ((0 : Int) + 1) = ((1 : Nat) : Int) from w64_small (n := 1) (by omega) (by omega)]
    simp only [decide_true, Bool.and_self, cond_true]
    exact hn

theorem f93h_loop (x : Fi) (l : List Int) (n : Int) (hp : spoolsOK x l n = true) (N : Nat) : ∀ (m i : Nat), i + m = l.length → f93h_L1 x l n N (m + 1) (lastsL true x (l.take i) n) i = some (.int (lastsI true x l n))
  | 0, i, h => by
    have e : f93h_L1 x l n N (0 + 1) (lastsL true x (l.take i) n) i = f93h_s1 x l n (f93h_L1 x l n N 0) (lastsL true x (l.take i) n) i := rfl
    rw [e, List.take_of_length_le (by omega)]
    unfold f93h_s1
    have h1 : decide ((i : Int) < (l.length : Int)) = false := by simp; omega
    rw [h1, lasts_len (l := l) (by have := (spoolsOK_at hp).1; omega)]
    rfl
  | m + 1, i, h => by
    have e : f93h_L1 x l n N (m + 1 + 1) (lastsL true x (l.take i) n) i = f93h_s1 x l n (f93h_L1 x l n N (m + 1)) (lastsL true x (l.take i) n) i := rfl
    rw [e]
    have hlt : i < l.length := by omega
    have hl := (spoolsOK_at hp).1
    have h3 : inReels3 x l[i] n = true := (spoolsOK_at hp).2 _ (List.getElem_mem hlt)
    have hn := f93h_loop x l n hp N m (i + 1) (by omega)
    rw [List.take_succ_eq_append_getElem hlt, lastsL_app] at hn
    have h1 : (decide (0 ≤ (i : Int)) && decide ((i : Int) < (l.length : Int))) = true := by simp; omega
    have hro : ∀ z : Int, roomy (lastsL true x (l.take i) n).length [z].length 8 = true := fun z => by
      unfold roomy lastsL
      refine Nat.ble_eq_true_of_le ?_
      simp
      omega
    unfold f93h_s1
    rw [get_int hlt, h1, h3, hro, decide_eq_true (show (i : Int) < (l.length : Int) by omega), w64_succ (i := i) (n := 3000) (by omega) (by omega)]
    simp only [decide_true, Bool.and_self, cond_true]
    exact hn
theorem f93h_sp (x0 : Fi) (x1 : List Int) (x2 : Int) (hp : spoolsOK x0 x1 x2 = true) : ∃ (N : Nat) (r0 : AV), f93h_T x0 x1 x2 N = some r0 ∧ wkAV r0 = enc .int (lastsI true x0 x1 x2) := by
  refine ⟨x1.length + 1, .int (lastsI true x0 x1 x2), ?_, rfl⟩
  unfold f93h_T f93h_s
  have e : f93h_L0 x0 x1 x2 (x1.length + 1) (x1.length + 1) = f93h_s0 x0 x1 x2 (f93h_L1 x0 x1 x2 (x1.length + 1) x1.length) := rfl
  rw [e]
  match x1, hp with
  | [], hp => rfl
  | k :: r, hp =>
    have hn := f93h_loop x0 (k :: r) x2 hp ((k :: r).length + 1) r.length 1 (by simp; omega)
    have h3 : inReels3 x0 k x2 = true := (spoolsOK_at hp).2 _ (List.mem_cons_self ..)
    unfold f93h_s0
    have h1 : decide ((0 : Int) < ((k :: r).length : Int)) = true := decide_eq_true (by simp only [List.length_cons]; omega)
    rw [h1, show (k :: r).getD 0 (0 : Int) = k from rfl, h3, show w64 ((0 : Int) + 1) = ((1 : Nat) : Int) from w64_small (n := 1) (by omega) (by omega)]
    simp only [decide_true, Bool.and_self, cond_true]
    exact hn

theorem f82_sp (x0 : Fi) (x1 : List Int) (x2 : Int) (hp : spoolsOK x0 x1 x2 = true) : ∃ (N : Nat) (r0 : AV), f82_T x0 x1 x2 = some r0 ∧ wkAV r0 = enc tSpan (TimeI x0 x1 x2) :=
  ⟨0, enc tSpan (TimeI x0 x1 x2), by unfold f82_T f82_s; simp [hp, TimeI, enc, encT], wk_enc _ _⟩

theorem are_spools {x : Fi} {l : List Int} (n : Int) (hc : checkB x = true) (h : areReelsB x l = true) : spoolsOK x l n = true := by
  have hal := are_len hc h
  have hcl := check_len hc
  simp only [spoolsOK, Bool.and_eq_true, decide_eq_true_eq]
  exact ⟨by omega, hal.2.1⟩
theorem take_spools {x : Fi} {l : List Int} {n : Int} (p : Nat) (h : spoolsOK x l n = true) : spoolsOK x (l.take p) n = true := by
  obtain ⟨h1, h2⟩ := spoolsOK_at h
  simp only [spoolsOK, Bool.and_eq_true, decide_eq_true_eq, List.all_eq_true]
  exact ⟨by simp; omega, fun k hk => h2 k (List.mem_of_mem_take hk)⟩

theorem f36_sp (x0 : Fi) (x1 : List Int) (x2 : Int) (hp : joinOK x0 x1 x2 = true) : ∃ (N : Nat) (r0 : AV), f36_T x0 x1 x2 = some r0 ∧ wkAV r0 = .tup [enc tSpan ((LastsI x0 x1 x2).1), enc .int ((LastsI x0 x1 x2).2)] := by
  simp only [joinOK, Bool.and_eq_true] at hp
  obtain ⟨hx, hl⟩ := hp
  have h : ∀ r, askOK x0 r = true := fun _ => hx
  have ha : areOK x0 x1 = true := hl
  have e : f36_T x0 x1 x2 = (bif (!decide (((askedF x0 (areReelsB x0 x1 && amid x2 0 999)).2) = (0 : Int))) then
        some (.tup [.agg [.int (0 : Int), .int (0 : Int)], .int ((askedF x0 (areReelsB x0 x1 && amid x2 0 999)).2)])
      else
        bif decide (((askedF x0 (areReelsB x0 x1 && amid x2 0 999)).1) = ((askedF x0 (areReelsB x0 x1 && amid x2 0 999)).1)) && ((spoolsOK ((askedF x0 (areReelsB x0 x1 && amid x2 0 999)).1) x1 x2)) then
          some (.tup [enc tSpan (TimeI ((askedF x0 (areReelsB x0 x1 && amid x2 0 999)).1) x1 x2), .int (0 : Int)])
        else
          none) := by
    unfold f36_T f36_s
    simp only [h, ha, cond_true]
    cases areReelsB x0 x1 <;> rfl
  rw [e]
  unfold LastsI
  generalize hr : (areReelsB x0 x1 && amid x2 0 999) = r
  by_cases h0 : askedI x0 r = 0
  · obtain ⟨hc, rfl⟩ := asked_zero h0
    rw [Bool.and_eq_true] at hr
    have hin := are_spools x2 hc hr.1
    have e1 : (askedF x0 true) = (x0, 0) := by simp [askedF, h0]
    exact ⟨0, .tup [enc tSpan (TimeI x0 x1 x2), .int 0], by simp [e1, hin], by simp [wkAV, wkL, wk_enc, wkT_enc, h0, enc]⟩
  · exact ⟨0, .tup [.agg [.int 0, .int 0], .int (askedI x0 r)], by simp [askedF, h0], by simp [wkAV, wkL, h0, enc, encT]⟩

/-- The spools of reels that are joined are full as far as reels come. -/
theorem spools_gs {x : Fi} {l : List Int} {n : Int} (hc : checkB x = true) (ha : areReelsB x l = true) (h0 : 0 < l.length) (hs : (spoolsF x l n).2 = true) : GS x.2.2.2 (spoolsF x l n).1 (l.map fun k => mostI x k n) := by
  have hS : 1 ≤ x.2.2.2 ∧ x.2.2.2 ≤ 6000 := by
    simp only [checkB, amid, Bool.and_eq_true, decide_eq_true_eq] at hc
    exact hc.2.2.2.1
  have hal := are_len hc ha
  have hcl := check_len hc
  match l, ha, h0, hs, hal with
  | k :: r, ha, h0, hs, hal =>
    have hsm : ∀ j ∈ k :: r, mostI x j n ≤ x.2.2.2 := fun j hj => by
      refine Int.not_lt.1 fun hlt => ?_
      unfold spoolsF at hs
      rw [spGo_large (k :: r) [] (-1) ⟨j, hj, hlt⟩] at hs
      cases hs
    simp only [List.length_cons] at hal
    rw [spools_seg (by omega) hS.2 hsm (by omega)]
    have hs0 := hsm k (List.mem_cons_self ..)
    have := seg_gs x.2.2.2 (r.map fun k => mostI x k n) [mostI x k n] (x.2.2.2 - mostI x k n) (fun w hw => by
      obtain ⟨j, hj, rfl⟩ := List.mem_map.1 hw
      exact ⟨most_nonneg x j n, hsm j (List.mem_cons_of_mem _ hj)⟩) (by simp) (by simp only [sumZ]; omega) (by omega)
    exact this
theorem gs_ne {S : Int} : ∀ {l f : List Int}, GS S l f → f ≠ [] → l ≠ []
  | [], f, h, hf => absurd h hf
  | c :: cs, f, h, hf => List.cons_ne_nil _ _
theorem gs_pos {S : Int} : ∀ {l f : List Int}, GS S l f → ∀ c ∈ l, 1 ≤ c
  | [], f, h, c, hc => nomatch hc
  | d :: cs, f, h, c, hc => by
    simp only [GS] at h
    rcases List.mem_cons.1 hc with rfl | hc
    · exact h.1
    · exact gs_pos h.2.2.2.2 c hc
theorem gs_length {S : Int} : ∀ {l f : List Int}, GS S l f → l.length ≤ f.length
  | [], f, h => Nat.zero_le _
  | d :: cs, f, h => by
    simp only [GS] at h
    have := gs_length h.2.2.2.2
    rw [List.length_drop] at this
    simp only [List.length_cons]
    omega

theorem joined_zero {x : Fi} {l : List Int} {n : Int} (h : (joinedI x l n).2.2 = 0) : checkB x = true ∧ areReelsB x l = true ∧ 0 < l.length ∧ amid n 0 999 = true ∧ (spoolsF x l n).2 = true ∧ joinedI x l n = (x, (spoolsF x l n).1, 0) := by
  unfold joinedI at h ⊢
  generalize hr : (decide (0 < (l.length : Int)) && (areReelsB x l && amid n 0 999)) = r at h ⊢
  by_cases h0 : askedI x r = 0
  · obtain ⟨hc, rfl⟩ := asked_zero h0
    simp only [Bool.and_eq_true, decide_eq_true_eq] at hr
    rw [if_pos h0] at h ⊢
    by_cases h2 : (spoolsF x l n).2 = true
    · rw [if_pos h2]
      exact ⟨hc, hr.2.1, by omega, hr.2.2, h2, rfl⟩
    · rw [if_neg h2] at h
      cases h
  · rw [if_neg h0] at h
    exact absurd h h0

theorem f40_loop {x : Fi} {l : List Int} {n : Int} {L : List Int} (hJ : joinedI x l n = (x, L, 0)) (hsp : spoolsOK x l n = true) (hL : L.length ≤ 1000) (hL0 : 0 < L.length) {F : List Int} {S : Int} (hF : F.length = l.length) (N : Nat) : ∀ (m i p : Nat) (out : List Sp) (N' : Nat), i + m + 1 = L.length → m < N' → p ≤ l.length → GS S (L.drop i) (F.drop p) → out.length ≤ i → ∃ z, f40_L1 x l n N N' out p i = some (.tup [.sl tSpan ⟨z, true, none⟩ (out ++ chG x l n ((L.take (L.length - 1)).drop i) p), .int 0])
  | 0, i, p, out, N' + 1, hi, hN, hp, hg, ho => by
    have e : f40_L1 x l n N (N' + 1) out p i = f40_s1 x l n (f40_L1 x l n N N') out p i := rfl
    rw [e]
    unfold f40_s1
    simp only [hJ]
    have hw : (w64 ((L.length : Int) - 1)).toNat = L.length - 1 := by rw [w64_small (by omega) (by omega)]; omega
    have h1 : decide ((i : Int) < ((L.take (L.length - 1)).length : Int)) = false := by simp; omega
    rw [hw, h1, List.drop_eq_nil_of_le (by simp; omega)]
    have h2 : (decide (0 ≤ (out.length : Int)) && decide ((out.length : Int) ≤ (out.length : Int))) = true := by simp
    rw [h2, show ((out.length : Int).toNat) = out.length by simp, List.take_length]
    simp only [chG, List.append_nil, cond_true, cond_false, decide_true, Bool.and_self]
    exact ⟨_, rfl⟩
  | m + 1, i, p, out, N' + 1, hi, hN, hp, hg, ho => by
    have e : f40_L1 x l n N (N' + 1) out p i = f40_s1 x l n (f40_L1 x l n N N') out p i := rfl
    have hw : (w64 ((L.length : Int) - 1)).toNat = L.length - 1 := by rw [w64_small (by omega) (by omega)]; omega
    have hlt : i < (L.take (L.length - 1)).length := by simp; omega
    have hlt' : i < L.length := by omega
    have hgt : (L.take (L.length - 1))[i] = L[i] := List.getElem_take
    have hg0 := hg
    rw [List.drop_eq_getElem_cons hlt'] at hg
    simp only [GS, List.length_drop] at hg
    obtain ⟨g1, g2, g3, g4, g5⟩ := hg
    have hsl := (spoolsOK_at hsp).1
    obtain ⟨c, hc⟩ := Int.eq_ofNat_of_zero_le (show 0 ≤ L[i] by omega)
    rw [hc] at g1 g2 g5
    simp only [Int.toNat_natCast, List.drop_drop] at g5
    have hw1 : w64 ((p : Int) + (c : Int)) = ((p + c : Nat) : Int) := by rw [w64_small (by omega) (by omega)]; omega
    obtain ⟨z, hz⟩ := f40_loop hJ hsp hL hL0 hF N m (i + 1) (p + c) (out ++ [TimeI x (l.take (p + c)) n]) N' (by omega) (by omega) (by omega) g5 (by simp; omega)
    refine ⟨z, ?_⟩
    rw [e]
    unfold f40_s1
    simp only [hJ]
    have h1 : (decide (0 ≤ (i : Int)) && decide ((i : Int) < ((L.take (L.length - 1)).length : Int))) = true := by simp; omega
    have h2 : (decide (0 ≤ ((p + c : Nat) : Int)) && decide (((p + c : Nat) : Int) ≤ (l.length : Int))) = true := by simp; omega
    have hro : ∀ z : Sp, roomy out.length [z].length 16 = true := fun z => by
      unfold roomy
      refine Nat.ble_eq_true_of_le ?_
      simp
      omega
    rw [hw, get_int hlt, hgt, hc, hw1, h1, h2, Int.toNat_natCast, take_spools _ hsp, hro, decide_eq_true (show (i : Int) < ((L.take (L.length - 1)).length : Int) by omega), w64_succ (i := i) (n := 3000) (by omega) (by omega)]
    simp only [decide_true, Bool.and_self, cond_true]
    rw [List.drop_eq_getElem_cons hlt, hgt, hc, chG, hw1, Int.toNat_natCast]
    rw [hz]
    simp

theorem f40_sp (x0 : Fi) (x1 : List Int) (x2 : Int) (hp : joinOK x0 x1 x2 = true) : ∃ (N : Nat) (r0 : AV), f40_T x0 x1 x2 N = some r0 ∧ wkAV r0 = .tup [enc tSpans ((ChangesI x0 x1 x2).1), enc .int ((ChangesI x0 x1 x2).2)] := by
  by_cases h0 : (joinedI x0 x1 x2).2.2 = 0
  · obtain ⟨hc, ha, hl0, _, hs, hJ⟩ := joined_zero h0
    have hgs := spools_gs hc ha hl0 hs
    have hal := are_len hc ha
    have hcl := check_len hc
    have hsp := are_spools x2 hc ha
    generalize hL : (spoolsF x0 x1 x2).1 = L at hJ hgs
    have hLl := gs_length hgs
    rw [List.length_map] at hLl
    have hLp : 0 < L.length := List.length_pos_iff.2 (gs_ne hgs fun h => by
      have := congrArg List.length h
      simp at this
      subst this
      simp at hl0)
    have hw : w64 ((L.length : Int) - 1) = ((L.length - 1 : Nat) : Int) := by rw [w64_small (by omega) (by omega)]; omega
    have hcha : ChangesI x0 x1 x2 = (chG x0 x1 x2 (L.take (L.length - 1)) 0, 0) := by
      unfold ChangesI
      rw [hJ]
      simp only [if_true, hw, Int.toNat_natCast]
    have e : f40_L0 x0 x1 x2 (L.length + 1) (L.length + 1) = f40_s0 x0 x1 x2 (f40_L1 x0 x1 x2 (L.length + 1) L.length) := rfl
    have hmain : ∃ z, f40_L0 x0 x1 x2 (L.length + 1) (L.length + 1) = some (.tup [.sl tSpan ⟨z, true, none⟩ (chG x0 x1 x2 (L.take (L.length - 1)) 0), .int 0]) := by
      rw [e]
      unfold f40_s0
      simp only [hJ, hw, Int.toNat_natCast]
      match L, hLl, hLp, hgs, hJ with
      | [c], _, _, _, _ => exact ⟨true, rfl⟩
      | c :: d :: r, hLl, hLp, hgs, hJ =>
        have hg := hgs
        rw [GS] at hg
        obtain ⟨g1, g2, g3, g4, g5⟩ := hg
        rw [List.length_map] at g2
        obtain ⟨c', rfl⟩ := Int.eq_ofNat_of_zero_le (show 0 ≤ c by omega)
        simp only [Int.toNat_natCast] at g5
        have hw1 : w64 ((0 : Int) + (c' : Int)) = (c' : Int) := by rw [w64_small (by omega) (by omega)]; omega
        obtain ⟨z, hz⟩ := f40_loop hJ hsp (by omega) (by omega) (F := x1.map fun k => mostI x0 k x2) (by simp) (((c' : Int) :: d :: r).length + 1) r.length 1 c' [TimeI x0 (x1.take c') x2] ((c' : Int) :: d :: r).length (by simp; omega) (by simp; omega) (by omega) g5 (by simp)
        refine ⟨z, ?_⟩
        have h1 : decide ((0 : Int) < (((((c' : Int) :: d :: r).take (((c' : Int) :: d :: r).length - 1)).length : Nat) : Int)) = true := decide_eq_true (by rw [List.length_take]; simp only [List.length_cons]; omega)
        have h2 : (decide (0 ≤ (c' : Int)) && decide ((c' : Int) ≤ (x1.length : Int))) = true := by simp; omega
        have h3 : (((c' : Int) :: d :: r).take (((c' : Int) :: d :: r).length - 1)).getD 0 (0 : Int) = (c' : Int) := rfl
        have hro : ∀ z : Sp, roomy ([] : List Sp).length [z].length 16 = true := fun z => rfl
        rw [h1, h3, hw1, h2, Int.toNat_natCast, take_spools _ hsp, hro, show w64 ((0 : Int) + 1) = ((1 : Nat) : Int) from w64_small (n := 1) (by omega) (by omega)]
        simp only [decide_true, Bool.and_self, cond_true, List.nil_append, Int.le_refl]
        refine Eq.trans hz ?_
        rw [show ((c' : Int) :: d :: r).take (((c' : Int) :: d :: r).length - 1) = (c' : Int) :: (((c' : Int) :: d :: r).take (((c' : Int) :: d :: r).length - 1)).drop 1 from rfl, chG, hw1, Int.toNat_natCast]
        rfl
    obtain ⟨z, hz⟩ := hmain
    refine ⟨L.length + 1, .tup [.sl tSpan ⟨z, true, none⟩ (chG x0 x1 x2 (L.take (L.length - 1)) 0), .int 0], ?_, ?_⟩
    · unfold f40_T f40_s
      rw [hp, hz, hJ]
      have h1 : (decide (0 ≤ (w64 ((L.length : Int) - 1))) && decide ((w64 ((L.length : Int) - 1)) ≤ (L.length : Int))) = true := by rw [hw]; simp
      simp only [h1, decide_true, Bool.not_true, cond_true, cond_false]
    · rw [hcha]
      simp only [wkAV, wkL, enc]
  · refine ⟨0, .tup [.sl tSpan ⟨true, true, none⟩ [], .int (joinedI x0 x1 x2).2.2], ?_, ?_⟩
    · unfold f40_T f40_s
      rw [hp]
      simp [h0]
    · unfold ChangesI
      simp only [wkAV, wkL, enc, if_neg h0]

end Ev
end Go.Proofs.YtidnikjkpbmhhaaDoor
/- The contracts of how long reels last. -/
set_option linter.unusedVariables false
set_option maxRecDepth 4000
namespace Go.Proofs.YtidnikjkpbmhhaaDoor
namespace Ev

theorem k100 : Good 100 g100 := ⟨ctr_ofN (B := Bs) (X := X100) (ctxOK rfl rfl rfl rfl rfl rfl AllC.nil) Tryd.func100 (fun args r h => by
  unfold g100 at h
  split at h
  · rename_i a0
    split at h
    · rename_i x0 h0
      simp only [Option.some.injEq, Prod.mk.injEq] at h
      obtain ⟨hp, rfl⟩ := h
      obtain ⟨N, r0, q1, q2⟩ := f100_sp x0
      refine ⟨N, r0, ?_, q2⟩
      simp only [wkL, wk_dec h0]
      exact (f100_ev x0 N).trans q1
    · cases h
  · cases h), Tryd.f100, Tryd.func100, by kernel_rfl, by kernel_rfl⟩
theorem k101 : Good 101 g101 := ⟨ctr_ofN (B := Bs) (X := X101) (ctxOK rfl rfl rfl rfl rfl rfl AllC.nil) Tryd.func101 (fun args r h => by
  unfold g101 at h
  split at h
  · rename_i a0
    split at h
    · rename_i x0 h0
      simp only [Option.some.injEq, Prod.mk.injEq] at h
      obtain ⟨hp, rfl⟩ := h
      obtain ⟨N, r0, q1, q2⟩ := f101_sp x0
      refine ⟨N, r0, ?_, q2⟩
      simp only [wkL, wk_dec h0]
      exact (f101_ev x0 N).trans q1
    · cases h
  · cases h), Tryd.f101, Tryd.func101, by kernel_rfl, by kernel_rfl⟩
theorem k99 : Good 99 g99 := ⟨ctr_ofN (B := Bs) (X := X99) (ctxOK rfl rfl rfl rfl rfl rfl AllC.nil) Tryd.func99 (fun args r h => by
  unfold g99 at h
  split at h
  · rename_i a0
    split at h
    · rename_i x0 h0
      simp only [Option.some.injEq, Prod.mk.injEq] at h
      obtain ⟨hp, rfl⟩ := h
      obtain ⟨N, r0, q1, q2⟩ := f99_sp x0 hp
      refine ⟨N, r0, ?_, q2⟩
      simp only [wkL, wk_dec h0]
      exact (f99_ev x0 N).trans q1
    · cases h
  · cases h), Tryd.f99, Tryd.func99, by kernel_rfl, by kernel_rfl⟩
theorem sg94_eq : sg94 [] = some (true, .agg [.fn 100 [] []]) := by kernel_rfl
theorem k94 : Good 94 g94 := ⟨ctr_of_each (fun args r h => by
  unfold g94 at h
  split at h
  · cases h
    exact ⟨sg94, sk94.1, sg94_eq⟩
  · cases h), Tryd.f94, Tryd.func94, by kernel_rfl, by kernel_rfl⟩
theorem sg95_eq : sg95 [] = some (true, .agg [.fn 101 [] []]) := by kernel_rfl
theorem k95 : Good 95 g95 := ⟨ctr_of_each (fun args r h => by
  unfold g95 at h
  split at h
  · cases h
    exact ⟨sg95, sk95.1, sg95_eq⟩
  · cases h), Tryd.f95, Tryd.func95, by kernel_rfl, by kernel_rfl⟩
theorem k93l : Good 93 g93l := ⟨ctr_ofN (B := Bs) (X := X93l) (ctxOK rfl rfl rfl rfl rfl rfl (AllC.cons k80 (AllC.cons k99 (AllC.cons k100 AllC.nil)))) Tryd.func93 (fun args r h => by
  unfold g93l at h
  split at h
  · rename_i a0 t0 d0 a1 a2
    split at h
    · rename_i x0 y0 x1 x2 h0 k0 h1 h2
      simp only [Option.some.injEq, Prod.mk.injEq] at h
      obtain ⟨hp, rfl⟩ := h
      simp only [Bool.and_eq_true, decide_eq_true_eq] at hp
      obtain ⟨e0, hp⟩ := hp
      subst e0
      obtain ⟨N, r0, q1, q2⟩ := f93l_sp x0 x1 x2 hp
      refine ⟨N, r0, ?_, q2⟩
      have hfn : wkAV (.agg [.fn 100 [] []]) = .agg [.fn 100 [] []] := by kernel_rfl
      simp only [wkL, wk_film h0 k0, wk_dec h1, wk_dec h2, hfn]
      exact (f93l_ev x0 x1 x2 N).trans q1
    · cases h
  · cases h), Tryd.f93, Tryd.func93, by kernel_rfl, by kernel_rfl⟩
theorem k93h : Good 93 g93h := ⟨ctr_ofN (B := Bs) (X := X93h) (ctxOK rfl rfl rfl rfl rfl rfl (AllC.cons k80 (AllC.cons k99 (AllC.cons k101 AllC.nil)))) Tryd.func93 (fun args r h => by
  unfold g93h at h
  split at h
  · rename_i a0 t0 d0 a1 a2
    split at h
    · rename_i x0 y0 x1 x2 h0 k0 h1 h2
      simp only [Option.some.injEq, Prod.mk.injEq] at h
      obtain ⟨hp, rfl⟩ := h
      simp only [Bool.and_eq_true, decide_eq_true_eq] at hp
      obtain ⟨e0, hp⟩ := hp
      subst e0
      obtain ⟨N, r0, q1, q2⟩ := f93h_sp x0 x1 x2 hp
      refine ⟨N, r0, ?_, q2⟩
      have hfn : wkAV (.agg [.fn 101 [] []]) = .agg [.fn 101 [] []] := by kernel_rfl
      simp only [wkL, wk_film h0 k0, wk_dec h1, wk_dec h2, hfn]
      exact (f93h_ev x0 x1 x2 N).trans q1
    · cases h
  · cases h), Tryd.f93, Tryd.func93, by kernel_rfl, by kernel_rfl⟩
theorem k93 : Good 93 g93 := ⟨ctr_of_each (fun args r h => by
  unfold g93 at h
  split at h
  · rename_i r' hr
    cases h
    exact ⟨g93l, k93l.1, hr⟩
  · exact ⟨g93h, k93h.1, h⟩), Tryd.f93, Tryd.func93, by kernel_rfl, by kernel_rfl⟩
theorem k82 : Good 82 g82 := ⟨ctr_ofN (B := Bs) (X := X82) (ctxOK rfl rfl rfl rfl rfl rfl (AllC.cons k93 (AllC.cons k94 (AllC.cons k95 AllC.nil)))) Tryd.func82 (fun args r h => by
  unfold g82 at h
  split at h
  · rename_i a0 t0 d0 a1 a2
    split at h
    · rename_i x0 y0 x1 x2 h0 k0 h1 h2
      simp only [Option.some.injEq, Prod.mk.injEq] at h
      obtain ⟨hp, rfl⟩ := h
      simp only [Bool.and_eq_true, decide_eq_true_eq] at hp
      obtain ⟨e0, hp⟩ := hp
      subst e0
      obtain ⟨N, r0, q1, q2⟩ := f82_sp x0 x1 x2 hp
      refine ⟨N, r0, ?_, q2⟩
      simp only [wkL, wk_film h0 k0, wk_dec h1, wk_dec h2]
      exact (f82_ev x0 x1 x2 N).trans q1
    · cases h
  · cases h), Tryd.f82, Tryd.func82, by kernel_rfl, by kernel_rfl⟩
theorem k36 : Good 36 g36 := ⟨ctr_ofN (B := Bs) (X := X36) (ctxOK rfl rfl rfl rfl rfl rfl (AllC.cons k62 (AllC.cons k63 (AllC.cons k68 (AllC.cons k82 AllC.nil))))) Tryd.func36 (fun args r h => by
  unfold g36 at h
  split at h
  · rename_i a0 a1 a2
    split at h
    · rename_i x0 x1 x2 h0 h1 h2
      simp only [Option.some.injEq, Prod.mk.injEq] at h
      obtain ⟨hp, rfl⟩ := h
      obtain ⟨N, r0, q1, q2⟩ := f36_sp x0 x1 x2 hp
      refine ⟨N, r0, ?_, q2⟩
      simp only [wkL, wk_dec h0, wk_dec h1, wk_dec h2]
      exact (f36_ev x0 x1 x2 N).trans q1
    · cases h
  · cases h), Tryd.f36, Tryd.func36, by kernel_rfl, by kernel_rfl⟩
theorem k40 : Good 40 g40 := ⟨ctr_ofN (B := Bs) (X := X40) (ctxOK rfl rfl rfl rfl rfl rfl (AllC.cons k82 (AllC.cons k84 AllC.nil))) Tryd.func40 (fun args r h => by
  unfold g40 at h
  split at h
  · rename_i a0 a1 a2
    split at h
    · rename_i x0 x1 x2 h0 h1 h2
      simp only [Option.some.injEq, Prod.mk.injEq] at h
      obtain ⟨hp, rfl⟩ := h
      obtain ⟨N, r0, q1, q2⟩ := f40_sp x0 x1 x2 hp
      refine ⟨N, r0, ?_, q2⟩
      simp only [wkL, wk_dec h0, wk_dec h1, wk_dec h2]
      exact (f40_ev x0 x1 x2 N).trans q1
    · cases h
  · cases h), Tryd.f40, Tryd.func40, by kernel_rfl, by kernel_rfl⟩

end Ev
end Go.Proofs.YtidnikjkpbmhhaaDoor
/- The law of the time, as the evaluator walks it. -/
set_option linter.unusedVariables false
set_option maxRecDepth 4000
namespace Go.Proofs.YtidnikjkpbmhhaaDoor
namespace Ev

def timB (_ : Fi) (_ : List Int) (_ : Int) : Bool := true
def timOK (x : Fi) (b : List Int) (_ : Int) : Bool := chkOK x && lenOK b
noncomputable def g13 : List AV → Option (Bool × AV)
  | [a0, a1, a2] =>
    match dec tRF a0, dec tInts a1, dec .int a2 with
    | some x0, some x1, some x2 => some ((timOK x0 x1 x2), enc .bool (timB x0 x1 x2))
    | _, _, _ => none
  | _ => none
noncomputable def X13 : Ctx := { T := TT, G := GG, C := [(25, g25), (30, g30), (36, g36), (38, g38), (40, g40), (43, g43), (48, g48), (49, g49), (52, g52), (54, g54), (56, g56), (57, g57), (58, g58)], L := [(11, [0, 2, 4, 5, 6, 12, 14, 19, 20, 21, 22, 23, 24, 25, 26, 27, 28, 29, 30, 31, 32, 33, 34, 35, 36, 37, 38, 39, 40, 41, 42, 43, 44, 45, 46, 47, 48, 49, 50, 51, 52, 53, 54, 55, 56, 57, 58, 59, 60, 61, 62, 63, 64, 65, 66, 67, 68, 69, 70, 71, 72, 73, 74, 75, 76, 77, 78, 79, 80, 81, 82, 83, 84, 85, 86, 87, 88, 89, 90, 91, 92, 93, 94, 95, 96, 97, 98, 99, 100, 101, 102, 103, 104, 105, 106, 107, 108, 109, 110, 111, 112, 113, 114, 115, 116, 117, 118, 119, 120, 121, 122, 123, 124, 125, 126, 127, 128, 129, 130, 131, 132, 133, 134, 135, 136, 137, 138, 139, 140, 141, 142, 143, 144, 145, 146, 147, 148, 149, 150, 151, 152, 153, 154, 155, 156, 157, 158, 159, 160, 161, 162, 163, 164, 165, 166, 167, 168, 169, 170, 171, 172, 173, 174, 175, 176, 177, 178, 179, 180, 181, 182, 183, 184, 185, 186, 187, 188, 189, 190, 191, 192, 193, 194, 195, 196], [1, 7, 9, 11])] }
noncomputable def f13_s0 (a0 : ((List ((Int × Int) × (Int × Int) × (Int × Int))) × (Int × Int) × (Int × Int) × Int)) (a1 : (List Int)) (a2 : Int) (k0 : Int → Int → Int → Int → Option (AV)) (v0_0 : Int) (v0_1 : Int) (v0_2 : Int) (v0_3 : Int) : Option (AV) :=
  bif (decide (v0_3 < ((shufI (a0.1.length : Int) a1).length : Int))) then
    bif (decide (((SpoolsI a0 (shufI (a0.1.length : Int) a1) (turnI a2 (200 : Int))).2) = (0 : Int))) then
      bif (decide (v0_1 = (0 : Int))) then
        bif (decide ((((SpoolsI a0 (shufI (a0.1.length : Int) a1) (turnI a2 (200 : Int))).1).length : Int) ≤ v0_0)) then
          some (.bool false)
        else
          bif (decide ((0 : Int) < v0_0)) then
            bif decide (0 ≤ (w64 (v0_0 - (1 : Int)))) && decide ((w64 (v0_0 - (1 : Int))) < (((ChangesI a0 (shufI (a0.1.length : Int) a1) (turnI a2 (200 : Int))).1).length : Int)) then
              bif (!(holds (((ChangesI a0 (shufI (a0.1.length : Int) a1) (turnI a2 (200 : Int))).1).getD (w64 (v0_0 - (1 : Int))).toNat ((0 : Int), (0 : Int))) v0_2)) then
                some (.bool false)
              else
                bif decide (0 ≤ v0_0) && decide (v0_0 < (((SpoolsI a0 (shufI (a0.1.length : Int) a1) (turnI a2 (200 : Int))).1).length : Int)) then
                  bif decide (0 ≤ v0_3) && decide (v0_3 < ((shufI (a0.1.length : Int) a1).length : Int)) then
                    bif (chkOK3 a0 ((shufI (a0.1.length : Int) a1).getD v0_3.toNat (0 : Int)) (turnI a2 (200 : Int))) then
                      bif (!decide (((WornI a0 ((shufI (a0.1.length : Int) a1).getD v0_3.toNat (0 : Int)) (turnI a2 (200 : Int))).2) = (0 : Int))) then
                        some (.bool false)
                      else
                        bif (emptyS ((WornI a0 ((shufI (a0.1.length : Int) a1).getD v0_3.toNat (0 : Int)) (turnI a2 (200 : Int))).1)) then
                          some (.bool false)
                        else
                          bif (decide ((1200 : Int) < (((WornI a0 ((shufI (a0.1.length : Int) a1).getD v0_3.toNat (0 : Int)) (turnI a2 (200 : Int))).1).2))) then
                            some (.bool false)
                          else
                            bif (pickOK2 a1 v0_3) then
                              bif (pickOK2 a1 (w64 (v0_3 + (1 : Int)))) then
                                bif (pickOK2 a1 (w64 (v0_3 + (2 : Int)))) then
                                  bif (pickOK2 a1 (w64 (v0_3 + (3 : Int)))) then
                                    k0 (w64 (v0_0 + (1 : Int))) (w64 ((((SpoolsI a0 (shufI (a0.1.length : Int) a1) (turnI a2 (200 : Int))).1).getD v0_0.toNat (0 : Int)) - (1 : Int))) (w64 (v0_2 + (w64 ((w64 ((turnI (pickI a1 (w64 (v0_3 + (1 : Int)))) (w64 ((chooseI ((WornI a0 ((shufI (a0.1.length : Int) a1).getD v0_3.toNat (0 : Int)) (turnI a2 (200 : Int))).1) (pickI a1 v0_3)) + (1 : Int)))) * (chooseI a0.2.1 (pickI a1 (w64 (v0_3 + (2 : Int))))))) + (w64 ((w64 ((chooseI ((WornI a0 ((shufI (a0.1.length : Int) a1).getD v0_3.toNat (0 : Int)) (turnI a2 (200 : Int))).1) (pickI a1 v0_3)) - (turnI (pickI a1 (w64 (v0_3 + (1 : Int)))) (w64 ((chooseI ((WornI a0 ((shufI (a0.1.length : Int) a1).getD v0_3.toNat (0 : Int)) (turnI a2 (200 : Int))).1) (pickI a1 v0_3)) + (1 : Int)))))) * (chooseI a0.2.1 (pickI a1 (w64 (v0_3 + (3 : Int))))))))))) (w64 (v0_3 + (1 : Int)))
                                  else
                                    none
                                else
                                  none
                              else
                                none
                            else
                              none
                    else
                      none
                  else
                    none
                else
                  none
            else
              none
          else
            bif decide (0 ≤ v0_0) && decide (v0_0 < (((SpoolsI a0 (shufI (a0.1.length : Int) a1) (turnI a2 (200 : Int))).1).length : Int)) then
              bif decide (0 ≤ v0_3) && decide (v0_3 < ((shufI (a0.1.length : Int) a1).length : Int)) then
                bif (chkOK3 a0 ((shufI (a0.1.length : Int) a1).getD v0_3.toNat (0 : Int)) (turnI a2 (200 : Int))) then
                  bif (!decide (((WornI a0 ((shufI (a0.1.length : Int) a1).getD v0_3.toNat (0 : Int)) (turnI a2 (200 : Int))).2) = (0 : Int))) then
                    some (.bool false)
                  else
                    bif (emptyS ((WornI a0 ((shufI (a0.1.length : Int) a1).getD v0_3.toNat (0 : Int)) (turnI a2 (200 : Int))).1)) then
                      some (.bool false)
                    else
                      bif (decide ((1200 : Int) < (((WornI a0 ((shufI (a0.1.length : Int) a1).getD v0_3.toNat (0 : Int)) (turnI a2 (200 : Int))).1).2))) then
                        some (.bool false)
                      else
                        bif (pickOK2 a1 v0_3) then
                          bif (pickOK2 a1 (w64 (v0_3 + (1 : Int)))) then
                            bif (pickOK2 a1 (w64 (v0_3 + (2 : Int)))) then
                              bif (pickOK2 a1 (w64 (v0_3 + (3 : Int)))) then
                                k0 (w64 (v0_0 + (1 : Int))) (w64 ((((SpoolsI a0 (shufI (a0.1.length : Int) a1) (turnI a2 (200 : Int))).1).getD v0_0.toNat (0 : Int)) - (1 : Int))) (w64 (v0_2 + (w64 ((w64 ((turnI (pickI a1 (w64 (v0_3 + (1 : Int)))) (w64 ((chooseI ((WornI a0 ((shufI (a0.1.length : Int) a1).getD v0_3.toNat (0 : Int)) (turnI a2 (200 : Int))).1) (pickI a1 v0_3)) + (1 : Int)))) * (chooseI a0.2.1 (pickI a1 (w64 (v0_3 + (2 : Int))))))) + (w64 ((w64 ((chooseI ((WornI a0 ((shufI (a0.1.length : Int) a1).getD v0_3.toNat (0 : Int)) (turnI a2 (200 : Int))).1) (pickI a1 v0_3)) - (turnI (pickI a1 (w64 (v0_3 + (1 : Int)))) (w64 ((chooseI ((WornI a0 ((shufI (a0.1.length : Int) a1).getD v0_3.toNat (0 : Int)) (turnI a2 (200 : Int))).1) (pickI a1 v0_3)) + (1 : Int)))))) * (chooseI a0.2.1 (pickI a1 (w64 (v0_3 + (3 : Int))))))))))) (w64 (v0_3 + (1 : Int)))
                              else
                                none
                            else
                              none
                          else
                            none
                        else
                          none
                else
                  none
              else
                none
            else
              none
      else
        bif decide (0 ≤ v0_3) && decide (v0_3 < ((shufI (a0.1.length : Int) a1).length : Int)) then
          bif (chkOK3 a0 ((shufI (a0.1.length : Int) a1).getD v0_3.toNat (0 : Int)) (turnI a2 (200 : Int))) then
            bif (!decide (((WornI a0 ((shufI (a0.1.length : Int) a1).getD v0_3.toNat (0 : Int)) (turnI a2 (200 : Int))).2) = (0 : Int))) then
              some (.bool false)
            else
              bif (emptyS ((WornI a0 ((shufI (a0.1.length : Int) a1).getD v0_3.toNat (0 : Int)) (turnI a2 (200 : Int))).1)) then
                some (.bool false)
              else
                bif (decide ((1200 : Int) < (((WornI a0 ((shufI (a0.1.length : Int) a1).getD v0_3.toNat (0 : Int)) (turnI a2 (200 : Int))).1).2))) then
                  some (.bool false)
                else
                  bif (pickOK2 a1 v0_3) then
                    bif (pickOK2 a1 (w64 (v0_3 + (1 : Int)))) then
                      bif (pickOK2 a1 (w64 (v0_3 + (2 : Int)))) then
                        bif (pickOK2 a1 (w64 (v0_3 + (3 : Int)))) then
                          k0 v0_0 (w64 (v0_1 - (1 : Int))) (w64 (v0_2 + (w64 ((w64 ((turnI (pickI a1 (w64 (v0_3 + (1 : Int)))) (w64 ((chooseI ((WornI a0 ((shufI (a0.1.length : Int) a1).getD v0_3.toNat (0 : Int)) (turnI a2 (200 : Int))).1) (pickI a1 v0_3)) + (1 : Int)))) * (chooseI a0.2.1 (pickI a1 (w64 (v0_3 + (2 : Int))))))) + (w64 ((w64 ((chooseI ((WornI a0 ((shufI (a0.1.length : Int) a1).getD v0_3.toNat (0 : Int)) (turnI a2 (200 : Int))).1) (pickI a1 v0_3)) - (turnI (pickI a1 (w64 (v0_3 + (1 : Int)))) (w64 ((chooseI ((WornI a0 ((shufI (a0.1.length : Int) a1).getD v0_3.toNat (0 : Int)) (turnI a2 (200 : Int))).1) (pickI a1 v0_3)) + (1 : Int)))))) * (chooseI a0.2.1 (pickI a1 (w64 (v0_3 + (3 : Int))))))))))) (w64 (v0_3 + (1 : Int)))
                        else
                          none
                      else
                        none
                    else
                      none
                  else
                    none
          else
            none
        else
          none
    else
      bif decide (0 ≤ v0_3) && decide (v0_3 < ((shufI (a0.1.length : Int) a1).length : Int)) then
        bif (chkOK3 a0 ((shufI (a0.1.length : Int) a1).getD v0_3.toNat (0 : Int)) (turnI a2 (200 : Int))) then
          bif (!decide (((WornI a0 ((shufI (a0.1.length : Int) a1).getD v0_3.toNat (0 : Int)) (turnI a2 (200 : Int))).2) = (0 : Int))) then
            some (.bool false)
          else
            bif (emptyS ((WornI a0 ((shufI (a0.1.length : Int) a1).getD v0_3.toNat (0 : Int)) (turnI a2 (200 : Int))).1)) then
              some (.bool false)
            else
              bif (decide ((1200 : Int) < (((WornI a0 ((shufI (a0.1.length : Int) a1).getD v0_3.toNat (0 : Int)) (turnI a2 (200 : Int))).1).2))) then
                some (.bool false)
              else
                bif (pickOK2 a1 v0_3) then
                  bif (pickOK2 a1 (w64 (v0_3 + (1 : Int)))) then
                    bif (pickOK2 a1 (w64 (v0_3 + (2 : Int)))) then
                      bif (pickOK2 a1 (w64 (v0_3 + (3 : Int)))) then
                        k0 v0_0 (w64 (v0_1 - (1 : Int))) (w64 (v0_2 + (w64 ((w64 ((turnI (pickI a1 (w64 (v0_3 + (1 : Int)))) (w64 ((chooseI ((WornI a0 ((shufI (a0.1.length : Int) a1).getD v0_3.toNat (0 : Int)) (turnI a2 (200 : Int))).1) (pickI a1 v0_3)) + (1 : Int)))) * (chooseI a0.2.1 (pickI a1 (w64 (v0_3 + (2 : Int))))))) + (w64 ((w64 ((chooseI ((WornI a0 ((shufI (a0.1.length : Int) a1).getD v0_3.toNat (0 : Int)) (turnI a2 (200 : Int))).1) (pickI a1 v0_3)) - (turnI (pickI a1 (w64 (v0_3 + (1 : Int)))) (w64 ((chooseI ((WornI a0 ((shufI (a0.1.length : Int) a1).getD v0_3.toNat (0 : Int)) (turnI a2 (200 : Int))).1) (pickI a1 v0_3)) + (1 : Int)))))) * (chooseI a0.2.1 (pickI a1 (w64 (v0_3 + (3 : Int))))))))))) (w64 (v0_3 + (1 : Int)))
                      else
                        none
                    else
                      none
                  else
                    none
                else
                  none
        else
          none
      else
        none
  else
    bif (holds ((LastsI a0 (shufI (a0.1.length : Int) a1) (turnI a2 (200 : Int))).1) v0_2) then
      some (.bool turnedB)
    else
      some (.bool false)

noncomputable def f13_s (a0 : ((List ((Int × Int) × (Int × Int) × (Int × Int))) × (Int × Int) × (Int × Int) × Int)) (a1 : (List Int)) (a2 : Int) (k0 : Int → Int → Int → Int → Option (AV)) : Option (AV) :=
  bif (chkOK a0) then
    bif (!(soundB a0)) then
      some (.bool turnedB)
    else
      bif (shufOK (a0.1.length : Int) a1) then
        bif (joinOK a0 (shufI (a0.1.length : Int) a1) (turnI a2 (200 : Int))) then
          bif (joinOK a0 (shufI (a0.1.length : Int) a1) (turnI a2 (200 : Int))) then
            bif (joinOK a0 (shufI (a0.1.length : Int) a1) (turnI a2 (200 : Int))) then
              bif (!decide (((ChangesI a0 (shufI (a0.1.length : Int) a1) (turnI a2 (200 : Int))).2) = ((SpoolsI a0 (shufI (a0.1.length : Int) a1) (turnI a2 (200 : Int))).2))) then
                some (.bool false)
              else
                bif (!decide (((LastsI a0 (shufI (a0.1.length : Int) a1) (turnI a2 (200 : Int))).2) = (0 : Int))) then
                  some (.bool false)
                else
                  bif (!decide (((SpoolsI a0 (shufI (a0.1.length : Int) a1) (turnI a2 (200 : Int))).2) = (0 : Int))) then
                    bif (!decide (((SpoolsI a0 (shufI (a0.1.length : Int) a1) (turnI a2 (200 : Int))).2) = (4 : Int))) then
                      some (.bool false)
                    else
                      bif (!decide ((w64 ((((SpoolsI a0 (shufI (a0.1.length : Int) a1) (turnI a2 (200 : Int))).1).length : Int) + (((ChangesI a0 (shufI (a0.1.length : Int) a1) (turnI a2 (200 : Int))).1).length : Int))) = (0 : Int))) then
                        some (.bool false)
                      else
                        bif (decide (((SpoolsI a0 (shufI (a0.1.length : Int) a1) (turnI a2 (200 : Int))).2) = (0 : Int))) then
                          bif (!decide ((w64 ((((ChangesI a0 (shufI (a0.1.length : Int) a1) (turnI a2 (200 : Int))).1).length : Int) + (1 : Int))) = (((SpoolsI a0 (shufI (a0.1.length : Int) a1) (turnI a2 (200 : Int))).1).length : Int))) then
                            some (.bool false)
                          else
                            bif (lenOK ((SpoolsI a0 (shufI (a0.1.length : Int) a1) (turnI a2 (200 : Int))).1)) then
                              bif (!decide ((sumI0 ((SpoolsI a0 (shufI (a0.1.length : Int) a1) (turnI a2 (200 : Int))).1)) = ((shufI (a0.1.length : Int) a1).length : Int))) then
                                some (.bool false)
                              else
                                k0 (0 : Int) (0 : Int) (0 : Int) (0 : Int)
                            else
                              none
                        else
                          k0 (0 : Int) (0 : Int) (0 : Int) (0 : Int)
                  else
                    bif (decide (((SpoolsI a0 (shufI (a0.1.length : Int) a1) (turnI a2 (200 : Int))).2) = (0 : Int))) then
                      bif (!decide ((w64 ((((ChangesI a0 (shufI (a0.1.length : Int) a1) (turnI a2 (200 : Int))).1).length : Int) + (1 : Int))) = (((SpoolsI a0 (shufI (a0.1.length : Int) a1) (turnI a2 (200 : Int))).1).length : Int))) then
                        some (.bool false)
                      else
                        bif (lenOK ((SpoolsI a0 (shufI (a0.1.length : Int) a1) (turnI a2 (200 : Int))).1)) then
                          bif (!decide ((sumI0 ((SpoolsI a0 (shufI (a0.1.length : Int) a1) (turnI a2 (200 : Int))).1)) = ((shufI (a0.1.length : Int) a1).length : Int))) then
                            some (.bool false)
                          else
                            k0 (0 : Int) (0 : Int) (0 : Int) (0 : Int)
                        else
                          none
                    else
                      k0 (0 : Int) (0 : Int) (0 : Int) (0 : Int)
            else
              none
          else
            none
        else
          none
      else
        none
  else
    none

noncomputable def f13_R0 (a0 : ((List ((Int × Int) × (Int × Int) × (Int × Int))) × (Int × Int) × (Int × Int) × Int)) (a1 : (List Int)) (a2 : Int) (N : Nat) (n : Nat) (v0_0 : Int) (v0_1 : Int) (v0_2 : Int) (v0_3 : Int) : Option (AV) :=
  loopN (evC X13 N (sub [(1, 0), (1, 0), (1, 0), (1, 0), (1, 0), (1, 0), (1, 0), (1, 0), (0, 0), (1, 0), (0, 0), (0, 0)] (bodyOf Tryd.f13))) (keepOf X13.L (sub [(1, 0), (1, 0), (1, 0), (1, 0), (1, 0), (1, 0), (1, 0), (1, 0), (0, 0), (1, 0), (0, 0), (0, 0)] (bodyOf Tryd.f13))) n ⟨[.poison, .sl .int ⟨false, false, none⟩ a1, .poison, .ref 3 [], .poison, .poison, .poison, .sl .int ⟨false, false, none⟩ (shufI (a0.1.length : Int) a1), .int (turnI a2 (200 : Int)), .sl .int ⟨false, false, none⟩ ((SpoolsI a0 (shufI (a0.1.length : Int) a1) (turnI a2 (200 : Int))).1), .int ((SpoolsI a0 (shufI (a0.1.length : Int) a1) (turnI a2 (200 : Int))).2), .sl tSpan ⟨false, false, none⟩ ((ChangesI a0 (shufI (a0.1.length : Int) a1) (turnI a2 (200 : Int))).1), .poison, .ref 13 [], .poison, .int v0_0, .int v0_1, .int v0_2, .int v0_3, .poison, .poison, .poison, .poison, .poison, .poison, .poison, .poison, .poison, .poison, .poison, .poison, .poison, .poison, .poison, .poison, .poison, .poison, .poison, .poison, .poison, .poison, .poison, .poison, .poison, .poison, .poison, .poison, .poison, .poison, .poison, .poison, .poison, .poison, .poison, .poison, .poison, .poison, .poison, .poison, .poison, .poison, .poison, .poison, .poison, .poison, .poison, .poison, .poison, .poison, .poison, .poison, .poison, .poison, .poison, .poison, .poison, .poison, .poison, .poison, .poison, .poison, .poison, .poison, .poison, .poison, .poison, .poison, .poison, .poison, .poison, .poison, .poison, .poison, .poison, .poison, .poison, .poison, .poison, .poison, .poison, .poison, .poison, .poison, .poison, .poison, .poison, .poison, .poison, .poison, .poison, .poison, .poison, .poison, .poison, .poison, .poison, .poison, .poison, .poison, .poison, .poison, .poison, .poison, .poison, .poison, .poison, .poison, .poison, .poison, .poison, .poison, .poison, .poison, .poison, .poison, .poison, .poison, .poison, .poison, .poison, .poison, .poison, .poison, .poison, .poison, .poison, .poison, .poison, .poison, .poison, .poison, .poison, .poison, .poison, .poison, .poison, .poison, .poison, .poison, .poison, .poison, .poison, .poison, .poison, .poison, .poison, .poison, .poison, .poison, .poison, .poison, .poison, .poison, .poison, .poison, .poison, .poison, .poison, .poison, .poison, .poison, .poison, .poison, .poison, .poison, .poison, .poison, .poison, .poison, .poison, .poison, .poison, .poison, .poison, .poison, .poison, .poison], [.none, .none, .none, .box (enc tRF a0), .none, .none, .none, .none, .none, .none, .none, .none, .none, .box (enc tSpan ((LastsI a0 (shufI (a0.1.length : Int) a1) (turnI a2 (200 : Int))).1)), .none, .none, .none, .none, .none, .none, .none, .none, .none, .none, .none, .none, .none, .none, .none, .none, .none, .none, .none, .none, .none, .none, .none, .none, .none, .none, .none, .none, .none, .none, .none, .none, .none, .none, .none, .none, .none, .none, .none, .none, .none, .none, .none, .none, .none, .none, .none, .none, .none, .none, .none, .none, .none, .none, .none, .none, .none, .none, .none, .none, .none, .none, .none, .none, .none, .none, .none, .none, .none, .none, .none, .none, .none, .none, .none, .none, .none, .none, .none, .none, .none, .none, .none, .none, .none, .none, .none, .none, .none, .none, .none, .none, .none, .none, .none, .none, .none, .none, .none, .none, .none, .none, .none, .none, .none, .none, .none, .none, .none, .none, .none, .none, .none, .none, .none, .none, .none, .none, .none, .none, .none, .none, .none, .none, .none, .none, .none, .none, .none, .none, .none, .none, .none, .none, .none, .none, .none, .none, .none, .none, .none, .none, .none, .none, .none, .none, .none, .none, .none, .none, .none, .none, .none, .none, .none, .none, .none, .none, .none, .none, .none, .none, .none, .none, .none, .none, .none, .none, .none, .none, .none, .none, .none, .none, .none, .none, .none, .none, .none, .none, .none, .none, .none]⟩ (ctxK X13 N [(1, 0), (1, 0), (1, 0), (1, 0), (1, 0), (1, 0), (1, 0), (1, 0), (0, 0), (1, 0), (0, 0)] (bodyOf Tryd.f13) (finK X13 Tryd.f13))

theorem f13_e0 (a0 : ((List ((Int × Int) × (Int × Int) × (Int × Int))) × (Int × Int) × (Int × Int) × Int)) (a1 : (List Int)) (a2 : Int) (N : Nat) (n : Nat) (v0_0 : Int) (v0_1 : Int) (v0_2 : Int) (v0_3 : Int) : f13_R0 a0 a1 a2 N (n + 1) v0_0 v0_1 v0_2 v0_3 = f13_s0 a0 a1 a2 (f13_R0 a0 a1 a2 N n) v0_0 v0_1 v0_2 v0_3 := by kernel_rfl

noncomputable def f13_L0 (a0 : ((List ((Int × Int) × (Int × Int) × (Int × Int))) × (Int × Int) × (Int × Int) × Int)) (a1 : (List Int)) (a2 : Int) (N : Nat) : Nat → Int → Int → Int → Int → Option (AV)
  | 0, _, _, _, _ => none
  | n + 1, v0_0, v0_1, v0_2, v0_3 => f13_s0 a0 a1 a2 (f13_L0 a0 a1 a2 N n) v0_0 v0_1 v0_2 v0_3

theorem f13_q0 (a0 : ((List ((Int × Int) × (Int × Int) × (Int × Int))) × (Int × Int) × (Int × Int) × Int)) (a1 : (List Int)) (a2 : Int) (N : Nat) : ∀ n : Nat, f13_R0 a0 a1 a2 N n = f13_L0 a0 a1 a2 N n
  | 0 => by
    funext v0_0
    funext v0_1
    funext v0_2
    funext v0_3
    rfl
  | n + 1 => by
    funext v0_0
    funext v0_1
    funext v0_2
    funext v0_3
    rw [f13_e0]
    simp only [f13_q0 a0 a1 a2 N n]
    rfl

noncomputable def f13_T (a0 : ((List ((Int × Int) × (Int × Int) × (Int × Int))) × (Int × Int) × (Int × Int) × Int)) (a1 : (List Int)) (a2 : Int) (N : Nat) : Option (AV) := f13_s a0 a1 a2 (f13_L0 a0 a1 a2 N N)

theorem f13_ev (a0 : ((List ((Int × Int) × (Int × Int) × (Int × Int))) × (Int × Int) × (Int × Int) × Int)) (a1 : (List Int)) (a2 : Int) (N : Nat) : evF X13 N Tryd.f13 [enc tRF a0, enc tInts a1, enc .int a2] = f13_T a0 a1 a2 N := by
  have h : evF X13 N Tryd.f13 [enc tRF a0, enc tInts a1, enc .int a2] = f13_s a0 a1 a2 (f13_R0 a0 a1 a2 N N) := by kernel_rfl
  rw [h, f13_q0]
  rfl

end Ev
end Go.Proofs.YtidnikjkpbmhhaaDoor
/- The law of both ends, as the evaluator walks it. -/
set_option linter.unusedVariables false
set_option maxRecDepth 4000
namespace Go.Proofs.YtidnikjkpbmhhaaDoor
namespace Ev

noncomputable def g12 : List AV → Option (Bool × AV)
  | [a0, a1] =>
    match dec tRF a0, dec (.arr 2 .int) a1 with
    | some x0, some x1 => some ((endsOK x0 x1), enc .bool (endsB x0 x1))
    | _, _ => none
  | _ => none
noncomputable def X12 : Ctx := { T := TT, G := GG, C := [(25, g25), (30, g30), (43, g43), (48, g48), (53, g53)], L := [(8, [0, 1, 3, 4, 5, 14, 15, 16, 17, 18, 19, 20, 21, 22, 23, 24, 25, 26, 27, 28, 29, 30, 31, 32, 33, 34, 35, 36, 37, 38, 39, 40, 41, 42, 43, 44, 45, 46, 47, 48, 49, 50, 51, 52, 53, 54, 55, 56, 57, 58, 59, 60, 61, 62, 63, 64, 65, 66, 67, 68, 69, 70, 71, 72, 73, 74, 75, 76, 77, 78, 79, 80, 81, 82, 83, 84, 85, 86, 87, 88, 89, 90, 91, 92, 93, 94, 95, 96, 97, 98, 99, 100, 101, 102], [])] }
noncomputable def f12_s0 (a0 : ((List ((Int × Int) × (Int × Int) × (Int × Int))) × (Int × Int) × (Int × Int) × Int)) (a1 : (List Int)) (k0 : Int → Int → Int → Option (AV)) (v0_0 : Int) (v0_1 : Int) (v0_2 : Int) : Option (AV) :=
  bif (decide (v0_2 < (turnI (a1.getD 1 (0 : Int)) (999 : Int)))) then
    k0 (if (0 : Int) < (w64 (v0_0 - a0.2.2.1.2)) then (w64 (v0_0 - a0.2.2.1.2)) else (0 : Int)) (if (0 : Int) < (w64 (v0_1 - a0.2.2.1.1)) then (w64 (v0_1 - a0.2.2.1.1)) else (0 : Int)) (w64 (v0_2 + (1 : Int)))
  else
    bif (decide (((WornI a0 (turnI (a1.getD 0 (0 : Int)) (a0.1.length : Int)) (turnI (a1.getD 1 (0 : Int)) (999 : Int))).2) = (0 : Int))) then
      bif (decide (((WornI a0 (turnI (a1.getD 0 (0 : Int)) (a0.1.length : Int)) (w64 ((turnI (a1.getD 1 (0 : Int)) (999 : Int)) + (1 : Int)))).2) = (0 : Int))) then
        bif ((decide (((WornI a0 (turnI (a1.getD 0 (0 : Int)) (a0.1.length : Int)) (turnI (a1.getD 1 (0 : Int)) (999 : Int))).1).1 = (mk2 v0_0 v0_1).1)) && ((decide (((WornI a0 (turnI (a1.getD 0 (0 : Int)) (a0.1.length : Int)) (turnI (a1.getD 1 (0 : Int)) (999 : Int))).1).2 = (mk2 v0_0 v0_1).2)) && true)) then
          bif (decide ((((WornI a0 (turnI (a1.getD 0 (0 : Int)) (a0.1.length : Int)) (w64 ((turnI (a1.getD 1 (0 : Int)) (999 : Int)) + (1 : Int)))).1).1) ≤ (((WornI a0 (turnI (a1.getD 0 (0 : Int)) (a0.1.length : Int)) (turnI (a1.getD 1 (0 : Int)) (999 : Int))).1).1))) then
            bif (decide ((((WornI a0 (turnI (a1.getD 0 (0 : Int)) (a0.1.length : Int)) (w64 ((turnI (a1.getD 1 (0 : Int)) (999 : Int)) + (1 : Int)))).1).2) ≤ (((WornI a0 (turnI (a1.getD 0 (0 : Int)) (a0.1.length : Int)) (turnI (a1.getD 1 (0 : Int)) (999 : Int))).1).2))) then
              some (.bool turnedB)
            else
              some (.bool false)
          else
            some (.bool false)
        else
          some (.bool false)
      else
        some (.bool false)
    else
      some (.bool false)

noncomputable def f12_s (a0 : ((List ((Int × Int) × (Int × Int) × (Int × Int))) × (Int × Int) × (Int × Int) × Int)) (a1 : (List Int)) (k0 : Int → Int → Int → Option (AV)) : Option (AV) :=
  bif (chkOK a0) then
    bif (!(soundB a0)) then
      some (.bool turnedB)
    else
      bif decide (0 ≤ (0 : Int)) && decide ((0 : Int) < 2) then
        bif decide (0 ≤ (1 : Int)) && decide ((1 : Int) < 2) then
          bif (chkOK3 a0 (turnI (a1.getD 0 (0 : Int)) (a0.1.length : Int)) (turnI (a1.getD 1 (0 : Int)) (999 : Int))) then
            bif (chkOK3 a0 (turnI (a1.getD 0 (0 : Int)) (a0.1.length : Int)) (w64 ((turnI (a1.getD 1 (0 : Int)) (999 : Int)) + (1 : Int)))) then
              bif decide (0 ≤ (turnI (a1.getD 0 (0 : Int)) (a0.1.length : Int))) && decide ((turnI (a1.getD 0 (0 : Int)) (a0.1.length : Int)) < (a0.1.length : Int)) then
                bif decide (0 ≤ (turnI (a1.getD 0 (0 : Int)) (a0.1.length : Int))) && decide ((turnI (a1.getD 0 (0 : Int)) (a0.1.length : Int)) < (a0.1.length : Int)) then
                  k0 (((a0.1.getD (turnI (a1.getD 0 (0 : Int)) (a0.1.length : Int)).toNat (((0 : Int), (0 : Int)), ((0 : Int), (0 : Int)), ((0 : Int), (0 : Int)))).2.2).1) (((a0.1.getD (turnI (a1.getD 0 (0 : Int)) (a0.1.length : Int)).toNat (((0 : Int), (0 : Int)), ((0 : Int), (0 : Int)), ((0 : Int), (0 : Int)))).2.2).2) (0 : Int)
                else
                  none
              else
                none
            else
              none
          else
            none
        else
          none
      else
        none
  else
    none

noncomputable def f12_R0 (a0 : ((List ((Int × Int) × (Int × Int) × (Int × Int))) × (Int × Int) × (Int × Int) × Int)) (a1 : (List Int)) (N : Nat) (n : Nat) (v0_0 : Int) (v0_1 : Int) (v0_2 : Int) : Option (AV) :=
  loopN (evC X12 N (sub [(1, 0), (1, 0), (1, 0), (1, 0), (1, 0), (1, 0), (0, 0), (1, 0), (0, 0), (0, 0)] (bodyOf Tryd.f12))) (keepOf X12.L (sub [(1, 0), (1, 0), (1, 0), (1, 0), (1, 0), (1, 0), (0, 0), (1, 0), (0, 0), (0, 0)] (bodyOf Tryd.f12))) n ⟨[.poison, .poison, .ref 2 [], .poison, .poison, .poison, .int (turnI (a1.getD 1 (0 : Int)) (999 : Int)), .ref 7 [], .int ((WornI a0 (turnI (a1.getD 0 (0 : Int)) (a0.1.length : Int)) (turnI (a1.getD 1 (0 : Int)) (999 : Int))).2), .ref 9 [], .int ((WornI a0 (turnI (a1.getD 0 (0 : Int)) (a0.1.length : Int)) (w64 ((turnI (a1.getD 1 (0 : Int)) (999 : Int)) + (1 : Int)))).2), .int v0_0, .int v0_1, .int v0_2, .poison, .poison, .poison, .poison, .poison, .poison, .poison, .poison, .poison, .poison, .poison, .poison, .poison, .poison, .poison, .poison, .poison, .poison, .poison, .poison, .poison, .poison, .poison, .poison, .poison, .poison, .poison, .poison, .poison, .poison, .poison, .poison, .poison, .poison, .poison, .poison, .poison, .poison, .poison, .poison, .poison, .poison, .poison, .poison, .poison, .poison, .poison, .poison, .poison, .poison, .poison, .poison, .poison, .poison, .poison, .poison, .poison, .poison, .poison, .poison, .poison, .poison, .poison, .poison, .poison, .poison, .poison, .poison, .poison, .poison, .poison, .poison, .poison, .poison, .poison, .poison, .poison, .poison, .poison, .poison, .poison, .poison, .poison, .poison, .poison, .poison, .poison, .poison, .poison], [.none, .none, .box (enc tRF a0), .none, .none, .none, .none, .box (enc tSpan ((WornI a0 (turnI (a1.getD 0 (0 : Int)) (a0.1.length : Int)) (turnI (a1.getD 1 (0 : Int)) (999 : Int))).1)), .none, .box (enc tSpan ((WornI a0 (turnI (a1.getD 0 (0 : Int)) (a0.1.length : Int)) (w64 ((turnI (a1.getD 1 (0 : Int)) (999 : Int)) + (1 : Int)))).1)), .none, .none, .none, .none, .none, .none, .none, .none, .none, .none, .none, .none, .none, .none, .none, .none, .none, .none, .none, .none, .none, .none, .none, .none, .none, .none, .none, .none, .none, .none, .none, .none, .none, .none, .none, .none, .none, .none, .none, .none, .none, .none, .none, .none, .none, .none, .none, .none, .none, .none, .none, .none, .none, .none, .none, .none, .none, .none, .none, .none, .none, .none, .none, .none, .none, .none, .none, .none, .none, .none, .none, .none, .none, .none, .none, .none, .none, .none, .none, .none, .none, .none, .none, .none, .none, .none, .none, .none, .none, .none, .none, .none, .none]⟩ (ctxK X12 N [(1, 0), (1, 0), (1, 0), (1, 0), (1, 0), (1, 0), (0, 0), (1, 0), (0, 0)] (bodyOf Tryd.f12) (finK X12 Tryd.f12))

theorem f12_e0 (a0 : ((List ((Int × Int) × (Int × Int) × (Int × Int))) × (Int × Int) × (Int × Int) × Int)) (a1 : (List Int)) (N : Nat) (n : Nat) (v0_0 : Int) (v0_1 : Int) (v0_2 : Int) : f12_R0 a0 a1 N (n + 1) v0_0 v0_1 v0_2 = f12_s0 a0 a1 (f12_R0 a0 a1 N n) v0_0 v0_1 v0_2 := by kernel_rfl

noncomputable def f12_L0 (a0 : ((List ((Int × Int) × (Int × Int) × (Int × Int))) × (Int × Int) × (Int × Int) × Int)) (a1 : (List Int)) (N : Nat) : Nat → Int → Int → Int → Option (AV)
  | 0, _, _, _ => none
  | n + 1, v0_0, v0_1, v0_2 => f12_s0 a0 a1 (f12_L0 a0 a1 N n) v0_0 v0_1 v0_2

theorem f12_q0 (a0 : ((List ((Int × Int) × (Int × Int) × (Int × Int))) × (Int × Int) × (Int × Int) × Int)) (a1 : (List Int)) (N : Nat) : ∀ n : Nat, f12_R0 a0 a1 N n = f12_L0 a0 a1 N n
  | 0 => by
    funext v0_0
    funext v0_1
    funext v0_2
    rfl
  | n + 1 => by
    funext v0_0
    funext v0_1
    funext v0_2
    rw [f12_e0]
    simp only [f12_q0 a0 a1 N n]
    rfl

noncomputable def f12_T (a0 : ((List ((Int × Int) × (Int × Int) × (Int × Int))) × (Int × Int) × (Int × Int) × Int)) (a1 : (List Int)) (N : Nat) : Option (AV) := f12_s a0 a1 (f12_L0 a0 a1 N N)

theorem f12_ev (a0 : ((List ((Int × Int) × (Int × Int) × (Int × Int))) × (Int × Int) × (Int × Int) × Int)) (a1 : (List Int)) (N : Nat) : evF X12 N Tryd.f12 [enc tRF a0, enc (.arr 2 .int) a1] = f12_T a0 a1 N := by
  have h : evF X12 N Tryd.f12 [enc tRF a0, enc (.arr 2 .int) a1] = f12_s a0 a1 (f12_R0 a0 a1 N N) := by kernel_rfl
  rw [h, f12_q0]
  rfl

end Ev
end Go.Proofs.YtidnikjkpbmhhaaDoor
/- Both ends: what the walk comes to is true. -/
set_option linter.unusedVariables false
set_option linter.unusedSimpArgs false
set_option maxRecDepth 4000
namespace Go.Proofs.YtidnikjkpbmhhaaDoor
namespace Ev

theorem feet_of {x : Fi} {k : Int} (hc : checkB x = true) (hin : inReels x k = true) : 1 ≤ (reelAt x k).2.2.1 ∧ (reelAt x k).2.2.1 ≤ (reelAt x k).2.2.2 ∧ (reelAt x k).2.2.2 ≤ 1200 ∧ 0 ≤ x.2.2.1.1 ∧ x.2.2.1.1 ≤ x.2.2.1.2 ∧ x.2.2.1.2 ≤ 50 := by
  have hr := reel_of hc hin
  simp only [okReel, legal, Bool.and_eq_true, decide_eq_true_eq] at hr
  simp only [checkB, legal, Bool.and_eq_true, decide_eq_true_eq] at hc
  obtain ⟨_, _, _, h1, h2, h3⟩ := hr
  exact ⟨h1, h2, h3, hc.2.2.1⟩

theorem tear_small {T : Int} (h0 : 0 ≤ T) (h1 : T ≤ 50) {n : Nat} (hn : n ≤ 2000) : 0 ≤ (n : Int) * T ∧ (n : Int) * T ≤ 100000 ∧ w64 ((n : Int) * T) = (n : Int) * T := by
  have e1 : (n : Int) * T ≤ 2000 * 50 := Int.mul_le_mul (by omega) h1 h0 (by omega)
  have e0 : 0 ≤ (n : Int) * T := Int.mul_nonneg (by omega) h0
  exact ⟨e0, by omega, w64_small (by omega) (by omega)⟩

theorem least_eq {x : Fi} {k : Int} (hc : checkB x = true) (hin : inReels x k = true) {n : Nat} (hn : n ≤ 2000) : leastI x k n = maxI 0 ((reelAt x k).2.2.1 - (n : Int) * x.2.2.1.2) := by
  obtain ⟨h1, h2, h3, h4, h5, h6⟩ := feet_of hc hin
  obtain ⟨t1, t2, t3⟩ := tear_small (T := x.2.2.1.2) (by omega) (by omega) hn
  unfold leastI
  rw [t3, w64_small (by omega) (by omega)]
theorem most_eq {x : Fi} {k : Int} (hc : checkB x = true) (hin : inReels x k = true) {n : Nat} (hn : n ≤ 2000) : mostI x k n = maxI 0 ((reelAt x k).2.2.2 - (n : Int) * x.2.2.1.1) := by
  obtain ⟨h1, h2, h3, h4, h5, h6⟩ := feet_of hc hin
  obtain ⟨t1, t2, t3⟩ := tear_small (T := x.2.2.1.1) (by omega) (by omega) hn
  unfold mostI
  rw [t3, w64_small (by omega) (by omega)]

theorem max_step {L T P : Int} (h0 : 0 ≤ T) (hT : T ≤ 50) (hL : L ≤ 1200) (hP : 0 ≤ P) (hP2 : P ≤ 100000) (hL0 : 0 ≤ L) : (if (0 : Int) < w64 (maxI 0 (L - P) - T) then w64 (maxI 0 (L - P) - T) else 0) = maxI 0 (L - (P + T)) ∧ maxI 0 (L - (P + T)) ≤ maxI 0 (L - P) := by
  have hm : 0 ≤ maxI 0 (L - P) ∧ maxI 0 (L - P) ≤ 1200 := by
    unfold maxI
    split <;> omega
  rw [w64_small (by omega) (by omega)]
  unfold maxI
  constructor
  · repeat' split
    all_goals omega
  · repeat' split
    all_goals omega

theorem least_step {x : Fi} {k : Int} (hc : checkB x = true) (hin : inReels x k = true) {n : Nat} (hn : n < 2000) : (if (0 : Int) < w64 (leastI x k n - x.2.2.1.2) then w64 (leastI x k n - x.2.2.1.2) else 0) = leastI x k (n + 1 : Nat) ∧ leastI x k (n + 1 : Nat) ≤ leastI x k n := by
  obtain ⟨h1, h2, h3, h4, h5, h6⟩ := feet_of hc hin
  obtain ⟨t1, t2, _⟩ := tear_small (T := x.2.2.1.2) (n := n) (by omega) (by omega) (by omega)
  rw [least_eq hc hin (n := n) (by omega), least_eq hc hin (n := n + 1) (by omega)]
  have e : ((n + 1 : Nat) : Int) * x.2.2.1.2 = (n : Int) * x.2.2.1.2 + x.2.2.1.2 := by rw [Int.natCast_add, Int.add_mul]; omega
  rw [e]
  exact max_step (by omega) (by omega) (by omega) t1 t2 (by omega)
theorem most_step {x : Fi} {k : Int} (hc : checkB x = true) (hin : inReels x k = true) {n : Nat} (hn : n < 2000) : (if (0 : Int) < w64 (mostI x k n - x.2.2.1.1) then w64 (mostI x k n - x.2.2.1.1) else 0) = mostI x k (n + 1 : Nat) ∧ mostI x k (n + 1 : Nat) ≤ mostI x k n := by
  obtain ⟨h1, h2, h3, h4, h5, h6⟩ := feet_of hc hin
  obtain ⟨t1, t2, _⟩ := tear_small (T := x.2.2.1.1) (n := n) (by omega) (by omega) (by omega)
  rw [most_eq hc hin (n := n) (by omega), most_eq hc hin (n := n + 1) (by omega)]
  have e : ((n + 1 : Nat) : Int) * x.2.2.1.1 = (n : Int) * x.2.2.1.1 + x.2.2.1.1 := by rw [Int.natCast_add, Int.add_mul]; omega
  rw [e]
  exact max_step (by omega) (by omega) (by omega) t1 t2 (by omega)
theorem least_zero {x : Fi} {k : Int} (hc : checkB x = true) (hin : inReels x k = true) : leastI x k (0 : Nat) = (reelAt x k).2.2.1 := by
  obtain ⟨h1, h2, h3, h4, h5, h6⟩ := feet_of hc hin
  rw [least_eq hc hin (n := 0) (by omega)]
  unfold maxI
  split <;> omega
theorem most_zero {x : Fi} {k : Int} (hc : checkB x = true) (hin : inReels x k = true) : mostI x k (0 : Nat) = (reelAt x k).2.2.2 := by
  obtain ⟨h1, h2, h3, h4, h5, h6⟩ := feet_of hc hin
  rw [most_eq hc hin (n := 0) (by omega)]
  unfold maxI
  split <;> omega

theorem worn_ok {x : Fi} {k n : Int} (hc : checkB x = true) (hin : inReels x k = true) (hn0 : 0 ≤ n) (hn : n ≤ 999) : WornI x k n = (wornS x k n, 0) := by
  have hl := check_len hc
  have h1 : isReelB x k = true := by
    simp only [inReels, Bool.and_eq_true, decide_eq_true_eq] at hin
    simp only [isReelB, amid, Bool.and_eq_true, decide_eq_true_eq]
    rw [w64_small (by omega) (by omega)]
    omega
  have h2 : amid n 0 999 = true := by simp [amid, hn0, hn]
  unfold WornI
  rw [h1, h2, Bool.and_true, asked_true hc, if_pos rfl]

theorem f12_loop (x : Fi) (ns : List Int) (hc : checkB x = true) (hin : inReels x (turnI (ns.getD 0 0) x.1.length) = true) (s : Nat) (hs : turnI (ns.getD 1 0) 999 = (s : Int)) (hs2 : s < 999) (N : Nat) : ∀ (m i : Nat), i + m = s → f12_L0 x ns N (m + 1) (leastI x (turnI (ns.getD 0 0) x.1.length) i) (mostI x (turnI (ns.getD 0 0) x.1.length) i) i = some (.bool true)
  | 0, i, h => by
    have e : f12_L0 x ns N (0 + 1) (leastI x (turnI (ns.getD 0 0) x.1.length) i) (mostI x (turnI (ns.getD 0 0) x.1.length) i) i = f12_s0 x ns (f12_L0 x ns N 0) (leastI x (turnI (ns.getD 0 0) x.1.length) i) (mostI x (turnI (ns.getD 0 0) x.1.length) i) i := rfl
    rw [e]
    have hi : i = s := by omega
    subst hi
    unfold f12_s0
    rw [hs]
    have hw : w64 ((i : Int) + 1) = ((i + 1 : Nat) : Int) := w64_succ (n := 2000) (by omega) (by omega)
    rw [hw, worn_ok hc hin (n := (i : Int)) (by omega) (by omega), worn_ok hc hin (n := ((i + 1 : Nat) : Int)) (by omega) (by omega)]
    have h1 : decide ((i : Int) < (i : Int)) = false := by simp
    have h2 := (least_step hc hin (n := i) (by omega)).2
    have h3 := (most_step hc hin (n := i) (by omega)).2
    simp only [wornS, mk2, h1, h2, h3, decide_true, cond_true, cond_false, Bool.and_self, turnedB]
  | m + 1, i, h => by
    have e : f12_L0 x ns N (m + 1 + 1) (leastI x (turnI (ns.getD 0 0) x.1.length) i) (mostI x (turnI (ns.getD 0 0) x.1.length) i) i = f12_s0 x ns (f12_L0 x ns N (m + 1)) (leastI x (turnI (ns.getD 0 0) x.1.length) i) (mostI x (turnI (ns.getD 0 0) x.1.length) i) i := rfl
    rw [e]
    unfold f12_s0
    rw [hs]
    have hw : w64 ((i : Int) + 1) = ((i + 1 : Nat) : Int) := w64_succ (n := 2000) (by omega) (by omega)
    have h1 : decide ((i : Int) < (s : Int)) = true := by simp; omega
    rw [h1, cond_true, hw, (least_step hc hin (n := i) (by omega)).1, (most_step hc hin (n := i) (by omega)).1]
    exact f12_loop x ns hc hin s hs hs2 N m (i + 1) (by omega)

theorem f12_sp (x0 : Fi) (x1 : List Int) (hp : endsOK x0 x1 = true) : ∃ (N : Nat) (r0 : AV), f12_T x0 x1 N = some r0 ∧ wkAV r0 = enc .bool (endsB x0 x1) := by
  have h : chkOK x0 = true := hp
  have h3 : ∀ a b, chkOK3 x0 a b = true := fun _ _ => h
  refine ⟨(turnI (x1.getD 1 0) 999).toNat + 1, .bool true, ?_, rfl⟩
  unfold f12_T f12_s
  rw [h]
  cases hc : soundB x0 with
  | false => rfl
  | true =>
    have hc' : checkB x0 = true := hc
    have hl := check_len hc'
    have hk := turn_range (n := x1.getD 0 0) (m := x0.1.length) (by omega) (by omega)
    have hs := turn_range (n := x1.getD 1 0) (m := 999) (by omega) (by omega)
    have hin : inReels x0 (turnI (x1.getD 0 0) x0.1.length) = true := by
      simp only [inReels, Bool.and_eq_true, decide_eq_true_eq]
      exact hk
    have hk2 : (decide (0 ≤ (turnI (x1.getD 0 (0 : Int)) (x0.1.length : Int))) && decide ((turnI (x1.getD 0 (0 : Int)) (x0.1.length : Int)) < (x0.1.length : Int))) = true := hin
    obtain ⟨s, hs3⟩ := Int.eq_ofNat_of_zero_le hs.1
    have hfin := f12_loop x0 x1 hc' hin s hs3 (by omega) (s + 1) s 0 (by omega)
    have e2 : (turnI (x1.getD 1 0) 999).toNat = s := by rw [hs3]; rfl
    rw [e2]
    rw [least_zero hc' hin, most_zero hc' hin] at hfin
    simp only [h3, hk2, Bool.not_true, cond_false, cond_true, decide_true, Bool.and_self, show decide ((0 : Int) < 2) = true from rfl, show decide ((1 : Int) < 2) = true from rfl, show decide ((0 : Int) ≤ 1) = true from rfl, show decide ((0 : Int) ≤ 0) = true from rfl]
    exact hfin

end Ev
end Go.Proofs.YtidnikjkpbmhhaaDoor
/- An order that numbers choose is one of all reels; how many feet a reel has at most. -/
set_option linter.unusedVariables false
set_option linter.unusedSimpArgs false
set_option maxRecDepth 4000
namespace Go.Proofs.YtidnikjkpbmhhaaDoor
namespace Ev

theorem shuf_spec (bits : List Int) : ∀ (m i : Nat) (out : List Int), (∀ k ∈ out, 0 ≤ k ∧ k < i) → out.Nodup → (∀ k ∈ shufG bits m i out, 0 ≤ k ∧ k < ((i + m : Nat) : Int)) ∧ (shufG bits m i out).Nodup
  | 0, i, out, h1, h2 => ⟨h1, h2⟩
  | m + 1, i, out, h1, h2 => by
    rw [shufG]
    have hp : ∀ t : Nat, (((([] : List Int) ++ out.take t) ++ [(i : Int)]) ++ out.drop t).Perm ((i : Int) :: out) := fun t => by
      have := List.perm_middle (a := (i : Int)) (l₁ := out.take t) (l₂ := out.drop t)
      rw [List.take_append_drop] at this
      simpa using this
    have := shuf_spec bits m (i + 1) (((([] : List Int) ++ out.take (turnI (pickI bits (i : Int)) ((out.length : Int) + 1)).toNat) ++ [(i : Int)]) ++ out.drop (turnI (pickI bits (i : Int)) ((out.length : Int) + 1)).toNat) (fun k hk => by
      rcases List.mem_cons.1 ((hp _).mem_iff.1 hk) with rfl | hk
      · omega
      · have := h1 k hk
        omega) ((hp _).nodup_iff.2 (List.nodup_cons.2 ⟨fun h => by have := h1 _ h; omega, h2⟩))
    rw [show i + (m + 1) = i + 1 + m by omega]
    exact this
theorem are_of (n : Nat) (hn : n ≤ 1000) (hn0 : 1 ≤ n) : ∀ (l pre : List Int), (∀ k ∈ l, 0 ≤ k ∧ k < n) → (∀ k ∈ l, k ∉ pre) → l.Nodup → areFrom n pre l = true
  | [], pre, _, _, _ => rfl
  | k :: r, pre, h1, h2, h3 => by
    rw [List.nodup_cons] at h3
    have hk := h1 k (List.mem_cons_self ..)
    rw [areFrom, are_of n hn hn0 r (pre ++ [k]) (fun j hj => h1 j (List.mem_cons_of_mem _ hj)) (fun j hj hp => by
      rcases List.mem_append.1 hp with hp | hp
      · exact h2 j (List.mem_cons_of_mem _ hj) hp
      · simp at hp
        exact h3.1 (hp ▸ hj)) h3.2]
    have e1 : amid k 0 (w64 ((n : Int) - 1)) = true := by
      unfold amid
      rw [w64_small (by omega) (by omega), decide_eq_true (by omega), decide_eq_true (by omega)]
      rfl
    rw [e1, decide_eq_false (h2 k (List.mem_cons_self ..))]
    rfl
theorem shuf_are {x : Fi} (hc : checkB x = true) (bits : List Int) : areReelsB x (shufI (x.1.length : Int) bits) = true ∧ (shufI (x.1.length : Int) bits).length = x.1.length := by
  have hl := check_len hc
  unfold shufI
  rw [show (x.1.length : Int).toNat = x.1.length by simp]
  obtain ⟨h1, h2⟩ := shuf_spec bits x.1.length 0 [] (fun k hk => by simp at hk) List.nodup_nil
  refine ⟨are_of x.1.length (by omega) (by omega) _ [] (fun k hk => by have := h1 k hk; omega) (fun k _ h => by simp at h) h2, ?_⟩
  rw [shuf_len]
  simp

theorem spoolsI_ok {x : Fi} {l : List Int} {n : Int} (hc : checkB x = true) (ha : areReelsB x l = true) (h0 : 0 < l.length) (hn0 : 0 ≤ n) (hn : n ≤ 999) : SpoolsI x l n = if (spoolsF x l n).2 = true then ((spoolsF x l n).1, 0) else ([], 4) := by
  have e1 : decide (0 < (l.length : Int)) = true := by simp; omega
  have e2 : amid n 0 999 = true := by simp [amid, hn0, hn]
  unfold SpoolsI joinedI
  rw [e1, ha, e2, Bool.and_true, Bool.and_true, if_pos (asked_true hc)]
  split <;> rfl

theorem most_le {x : Fi} {k : Int} (hc : checkB x = true) (hin : inReels x k = true) {n : Int} (h0 : 0 ≤ n) (hn : n ≤ 2000) : 0 ≤ mostI x k n ∧ mostI x k n ≤ 1200 := by
  obtain ⟨m, rfl⟩ := Int.eq_ofNat_of_zero_le h0
  obtain ⟨h1, h2, h3, h4, h5, h6⟩ := feet_of hc hin
  obtain ⟨t1, t2, _⟩ := tear_small (T := x.2.2.1.1) (n := m) (by omega) (by omega) (by omega)
  rw [most_eq hc hin (by omega)]
  unfold maxI
  split <;> omega
theorem most_anti {x : Fi} {k : Int} (hc : checkB x = true) (hin : inReels x k = true) {n n' : Int} (h0 : 0 ≤ n) (hn : n ≤ n') (hn' : n' ≤ 2000) : mostI x k n' ≤ mostI x k n := by
  obtain ⟨m, rfl⟩ := Int.eq_ofNat_of_zero_le h0
  obtain ⟨m', rfl⟩ := Int.eq_ofNat_of_zero_le (show 0 ≤ n' by omega)
  obtain ⟨h1, h2, h3, h4, h5, h6⟩ := feet_of hc hin
  have : (m : Int) * x.2.2.1.1 ≤ (m' : Int) * x.2.2.1.1 := Int.mul_le_mul_of_nonneg_right hn (by omega)
  rw [most_eq hc hin (by omega), most_eq hc hin (by omega)]
  unfold maxI
  repeat' split
  all_goals omega

end Ev
end Go.Proofs.YtidnikjkpbmhhaaDoor
/- The law of the time: what the walk comes to is true. -/
set_option linter.unusedVariables false
set_option linter.unusedSimpArgs false
set_option maxRecDepth 4000
namespace Go.Proofs.YtidnikjkpbmhhaaDoor
namespace Ev

theorem choose_in {s : Sp} {n : Int} (h0 : 0 ≤ s.1) (h1 : s.1 ≤ s.2) (h2 : s.2 ≤ 1000000) : s.1 ≤ chooseI s n ∧ chooseI s n ≤ s.2 := by
  have hr := turn_range (n := n) (m := s.2 - s.1 + 1) (by omega) (by omega)
  unfold chooseI
  rw [if_neg (by omega), w64_small (n := s.2 - s.1) (by omega) (by omega), w64_small (n := s.2 - s.1 + 1) (by omega) (by omega), w64_small (by omega) (by omega)]
  omega

theorem least_le {x : Fi} {k : Int} (hc : checkB x = true) (hin : inReels x k = true) {n : Int} (h0 : 0 ≤ n) (hn : n ≤ 2000) : 0 ≤ leastI x k n ∧ leastI x k n ≤ mostI x k n := by
  obtain ⟨m, rfl⟩ := Int.eq_ofNat_of_zero_le h0
  obtain ⟨h1, h2, h3, h4, h5, h6⟩ := feet_of hc hin
  have : (m : Int) * x.2.2.1.1 ≤ (m : Int) * x.2.2.1.2 := Int.mul_le_mul_of_nonneg_left h5 (by omega)
  rw [most_eq hc hin (by omega), least_eq hc hin (by omega)]
  unfold maxI
  repeat' split
  all_goals omega
theorem turn_of {x : Fi} (hc : checkB x = true) : 1 ≤ x.2.1.1 ∧ x.2.1.1 ≤ x.2.1.2 ∧ x.2.1.2 ≤ 20 := by
  simp only [checkB, legal, Bool.and_eq_true, decide_eq_true_eq] at hc
  exact hc.2.1

/-- How long a reel truly lasts. -/
def dtI (x : Fi) (bits : List Int) (n k i : Int) : Int :=
  w64 ((w64 ((turnI (pickI bits (w64 (i + 1))) (w64 ((chooseI (wornS x k n) (pickI bits i)) + 1))) * (chooseI x.2.1 (pickI bits (w64 (i + 2)))))) + (w64 ((w64 ((chooseI (wornS x k n) (pickI bits i)) - (turnI (pickI bits (w64 (i + 1))) (w64 ((chooseI (wornS x k n) (pickI bits i)) + 1))))) * (chooseI x.2.1 (pickI bits (w64 (i + 3)))))))

theorem dt_plain {F s a b lo hi tl th : Int} (h0 : 0 ≤ lo) (h1 : lo ≤ F) (h2 : F ≤ hi) (h3 : hi ≤ 1200) (hs0 : 0 ≤ s) (hs : s ≤ F) (ht0 : 1 ≤ tl) (ht1 : th ≤ 20) (ha0 : tl ≤ a) (ha1 : a ≤ th) (hb0 : tl ≤ b) (hb1 : b ≤ th) : 0 ≤ s * a ∧ s * a ≤ 24000 ∧ 0 ≤ (F - s) * b ∧ (F - s) * b ≤ 24000 ∧ lo * tl ≤ s * a + (F - s) * b ∧ s * a + (F - s) * b ≤ hi * th ∧ hi * th ≤ 24000 ∧ 0 ≤ lo * tl := by
  have p1 : s * a ≤ s * th := Int.mul_le_mul_of_nonneg_left ha1 hs0
  have p2 : (F - s) * b ≤ (F - s) * th := Int.mul_le_mul_of_nonneg_left hb1 (by omega)
  have p3 : s * tl ≤ s * a := Int.mul_le_mul_of_nonneg_left ha0 hs0
  have p4 : (F - s) * tl ≤ (F - s) * b := Int.mul_le_mul_of_nonneg_left hb0 (by omega)
  have p5 : s * th + (F - s) * th = F * th := by rw [← Int.add_mul]; congr 1; omega
  have p6 : s * tl + (F - s) * tl = F * tl := by rw [← Int.add_mul]; congr 1; omega
  have p7 : F * th ≤ hi * th := Int.mul_le_mul_of_nonneg_right h2 (by omega)
  have p8 : lo * tl ≤ F * tl := Int.mul_le_mul_of_nonneg_right h1 (by omega)
  have p9 : hi * th ≤ 1200 * 20 := Int.mul_le_mul h3 ht1 (by omega) (by omega)
  have q1 : 0 ≤ s * tl := Int.mul_nonneg hs0 (by omega)
  have q2 : 0 ≤ (F - s) * tl := Int.mul_nonneg (by omega) (by omega)
  have q3 : 0 ≤ lo * tl := Int.mul_nonneg h0 (by omega)
  omega

theorem dt_range {x : Fi} {bits : List Int} {n k i : Int} (hc : checkB x = true) (hin : inReels x k = true) (h0 : 0 ≤ n) (hn : n ≤ 999) : leastI x k n * x.2.1.1 ≤ dtI x bits n k i ∧ dtI x bits n k i ≤ mostI x k n * x.2.1.2 := by
  obtain ⟨l0, l1⟩ := least_le hc hin h0 (by omega)
  obtain ⟨m0, m1⟩ := most_le hc hin h0 (by omega)
  obtain ⟨t0, t1, t2⟩ := turn_of hc
  have hF := choose_in (s := wornS x k n) (n := pickI bits i) l0 l1 (by show mostI x k n ≤ _; omega)
  have hF' : leastI x k n ≤ chooseI (wornS x k n) (pickI bits i) ∧ chooseI (wornS x k n) (pickI bits i) ≤ mostI x k n := hF
  have ha := choose_in (s := x.2.1) (n := pickI bits (w64 (i + 2))) (by omega) t1 (by omega)
  have hb := choose_in (s := x.2.1) (n := pickI bits (w64 (i + 3))) (by omega) t1 (by omega)
  unfold dtI
  generalize chooseI (wornS x k n) (pickI bits i) = F at hF'
  rw [w64_small (n := F + 1) (by omega) (by omega)]
  have hs := turn_range (n := pickI bits (w64 (i + 1))) (m := F + 1) (by omega) (by omega)
  generalize turnI (pickI bits (w64 (i + 1))) (F + 1) = s at hs
  generalize chooseI x.2.1 (pickI bits (w64 (i + 2))) = a at ha
  generalize chooseI x.2.1 (pickI bits (w64 (i + 3))) = b at hb
  obtain ⟨g1, g2, g3, g4, g5, g6, g7, g8⟩ := dt_plain (lo := leastI x k n) (hi := mostI x k n) (F := F) (s := s) (a := a) (b := b) l0 hF'.1 hF'.2 m1 hs.1 (by omega) t0 t2 ha.1 ha.2 hb.1 hb.2
  rw [w64_small (n := F - s) (by omega) (by omega), w64_small (n := s * a) (by omega) (by omega), w64_small (n := (F - s) * b) (by omega) (by omega), w64_small (by omega) (by omega)]
  exact ⟨g5, g6⟩

theorem last_elt {x : Fi} {n k : Int} (b : Bool) (hc : checkB x = true) (hin : inReels x k = true) (h0 : 0 ≤ n) (hn : n ≤ 999) : w64 (endI b (wornS x k n) * endI b x.2.1) = endI b (wornS x k n) * endI b x.2.1 ∧ 0 ≤ endI b (wornS x k n) * endI b x.2.1 ∧ endI b (wornS x k n) * endI b x.2.1 ≤ 24000 := by
  obtain ⟨l0, l1⟩ := least_le hc hin h0 (by omega)
  obtain ⟨m0, m1⟩ := most_le hc hin h0 (by omega)
  obtain ⟨t0, t1, t2⟩ := turn_of hc
  have hw : 0 ≤ endI b (wornS x k n) ∧ endI b (wornS x k n) ≤ 1200 := by
    cases b
    · exact ⟨l0, Int.le_trans l1 m1⟩
    · exact ⟨m0, m1⟩
  have ht : 0 ≤ endI b x.2.1 ∧ endI b x.2.1 ≤ 20 := by
    cases b
    · show 0 ≤ x.2.1.1 ∧ x.2.1.1 ≤ 20
      omega
    · show 0 ≤ x.2.1.2 ∧ x.2.1.2 ≤ 20
      omega
  have p1 : endI b (wornS x k n) * endI b x.2.1 ≤ 1200 * 20 := Int.mul_le_mul hw.2 ht.2 ht.1 (by omega)
  have p0 : 0 ≤ endI b (wornS x k n) * endI b x.2.1 := Int.mul_nonneg hw.1 ht.1
  exact ⟨w64_small (by omega) (by omega), p0, by omega⟩

theorem sumZ_le (M : Int) : ∀ l : List Int, (∀ w ∈ l, w ≤ M) → sumZ l ≤ M * l.length
  | [], h => by simp [sumZ]
  | w :: l, h => by
    have h1 := h w (List.mem_cons_self ..)
    have h2 := sumZ_le M l fun v hv => h v (List.mem_cons_of_mem _ hv)
    simp only [sumZ, List.length_cons, Int.natCast_add, Int.mul_add]
    omega

theorem lasts_eq {x : Fi} {n : Int} (b : Bool) {l : List Int} (hc : checkB x = true) (hin : ∀ k ∈ l, inReels x k = true) (hl : l.length ≤ 1000) (h0 : 0 ≤ n) (hn : n ≤ 999) : lastsI b x l n = sumZ (lastsL b x l n) ∧ 0 ≤ lastsI b x l n ∧ lastsI b x l n ≤ 24000 * l.length := by
  have hel : ∀ w ∈ lastsL b x l n, 0 ≤ w ∧ w ≤ 24000 := fun w hw => by
    obtain ⟨k, hk, rfl⟩ := List.mem_map.1 hw
    obtain ⟨e, h1, h2⟩ := last_elt b hc (hin k hk) h0 hn
    rw [e]
    exact ⟨h1, h2⟩
  have hlen : (lastsL b x l n).length = l.length := List.length_map ..
  have e : lastsI b x l n = sumZ (lastsL b x l n) := by
    unfold lastsI sumI0
    rw [sumI_eq _ 0 (fun w hw => by have := hel w hw; omega) (by omega) (by omega)]
    omega
  have h1 := sumZ_nonneg _ fun w hw => (hel w hw).1
  have h2 := sumZ_le 24000 _ fun w hw => (hel w hw).2
  rw [hlen] at h2
  rw [e]
  exact ⟨rfl, h1, h2⟩

theorem lasts_step {x : Fi} {n : Int} (b : Bool) {l : List Int} (hc : checkB x = true) (hin : ∀ k ∈ l, inReels x k = true) (hl : l.length ≤ 900) (h0 : 0 ≤ n) (hn : n ≤ 999) {i : Nat} (hi : i < l.length) : lastsI b x (l.take (i + 1)) n = lastsI b x (l.take i) n + endI b (wornS x l[i] n) * endI b x.2.1 := by
  rw [(lasts_eq b (l := l.take (i + 1)) hc (fun k hk => hin k (List.mem_of_mem_take hk)) (by simp; omega) h0 hn).1, (lasts_eq b (l := l.take i) hc (fun k hk => hin k (List.mem_of_mem_take hk)) (by simp; omega) h0 hn).1, List.take_succ_eq_append_getElem hi, lastsL_app, sumZ_append]
  congr 1
  show w64 _ + 0 = _
  rw [(last_elt b hc (hin _ (List.getElem_mem hi)) h0 hn).1]
  omega

theorem chG_len (x : Fi) (l : List Int) (n : Int) : ∀ (D : List Int) (a : Int), (chG x l n D a).length = D.length
  | [], a => rfl
  | c :: cs, a => by rw [chG, List.length_cons, chG_len x l n cs, List.length_cons]
theorem chG_get (x : Fi) (l : List Int) (n : Int) : ∀ (D : List Int) (a : Int) (j : Nat), (∀ c ∈ D, 0 ≤ c ∧ c ≤ 1000) → 0 ≤ a → a + 1000 * D.length ≤ 1000000000 → j < D.length → (chG x l n D a).getD j ((0 : Int), (0 : Int)) = TimeI x (l.take (a + sumZ (D.take (j + 1))).toNat) n
  | c :: cs, a, 0, h, h0, h1, hj => by
    have hc := h c (List.mem_cons_self ..)
    simp only [List.length_cons, Int.natCast_add, Int.mul_add] at h1
    rw [chG, w64_small (by omega) (by omega)]
    simp [sumZ]
  | c :: cs, a, j + 1, h, h0, h1, hj => by
    have hc := h c (List.mem_cons_self ..)
    simp only [List.length_cons, Int.natCast_add, Int.mul_add] at h1
    rw [chG, w64_small (by omega) (by omega)]
    have := chG_get x l n cs (a + c) j (fun d hd => h d (List.mem_cons_of_mem _ hd)) (by omega) (by omega) (by simpa using hj)
    rw [List.getD_cons_succ, this, List.take_succ_cons, sumZ]
    congr 3
    omega

section
variable {x : Fi} {bits : List Int} {sh n : Int} {O L : List Int}

theorem f13_ok (hc : checkB x = true) (hch : chkOK x = true) (hb : lenOK bits = true) (hO : shufI (x.1.length : Int) bits = O) (hn : turnI sh (200 : Int) = n) (hn0 : 0 ≤ n) (hn1 : n ≤ 999) (hin : ∀ k ∈ O, inReels x k = true) (hOl : O.length ≤ 6)
    (hSPL : SpoolsI x O n = (L, 0)) (hCH : ChangesI x O n = (chG x O n (L.take (L.length - 1)) 0, 0)) (hLS : LastsI x O n = (TimeI x O n, 0)) (hpos : ∀ c ∈ L, 1 ≤ c ∧ c ≤ 6) (hsum : sumZ L = O.length) (hLl : L.length ≤ 6) (N : Nat) :
    ∀ (m i nx : Nat) (lf t : Int) (N' : Nat), i + m = O.length → m < N' → nx ≤ L.length → 0 ≤ lf → lf ≤ 6 → sumZ (L.take nx) = i + lf → lastsI false x (O.take i) n ≤ t → t ≤ lastsI true x (O.take i) n → f13_L0 x bits sh N N' nx lf t i = some (.bool true)
  | 0, i, nx, lf, t, N' + 1, hi, hN, hnx, hlf, hlf2, hs, ht0, ht1 => by
    have e : f13_L0 x bits sh N (N' + 1) nx lf t i = f13_s0 x bits sh (f13_L0 x bits sh N N') nx lf t i := rfl
    rw [List.take_of_length_le (by omega)] at ht0 ht1
    have h2 : holds (TimeI x O n) t = true := by
      simp only [holds, amid, TimeI, Bool.and_eq_true]
      exact ⟨decide_eq_true ht0, decide_eq_true ht1⟩
    rw [e]
    unfold f13_s0
    rw [hO, hn, hLS, h2, decide_eq_false (show ¬ (i : Int) < (O.length : Int) by omega)]
    rfl
  | m + 1, i, nx, lf, t, N' + 1, hi, hN, hnx, hlf, hlf2, hs, ht0, ht1 => by
    have e : f13_L0 x bits sh N (N' + 1) nx lf t i = f13_s0 x bits sh (f13_L0 x bits sh N N') nx lf t i := rfl
    have hlt : i < O.length := by omega
    have hk := hin _ (List.getElem_mem hlt)
    obtain ⟨l0, l1⟩ := least_le hc hk hn0 (by omega)
    obtain ⟨m0, m1⟩ := most_le hc hk hn0 (by omega)
    have hdt := dt_range (bits := bits) (i := (i : Int)) hc hk hn0 hn1
    have hel0 := (last_elt (n := n) false hc hk hn0 hn1).2
    have hel1 := (last_elt (n := n) true hc hk hn0 hn1).2
    have hs0 := lasts_step false hc hin (by omega) hn0 hn1 hlt
    have hs1 := lasts_step true hc hin (by omega) hn0 hn1 hlt
    have hb0 := (lasts_eq (n := n) false (l := O.take i) hc (fun k hk => hin k (List.mem_of_mem_take hk)) (by simp; omega) hn0 hn1).2
    have hb1 := (lasts_eq (n := n) true (l := O.take i) hc (fun k hk => hin k (List.mem_of_mem_take hk)) (by simp; omega) hn0 hn1).2
    have htl : (O.take i).length ≤ 6 := by simp; omega
    have hd0 : endI false (wornS x O[i] n) * endI false x.2.1 ≤ dtI x bits n O[i] i := hdt.1
    have hd1 : dtI x bits n O[i] i ≤ endI true (wornS x O[i] n) * endI true x.2.1 := hdt.2
    have hpk : ∀ a, pickOK2 bits a = true := fun _ => hb
    have hch3 : ∀ a b, chkOK3 x a b = true := fun _ _ => hch
    have h1 : (decide (0 ≤ (i : Int)) && decide ((i : Int) < (O.length : Int))) = true := by simp; omega
    have hwi : w64 ((i : Int) + 1) = ((i + 1 : Nat) : Int) := w64_succ (i := i) (n := 3000) (by omega) (by omega)
    have hemp : emptyS (wornS x O[i] n) = false := decide_eq_false (by show ¬ mostI x O[i] n < leastI x O[i] n; omega)
    have hwm : (wornS x O[i] n).2 = mostI x O[i] n := rfl
    have ht' : w64 (t + dtI x bits n O[i] i) = t + dtI x bits n O[i] i := w64_small (by omega) (by omega)
    -- the next round
    have hgo : ∀ (nx' : Nat) (lf' : Int), nx' ≤ L.length → 0 ≤ lf' → lf' ≤ 6 → sumZ (L.take nx') = ((i + 1 : Nat) : Int) + lf' → f13_L0 x bits sh N N' nx' lf' (w64 (t + dtI x bits n O[i] i)) (w64 ((i : Int) + 1)) = some (.bool true) := fun nx' lf' g1 g2 g3 g4 => by
      rw [ht', hwi]
      exact f13_ok hc hch hb hO hn hn0 hn1 hin hOl hSPL hCH hLS hpos hsum hLl N m (i + 1) nx' lf' _ N' (by omega) (by omega) g1 g2 g3 g4 (by omega) (by omega)
    rw [e]
    unfold f13_s0
    rw [hO, hn, hSPL, hCH, get_int hlt, h1, hch3, worn_ok hc hk hn0 hn1, hpk, hpk, hpk, hpk, decide_eq_true (show (i : Int) < (O.length : Int) by omega)]
    dsimp only
    rw [hemp, hwm, decide_eq_false (show ¬ (1200 : Int) < mostI x O[i] n by omega)]
    by_cases hz : lf = 0
    · subst hz
      have hnl : nx < L.length := by
        refine Nat.lt_of_le_of_ne hnx fun he => ?_
        rw [he, List.take_length] at hs
        omega
      have hp := hpos _ (List.getElem_mem hnl)
      have h2 : (decide (0 ≤ (nx : Int)) && decide ((nx : Int) < (L.length : Int))) = true := by simp; omega
      have hwn : w64 ((nx : Int) + 1) = ((nx + 1 : Nat) : Int) := w64_succ (i := nx) (n := 3000) (by omega) (by omega)
      have hsn : sumZ (L.take (nx + 1)) = ((i + 1 : Nat) : Int) + (L[nx] - 1) := by
        rw [List.take_succ_eq_append_getElem hnl, sumZ_append, hs]
        simp only [sumZ]
        omega
      have hgo' := hgo (nx + 1) (L[nx] - 1) (by omega) (by omega) (by omega) hsn
      rw [get_int hnl, h2, decide_eq_false (show ¬ (L.length : Int) ≤ (nx : Int) by omega), hwn, w64_small (n := L[nx] - 1) (by omega) (by omega)]
      by_cases h3 : nx = 0
      · subst h3
        simp only [decide_true, cond_true, cond_false, Bool.not_true, decide_eq_false (show ¬ (0 : Int) < ((0 : Nat) : Int) by omega)]
        exact hgo'
      · obtain ⟨j, rfl⟩ : ∃ j, nx = j + 1 := ⟨nx - 1, by omega⟩
        have hwj : w64 (((j + 1 : Nat) : Int) - 1) = (j : Int) := by rw [w64_small (by omega) (by omega)]; omega
        have hjl : j < (L.take (L.length - 1)).length := by simp; omega
        have hg := chG_get x O n (L.take (L.length - 1)) 0 j (fun c hc => by have := hpos c (List.mem_of_mem_take hc); omega) (by omega) (by simp; omega) hjl
        rw [List.take_take, show min (j + 1) (L.length - 1) = j + 1 by omega, hs, show ((0 : Int) + ((i : Int) + 0)).toNat = i by omega] at hg
        have hh : holds (TimeI x (O.take i) n) t = true := by
          simp only [holds, amid, TimeI, Bool.and_eq_true]
          exact ⟨decide_eq_true ht0, decide_eq_true ht1⟩
        have h4 : (decide (0 ≤ (j : Int)) && decide ((j : Int) < ((chG x O n (L.take (L.length - 1)) 0).length : Int))) = true := by
          rw [chG_len]
          simp
          omega
        rw [hwj, h4, show ((j : Int).toNat) = j by simp, hg, hh, decide_eq_true (show (0 : Int) < ((j + 1 : Nat) : Int) by omega)]
        simp only [decide_true, cond_true, cond_false, Bool.not_true]
        exact hgo'
    · have hgo' := hgo nx (lf - 1) hnx (by omega) (by omega) (by omega)
      rw [decide_eq_false hz, w64_small (n := lf - 1) (by omega) (by omega)]
      simp only [decide_true, cond_true, cond_false, Bool.not_true]
      exact hgo'

theorem f13_no (hc : checkB x = true) (hch : chkOK x = true) (hb : lenOK bits = true) (hO : shufI (x.1.length : Int) bits = O) (hn : turnI sh (200 : Int) = n) (hn0 : 0 ≤ n) (hn1 : n ≤ 999) (hin : ∀ k ∈ O, inReels x k = true) (hOl : O.length ≤ 6)
    (hSPL : SpoolsI x O n = ([], 4)) (hLS : LastsI x O n = (TimeI x O n, 0)) (N : Nat) :
    ∀ (m i : Nat) (nx lf t : Int) (N' : Nat), i + m = O.length → m < N' → lastsI false x (O.take i) n ≤ t → t ≤ lastsI true x (O.take i) n → f13_L0 x bits sh N N' nx lf t i = some (.bool true)
  | 0, i, nx, lf, t, N' + 1, hi, hN, ht0, ht1 => by
    have e : f13_L0 x bits sh N (N' + 1) nx lf t i = f13_s0 x bits sh (f13_L0 x bits sh N N') nx lf t i := rfl
    rw [List.take_of_length_le (by omega)] at ht0 ht1
    have h2 : holds (TimeI x O n) t = true := by
      simp only [holds, amid, TimeI, Bool.and_eq_true]
      exact ⟨decide_eq_true ht0, decide_eq_true ht1⟩
    rw [e]
    unfold f13_s0
    rw [hO, hn, hLS, h2, decide_eq_false (show ¬ (i : Int) < (O.length : Int) by omega)]
    rfl
  | m + 1, i, nx, lf, t, N' + 1, hi, hN, ht0, ht1 => by
    have e : f13_L0 x bits sh N (N' + 1) nx lf t i = f13_s0 x bits sh (f13_L0 x bits sh N N') nx lf t i := rfl
    have hlt : i < O.length := by omega
    have hk := hin _ (List.getElem_mem hlt)
    obtain ⟨l0, l1⟩ := least_le hc hk hn0 (by omega)
    obtain ⟨m0, m1⟩ := most_le hc hk hn0 (by omega)
    have hdt := dt_range (bits := bits) (i := (i : Int)) hc hk hn0 hn1
    have hel0 := (last_elt (n := n) false hc hk hn0 hn1).2
    have hel1 := (last_elt (n := n) true hc hk hn0 hn1).2
    have hs0 := lasts_step false hc hin (by omega) hn0 hn1 hlt
    have hs1 := lasts_step true hc hin (by omega) hn0 hn1 hlt
    have hb0 := (lasts_eq (n := n) false (l := O.take i) hc (fun k hk => hin k (List.mem_of_mem_take hk)) (by simp; omega) hn0 hn1).2
    have hb1 := (lasts_eq (n := n) true (l := O.take i) hc (fun k hk => hin k (List.mem_of_mem_take hk)) (by simp; omega) hn0 hn1).2
    have htl : (O.take i).length ≤ 6 := by simp; omega
    have hd0 : endI false (wornS x O[i] n) * endI false x.2.1 ≤ dtI x bits n O[i] i := hdt.1
    have hd1 : dtI x bits n O[i] i ≤ endI true (wornS x O[i] n) * endI true x.2.1 := hdt.2
    have hpk : ∀ a, pickOK2 bits a = true := fun _ => hb
    have hch3 : ∀ a b, chkOK3 x a b = true := fun _ _ => hch
    have h1 : (decide (0 ≤ (i : Int)) && decide ((i : Int) < (O.length : Int))) = true := by simp; omega
    have hwi : w64 ((i : Int) + 1) = ((i + 1 : Nat) : Int) := w64_succ (i := i) (n := 3000) (by omega) (by omega)
    have hemp : emptyS (wornS x O[i] n) = false := decide_eq_false (by show ¬ mostI x O[i] n < leastI x O[i] n; omega)
    have hwm : (wornS x O[i] n).2 = mostI x O[i] n := rfl
    have ht' : w64 (t + dtI x bits n O[i] i) = t + dtI x bits n O[i] i := w64_small (by omega) (by omega)
    have hgo : f13_L0 x bits sh N N' nx (w64 (lf - 1)) (w64 (t + dtI x bits n O[i] i)) (w64 ((i : Int) + 1)) = some (.bool true) := by
      rw [ht', hwi]
      exact f13_no hc hch hb hO hn hn0 hn1 hin hOl hSPL hLS N m (i + 1) nx _ _ N' (by omega) (by omega) (by omega) (by omega)
    rw [e]
    unfold f13_s0
    rw [hO, hn, hSPL, get_int hlt, h1, hch3, worn_ok hc hk hn0 hn1, hpk, hpk, hpk, hpk, decide_eq_true (show (i : Int) < (O.length : Int) by omega)]
    dsimp only
    rw [hemp, hwm, decide_eq_false (show ¬ (1200 : Int) < mostI x O[i] n by omega), decide_eq_false (show ¬ (4 : Int) = 0 by omega)]
    simp only [decide_true, cond_true, cond_false, Bool.not_true]
    exact hgo
end

theorem f13_run {x : Fi} {bits : List Int} {sh : Int} (hc : checkB x = true) (hch : chkOK x = true) (hb : lenOK bits = true) : f13_T x bits sh 20 = some (.bool true) := by
  have hcl := check_len hc
  obtain ⟨ha, hlO⟩ := shuf_are hc bits
  have htn := turn_range (n := sh) (m := 200) (by omega) (by omega)
  have h1 : shufOK (x.1.length : Int) bits = true := by
    simp only [shufOK, Bool.and_eq_true, decide_eq_true_eq]
    exact ⟨by omega, hb⟩
  have hlk : ∀ l : List Int, l.length ≤ 1000 → lenOK l = true := fun l hl => by
    unfold lenOK
    refine Nat.ble_eq_true_of_le ?_
    omega
  unfold f13_T f13_s
  rw [hch, show soundB x = true from hc, h1]
  generalize hO : shufI (x.1.length : Int) bits = O at ha hlO
  generalize hn : turnI sh (200 : Int) = n at htn
  have hj : joinOK x O n = true := by
    simp only [joinOK, Bool.and_eq_true]
    exact ⟨hch, hlk O (by omega)⟩
  have hal := are_len hc ha
  have hin : ∀ k ∈ O, inReels x k = true := fun k hk => List.all_eq_true.1 hal.2.1 k hk
  have h0 : 0 < O.length := by omega
  have hLS : LastsI x O n = (TimeI x O n, 0) := by
    have e2 : amid n 0 999 = true := by simp [amid, htn.1]; omega
    unfold LastsI
    rw [ha, e2, Bool.and_true, if_pos (asked_true hc), asked_true hc]
  have hlast0 : lastsI false x (O.take 0) n ≤ 0 := Int.le_refl _
  have hlast1 : 0 ≤ lastsI true x (O.take 0) n := Int.le_refl _
  cases hs : (spoolsF x O n).2 with
  | true =>
    have hSPL : SpoolsI x O n = ((spoolsF x O n).1, 0) := by
      rw [spoolsI_ok hc ha h0 htn.1 (by omega), if_pos hs]
    have hJ2 : (joinedI x O n).2.2 = 0 := congrArg Prod.snd hSPL
    have hJ := (joined_zero hJ2).2.2.2.2.2
    have hgs := spools_gs hc ha h0 hs
    generalize (spoolsF x O n).1 = L at hSPL hJ hgs
    have hLl := gs_length hgs
    have hsum := gs_sum _ _ _ hgs
    have hps := gs_pos hgs
    rw [List.length_map] at hLl hsum
    have hLp : 0 < L.length := List.length_pos_iff.2 (gs_ne hgs fun h => by
      have := congrArg List.length h
      simp at this
      subst this
      simp at h0)
    have hw : w64 ((L.length : Int) - 1) = ((L.length - 1 : Nat) : Int) := by rw [w64_small (by omega) (by omega)]; omega
    have hCH : ChangesI x O n = (chG x O n (L.take (L.length - 1)) 0, 0) := by
      unfold ChangesI
      rw [hJ]
      simp only [if_true, hw, Int.toNat_natCast]
    have hpos : ∀ c ∈ L, 1 ≤ c ∧ c ≤ 6 := fun c hc => by
      have h1 := hps c hc
      have h2 := hsum.2 c hc
      omega
    have hsL : sumI0 L = (O.length : Int) := by
      unfold sumI0
      rw [sumI_eq L 0 (fun c hc => by have := hpos c hc; omega) (by omega) (by omega), hsum.1]
      omega
    have hrun := f13_ok hc hch hb hO hn htn.1 (by omega) hin (by omega) hSPL hCH hLS hpos hsum.1 (by omega) 20 O.length 0 0 0 0 20 (by omega) (by omega) (by omega) (by omega) (by omega) rfl hlast0 hlast1
    have hwl : w64 (((chG x O n (L.take (L.length - 1)) 0).length : Int) + 1) = (L.length : Int) := by
      rw [chG_len, List.length_take, w64_small (by omega) (by omega)]
      omega
    rw [hj, hCH, hSPL, hLS]
    dsimp only
    rw [hwl, hlk L (by omega), hsL]
    simp only [decide_true, cond_true, cond_false, Bool.not_true]
    exact hrun
  | false =>
    have hSPL : SpoolsI x O n = ([], 4) := by
      rw [spoolsI_ok hc ha h0 htn.1 (by omega), if_neg (by rw [hs]; simp)]
    have hJ2 : (joinedI x O n).2.2 = 4 := congrArg Prod.snd hSPL
    have hCH : ChangesI x O n = ([], 4) := by
      unfold ChangesI
      rw [hJ2]
      rfl
    have hrun := f13_no hc hch hb hO hn htn.1 (by omega) hin (by omega) hSPL hLS 20 O.length 0 0 0 0 20 (by omega) (by omega) hlast0 hlast1
    rw [hj, hCH, hSPL, hLS]
    exact hrun

theorem f13_sp (x0 : Fi) (x1 : List Int) (x2 : Int) (hp : timOK x0 x1 x2 = true) : ∃ (N : Nat) (r0 : AV), f13_T x0 x1 x2 N = some r0 ∧ wkAV r0 = enc .bool (timB x0 x1 x2) := by
  simp only [timOK, Bool.and_eq_true] at hp
  obtain ⟨h, hb⟩ := hp
  refine ⟨20, .bool true, ?_, rfl⟩
  cases hc : soundB x0 with
  | false =>
    unfold f13_T f13_s
    rw [h, hc]
    rfl
  | true => exact f13_run hc h hb

end Ev
end Go.Proofs.YtidnikjkpbmhhaaDoor
/- The contract of the law of the time. -/
set_option linter.unusedVariables false
set_option maxRecDepth 4000
namespace Go.Proofs.YtidnikjkpbmhhaaDoor
namespace Ev

theorem k13 : Good 13 g13 := ⟨ctr_ofN (B := Bs) (X := X13) (ctxOK rfl rfl rfl rfl rfl rfl (AllC.cons k25 (AllC.cons k30 (AllC.cons k36 (AllC.cons k38 (AllC.cons k40 (AllC.cons k43 (AllC.cons k48 (AllC.cons k49 (AllC.cons k52 (AllC.cons k54 (AllC.cons k56 (AllC.cons k57 (AllC.cons k58 AllC.nil)))))))))))))) Tryd.func13 (fun args r h => by
  unfold g13 at h
  split at h
  · rename_i a0 a1 a2
    split at h
    · rename_i x0 x1 x2 h0 h1 h2
      simp only [Option.some.injEq, Prod.mk.injEq] at h
      obtain ⟨hp, rfl⟩ := h
      obtain ⟨N, r0, q1, q2⟩ := f13_sp x0 x1 x2 hp
      refine ⟨N, r0, ?_, q2⟩
      simp only [wkL, wk_dec h0, wk_dec h1, wk_dec h2]
      exact (f13_ev x0 x1 x2 N).trans q1
    · cases h
  · cases h), Tryd.f13, Tryd.func13, by kernel_rfl, by kernel_rfl⟩

end Ev
end Go.Proofs.YtidnikjkpbmhhaaDoor
/- ReelTime returns true for every film and all numbers, and leaves them as they were: where the package variables hold what its text lays. -/
set_option linter.unusedVariables false
set_option linter.unusedSimpArgs false
set_option maxRecDepth 4000
namespace Go.Proofs.YtidnikjkpbmhhaaDoor
namespace Ev
open Go.ChangeShapes Go.WideShapes Go.ChangeAt Go.RowKit

theorem tim_contract (H : Type) (enc' : TypeId × Value → H) (W : World) (base : Nat) (args : Array Value) (ds gs : List (DataW H)) (before : List MemPlace)
    (hval : ∀ (j : Nat) t v, Tryd.f13.params[j]? = some t → args[j]? = some v → Value.okWide Tryd.prog W .any base t v)
    (hW : DataW.Whole enc' Tryd.prog Tryd.f13.params.toList Rows.reelTimeSpec.vars false W args.toList ds gs before)
    (hw : (DataW.weightsEach Tryd.prog (Tryd.f13.params.toList ++ (OpenSpec.ofChange Rows.reelTimeSpec).bare.plain.varTypes Tryd.prog) (ds ++ gs)).all (· ≤ reachBytes) = true) (hL : laidMetH Tryd.prog laidAll W) :
    Calls Tryd.prog 13 args W fun e W' => ∃ v, e = .returned v ∧ Rows.reelTimeSpec.post enc' Tryd.prog Tryd.f13 false true false false W args v W' := by
  have hW' := hW
  obtain ⟨p, q, hA0, hV, rfl, hfz, hnd⟩ := hW
  have hA : DataW.TrodAll enc' Tryd.prog W 0 (fun _ => true) true Tryd.f13.params.toList args.toList ds p := hA0
  rw [Tryd.params13] at hA hval
  obtain ⟨v0, vs0, d0, ds0, p0, q0, hargs, rfl, rfl, h0, r0⟩ := trodAll_cons hA
  obtain ⟨v1, vs1, d1, ds1, p1, q1, rfl, rfl, rfl, h1, r1⟩ := trodAll_cons r0
  obtain ⟨v2, vs2, d2, ds2, p2, q2, rfl, rfl, rfl, h2, r2⟩ := trodAll_cons r1
  obtain ⟨rfl, rfl, rfl⟩ := trodAll_nil r2
  obtain rfl : args = #[v0, v1, v2] := by cases args; simp_all
  obtain ⟨rfl, rfl⟩ := trodVars_none hV
  have hvt : (OpenSpec.ofChange Rows.reelTimeSpec).bare.plain.varTypes Tryd.prog = [] := by kernel_rfl
  rw [Tryd.params13, hvt] at hw
  obtain ⟨n0, h0⟩ := h0
  obtain ⟨x0, e0, hd0⟩ := rd_film h0
  have hx0 : chkOK x0 = true := film_bound hd0 fun n hn => by
    have := List.all_eq_true.1 hw n (by
      simp only [List.append_nil, DataW.weightsEach, List.mem_append]
      exact .inl hn)
    simpa using this
  obtain ⟨n1, h1⟩ := h1
  obtain ⟨x1, e1, hd1⟩ := rd_list h1
  have hx1 : lenOK x1 = true := list_bound hd1 fun n hn => by
    have := List.all_eq_true.1 hw n (by
      simp only [List.append_nil, DataW.weightsEach, List.mem_append]
      exact .inr (.inl hn))
    simpa using this
  obtain ⟨n2, h2⟩ := h2
  obtain ⟨x2, e2, _⟩ := rd_int h2
  have hx2 := trivial
  have hrel : RelV TRr (baseCx noV noIo) W [enc tRF x0, enc tInts x1, enc .int x2] [v0, v1, v2] := by
    simp only [RelV]
    exact ⟨v0, _, rfl, vr_film e0 (agg_of Tryd.underlying26 (hval 0 _ v0 rfl rfl)), ⟨v1, _, rfl, vr_list e1 (hval 1 _ v1 rfl rfl), ⟨v2, _, rfl, vr_num e2 (hval 2 _ v2 rfl rfl), rfl⟩⟩⟩
  have hg : g13 [enc tRF x0, enc tInts x1, enc .int x2] = some (true, .bool true) := by
    have g0 : dec tRF (enc tRF x0) = some x0 := by kernel_rfl
    have g1 : dec tInts (enc tInts x1) = some x1 := by kernel_rfl
    have g2 : dec .int (enc .int x2) = some x2 := by kernel_rfl
    unfold g13
    simp only [g0, g1, g2]
    have : timOK x0 x1 x2 = true := (by simp [timOK, hx0, hx1])
    rw [this]
    rfl
  refine Calls.mono (law_calls k13 hL hrel hg) ?_
  rintro e W' ⟨rfl, io', hk⟩
  exact ⟨_, rfl, post_true hk hW' rfl (by kernel_rfl) (by kernel_rfl) rfl⟩

theorem tim_reads (os : Os) {H : Type} (enc : TypeId × Value → H) : ∃ places, DataW.whole enc Tryd.prog ((World.doorLaid Tryd.prog 24 os).forCall (fun _ _ => 0) ⟨#[], #[zFilm, .slice none 0 0, .int .i64 0], []⟩).memory Tryd.f13.params.toList Rows.reelTimeSpec.vars false (#[zFilm, .slice none 0 0, .int .i64 0] : Array Value).toList 8 = some ([.agg [.nil, .agg [.lit (.int .i64 0), .lit (.int .i64 0)], .agg [.lit (.int .i64 0), .lit (.int .i64 0)], .lit (.int .i64 0)], .nil, .lit (.int .i64 0)], [], places) :=
  ⟨[], by kernel_rfl⟩

set_option maxRecDepth 100000 in
theorem tim_lifted (os : Os) (started : os.Started) (H : Type) (enc : TypeId × Value → H) (F : Stop.Interp) :
    ReturnsInHanded {} Tryd.checked os 13 .any ((OpenSpec.ofChange Rows.reelTimeSpec).preRow enc Tryd.prog Tryd.f13 Rows.reelTimeRow.domain false Rows.reelTimeRow.laid) (((OpenSpec.ofChange Rows.reelTimeSpec).at F).post enc Tryd.prog Tryd.f13 false true false false) := by
  obtain ⟨places, hx⟩ := tim_reads os enc
  refine returnsInHanded_of_row (C := Tryd.checked) (s := OpenSpec.ofChange Rows.reelTimeSpec) own started (by kernel_rfl) Tryd.func13
    (witness_row_at (enc := enc) (C := Tryd.checked) false (World.doorLaid Tryd.prog 24 os) #[zFilm, .slice none 0 0, .int .i64 0] rfl (by kernel_rfl) (by kernel_rfl) (by kernel_rfl)
      (OpenSpec.preRow_of_cond 8 hx (by kernel_rfl) (fun k hk => by cases hk) (by kernel_rfl) (door_met os _))) ?_
  intro W base args ds gs before hval hW _ _ hw hL _ _
  exact tim_contract H enc W base args ds gs before hval hW hw hL

theorem tim_said : Rows.ReelTimeSaid :=
  OpenClaim.holds_of_cond 13 Tryd.f13 rfl rfl rfl rfl rfl rfl rfl ⟨rfl, rfl, rfl, rfl, rfl⟩ rfl rfl rfl rfl rfl (by kernel_rfl) Tryd.func13 (by kernel_rfl)
    (of_decide_eq_true (by kernel_rfl)) (by unfold Func.isWrapper; first | (rw [if_pos (by decide +kernel)]; kernel_rfl) | (rw [if_neg (by decide +kernel)]; exact ⟨rfl, rfl⟩))
    (fun os started H enc _ F => by rw [OpenClaim.pre_eq_preRow]; exact tim_lifted os started H enc F)

theorem tim_plain (f : FuncId) (fn : Func) (hf : Tryd.pinned.checked.prog.funcNamed "bioscope/bioscopelaw01.ReelTime" = some f) (hfn : Tryd.pinned.checked.prog.funcs[f]? = some fn) :
    false = Tryd.pinned.checked.prog.looks [] ∧ ∀ (j : Nat) t, fn.params[j]? = some t → Tryd.pinned.checked.prog.wantsStandIn t = false := by
  obtain rfl : f = 13 := Option.some.inj ((show Tryd.prog.funcNamed "bioscope/bioscopelaw01.ReelTime" = some 13 by kernel_rfl).symm.trans hf) |>.symm
  obtain rfl : fn = Tryd.f13 := (Option.some.inj (Tryd.func13.symm.trans hfn)).symm
  refine ⟨by kernel_rfl, fun j t ht => ?_⟩
  have hall : (Tryd.f13.params.toList.all fun u => !Tryd.prog.wantsStandIn u) = true := by kernel_rfl
  have hm : t ∈ Tryd.f13.params.toList := by simpa using Array.mem_of_getElem? ht
  have h2 : Tryd.prog.wantsStandIn t = false := by simpa using List.all_eq_true.1 hall t hm
  exact h2

end Ev

/-- The statement. -/
theorem reelTime_holds : Rows.ReelTimeCardSaid :=
  Claim7.holds_tied_plain_at .later [] _ _ _ _ Ev.tim_said (fun _ h => by cases h) (by kernel_rfl) (fun _ h => by cases h) reelTime_row_tie rfl ⟨rfl, rfl⟩ (by kernel_rfl) rfl Ev.tim_plain (by kernel_rfl)
end Go.Proofs.YtidnikjkpbmhhaaDoor
