/- The law ReelSpools and all that it leans on, beyond the common part. -/
import Derived.Test.YtidnikjkpbmhhaaDoorBaseD
/- Choosing, as the evaluator walks it. -/
set_option linter.unusedVariables false
set_option maxRecDepth 4000
namespace Go.Proofs.YtidnikjkpbmhhaaDoor
namespace Ev

noncomputable def g52 : List AV → Option (Bool × AV)
  | [a0, a1] =>
    match dec tSpan a0, dec .int a1 with
    | some x0, some x1 => some (true, enc .int (chooseI x0 x1))
    | _, _ => none
  | _ => none
noncomputable def g54 : List AV → Option (Bool × AV)
  | [a0, a1] =>
    match dec tInts a0, dec .int a1 with
    | some x0, some x1 => some ((pickOK2 x0 x1), enc .int (pickI x0 x1))
    | _, _ => none
  | _ => none
noncomputable def X52 : Ctx := { T := TT, G := GG, C := [(48, g48), (58, g58)], L := [] }
noncomputable def f52_s (a0 : (Int × Int)) (a1 : Int) : Option (AV) :=
  bif (emptyS a0) then
    some (.int a0.1)
  else
    some (.int (w64 (a0.1 + (turnI a1 (w64 ((w64 (a0.2 - a0.1)) + (1 : Int)))))))

noncomputable def f52_T (a0 : (Int × Int)) (a1 : Int) : Option (AV) := f52_s a0 a1

theorem f52_ev (a0 : (Int × Int)) (a1 : Int) (N : Nat) : evF X52 N Tryd.f52 [enc tSpan a0, enc .int a1] = f52_T a0 a1 := by
  have h : evF X52 N Tryd.f52 [enc tSpan a0, enc .int a1] = f52_s a0 a1 := by kernel_rfl
  rw [h]
  rfl
noncomputable def X54 : Ctx := { T := TT, G := GG, C := [(48, g48)], L := [] }
noncomputable def f54_s (a0 : (List Int)) (a1 : Int) : Option (AV) :=
  bif (decide ((a0.length : Int) = (0 : Int))) then
    some (.int (0 : Int))
  else
    bif decide (0 ≤ (turnI a1 (a0.length : Int))) && decide ((turnI a1 (a0.length : Int)) < (a0.length : Int)) then
      some (.int (a0.getD (turnI a1 (a0.length : Int)).toNat (0 : Int)))
    else
      none

noncomputable def f54_T (a0 : (List Int)) (a1 : Int) : Option (AV) := f54_s a0 a1

theorem f54_ev (a0 : (List Int)) (a1 : Int) (N : Nat) : evF X54 N Tryd.f54 [enc tInts a0, enc .int a1] = f54_T a0 a1 := by
  have h : evF X54 N Tryd.f54 [enc tInts a0, enc .int a1] = f54_s a0 a1 := by kernel_rfl
  rw [h]
  rfl

end Ev
end Go.Proofs.YtidnikjkpbmhhaaDoor
/- Choosing: what the walks come to. -/
set_option linter.unusedVariables false
set_option linter.unusedSimpArgs false
set_option maxRecDepth 4000
namespace Go.Proofs.YtidnikjkpbmhhaaDoor
namespace Ev

theorem f52_sp (x0 : (Int × Int)) (x1 : Int) : ∃ (N : Nat) (r0 : AV), f52_T x0 x1 = some r0 ∧ wkAV r0 = enc .int (chooseI x0 x1) := by
  refine ⟨0, .int (chooseI x0 x1), ?_, rfl⟩
  unfold f52_T f52_s chooseI emptyS
  by_cases h : x0.2 < x0.1 <;> simp [h]
theorem f54_sp (x0 : (List Int)) (x1 : Int) (hp : pickOK2 x0 x1 = true) : ∃ (N : Nat) (r0 : AV), f54_T x0 x1 = some r0 ∧ wkAV r0 = enc .int (pickI x0 x1) := by
  have hl : x0.length ≤ 70368744177664 := Nat.le_of_ble_eq_true hp
  refine ⟨0, .int (pickI x0 x1), ?_, rfl⟩
  unfold f54_T f54_s pickI
  by_cases h : x0.length = 0
  · simp [h]
  · have hr := turn_range (n := x1) (m := x0.length) (by omega) (by omega)
    simp [h, hr.1, hr.2]

end Ev
end Go.Proofs.YtidnikjkpbmhhaaDoor
/- The contracts of choosing. -/
set_option linter.unusedVariables false
set_option maxRecDepth 4000
namespace Go.Proofs.YtidnikjkpbmhhaaDoor
namespace Ev

theorem k52 : Good 52 g52 := ⟨ctr_ofN (B := Bs) (X := X52) (ctxOK rfl rfl rfl rfl rfl rfl (AllC.cons k48 (AllC.cons k58 AllC.nil))) Tryd.func52 (fun args r h => by
  unfold g52 at h
  split at h
  · rename_i a0 a1
    split at h
    · rename_i x0 x1 h0 h1
      simp only [Option.some.injEq, Prod.mk.injEq] at h
      obtain ⟨hp, rfl⟩ := h
      obtain ⟨N, r0, q1, q2⟩ := f52_sp x0 x1
      refine ⟨N, r0, ?_, q2⟩
      simp only [wkL, wk_dec h0, wk_dec h1]
      exact (f52_ev x0 x1 N).trans q1
    · cases h
  · cases h), Tryd.f52, Tryd.func52, by kernel_rfl, by kernel_rfl⟩
theorem k54 : Good 54 g54 := ⟨ctr_ofN (B := Bs) (X := X54) (ctxOK rfl rfl rfl rfl rfl rfl (AllC.cons k48 AllC.nil)) Tryd.func54 (fun args r h => by
  unfold g54 at h
  split at h
  · rename_i a0 a1
    split at h
    · rename_i x0 x1 h0 h1
      simp only [Option.some.injEq, Prod.mk.injEq] at h
      obtain ⟨hp, rfl⟩ := h
      obtain ⟨N, r0, q1, q2⟩ := f54_sp x0 x1 hp
      refine ⟨N, r0, ?_, q2⟩
      simp only [wkL, wk_dec h0, wk_dec h1]
      exact (f54_ev x0 x1 N).trans q1
    · cases h
  · cases h), Tryd.f54, Tryd.func54, by kernel_rfl, by kernel_rfl⟩

end Ev
end Go.Proofs.YtidnikjkpbmhhaaDoor
/- Spools, and orders that numbers choose, in plain words. -/
namespace Go.Proofs.YtidnikjkpbmhhaaDoor
namespace Ev

def joinedI (x : Fi) (l : List Int) (n : Int) : Fi × List Int × Int :=
  if askedI x (decide (0 < (l.length : Int)) && (areReelsB x l && amid n 0 999)) = 0 then
    (if (spoolsF x l n).2 = true then (x, (spoolsF x l n).1, 0) else (x, [], 4))
  else (zRF, [], askedI x (decide (0 < (l.length : Int)) && (areReelsB x l && amid n 0 999)))
def joinOK (x : Fi) (l : List Int) (_ : Int) : Bool := chkOK x && lenOK l
def SpoolsI (x : Fi) (l : List Int) (n : Int) : List Int × Int := ((joinedI x l n).2.1, (joinedI x l n).2.2)
def shufG (bits : List Int) : Nat → Nat → List Int → List Int
  | 0, _, out => out
  | m + 1, i, out => shufG bits m (i + 1) (((([] : List Int) ++ (out.take (turnI (pickI bits (i : Int)) ((out.length : Int) + 1)).toNat)) ++ [(i : Int)]) ++ (out.drop (turnI (pickI bits (i : Int)) ((out.length : Int) + 1)).toNat))
def shufI (many : Int) (bits : List Int) : List Int := shufG bits many.toNat 0 []
def shufOK (many : Int) (bits : List Int) : Bool := decide (many ≤ 1000) && lenOK bits

end Ev
end Go.Proofs.YtidnikjkpbmhhaaDoor
/- Spools, and orders that numbers choose, as the evaluator walks them. -/
set_option linter.unusedVariables false
set_option maxRecDepth 4000
namespace Go.Proofs.YtidnikjkpbmhhaaDoor
namespace Ev

noncomputable def g76 : List AV → Option (Bool × AV)
  | [a0, a1] =>
    match dec tInts a0, dec .int a1 with
    | some x0, some x1 => some ((lenOK2 x0 x1), enc .int (findI x0 x1))
    | _, _ => none
  | _ => none
noncomputable def g87 : List AV → Option (Bool × AV)
  | [a0, a1] =>
    match dec tInts a0, dec .int a1 with
    | some x0, some x1 => some ((lenOK2 x0 x1), enc .bool (containsI x0 x1))
    | _, _ => none
  | _ => none
noncomputable def g63 : List AV → Option (Bool × AV)
  | [a0, a1] =>
    match dec tRF a0, dec tInts a1 with
    | some x0, some x1 => some ((areOK x0 x1), enc .bool (areReelsB x0 x1))
    | _, _ => none
  | _ => none
noncomputable def g84 : List AV → Option (Bool × AV)
  | [a0, a1, a2] =>
    match dec tRF a0, dec tInts a1, dec .int a2 with
    | some x0, some x1, some x2 => some ((joinOK x0 x1 x2), .tup [.agg [enc tRF ((joinedI x0 x1 x2).1), .tok 0 tRF ((joinedI x0 x1 x2).1)], enc tInts ((joinedI x0 x1 x2).2.1), enc .int ((joinedI x0 x1 x2).2.2)])
    | _, _, _ => none
  | _ => none
noncomputable def g38 : List AV → Option (Bool × AV)
  | [a0, a1, a2] =>
    match dec tRF a0, dec tInts a1, dec .int a2 with
    | some x0, some x1, some x2 => some ((joinOK x0 x1 x2), .tup [enc tInts ((SpoolsI x0 x1 x2).1), enc .int ((SpoolsI x0 x1 x2).2)])
    | _, _, _ => none
  | _ => none
noncomputable def g57 : List AV → Option (Bool × AV)
  | [a0] =>
    match dec tInts a0 with
    | some x0 => some ((lenOK x0), enc .int (sumI0 x0))
    | _ => none
  | _ => none
noncomputable def g49 : List AV → Option (Bool × AV)
  | [a0, a1] =>
    match dec .int a0, dec tInts a1 with
    | some x0, some x1 => some ((shufOK x0 x1), enc tInts (shufI x0 x1))
    | _, _ => none
  | _ => none
noncomputable def X76 : Ctx := { T := TT, G := GG, C := [], L := [(2, [2, 3, 4, 5, 6, 9, 10, 11, 12, 13, 14, 15, 16, 17, 18], [0])] }
noncomputable def f76_s0 (a0 : (List Int)) (a1 : Int) (k0 : Int → Option (AV)) (v0_0 : Int) : Option (AV) :=
  bif (decide (v0_0 < (a0.length : Int))) then
    bif decide (0 ≤ v0_0) && decide (v0_0 < (a0.length : Int)) then
      bif (decide (a1 = (a0.getD v0_0.toNat (0 : Int)))) then
        some (.int v0_0)
      else
        k0 (w64 (v0_0 + (1 : Int)))
    else
      none
  else
    some (.int (-1 : Int))

noncomputable def f76_s (a0 : (List Int)) (a1 : Int) (k0 : Int → Option (AV)) : Option (AV) :=
  k0 (0 : Int)

noncomputable def f76_R0 (a0 : (List Int)) (a1 : Int) (N : Nat) (n : Nat) (v0_0 : Int) : Option (AV) :=
  loopN (evC X76 N (sub [(1, 0), (0, 0), (1, 0), (0, 0), (0, 0)] (bodyOf Tryd.f76))) (keepOf X76.L (sub [(1, 0), (0, 0), (1, 0), (0, 0), (0, 0)] (bodyOf Tryd.f76))) n ⟨[.sl .int ⟨false, false, none⟩ a0, .int a1, .poison, .poison, .poison, .poison, .poison, .int (a0.length : Int), .int v0_0, .poison, .poison, .poison, .poison, .poison, .poison, .poison, .poison, .poison, .poison], [.none, .none, .none, .none, .none, .none, .none, .none, .none, .none, .none, .none, .none, .none, .none, .none, .none, .none, .none]⟩ (ctxK X76 N [(1, 0), (0, 0), (1, 0), (0, 0)] (bodyOf Tryd.f76) (finK X76 Tryd.f76))

theorem f76_e0 (a0 : (List Int)) (a1 : Int) (N : Nat) (n : Nat) (v0_0 : Int) : f76_R0 a0 a1 N (n + 1) v0_0 = f76_s0 a0 a1 (f76_R0 a0 a1 N n) v0_0 := by kernel_rfl

noncomputable def f76_L0 (a0 : (List Int)) (a1 : Int) (N : Nat) : Nat → Int → Option (AV)
  | 0, _ => none
  | n + 1, v0_0 => f76_s0 a0 a1 (f76_L0 a0 a1 N n) v0_0

theorem f76_q0 (a0 : (List Int)) (a1 : Int) (N : Nat) : ∀ n : Nat, f76_R0 a0 a1 N n = f76_L0 a0 a1 N n
  | 0 => by
    funext v0_0
    rfl
  | n + 1 => by
    funext v0_0
    rw [f76_e0]
    simp only [f76_q0 a0 a1 N n]
    rfl

noncomputable def f76_T (a0 : (List Int)) (a1 : Int) (N : Nat) : Option (AV) := f76_s a0 a1 (f76_L0 a0 a1 N N)

theorem f76_ev (a0 : (List Int)) (a1 : Int) (N : Nat) : evF X76 N Tryd.f76 [enc tInts a0, enc .int a1] = f76_T a0 a1 N := by
  have h : evF X76 N Tryd.f76 [enc tInts a0, enc .int a1] = f76_s a0 a1 (f76_R0 a0 a1 N N) := by kernel_rfl
  rw [h, f76_q0]
  rfl
noncomputable def X87 : Ctx := { T := TT, G := GG, C := [(76, g76)], L := [] }
noncomputable def f87_s (a0 : (List Int)) (a1 : Int) : Option (AV) :=
  bif (lenOK2 a0 a1) then
    some (.bool (decide ((0 : Int) ≤ (findI a0 a1))))
  else
    none

noncomputable def f87_T (a0 : (List Int)) (a1 : Int) : Option (AV) := f87_s a0 a1

theorem f87_ev (a0 : (List Int)) (a1 : Int) (N : Nat) : evF X87 N Tryd.f87 [enc tInts a0, enc .int a1] = f87_T a0 a1 := by
  have h : evF X87 N Tryd.f87 [enc tInts a0, enc .int a1] = f87_s a0 a1 := by kernel_rfl
  rw [h]
  rfl
noncomputable def X63 : Ctx := { T := TT, G := GG, C := [(68, g68), (87, g87)], L := [(2, [0, 3, 4, 5, 6, 10, 11, 12, 13, 14, 15, 16, 17, 18, 19, 20, 21, 22, 23, 24, 25, 26, 27, 28], [1, 7])] }
noncomputable def f63_s0 (a0 : ((List ((Int × Int) × (Int × Int) × (Int × Int))) × (Int × Int) × (Int × Int) × Int)) (a1 : (List Int)) (k0 : Int → Option (AV)) (v0_0 : Int) : Option (AV) :=
  bif (decide (v0_0 < (a1.length : Int))) then
    bif decide (0 ≤ v0_0) && decide (v0_0 < (a1.length : Int)) then
      bif (!(amid (a1.getD v0_0.toNat (0 : Int)) (0 : Int) (w64 ((a0.1.length : Int) - (1 : Int))))) then
        some (.bool false)
      else
        bif decide (0 ≤ v0_0) && decide (v0_0 ≤ (a1.length : Int)) then
          bif (lenOK2 (a1.take v0_0.toNat) (a1.getD v0_0.toNat (0 : Int))) then
            bif (containsI (a1.take v0_0.toNat) (a1.getD v0_0.toNat (0 : Int))) then
              some (.bool false)
            else
              k0 (w64 (v0_0 + (1 : Int)))
          else
            none
        else
          none
    else
      none
  else
    some (.bool true)

noncomputable def f63_s (a0 : ((List ((Int × Int) × (Int × Int) × (Int × Int))) × (Int × Int) × (Int × Int) × Int)) (a1 : (List Int)) (k0 : Int → Option (AV)) : Option (AV) :=
  k0 (0 : Int)

noncomputable def f63_R0 (a0 : ((List ((Int × Int) × (Int × Int) × (Int × Int))) × (Int × Int) × (Int × Int) × Int)) (a1 : (List Int)) (N : Nat) (n : Nat) (v0_0 : Int) : Option (AV) :=
  loopN (evC X63 N (sub [(1, 0), (0, 0), (1, 0), (0, 0), (0, 0)] (bodyOf Tryd.f63))) (keepOf X63.L (sub [(1, 0), (0, 0), (1, 0), (0, 0), (0, 0)] (bodyOf Tryd.f63))) n ⟨[.poison, .sl .int ⟨false, false, none⟩ a1, .ref 2 [], .poison, .poison, .poison, .poison, .sl .int ⟨false, false, none⟩ a1, .int (a1.length : Int), .int v0_0, .poison, .poison, .poison, .poison, .poison, .poison, .poison, .poison, .poison, .poison, .poison, .poison, .poison, .poison, .poison, .poison, .poison, .poison, .poison], [.none, .none, .box (enc tRF a0), .none, .none, .none, .none, .none, .none, .none, .none, .none, .none, .none, .none, .none, .none, .none, .none, .none, .none, .none, .none, .none, .none, .none, .none, .none, .none]⟩ (ctxK X63 N [(1, 0), (0, 0), (1, 0), (0, 0)] (bodyOf Tryd.f63) (finK X63 Tryd.f63))

theorem f63_e0 (a0 : ((List ((Int × Int) × (Int × Int) × (Int × Int))) × (Int × Int) × (Int × Int) × Int)) (a1 : (List Int)) (N : Nat) (n : Nat) (v0_0 : Int) : f63_R0 a0 a1 N (n + 1) v0_0 = f63_s0 a0 a1 (f63_R0 a0 a1 N n) v0_0 := by kernel_rfl

noncomputable def f63_L0 (a0 : ((List ((Int × Int) × (Int × Int) × (Int × Int))) × (Int × Int) × (Int × Int) × Int)) (a1 : (List Int)) (N : Nat) : Nat → Int → Option (AV)
  | 0, _ => none
  | n + 1, v0_0 => f63_s0 a0 a1 (f63_L0 a0 a1 N n) v0_0

theorem f63_q0 (a0 : ((List ((Int × Int) × (Int × Int) × (Int × Int))) × (Int × Int) × (Int × Int) × Int)) (a1 : (List Int)) (N : Nat) : ∀ n : Nat, f63_R0 a0 a1 N n = f63_L0 a0 a1 N n
  | 0 => by
    funext v0_0
    rfl
  | n + 1 => by
    funext v0_0
    rw [f63_e0]
    simp only [f63_q0 a0 a1 N n]
    rfl

noncomputable def f63_T (a0 : ((List ((Int × Int) × (Int × Int) × (Int × Int))) × (Int × Int) × (Int × Int) × Int)) (a1 : (List Int)) (N : Nat) : Option (AV) := f63_s a0 a1 (f63_L0 a0 a1 N N)

theorem f63_ev (a0 : ((List ((Int × Int) × (Int × Int) × (Int × Int))) × (Int × Int) × (Int × Int) × Int)) (a1 : (List Int)) (N : Nat) : evF X63 N Tryd.f63 [enc tRF a0, enc tInts a1] = f63_T a0 a1 N := by
  have h : evF X63 N Tryd.f63 [enc tRF a0, enc tInts a1] = f63_s a0 a1 (f63_R0 a0 a1 N N) := by kernel_rfl
  rw [h, f63_q0]
  rfl
noncomputable def X84 : Ctx := { T := TT, G := GG, C := [(62, g62), (63, g63), (68, g68), (96, g96)], L := [] }
noncomputable def f84_s (a0 : ((List ((Int × Int) × (Int × Int) × (Int × Int))) × (Int × Int) × (Int × Int) × Int)) (a1 : (List Int)) (a2 : Int) : Option (AV) :=
  bif (decide ((0 : Int) < (a1.length : Int))) then
    bif (areOK a0 a1) then
      bif (areReelsB a0 a1) then
        bif (askOK a0 (amid a2 (0 : Int) (999 : Int))) then
          bif (!decide (((askedF a0 (amid a2 (0 : Int) (999 : Int))).2) = (0 : Int))) then
            some (.tup [.agg [enc tRF ((askedF a0 (amid a2 (0 : Int) (999 : Int))).1), .tok 0 tRF ((askedF a0 (amid a2 (0 : Int) (999 : Int))).1)], .sl .int ⟨true, true, none⟩ ([] : List Int), .int ((askedF a0 (amid a2 (0 : Int) (999 : Int))).2)])
          else
            bif decide (((askedF a0 (amid a2 (0 : Int) (999 : Int))).1) = ((askedF a0 (amid a2 (0 : Int) (999 : Int))).1)) && ((spoolsOK ((askedF a0 (amid a2 (0 : Int) (999 : Int))).1) a1 a2)) then
              bif (!((spoolsF ((askedF a0 (amid a2 (0 : Int) (999 : Int))).1) a1 a2).2)) then
                some (.tup [.agg [enc tRF ((askedF a0 (amid a2 (0 : Int) (999 : Int))).1), .tok 0 tRF ((askedF a0 (amid a2 (0 : Int) (999 : Int))).1)], .sl .int ⟨true, true, none⟩ ([] : List Int), .int (4 : Int)])
              else
                some (.tup [.agg [enc tRF ((askedF a0 (amid a2 (0 : Int) (999 : Int))).1), .tok 0 tRF ((askedF a0 (amid a2 (0 : Int) (999 : Int))).1)], .sl .int ⟨false, false, none⟩ ((spoolsF ((askedF a0 (amid a2 (0 : Int) (999 : Int))).1) a1 a2).1), .int (0 : Int)])
            else
              none
        else
          none
      else
        bif (askOK a0 false) then
          bif (!decide (((askedF a0 false).2) = (0 : Int))) then
            some (.tup [.agg [enc tRF ((askedF a0 false).1), .tok 0 tRF ((askedF a0 false).1)], .sl .int ⟨true, true, none⟩ ([] : List Int), .int ((askedF a0 false).2)])
          else
            bif decide (((askedF a0 false).1) = ((askedF a0 false).1)) && ((spoolsOK ((askedF a0 false).1) a1 a2)) then
              bif (!((spoolsF ((askedF a0 false).1) a1 a2).2)) then
                some (.tup [.agg [enc tRF ((askedF a0 false).1), .tok 0 tRF ((askedF a0 false).1)], .sl .int ⟨true, true, none⟩ ([] : List Int), .int (4 : Int)])
              else
                some (.tup [.agg [enc tRF ((askedF a0 false).1), .tok 0 tRF ((askedF a0 false).1)], .sl .int ⟨false, false, none⟩ ((spoolsF ((askedF a0 false).1) a1 a2).1), .int (0 : Int)])
            else
              none
        else
          none
    else
      none
  else
    bif (askOK a0 false) then
      bif (!decide (((askedF a0 false).2) = (0 : Int))) then
        some (.tup [.agg [enc tRF ((askedF a0 false).1), .tok 0 tRF ((askedF a0 false).1)], .sl .int ⟨true, true, none⟩ ([] : List Int), .int ((askedF a0 false).2)])
      else
        bif decide (((askedF a0 false).1) = ((askedF a0 false).1)) && ((spoolsOK ((askedF a0 false).1) a1 a2)) then
          bif (!((spoolsF ((askedF a0 false).1) a1 a2).2)) then
            some (.tup [.agg [enc tRF ((askedF a0 false).1), .tok 0 tRF ((askedF a0 false).1)], .sl .int ⟨true, true, none⟩ ([] : List Int), .int (4 : Int)])
          else
            some (.tup [.agg [enc tRF ((askedF a0 false).1), .tok 0 tRF ((askedF a0 false).1)], .sl .int ⟨false, false, none⟩ ((spoolsF ((askedF a0 false).1) a1 a2).1), .int (0 : Int)])
        else
          none
    else
      none

noncomputable def f84_T (a0 : ((List ((Int × Int) × (Int × Int) × (Int × Int))) × (Int × Int) × (Int × Int) × Int)) (a1 : (List Int)) (a2 : Int) : Option (AV) := f84_s a0 a1 a2

theorem f84_ev (a0 : ((List ((Int × Int) × (Int × Int) × (Int × Int))) × (Int × Int) × (Int × Int) × Int)) (a1 : (List Int)) (a2 : Int) (N : Nat) : evF X84 N Tryd.f84 [enc tRF a0, enc tInts a1, enc .int a2] = f84_T a0 a1 a2 := by
  have h : evF X84 N Tryd.f84 [enc tRF a0, enc tInts a1, enc .int a2] = f84_s a0 a1 a2 := by kernel_rfl
  rw [h]
  rfl
noncomputable def X38 : Ctx := { T := TT, G := GG, C := [(84, g84)], L := [] }
noncomputable def f38_s (a0 : ((List ((Int × Int) × (Int × Int) × (Int × Int))) × (Int × Int) × (Int × Int) × Int)) (a1 : (List Int)) (a2 : Int) : Option (AV) :=
  bif (joinOK a0 a1 a2) then
    bif (!decide (((joinedI a0 a1 a2).2.2) = (0 : Int))) then
      some (.tup [.sl .int ⟨true, true, none⟩ ([] : List Int), .int ((joinedI a0 a1 a2).2.2)])
    else
      bif decide ((((joinedI a0 a1 a2).2.1).length : Int) = (((joinedI a0 a1 a2).2.1).length : Int)) && (decide (0 ≤ (((joinedI a0 a1 a2).2.1).length : Int)) && decide ((((joinedI a0 a1 a2).2.1).length : Int) ≤ (((joinedI a0 a1 a2).2.1).length : Int))) then
        some (.tup [.sl .int ⟨(false && decide ((((joinedI a0 a1 a2).2.1).length : Int) = (((joinedI a0 a1 a2).2.1).length : Int))), true, none⟩ (((joinedI a0 a1 a2).2.1).take (((joinedI a0 a1 a2).2.1).length : Int).toNat), .int (0 : Int)])
      else
        none
  else
    none

noncomputable def f38_T (a0 : ((List ((Int × Int) × (Int × Int) × (Int × Int))) × (Int × Int) × (Int × Int) × Int)) (a1 : (List Int)) (a2 : Int) : Option (AV) := f38_s a0 a1 a2

theorem f38_ev (a0 : ((List ((Int × Int) × (Int × Int) × (Int × Int))) × (Int × Int) × (Int × Int) × Int)) (a1 : (List Int)) (a2 : Int) (N : Nat) : evF X38 N Tryd.f38 [enc tRF a0, enc tInts a1, enc .int a2] = f38_T a0 a1 a2 := by
  have h : evF X38 N Tryd.f38 [enc tRF a0, enc tInts a1, enc .int a2] = f38_s a0 a1 a2 := by kernel_rfl
  rw [h]
  rfl
noncomputable def X57 : Ctx := { T := TT, G := GG, C := [], L := [(3, [1, 2, 5, 6, 7, 8, 9, 10, 11, 12, 13, 14, 15, 16, 17], [0])] }
noncomputable def f57_s0 (a0 : (List Int)) (k0 : Int → Int → Option (AV)) (v0_0 : Int) (v0_1 : Int) : Option (AV) :=
  bif (decide (v0_1 < (a0.length : Int))) then
    bif decide (0 ≤ v0_1) && decide (v0_1 < (a0.length : Int)) then
      k0 (w64 (v0_0 + (a0.getD v0_1.toNat (0 : Int)))) (w64 (v0_1 + (1 : Int)))
    else
      none
  else
    some (.int v0_0)

noncomputable def f57_s (a0 : (List Int)) (k0 : Int → Int → Option (AV)) : Option (AV) :=
  k0 (0 : Int) (0 : Int)

noncomputable def f57_R0 (a0 : (List Int)) (N : Nat) (n : Nat) (v0_0 : Int) (v0_1 : Int) : Option (AV) :=
  loopN (evC X57 N (sub [(1, 0), (1, 0), (0, 0), (1, 0), (0, 0), (0, 0)] (bodyOf Tryd.f57))) (keepOf X57.L (sub [(1, 0), (1, 0), (0, 0), (1, 0), (0, 0), (0, 0)] (bodyOf Tryd.f57))) n ⟨[.sl .int ⟨false, false, none⟩ a0, .poison, .poison, .int v0_0, .int v0_1, .poison, .poison, .poison, .poison, .poison, .poison, .poison, .poison, .poison, .poison, .poison, .poison, .poison], [.none, .none, .none, .none, .none, .none, .none, .none, .none, .none, .none, .none, .none, .none, .none, .none, .none, .none]⟩ (ctxK X57 N [(1, 0), (1, 0), (0, 0), (1, 0), (0, 0)] (bodyOf Tryd.f57) (finK X57 Tryd.f57))

theorem f57_e0 (a0 : (List Int)) (N : Nat) (n : Nat) (v0_0 : Int) (v0_1 : Int) : f57_R0 a0 N (n + 1) v0_0 v0_1 = f57_s0 a0 (f57_R0 a0 N n) v0_0 v0_1 := by kernel_rfl

noncomputable def f57_L0 (a0 : (List Int)) (N : Nat) : Nat → Int → Int → Option (AV)
  | 0, _, _ => none
  | n + 1, v0_0, v0_1 => f57_s0 a0 (f57_L0 a0 N n) v0_0 v0_1

theorem f57_q0 (a0 : (List Int)) (N : Nat) : ∀ n : Nat, f57_R0 a0 N n = f57_L0 a0 N n
  | 0 => by
    funext v0_0
    funext v0_1
    rfl
  | n + 1 => by
    funext v0_0
    funext v0_1
    rw [f57_e0]
    simp only [f57_q0 a0 N n]
    rfl

noncomputable def f57_T (a0 : (List Int)) (N : Nat) : Option (AV) := f57_s a0 (f57_L0 a0 N N)

theorem f57_ev (a0 : (List Int)) (N : Nat) : evF X57 N Tryd.f57 [enc tInts a0] = f57_T a0 N := by
  have h : evF X57 N Tryd.f57 [enc tInts a0] = f57_s a0 (f57_R0 a0 N N) := by kernel_rfl
  rw [h, f57_q0]
  rfl
noncomputable def X49 : Ctx := { T := TT, G := GG, C := [(48, g48), (54, g54)], L := [(3, [2, 3, 4, 7, 8, 9, 10, 11, 12, 13, 14, 15, 16, 17, 18, 19, 20, 21, 22, 23, 24, 25, 26, 27, 28, 29, 30, 31, 32, 33, 34], [1, 5])] }
noncomputable def f49_s0 (a0 : Int) (a1 : (List Int)) (k1 : (List Int) → Int → Option (AV)) : Option (AV) :=
  bif (decide ((0 : Int) < a0)) then
    bif (pickOK2 a1 (0 : Int)) then
      bif decide (0 ≤ (turnI (pickI a1 (0 : Int)) (w64 ((([] : List Int).length : Int) + (1 : Int))))) && decide ((turnI (pickI a1 (0 : Int)) (w64 ((([] : List Int).length : Int) + (1 : Int)))) ≤ (([] : List Int).length : Int)) then
        bif true && roomy ([] : List Int).length (([] : List Int).take (turnI (pickI a1 (0 : Int)) (w64 ((([] : List Int).length : Int) + (1 : Int)))).toNat).length 8 then
          bif roomy (([] : List Int) ++ (([] : List Int).take (turnI (pickI a1 (0 : Int)) (w64 ((([] : List Int).length : Int) + (1 : Int)))).toNat)).length [(0 : Int)].length 8 then
            bif decide (0 ≤ (turnI (pickI a1 (0 : Int)) (w64 ((([] : List Int).length : Int) + (1 : Int))))) && decide ((turnI (pickI a1 (0 : Int)) (w64 ((([] : List Int).length : Int) + (1 : Int)))) ≤ (([] : List Int).length : Int)) then
              bif roomy ((([] : List Int) ++ (([] : List Int).take (turnI (pickI a1 (0 : Int)) (w64 ((([] : List Int).length : Int) + (1 : Int)))).toNat)) ++ [(0 : Int)]).length (([] : List Int).drop (turnI (pickI a1 (0 : Int)) (w64 ((([] : List Int).length : Int) + (1 : Int)))).toNat).length 8 then
                k1 (((([] : List Int) ++ (([] : List Int).take (turnI (pickI a1 (0 : Int)) (w64 ((([] : List Int).length : Int) + (1 : Int)))).toNat)) ++ [(0 : Int)]) ++ (([] : List Int).drop (turnI (pickI a1 (0 : Int)) (w64 ((([] : List Int).length : Int) + (1 : Int)))).toNat)) (w64 ((0 : Int) + (1 : Int)))
              else
                none
            else
              none
          else
            none
        else
          none
      else
        none
    else
      none
  else
    some (.sl .int ⟨false, false, none⟩ ([] : List Int))

noncomputable def f49_s1 (a0 : Int) (a1 : (List Int)) (k1 : (List Int) → Int → Option (AV)) (v1_0 : (List Int)) (v1_1 : Int) : Option (AV) :=
  bif (decide (v1_1 < a0)) then
    bif (pickOK2 a1 v1_1) then
      bif decide (0 ≤ (turnI (pickI a1 v1_1) (w64 ((v1_0.length : Int) + (1 : Int))))) && decide ((turnI (pickI a1 v1_1) (w64 ((v1_0.length : Int) + (1 : Int)))) ≤ (v1_0.length : Int)) then
        bif true && roomy ([] : List Int).length (v1_0.take (turnI (pickI a1 v1_1) (w64 ((v1_0.length : Int) + (1 : Int)))).toNat).length 8 then
          bif roomy (([] : List Int) ++ (v1_0.take (turnI (pickI a1 v1_1) (w64 ((v1_0.length : Int) + (1 : Int)))).toNat)).length [v1_1].length 8 then
            bif decide (0 ≤ (turnI (pickI a1 v1_1) (w64 ((v1_0.length : Int) + (1 : Int))))) && decide ((turnI (pickI a1 v1_1) (w64 ((v1_0.length : Int) + (1 : Int)))) ≤ (v1_0.length : Int)) then
              bif roomy ((([] : List Int) ++ (v1_0.take (turnI (pickI a1 v1_1) (w64 ((v1_0.length : Int) + (1 : Int)))).toNat)) ++ [v1_1]).length (v1_0.drop (turnI (pickI a1 v1_1) (w64 ((v1_0.length : Int) + (1 : Int)))).toNat).length 8 then
                k1 (((([] : List Int) ++ (v1_0.take (turnI (pickI a1 v1_1) (w64 ((v1_0.length : Int) + (1 : Int)))).toNat)) ++ [v1_1]) ++ (v1_0.drop (turnI (pickI a1 v1_1) (w64 ((v1_0.length : Int) + (1 : Int)))).toNat)) (w64 (v1_1 + (1 : Int)))
              else
                none
            else
              none
          else
            none
        else
          none
      else
        none
    else
      none
  else
    some (.sl .int ⟨false, false, none⟩ v1_0)

noncomputable def f49_s (a0 : Int) (a1 : (List Int)) (k0 : Option (AV)) : Option (AV) :=
  k0

noncomputable def f49_R0 (a0 : Int) (a1 : (List Int)) (N : Nat) (n : Nat) : Option (AV) :=
  loopN (evC X49 N (sub [(1, 0), (1, 0), (0, 0), (1, 0), (0, 0), (0, 0)] (bodyOf Tryd.f49))) (keepOf X49.L (sub [(1, 0), (1, 0), (0, 0), (1, 0), (0, 0), (0, 0)] (bodyOf Tryd.f49))) n ⟨[.int a0, .sl .int ⟨false, false, none⟩ a1, .poison, .poison, .poison, .sl .int ⟨false, false, none⟩ ([] : List Int), .int (0 : Int), .poison, .poison, .poison, .poison, .poison, .poison, .poison, .poison, .poison, .poison, .poison, .poison, .poison, .poison, .poison, .poison, .poison, .poison, .poison, .poison, .poison, .poison, .poison, .poison, .poison, .poison, .poison, .poison], [.none, .none, .none, .none, .none, .none, .none, .none, .none, .none, .none, .none, .none, .none, .none, .none, .none, .none, .none, .none, .none, .none, .none, .none, .none, .none, .none, .none, .none, .none, .none, .none, .none, .none, .none]⟩ (ctxK X49 N [(1, 0), (1, 0), (0, 0), (1, 0), (0, 0)] (bodyOf Tryd.f49) (finK X49 Tryd.f49))

noncomputable def f49_R1 (a0 : Int) (a1 : (List Int)) (N : Nat) (n : Nat) (v1_0 : (List Int)) (v1_1 : Int) : Option (AV) :=
  loopN (evC X49 N (sub [(1, 0), (1, 0), (0, 0), (1, 0), (0, 0), (0, 0)] (bodyOf Tryd.f49))) (keepOf X49.L (sub [(1, 0), (1, 0), (0, 0), (1, 0), (0, 0), (0, 0)] (bodyOf Tryd.f49))) n ⟨[.int a0, .sl .int ⟨false, false, none⟩ a1, .poison, .poison, .poison, .sl .int ⟨false, false, none⟩ v1_0, .int v1_1, .poison, .poison, .poison, .poison, .poison, .poison, .poison, .poison, .poison, .poison, .poison, .poison, .poison, .poison, .poison, .poison, .poison, .poison, .poison, .poison, .poison, .poison, .poison, .poison, .poison, .poison, .poison, .poison], [.none, .none, .none, .none, .none, .none, .none, .none, .none, .none, .none, .none, .none, .none, .none, .none, .none, .none, .none, .none, .none, .none, .none, .none, .none, .lin 0 false, .none, .none, .none, .lin 0 false, .none, .none, .none, .lin 0 true, .none]⟩ (ctxK X49 N [(1, 0), (1, 0), (0, 0), (1, 0), (0, 0)] (bodyOf Tryd.f49) (finK X49 Tryd.f49))

theorem f49_e0 (a0 : Int) (a1 : (List Int)) (N : Nat) (n : Nat) : f49_R0 a0 a1 N (n + 1) = f49_s0 a0 a1 (f49_R1 a0 a1 N n) := by kernel_rfl

theorem f49_e1 (a0 : Int) (a1 : (List Int)) (N : Nat) (n : Nat) (v1_0 : (List Int)) (v1_1 : Int) : f49_R1 a0 a1 N (n + 1) v1_0 v1_1 = f49_s1 a0 a1 (f49_R1 a0 a1 N n) v1_0 v1_1 := by kernel_rfl

noncomputable def f49_L1 (a0 : Int) (a1 : (List Int)) (N : Nat) : Nat → (List Int) → Int → Option (AV)
  | 0, _, _ => none
  | n + 1, v1_0, v1_1 => f49_s1 a0 a1 (f49_L1 a0 a1 N n) v1_0 v1_1

noncomputable def f49_L0 (a0 : Int) (a1 : (List Int)) (N : Nat) : Nat → Option (AV)
  | 0 => none
  | n + 1 => f49_s0 a0 a1 (f49_L1 a0 a1 N n)

theorem f49_q1 (a0 : Int) (a1 : (List Int)) (N : Nat) : ∀ n : Nat, f49_R1 a0 a1 N n = f49_L1 a0 a1 N n
  | 0 => by
    funext v1_0
    funext v1_1
    rfl
  | n + 1 => by
    funext v1_0
    funext v1_1
    rw [f49_e1]
    simp only [f49_q1 a0 a1 N n]
    rfl

theorem f49_q0 (a0 : Int) (a1 : (List Int)) (N : Nat) : ∀ n : Nat, f49_R0 a0 a1 N n = f49_L0 a0 a1 N n
  | 0 => by
    rfl
  | n + 1 => by
    rw [f49_e0]
    simp only [f49_q1 a0 a1 N n]
    rfl

noncomputable def f49_T (a0 : Int) (a1 : (List Int)) (N : Nat) : Option (AV) := f49_s a0 a1 (f49_L0 a0 a1 N N)

theorem f49_ev (a0 : Int) (a1 : (List Int)) (N : Nat) : evF X49 N Tryd.f49 [enc .int a0, enc tInts a1] = f49_T a0 a1 N := by
  have h : evF X49 N Tryd.f49 [enc .int a0, enc tInts a1] = f49_s a0 a1 (f49_R0 a0 a1 N N) := by kernel_rfl
  rw [h, f49_q0]
  rfl

end Ev
end Go.Proofs.YtidnikjkpbmhhaaDoor
/- Spools, and orders that numbers choose: what the walks come to. -/
set_option linter.unusedVariables false
set_option linter.unusedSimpArgs false
set_option maxRecDepth 4000
namespace Go.Proofs.YtidnikjkpbmhhaaDoor
namespace Ev

theorem get_int {l : List Int} {i : Nat} (h : i < l.length) : l.getD (i : Int).toNat (0 : Int) = l[i] := by simp [List.getD, h]

theorem f76_loop (l : List Int) (hl : lenOK l = true) (a : Int) (N : Nat) : ∀ (m i : Nat), i + m = l.length → f76_L0 l a N (m + 1) i = some (.int (findFrom a (l.drop i) i))
  | 0, i, h => by
    have e : f76_L0 l a N (0 + 1) i = f76_s0 l a (f76_L0 l a N 0) i := rfl
    rw [e]
    unfold f76_s0
    have h1 : decide ((i : Int) < (l.length : Int)) = false := by simp; omega
    rw [h1, List.drop_eq_nil_of_le (by omega)]
    rfl
  | m + 1, i, h => by
    have e : f76_L0 l a N (m + 1 + 1) i = f76_s0 l a (f76_L0 l a N (m + 1)) i := rfl
    rw [e]
    have hlt : i < l.length := by omega
    unfold f76_s0
    have h1 : decide ((i : Int) < (l.length : Int)) = true := by simp; omega
    have h2 : decide (0 ≤ (i : Int)) = true := by simp
    rw [get_int hlt, h1, h2, w64_succ hlt (Nat.le_of_ble_eq_true hl), List.drop_eq_getElem_cons hlt, findFrom, f76_loop l hl a N m (i + 1) (by omega)]
    by_cases c : a = l[i]
    · rw [decide_eq_true c, if_pos c.symm]
      rfl
    · rw [decide_eq_false c, if_neg fun h => c h.symm]
      simp only [Bool.and_self, cond_true, cond_false]
      rfl
theorem f76_sp (x0 : (List Int)) (x1 : Int) (hp : lenOK2 x0 x1 = true) : ∃ (N : Nat) (r0 : AV), f76_T x0 x1 N = some r0 ∧ wkAV r0 = enc .int (findI x0 x1) :=
  ⟨x0.length + 1, .int (findI x0 x1), f76_loop x0 hp x1 (x0.length + 1) x0.length 0 (by omega), rfl⟩
theorem f87_sp (x0 : (List Int)) (x1 : Int) (hp : lenOK2 x0 x1 = true) : ∃ (N : Nat) (r0 : AV), f87_T x0 x1 = some r0 ∧ wkAV r0 = enc .bool (containsI x0 x1) :=
  ⟨0, .bool (containsI x0 x1), by unfold f87_T f87_s; rw [hp]; rfl, rfl⟩

theorem find_ge (n : Int) : ∀ (l : List Int) (i : Int), 0 ≤ i → (0 ≤ findFrom n l i ↔ n ∈ l)
  | [], i, hi => by simp [findFrom]
  | x :: l, i, hi => by
    rw [findFrom, List.mem_cons]
    by_cases c : x = n
    · rw [if_pos c]
      exact ⟨fun _ => .inl c.symm, fun _ => hi⟩
    · rw [if_neg c, find_ge n l (i + 1) (by omega)]
      exact ⟨.inr, fun h => h.resolve_left fun e => c e.symm⟩
theorem contains_iff (l : List Int) (n : Int) : containsI l n = decide (n ∈ l) := by
  unfold containsI findI
  exact decide_eq_decide.2 (find_ge n l 0 (by omega))

theorem f63_loop (x : Fi) (l : List Int) (hl : lenOK l = true) (N : Nat) : ∀ (m i : Nat), i + m = l.length → f63_L0 x l N (m + 1) i = some (.bool (areFrom x.1.length (l.take i) (l.drop i)))
  | 0, i, h => by
    have e : f63_L0 x l N (0 + 1) i = f63_s0 x l (f63_L0 x l N 0) i := rfl
    rw [e]
    unfold f63_s0
    have h1 : decide ((i : Int) < (l.length : Int)) = false := by simp; omega
    rw [h1, List.drop_eq_nil_of_le (by omega)]
    rfl
  | m + 1, i, h => by
    have e : f63_L0 x l N (m + 1 + 1) i = f63_s0 x l (f63_L0 x l N (m + 1)) i := rfl
    rw [e]
    have hlt : i < l.length := by omega
    unfold f63_s0
    have h1 : decide ((i : Int) < (l.length : Int)) = true := by simp; omega
    have h2 : decide (0 ≤ (i : Int)) = true := by simp
    have h3 : decide ((i : Int) ≤ (l.length : Int)) = true := by simp; omega
    have ht : (i : Int).toNat = i := by simp
    have h4 : lenOK2 (l.take i) l[i] = true := by
      have := Nat.le_of_ble_eq_true hl
      unfold lenOK2 lenOK
      refine Nat.ble_eq_true_of_le ?_
      simp
      omega
    rw [get_int hlt, h1, h2, h3, ht, h4, contains_iff, w64_succ hlt (Nat.le_of_ble_eq_true hl), List.drop_eq_getElem_cons hlt, areFrom, f63_loop x l hl N m (i + 1) (by omega), List.take_succ_eq_append_getElem hlt]
    cases amid l[i] 0 (w64 ((x.1.length : Int) - 1)) <;> cases decide (l[i] ∈ l.take i) <;> rfl
theorem f63_sp (x0 : Fi) (x1 : (List Int)) (hp : areOK x0 x1 = true) : ∃ (N : Nat) (r0 : AV), f63_T x0 x1 N = some r0 ∧ wkAV r0 = enc .bool (areReelsB x0 x1) := by
  refine ⟨x1.length + 1, .bool (areReelsB x0 x1), ?_, rfl⟩
  have := f63_loop x0 x1 hp (x1.length + 1) x1.length 0 (by omega)
  exact this

/-- Numbers of reels, each at most once. -/
theorem are_spec (n : Nat) (hn : n ≤ 1000) (hn0 : 1 ≤ n) : ∀ (l pre : List Int), areFrom n pre l = true → (∀ k ∈ l, 0 ≤ k ∧ k < n) ∧ (∀ k ∈ l, k ∉ pre) ∧ l.Nodup
  | [], pre, h => ⟨by simp, by simp, List.nodup_nil⟩
  | k :: r, pre, h => by
    rw [areFrom] at h
    simp only [Bool.and_eq_true, Bool.not_eq_true', decide_eq_false_iff_not, amid, decide_eq_true_eq] at h
    obtain ⟨⟨h1, h2⟩, h3, h4⟩ := h
    rw [w64_small (by omega) (by omega)] at h2
    obtain ⟨g1, g2, g3⟩ := are_spec n hn hn0 r (pre ++ [k]) h4
    refine ⟨fun j hj => ?_, fun j hj => ?_, List.nodup_cons.2 ⟨fun hk => g2 k hk (by simp), g3⟩⟩
    · rcases List.mem_cons.1 hj with rfl | hj
      · omega
      · exact g1 j hj
    · rcases List.mem_cons.1 hj with rfl | hj
      · exact h3
      · exact fun hp => g2 j hj (by simp [hp])
theorem are_len {x : Fi} {l : List Int} (hc : checkB x = true) (h : areReelsB x l = true) : l.length ≤ x.1.length ∧ l.all (inReels x) = true ∧ l.Nodup := by
  have hl := check_len hc
  obtain ⟨h1, _, h3⟩ := are_spec x.1.length (by omega) (by omega) l [] h
  refine ⟨?_, ?_, h3⟩
  · have hs : l ⊆ (List.range x.1.length).map (fun k : Nat => (k : Int)) := fun k hk => by
      have := h1 k hk
      rw [List.mem_map]
      exact ⟨k.toNat, by simp; omega, by omega⟩
    have := h3.length_le_of_subset hs
    simpa using this
  · rw [List.all_eq_true]
    intro k hk
    have := h1 k hk
    simp only [inReels, Bool.and_eq_true, decide_eq_true_eq]
    exact this

theorem f84_sp (x0 : Fi) (x1 : List Int) (x2 : Int) (hp : joinOK x0 x1 x2 = true) : ∃ (N : Nat) (r0 : AV), f84_T x0 x1 x2 = some r0 ∧ wkAV r0 = .tup [.agg [enc tRF ((joinedI x0 x1 x2).1), .tok 0 tRF ((joinedI x0 x1 x2).1)], enc tInts ((joinedI x0 x1 x2).2.1), enc .int ((joinedI x0 x1 x2).2.2)] := by
  simp only [joinOK, Bool.and_eq_true] at hp
  obtain ⟨hx, hl⟩ := hp
  have h : ∀ r, askOK x0 r = true := fun _ => hx
  have ha : areOK x0 x1 = true := hl
  have e : f84_T x0 x1 x2 = (bif (!decide (((askedF x0 (decide (0 < (x1.length : Int)) && (areReelsB x0 x1 && amid x2 0 999))).2) = (0 : Int))) then
            some (.tup [.agg [enc tRF ((askedF x0 (decide (0 < (x1.length : Int)) && (areReelsB x0 x1 && amid x2 0 999))).1), .tok 0 tRF ((askedF x0 (decide (0 < (x1.length : Int)) && (areReelsB x0 x1 && amid x2 0 999))).1)], .sl .int ⟨true, true, none⟩ ([] : List Int), .int ((askedF x0 (decide (0 < (x1.length : Int)) && (areReelsB x0 x1 && amid x2 0 999))).2)])
          else
            bif decide (((askedF x0 (decide (0 < (x1.length : Int)) && (areReelsB x0 x1 && amid x2 0 999))).1) = ((askedF x0 (decide (0 < (x1.length : Int)) && (areReelsB x0 x1 && amid x2 0 999))).1)) && ((spoolsOK ((askedF x0 (decide (0 < (x1.length : Int)) && (areReelsB x0 x1 && amid x2 0 999))).1) x1 x2)) then
              bif (!((spoolsF ((askedF x0 (decide (0 < (x1.length : Int)) && (areReelsB x0 x1 && amid x2 0 999))).1) x1 x2).2)) then
                some (.tup [.agg [enc tRF ((askedF x0 (decide (0 < (x1.length : Int)) && (areReelsB x0 x1 && amid x2 0 999))).1), .tok 0 tRF ((askedF x0 (decide (0 < (x1.length : Int)) && (areReelsB x0 x1 && amid x2 0 999))).1)], .sl .int ⟨true, true, none⟩ ([] : List Int), .int (4 : Int)])
              else
                some (.tup [.agg [enc tRF ((askedF x0 (decide (0 < (x1.length : Int)) && (areReelsB x0 x1 && amid x2 0 999))).1), .tok 0 tRF ((askedF x0 (decide (0 < (x1.length : Int)) && (areReelsB x0 x1 && amid x2 0 999))).1)], .sl .int ⟨false, false, none⟩ ((spoolsF ((askedF x0 (decide (0 < (x1.length : Int)) && (areReelsB x0 x1 && amid x2 0 999))).1) x1 x2).1), .int (0 : Int)])
            else
              none) := by
    unfold f84_T f84_s
    simp only [h, ha, cond_true]
    cases decide (0 < (x1.length : Int)) <;> cases areReelsB x0 x1 <;> rfl
  rw [e]
  unfold joinedI
  generalize hr : (decide (0 < (x1.length : Int)) && (areReelsB x0 x1 && amid x2 0 999)) = r
  by_cases h0 : askedI x0 r = 0
  · obtain ⟨hc, rfl⟩ := asked_zero h0
    simp only [Bool.and_eq_true] at hr
    have hal := are_len hc hr.2.1
    have hcl := check_len hc
    have hs : spoolsOK x0 x1 x2 = true := by
      simp only [spoolsOK, Bool.and_eq_true, decide_eq_true_eq]
      exact ⟨by omega, hal.2.1⟩
    have e1 : (askedF x0 true) = (x0, 0) := by simp [askedF, h0]
    rw [e1, if_pos h0]
    cases h2 : (spoolsF x0 x1 x2).2 with
    | true =>
      refine ⟨0, .tup [.agg [enc tRF x0, .tok 0 tRF x0], .sl .int ⟨false, false, none⟩ (spoolsF x0 x1 x2).1, .int 0], by simp [hs, h2], ?_⟩
      simp only [wkAV, wkL, wk_enc, if_true, enc]
      rfl
    | false =>
      refine ⟨0, .tup [.agg [enc tRF x0, .tok 0 tRF x0], .sl .int ⟨true, true, none⟩ [], .int 4], by simp [hs, h2], ?_⟩
      simp only [wkAV, wkL, wk_enc, Bool.false_eq_true, if_false, enc]
      rfl
  · rw [if_neg h0]
    refine ⟨0, .tup [.agg [enc tRF zRF, .tok 0 tRF zRF], .sl .int ⟨true, true, none⟩ [], .int (askedI x0 r)], by simp [askedF, h0], ?_⟩
    simp only [wkAV, wkL, wk_enc, enc]
    rfl
theorem f38_sp (x0 : Fi) (x1 : List Int) (x2 : Int) (hp : joinOK x0 x1 x2 = true) : ∃ (N : Nat) (r0 : AV), f38_T x0 x1 x2 = some r0 ∧ wkAV r0 = .tup [enc tInts ((SpoolsI x0 x1 x2).1), enc .int ((SpoolsI x0 x1 x2).2)] := by
  unfold f38_T f38_s SpoolsI
  rw [hp]
  by_cases h0 : (joinedI x0 x1 x2).2.2 = 0
  · refine ⟨0, .tup [.sl .int ⟨false, true, none⟩ ((joinedI x0 x1 x2).2.1), .int 0], by simp [h0], ?_⟩
    simp only [wkAV, wkL, enc, h0]
  · refine ⟨0, .tup [.sl .int ⟨true, true, none⟩ [], .int (joinedI x0 x1 x2).2.2], by simp [h0], ?_⟩
    have hn : (joinedI x0 x1 x2).2.1 = [] := by
      unfold joinedI at h0 ⊢
      split
      · rename_i h1
        rw [if_pos h1] at h0
        split
        · rename_i h2
          rw [if_pos h2] at h0
          exact absurd rfl h0
        · rfl
      · rfl
    simp only [wkAV, wkL, enc, hn]

theorem f57_loop (l : List Int) (hl : lenOK l = true) (N : Nat) : ∀ (m i : Nat) (a : Int), i + m = l.length → f57_L0 l N (m + 1) a i = some (.int (sumI (l.drop i) a))
  | 0, i, a, h => by
    have e : f57_L0 l N (0 + 1) a i = f57_s0 l (f57_L0 l N 0) a i := rfl
    rw [e]
    unfold f57_s0
    have h1 : decide ((i : Int) < (l.length : Int)) = false := by simp; omega
    rw [h1, List.drop_eq_nil_of_le (by omega)]
    rfl
  | m + 1, i, a, h => by
    have e : f57_L0 l N (m + 1 + 1) a i = f57_s0 l (f57_L0 l N (m + 1)) a i := rfl
    rw [e]
    have hlt : i < l.length := by omega
    unfold f57_s0
    have h1 : decide ((i : Int) < (l.length : Int)) = true := by simp; omega
    have h2 : decide (0 ≤ (i : Int)) = true := by simp
    rw [get_int hlt, h1, h2, w64_succ hlt (Nat.le_of_ble_eq_true hl), List.drop_eq_getElem_cons hlt, sumI, f57_loop l hl N m (i + 1) _ (by omega)]
    rfl
theorem f57_sp (x0 : (List Int)) (hp : lenOK x0 = true) : ∃ (N : Nat) (r0 : AV), f57_T x0 N = some r0 ∧ wkAV r0 = enc .int (sumI0 x0) :=
  ⟨x0.length + 1, .int (sumI0 x0), f57_loop x0 hp (x0.length + 1) x0.length 0 0 (by omega), rfl⟩

theorem shuf_len (bits : List Int) : ∀ (m i : Nat) (out : List Int), (shufG bits m i out).length = out.length + m
  | 0, i, out => rfl
  | m + 1, i, out => by
    rw [shufG, shuf_len bits m (i + 1)]
    simp only [List.length_append, List.length_take, List.length_drop, List.length_nil, List.length_cons]
    omega

theorem f49_loop (many : Int) (bits : List Int) (hm : many ≤ 1000) (hb : lenOK bits = true) (N : Nat) : ∀ (m i : Nat) (out : List Int), ((i : Int) + m = many ∨ (m = 0 ∧ many ≤ i)) → out.length = i → i ≤ 1000 → f49_L1 many bits N (m + 1) out i = some (.sl .int ⟨false, false, some (0, 0)⟩ (shufG bits m i out)) ∨ ∃ z g o, f49_L1 many bits N (m + 1) out i = some (.sl .int ⟨z, g, o⟩ (shufG bits m i out))
  | 0, i, out, h, ho, hi => by
    have e : f49_L1 many bits N (0 + 1) out i = f49_s1 many bits (f49_L1 many bits N 0) out i := rfl
    rw [e]
    unfold f49_s1
    have h1 : decide ((i : Int) < many) = false := by simp; omega
    rw [h1]
    exact .inr ⟨_, _, _, rfl⟩
  | m + 1, i, out, h, ho, hi => by
    have e : f49_L1 many bits N (m + 1 + 1) out i = f49_s1 many bits (f49_L1 many bits N (m + 1)) out i := rfl
    rw [e]
    have hlt : (i : Int) < many := by omega
    have hpk : pickOK2 bits (i : Int) = true := hb
    have hw : w64 ((out.length : Int) + 1) = (out.length : Int) + 1 := w64_small (by omega) (by omega)
    have htr := turn_range (n := pickI bits (i : Int)) (m := (out.length : Int) + 1) (by omega) (by omega)
    have hro : ∀ a b : Nat, a + b ≤ 3000 → roomy a b 8 = true := fun a b hab => by
      unfold roomy
      refine Nat.ble_eq_true_of_le ?_
      omega
    have hwi : w64 ((i : Int) + 1) = ((i + 1 : Nat) : Int) := w64_succ (n := 3000) (by omega) (by omega)
    unfold f49_s1
    rw [decide_eq_true hlt, hpk, hw, hwi]
    have h2 : decide (0 ≤ turnI (pickI bits (i : Int)) ((out.length : Int) + 1)) = true := by simpa using htr.1
    have h3 : decide (turnI (pickI bits (i : Int)) ((out.length : Int) + 1) ≤ (out.length : Int)) = true := by simp; omega
    rw [h2, h3, hro _ _ (by simp; omega), hro _ _ (by simp; omega), hro _ _ (by simp; omega)]
    simp only [cond_true, Bool.and_self, Bool.true_and]
    rw [shufG]
    exact f49_loop many bits hm hb N m (i + 1) _ (by omega) (by simp; omega) (by omega)

theorem f49_sp (x0 : Int) (x1 : (List Int)) (hp : shufOK x0 x1 = true) : ∃ (N : Nat) (r0 : AV), f49_T x0 x1 N = some r0 ∧ wkAV r0 = enc tInts (shufI x0 x1) := by
  simp only [shufOK, Bool.and_eq_true, decide_eq_true_eq] at hp
  obtain ⟨hm, hb⟩ := hp
  refine ⟨x0.toNat + 1, ?_⟩
  unfold f49_T f49_s
  have e : f49_L0 x0 x1 (x0.toNat + 1) (x0.toNat + 1) = f49_s0 x0 x1 (f49_L1 x0 x1 (x0.toNat + 1) x0.toNat) := rfl
  rw [e]
  unfold shufI
  by_cases h0 : (0 : Int) < x0
  · obtain ⟨m, hm1⟩ : ∃ m, x0.toNat = m + 1 := ⟨x0.toNat - 1, by omega⟩
    have hpk : pickOK2 x1 0 = true := hb
    have htr := turn_range (n := pickI x1 0) (m := 1) (by omega) (by omega)
    have ht0 : turnI (pickI x1 0) 1 = 0 := by omega
    have hwi : w64 ((0 : Int) + 1) = ((1 : Nat) : Int) := w64_succ (i := 0) (n := 3000) (by omega) (by omega)
    unfold f49_s0
    rw [decide_eq_true h0, hpk]
    have hw1 : w64 ((([] : List Int).length : Int) + 1) = 1 := w64_small (n := 1) (by omega) (by omega)
    have hw2 : w64 (((0 : Nat) : Int) + 1) = 1 := hw1
    simp only [hw1, hw2, ht0]
    rw [hm1, shufG]
    have hl := f49_loop x0 x1 hm hb (m + 1 + 1) m 1 [0] (by omega) rfl (by omega)
    have hg : ((([] : List Int) ++ (([] : List Int).take (turnI (pickI x1 ((0 : Nat) : Int)) ((([] : List Int).length : Int) + 1)).toNat)) ++ [((0 : Nat) : Int)]) ++ (([] : List Int).drop (turnI (pickI x1 ((0 : Nat) : Int)) ((([] : List Int).length : Int) + 1)).toNat) = [0] := by simp
    rw [hg]
    rcases hl with hl | ⟨z, g, o, hl⟩
    · exact ⟨_, hl, rfl⟩
    · exact ⟨_, hl, rfl⟩
  · have hz : x0.toNat = 0 := by omega
    unfold f49_s0
    rw [decide_eq_false h0, hz]
    exact ⟨_, rfl, rfl⟩

end Ev
end Go.Proofs.YtidnikjkpbmhhaaDoor
/- The contracts of spools, and of orders that numbers choose. -/
set_option linter.unusedVariables false
set_option maxRecDepth 4000
namespace Go.Proofs.YtidnikjkpbmhhaaDoor
namespace Ev

theorem k76 : Good 76 g76 := ⟨ctr_ofN (B := Bs) (X := X76) (ctxOK rfl rfl rfl rfl rfl rfl AllC.nil) Tryd.func76 (fun args r h => by
  unfold g76 at h
  split at h
  · rename_i a0 a1
    split at h
    · rename_i x0 x1 h0 h1
      simp only [Option.some.injEq, Prod.mk.injEq] at h
      obtain ⟨hp, rfl⟩ := h
      obtain ⟨N, r0, q1, q2⟩ := f76_sp x0 x1 hp
      refine ⟨N, r0, ?_, q2⟩
      simp only [wkL, wk_dec h0, wk_dec h1]
      exact (f76_ev x0 x1 N).trans q1
    · cases h
  · cases h), Tryd.f76, Tryd.func76, by kernel_rfl, by kernel_rfl⟩
theorem k87 : Good 87 g87 := ⟨ctr_ofN (B := Bs) (X := X87) (ctxOK rfl rfl rfl rfl rfl rfl (AllC.cons k76 AllC.nil)) Tryd.func87 (fun args r h => by
  unfold g87 at h
  split at h
  · rename_i a0 a1
    split at h
    · rename_i x0 x1 h0 h1
      simp only [Option.some.injEq, Prod.mk.injEq] at h
      obtain ⟨hp, rfl⟩ := h
      obtain ⟨N, r0, q1, q2⟩ := f87_sp x0 x1 hp
      refine ⟨N, r0, ?_, q2⟩
      simp only [wkL, wk_dec h0, wk_dec h1]
      exact (f87_ev x0 x1 N).trans q1
    · cases h
  · cases h), Tryd.f87, Tryd.func87, by kernel_rfl, by kernel_rfl⟩
theorem k63 : Good 63 g63 := ⟨ctr_ofN (B := Bs) (X := X63) (ctxOK rfl rfl rfl rfl rfl rfl (AllC.cons k68 (AllC.cons k87 AllC.nil))) Tryd.func63 (fun args r h => by
  unfold g63 at h
  split at h
  · rename_i a0 a1
    split at h
    · rename_i x0 x1 h0 h1
      simp only [Option.some.injEq, Prod.mk.injEq] at h
      obtain ⟨hp, rfl⟩ := h
      obtain ⟨N, r0, q1, q2⟩ := f63_sp x0 x1 hp
      refine ⟨N, r0, ?_, q2⟩
      simp only [wkL, wk_dec h0, wk_dec h1]
      exact (f63_ev x0 x1 N).trans q1
    · cases h
  · cases h), Tryd.f63, Tryd.func63, by kernel_rfl, by kernel_rfl⟩
theorem k84 : Good 84 g84 := ⟨ctr_ofN (B := Bs) (X := X84) (ctxOK rfl rfl rfl rfl rfl rfl (AllC.cons k62 (AllC.cons k63 (AllC.cons k68 (AllC.cons k96 AllC.nil))))) Tryd.func84 (fun args r h => by
  unfold g84 at h
  split at h
  · rename_i a0 a1 a2
    split at h
    · rename_i x0 x1 x2 h0 h1 h2
      simp only [Option.some.injEq, Prod.mk.injEq] at h
      obtain ⟨hp, rfl⟩ := h
      obtain ⟨N, r0, q1, q2⟩ := f84_sp x0 x1 x2 hp
      refine ⟨N, r0, ?_, q2⟩
      simp only [wkL, wk_dec h0, wk_dec h1, wk_dec h2]
      exact (f84_ev x0 x1 x2 N).trans q1
    · cases h
  · cases h), Tryd.f84, Tryd.func84, by kernel_rfl, by kernel_rfl⟩
theorem k38 : Good 38 g38 := ⟨ctr_ofN (B := Bs) (X := X38) (ctxOK rfl rfl rfl rfl rfl rfl (AllC.cons k84 AllC.nil)) Tryd.func38 (fun args r h => by
  unfold g38 at h
  split at h
  · rename_i a0 a1 a2
    split at h
    · rename_i x0 x1 x2 h0 h1 h2
      simp only [Option.some.injEq, Prod.mk.injEq] at h
      obtain ⟨hp, rfl⟩ := h
      obtain ⟨N, r0, q1, q2⟩ := f38_sp x0 x1 x2 hp
      refine ⟨N, r0, ?_, q2⟩
      simp only [wkL, wk_dec h0, wk_dec h1, wk_dec h2]
      exact (f38_ev x0 x1 x2 N).trans q1
    · cases h
  · cases h), Tryd.f38, Tryd.func38, by kernel_rfl, by kernel_rfl⟩
theorem k57 : Good 57 g57 := ⟨ctr_ofN (B := Bs) (X := X57) (ctxOK rfl rfl rfl rfl rfl rfl AllC.nil) Tryd.func57 (fun args r h => by
  unfold g57 at h
  split at h
  · rename_i a0
    split at h
    · rename_i x0 h0
      simp only [Option.some.injEq, Prod.mk.injEq] at h
      obtain ⟨hp, rfl⟩ := h
      obtain ⟨N, r0, q1, q2⟩ := f57_sp x0 hp
      refine ⟨N, r0, ?_, q2⟩
      simp only [wkL, wk_dec h0]
      exact (f57_ev x0 N).trans q1
    · cases h
  · cases h), Tryd.f57, Tryd.func57, by kernel_rfl, by kernel_rfl⟩
theorem k49 : Good 49 g49 := ⟨ctr_ofN (B := Bs) (X := X49) (ctxOK rfl rfl rfl rfl rfl rfl (AllC.cons k48 (AllC.cons k54 AllC.nil))) Tryd.func49 (fun args r h => by
  unfold g49 at h
  split at h
  · rename_i a0 a1
    split at h
    · rename_i x0 x1 h0 h1
      simp only [Option.some.injEq, Prod.mk.injEq] at h
      obtain ⟨hp, rfl⟩ := h
      obtain ⟨N, r0, q1, q2⟩ := f49_sp x0 x1 hp
      refine ⟨N, r0, ?_, q2⟩
      simp only [wkL, wk_dec h0, wk_dec h1]
      exact (f49_ev x0 x1 N).trans q1
    · cases h
  · cases h), Tryd.f49, Tryd.func49, by kernel_rfl, by kernel_rfl⟩

end Ev
end Go.Proofs.YtidnikjkpbmhhaaDoor
/- The law of the spools, as the evaluator walks it. -/
set_option linter.unusedVariables false
set_option maxRecDepth 4000
namespace Go.Proofs.YtidnikjkpbmhhaaDoor
namespace Ev

def splB (_ : Fi) (_ _ : List Int) : Bool := true
def splOK (x : Fi) (b _ : List Int) : Bool := chkOK x && lenOK b
noncomputable def g14 : List AV → Option (Bool × AV)
  | [a0, a1, a2] =>
    match dec tRF a0, dec tInts a1, dec (.arr 3 .int) a2 with
    | some x0, some x1, some x2 => some ((splOK x0 x1 x2), enc .bool (splB x0 x1 x2))
    | _, _, _ => none
  | _ => none
noncomputable def X14 : Ctx := { T := TT, G := GG, C := [(25, g25), (30, g30), (38, g38), (43, g43), (48, g48), (49, g49), (54, g54), (57, g57)], L := [(12, [0, 2, 4, 5, 6, 11, 19, 20, 21, 22, 23, 24, 25, 26, 27, 28, 29, 30, 31, 32, 33, 34, 35, 36, 37, 38, 39, 40, 41, 42, 43, 44, 45, 46, 47, 48, 49, 50, 51, 52, 53, 54, 55, 56, 57, 58, 59, 60, 61, 62, 63, 64, 65, 66, 67, 68, 69, 70, 71, 72, 73, 74, 75, 76, 77, 78, 79, 80, 81, 82, 83, 84, 85, 86, 87, 88, 89, 90, 91, 92, 93, 94, 95, 96, 97, 98, 99, 100, 101, 102, 103, 104, 105, 106, 107, 108, 109, 110, 111, 112, 113, 114, 115, 116, 117, 118, 119, 120, 121, 122, 123, 124, 125, 126, 127, 128, 129, 130, 131, 132, 133, 134, 135, 136, 137, 138, 139, 140, 141, 142, 143, 144, 145, 146, 147, 148, 149, 150, 151, 152, 153, 154, 155, 156, 157, 158, 159, 160, 161, 162, 163, 164, 165, 166, 167, 168, 169, 170, 171, 172, 173, 174, 175, 176, 177, 178, 179, 180, 181, 182, 183, 184, 185, 186, 187, 188, 189, 190, 191, 192, 193, 194, 195, 196, 197, 198, 199, 200, 201, 202, 203, 204, 205, 206, 207, 208, 209, 210, 211, 212, 213, 214, 215, 216, 217, 218, 219, 220, 221, 222, 223, 224, 225, 226, 227, 228, 229, 230, 231, 232, 233, 234, 235, 236, 237, 238, 239, 240, 241, 242, 243, 244, 245, 246, 247, 248, 249, 250, 251, 252, 253, 254], [1, 7, 9, 12, 14]), (25, [0, 2, 4, 5, 6, 8, 10, 11, 12, 13, 14, 15, 17, 18, 19, 20, 23, 24, 25, 26, 27, 28, 29, 30, 31, 32, 33, 34, 35, 36, 37, 38, 39, 40, 41, 42, 43, 44, 45, 46, 47, 48, 49, 50, 51, 52, 53, 54, 55, 56, 57, 58, 59, 60, 61, 62, 63, 64, 65, 66, 67, 68, 69, 70, 71, 72, 73, 74, 75, 76, 77, 78, 79, 80, 81, 82, 83, 84, 85, 86, 87, 88, 89, 90, 91, 92, 93, 94, 95, 96, 97, 98, 99, 100, 101, 102, 103, 104, 105, 106, 107, 108, 109, 110, 111, 112, 113, 114, 115, 116, 117, 118, 119, 120, 121, 122, 123, 124, 125, 126, 127, 128, 129, 130, 131, 132, 133, 134, 135, 136, 137, 138, 139, 140, 141, 142, 143, 144, 145, 146, 147, 148, 149, 150, 151, 152, 153, 154, 155, 156, 157, 158, 159, 160, 161, 162, 163, 164, 165, 166, 167, 168, 169, 170, 171, 172, 173, 174, 175, 176, 177, 178, 179, 180, 181, 182, 183, 184, 185, 186, 187, 188, 189, 190, 191, 192, 193, 194, 195, 196, 197, 198, 199, 200, 201, 202, 203, 204, 205, 206, 207, 208, 209, 210, 211, 212, 213, 214, 215, 216, 217, 218, 219, 220, 221, 222, 223, 224, 225, 226, 227, 228, 229, 230, 231, 232, 233, 234, 235, 236, 237, 238, 239, 240, 241, 242, 243, 244, 245, 246, 247, 248, 249, 250, 251, 252, 253, 254], [1, 7, 9]), (35, [0, 2, 4, 5, 6, 7, 8, 10, 11, 12, 13, 14, 15, 17, 18, 19, 20, 21, 22, 23, 27, 28, 29, 30, 31, 32, 33, 34, 35, 36, 37, 38, 39, 40, 41, 42, 43, 44, 45, 46, 47, 48, 49, 50, 51, 52, 53, 54, 55, 56, 57, 58, 59, 60, 61, 62, 63, 64, 65, 66, 67, 68, 69, 70, 71, 72, 73, 74, 75, 76, 77, 78, 79, 80, 81, 82, 83, 84, 85, 86, 87, 88, 89, 90, 91, 92, 93, 94, 95, 96, 97, 98, 99, 100, 101, 102, 103, 104, 105, 106, 107, 108, 109, 110, 111, 112, 113, 114, 115, 116, 117, 118, 119, 120, 121, 122, 123, 124, 125, 126, 127, 128, 129, 130, 131, 132, 133, 134, 135, 136, 137, 138, 139, 140, 141, 142, 143, 144, 145, 146, 147, 148, 149, 150, 151, 152, 153, 154, 155, 156, 157, 158, 159, 160, 161, 162, 163, 164, 165, 166, 167, 168, 169, 170, 171, 172, 173, 174, 175, 176, 177, 178, 179, 180, 181, 182, 183, 184, 185, 186, 187, 188, 189, 190, 191, 192, 193, 194, 195, 196, 197, 198, 199, 200, 201, 202, 203, 204, 205, 206, 207, 208, 209, 210, 211, 212, 213, 214, 215, 216, 217, 218, 219, 220, 221, 222, 223, 224, 225, 226, 227, 228, 229, 230, 231, 232, 233, 234, 235, 236, 237, 238, 239, 240, 241, 242, 243, 244, 245, 246, 247, 248, 249, 250, 251, 252, 253, 254], [1, 9])] }
noncomputable def f14_s0 (a0 : ((List ((Int × Int) × (Int × Int) × (Int × Int))) × (Int × Int) × (Int × Int) × Int)) (a1 : (List Int)) (a2 : (List Int)) (k1 : (List Int) → Bool → Int → Option (AV)) (k2 : Int → Int → Option (AV)) : Option (AV) :=
  bif (decide ((0 : Int) < ((shufI (a0.1.length : Int) a1).length : Int))) then
    bif decide (0 ≤ (0 : Int)) && decide ((0 : Int) < ((shufI (a0.1.length : Int) a1).length : Int)) then
      bif (chkOK3 a0 ((shufI (a0.1.length : Int) a1).getD 0 (0 : Int)) (turnI (a2.getD 0 (0 : Int)) (200 : Int))) then
        bif (!decide (((WornI a0 ((shufI (a0.1.length : Int) a1).getD 0 (0 : Int)) (turnI (a2.getD 0 (0 : Int)) (200 : Int))).2) = (0 : Int))) then
          some (.bool false)
        else
          bif (decide ((((WornI a0 ((shufI (a0.1.length : Int) a1).getD 0 (0 : Int)) (turnI (a2.getD 0 (0 : Int)) (200 : Int))).1).2) < (0 : Int))) then
            some (.bool false)
          else
            bif (decide ((1200 : Int) < (((WornI a0 ((shufI (a0.1.length : Int) a1).getD 0 (0 : Int)) (turnI (a2.getD 0 (0 : Int)) (200 : Int))).1).2))) then
              some (.bool false)
            else
              bif true && roomy ([] : List Int).length [((WornI a0 ((shufI (a0.1.length : Int) a1).getD 0 (0 : Int)) (turnI (a2.getD 0 (0 : Int)) (200 : Int))).1).2].length 8 then
                k1 (([] : List Int) ++ [((WornI a0 ((shufI (a0.1.length : Int) a1).getD 0 (0 : Int)) (turnI (a2.getD 0 (0 : Int)) (200 : Int))).1).2]) (decide (a0.2.2.2 < (((WornI a0 ((shufI (a0.1.length : Int) a1).getD 0 (0 : Int)) (turnI (a2.getD 0 (0 : Int)) (200 : Int))).1).2))) (w64 ((0 : Int) + (1 : Int)))
              else
                none
      else
        none
    else
      none
  else
    bif (!decide (((SpoolsI a0 (shufI (a0.1.length : Int) a1) (turnI (a2.getD 0 (0 : Int)) (200 : Int))).2) = (0 : Int))) then
      some (.bool false)
    else
      bif (!decide (((SpoolsI (a0.1, a0.2.1, a0.2.2.1, (if (w64 (a0.2.2.2 + (turnI (a2.getD 1 (0 : Int)) (900 : Int)))) < (6000 : Int) then (w64 (a0.2.2.2 + (turnI (a2.getD 1 (0 : Int)) (900 : Int)))) else (6000 : Int))) (shufI (a0.1.length : Int) a1) (turnI (a2.getD 0 (0 : Int)) (200 : Int))).2) = (0 : Int))) then
        some (.bool false)
      else
        bif (!decide (((SpoolsI a0 (shufI (a0.1.length : Int) a1) (w64 ((turnI (a2.getD 0 (0 : Int)) (200 : Int)) + (turnI (a2.getD 2 (0 : Int)) (60 : Int))))).2) = (0 : Int))) then
          some (.bool false)
        else
          bif (decide ((((SpoolsI a0 (shufI (a0.1.length : Int) a1) (turnI (a2.getD 0 (0 : Int)) (200 : Int))).1).length : Int) < (((SpoolsI (a0.1, a0.2.1, a0.2.2.1, (if (w64 (a0.2.2.2 + (turnI (a2.getD 1 (0 : Int)) (900 : Int)))) < (6000 : Int) then (w64 (a0.2.2.2 + (turnI (a2.getD 1 (0 : Int)) (900 : Int)))) else (6000 : Int))) (shufI (a0.1.length : Int) a1) (turnI (a2.getD 0 (0 : Int)) (200 : Int))).1).length : Int))) then
            some (.bool false)
          else
            bif (decide ((((SpoolsI a0 (shufI (a0.1.length : Int) a1) (turnI (a2.getD 0 (0 : Int)) (200 : Int))).1).length : Int) < (((SpoolsI a0 (shufI (a0.1.length : Int) a1) (w64 ((turnI (a2.getD 0 (0 : Int)) (200 : Int)) + (turnI (a2.getD 2 (0 : Int)) (60 : Int))))).1).length : Int))) then
              some (.bool false)
            else
              bif (lenOK ((SpoolsI a0 (shufI (a0.1.length : Int) a1) (turnI (a2.getD 0 (0 : Int)) (200 : Int))).1)) then
                bif (!decide ((sumI0 ((SpoolsI a0 (shufI (a0.1.length : Int) a1) (turnI (a2.getD 0 (0 : Int)) (200 : Int))).1)) = ((shufI (a0.1.length : Int) a1).length : Int))) then
                  some (.bool false)
                else
                  k2 (0 : Int) (0 : Int)
              else
                none

noncomputable def f14_s1 (a0 : ((List ((Int × Int) × (Int × Int) × (Int × Int))) × (Int × Int) × (Int × Int) × Int)) (a1 : (List Int)) (a2 : (List Int)) (k1 : (List Int) → Bool → Int → Option (AV)) (k3 : (List Int) → Int → Int → Option (AV)) (v1_0 : (List Int)) (v1_1 : Bool) (v1_2 : Int) : Option (AV) :=
  bif (decide (v1_2 < ((shufI (a0.1.length : Int) a1).length : Int))) then
    bif decide (0 ≤ v1_2) && decide (v1_2 < ((shufI (a0.1.length : Int) a1).length : Int)) then
      bif (chkOK3 a0 ((shufI (a0.1.length : Int) a1).getD v1_2.toNat (0 : Int)) (turnI (a2.getD 0 (0 : Int)) (200 : Int))) then
        bif (!decide (((WornI a0 ((shufI (a0.1.length : Int) a1).getD v1_2.toNat (0 : Int)) (turnI (a2.getD 0 (0 : Int)) (200 : Int))).2) = (0 : Int))) then
          some (.bool false)
        else
          bif (decide ((((WornI a0 ((shufI (a0.1.length : Int) a1).getD v1_2.toNat (0 : Int)) (turnI (a2.getD 0 (0 : Int)) (200 : Int))).1).2) < (0 : Int))) then
            some (.bool false)
          else
            bif (decide ((1200 : Int) < (((WornI a0 ((shufI (a0.1.length : Int) a1).getD v1_2.toNat (0 : Int)) (turnI (a2.getD 0 (0 : Int)) (200 : Int))).1).2))) then
              some (.bool false)
            else
              bif roomy v1_0.length [((WornI a0 ((shufI (a0.1.length : Int) a1).getD v1_2.toNat (0 : Int)) (turnI (a2.getD 0 (0 : Int)) (200 : Int))).1).2].length 8 then
                bif v1_1 then
                  k1 (v1_0 ++ [((WornI a0 ((shufI (a0.1.length : Int) a1).getD v1_2.toNat (0 : Int)) (turnI (a2.getD 0 (0 : Int)) (200 : Int))).1).2]) true (w64 (v1_2 + (1 : Int)))
                else
                  k1 (v1_0 ++ [((WornI a0 ((shufI (a0.1.length : Int) a1).getD v1_2.toNat (0 : Int)) (turnI (a2.getD 0 (0 : Int)) (200 : Int))).1).2]) (decide (a0.2.2.2 < (((WornI a0 ((shufI (a0.1.length : Int) a1).getD v1_2.toNat (0 : Int)) (turnI (a2.getD 0 (0 : Int)) (200 : Int))).1).2))) (w64 (v1_2 + (1 : Int)))
              else
                none
      else
        none
    else
      none
  else
    bif v1_1 then
      bif (decide (((SpoolsI a0 (shufI (a0.1.length : Int) a1) (turnI (a2.getD 0 (0 : Int)) (200 : Int))).2) = (4 : Int))) then
        bif (decide ((((SpoolsI a0 (shufI (a0.1.length : Int) a1) (turnI (a2.getD 0 (0 : Int)) (200 : Int))).1).length : Int) = (0 : Int))) then
          some (.bool turnedB)
        else
          some (.bool false)
      else
        some (.bool false)
    else
      bif (!decide (((SpoolsI a0 (shufI (a0.1.length : Int) a1) (turnI (a2.getD 0 (0 : Int)) (200 : Int))).2) = (0 : Int))) then
        some (.bool false)
      else
        bif (!decide (((SpoolsI (a0.1, a0.2.1, a0.2.2.1, (if (w64 (a0.2.2.2 + (turnI (a2.getD 1 (0 : Int)) (900 : Int)))) < (6000 : Int) then (w64 (a0.2.2.2 + (turnI (a2.getD 1 (0 : Int)) (900 : Int)))) else (6000 : Int))) (shufI (a0.1.length : Int) a1) (turnI (a2.getD 0 (0 : Int)) (200 : Int))).2) = (0 : Int))) then
          some (.bool false)
        else
          bif (!decide (((SpoolsI a0 (shufI (a0.1.length : Int) a1) (w64 ((turnI (a2.getD 0 (0 : Int)) (200 : Int)) + (turnI (a2.getD 2 (0 : Int)) (60 : Int))))).2) = (0 : Int))) then
            some (.bool false)
          else
            bif (decide ((((SpoolsI a0 (shufI (a0.1.length : Int) a1) (turnI (a2.getD 0 (0 : Int)) (200 : Int))).1).length : Int) < (((SpoolsI (a0.1, a0.2.1, a0.2.2.1, (if (w64 (a0.2.2.2 + (turnI (a2.getD 1 (0 : Int)) (900 : Int)))) < (6000 : Int) then (w64 (a0.2.2.2 + (turnI (a2.getD 1 (0 : Int)) (900 : Int)))) else (6000 : Int))) (shufI (a0.1.length : Int) a1) (turnI (a2.getD 0 (0 : Int)) (200 : Int))).1).length : Int))) then
              some (.bool false)
            else
              bif (decide ((((SpoolsI a0 (shufI (a0.1.length : Int) a1) (turnI (a2.getD 0 (0 : Int)) (200 : Int))).1).length : Int) < (((SpoolsI a0 (shufI (a0.1.length : Int) a1) (w64 ((turnI (a2.getD 0 (0 : Int)) (200 : Int)) + (turnI (a2.getD 2 (0 : Int)) (60 : Int))))).1).length : Int))) then
                some (.bool false)
              else
                bif (lenOK ((SpoolsI a0 (shufI (a0.1.length : Int) a1) (turnI (a2.getD 0 (0 : Int)) (200 : Int))).1)) then
                  bif (!decide ((sumI0 ((SpoolsI a0 (shufI (a0.1.length : Int) a1) (turnI (a2.getD 0 (0 : Int)) (200 : Int))).1)) = ((shufI (a0.1.length : Int) a1).length : Int))) then
                    some (.bool false)
                  else
                    k3 v1_0 (0 : Int) (0 : Int)
                else
                  none

noncomputable def f14_s2 (a0 : ((List ((Int × Int) × (Int × Int) × (Int × Int))) × (Int × Int) × (Int × Int) × Int)) (a1 : (List Int)) (a2 : (List Int)) (k2 : Int → Int → Option (AV)) (k4 : Int → Int → Int → Option (AV)) (v2_0 : Int) (v2_1 : Int) : Option (AV) :=
  bif (decide (v2_1 < (((SpoolsI a0 (shufI (a0.1.length : Int) a1) (turnI (a2.getD 0 (0 : Int)) (200 : Int))).1).length : Int))) then
    bif decide (0 ≤ v2_1) && decide (v2_1 < (((SpoolsI a0 (shufI (a0.1.length : Int) a1) (turnI (a2.getD 0 (0 : Int)) (200 : Int))).1).length : Int)) then
      bif (decide ((((SpoolsI a0 (shufI (a0.1.length : Int) a1) (turnI (a2.getD 0 (0 : Int)) (200 : Int))).1).getD v2_1.toNat (0 : Int)) < (1 : Int))) then
        some (.bool false)
      else
        bif decide (0 ≤ v2_1) && decide (v2_1 < (((SpoolsI a0 (shufI (a0.1.length : Int) a1) (turnI (a2.getD 0 (0 : Int)) (200 : Int))).1).length : Int)) then
          bif (decide ((w64 (((shufI (a0.1.length : Int) a1).length : Int) - v2_0)) < (((SpoolsI a0 (shufI (a0.1.length : Int) a1) (turnI (a2.getD 0 (0 : Int)) (200 : Int))).1).getD v2_1.toNat (0 : Int)))) then
            some (.bool false)
          else
            bif decide (0 ≤ v2_1) && decide (v2_1 < (((SpoolsI a0 (shufI (a0.1.length : Int) a1) (turnI (a2.getD 0 (0 : Int)) (200 : Int))).1).length : Int)) then
              bif decide (0 ≤ v2_0) && (decide (v2_0 ≤ (w64 (v2_0 + (((SpoolsI a0 (shufI (a0.1.length : Int) a1) (turnI (a2.getD 0 (0 : Int)) (200 : Int))).1).getD v2_1.toNat (0 : Int))))) && decide ((w64 (v2_0 + (((SpoolsI a0 (shufI (a0.1.length : Int) a1) (turnI (a2.getD 0 (0 : Int)) (200 : Int))).1).getD v2_1.toNat (0 : Int)))) ≤ (([] : List Int).length : Int))) then
                bif (lenOK ((([] : List Int).take (w64 (v2_0 + (((SpoolsI a0 (shufI (a0.1.length : Int) a1) (turnI (a2.getD 0 (0 : Int)) (200 : Int))).1).getD v2_1.toNat (0 : Int)))).toNat).drop v2_0.toNat)) then
                  bif decide (0 ≤ v2_1) && decide (v2_1 < (((SpoolsI a0 (shufI (a0.1.length : Int) a1) (turnI (a2.getD 0 (0 : Int)) (200 : Int))).1).length : Int)) then
                    bif (decide (a0.2.2.2 < (sumI0 ((([] : List Int).take (w64 (v2_0 + (((SpoolsI a0 (shufI (a0.1.length : Int) a1) (turnI (a2.getD 0 (0 : Int)) (200 : Int))).1).getD v2_1.toNat (0 : Int)))).toNat).drop v2_0.toNat)))) then
                      some (.bool false)
                    else
                      bif (decide ((w64 (v2_0 + (((SpoolsI a0 (shufI (a0.1.length : Int) a1) (turnI (a2.getD 0 (0 : Int)) (200 : Int))).1).getD v2_1.toNat (0 : Int)))) < (([] : List Int).length : Int))) then
                        bif decide (0 ≤ (w64 (v2_0 + (((SpoolsI a0 (shufI (a0.1.length : Int) a1) (turnI (a2.getD 0 (0 : Int)) (200 : Int))).1).getD v2_1.toNat (0 : Int))))) && decide ((w64 (v2_0 + (((SpoolsI a0 (shufI (a0.1.length : Int) a1) (turnI (a2.getD 0 (0 : Int)) (200 : Int))).1).getD v2_1.toNat (0 : Int)))) < (([] : List Int).length : Int)) then
                          bif (decide ((w64 ((sumI0 ((([] : List Int).take (w64 (v2_0 + (((SpoolsI a0 (shufI (a0.1.length : Int) a1) (turnI (a2.getD 0 (0 : Int)) (200 : Int))).1).getD v2_1.toNat (0 : Int)))).toNat).drop v2_0.toNat)) + (([] : List Int).getD (w64 (v2_0 + (((SpoolsI a0 (shufI (a0.1.length : Int) a1) (turnI (a2.getD 0 (0 : Int)) (200 : Int))).1).getD v2_1.toNat (0 : Int)))).toNat (0 : Int)))) ≤ a0.2.2.2)) then
                            some (.bool false)
                          else
                            k2 (w64 (v2_0 + (((SpoolsI a0 (shufI (a0.1.length : Int) a1) (turnI (a2.getD 0 (0 : Int)) (200 : Int))).1).getD v2_1.toNat (0 : Int)))) (w64 (v2_1 + (1 : Int)))
                        else
                          none
                      else
                        k2 (w64 (v2_0 + (((SpoolsI a0 (shufI (a0.1.length : Int) a1) (turnI (a2.getD 0 (0 : Int)) (200 : Int))).1).getD v2_1.toNat (0 : Int)))) (w64 (v2_1 + (1 : Int)))
                  else
                    none
                else
                  none
              else
                none
            else
              none
        else
          none
    else
      none
  else
    k4 (0 : Int) (0 : Int) (0 : Int)

noncomputable def f14_s3 (a0 : ((List ((Int × Int) × (Int × Int) × (Int × Int))) × (Int × Int) × (Int × Int) × Int)) (a1 : (List Int)) (a2 : (List Int)) (k3 : (List Int) → Int → Int → Option (AV)) (k5 : (List Int) → Int → Int → Int → Option (AV)) (v3_0 : (List Int)) (v3_1 : Int) (v3_2 : Int) : Option (AV) :=
  bif (decide (v3_2 < (((SpoolsI a0 (shufI (a0.1.length : Int) a1) (turnI (a2.getD 0 (0 : Int)) (200 : Int))).1).length : Int))) then
    bif decide (0 ≤ v3_2) && decide (v3_2 < (((SpoolsI a0 (shufI (a0.1.length : Int) a1) (turnI (a2.getD 0 (0 : Int)) (200 : Int))).1).length : Int)) then
      bif (decide ((((SpoolsI a0 (shufI (a0.1.length : Int) a1) (turnI (a2.getD 0 (0 : Int)) (200 : Int))).1).getD v3_2.toNat (0 : Int)) < (1 : Int))) then
        some (.bool false)
      else
        bif decide (0 ≤ v3_2) && decide (v3_2 < (((SpoolsI a0 (shufI (a0.1.length : Int) a1) (turnI (a2.getD 0 (0 : Int)) (200 : Int))).1).length : Int)) then
          bif (decide ((w64 (((shufI (a0.1.length : Int) a1).length : Int) - v3_1)) < (((SpoolsI a0 (shufI (a0.1.length : Int) a1) (turnI (a2.getD 0 (0 : Int)) (200 : Int))).1).getD v3_2.toNat (0 : Int)))) then
            some (.bool false)
          else
            bif decide (0 ≤ v3_2) && decide (v3_2 < (((SpoolsI a0 (shufI (a0.1.length : Int) a1) (turnI (a2.getD 0 (0 : Int)) (200 : Int))).1).length : Int)) then
              bif decide (0 ≤ v3_1) && (decide (v3_1 ≤ (w64 (v3_1 + (((SpoolsI a0 (shufI (a0.1.length : Int) a1) (turnI (a2.getD 0 (0 : Int)) (200 : Int))).1).getD v3_2.toNat (0 : Int))))) && decide ((w64 (v3_1 + (((SpoolsI a0 (shufI (a0.1.length : Int) a1) (turnI (a2.getD 0 (0 : Int)) (200 : Int))).1).getD v3_2.toNat (0 : Int)))) ≤ (v3_0.length : Int))) then
                bif (lenOK ((v3_0.take (w64 (v3_1 + (((SpoolsI a0 (shufI (a0.1.length : Int) a1) (turnI (a2.getD 0 (0 : Int)) (200 : Int))).1).getD v3_2.toNat (0 : Int)))).toNat).drop v3_1.toNat)) then
                  bif decide (0 ≤ v3_2) && decide (v3_2 < (((SpoolsI a0 (shufI (a0.1.length : Int) a1) (turnI (a2.getD 0 (0 : Int)) (200 : Int))).1).length : Int)) then
                    bif (decide (a0.2.2.2 < (sumI0 ((v3_0.take (w64 (v3_1 + (((SpoolsI a0 (shufI (a0.1.length : Int) a1) (turnI (a2.getD 0 (0 : Int)) (200 : Int))).1).getD v3_2.toNat (0 : Int)))).toNat).drop v3_1.toNat)))) then
                      some (.bool false)
                    else
                      bif (decide ((w64 (v3_1 + (((SpoolsI a0 (shufI (a0.1.length : Int) a1) (turnI (a2.getD 0 (0 : Int)) (200 : Int))).1).getD v3_2.toNat (0 : Int)))) < (v3_0.length : Int))) then
                        bif decide (0 ≤ (w64 (v3_1 + (((SpoolsI a0 (shufI (a0.1.length : Int) a1) (turnI (a2.getD 0 (0 : Int)) (200 : Int))).1).getD v3_2.toNat (0 : Int))))) && decide ((w64 (v3_1 + (((SpoolsI a0 (shufI (a0.1.length : Int) a1) (turnI (a2.getD 0 (0 : Int)) (200 : Int))).1).getD v3_2.toNat (0 : Int)))) < (v3_0.length : Int)) then
                          bif (decide ((w64 ((sumI0 ((v3_0.take (w64 (v3_1 + (((SpoolsI a0 (shufI (a0.1.length : Int) a1) (turnI (a2.getD 0 (0 : Int)) (200 : Int))).1).getD v3_2.toNat (0 : Int)))).toNat).drop v3_1.toNat)) + (v3_0.getD (w64 (v3_1 + (((SpoolsI a0 (shufI (a0.1.length : Int) a1) (turnI (a2.getD 0 (0 : Int)) (200 : Int))).1).getD v3_2.toNat (0 : Int)))).toNat (0 : Int)))) ≤ a0.2.2.2)) then
                            some (.bool false)
                          else
                            k3 v3_0 (w64 (v3_1 + (((SpoolsI a0 (shufI (a0.1.length : Int) a1) (turnI (a2.getD 0 (0 : Int)) (200 : Int))).1).getD v3_2.toNat (0 : Int)))) (w64 (v3_2 + (1 : Int)))
                        else
                          none
                      else
                        k3 v3_0 (w64 (v3_1 + (((SpoolsI a0 (shufI (a0.1.length : Int) a1) (turnI (a2.getD 0 (0 : Int)) (200 : Int))).1).getD v3_2.toNat (0 : Int)))) (w64 (v3_2 + (1 : Int)))
                  else
                    none
                else
                  none
              else
                none
            else
              none
        else
          none
    else
      none
  else
    k5 v3_0 (0 : Int) (0 : Int) (0 : Int)

noncomputable def f14_s4 (a0 : ((List ((Int × Int) × (Int × Int) × (Int × Int))) × (Int × Int) × (Int × Int) × Int)) (a1 : (List Int)) (a2 : (List Int)) (k4 : Int → Int → Int → Option (AV)) (v4_0 : Int) (v4_1 : Int) (v4_2 : Int) : Option (AV) :=
  bif (decide (v4_2 < (([] : List Int).length : Int))) then
    bif (decide (v4_0 = (0 : Int))) then
      bif decide (0 ≤ v4_2) && decide (v4_2 < (([] : List Int).length : Int)) then
        k4 (w64 (v4_0 + (1 : Int))) (w64 (a0.2.2.2 - (([] : List Int).getD v4_2.toNat (0 : Int)))) (w64 (v4_2 + (1 : Int)))
      else
        none
    else
      bif decide (0 ≤ v4_2) && decide (v4_2 < (([] : List Int).length : Int)) then
        bif (decide (v4_1 < (([] : List Int).getD v4_2.toNat (0 : Int)))) then
          bif decide (0 ≤ v4_2) && decide (v4_2 < (([] : List Int).length : Int)) then
            k4 (w64 (v4_0 + (1 : Int))) (w64 (a0.2.2.2 - (([] : List Int).getD v4_2.toNat (0 : Int)))) (w64 (v4_2 + (1 : Int)))
          else
            none
        else
          bif (pickOK2 a1 v4_2) then
            bif (decide ((turnI (pickI a1 v4_2) (3 : Int)) = (0 : Int))) then
              bif decide (0 ≤ v4_2) && decide (v4_2 < (([] : List Int).length : Int)) then
                k4 (w64 (v4_0 + (1 : Int))) (w64 (a0.2.2.2 - (([] : List Int).getD v4_2.toNat (0 : Int)))) (w64 (v4_2 + (1 : Int)))
              else
                none
            else
              bif decide (0 ≤ v4_2) && decide (v4_2 < (([] : List Int).length : Int)) then
                k4 v4_0 (w64 (v4_1 - (([] : List Int).getD v4_2.toNat (0 : Int)))) (w64 (v4_2 + (1 : Int)))
              else
                none
          else
            none
      else
        none
  else
    bif (decide ((((SpoolsI a0 (shufI (a0.1.length : Int) a1) (turnI (a2.getD 0 (0 : Int)) (200 : Int))).1).length : Int) ≤ v4_0)) then
      some (.bool turnedB)
    else
      some (.bool false)

noncomputable def f14_s5 (a0 : ((List ((Int × Int) × (Int × Int) × (Int × Int))) × (Int × Int) × (Int × Int) × Int)) (a1 : (List Int)) (a2 : (List Int)) (k5 : (List Int) → Int → Int → Int → Option (AV)) (v5_0 : (List Int)) (v5_1 : Int) (v5_2 : Int) (v5_3 : Int) : Option (AV) :=
  bif (decide (v5_3 < (v5_0.length : Int))) then
    bif (decide (v5_1 = (0 : Int))) then
      bif decide (0 ≤ v5_3) && decide (v5_3 < (v5_0.length : Int)) then
        k5 v5_0 (w64 (v5_1 + (1 : Int))) (w64 (a0.2.2.2 - (v5_0.getD v5_3.toNat (0 : Int)))) (w64 (v5_3 + (1 : Int)))
      else
        none
    else
      bif decide (0 ≤ v5_3) && decide (v5_3 < (v5_0.length : Int)) then
        bif (decide (v5_2 < (v5_0.getD v5_3.toNat (0 : Int)))) then
          bif decide (0 ≤ v5_3) && decide (v5_3 < (v5_0.length : Int)) then
            k5 v5_0 (w64 (v5_1 + (1 : Int))) (w64 (a0.2.2.2 - (v5_0.getD v5_3.toNat (0 : Int)))) (w64 (v5_3 + (1 : Int)))
          else
            none
        else
          bif (pickOK2 a1 v5_3) then
            bif (decide ((turnI (pickI a1 v5_3) (3 : Int)) = (0 : Int))) then
              bif decide (0 ≤ v5_3) && decide (v5_3 < (v5_0.length : Int)) then
                k5 v5_0 (w64 (v5_1 + (1 : Int))) (w64 (a0.2.2.2 - (v5_0.getD v5_3.toNat (0 : Int)))) (w64 (v5_3 + (1 : Int)))
              else
                none
            else
              bif decide (0 ≤ v5_3) && decide (v5_3 < (v5_0.length : Int)) then
                k5 v5_0 v5_1 (w64 (v5_2 - (v5_0.getD v5_3.toNat (0 : Int)))) (w64 (v5_3 + (1 : Int)))
              else
                none
          else
            none
      else
        none
  else
    bif (decide ((((SpoolsI a0 (shufI (a0.1.length : Int) a1) (turnI (a2.getD 0 (0 : Int)) (200 : Int))).1).length : Int) ≤ v5_1)) then
      some (.bool turnedB)
    else
      some (.bool false)

noncomputable def f14_s (a0 : ((List ((Int × Int) × (Int × Int) × (Int × Int))) × (Int × Int) × (Int × Int) × Int)) (a1 : (List Int)) (a2 : (List Int)) (k0 : Option (AV)) : Option (AV) :=
  bif (chkOK a0) then
    bif (!(soundB a0)) then
      some (.bool turnedB)
    else
      bif (shufOK (a0.1.length : Int) a1) then
        bif decide (0 ≤ (0 : Int)) && decide ((0 : Int) < 3) then
          bif (joinOK a0 (shufI (a0.1.length : Int) a1) (turnI (a2.getD 0 (0 : Int)) (200 : Int))) then
            bif decide (0 ≤ (1 : Int)) && decide ((1 : Int) < 3) then
              bif (joinOK (a0.1, a0.2.1, a0.2.2.1, (if (w64 (a0.2.2.2 + (turnI (a2.getD 1 (0 : Int)) (900 : Int)))) < (6000 : Int) then (w64 (a0.2.2.2 + (turnI (a2.getD 1 (0 : Int)) (900 : Int)))) else (6000 : Int))) (shufI (a0.1.length : Int) a1) (turnI (a2.getD 0 (0 : Int)) (200 : Int))) then
                bif decide (0 ≤ (2 : Int)) && decide ((2 : Int) < 3) then
                  bif (joinOK a0 (shufI (a0.1.length : Int) a1) (w64 ((turnI (a2.getD 0 (0 : Int)) (200 : Int)) + (turnI (a2.getD 2 (0 : Int)) (60 : Int))))) then
                    k0
                  else
                    none
                else
                  none
              else
                none
            else
              none
          else
            none
        else
          none
      else
        none
  else
    none

noncomputable def f14_R0 (a0 : ((List ((Int × Int) × (Int × Int) × (Int × Int))) × (Int × Int) × (Int × Int) × Int)) (a1 : (List Int)) (a2 : (List Int)) (N : Nat) (n : Nat) : Option (AV) :=
  loopN (evC X14 N (sub [(1, 0), (1, 0), (1, 0), (1, 0), (1, 0), (1, 0), (1, 0), (1, 0), (1, 0), (1, 0), (0, 0), (1, 0), (0, 0), (0, 0)] (bodyOf Tryd.f14))) (keepOf X14.L (sub [(1, 0), (1, 0), (1, 0), (1, 0), (1, 0), (1, 0), (1, 0), (1, 0), (1, 0), (1, 0), (0, 0), (1, 0), (0, 0), (0, 0)] (bodyOf Tryd.f14))) n ⟨[.poison, .sl .int ⟨false, false, none⟩ a1, .poison, .ref 3 [], .poison, .poison, .poison, .sl .int ⟨false, false, none⟩ (shufI (a0.1.length : Int) a1), .int (turnI (a2.getD 0 (0 : Int)) (200 : Int)), .sl .int ⟨false, false, none⟩ ((SpoolsI a0 (shufI (a0.1.length : Int) a1) (turnI (a2.getD 0 (0 : Int)) (200 : Int))).1), .int ((SpoolsI a0 (shufI (a0.1.length : Int) a1) (turnI (a2.getD 0 (0 : Int)) (200 : Int))).2), .poison, .sl .int ⟨false, false, none⟩ ((SpoolsI (a0.1, a0.2.1, a0.2.2.1, (if (w64 (a0.2.2.2 + (turnI (a2.getD 1 (0 : Int)) (900 : Int)))) < (6000 : Int) then (w64 (a0.2.2.2 + (turnI (a2.getD 1 (0 : Int)) (900 : Int)))) else (6000 : Int))) (shufI (a0.1.length : Int) a1) (turnI (a2.getD 0 (0 : Int)) (200 : Int))).1), .int ((SpoolsI (a0.1, a0.2.1, a0.2.2.1, (if (w64 (a0.2.2.2 + (turnI (a2.getD 1 (0 : Int)) (900 : Int)))) < (6000 : Int) then (w64 (a0.2.2.2 + (turnI (a2.getD 1 (0 : Int)) (900 : Int)))) else (6000 : Int))) (shufI (a0.1.length : Int) a1) (turnI (a2.getD 0 (0 : Int)) (200 : Int))).2), .sl .int ⟨false, false, none⟩ ((SpoolsI a0 (shufI (a0.1.length : Int) a1) (w64 ((turnI (a2.getD 0 (0 : Int)) (200 : Int)) + (turnI (a2.getD 2 (0 : Int)) (60 : Int))))).1), .int ((SpoolsI a0 (shufI (a0.1.length : Int) a1) (w64 ((turnI (a2.getD 0 (0 : Int)) (200 : Int)) + (turnI (a2.getD 2 (0 : Int)) (60 : Int))))).2), .sl .int ⟨true, true, none⟩ ([] : List Int), .bool false, .int (0 : Int), .poison, .poison, .poison, .poison, .poison, .poison, .poison, .poison, .poison, .poison, .poison, .poison, .poison, .poison, .poison, .poison, .poison, .poison, .poison, .poison, .poison, .poison, .poison, .poison, .poison, .poison, .poison, .poison, .poison, .poison, .poison, .poison, .poison, .poison, .poison, .poison, .poison, .poison, .poison, .poison, .poison, .poison, .poison, .poison, .poison, .poison, .poison, .poison, .poison, .poison, .poison, .poison, .poison, .poison, .poison, .poison, .poison, .poison, .poison, .poison, .poison, .poison, .poison, .poison, .poison, .poison, .poison, .poison, .poison, .poison, .poison, .poison, .poison, .poison, .poison, .poison, .poison, .poison, .poison, .poison, .poison, .poison, .poison, .poison, .poison, .poison, .poison, .poison, .poison, .poison, .poison, .poison, .poison, .poison, .poison, .poison, .poison, .poison, .poison, .poison, .poison, .poison, .poison, .poison, .poison, .poison, .poison, .poison, .poison, .poison, .poison, .poison, .poison, .poison, .poison, .poison, .poison, .poison, .poison, .poison, .poison, .poison, .poison, .poison, .poison, .poison, .poison, .poison, .poison, .poison, .poison, .poison, .poison, .poison, .poison, .poison, .poison, .poison, .poison, .poison, .poison, .poison, .poison, .poison, .poison, .poison, .poison, .poison, .poison, .poison, .poison, .poison, .poison, .poison, .poison, .poison, .poison, .poison, .poison, .poison, .poison, .poison, .poison, .poison, .poison, .poison, .poison, .poison, .poison, .poison, .poison, .poison, .poison, .poison, .poison, .poison, .poison, .poison, .poison, .poison, .poison, .poison, .poison, .poison, .poison, .poison, .poison, .poison, .poison, .poison, .poison, .poison, .poison, .poison, .poison, .poison, .poison, .poison, .poison, .poison, .poison, .poison, .poison, .poison, .poison, .poison, .poison, .poison, .poison, .poison, .poison, .poison, .poison, .poison, .poison, .poison, .poison, .poison, .poison, .poison, .poison, .poison, .poison, .poison, .poison, .poison, .poison, .poison, .poison, .poison, .poison, .poison, .poison, .poison, .poison, .poison], [.none, .none, .none, .box (enc tRF a0), .none, .none, .none, .none, .none, .none, .none, .none, .none, .none, .none, .none, .none, .none, .none, .none, .none, .none, .none, .none, .none, .none, .none, .none, .none, .none, .none, .none, .none, .none, .none, .none, .none, .none, .none, .none, .none, .none, .none, .none, .none, .none, .none, .none, .none, .none, .none, .none, .none, .none, .none, .none, .none, .none, .none, .none, .none, .none, .none, .none, .none, .none, .none, .none, .none, .none, .none, .none, .none, .none, .none, .none, .none, .none, .none, .none, .none, .none, .none, .none, .none, .none, .none, .none, .none, .none, .none, .none, .none, .none, .none, .none, .none, .none, .none, .none, .none, .none, .none, .none, .none, .none, .none, .none, .none, .none, .none, .none, .none, .none, .none, .none, .none, .none, .none, .none, .none, .none, .none, .none, .none, .none, .none, .none, .none, .none, .none, .none, .none, .none, .none, .none, .none, .none, .none, .none, .none, .none, .none, .none, .none, .none, .none, .none, .none, .none, .none, .none, .none, .none, .none, .none, .none, .none, .none, .none, .none, .none, .none, .none, .none, .none, .none, .none, .none, .none, .none, .none, .none, .none, .none, .none, .none, .none, .none, .none, .none, .none, .none, .none, .none, .none, .none, .none, .none, .none, .none, .none, .none, .none, .none, .none, .none, .none, .none, .none, .none, .none, .none, .none, .none, .none, .none, .none, .none, .none, .none, .none, .none, .none, .none, .none, .none, .none, .none, .none, .none, .none, .none, .none, .none, .none, .none, .none, .none, .none, .none, .none, .none, .none, .none, .none, .none, .none, .none, .none, .none, .none, .none, .none, .none, .none, .none, .none, .none, .none, .none, .none, .none, .none, .none]⟩ (ctxK X14 N [(1, 0), (1, 0), (1, 0), (1, 0), (1, 0), (1, 0), (1, 0), (1, 0), (1, 0), (1, 0), (0, 0), (1, 0), (0, 0)] (bodyOf Tryd.f14) (finK X14 Tryd.f14))

noncomputable def f14_R1 (a0 : ((List ((Int × Int) × (Int × Int) × (Int × Int))) × (Int × Int) × (Int × Int) × Int)) (a1 : (List Int)) (a2 : (List Int)) (N : Nat) (n : Nat) (v1_0 : (List Int)) (v1_1 : Bool) (v1_2 : Int) : Option (AV) :=
  loopN (evC X14 N (sub [(1, 0), (1, 0), (1, 0), (1, 0), (1, 0), (1, 0), (1, 0), (1, 0), (1, 0), (1, 0), (0, 0), (1, 0), (0, 0), (0, 0)] (bodyOf Tryd.f14))) (keepOf X14.L (sub [(1, 0), (1, 0), (1, 0), (1, 0), (1, 0), (1, 0), (1, 0), (1, 0), (1, 0), (1, 0), (0, 0), (1, 0), (0, 0), (0, 0)] (bodyOf Tryd.f14))) n ⟨[.poison, .sl .int ⟨false, false, none⟩ a1, .poison, .ref 3 [], .poison, .poison, .poison, .sl .int ⟨false, false, none⟩ (shufI (a0.1.length : Int) a1), .int (turnI (a2.getD 0 (0 : Int)) (200 : Int)), .sl .int ⟨false, false, none⟩ ((SpoolsI a0 (shufI (a0.1.length : Int) a1) (turnI (a2.getD 0 (0 : Int)) (200 : Int))).1), .int ((SpoolsI a0 (shufI (a0.1.length : Int) a1) (turnI (a2.getD 0 (0 : Int)) (200 : Int))).2), .poison, .sl .int ⟨false, false, none⟩ ((SpoolsI (a0.1, a0.2.1, a0.2.2.1, (if (w64 (a0.2.2.2 + (turnI (a2.getD 1 (0 : Int)) (900 : Int)))) < (6000 : Int) then (w64 (a0.2.2.2 + (turnI (a2.getD 1 (0 : Int)) (900 : Int)))) else (6000 : Int))) (shufI (a0.1.length : Int) a1) (turnI (a2.getD 0 (0 : Int)) (200 : Int))).1), .int ((SpoolsI (a0.1, a0.2.1, a0.2.2.1, (if (w64 (a0.2.2.2 + (turnI (a2.getD 1 (0 : Int)) (900 : Int)))) < (6000 : Int) then (w64 (a0.2.2.2 + (turnI (a2.getD 1 (0 : Int)) (900 : Int)))) else (6000 : Int))) (shufI (a0.1.length : Int) a1) (turnI (a2.getD 0 (0 : Int)) (200 : Int))).2), .sl .int ⟨false, false, none⟩ ((SpoolsI a0 (shufI (a0.1.length : Int) a1) (w64 ((turnI (a2.getD 0 (0 : Int)) (200 : Int)) + (turnI (a2.getD 2 (0 : Int)) (60 : Int))))).1), .int ((SpoolsI a0 (shufI (a0.1.length : Int) a1) (w64 ((turnI (a2.getD 0 (0 : Int)) (200 : Int)) + (turnI (a2.getD 2 (0 : Int)) (60 : Int))))).2), .sl .int ⟨true, false, (some (105, 0))⟩ v1_0, .bool v1_1, .int v1_2, .poison, .poison, .poison, .poison, .poison, .poison, .poison, .poison, .poison, .poison, .poison, .poison, .poison, .poison, .poison, .poison, .poison, .poison, .poison, .poison, .poison, .poison, .poison, .poison, .poison, .poison, .poison, .poison, .poison, .poison, .poison, .poison, .poison, .poison, .poison, .poison, .poison, .poison, .poison, .poison, .poison, .poison, .poison, .poison, .poison, .poison, .poison, .poison, .poison, .poison, .poison, .poison, .poison, .poison, .poison, .poison, .poison, .poison, .poison, .poison, .poison, .poison, .poison, .poison, .poison, .poison, .poison, .poison, .poison, .poison, .poison, .poison, .poison, .poison, .poison, .poison, .poison, .poison, .poison, .poison, .poison, .poison, .poison, .poison, .poison, .poison, .poison, .poison, .poison, .poison, .poison, .poison, .poison, .poison, .poison, .poison, .poison, .poison, .poison, .poison, .poison, .poison, .poison, .poison, .poison, .poison, .poison, .poison, .poison, .poison, .poison, .poison, .poison, .poison, .poison, .poison, .poison, .poison, .poison, .poison, .poison, .poison, .poison, .poison, .poison, .poison, .poison, .poison, .poison, .poison, .poison, .poison, .poison, .poison, .poison, .poison, .poison, .poison, .poison, .poison, .poison, .poison, .poison, .poison, .poison, .poison, .poison, .poison, .poison, .poison, .poison, .poison, .poison, .poison, .poison, .poison, .poison, .poison, .poison, .poison, .poison, .poison, .poison, .poison, .poison, .poison, .poison, .poison, .poison, .poison, .poison, .poison, .poison, .poison, .poison, .poison, .poison, .poison, .poison, .poison, .poison, .poison, .poison, .poison, .poison, .poison, .poison, .poison, .poison, .poison, .poison, .poison, .poison, .poison, .poison, .poison, .poison, .poison, .poison, .poison, .poison, .poison, .poison, .poison, .poison, .poison, .poison, .poison, .poison, .poison, .poison, .poison, .poison, .poison, .poison, .poison, .poison, .poison, .poison, .poison, .poison, .poison, .poison, .poison, .poison, .poison, .poison, .poison, .poison, .poison, .poison, .poison, .poison, .poison, .poison, .poison], [.none, .none, .none, .box (enc tRF a0), .none, .none, .none, .none, .none, .none, .none, .none, .none, .none, .none, .none, .none, .none, .none, .none, .none, .none, .none, .none, .none, .none, .none, .none, .none, .none, .none, .none, .none, .none, .none, .none, .none, .none, .none, .none, .none, .none, .none, .none, .none, .none, .none, .none, .none, .none, .none, .none, .none, .none, .none, .none, .none, .none, .none, .none, .none, .none, .none, .none, .none, .none, .none, .none, .none, .none, .none, .none, .none, .none, .none, .none, .none, .none, .none, .none, .none, .none, .none, .none, .none, .none, .none, .none, .none, .none, .none, .none, .none, .none, .none, .none, .none, .none, .none, .none, .none, .none, .none, .none, .none, .lin 0 true, .none, .none, .none, .none, .none, .none, .none, .none, .none, .none, .none, .none, .none, .none, .none, .none, .none, .none, .none, .none, .none, .none, .none, .none, .none, .none, .none, .none, .none, .none, .none, .none, .none, .none, .none, .none, .none, .none, .none, .none, .none, .none, .none, .none, .none, .none, .none, .none, .none, .none, .none, .none, .none, .none, .none, .none, .none, .none, .none, .none, .none, .none, .none, .none, .none, .none, .none, .none, .none, .none, .none, .none, .none, .none, .none, .none, .none, .none, .none, .none, .none, .none, .none, .none, .none, .none, .none, .none, .none, .none, .none, .none, .none, .none, .none, .none, .none, .none, .none, .none, .none, .none, .none, .none, .none, .none, .none, .none, .none, .none, .none, .none, .none, .none, .none, .none, .none, .none, .none, .none, .none, .none, .none, .none, .none, .none, .none, .none, .none, .none, .none, .none, .none, .none, .none, .none, .none, .none, .none, .none, .none, .none, .none, .none, .none, .none, .none, .none, .none]⟩ (ctxK X14 N [(1, 0), (1, 0), (1, 0), (1, 0), (1, 0), (1, 0), (1, 0), (1, 0), (1, 0), (1, 0), (0, 0), (1, 0), (0, 0)] (bodyOf Tryd.f14) (finK X14 Tryd.f14))

noncomputable def f14_R2 (a0 : ((List ((Int × Int) × (Int × Int) × (Int × Int))) × (Int × Int) × (Int × Int) × Int)) (a1 : (List Int)) (a2 : (List Int)) (N : Nat) (n : Nat) (v2_0 : Int) (v2_1 : Int) : Option (AV) :=
  loopN (evC X14 N (sub [(1, 0), (1, 0), (1, 0), (1, 0), (1, 0), (1, 0), (1, 0), (1, 0), (1, 0), (1, 0), (1, 0), (1, 0), (1, 0), (1, 0), (0, 0), (1, 0), (0, 0), (0, 0)] (bodyOf Tryd.f14))) (keepOf X14.L (sub [(1, 0), (1, 0), (1, 0), (1, 0), (1, 0), (1, 0), (1, 0), (1, 0), (1, 0), (1, 0), (1, 0), (1, 0), (1, 0), (1, 0), (0, 0), (1, 0), (0, 0), (0, 0)] (bodyOf Tryd.f14))) n ⟨[.poison, .sl .int ⟨false, false, none⟩ a1, .poison, .ref 3 [], .poison, .poison, .poison, .sl .int ⟨false, false, none⟩ (shufI (a0.1.length : Int) a1), .poison, .sl .int ⟨false, false, none⟩ ((SpoolsI a0 (shufI (a0.1.length : Int) a1) (turnI (a2.getD 0 (0 : Int)) (200 : Int))).1), .poison, .poison, .poison, .poison, .poison, .poison, .sl .int ⟨true, true, none⟩ ([] : List Int), .poison, .poison, .poison, .poison, .int v2_0, .int v2_1, .poison, .poison, .poison, .poison, .poison, .poison, .poison, .poison, .poison, .poison, .poison, .poison, .poison, .poison, .poison, .poison, .poison, .poison, .poison, .poison, .poison, .poison, .poison, .poison, .poison, .poison, .poison, .poison, .poison, .poison, .poison, .poison, .poison, .poison, .poison, .poison, .poison, .poison, .poison, .poison, .poison, .poison, .poison, .poison, .poison, .poison, .poison, .poison, .poison, .poison, .poison, .poison, .poison, .poison, .poison, .poison, .poison, .poison, .poison, .poison, .poison, .poison, .poison, .poison, .poison, .poison, .poison, .poison, .poison, .poison, .poison, .poison, .poison, .poison, .poison, .poison, .poison, .poison, .poison, .poison, .poison, .poison, .poison, .poison, .poison, .poison, .poison, .poison, .poison, .poison, .poison, .poison, .poison, .poison, .poison, .poison, .poison, .poison, .poison, .poison, .poison, .poison, .poison, .poison, .poison, .poison, .poison, .poison, .poison, .poison, .poison, .poison, .poison, .poison, .poison, .poison, .poison, .poison, .poison, .poison, .poison, .poison, .poison, .poison, .poison, .poison, .poison, .poison, .poison, .poison, .poison, .poison, .poison, .poison, .poison, .poison, .poison, .poison, .poison, .poison, .poison, .poison, .poison, .poison, .poison, .poison, .poison, .poison, .poison, .poison, .poison, .poison, .poison, .poison, .poison, .poison, .poison, .poison, .poison, .poison, .poison, .poison, .poison, .poison, .poison, .poison, .poison, .poison, .poison, .poison, .poison, .poison, .poison, .poison, .poison, .poison, .poison, .poison, .poison, .poison, .poison, .poison, .poison, .poison, .poison, .poison, .poison, .poison, .poison, .poison, .poison, .poison, .poison, .poison, .poison, .poison, .poison, .poison, .poison, .poison, .poison, .poison, .poison, .poison, .poison, .poison, .poison, .poison, .poison, .poison, .poison, .poison, .poison, .poison, .poison, .poison, .poison, .poison, .poison, .poison, .poison, .poison, .poison, .poison, .poison, .poison, .poison, .poison, .poison, .poison, .poison, .poison], [.none, .none, .none, .box (enc tRF a0), .none, .none, .none, .none, .none, .none, .none, .none, .none, .none, .none, .none, .none, .none, .none, .none, .none, .none, .none, .none, .none, .none, .none, .none, .none, .none, .none, .none, .none, .none, .none, .none, .none, .none, .none, .none, .none, .none, .none, .none, .none, .none, .none, .none, .none, .none, .none, .none, .none, .none, .none, .none, .none, .none, .none, .none, .none, .none, .none, .none, .none, .none, .none, .none, .none, .none, .none, .none, .none, .none, .none, .none, .none, .none, .none, .none, .none, .none, .none, .none, .none, .none, .none, .none, .none, .none, .none, .none, .none, .none, .none, .none, .none, .none, .none, .none, .none, .none, .none, .none, .none, .none, .none, .none, .none, .none, .none, .none, .none, .none, .none, .none, .none, .none, .none, .none, .none, .none, .none, .none, .none, .none, .none, .none, .none, .none, .none, .none, .none, .none, .none, .none, .none, .none, .none, .none, .none, .none, .none, .none, .none, .none, .none, .none, .none, .none, .none, .none, .none, .none, .none, .none, .none, .none, .none, .none, .none, .none, .none, .none, .none, .none, .none, .none, .none, .none, .none, .none, .none, .none, .none, .none, .none, .none, .none, .none, .none, .none, .none, .none, .none, .none, .none, .none, .none, .none, .none, .none, .none, .none, .none, .none, .none, .none, .none, .none, .none, .none, .none, .none, .none, .none, .none, .none, .none, .none, .none, .none, .none, .none, .none, .none, .none, .none, .none, .none, .none, .none, .none, .none, .none, .none, .none, .none, .none, .none, .none, .none, .none, .none, .none, .none, .none, .none, .none, .none, .none, .none, .none, .none, .none, .none, .none, .none, .none, .none, .none, .none, .none, .none, .none]⟩ (ctxK X14 N [(1, 0), (1, 0), (1, 0), (1, 0), (1, 0), (1, 0), (1, 0), (1, 0), (1, 0), (1, 0), (1, 0), (1, 0), (1, 0), (1, 0), (0, 0), (1, 0), (0, 0)] (bodyOf Tryd.f14) (finK X14 Tryd.f14))

noncomputable def f14_R3 (a0 : ((List ((Int × Int) × (Int × Int) × (Int × Int))) × (Int × Int) × (Int × Int) × Int)) (a1 : (List Int)) (a2 : (List Int)) (N : Nat) (n : Nat) (v3_0 : (List Int)) (v3_1 : Int) (v3_2 : Int) : Option (AV) :=
  loopN (evC X14 N (sub [(1, 0), (1, 0), (1, 0), (1, 0), (1, 0), (1, 0), (1, 0), (1, 0), (1, 0), (1, 0), (1, 0), (1, 0), (1, 0), (1, 0), (0, 0), (1, 0), (0, 0), (0, 0)] (bodyOf Tryd.f14))) (keepOf X14.L (sub [(1, 0), (1, 0), (1, 0), (1, 0), (1, 0), (1, 0), (1, 0), (1, 0), (1, 0), (1, 0), (1, 0), (1, 0), (1, 0), (1, 0), (0, 0), (1, 0), (0, 0), (0, 0)] (bodyOf Tryd.f14))) n ⟨[.poison, .sl .int ⟨false, false, none⟩ a1, .poison, .ref 3 [], .poison, .poison, .poison, .sl .int ⟨false, false, none⟩ (shufI (a0.1.length : Int) a1), .poison, .sl .int ⟨false, false, none⟩ ((SpoolsI a0 (shufI (a0.1.length : Int) a1) (turnI (a2.getD 0 (0 : Int)) (200 : Int))).1), .poison, .poison, .poison, .poison, .poison, .poison, .sl .int ⟨true, false, (some (105, 0))⟩ v3_0, .poison, .poison, .poison, .poison, .int v3_1, .int v3_2, .poison, .poison, .poison, .poison, .poison, .poison, .poison, .poison, .poison, .poison, .poison, .poison, .poison, .poison, .poison, .poison, .poison, .poison, .poison, .poison, .poison, .poison, .poison, .poison, .poison, .poison, .poison, .poison, .poison, .poison, .poison, .poison, .poison, .poison, .poison, .poison, .poison, .poison, .poison, .poison, .poison, .poison, .poison, .poison, .poison, .poison, .poison, .poison, .poison, .poison, .poison, .poison, .poison, .poison, .poison, .poison, .poison, .poison, .poison, .poison, .poison, .poison, .poison, .poison, .poison, .poison, .poison, .poison, .poison, .poison, .poison, .poison, .poison, .poison, .poison, .poison, .poison, .poison, .poison, .poison, .poison, .poison, .poison, .poison, .poison, .poison, .poison, .poison, .poison, .poison, .poison, .poison, .poison, .poison, .poison, .poison, .poison, .poison, .poison, .poison, .poison, .poison, .poison, .poison, .poison, .poison, .poison, .poison, .poison, .poison, .poison, .poison, .poison, .poison, .poison, .poison, .poison, .poison, .poison, .poison, .poison, .poison, .poison, .poison, .poison, .poison, .poison, .poison, .poison, .poison, .poison, .poison, .poison, .poison, .poison, .poison, .poison, .poison, .poison, .poison, .poison, .poison, .poison, .poison, .poison, .poison, .poison, .poison, .poison, .poison, .poison, .poison, .poison, .poison, .poison, .poison, .poison, .poison, .poison, .poison, .poison, .poison, .poison, .poison, .poison, .poison, .poison, .poison, .poison, .poison, .poison, .poison, .poison, .poison, .poison, .poison, .poison, .poison, .poison, .poison, .poison, .poison, .poison, .poison, .poison, .poison, .poison, .poison, .poison, .poison, .poison, .poison, .poison, .poison, .poison, .poison, .poison, .poison, .poison, .poison, .poison, .poison, .poison, .poison, .poison, .poison, .poison, .poison, .poison, .poison, .poison, .poison, .poison, .poison, .poison, .poison, .poison, .poison, .poison, .poison, .poison, .poison, .poison, .poison, .poison, .poison, .poison, .poison, .poison, .poison, .poison, .poison], [.none, .none, .none, .box (enc tRF a0), .none, .none, .none, .none, .none, .none, .none, .none, .none, .none, .none, .none, .none, .none, .none, .none, .none, .none, .none, .none, .none, .none, .none, .none, .none, .none, .none, .none, .none, .none, .none, .none, .none, .none, .none, .none, .none, .none, .none, .none, .none, .none, .none, .none, .none, .none, .none, .none, .none, .none, .none, .none, .none, .none, .none, .none, .none, .none, .none, .none, .none, .none, .none, .none, .none, .none, .none, .none, .none, .none, .none, .none, .none, .none, .none, .none, .none, .none, .none, .none, .none, .none, .none, .none, .none, .none, .none, .none, .none, .none, .none, .none, .none, .none, .none, .none, .none, .none, .none, .none, .none, .lin 0 true, .none, .none, .none, .none, .none, .none, .none, .none, .none, .none, .none, .none, .none, .none, .none, .none, .none, .none, .none, .none, .none, .none, .none, .none, .none, .none, .none, .none, .none, .none, .none, .none, .none, .none, .none, .none, .none, .none, .none, .none, .none, .none, .none, .none, .none, .none, .none, .none, .none, .none, .none, .none, .none, .none, .none, .none, .none, .none, .none, .none, .none, .none, .none, .none, .none, .none, .none, .none, .none, .none, .none, .none, .none, .none, .none, .none, .none, .none, .none, .none, .none, .none, .none, .none, .none, .none, .none, .none, .none, .none, .none, .none, .none, .none, .none, .none, .none, .none, .none, .none, .none, .none, .none, .none, .none, .none, .none, .none, .none, .none, .none, .none, .none, .none, .none, .none, .none, .none, .none, .none, .none, .none, .none, .none, .none, .none, .none, .none, .none, .none, .none, .none, .none, .none, .none, .none, .none, .none, .none, .none, .none, .none, .none, .none, .none, .none, .none, .none, .none]⟩ (ctxK X14 N [(1, 0), (1, 0), (1, 0), (1, 0), (1, 0), (1, 0), (1, 0), (1, 0), (1, 0), (1, 0), (1, 0), (1, 0), (1, 0), (1, 0), (0, 0), (1, 0), (0, 0)] (bodyOf Tryd.f14) (finK X14 Tryd.f14))

noncomputable def f14_R4 (a0 : ((List ((Int × Int) × (Int × Int) × (Int × Int))) × (Int × Int) × (Int × Int) × Int)) (a1 : (List Int)) (a2 : (List Int)) (N : Nat) (n : Nat) (v4_0 : Int) (v4_1 : Int) (v4_2 : Int) : Option (AV) :=
  loopN (evC X14 N (sub [(1, 0), (1, 0), (1, 0), (1, 0), (1, 0), (1, 0), (1, 0), (1, 0), (1, 0), (1, 0), (1, 0), (1, 0), (1, 0), (1, 0), (1, 0), (1, 0), (0, 0), (1, 0), (0, 0), (0, 0)] (bodyOf Tryd.f14))) (keepOf X14.L (sub [(1, 0), (1, 0), (1, 0), (1, 0), (1, 0), (1, 0), (1, 0), (1, 0), (1, 0), (1, 0), (1, 0), (1, 0), (1, 0), (1, 0), (1, 0), (1, 0), (0, 0), (1, 0), (0, 0), (0, 0)] (bodyOf Tryd.f14))) n ⟨[.poison, .sl .int ⟨false, false, none⟩ a1, .poison, .ref 3 [], .poison, .poison, .poison, .poison, .poison, .sl .int ⟨false, false, none⟩ ((SpoolsI a0 (shufI (a0.1.length : Int) a1) (turnI (a2.getD 0 (0 : Int)) (200 : Int))).1), .poison, .poison, .poison, .poison, .poison, .poison, .sl .int ⟨true, true, none⟩ ([] : List Int), .poison, .poison, .poison, .poison, .poison, .poison, .poison, .int v4_0, .int v4_1, .int v4_2, .poison, .poison, .poison, .poison, .poison, .poison, .poison, .poison, .poison, .poison, .poison, .poison, .poison, .poison, .poison, .poison, .poison, .poison, .poison, .poison, .poison, .poison, .poison, .poison, .poison, .poison, .poison, .poison, .poison, .poison, .poison, .poison, .poison, .poison, .poison, .poison, .poison, .poison, .poison, .poison, .poison, .poison, .poison, .poison, .poison, .poison, .poison, .poison, .poison, .poison, .poison, .poison, .poison, .poison, .poison, .poison, .poison, .poison, .poison, .poison, .poison, .poison, .poison, .poison, .poison, .poison, .poison, .poison, .poison, .poison, .poison, .poison, .poison, .poison, .poison, .poison, .poison, .poison, .poison, .poison, .poison, .poison, .poison, .poison, .poison, .poison, .poison, .poison, .poison, .poison, .poison, .poison, .poison, .poison, .poison, .poison, .poison, .poison, .poison, .poison, .poison, .poison, .poison, .poison, .poison, .poison, .poison, .poison, .poison, .poison, .poison, .poison, .poison, .poison, .poison, .poison, .poison, .poison, .poison, .poison, .poison, .poison, .poison, .poison, .poison, .poison, .poison, .poison, .poison, .poison, .poison, .poison, .poison, .poison, .poison, .poison, .poison, .poison, .poison, .poison, .poison, .poison, .poison, .poison, .poison, .poison, .poison, .poison, .poison, .poison, .poison, .poison, .poison, .poison, .poison, .poison, .poison, .poison, .poison, .poison, .poison, .poison, .poison, .poison, .poison, .poison, .poison, .poison, .poison, .poison, .poison, .poison, .poison, .poison, .poison, .poison, .poison, .poison, .poison, .poison, .poison, .poison, .poison, .poison, .poison, .poison, .poison, .poison, .poison, .poison, .poison, .poison, .poison, .poison, .poison, .poison, .poison, .poison, .poison, .poison, .poison, .poison, .poison, .poison, .poison, .poison, .poison, .poison, .poison, .poison, .poison, .poison, .poison, .poison, .poison, .poison, .poison, .poison, .poison, .poison, .poison, .poison, .poison, .poison, .poison, .poison, .poison, .poison], [.none, .none, .none, .box (enc tRF a0), .none, .none, .none, .none, .none, .none, .none, .none, .none, .none, .none, .none, .none, .none, .none, .none, .none, .none, .none, .none, .none, .none, .none, .none, .none, .none, .none, .none, .none, .none, .none, .none, .none, .none, .none, .none, .none, .none, .none, .none, .none, .none, .none, .none, .none, .none, .none, .none, .none, .none, .none, .none, .none, .none, .none, .none, .none, .none, .none, .none, .none, .none, .none, .none, .none, .none, .none, .none, .none, .none, .none, .none, .none, .none, .none, .none, .none, .none, .none, .none, .none, .none, .none, .none, .none, .none, .none, .none, .none, .none, .none, .none, .none, .none, .none, .none, .none, .none, .none, .none, .none, .none, .none, .none, .none, .none, .none, .none, .none, .none, .none, .none, .none, .none, .none, .none, .none, .none, .none, .none, .none, .none, .none, .none, .none, .none, .none, .none, .none, .none, .none, .none, .none, .none, .none, .none, .none, .none, .none, .none, .none, .none, .none, .none, .none, .none, .none, .none, .none, .none, .none, .none, .none, .none, .none, .none, .none, .none, .none, .none, .none, .none, .none, .none, .none, .none, .none, .none, .none, .none, .none, .none, .none, .none, .none, .none, .none, .none, .none, .none, .none, .none, .none, .none, .none, .none, .none, .none, .none, .none, .none, .none, .none, .none, .none, .none, .none, .none, .none, .none, .none, .none, .none, .none, .none, .none, .none, .none, .none, .none, .none, .none, .none, .none, .none, .none, .none, .none, .none, .none, .none, .none, .none, .none, .none, .none, .none, .none, .none, .none, .none, .none, .none, .none, .none, .none, .none, .none, .none, .none, .none, .none, .none, .none, .none, .none, .none, .none, .none, .none, .none]⟩ (ctxK X14 N [(1, 0), (1, 0), (1, 0), (1, 0), (1, 0), (1, 0), (1, 0), (1, 0), (1, 0), (1, 0), (1, 0), (1, 0), (1, 0), (1, 0), (1, 0), (1, 0), (0, 0), (1, 0), (0, 0)] (bodyOf Tryd.f14) (finK X14 Tryd.f14))

noncomputable def f14_R5 (a0 : ((List ((Int × Int) × (Int × Int) × (Int × Int))) × (Int × Int) × (Int × Int) × Int)) (a1 : (List Int)) (a2 : (List Int)) (N : Nat) (n : Nat) (v5_0 : (List Int)) (v5_1 : Int) (v5_2 : Int) (v5_3 : Int) : Option (AV) :=
  loopN (evC X14 N (sub [(1, 0), (1, 0), (1, 0), (1, 0), (1, 0), (1, 0), (1, 0), (1, 0), (1, 0), (1, 0), (1, 0), (1, 0), (1, 0), (1, 0), (1, 0), (1, 0), (0, 0), (1, 0), (0, 0), (0, 0)] (bodyOf Tryd.f14))) (keepOf X14.L (sub [(1, 0), (1, 0), (1, 0), (1, 0), (1, 0), (1, 0), (1, 0), (1, 0), (1, 0), (1, 0), (1, 0), (1, 0), (1, 0), (1, 0), (1, 0), (1, 0), (0, 0), (1, 0), (0, 0), (0, 0)] (bodyOf Tryd.f14))) n ⟨[.poison, .sl .int ⟨false, false, none⟩ a1, .poison, .ref 3 [], .poison, .poison, .poison, .poison, .poison, .sl .int ⟨false, false, none⟩ ((SpoolsI a0 (shufI (a0.1.length : Int) a1) (turnI (a2.getD 0 (0 : Int)) (200 : Int))).1), .poison, .poison, .poison, .poison, .poison, .poison, .sl .int ⟨true, false, (some (105, 0))⟩ v5_0, .poison, .poison, .poison, .poison, .poison, .poison, .poison, .int v5_1, .int v5_2, .int v5_3, .poison, .poison, .poison, .poison, .poison, .poison, .poison, .poison, .poison, .poison, .poison, .poison, .poison, .poison, .poison, .poison, .poison, .poison, .poison, .poison, .poison, .poison, .poison, .poison, .poison, .poison, .poison, .poison, .poison, .poison, .poison, .poison, .poison, .poison, .poison, .poison, .poison, .poison, .poison, .poison, .poison, .poison, .poison, .poison, .poison, .poison, .poison, .poison, .poison, .poison, .poison, .poison, .poison, .poison, .poison, .poison, .poison, .poison, .poison, .poison, .poison, .poison, .poison, .poison, .poison, .poison, .poison, .poison, .poison, .poison, .poison, .poison, .poison, .poison, .poison, .poison, .poison, .poison, .poison, .poison, .poison, .poison, .poison, .poison, .poison, .poison, .poison, .poison, .poison, .poison, .poison, .poison, .poison, .poison, .poison, .poison, .poison, .poison, .poison, .poison, .poison, .poison, .poison, .poison, .poison, .poison, .poison, .poison, .poison, .poison, .poison, .poison, .poison, .poison, .poison, .poison, .poison, .poison, .poison, .poison, .poison, .poison, .poison, .poison, .poison, .poison, .poison, .poison, .poison, .poison, .poison, .poison, .poison, .poison, .poison, .poison, .poison, .poison, .poison, .poison, .poison, .poison, .poison, .poison, .poison, .poison, .poison, .poison, .poison, .poison, .poison, .poison, .poison, .poison, .poison, .poison, .poison, .poison, .poison, .poison, .poison, .poison, .poison, .poison, .poison, .poison, .poison, .poison, .poison, .poison, .poison, .poison, .poison, .poison, .poison, .poison, .poison, .poison, .poison, .poison, .poison, .poison, .poison, .poison, .poison, .poison, .poison, .poison, .poison, .poison, .poison, .poison, .poison, .poison, .poison, .poison, .poison, .poison, .poison, .poison, .poison, .poison, .poison, .poison, .poison, .poison, .poison, .poison, .poison, .poison, .poison, .poison, .poison, .poison, .poison, .poison, .poison, .poison, .poison, .poison, .poison, .poison, .poison, .poison, .poison, .poison, .poison, .poison], [.none, .none, .none, .box (enc tRF a0), .none, .none, .none, .none, .none, .none, .none, .none, .none, .none, .none, .none, .none, .none, .none, .none, .none, .none, .none, .none, .none, .none, .none, .none, .none, .none, .none, .none, .none, .none, .none, .none, .none, .none, .none, .none, .none, .none, .none, .none, .none, .none, .none, .none, .none, .none, .none, .none, .none, .none, .none, .none, .none, .none, .none, .none, .none, .none, .none, .none, .none, .none, .none, .none, .none, .none, .none, .none, .none, .none, .none, .none, .none, .none, .none, .none, .none, .none, .none, .none, .none, .none, .none, .none, .none, .none, .none, .none, .none, .none, .none, .none, .none, .none, .none, .none, .none, .none, .none, .none, .none, .lin 0 true, .none, .none, .none, .none, .none, .none, .none, .none, .none, .none, .none, .none, .none, .none, .none, .none, .none, .none, .none, .none, .none, .none, .none, .none, .none, .none, .none, .none, .none, .none, .none, .none, .none, .none, .none, .none, .none, .none, .none, .none, .none, .none, .none, .none, .none, .none, .none, .none, .none, .none, .none, .none, .none, .none, .none, .none, .none, .none, .none, .none, .none, .none, .none, .none, .none, .none, .none, .none, .none, .none, .none, .none, .none, .none, .none, .none, .none, .none, .none, .none, .none, .none, .none, .none, .none, .none, .none, .none, .none, .none, .none, .none, .none, .none, .none, .none, .none, .none, .none, .none, .none, .none, .none, .none, .none, .none, .none, .none, .none, .none, .none, .none, .none, .none, .none, .none, .none, .none, .none, .none, .none, .none, .none, .none, .none, .none, .none, .none, .none, .none, .none, .none, .none, .none, .none, .none, .none, .none, .none, .none, .none, .none, .none, .none, .none, .none, .none, .none, .none]⟩ (ctxK X14 N [(1, 0), (1, 0), (1, 0), (1, 0), (1, 0), (1, 0), (1, 0), (1, 0), (1, 0), (1, 0), (1, 0), (1, 0), (1, 0), (1, 0), (1, 0), (1, 0), (0, 0), (1, 0), (0, 0)] (bodyOf Tryd.f14) (finK X14 Tryd.f14))

theorem f14_e0 (a0 : ((List ((Int × Int) × (Int × Int) × (Int × Int))) × (Int × Int) × (Int × Int) × Int)) (a1 : (List Int)) (a2 : (List Int)) (N : Nat) (n : Nat) : f14_R0 a0 a1 a2 N (n + 1) = f14_s0 a0 a1 a2 (f14_R1 a0 a1 a2 N n) (f14_R2 a0 a1 a2 N N) := by kernel_rfl

theorem f14_e1 (a0 : ((List ((Int × Int) × (Int × Int) × (Int × Int))) × (Int × Int) × (Int × Int) × Int)) (a1 : (List Int)) (a2 : (List Int)) (N : Nat) (n : Nat) (v1_0 : (List Int)) (v1_1 : Bool) (v1_2 : Int) : f14_R1 a0 a1 a2 N (n + 1) v1_0 v1_1 v1_2 = f14_s1 a0 a1 a2 (f14_R1 a0 a1 a2 N n) (f14_R3 a0 a1 a2 N N) v1_0 v1_1 v1_2 := by kernel_rfl

theorem f14_e2 (a0 : ((List ((Int × Int) × (Int × Int) × (Int × Int))) × (Int × Int) × (Int × Int) × Int)) (a1 : (List Int)) (a2 : (List Int)) (N : Nat) (n : Nat) (v2_0 : Int) (v2_1 : Int) : f14_R2 a0 a1 a2 N (n + 1) v2_0 v2_1 = f14_s2 a0 a1 a2 (f14_R2 a0 a1 a2 N n) (f14_R4 a0 a1 a2 N N) v2_0 v2_1 := by kernel_rfl

theorem f14_e3 (a0 : ((List ((Int × Int) × (Int × Int) × (Int × Int))) × (Int × Int) × (Int × Int) × Int)) (a1 : (List Int)) (a2 : (List Int)) (N : Nat) (n : Nat) (v3_0 : (List Int)) (v3_1 : Int) (v3_2 : Int) : f14_R3 a0 a1 a2 N (n + 1) v3_0 v3_1 v3_2 = f14_s3 a0 a1 a2 (f14_R3 a0 a1 a2 N n) (f14_R5 a0 a1 a2 N N) v3_0 v3_1 v3_2 := by kernel_rfl

theorem f14_e4 (a0 : ((List ((Int × Int) × (Int × Int) × (Int × Int))) × (Int × Int) × (Int × Int) × Int)) (a1 : (List Int)) (a2 : (List Int)) (N : Nat) (n : Nat) (v4_0 : Int) (v4_1 : Int) (v4_2 : Int) : f14_R4 a0 a1 a2 N (n + 1) v4_0 v4_1 v4_2 = f14_s4 a0 a1 a2 (f14_R4 a0 a1 a2 N n) v4_0 v4_1 v4_2 := by kernel_rfl

theorem f14_e5 (a0 : ((List ((Int × Int) × (Int × Int) × (Int × Int))) × (Int × Int) × (Int × Int) × Int)) (a1 : (List Int)) (a2 : (List Int)) (N : Nat) (n : Nat) (v5_0 : (List Int)) (v5_1 : Int) (v5_2 : Int) (v5_3 : Int) : f14_R5 a0 a1 a2 N (n + 1) v5_0 v5_1 v5_2 v5_3 = f14_s5 a0 a1 a2 (f14_R5 a0 a1 a2 N n) v5_0 v5_1 v5_2 v5_3 := by kernel_rfl

noncomputable def f14_L5 (a0 : ((List ((Int × Int) × (Int × Int) × (Int × Int))) × (Int × Int) × (Int × Int) × Int)) (a1 : (List Int)) (a2 : (List Int)) (N : Nat) : Nat → (List Int) → Int → Int → Int → Option (AV)
  | 0, _, _, _, _ => none
  | n + 1, v5_0, v5_1, v5_2, v5_3 => f14_s5 a0 a1 a2 (f14_L5 a0 a1 a2 N n) v5_0 v5_1 v5_2 v5_3

noncomputable def f14_L3 (a0 : ((List ((Int × Int) × (Int × Int) × (Int × Int))) × (Int × Int) × (Int × Int) × Int)) (a1 : (List Int)) (a2 : (List Int)) (N : Nat) : Nat → (List Int) → Int → Int → Option (AV)
  | 0, _, _, _ => none
  | n + 1, v3_0, v3_1, v3_2 => f14_s3 a0 a1 a2 (f14_L3 a0 a1 a2 N n) (f14_L5 a0 a1 a2 N N) v3_0 v3_1 v3_2

noncomputable def f14_L1 (a0 : ((List ((Int × Int) × (Int × Int) × (Int × Int))) × (Int × Int) × (Int × Int) × Int)) (a1 : (List Int)) (a2 : (List Int)) (N : Nat) : Nat → (List Int) → Bool → Int → Option (AV)
  | 0, _, _, _ => none
  | n + 1, v1_0, v1_1, v1_2 => f14_s1 a0 a1 a2 (f14_L1 a0 a1 a2 N n) (f14_L3 a0 a1 a2 N N) v1_0 v1_1 v1_2

noncomputable def f14_L4 (a0 : ((List ((Int × Int) × (Int × Int) × (Int × Int))) × (Int × Int) × (Int × Int) × Int)) (a1 : (List Int)) (a2 : (List Int)) (N : Nat) : Nat → Int → Int → Int → Option (AV)
  | 0, _, _, _ => none
  | n + 1, v4_0, v4_1, v4_2 => f14_s4 a0 a1 a2 (f14_L4 a0 a1 a2 N n) v4_0 v4_1 v4_2

noncomputable def f14_L2 (a0 : ((List ((Int × Int) × (Int × Int) × (Int × Int))) × (Int × Int) × (Int × Int) × Int)) (a1 : (List Int)) (a2 : (List Int)) (N : Nat) : Nat → Int → Int → Option (AV)
  | 0, _, _ => none
  | n + 1, v2_0, v2_1 => f14_s2 a0 a1 a2 (f14_L2 a0 a1 a2 N n) (f14_L4 a0 a1 a2 N N) v2_0 v2_1

noncomputable def f14_L0 (a0 : ((List ((Int × Int) × (Int × Int) × (Int × Int))) × (Int × Int) × (Int × Int) × Int)) (a1 : (List Int)) (a2 : (List Int)) (N : Nat) : Nat → Option (AV)
  | 0 => none
  | n + 1 => f14_s0 a0 a1 a2 (f14_L1 a0 a1 a2 N n) (f14_L2 a0 a1 a2 N N)

theorem f14_q5 (a0 : ((List ((Int × Int) × (Int × Int) × (Int × Int))) × (Int × Int) × (Int × Int) × Int)) (a1 : (List Int)) (a2 : (List Int)) (N : Nat) : ∀ n : Nat, f14_R5 a0 a1 a2 N n = f14_L5 a0 a1 a2 N n
  | 0 => by
    funext v5_0
    funext v5_1
    funext v5_2
    funext v5_3
    rfl
  | n + 1 => by
    funext v5_0
    funext v5_1
    funext v5_2
    funext v5_3
    rw [f14_e5]
    simp only [f14_q5 a0 a1 a2 N n]
    rfl

theorem f14_q3 (a0 : ((List ((Int × Int) × (Int × Int) × (Int × Int))) × (Int × Int) × (Int × Int) × Int)) (a1 : (List Int)) (a2 : (List Int)) (N : Nat) : ∀ n : Nat, f14_R3 a0 a1 a2 N n = f14_L3 a0 a1 a2 N n
  | 0 => by
    funext v3_0
    funext v3_1
    funext v3_2
    rfl
  | n + 1 => by
    funext v3_0
    funext v3_1
    funext v3_2
    rw [f14_e3]
    simp only [f14_q3 a0 a1 a2 N n, f14_q5 a0 a1 a2 N N]
    rfl

theorem f14_q1 (a0 : ((List ((Int × Int) × (Int × Int) × (Int × Int))) × (Int × Int) × (Int × Int) × Int)) (a1 : (List Int)) (a2 : (List Int)) (N : Nat) : ∀ n : Nat, f14_R1 a0 a1 a2 N n = f14_L1 a0 a1 a2 N n
  | 0 => by
    funext v1_0
    funext v1_1
    funext v1_2
    rfl
  | n + 1 => by
    funext v1_0
    funext v1_1
    funext v1_2
    rw [f14_e1]
    simp only [f14_q1 a0 a1 a2 N n, f14_q3 a0 a1 a2 N N]
    rfl

theorem f14_q4 (a0 : ((List ((Int × Int) × (Int × Int) × (Int × Int))) × (Int × Int) × (Int × Int) × Int)) (a1 : (List Int)) (a2 : (List Int)) (N : Nat) : ∀ n : Nat, f14_R4 a0 a1 a2 N n = f14_L4 a0 a1 a2 N n
  | 0 => by
    funext v4_0
    funext v4_1
    funext v4_2
    rfl
  | n + 1 => by
    funext v4_0
    funext v4_1
    funext v4_2
    rw [f14_e4]
    simp only [f14_q4 a0 a1 a2 N n]
    rfl

theorem f14_q2 (a0 : ((List ((Int × Int) × (Int × Int) × (Int × Int))) × (Int × Int) × (Int × Int) × Int)) (a1 : (List Int)) (a2 : (List Int)) (N : Nat) : ∀ n : Nat, f14_R2 a0 a1 a2 N n = f14_L2 a0 a1 a2 N n
  | 0 => by
    funext v2_0
    funext v2_1
    rfl
  | n + 1 => by
    funext v2_0
    funext v2_1
    rw [f14_e2]
    simp only [f14_q2 a0 a1 a2 N n, f14_q4 a0 a1 a2 N N]
    rfl

theorem f14_q0 (a0 : ((List ((Int × Int) × (Int × Int) × (Int × Int))) × (Int × Int) × (Int × Int) × Int)) (a1 : (List Int)) (a2 : (List Int)) (N : Nat) : ∀ n : Nat, f14_R0 a0 a1 a2 N n = f14_L0 a0 a1 a2 N n
  | 0 => by
    rfl
  | n + 1 => by
    rw [f14_e0]
    simp only [f14_q1 a0 a1 a2 N n, f14_q2 a0 a1 a2 N N]
    rfl

noncomputable def f14_T (a0 : ((List ((Int × Int) × (Int × Int) × (Int × Int))) × (Int × Int) × (Int × Int) × Int)) (a1 : (List Int)) (a2 : (List Int)) (N : Nat) : Option (AV) := f14_s a0 a1 a2 (f14_L0 a0 a1 a2 N N)

theorem f14_ev (a0 : ((List ((Int × Int) × (Int × Int) × (Int × Int))) × (Int × Int) × (Int × Int) × Int)) (a1 : (List Int)) (a2 : (List Int)) (N : Nat) : evF X14 N Tryd.f14 [enc tRF a0, enc tInts a1, enc (.arr 3 .int) a2] = f14_T a0 a1 a2 N := by
  have h : evF X14 N Tryd.f14 [enc tRF a0, enc tInts a1, enc (.arr 3 .int) a2] = f14_s a0 a1 a2 (f14_R0 a0 a1 a2 N N) := by kernel_rfl
  rw [h, f14_q0]
  rfl

end Ev
end Go.Proofs.YtidnikjkpbmhhaaDoor
/- The law of both ends, as the evaluator walks it. -/
set_option linter.unusedVariables false
set_option maxRecDepth 4000
namespace Go.Proofs.YtidnikjkpbmhhaaDoor
namespace Ev

noncomputable def g12 : List AV → Option (Bool × AV)
  | [a0, a1] =>
    match dec tRF a0, dec (.arr 2 .int) a1 with
    | some x0, some x1 => some ((endsOK x0 x1), enc .bool (endsB x0 x1))
    | _, _ => none
  | _ => none
noncomputable def X12 : Ctx := { T := TT, G := GG, C := [(25, g25), (30, g30), (43, g43), (48, g48), (53, g53)], L := [(8, [0, 1, 3, 4, 5, 14, 15, 16, 17, 18, 19, 20, 21, 22, 23, 24, 25, 26, 27, 28, 29, 30, 31, 32, 33, 34, 35, 36, 37, 38, 39, 40, 41, 42, 43, 44, 45, 46, 47, 48, 49, 50, 51, 52, 53, 54, 55, 56, 57, 58, 59, 60, 61, 62, 63, 64, 65, 66, 67, 68, 69, 70, 71, 72, 73, 74, 75, 76, 77, 78, 79, 80, 81, 82, 83, 84, 85, 86, 87, 88, 89, 90, 91, 92, 93, 94, 95, 96, 97, 98, 99, 100, 101, 102], [])] }
noncomputable def f12_s0 (a0 : ((List ((Int × Int) × (Int × Int) × (Int × Int))) × (Int × Int) × (Int × Int) × Int)) (a1 : (List Int)) (k0 : Int → Int → Int → Option (AV)) (v0_0 : Int) (v0_1 : Int) (v0_2 : Int) : Option (AV) :=
  bif (decide (v0_2 < (turnI (a1.getD 1 (0 : Int)) (999 : Int)))) then
    k0 (if (0 : Int) < (w64 (v0_0 - a0.2.2.1.2)) then (w64 (v0_0 - a0.2.2.1.2)) else (0 : Int)) (if (0 : Int) < (w64 (v0_1 - a0.2.2.1.1)) then (w64 (v0_1 - a0.2.2.1.1)) else (0 : Int)) (w64 (v0_2 + (1 : Int)))
  else
    bif (decide (((WornI a0 (turnI (a1.getD 0 (0 : Int)) (a0.1.length : Int)) (turnI (a1.getD 1 (0 : Int)) (999 : Int))).2) = (0 : Int))) then
      bif (decide (((WornI a0 (turnI (a1.getD 0 (0 : Int)) (a0.1.length : Int)) (w64 ((turnI (a1.getD 1 (0 : Int)) (999 : Int)) + (1 : Int)))).2) = (0 : Int))) then
        bif ((decide (((WornI a0 (turnI (a1.getD 0 (0 : Int)) (a0.1.length : Int)) (turnI (a1.getD 1 (0 : Int)) (999 : Int))).1).1 = (mk2 v0_0 v0_1).1)) && ((decide (((WornI a0 (turnI (a1.getD 0 (0 : Int)) (a0.1.length : Int)) (turnI (a1.getD 1 (0 : Int)) (999 : Int))).1).2 = (mk2 v0_0 v0_1).2)) && true)) then
          bif (decide ((((WornI a0 (turnI (a1.getD 0 (0 : Int)) (a0.1.length : Int)) (w64 ((turnI (a1.getD 1 (0 : Int)) (999 : Int)) + (1 : Int)))).1).1) ≤ (((WornI a0 (turnI (a1.getD 0 (0 : Int)) (a0.1.length : Int)) (turnI (a1.getD 1 (0 : Int)) (999 : Int))).1).1))) then
            bif (decide ((((WornI a0 (turnI (a1.getD 0 (0 : Int)) (a0.1.length : Int)) (w64 ((turnI (a1.getD 1 (0 : Int)) (999 : Int)) + (1 : Int)))).1).2) ≤ (((WornI a0 (turnI (a1.getD 0 (0 : Int)) (a0.1.length : Int)) (turnI (a1.getD 1 (0 : Int)) (999 : Int))).1).2))) then
              some (.bool turnedB)
            else
              some (.bool false)
          else
            some (.bool false)
        else
          some (.bool false)
      else
        some (.bool false)
    else
      some (.bool false)

noncomputable def f12_s (a0 : ((List ((Int × Int) × (Int × Int) × (Int × Int))) × (Int × Int) × (Int × Int) × Int)) (a1 : (List Int)) (k0 : Int → Int → Int → Option (AV)) : Option (AV) :=
  bif (chkOK a0) then
    bif (!(soundB a0)) then
      some (.bool turnedB)
    else
      bif decide (0 ≤ (0 : Int)) && decide ((0 : Int) < 2) then
        bif decide (0 ≤ (1 : Int)) && decide ((1 : Int) < 2) then
          bif (chkOK3 a0 (turnI (a1.getD 0 (0 : Int)) (a0.1.length : Int)) (turnI (a1.getD 1 (0 : Int)) (999 : Int))) then
            bif (chkOK3 a0 (turnI (a1.getD 0 (0 : Int)) (a0.1.length : Int)) (w64 ((turnI (a1.getD 1 (0 : Int)) (999 : Int)) + (1 : Int)))) then
              bif decide (0 ≤ (turnI (a1.getD 0 (0 : Int)) (a0.1.length : Int))) && decide ((turnI (a1.getD 0 (0 : Int)) (a0.1.length : Int)) < (a0.1.length : Int)) then
                bif decide (0 ≤ (turnI (a1.getD 0 (0 : Int)) (a0.1.length : Int))) && decide ((turnI (a1.getD 0 (0 : Int)) (a0.1.length : Int)) < (a0.1.length : Int)) then
                  k0 (((a0.1.getD (turnI (a1.getD 0 (0 : Int)) (a0.1.length : Int)).toNat (((0 : Int), (0 : Int)), ((0 : Int), (0 : Int)), ((0 : Int), (0 : Int)))).2.2).1) (((a0.1.getD (turnI (a1.getD 0 (0 : Int)) (a0.1.length : Int)).toNat (((0 : Int), (0 : Int)), ((0 : Int), (0 : Int)), ((0 : Int), (0 : Int)))).2.2).2) (0 : Int)
                else
                  none
              else
                none
            else
              none
          else
            none
        else
          none
      else
        none
  else
    none

noncomputable def f12_R0 (a0 : ((List ((Int × Int) × (Int × Int) × (Int × Int))) × (Int × Int) × (Int × Int) × Int)) (a1 : (List Int)) (N : Nat) (n : Nat) (v0_0 : Int) (v0_1 : Int) (v0_2 : Int) : Option (AV) :=
  loopN (evC X12 N (sub [(1, 0), (1, 0), (1, 0), (1, 0), (1, 0), (1, 0), (0, 0), (1, 0), (0, 0), (0, 0)] (bodyOf Tryd.f12))) (keepOf X12.L (sub [(1, 0), (1, 0), (1, 0), (1, 0), (1, 0), (1, 0), (0, 0), (1, 0), (0, 0), (0, 0)] (bodyOf Tryd.f12))) n ⟨[.poison, .poison, .ref 2 [], .poison, .poison, .poison, .int (turnI (a1.getD 1 (0 : Int)) (999 : Int)), .ref 7 [], .int ((WornI a0 (turnI (a1.getD 0 (0 : Int)) (a0.1.length : Int)) (turnI (a1.getD 1 (0 : Int)) (999 : Int))).2), .ref 9 [], .int ((WornI a0 (turnI (a1.getD 0 (0 : Int)) (a0.1.length : Int)) (w64 ((turnI (a1.getD 1 (0 : Int)) (999 : Int)) + (1 : Int)))).2), .int v0_0, .int v0_1, .int v0_2, .poison, .poison, .poison, .poison, .poison, .poison, .poison, .poison, .poison, .poison, .poison, .poison, .poison, .poison, .poison, .poison, .poison, .poison, .poison, .poison, .poison, .poison, .poison, .poison, .poison, .poison, .poison, .poison, .poison, .poison, .poison, .poison, .poison, .poison, .poison, .poison, .poison, .poison, .poison, .poison, .poison, .poison, .poison, .poison, .poison, .poison, .poison, .poison, .poison, .poison, .poison, .poison, .poison, .poison, .poison, .poison, .poison, .poison, .poison, .poison, .poison, .poison, .poison, .poison, .poison, .poison, .poison, .poison, .poison, .poison, .poison, .poison, .poison, .poison, .poison, .poison, .poison, .poison, .poison, .poison, .poison, .poison, .poison, .poison, .poison, .poison, .poison, .poison, .poison], [.none, .none, .box (enc tRF a0), .none, .none, .none, .none, .box (enc tSpan ((WornI a0 (turnI (a1.getD 0 (0 : Int)) (a0.1.length : Int)) (turnI (a1.getD 1 (0 : Int)) (999 : Int))).1)), .none, .box (enc tSpan ((WornI a0 (turnI (a1.getD 0 (0 : Int)) (a0.1.length : Int)) (w64 ((turnI (a1.getD 1 (0 : Int)) (999 : Int)) + (1 : Int)))).1)), .none, .none, .none, .none, .none, .none, .none, .none, .none, .none, .none, .none, .none, .none, .none, .none, .none, .none, .none, .none, .none, .none, .none, .none, .none, .none, .none, .none, .none, .none, .none, .none, .none, .none, .none, .none, .none, .none, .none, .none, .none, .none, .none, .none, .none, .none, .none, .none, .none, .none, .none, .none, .none, .none, .none, .none, .none, .none, .none, .none, .none, .none, .none, .none, .none, .none, .none, .none, .none, .none, .none, .none, .none, .none, .none, .none, .none, .none, .none, .none, .none, .none, .none, .none, .none, .none, .none, .none, .none, .none, .none, .none, .none]⟩ (ctxK X12 N [(1, 0), (1, 0), (1, 0), (1, 0), (1, 0), (1, 0), (0, 0), (1, 0), (0, 0)] (bodyOf Tryd.f12) (finK X12 Tryd.f12))

theorem f12_e0 (a0 : ((List ((Int × Int) × (Int × Int) × (Int × Int))) × (Int × Int) × (Int × Int) × Int)) (a1 : (List Int)) (N : Nat) (n : Nat) (v0_0 : Int) (v0_1 : Int) (v0_2 : Int) : f12_R0 a0 a1 N (n + 1) v0_0 v0_1 v0_2 = f12_s0 a0 a1 (f12_R0 a0 a1 N n) v0_0 v0_1 v0_2 := by kernel_rfl

noncomputable def f12_L0 (a0 : ((List ((Int × Int) × (Int × Int) × (Int × Int))) × (Int × Int) × (Int × Int) × Int)) (a1 : (List Int)) (N : Nat) : Nat → Int → Int → Int → Option (AV)
  | 0, _, _, _ => none
  | n + 1, v0_0, v0_1, v0_2 => f12_s0 a0 a1 (f12_L0 a0 a1 N n) v0_0 v0_1 v0_2

theorem f12_q0 (a0 : ((List ((Int × Int) × (Int × Int) × (Int × Int))) × (Int × Int) × (Int × Int) × Int)) (a1 : (List Int)) (N : Nat) : ∀ n : Nat, f12_R0 a0 a1 N n = f12_L0 a0 a1 N n
  | 0 => by
    funext v0_0
    funext v0_1
    funext v0_2
    rfl
  | n + 1 => by
    funext v0_0
    funext v0_1
    funext v0_2
    rw [f12_e0]
    simp only [f12_q0 a0 a1 N n]
    rfl

noncomputable def f12_T (a0 : ((List ((Int × Int) × (Int × Int) × (Int × Int))) × (Int × Int) × (Int × Int) × Int)) (a1 : (List Int)) (N : Nat) : Option (AV) := f12_s a0 a1 (f12_L0 a0 a1 N N)

theorem f12_ev (a0 : ((List ((Int × Int) × (Int × Int) × (Int × Int))) × (Int × Int) × (Int × Int) × Int)) (a1 : (List Int)) (N : Nat) : evF X12 N Tryd.f12 [enc tRF a0, enc (.arr 2 .int) a1] = f12_T a0 a1 N := by
  have h : evF X12 N Tryd.f12 [enc tRF a0, enc (.arr 2 .int) a1] = f12_s a0 a1 (f12_R0 a0 a1 N N) := by kernel_rfl
  rw [h, f12_q0]
  rfl

end Ev
end Go.Proofs.YtidnikjkpbmhhaaDoor
/- Both ends: what the walk comes to is true. -/
set_option linter.unusedVariables false
set_option linter.unusedSimpArgs false
set_option maxRecDepth 4000
namespace Go.Proofs.YtidnikjkpbmhhaaDoor
namespace Ev

theorem feet_of {x : Fi} {k : Int} (hc : checkB x = true) (hin : inReels x k = true) : 1 ≤ (reelAt x k).2.2.1 ∧ (reelAt x k).2.2.1 ≤ (reelAt x k).2.2.2 ∧ (reelAt x k).2.2.2 ≤ 1200 ∧ 0 ≤ x.2.2.1.1 ∧ x.2.2.1.1 ≤ x.2.2.1.2 ∧ x.2.2.1.2 ≤ 50 := by
  have hr := reel_of hc hin
  simp only [okReel, legal, Bool.and_eq_true, decide_eq_true_eq] at hr
  simp only [checkB, legal, Bool.and_eq_true, decide_eq_true_eq] at hc
  obtain ⟨_, _, _, h1, h2, h3⟩ := hr
  exact ⟨h1, h2, h3, hc.2.2.1⟩

theorem tear_small {T : Int} (h0 : 0 ≤ T) (h1 : T ≤ 50) {n : Nat} (hn : n ≤ 2000) : 0 ≤ (n : Int) * T ∧ (n : Int) * T ≤ 100000 ∧ w64 ((n : Int) * T) = (n : Int) * T := by
  have e1 : (n : Int) * T ≤ 2000 * 50 := Int.mul_le_mul (by omega) h1 h0 (by omega)
  have e0 : 0 ≤ (n : Int) * T := Int.mul_nonneg (by omega) h0
  exact ⟨e0, by omega, w64_small (by omega) (by omega)⟩

theorem least_eq {x : Fi} {k : Int} (hc : checkB x = true) (hin : inReels x k = true) {n : Nat} (hn : n ≤ 2000) : leastI x k n = maxI 0 ((reelAt x k).2.2.1 - (n : Int) * x.2.2.1.2) := by
  obtain ⟨h1, h2, h3, h4, h5, h6⟩ := feet_of hc hin
  obtain ⟨t1, t2, t3⟩ := tear_small (T := x.2.2.1.2) (by omega) (by omega) hn
  unfold leastI
  rw [t3, w64_small (by omega) (by omega)]
theorem most_eq {x : Fi} {k : Int} (hc : checkB x = true) (hin : inReels x k = true) {n : Nat} (hn : n ≤ 2000) : mostI x k n = maxI 0 ((reelAt x k).2.2.2 - (n : Int) * x.2.2.1.1) := by
  obtain ⟨h1, h2, h3, h4, h5, h6⟩ := feet_of hc hin
  obtain ⟨t1, t2, t3⟩ := tear_small (T := x.2.2.1.1) (by omega) (by omega) hn
  unfold mostI
  rw [t3, w64_small (by omega) (by omega)]

theorem max_step {L T P : Int} (h0 : 0 ≤ T) (hT : T ≤ 50) (hL : L ≤ 1200) (hP : 0 ≤ P) (hP2 : P ≤ 100000) (hL0 : 0 ≤ L) : (if (0 : Int) < w64 (maxI 0 (L - P) - T) then w64 (maxI 0 (L - P) - T) else 0) = maxI 0 (L - (P + T)) ∧ maxI 0 (L - (P + T)) ≤ maxI 0 (L - P) := by
  have hm : 0 ≤ maxI 0 (L - P) ∧ maxI 0 (L - P) ≤ 1200 := by
    unfold maxI
    split <;> omega
  rw [w64_small (by omega) (by omega)]
  unfold maxI
  constructor
  · repeat' split
    all_goals omega
  · repeat' split
    all_goals omega

theorem least_step {x : Fi} {k : Int} (hc : checkB x = true) (hin : inReels x k = true) {n : Nat} (hn : n < 2000) : (if (0 : Int) < w64 (leastI x k n - x.2.2.1.2) then w64 (leastI x k n - x.2.2.1.2) else 0) = leastI x k (n + 1 : Nat) ∧ leastI x k (n + 1 : Nat) ≤ leastI x k n := by
  obtain ⟨h1, h2, h3, h4, h5, h6⟩ := feet_of hc hin
  obtain ⟨t1, t2, _⟩ := tear_small (T := x.2.2.1.2) (n := n) (by omega) (by omega) (by omega)
  rw [least_eq hc hin (n := n) (by omega), least_eq hc hin (n := n + 1) (by omega)]
  have e : ((n + 1 : Nat) : Int) * x.2.2.1.2 = (n : Int) * x.2.2.1.2 + x.2.2.1.2 := by rw [Int.natCast_add, Int.add_mul]; omega
  rw [e]
  exact max_step (by omega) (by omega) (by omega) t1 t2 (by omega)
theorem most_step {x : Fi} {k : Int} (hc : checkB x = true) (hin : inReels x k = true) {n : Nat} (hn : n < 2000) : (if (0 : Int) < w64 (mostI x k n - x.2.2.1.1) then w64 (mostI x k n - x.2.2.1.1) else 0) = mostI x k (n + 1 : Nat) ∧ mostI x k (n + 1 : Nat) ≤ mostI x k n := by
  obtain ⟨h1, h2, h3, h4, h5, h6⟩ := feet_of hc hin
  obtain ⟨t1, t2, _⟩ := tear_small (T := x.2.2.1.1) (n := n) (by omega) (by omega) (by omega)
  rw [most_eq hc hin (n := n) (by omega), most_eq hc hin (n := n + 1) (by omega)]
  have e : ((n + 1 : Nat) : Int) * x.2.2.1.1 = (n : Int) * x.2.2.1.1 + x.2.2.1.1 := by rw [Int.natCast_add, Int.add_mul]; omega
  rw [e]
  exact max_step (by omega) (by omega) (by omega) t1 t2 (by omega)
theorem least_zero {x : Fi} {k : Int} (hc : checkB x = true) (hin : inReels x k = true) : leastI x k (0 : Nat) = (reelAt x k).2.2.1 := by
  obtain ⟨h1, h2, h3, h4, h5, h6⟩ := feet_of hc hin
  rw [least_eq hc hin (n := 0) (by omega)]
  unfold maxI
  split <;> omega
theorem most_zero {x : Fi} {k : Int} (hc : checkB x = true) (hin : inReels x k = true) : mostI x k (0 : Nat) = (reelAt x k).2.2.2 := by
  obtain ⟨h1, h2, h3, h4, h5, h6⟩ := feet_of hc hin
  rw [most_eq hc hin (n := 0) (by omega)]
  unfold maxI
  split <;> omega

theorem worn_ok {x : Fi} {k n : Int} (hc : checkB x = true) (hin : inReels x k = true) (hn0 : 0 ≤ n) (hn : n ≤ 999) : WornI x k n = (wornS x k n, 0) := by
  have hl := check_len hc
  have h1 : isReelB x k = true := by
    simp only [inReels, Bool.and_eq_true, decide_eq_true_eq] at hin
    simp only [isReelB, amid, Bool.and_eq_true, decide_eq_true_eq]
    rw [w64_small (by omega) (by omega)]
    omega
  have h2 : amid n 0 999 = true := by simp [amid, hn0, hn]
  unfold WornI
  rw [h1, h2, Bool.and_true, asked_true hc, if_pos rfl]

theorem f12_loop (x : Fi) (ns : List Int) (hc : checkB x = true) (hin : inReels x (turnI (ns.getD 0 0) x.1.length) = true) (s : Nat) (hs : turnI (ns.getD 1 0) 999 = (s : Int)) (hs2 : s < 999) (N : Nat) : ∀ (m i : Nat), i + m = s → f12_L0 x ns N (m + 1) (leastI x (turnI (ns.getD 0 0) x.1.length) i) (mostI x (turnI (ns.getD 0 0) x.1.length) i) i = some (.bool true)
  | 0, i, h => by
    have e : f12_L0 x ns N (0 + 1) (leastI x (turnI (ns.getD 0 0) x.1.length) i) (mostI x (turnI (ns.getD 0 0) x.1.length) i) i = f12_s0 x ns (f12_L0 x ns N 0) (leastI x (turnI (ns.getD 0 0) x.1.length) i) (mostI x (turnI (ns.getD 0 0) x.1.length) i) i := rfl
    rw [e]
    have hi : i = s := by omega
    subst hi
    unfold f12_s0
    rw [hs]
    have hw : w64 ((i : Int) + 1) = ((i + 1 : Nat) : Int) := w64_succ (n := 2000) (by omega) (by omega)
    rw [hw, worn_ok hc hin (n := (i : Int)) (by omega) (by omega), worn_ok hc hin (n := ((i + 1 : Nat) : Int)) (by omega) (by omega)]
    have h1 : decide ((i : Int) < (i : Int)) = false := by simp
    have h2 := (least_step hc hin (n := i) (by omega)).2
    have h3 := (most_step hc hin (n := i) (by omega)).2
    simp only [wornS, mk2, h1, h2, h3, decide_true, cond_true, cond_false, Bool.and_self, turnedB]
  | m + 1, i, h => by
    have e : f12_L0 x ns N (m + 1 + 1) (leastI x (turnI (ns.getD 0 0) x.1.length) i) (mostI x (turnI (ns.getD 0 0) x.1.length) i) i = f12_s0 x ns (f12_L0 x ns N (m + 1)) (leastI x (turnI (ns.getD 0 0) x.1.length) i) (mostI x (turnI (ns.getD 0 0) x.1.length) i) i := rfl
    rw [e]
    unfold f12_s0
    rw [hs]
    have hw : w64 ((i : Int) + 1) = ((i + 1 : Nat) : Int) := w64_succ (n := 2000) (by omega) (by omega)
    have h1 : decide ((i : Int) < (s : Int)) = true := by simp; omega
    rw [h1, cond_true, hw, (least_step hc hin (n := i) (by omega)).1, (most_step hc hin (n := i) (by omega)).1]
    exact f12_loop x ns hc hin s hs hs2 N m (i + 1) (by omega)

theorem f12_sp (x0 : Fi) (x1 : List Int) (hp : endsOK x0 x1 = true) : ∃ (N : Nat) (r0 : AV), f12_T x0 x1 N = some r0 ∧ wkAV r0 = enc .bool (endsB x0 x1) := by
  have h : chkOK x0 = true := hp
  have h3 : ∀ a b, chkOK3 x0 a b = true := fun _ _ => h
  refine ⟨(turnI (x1.getD 1 0) 999).toNat + 1, .bool true, ?_, rfl⟩
  unfold f12_T f12_s
  rw [h]
  cases hc : soundB x0 with
  | false => rfl
  | true =>
    have hc' : checkB x0 = true := hc
    have hl := check_len hc'
    have hk := turn_range (n := x1.getD 0 0) (m := x0.1.length) (by omega) (by omega)
    have hs := turn_range (n := x1.getD 1 0) (m := 999) (by omega) (by omega)
    have hin : inReels x0 (turnI (x1.getD 0 0) x0.1.length) = true := by
      simp only [inReels, Bool.and_eq_true, decide_eq_true_eq]
      exact hk
    have hk2 : (decide (0 ≤ (turnI (x1.getD 0 (0 : Int)) (x0.1.length : Int))) && decide ((turnI (x1.getD 0 (0 : Int)) (x0.1.length : Int)) < (x0.1.length : Int))) = true := hin
    obtain ⟨s, hs3⟩ := Int.eq_ofNat_of_zero_le hs.1
    have hfin := f12_loop x0 x1 hc' hin s hs3 (by omega) (s + 1) s 0 (by omega)
    have e2 : (turnI (x1.getD 1 0) 999).toNat = s := by rw [hs3]; rfl
    rw [e2]
    rw [least_zero hc' hin, most_zero hc' hin] at hfin
    simp only [h3, hk2, Bool.not_true, cond_false, cond_true, decide_true, Bool.and_self, show decide ((0 : Int) < 2) = true from rfl, show decide ((1 : Int) < 2) = true from rfl, show decide ((0 : Int) ≤ 1) = true from rfl, show decide ((0 : Int) ≤ 0) = true from rfl]
    exact hfin

end Ev
end Go.Proofs.YtidnikjkpbmhhaaDoor
/- Joining reels one by one, as far as there is room: no other way needs fewer spools. -/
set_option linter.unusedVariables false
set_option linter.unusedSimpArgs false
namespace Go.Proofs.YtidnikjkpbmhhaaDoor
namespace Ev

/-- How many reels each spool has, from one on that has c already. -/
def seg (S : Int) : List Int → Int → Int → List Int
  | [], c, _ => [c]
  | w :: r, c, room => if room < w then c :: seg S r 1 (S - w) else seg S r (c + 1) (room - w)
/-- How many spools more. -/
def nl (S : Int) : List Int → Int → Nat
  | [], _ => 0
  | w :: r, room => if room < w then nl S r (S - w) + 1 else nl S r (room - w)
theorem seg_len (S : Int) : ∀ (r : List Int) (c room : Int), (seg S r c room).length = nl S r room + 1
  | [], c, room => rfl
  | w :: r, c, room => by
    rw [seg, nl]
    split
    · rw [List.length_cons, seg_len S r]
    · exact seg_len S r _ _

/-- Another way to join: it may end a spool where it need not. -/
def ot (S : Int) : List (Int × Bool) → Int → Nat
  | [], _ => 0
  | (w, f) :: r, room => if room < w ∨ f = true then ot S r (S - w) + 1 else ot S r (room - w)

theorem ahead {S S' : Int} (hS : S ≤ S') : ∀ (l : List (Int × Int × Bool)), (∀ x ∈ l, 0 ≤ x.2.1 ∧ x.1 ≤ x.2.1) → (∀ g a : Int, a ≤ S → a ≤ g → nl S' (l.map (·.1)) g ≤ ot S (l.map (·.2)) a) ∧ ∀ g a : Int, a ≤ S → 0 ≤ g → nl S' (l.map (·.1)) g ≤ ot S (l.map (·.2)) a + 1
  | [], h => ⟨fun _ _ _ _ => Nat.le_refl _, fun _ _ _ _ => Nat.zero_le _⟩
  | (w', w, f) :: l, h => by
    obtain ⟨A, Bq⟩ := ahead hS l fun x hx => h x (List.mem_cons_of_mem _ hx)
    obtain ⟨h1, h2⟩ := h (w', w, f) (List.mem_cons_self ..)
    dsimp only at h1 h2
    constructor
    · intro g a ha hga
      simp only [List.map_cons, nl, ot]
      by_cases c1 : g < w'
      · rw [if_pos c1, if_pos (.inl (by omega))]
        have := A (S' - w') (S - w) (by omega) (by omega)
        omega
      · rw [if_neg c1]
        split
        · exact Bq _ _ (by omega) (by omega)
        · exact A _ _ (by omega) (by omega)
    · intro g a ha hg
      simp only [List.map_cons, nl, ot]
      by_cases c1 : g < w'
      · rw [if_pos c1]
        split
        · have := A (S' - w') (S - w) (by omega) (by omega)
          omega
        · have := A (S' - w') (a - w) (by omega) (by omega)
          omega
      · rw [if_neg c1]
        split
        · have := Bq (g - w') (S - w) (by omega) (by omega)
          omega
        · exact Bq _ _ (by omega) (by omega)

def sumZ : List Int → Int
  | [] => 0
  | x :: l => x + sumZ l
theorem sumZ_append : ∀ a b : List Int, sumZ (a ++ b) = sumZ a + sumZ b
  | [], b => by simp [sumZ]
  | x :: a, b => by
    simp only [List.cons_append, sumZ, sumZ_append a b]
    omega
theorem sumZ_nonneg : ∀ l : List Int, (∀ x ∈ l, 0 ≤ x) → 0 ≤ sumZ l
  | [], _ => Int.le_refl _
  | x :: l, h => by
    have := sumZ_nonneg l fun y hy => h y (List.mem_cons_of_mem _ hy)
    have := h x (List.mem_cons_self ..)
    simp only [sumZ]
    omega
theorem sumI_eq : ∀ (l : List Int) (a : Int), (∀ x ∈ l, 0 ≤ x ∧ x ≤ 100000) → 0 ≤ a → a + 100000 * l.length ≤ 4611686018427387904 → sumI l a = a + sumZ l
  | [], a, h, h0, h1 => by simp [sumI, sumZ]
  | x :: l, a, h, h0, h1 => by
    have hx := h x (List.mem_cons_self ..)
    simp only [List.length_cons, Int.natCast_add, Int.mul_add] at h1
    rw [sumI, w64_small (by omega) (by omega), sumI_eq l (a + x) (fun y hy => h y (List.mem_cons_of_mem _ hy)) (by omega) (by omega), sumZ]
    omega

/-- Each spool is full as far as reels come. -/
def GS (S : Int) : List Int → List Int → Prop
  | [], f => f = []
  | c :: cs, f => 1 ≤ c ∧ c ≤ f.length ∧ sumZ (f.take c.toNat) ≤ S ∧ (∀ w, f[c.toNat]? = some w → S < sumZ (f.take c.toNat) + w) ∧ GS S cs (f.drop c.toNat)

theorem seg_gs (S : Int) : ∀ (r pre : List Int) (room : Int), (∀ w ∈ r, 0 ≤ w ∧ w ≤ S) → pre ≠ [] → sumZ pre = S - room → 0 ≤ room → GS S (seg S r pre.length room) (pre ++ r)
  | [], pre, room, h, hp, hs, h0 => by
    have := List.length_pos_iff.2 hp
    rw [seg, GS, List.append_nil]
    refine ⟨by omega, by omega, ?_, ?_, ?_⟩
    · simp only [Int.toNat_natCast, List.take_length]
      omega
    · intro w hw
      simp at hw
    · simp [GS]
  | w :: r, pre, room, h, hp, hs, h0 => by
    have hpl := List.length_pos_iff.2 hp
    obtain ⟨hw0, hwS⟩ := h w (List.mem_cons_self ..)
    rw [seg]
    split
    · rename_i hlt
      rw [GS]
      refine ⟨by omega, by simp; omega, ?_, ?_, ?_⟩
      · rw [Int.toNat_natCast, List.take_left]
        omega
      · intro v hv
        simp only [Int.toNat_natCast] at hv ⊢
        rw [List.getElem?_append_right (Nat.le_refl _), Nat.sub_self, List.getElem?_cons_zero] at hv
        cases hv
        rw [List.take_left]
        omega
      · simp only [Int.toNat_natCast]
        rw [List.drop_left]
        have := seg_gs S r [w] (S - w) (fun v hv => h v (List.mem_cons_of_mem _ hv)) (by simp) (by simp only [sumZ]; omega) (by omega)
        simpa using this
    · have := seg_gs S r (pre ++ [w]) (room - w) (fun v hv => h v (List.mem_cons_of_mem _ hv)) (by simp) (by rw [sumZ_append]; simp only [sumZ]; omega) (by omega)
      simpa using this

theorem gs_sum (S : Int) : ∀ (l f : List Int), GS S l f → sumZ l = f.length ∧ ∀ c ∈ l, 0 ≤ c ∧ c ≤ f.length
  | [], f, h => by
    simp only [GS] at h
    subst h
    exact ⟨rfl, by simp⟩
  | c :: cs, f, h => by
    simp only [GS] at h
    obtain ⟨h1, h2, _, _, h5⟩ := h
    obtain ⟨g1, g2⟩ := gs_sum S cs _ h5
    rw [List.length_drop] at g1 g2
    refine ⟨by simp only [sumZ, g1]; omega, fun d hd => ?_⟩
    rcases List.mem_cons.1 hd with rfl | hd
    · omega
    · have := g2 d hd
      omega

theorem incLast_app (l : List Int) (c : Int) (h0 : 0 ≤ c) (h1 : c ≤ 100000) : incLast (l ++ [c]) = l ++ [c + 1] := by
  unfold incLast
  rw [w64_small (by simp; omega) (by simp; omega)]
  simp

theorem spGo_seg {x : Fi} {n : Int} (hS : 0 ≤ x.2.2.2) (hS2 : x.2.2.2 ≤ 6000) : ∀ (l done : List Int) (c room : Int), (∀ k ∈ l, mostI x k n ≤ x.2.2.2) → 0 ≤ room → room ≤ 6000 → 0 ≤ c → c + l.length ≤ 1000 → spGo x n l (done ++ [c]) room = (done ++ seg x.2.2.2 (l.map fun k => mostI x k n) c room, true)
  | [], done, c, room, h, h0, h1, h2, h3 => rfl
  | k :: l, done, c, room, h, h0, h1, h2, h3 => by
    have hk := h k (List.mem_cons_self ..)
    have hk0 := most_nonneg x k n
    simp only [List.length_cons, Int.natCast_add] at h3
    rw [spGo, if_neg (by omega), List.map_cons, seg]
    split
    · rw [w64_small (by omega) (by omega), show done ++ [c] ++ [0] = (done ++ [c]) ++ [0] from rfl, incLast_app (done ++ [c]) 0 (by omega) (by omega)]
      rw [show (0 : Int) + 1 = 1 from rfl, spGo_seg hS hS2 l (done ++ [c]) 1 _ (fun j hj => h j (List.mem_cons_of_mem _ hj)) (by omega) (by omega) (by omega) (by omega)]
      simp
    · rw [w64_small (by omega) (by omega), incLast_app done c h2 (by omega)]
      exact spGo_seg hS hS2 l done (c + 1) _ (fun j hj => h j (List.mem_cons_of_mem _ hj)) (by omega) (by omega) (by omega) (by omega)

theorem spGo_large {x : Fi} {n : Int} : ∀ (l out : List Int) (room : Int), (∃ k ∈ l, x.2.2.2 < mostI x k n) → spGo x n l out room = ([], false)
  | [], out, room, h => by simp at h
  | k :: l, out, room, h => by
    rw [spGo]
    split
    · rfl
    · rename_i hk
      have h' : ∃ j ∈ l, x.2.2.2 < mostI x j n := by
        obtain ⟨j, hj, hl⟩ := h
        rcases List.mem_cons.1 hj with rfl | hj
        · exact absurd hl hk
        · exact ⟨j, hj, hl⟩
      split
      · exact spGo_large l _ _ h'
      · exact spGo_large l _ _ h'

theorem spools_seg {x : Fi} {n : Int} (hS : 0 ≤ x.2.2.2) (hS2 : x.2.2.2 ≤ 6000) {k : Int} {l : List Int} (h : ∀ j ∈ k :: l, mostI x j n ≤ x.2.2.2) (hl : l.length ≤ 900) : spoolsF x (k :: l) n = (seg x.2.2.2 (l.map fun k => mostI x k n) 1 (x.2.2.2 - mostI x k n), true) := by
  have hk := h k (List.mem_cons_self ..)
  have hk0 := most_nonneg x k n
  unfold spoolsF
  rw [spGo, if_neg (by omega), if_pos (by omega), w64_small (by omega) (by omega), incLast_app [] 0 (by omega) (by omega)]
  exact spGo_seg hS hS2 l [] 1 _ (fun j hj => h j (List.mem_cons_of_mem _ hj)) (by omega) (by omega) (by omega) (by omega)

end Ev
end Go.Proofs.YtidnikjkpbmhhaaDoor
/- The law of the spools: what the walk comes to is true. -/
set_option linter.unusedVariables false
set_option linter.unusedSimpArgs false
set_option maxRecDepth 4000
namespace Go.Proofs.YtidnikjkpbmhhaaDoor
namespace Ev

theorem shuf_spec (bits : List Int) : ∀ (m i : Nat) (out : List Int), (∀ k ∈ out, 0 ≤ k ∧ k < i) → out.Nodup → (∀ k ∈ shufG bits m i out, 0 ≤ k ∧ k < ((i + m : Nat) : Int)) ∧ (shufG bits m i out).Nodup
  | 0, i, out, h1, h2 => ⟨h1, h2⟩
  | m + 1, i, out, h1, h2 => by
    rw [shufG]
    have hp : ∀ t : Nat, (((([] : List Int) ++ out.take t) ++ [(i : Int)]) ++ out.drop t).Perm ((i : Int) :: out) := fun t => by
      have := List.perm_middle (a := (i : Int)) (l₁ := out.take t) (l₂ := out.drop t)
      rw [List.take_append_drop] at this
      simpa using this
    have := shuf_spec bits m (i + 1) (((([] : List Int) ++ out.take (turnI (pickI bits (i : Int)) ((out.length : Int) + 1)).toNat) ++ [(i : Int)]) ++ out.drop (turnI (pickI bits (i : Int)) ((out.length : Int) + 1)).toNat) (fun k hk => by
      rcases List.mem_cons.1 ((hp _).mem_iff.1 hk) with rfl | hk
      · omega
      · have := h1 k hk
        omega) ((hp _).nodup_iff.2 (List.nodup_cons.2 ⟨fun h => by have := h1 _ h; omega, h2⟩))
    rw [show i + (m + 1) = i + 1 + m by omega]
    exact this
theorem are_of (n : Nat) (hn : n ≤ 1000) (hn0 : 1 ≤ n) : ∀ (l pre : List Int), (∀ k ∈ l, 0 ≤ k ∧ k < n) → (∀ k ∈ l, k ∉ pre) → l.Nodup → areFrom n pre l = true
  | [], pre, _, _, _ => rfl
  | k :: r, pre, h1, h2, h3 => by
    rw [List.nodup_cons] at h3
    have hk := h1 k (List.mem_cons_self ..)
    rw [areFrom, are_of n hn hn0 r (pre ++ [k]) (fun j hj => h1 j (List.mem_cons_of_mem _ hj)) (fun j hj hp => by
      rcases List.mem_append.1 hp with hp | hp
      · exact h2 j (List.mem_cons_of_mem _ hj) hp
      · simp at hp
        exact h3.1 (hp ▸ hj)) h3.2]
    have e1 : amid k 0 (w64 ((n : Int) - 1)) = true := by
      unfold amid
      rw [w64_small (by omega) (by omega), decide_eq_true (by omega), decide_eq_true (by omega)]
      rfl
    rw [e1, decide_eq_false (h2 k (List.mem_cons_self ..))]
    rfl
theorem shuf_are {x : Fi} (hc : checkB x = true) (bits : List Int) : areReelsB x (shufI (x.1.length : Int) bits) = true ∧ (shufI (x.1.length : Int) bits).length = x.1.length := by
  have hl := check_len hc
  unfold shufI
  rw [show (x.1.length : Int).toNat = x.1.length by simp]
  obtain ⟨h1, h2⟩ := shuf_spec bits x.1.length 0 [] (fun k hk => by simp at hk) List.nodup_nil
  refine ⟨are_of x.1.length (by omega) (by omega) _ [] (fun k hk => by have := h1 k hk; omega) (fun k _ h => by simp at h) h2, ?_⟩
  rw [shuf_len]
  simp

theorem spoolsI_ok {x : Fi} {l : List Int} {n : Int} (hc : checkB x = true) (ha : areReelsB x l = true) (h0 : 0 < l.length) (hn0 : 0 ≤ n) (hn : n ≤ 999) : SpoolsI x l n = if (spoolsF x l n).2 = true then ((spoolsF x l n).1, 0) else ([], 4) := by
  have e1 : decide (0 < (l.length : Int)) = true := by simp; omega
  have e2 : amid n 0 999 = true := by simp [amid, hn0, hn]
  unfold SpoolsI joinedI
  rw [e1, ha, e2, Bool.and_true, Bool.and_true, if_pos (asked_true hc)]
  split <;> rfl

def flagsFrom (bits : List Int) : Nat → List Int → List (Int × Bool)
  | _, [] => []
  | i, w :: r => (w, decide (turnI (pickI bits (i : Int)) 3 = 0)) :: flagsFrom bits (i + 1) r

section
variable {x : Fi} {bits ns : List Int} {O : List Int} {n : Int} {l : List Int}

theorem l5_run (hb : lenOK bits = true) (hO : shufI (x.1.length : Int) bits = O) (hn : turnI (ns.getD 0 (0 : Int)) (200 : Int) = n) (hSPL : SpoolsI x O n = (l, 0)) (hS : 0 ≤ x.2.2.2) (hS2 : x.2.2.2 ≤ 6000) (N : Nat) {feet : List Int} (hf : ∀ w ∈ feet, 0 ≤ w ∧ w ≤ x.2.2.2) (hfl : feet.length ≤ 100) : ∀ (m i c : Nat) (a : Int) (N' : Nat), i + m = feet.length → m < N' → 1 ≤ c → c ≤ 200 + i → 0 ≤ a → a ≤ x.2.2.2 → l.length ≤ c + ot x.2.2.2 (flagsFrom bits i (feet.drop i)) a → f14_L5 x bits ns N N' feet c a i = some (.bool true)
  | 0, i, c, a, N' + 1, hi, hN, hc, hc2, ha, ha2, hle => by
    have e : f14_L5 x bits ns N (N' + 1) feet c a i = f14_s5 x bits ns (f14_L5 x bits ns N N') feet c a i := rfl
    rw [e]
    unfold f14_s5
    rw [hO, hn, hSPL, decide_eq_false (show ¬ (i : Int) < (feet.length : Int) by omega)]
    rw [List.drop_eq_nil_of_le (by omega)] at hle
    simp only [flagsFrom, ot, Nat.add_zero] at hle
    rw [decide_eq_true (show (l.length : Int) ≤ (c : Int) by omega)]
    rfl
  | m + 1, i, c, a, N' + 1, hi, hN, hc, hc2, ha, ha2, hle => by
    have e : f14_L5 x bits ns N (N' + 1) feet c a i = f14_s5 x bits ns (f14_L5 x bits ns N N') feet c a i := rfl
    have hlt : i < feet.length := by omega
    obtain ⟨hw0, hwS⟩ := hf _ (List.getElem_mem hlt)
    have hpk : pickOK2 bits (i : Int) = true := hb
    rw [List.drop_eq_getElem_cons hlt, flagsFrom, ot] at hle
    rw [e]
    unfold f14_s5
    have h1 : (decide (0 ≤ (i : Int)) && decide ((i : Int) < (feet.length : Int))) = true := by simp; omega
    rw [get_int hlt, h1, decide_eq_true (show (i : Int) < (feet.length : Int) by omega), decide_eq_false (show ¬ (c : Int) = 0 by omega), hpk, w64_succ (i := i) (n := 3000) (by omega) (by omega), w64_succ (i := c) (n := 3000) (by omega) (by omega), w64_small (n := x.2.2.2 - feet[i]) (by omega) (by omega)]
    simp only [cond_true, cond_false]
    by_cases h2 : a < feet[i]
    · rw [decide_eq_true h2, cond_true]
      rw [if_pos (.inl h2)] at hle
      exact l5_run hb hO hn hSPL hS hS2 N hf hfl m (i + 1) (c + 1) _ N' (by omega) (by omega) (by omega) (by omega) (by omega) (by omega) (by omega)
    · rw [decide_eq_false h2, cond_false, w64_small (n := a - feet[i]) (by omega) (by omega)]
      by_cases h3 : turnI (pickI bits (i : Int)) 3 = 0
      · rw [decide_eq_true h3, cond_true]
        rw [if_pos (.inr (decide_eq_true h3))] at hle
        exact l5_run hb hO hn hSPL hS hS2 N hf hfl m (i + 1) (c + 1) _ N' (by omega) (by omega) (by omega) (by omega) (by omega) (by omega) (by omega)
      · rw [decide_eq_false h3, cond_false]
        rw [if_neg (fun h => h.elim h2 fun h => by simp [h3] at h)] at hle
        exact l5_run hb hO hn hSPL hS hS2 N hf hfl m (i + 1) c _ N' (by omega) (by omega) (by omega) (by omega) (by omega) (by omega) (by omega)

theorem l3_run (hO : shufI (x.1.length : Int) bits = O) (hn : turnI (ns.getD 0 (0 : Int)) (200 : Int) = n) (hSPL : SpoolsI x O n = (l, 0)) (hS : 0 ≤ x.2.2.2) (hS2 : x.2.2.2 ≤ 6000) (N : Nat) {feet : List Int} (hf : ∀ w ∈ feet, 0 ≤ w ∧ w ≤ x.2.2.2) (hfl : feet.length ≤ 100) (hll : l.length ≤ 100) (hfo : feet.length = O.length) (h5 : f14_L5 x bits ns N N feet 0 0 0 = some (.bool true)) : ∀ (m i : Nat) (p : Nat) (N' : Nat), i + m = l.length → m < N' → p ≤ feet.length → GS x.2.2.2 (l.drop i) (feet.drop p) → f14_L3 x bits ns N N' feet p i = some (.bool true)
  | 0, i, p, N' + 1, hi, hN, hp, hg => by
    have e : f14_L3 x bits ns N (N' + 1) feet p i = f14_s3 x bits ns (f14_L3 x bits ns N N') (f14_L5 x bits ns N N) feet p i := rfl
    rw [e]
    unfold f14_s3
    rw [hO, hn, hSPL, decide_eq_false (show ¬ (i : Int) < (l.length : Int) by omega)]
    exact h5
  | m + 1, i, p, N' + 1, hi, hN, hp, hg => by
    have e : f14_L3 x bits ns N (N' + 1) feet p i = f14_s3 x bits ns (f14_L3 x bits ns N N') (f14_L5 x bits ns N N) feet p i := rfl
    have hlt : i < l.length := by omega
    rw [List.drop_eq_getElem_cons hlt] at hg
    simp only [GS, List.length_drop] at hg
    obtain ⟨g1, g2, g3, g4, g5⟩ := hg
    obtain ⟨c, hc⟩ := Int.eq_ofNat_of_zero_le (show 0 ≤ l[i] by omega)
    rw [hc] at g1 g2 g3 g4 g5
    simp only [Int.toNat_natCast, List.drop_drop] at g3 g4 g5
    have hw1 : w64 ((p : Int) + (c : Int)) = ((p + c : Nat) : Int) := by rw [w64_small (by omega) (by omega)]; omega
    have hsl : (feet.take (p + c)).drop p = (feet.drop p).take c := by rw [List.drop_take]; congr 1; omega
    have hmem : ∀ w ∈ (feet.drop p).take c, 0 ≤ w ∧ w ≤ 100000 := fun w hw => by
      have := hf w (List.mem_of_mem_drop (List.mem_of_mem_take hw))
      omega
    have hsum : sumI0 ((feet.drop p).take c) = sumZ ((feet.drop p).take c) := by
      unfold sumI0
      rw [sumI_eq _ 0 hmem (by omega) (by simp; omega)]
      omega
    have hsn := sumZ_nonneg _ fun w hw => (hmem w hw).1
    have hlk : lenOK ((feet.drop p).take c) = true := by
      unfold lenOK
      refine Nat.ble_eq_true_of_le ?_
      simp
      omega
    rw [e]
    unfold f14_s3
    have h1 : (decide (0 ≤ (i : Int)) && decide ((i : Int) < (l.length : Int))) = true := by simp; omega
    have h2 : (decide (0 ≤ (p : Int)) && (decide ((p : Int) ≤ ((p + c : Nat) : Int)) && decide (((p + c : Nat) : Int) ≤ (feet.length : Int)))) = true := by simp; omega
    have h3 : w64 ((O.length : Int) - (p : Int)) = (O.length : Int) - (p : Int) := w64_small (by omega) (by omega)
    simp only [hO, hn, hSPL]
    rw [get_int hlt, h1, hc, hw1, h3, h2, decide_eq_true (show (i : Int) < (l.length : Int) by omega), decide_eq_false (show ¬ (c : Int) < 1 by omega), decide_eq_false (show ¬ (O.length : Int) - (p : Int) < (c : Int) by omega), Int.toNat_natCast, Int.toNat_natCast, hsl, hlk, hsum, decide_eq_false (show ¬ x.2.2.2 < sumZ ((feet.drop p).take c) by omega)]
    simp only [cond_true, cond_false]
    have hnext : f14_L3 x bits ns N N' feet ((p + c : Nat) : Int) (w64 ((i : Int) + 1)) = some (.bool true) := by
      rw [w64_succ (i := i) (n := 3000) (by omega) (by omega)]
      exact l3_run hO hn hSPL hS hS2 N hf hfl hll hfo h5 m (i + 1) (p + c) N' (by omega) (by omega) (by omega) g5
    by_cases h4 : p + c < feet.length
    · have h6 : (decide (0 ≤ ((p + c : Nat) : Int)) && decide (((p + c : Nat) : Int) < (feet.length : Int))) = true := by simp; omega
      have h7 := g4 (feet[p + c]) (by rw [List.getElem?_drop, List.getElem?_eq_getElem h4])
      have h8 := hf _ (List.getElem_mem h4)
      have h9 : feet.getD (p + c) (0 : Int) = feet[p + c] := by simp [List.getD, h4]
      rw [h6, h9, decide_eq_true (show ((p + c : Nat) : Int) < (feet.length : Int) by omega), cond_true]
      rw [cond_true]
      rw [w64_small (by omega) (by omega), decide_eq_false (show ¬ sumZ ((feet.drop p).take c) + feet[p + c] ≤ x.2.2.2 by omega)]
      exact hnext
    · rw [decide_eq_false (show ¬ ((p + c : Nat) : Int) < (feet.length : Int) by omega), cond_false]
      exact hnext

def bigB (x : Fi) (n k : Int) : Bool := decide (x.2.2.2 < mostI x k n)

theorem l1_run (hc : checkB x = true) (hO : shufI (x.1.length : Int) bits = O) (hn : turnI (ns.getD 0 (0 : Int)) (200 : Int) = n) (hn0 : 0 ≤ n) (hn1 : n ≤ 999) (hch : chkOK x = true) (hin : ∀ k ∈ O, inReels x k = true) (hOl : O.length ≤ 100) (hm : ∀ k ∈ O, 0 ≤ mostI x k n ∧ mostI x k n ≤ 1200) (N : Nat) (hE : ∀ K, f14_s1 x bits ns K (f14_L3 x bits ns N N) (O.map fun k => mostI x k n) (O.any (bigB x n)) (O.length : Int) = some (.bool true)) : ∀ (m i N' : Nat), i + m = O.length → m < N' → f14_L1 x bits ns N N' ((O.take i).map fun k => mostI x k n) ((O.take i).any (bigB x n)) i = some (.bool true)
  | 0, i, N' + 1, hi, hN => by
    have e : f14_L1 x bits ns N (N' + 1) ((O.take i).map fun k => mostI x k n) ((O.take i).any (bigB x n)) i = f14_s1 x bits ns (f14_L1 x bits ns N N') (f14_L3 x bits ns N N) ((O.take i).map fun k => mostI x k n) ((O.take i).any (bigB x n)) i := rfl
    rw [e, List.take_of_length_le (by omega), show i = O.length by omega]
    exact hE _
  | m + 1, i, N' + 1, hi, hN => by
    have e : f14_L1 x bits ns N (N' + 1) ((O.take i).map fun k => mostI x k n) ((O.take i).any (bigB x n)) i = f14_s1 x bits ns (f14_L1 x bits ns N N') (f14_L3 x bits ns N N) ((O.take i).map fun k => mostI x k n) ((O.take i).any (bigB x n)) i := rfl
    have hlt : i < O.length := by omega
    have hk := List.getElem_mem hlt
    have hch3 : ∀ a b, chkOK3 x a b = true := fun _ _ => hch
    obtain ⟨hm0, hm1⟩ := hm _ hk
    have hnext := l1_run hc hO hn hn0 hn1 hch hin hOl hm N hE m (i + 1) N' (by omega) (by omega)
    rw [List.take_succ_eq_append_getElem hlt, List.map_append, List.any_append] at hnext
    simp only [List.map_cons, List.map_nil, List.any_cons, List.any_nil, Bool.or_false] at hnext
    rw [e]
    have h1 : (decide (0 ≤ (i : Int)) && decide ((i : Int) < (O.length : Int))) = true := by simp; omega
    have hro : roomy ((O.take i).map fun k => mostI x k n).length [mostI x O[i] n].length 8 = true := by
      unfold roomy
      refine Nat.ble_eq_true_of_le ?_
      simp
      omega
    unfold f14_s1
    simp only [hO, hn, get_int hlt, h1, hch3, worn_ok hc (hin _ hk) hn0 hn1, wornS, decide_eq_true (show (i : Int) < (O.length : Int) by omega), decide_eq_false (show ¬ mostI x O[i] n < 0 by omega), decide_eq_false (show ¬ (1200 : Int) < mostI x O[i] n by omega), cond_true, cond_false, decide_true, Bool.not_true, hro, w64_succ (i := i) (n := 3000) (by omega) (by omega)]
    cases hb : (O.take i).any (bigB x n) with
    | true =>
      rw [hb, Bool.true_or] at hnext
      exact hnext
    | false =>
      rw [hb, Bool.false_or] at hnext
      exact hnext
end

theorem ot_false (S : Int) : ∀ (l : List Int) (a : Int), ot S (l.map fun w => (w, false)) a = nl S l a
  | [], a => rfl
  | w :: l, a => by
    rw [List.map_cons, ot, nl]
    simp only [Bool.false_eq_true, or_false]
    rw [ot_false S l, ot_false S l]
theorem nl_ot {S : Int} (fl : List (Int × Bool)) (h : ∀ p ∈ fl, 0 ≤ p.1) {g a : Int} (ha : a ≤ S) (hga : a ≤ g) : nl S (fl.map (·.1)) g ≤ ot S fl a := by
  have := (ahead (Int.le_refl S) (fl.map fun p => (p.1, p.1, p.2)) (fun q hq => by
    obtain ⟨p, hp, rfl⟩ := List.mem_map.1 hq
    exact ⟨h p hp, Int.le_refl _⟩)).1 g a ha hga
  simpa [List.map_map, Function.comp_def] using this
theorem nl_mono {S S' : Int} (hS : S ≤ S') (ps : List (Int × Int)) (h : ∀ p ∈ ps, 0 ≤ p.2 ∧ p.1 ≤ p.2) {g a : Int} (ha : a ≤ S) (hga : a ≤ g) : nl S' (ps.map (·.1)) g ≤ nl S (ps.map (·.2)) a := by
  have := (ahead hS (ps.map fun p => (p.1, p.2, false)) (fun q hq => by
    obtain ⟨p, hp, rfl⟩ := List.mem_map.1 hq
    exact h p hp)).1 g a ha hga
  have e : ot S (ps.map fun p => (p.2, false)) a = nl S (ps.map (·.2)) a := by
    rw [← ot_false, List.map_map]
    rfl
  rw [← e]
  simpa [List.map_map, Function.comp_def] using this
theorem nl_le (S : Int) : ∀ (r : List Int) (room : Int), nl S r room ≤ r.length
  | [], room => Nat.le_refl _
  | w :: r, room => by
    rw [nl]
    have := nl_le S r
    split
    · have := this (S - w)
      simp
      omega
    · have := this (room - w)
      simp
      omega
theorem flags_fst (bits : List Int) : ∀ (i : Nat) (l : List Int), (flagsFrom bits i l).map (·.1) = l
  | _, [] => rfl
  | i, w :: r => by rw [flagsFrom, List.map_cons, flags_fst bits (i + 1) r]

theorem most_le {x : Fi} {k : Int} (hc : checkB x = true) (hin : inReels x k = true) {n : Int} (h0 : 0 ≤ n) (hn : n ≤ 2000) : 0 ≤ mostI x k n ∧ mostI x k n ≤ 1200 := by
  obtain ⟨m, rfl⟩ := Int.eq_ofNat_of_zero_le h0
  obtain ⟨h1, h2, h3, h4, h5, h6⟩ := feet_of hc hin
  obtain ⟨t1, t2, _⟩ := tear_small (T := x.2.2.1.1) (n := m) (by omega) (by omega) (by omega)
  rw [most_eq hc hin (by omega)]
  unfold maxI
  split <;> omega
theorem most_anti {x : Fi} {k : Int} (hc : checkB x = true) (hin : inReels x k = true) {n n' : Int} (h0 : 0 ≤ n) (hn : n ≤ n') (hn' : n' ≤ 2000) : mostI x k n' ≤ mostI x k n := by
  obtain ⟨m, rfl⟩ := Int.eq_ofNat_of_zero_le h0
  obtain ⟨m', rfl⟩ := Int.eq_ofNat_of_zero_le (show 0 ≤ n' by omega)
  obtain ⟨h1, h2, h3, h4, h5, h6⟩ := feet_of hc hin
  have : (m : Int) * x.2.2.1.1 ≤ (m' : Int) * x.2.2.1.1 := Int.mul_le_mul_of_nonneg_right hn (by omega)
  rw [most_eq hc hin (by omega), most_eq hc hin (by omega)]
  unfold maxI
  repeat' split
  all_goals omega

theorem f14_small {x : Fi} {bits ns : List Int} {k0 : Int} {r : List Int} {n : Int} (hc : checkB x = true) (hb : lenOK bits = true) (hO : shufI (x.1.length : Int) bits = k0 :: r) (hn : turnI (ns.getD 0 (0 : Int)) (200 : Int) = n) (ha : areReelsB x (k0 :: r) = true) (hlO : r.length ≤ 5) (hsm : ∀ k ∈ k0 :: r, mostI x k n ≤ x.2.2.2) (hm : ∀ k ∈ k0 :: r, 0 ≤ mostI x k n ∧ mostI x k n ≤ 1200) (hin : ∀ k ∈ k0 :: r, inReels x k = true) (K : List Int → Bool → Int → Option AV) : f14_s1 x bits ns K (f14_L3 x bits ns 20 20) ((k0 :: r).map fun k => mostI x k n) false ((k0 :: r).length : Int) = some (.bool true) := by
  have hS : 1 ≤ x.2.2.2 ∧ x.2.2.2 ≤ 6000 := by
    simp only [checkB, amid, Bool.and_eq_true, decide_eq_true_eq] at hc
    exact hc.2.2.2.1
  have htn := turn_range (n := ns.getD 0 (0 : Int)) (m := 200) (by omega) (by omega)
  have ht1 := turn_range (n := ns.getD 1 (0 : Int)) (m := 900) (by omega) (by omega)
  have ht2 := turn_range (n := ns.getD 2 (0 : Int)) (m := 60) (by omega) (by omega)
  rw [hn] at htn
  have h0 : 0 < (k0 :: r).length := by simp
  -- the film as it is
  have hsp := spools_seg (x := x) (n := n) (by omega) hS.2 hsm (by omega)
  have hSPL : SpoolsI x (k0 :: r) n = (seg x.2.2.2 (r.map fun k => mostI x k n) 1 (x.2.2.2 - mostI x k0 n), 0) := by
    rw [spoolsI_ok hc ha h0 htn.1 (by omega), hsp, if_pos rfl]
  -- a larger spool
  obtain ⟨S', hS'⟩ : ∃ S', (if (w64 (x.2.2.2 + (turnI (ns.getD 1 (0 : Int)) (900 : Int)))) < (6000 : Int) then (w64 (x.2.2.2 + (turnI (ns.getD 1 (0 : Int)) (900 : Int)))) else (6000 : Int)) = S' := ⟨_, rfl⟩
  have hSS : x.2.2.2 ≤ S' ∧ S' ≤ 6000 := by
    rw [w64_small (by omega) (by omega)] at hS'
    split at hS' <;> omega
  have hc' : checkB (x.1, x.2.1, x.2.2.1, S') = true := by
    simp only [checkB, amid, Bool.and_eq_true, decide_eq_true_eq] at hc ⊢
    exact ⟨hc.1, hc.2.1, hc.2.2.1, ⟨by omega, by omega⟩, hc.2.2.2.2⟩
  have hsp' := spools_seg (x := (x.1, x.2.1, x.2.2.1, S')) (n := n) (k := k0) (l := r) (by dsimp only; omega) hSS.2 (fun j hj => Int.le_trans (hsm j hj) hSS.1) (by omega)
  have hSPL' : SpoolsI (x.1, x.2.1, x.2.2.1, S') (k0 :: r) n = (seg S' (r.map fun k => mostI x k n) 1 (S' - mostI x k0 n), 0) := by
    rw [spoolsI_ok hc' (show areReelsB (x.1, x.2.1, x.2.2.1, S') (k0 :: r) = true from ha) h0 htn.1 (by omega), hsp', if_pos rfl]
    rfl
  -- more shows
  obtain ⟨n', hn'⟩ : ∃ n', w64 (n + (turnI (ns.getD 2 (0 : Int)) (60 : Int))) = n' := ⟨_, rfl⟩
  have hnn : n ≤ n' ∧ n' ≤ 999 := by
    rw [w64_small (by omega) (by omega)] at hn'
    omega
  have hsp2 := spools_seg (x := x) (n := n') (k := k0) (l := r) (by omega) hS.2 (fun j hj => Int.le_trans (most_anti hc (hin j hj) htn.1 hnn.1 (by omega)) (hsm j hj)) (by omega)
  have hSPL2 : SpoolsI x (k0 :: r) n' = (seg x.2.2.2 (r.map fun k => mostI x k n') 1 (x.2.2.2 - mostI x k0 n'), 0) := by
    rw [spoolsI_ok hc ha h0 (by omega) hnn.2, hsp2, if_pos rfl]
  -- what is known of the spools
  have hk0 : k0 ∈ k0 :: r := List.mem_cons_self ..
  have hm0 := hm k0 hk0
  have hs0 := hsm k0 hk0
  have hgs := seg_gs x.2.2.2 (r.map fun k => mostI x k n) [mostI x k0 n] (x.2.2.2 - mostI x k0 n) (fun w hw => by
    obtain ⟨k, hk, rfl⟩ := List.mem_map.1 hw
    exact ⟨(hm k (List.mem_cons_of_mem _ hk)).1, hsm k (List.mem_cons_of_mem _ hk)⟩) (by simp) (by simp only [sumZ]; omega) (by omega)
  have hl1 := seg_len x.2.2.2 (r.map fun k => mostI x k n) 1 (x.2.2.2 - mostI x k0 n)
  have hl2 := seg_len S' (r.map fun k => mostI x k n) 1 (S' - mostI x k0 n)
  have hl3 := seg_len x.2.2.2 (r.map fun k => mostI x k n') 1 (x.2.2.2 - mostI x k0 n')
  have hnl := nl_le x.2.2.2 (r.map fun k => mostI x k n) (x.2.2.2 - mostI x k0 n)
  rw [List.length_map] at hnl
  have hmo1 : nl S' (r.map fun k => mostI x k n) (S' - mostI x k0 n) ≤ nl x.2.2.2 (r.map fun k => mostI x k n) (x.2.2.2 - mostI x k0 n) := by
    have := nl_mono hSS.1 (r.map fun k => (mostI x k n, mostI x k n)) (fun p hp => by
      obtain ⟨k, hk, rfl⟩ := List.mem_map.1 hp
      exact ⟨(hm k (List.mem_cons_of_mem _ hk)).1, Int.le_refl _⟩) (g := S' - mostI x k0 n) (a := x.2.2.2 - mostI x k0 n) (by omega) (by omega)
    simpa [List.map_map, Function.comp_def] using this
  have hmo2 : nl x.2.2.2 (r.map fun k => mostI x k n') (x.2.2.2 - mostI x k0 n') ≤ nl x.2.2.2 (r.map fun k => mostI x k n) (x.2.2.2 - mostI x k0 n) := by
    have h1 := most_anti hc (hin k0 hk0) htn.1 hnn.1 (by omega)
    have := nl_mono (Int.le_refl x.2.2.2) (r.map fun k => (mostI x k n', mostI x k n)) (fun p hp => by
      obtain ⟨k, hk, rfl⟩ := List.mem_map.1 hp
      exact ⟨(hm k (List.mem_cons_of_mem _ hk)).1, most_anti hc (hin k (List.mem_cons_of_mem _ hk)) htn.1 hnn.1 (by omega)⟩) (g := x.2.2.2 - mostI x k0 n') (a := x.2.2.2 - mostI x k0 n) (by omega) (by omega)
    simpa [List.map_map, Function.comp_def] using this
  have hfl := nl_ot (S := x.2.2.2) (flagsFrom bits 1 (r.map fun k => mostI x k n)) (fun p hp => by
    have := List.mem_map_of_mem (f := (·.1)) hp
    rw [flags_fst] at this
    obtain ⟨k, hk, he⟩ := List.mem_map.1 this
    rw [← he]
    exact (hm k (List.mem_cons_of_mem _ hk)).1) (g := x.2.2.2 - mostI x k0 n) (a := x.2.2.2 - mostI x k0 n) (by omega) (Int.le_refl _)
  rw [flags_fst] at hfl
  generalize hL : seg x.2.2.2 (r.map fun k => mostI x k n) 1 (x.2.2.2 - mostI x k0 n) = L at hSPL hl1
  have hgs2 : GS x.2.2.2 L ((k0 :: r).map fun k => mostI x k n) := by
    rw [← hL]
    exact hgs
  have hsum := gs_sum _ _ _ hgs2
  have hfeet : ∀ w ∈ (k0 :: r).map fun k => mostI x k n, 0 ≤ w ∧ w ≤ x.2.2.2 := fun w hw => by
    obtain ⟨k, hk, rfl⟩ := List.mem_map.1 hw
    exact ⟨(hm k hk).1, hsm k hk⟩
  have hflen : ((k0 :: r).map fun k => mostI x k n).length ≤ 100 := by simp; omega
  have h5 : f14_L5 x bits ns 20 20 ((k0 :: r).map fun k => mostI x k n) 0 0 0 = some (.bool true) := by
    have e : f14_L5 x bits ns 20 20 ((k0 :: r).map fun k => mostI x k n) 0 0 0 = f14_s5 x bits ns (f14_L5 x bits ns 20 19) ((k0 :: r).map fun k => mostI x k n) 0 0 0 := rfl
    have := l5_run hb hO hn hSPL (by omega) hS.2 20 hfeet hflen r.length 1 1 (x.2.2.2 - mostI x k0 n) 19 (by simp; omega) (by omega) (by omega) (by omega) (by omega) (by omega) (by
      rw [show ((k0 :: r).map fun k => mostI x k n).drop 1 = r.map fun k => mostI x k n from rfl]
      omega)
    rw [e]
    unfold f14_s5
    have h1 : decide ((0 : Int) < (((k0 :: r).map fun k => mostI x k n).length : Int)) = true := decide_eq_true (by simp only [List.length_map, List.length_cons]; omega)
    have h2 : w64 ((0 : Int) + 1) = ((1 : Nat) : Int) := w64_small (n := 1) (by omega) (by omega)
    have h3 : ((k0 :: r).map fun k => mostI x k n).getD (0 : Int).toNat (0 : Int) = mostI x k0 n := rfl
    rw [h1, h2, h3, w64_small (by omega) (by omega)]
    exact this
  have h3 := l3_run hO hn hSPL (by omega) hS.2 20 hfeet hflen (by omega) (by simp) h5 L.length 0 0 20 (by omega) (by omega) (by omega) hgs2
  have hlk : lenOK L = true := by
    unfold lenOK
    refine Nat.ble_eq_true_of_le ?_
    omega
  have hsL : sumI0 L = ((k0 :: r).length : Int) := by
    unfold sumI0
    rw [sumI_eq L 0 (fun c hc => by have := hsum.2 c hc; omega) (by omega) (by omega), hsum.1]
    simp
  unfold f14_s1
  rw [hO, hn, hS', hn', hSPL, hSPL', hSPL2]
  rw [decide_eq_false (show ¬ (((k0 :: r).length : Nat) : Int) < ((k0 :: r).length : Int) by omega)]
  dsimp only
  rw [hlk, hsL, hl1, hl2, hl3, decide_eq_false (show ¬ ((nl x.2.2.2 (r.map fun k => mostI x k n) (x.2.2.2 - mostI x k0 n) + 1 : Nat) : Int) < ((nl S' (r.map fun k => mostI x k n) (S' - mostI x k0 n) + 1 : Nat) : Int) by omega), decide_eq_false (show ¬ ((nl x.2.2.2 (r.map fun k => mostI x k n) (x.2.2.2 - mostI x k0 n) + 1 : Nat) : Int) < ((nl x.2.2.2 (r.map fun k => mostI x k n') (x.2.2.2 - mostI x k0 n') + 1 : Nat) : Int) by omega)]
  simp only [cond_true, cond_false, decide_true, Bool.not_true]
  exact h3

theorem f14_run {x : Fi} {bits ns : List Int} (hc : checkB x = true) (hch : chkOK x = true) (hb : lenOK bits = true) : f14_L0 x bits ns 20 20 = some (.bool true) := by
  have hcl := check_len hc
  obtain ⟨ha, hlO⟩ := shuf_are hc bits
  have htn := turn_range (n := ns.getD 0 (0 : Int)) (m := 200) (by omega) (by omega)
  generalize hO : shufI (x.1.length : Int) bits = O at ha hlO
  generalize hn : turnI (ns.getD 0 (0 : Int)) (200 : Int) = n at htn
  match O, hO, ha, hlO with
  | [], hO, ha, hlO => simp at hlO; omega
  | k0 :: r, hO, ha, hlO =>
    have hlr : r.length ≤ 5 := by simp at hlO; omega
    have hin : ∀ k ∈ k0 :: r, inReels x k = true := fun k hk => List.all_eq_true.1 (are_len hc ha).2.1 k hk
    have hm : ∀ k ∈ k0 :: r, 0 ≤ mostI x k n ∧ mostI x k n ≤ 1200 := fun k hk => most_le hc (hin k hk) htn.1 (by omega)
    have hE : ∀ K, f14_s1 x bits ns K (f14_L3 x bits ns 20 20) ((k0 :: r).map fun k => mostI x k n) ((k0 :: r).any (bigB x n)) ((k0 :: r).length : Int) = some (.bool true) := fun K => by
      cases hany : (k0 :: r).any (bigB x n) with
      | false =>
        exact f14_small hc hb hO hn ha hlr (fun k hk => by
          have := List.any_eq_false.1 hany k hk
          simp only [bigB, decide_eq_true_eq] at this
          omega) hm hin K
      | true =>
        obtain ⟨k, hk, hbig⟩ := List.any_eq_true.1 hany
        have hSPL : SpoolsI x (k0 :: r) n = ([], 4) := by
          rw [spoolsI_ok hc ha (by simp) htn.1 (by omega)]
          unfold spoolsF
          rw [spGo_large (k0 :: r) [] (-1) ⟨k, hk, by simpa [bigB] using hbig⟩]
          rfl
        unfold f14_s1
        rw [hO, hn, hSPL, decide_eq_false (show ¬ (((k0 :: r).length : Nat) : Int) < ((k0 :: r).length : Int) by omega)]
        rfl
    have h1 := l1_run hc hO hn htn.1 (by omega) hch hin (by simp; omega) hm 20 hE r.length 1 19 (by simp; omega) (by omega)
    have e : f14_L0 x bits ns 20 20 = f14_s0 x bits ns (f14_L1 x bits ns 20 19) (f14_L2 x bits ns 20 20) := rfl
    have hk0 : k0 ∈ k0 :: r := List.mem_cons_self ..
    have hm0 := hm k0 hk0
    have hch3 : ∀ a b, chkOK3 x a b = true := fun _ _ => hch
    rw [e]
    unfold f14_s0
    have hpos : decide ((0 : Int) < ((k0 :: r).length : Int)) = true := decide_eq_true (by simp only [List.length_cons]; omega)
    simp only [hO, hn, show (k0 :: r).getD 0 (0 : Int) = k0 from rfl, hch3, worn_ok hc (hin k0 hk0) htn.1 (by omega), hpos, wornS, decide_eq_false (show ¬ mostI x k0 n < 0 by omega), decide_eq_false (show ¬ (1200 : Int) < mostI x k0 n by omega), show w64 ((0 : Int) + 1) = ((1 : Nat) : Int) from w64_small (n := 1) (by omega) (by omega), cond_true, cond_false, decide_true, Bool.not_true, Bool.and_true, Bool.true_and, Int.le_refl]
    have h2 : ((k0 :: r).take 1).any (bigB x n) = decide (x.2.2.2 < mostI x k0 n) := by simp [bigB]
    rw [h2] at h1
    exact h1

theorem f14_sp (x0 : Fi) (x1 x2 : List Int) (hp : splOK x0 x1 x2 = true) : ∃ (N : Nat) (r0 : AV), f14_T x0 x1 x2 N = some r0 ∧ wkAV r0 = enc .bool (splB x0 x1 x2) := by
  simp only [splOK, Bool.and_eq_true] at hp
  obtain ⟨h, hb⟩ := hp
  refine ⟨20, .bool true, ?_, rfl⟩
  unfold f14_T f14_s
  rw [h]
  cases hc : soundB x0 with
  | false => rfl
  | true =>
    have hcl := check_len (show checkB x0 = true from hc)
    have hso := shuf_are (show checkB x0 = true from hc) x1
    have h1 : shufOK (x0.1.length : Int) x1 = true := by
      simp only [shufOK, Bool.and_eq_true, decide_eq_true_eq]
      exact ⟨by omega, hb⟩
    have hlk : lenOK (shufI (x0.1.length : Int) x1) = true := by
      unfold lenOK
      refine Nat.ble_eq_true_of_le ?_
      omega
    have h2 : ∀ S n, joinOK (x0.1, x0.2.1, x0.2.2.1, S) (shufI (x0.1.length : Int) x1) n = true := fun S n => by
      simp only [joinOK, Bool.and_eq_true]
      exact ⟨h, hlk⟩
    have h3 : ∀ n, joinOK x0 (shufI (x0.1.length : Int) x1) n = true := fun n => by
      simp only [joinOK, Bool.and_eq_true]
      exact ⟨h, hlk⟩
    simp only [h1, h2, h3]
    exact f14_run hc h hb

end Ev
end Go.Proofs.YtidnikjkpbmhhaaDoor
/- The contract of the law of the spools. -/
set_option linter.unusedVariables false
set_option maxRecDepth 4000
namespace Go.Proofs.YtidnikjkpbmhhaaDoor
namespace Ev

theorem k14 : Good 14 g14 := ⟨ctr_ofN (B := Bs) (X := X14) (ctxOK rfl rfl rfl rfl rfl rfl (AllC.cons k25 (AllC.cons k30 (AllC.cons k38 (AllC.cons k43 (AllC.cons k48 (AllC.cons k49 (AllC.cons k54 (AllC.cons k57 AllC.nil))))))))) Tryd.func14 (fun args r h => by
  unfold g14 at h
  split at h
  · rename_i a0 a1 a2
    split at h
    · rename_i x0 x1 x2 h0 h1 h2
      simp only [Option.some.injEq, Prod.mk.injEq] at h
      obtain ⟨hp, rfl⟩ := h
      obtain ⟨N, r0, q1, q2⟩ := f14_sp x0 x1 x2 hp
      refine ⟨N, r0, ?_, q2⟩
      simp only [wkL, wk_dec h0, wk_dec h1, wk_dec h2]
      exact (f14_ev x0 x1 x2 N).trans q1
    · cases h
  · cases h), Tryd.f14, Tryd.func14, by kernel_rfl, by kernel_rfl⟩

end Ev
end Go.Proofs.YtidnikjkpbmhhaaDoor
/- ReelSpools returns true for every film and all numbers, and leaves them as they were: where the package variables hold what its text lays. -/
set_option linter.unusedVariables false
set_option linter.unusedSimpArgs false
set_option maxRecDepth 4000
namespace Go.Proofs.YtidnikjkpbmhhaaDoor
namespace Ev
open Go.ChangeShapes Go.WideShapes Go.ChangeAt Go.RowKit

theorem spo_contract (H : Type) (enc' : TypeId × Value → H) (W : World) (base : Nat) (args : Array Value) (ds gs : List (DataW H)) (before : List MemPlace)
    (hval : ∀ (j : Nat) t v, Tryd.f14.params[j]? = some t → args[j]? = some v → Value.okWide Tryd.prog W .any base t v)
    (hW : DataW.Whole enc' Tryd.prog Tryd.f14.params.toList Rows.reelSpoolsSpec.vars false W args.toList ds gs before)
    (hw : (DataW.weightsEach Tryd.prog (Tryd.f14.params.toList ++ (OpenSpec.ofChange Rows.reelSpoolsSpec).bare.plain.varTypes Tryd.prog) (ds ++ gs)).all (· ≤ reachBytes) = true) (hL : laidMetH Tryd.prog laidAll W) :
    Calls Tryd.prog 14 args W fun e W' => ∃ v, e = .returned v ∧ Rows.reelSpoolsSpec.post enc' Tryd.prog Tryd.f14 false true false false W args v W' := by
  have hW' := hW
  obtain ⟨p, q, hA0, hV, rfl, hfz, hnd⟩ := hW
  have hA : DataW.TrodAll enc' Tryd.prog W 0 (fun _ => true) true Tryd.f14.params.toList args.toList ds p := hA0
  rw [Tryd.params14] at hA hval
  obtain ⟨v0, vs0, d0, ds0, p0, q0, hargs, rfl, rfl, h0, r0⟩ := trodAll_cons hA
  obtain ⟨v1, vs1, d1, ds1, p1, q1, rfl, rfl, rfl, h1, r1⟩ := trodAll_cons r0
  obtain ⟨v2, vs2, d2, ds2, p2, q2, rfl, rfl, rfl, h2, r2⟩ := trodAll_cons r1
  obtain ⟨rfl, rfl, rfl⟩ := trodAll_nil r2
  obtain rfl : args = #[v0, v1, v2] := by cases args; simp_all
  obtain ⟨rfl, rfl⟩ := trodVars_none hV
  have hvt : (OpenSpec.ofChange Rows.reelSpoolsSpec).bare.plain.varTypes Tryd.prog = [] := by kernel_rfl
  rw [Tryd.params14, hvt] at hw
  obtain ⟨n0, h0⟩ := h0
  obtain ⟨x0, e0, hd0⟩ := rd_film h0
  have hx0 : chkOK x0 = true := film_bound hd0 fun n hn => by
    have := List.all_eq_true.1 hw n (by
      simp only [List.append_nil, DataW.weightsEach, List.mem_append]
      exact .inl hn)
    simpa using this
  obtain ⟨n1, h1⟩ := h1
  obtain ⟨x1, e1, hd1⟩ := rd_list h1
  have hx1 : lenOK x1 = true := list_bound hd1 fun n hn => by
    have := List.all_eq_true.1 hw n (by
      simp only [List.append_nil, DataW.weightsEach, List.mem_append]
      exact .inr (.inl hn))
    simpa using this
  obtain ⟨n2, h2⟩ := h2
  obtain ⟨x2, e2⟩ := rd_ints Tryd.underlying41 (by kernel_rfl) h2
  have hx2 : x2.length = 3 := e2.1
  have hrel : RelV TRr (baseCx noV noIo) W [enc tRF x0, enc tInts x1, enc (.arr 3 .int) x2] [v0, v1, v2] := by
    simp only [RelV]
    exact ⟨v0, _, rfl, vr_film e0 (agg_of Tryd.underlying26 (hval 0 _ v0 rfl rfl)), ⟨v1, _, rfl, vr_list e1 (hval 1 _ v1 rfl rfl), ⟨v2, _, rfl, vr_arr e2 (agg_ofA Tryd.underlying41 (hval 2 _ v2 rfl rfl)), rfl⟩⟩⟩
  have hg : g14 [enc tRF x0, enc tInts x1, enc (.arr 3 .int) x2] = some (true, .bool true) := by
    have g0 : dec tRF (enc tRF x0) = some x0 := by kernel_rfl
    have g1 : dec tInts (enc tInts x1) = some x1 := by kernel_rfl
    have g2 : dec (.arr 3 .int) (enc (.arr 3 .int) x2) = some x2 := by kernel_rfl
    unfold g14
    simp only [g0, g1, g2]
    have : splOK x0 x1 x2 = true := (by simp [splOK, hx0, hx1])
    rw [this]
    rfl
  refine Calls.mono (law_calls k14 hL hrel hg) ?_
  rintro e W' ⟨rfl, io', hk⟩
  exact ⟨_, rfl, post_true hk hW' rfl (by kernel_rfl) (by kernel_rfl) rfl⟩

theorem spo_reads (os : Os) {H : Type} (enc : TypeId × Value → H) : ∃ places, DataW.whole enc Tryd.prog ((World.doorLaid Tryd.prog 24 os).forCall (fun _ _ => 0) ⟨#[], #[zFilm, .slice none 0 0, zInts 3], []⟩).memory Tryd.f14.params.toList Rows.reelSpoolsSpec.vars false (#[zFilm, .slice none 0 0, zInts 3] : Array Value).toList 8 = some ([.agg [.nil, .agg [.lit (.int .i64 0), .lit (.int .i64 0)], .agg [.lit (.int .i64 0), .lit (.int .i64 0)], .lit (.int .i64 0)], .nil, .agg [.lit (.int .i64 0), .lit (.int .i64 0), .lit (.int .i64 0)]], [], places) :=
  ⟨[], by kernel_rfl⟩

set_option maxRecDepth 100000 in
theorem spo_lifted (os : Os) (started : os.Started) (H : Type) (enc : TypeId × Value → H) (F : Stop.Interp) :
    ReturnsInHanded {} Tryd.checked os 14 .any ((OpenSpec.ofChange Rows.reelSpoolsSpec).preRow enc Tryd.prog Tryd.f14 Rows.reelSpoolsRow.domain false Rows.reelSpoolsRow.laid) (((OpenSpec.ofChange Rows.reelSpoolsSpec).at F).post enc Tryd.prog Tryd.f14 false true false false) := by
  obtain ⟨places, hx⟩ := spo_reads os enc
  refine returnsInHanded_of_row (C := Tryd.checked) (s := OpenSpec.ofChange Rows.reelSpoolsSpec) own started (by kernel_rfl) Tryd.func14
    (witness_row_at (enc := enc) (C := Tryd.checked) false (World.doorLaid Tryd.prog 24 os) #[zFilm, .slice none 0 0, zInts 3] rfl (by kernel_rfl) (by kernel_rfl) (by kernel_rfl)
      (OpenSpec.preRow_of_cond 8 hx (by kernel_rfl) (fun k hk => by cases hk) (by kernel_rfl) (door_met os _))) ?_
  intro W base args ds gs before hval hW _ _ hw hL _ _
  exact spo_contract H enc W base args ds gs before hval hW hw hL

theorem spo_said : Rows.ReelSpoolsSaid :=
  OpenClaim.holds_of_cond 14 Tryd.f14 rfl rfl rfl rfl rfl rfl rfl ⟨rfl, rfl, rfl, rfl, rfl⟩ rfl rfl rfl rfl rfl (by kernel_rfl) Tryd.func14 (by kernel_rfl)
    (of_decide_eq_true (by kernel_rfl)) (by unfold Func.isWrapper; first | (rw [if_pos (by decide +kernel)]; kernel_rfl) | (rw [if_neg (by decide +kernel)]; exact ⟨rfl, rfl⟩))
    (fun os started H enc _ F => by rw [OpenClaim.pre_eq_preRow]; exact spo_lifted os started H enc F)

theorem spo_plain (f : FuncId) (fn : Func) (hf : Tryd.pinned.checked.prog.funcNamed "bioscope/bioscopelaw01.ReelSpools" = some f) (hfn : Tryd.pinned.checked.prog.funcs[f]? = some fn) :
    false = Tryd.pinned.checked.prog.looks [] ∧ ∀ (j : Nat) t, fn.params[j]? = some t → Tryd.pinned.checked.prog.wantsStandIn t = false := by
  obtain rfl : f = 14 := Option.some.inj ((show Tryd.prog.funcNamed "bioscope/bioscopelaw01.ReelSpools" = some 14 by kernel_rfl).symm.trans hf) |>.symm
  obtain rfl : fn = Tryd.f14 := (Option.some.inj (Tryd.func14.symm.trans hfn)).symm
  refine ⟨by kernel_rfl, fun j t ht => ?_⟩
  have hall : (Tryd.f14.params.toList.all fun u => !Tryd.prog.wantsStandIn u) = true := by kernel_rfl
  have hm : t ∈ Tryd.f14.params.toList := by simpa using Array.mem_of_getElem? ht
  have h2 : Tryd.prog.wantsStandIn t = false := by simpa using List.all_eq_true.1 hall t hm
  exact h2

end Ev

/-- The statement. -/
theorem reelSpools_holds : Rows.ReelSpoolsCardSaid :=
  Claim7.holds_tied_plain_at .later [] _ _ _ _ Ev.spo_said (fun _ h => by cases h) (by kernel_rfl) (fun _ h => by cases h) reelSpools_row_tie rfl ⟨rfl, rfl⟩ (by kernel_rfl) rfl Ev.spo_plain (by kernel_rfl)
end Go.Proofs.YtidnikjkpbmhhaaDoor
