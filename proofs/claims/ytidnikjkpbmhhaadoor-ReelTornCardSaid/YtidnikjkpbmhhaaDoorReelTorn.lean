/- ReelTorn returns true for every film and all numbers, and leaves them as they were: where the package variables hold what its text lays. -/
import Derived.Test.YtidnikjkpbmhhaaDoorBaseD
/- Choosing, as the evaluator walks it. -/
set_option linter.unusedVariables false
set_option maxRecDepth 4000
namespace Go.Proofs.YtidnikjkpbmhhaaDoor
namespace Ev

noncomputable def g52 : List AV → Option (Bool × AV)
  | [a0, a1] =>
    match dec tSpan a0, dec .int a1 with
    | some x0, some x1 => some (true, enc .int (chooseI x0 x1))
    | _, _ => none
  | _ => none
noncomputable def g54 : List AV → Option (Bool × AV)
  | [a0, a1] =>
    match dec tInts a0, dec .int a1 with
    | some x0, some x1 => some ((pickOK2 x0 x1), enc .int (pickI x0 x1))
    | _, _ => none
  | _ => none
noncomputable def X52 : Ctx := { T := TT, G := GG, C := [(48, g48), (58, g58)], L := [] }
noncomputable def f52_s (a0 : (Int × Int)) (a1 : Int) : Option (AV) :=
  bif (emptyS a0) then
    some (.int a0.1)
  else
    some (.int (w64 (a0.1 + (turnI a1 (w64 ((w64 (a0.2 - a0.1)) + (1 : Int)))))))

noncomputable def f52_T (a0 : (Int × Int)) (a1 : Int) : Option (AV) := f52_s a0 a1

theorem f52_ev (a0 : (Int × Int)) (a1 : Int) (N : Nat) : evF X52 N Tryd.f52 [enc tSpan a0, enc .int a1] = f52_T a0 a1 := by
  have h : evF X52 N Tryd.f52 [enc tSpan a0, enc .int a1] = f52_s a0 a1 := by kernel_rfl
  rw [h]
  rfl
noncomputable def X54 : Ctx := { T := TT, G := GG, C := [(48, g48)], L := [] }
noncomputable def f54_s (a0 : (List Int)) (a1 : Int) : Option (AV) :=
  bif (decide ((a0.length : Int) = (0 : Int))) then
    some (.int (0 : Int))
  else
    bif decide (0 ≤ (turnI a1 (a0.length : Int))) && decide ((turnI a1 (a0.length : Int)) < (a0.length : Int)) then
      some (.int (a0.getD (turnI a1 (a0.length : Int)).toNat (0 : Int)))
    else
      none

noncomputable def f54_T (a0 : (List Int)) (a1 : Int) : Option (AV) := f54_s a0 a1

theorem f54_ev (a0 : (List Int)) (a1 : Int) (N : Nat) : evF X54 N Tryd.f54 [enc tInts a0, enc .int a1] = f54_T a0 a1 := by
  have h : evF X54 N Tryd.f54 [enc tInts a0, enc .int a1] = f54_s a0 a1 := by kernel_rfl
  rw [h]
  rfl

end Ev
end Go.Proofs.YtidnikjkpbmhhaaDoor
/- Choosing: what the walks come to. -/
set_option linter.unusedVariables false
set_option linter.unusedSimpArgs false
set_option maxRecDepth 4000
namespace Go.Proofs.YtidnikjkpbmhhaaDoor
namespace Ev

theorem f52_sp (x0 : (Int × Int)) (x1 : Int) : ∃ (N : Nat) (r0 : AV), f52_T x0 x1 = some r0 ∧ wkAV r0 = enc .int (chooseI x0 x1) := by
  refine ⟨0, .int (chooseI x0 x1), ?_, rfl⟩
  unfold f52_T f52_s chooseI emptyS
  by_cases h : x0.2 < x0.1 <;> simp [h]
theorem f54_sp (x0 : (List Int)) (x1 : Int) (hp : pickOK2 x0 x1 = true) : ∃ (N : Nat) (r0 : AV), f54_T x0 x1 = some r0 ∧ wkAV r0 = enc .int (pickI x0 x1) := by
  have hl : x0.length ≤ 70368744177664 := Nat.le_of_ble_eq_true hp
  refine ⟨0, .int (pickI x0 x1), ?_, rfl⟩
  unfold f54_T f54_s pickI
  by_cases h : x0.length = 0
  · simp [h]
  · have hr := turn_range (n := x1) (m := x0.length) (by omega) (by omega)
    simp [h, hr.1, hr.2]

end Ev
end Go.Proofs.YtidnikjkpbmhhaaDoor
/- The contracts of choosing. -/
set_option linter.unusedVariables false
set_option maxRecDepth 4000
namespace Go.Proofs.YtidnikjkpbmhhaaDoor
namespace Ev

theorem k52 : Good 52 g52 := ⟨ctr_ofN (B := Bs) (X := X52) (ctxOK rfl rfl rfl rfl rfl rfl (AllC.cons k48 (AllC.cons k58 AllC.nil))) Tryd.func52 (fun args r h => by
  unfold g52 at h
  split at h
  · rename_i a0 a1
    split at h
    · rename_i x0 x1 h0 h1
      simp only [Option.some.injEq, Prod.mk.injEq] at h
      obtain ⟨hp, rfl⟩ := h
      obtain ⟨N, r0, q1, q2⟩ := f52_sp x0 x1
      refine ⟨N, r0, ?_, q2⟩
      simp only [wkL, wk_dec h0, wk_dec h1]
      exact (f52_ev x0 x1 N).trans q1
    · cases h
  · cases h), Tryd.f52, Tryd.func52, by kernel_rfl, by kernel_rfl⟩
theorem k54 : Good 54 g54 := ⟨ctr_ofN (B := Bs) (X := X54) (ctxOK rfl rfl rfl rfl rfl rfl (AllC.cons k48 AllC.nil)) Tryd.func54 (fun args r h => by
  unfold g54 at h
  split at h
  · rename_i a0 a1
    split at h
    · rename_i x0 x1 h0 h1
      simp only [Option.some.injEq, Prod.mk.injEq] at h
      obtain ⟨hp, rfl⟩ := h
      obtain ⟨N, r0, q1, q2⟩ := f54_sp x0 x1 hp
      refine ⟨N, r0, ?_, q2⟩
      simp only [wkL, wk_dec h0, wk_dec h1]
      exact (f54_ev x0 x1 N).trans q1
    · cases h
  · cases h), Tryd.f54, Tryd.func54, by kernel_rfl, by kernel_rfl⟩

end Ev
end Go.Proofs.YtidnikjkpbmhhaaDoor
/- The law of what is torn off, as the evaluator walks it. -/
set_option linter.unusedVariables false
set_option maxRecDepth 4000
namespace Go.Proofs.YtidnikjkpbmhhaaDoor
namespace Ev

noncomputable def g11 : List AV → Option (Bool × AV)
  | [a0, a1, a2, a3] =>
    match dec tRF a0, dec (.arr 2 .int) a1, dec tInts a2, dec .int a3 with
    | some x0, some x1, some x2, some x3 => some ((tornOK x0 x1 x2 x3), enc .bool (tornB x0 x1 x2 x3))
    | _, _, _, _ => none
  | _ => none
noncomputable def X11 : Ctx := { T := TT, G := GG, C := [(25, g25), (30, g30), (32, g32), (34, g34), (43, g43), (48, g48), (52, g52), (54, g54), (55, g55), (56, g56)], L := [(10, [0, 1, 3, 5, 6, 7, 8, 17, 18, 19, 20, 21, 22, 23, 24, 25, 26, 27, 28, 29, 30, 31, 32, 33, 34, 35, 36, 37, 38, 39, 40, 41, 42, 43, 44, 45, 46, 47, 48, 49, 50, 51, 52, 53, 54, 55, 56, 57, 58, 59, 60, 61, 62, 63, 64, 65, 66, 67, 68, 69, 70, 71, 72, 73, 74, 75, 76, 77, 78, 79, 80, 81, 82, 83, 84, 85, 86, 87, 88, 89, 90, 91, 92, 93, 94, 95, 96, 97, 98, 99, 100, 101, 102, 103, 104, 105, 106, 107, 108, 109, 110, 111, 112, 113, 114, 115, 116, 117, 118, 119, 120, 121, 122, 123, 124, 125, 126, 127, 128, 129, 130, 131, 132, 133, 134, 135, 136, 137, 138, 139, 140, 141, 142, 143, 144, 145, 146, 147, 148, 149, 150, 151, 152, 153, 154, 155, 156, 157, 158, 159, 160, 161, 162, 163, 164, 165, 166, 167, 168, 169, 170, 171, 172, 173, 174, 175], [2])] }
noncomputable def f11_s0 (a0 : ((List ((Int × Int) × (Int × Int) × (Int × Int))) × (Int × Int) × (Int × Int) × Int)) (a1 : (List Int)) (a2 : (List Int)) (a3 : Int) (k0 : Int → Int → Option (AV)) (v0_0 : Int) (v0_1 : Int) : Option (AV) :=
  bif (decide (v0_1 ≤ (turnI (a1.getD 1 (0 : Int)) (120 : Int)))) then
    bif (chkOK3 a0 (turnI (a1.getD 0 (0 : Int)) (a0.1.length : Int)) v0_1) then
      bif (chkOK3 a0 (turnI (a1.getD 0 (0 : Int)) (a0.1.length : Int)) v0_0) then
        bif (!decide (((WornI a0 (turnI (a1.getD 0 (0 : Int)) (a0.1.length : Int)) v0_1).2) = (0 : Int))) then
          some (.bool false)
        else
          bif (!decide (((SeenI a0 (turnI (a1.getD 0 (0 : Int)) (a0.1.length : Int)) v0_0).2) = (0 : Int))) then
            some (.bool false)
          else
            bif (!(holds ((WornI a0 (turnI (a1.getD 0 (0 : Int)) (a0.1.length : Int)) v0_1).1) v0_0)) then
              some (.bool false)
            else
              bif (!(holds ((SeenI a0 (turnI (a1.getD 0 (0 : Int)) (a0.1.length : Int)) v0_0).1) v0_1)) then
                some (.bool false)
              else
                bif (decide (((ShowsI a0 (turnI (a1.getD 0 (0 : Int)) (a0.1.length : Int)) (w64 ((1 : Int) + (turnI a3 (1200 : Int))))).2.2) = (0 : Int))) then
                  bif (decide (v0_1 ≤ ((ShowsI a0 (turnI (a1.getD 0 (0 : Int)) (a0.1.length : Int)) (w64 ((1 : Int) + (turnI a3 (1200 : Int))))).1))) then
                    bif (decide (v0_0 < (w64 ((1 : Int) + (turnI a3 (1200 : Int)))))) then
                      some (.bool false)
                    else
                      bif (decide (((ShowsI a0 (turnI (a1.getD 0 (0 : Int)) (a0.1.length : Int)) (w64 ((1 : Int) + (turnI a3 (1200 : Int))))).2.1) < v0_1)) then
                        bif (decide (((ShowsI a0 (turnI (a1.getD 0 (0 : Int)) (a0.1.length : Int)) (w64 ((1 : Int) + (turnI a3 (1200 : Int))))).2.1) < (999 : Int))) then
                          bif (decide ((w64 ((1 : Int) + (turnI a3 (1200 : Int)))) ≤ v0_0)) then
                            some (.bool false)
                          else
                            bif (!decide (((ShowsI a0 (turnI (a1.getD 0 (0 : Int)) (a0.1.length : Int)) (w64 ((1 : Int) + (turnI a3 (1200 : Int))))).2.2) = (0 : Int))) then
                              bif (decide ((w64 ((1 : Int) + (turnI a3 (1200 : Int)))) ≤ v0_0)) then
                                some (.bool false)
                              else
                                bif (pickOK2 a2 (w64 (v0_1 + (1 : Int)))) then
                                  bif (decide (v0_0 < (chooseI a0.2.2.1 (pickI a2 (w64 (v0_1 + (1 : Int))))))) then
                                    k0 (0 : Int) (w64 (v0_1 + (1 : Int)))
                                  else
                                    k0 (w64 (v0_0 - (chooseI a0.2.2.1 (pickI a2 (w64 (v0_1 + (1 : Int))))))) (w64 (v0_1 + (1 : Int)))
                                else
                                  none
                            else
                              bif (pickOK2 a2 (w64 (v0_1 + (1 : Int)))) then
                                bif (decide (v0_0 < (chooseI a0.2.2.1 (pickI a2 (w64 (v0_1 + (1 : Int))))))) then
                                  k0 (0 : Int) (w64 (v0_1 + (1 : Int)))
                                else
                                  k0 (w64 (v0_0 - (chooseI a0.2.2.1 (pickI a2 (w64 (v0_1 + (1 : Int))))))) (w64 (v0_1 + (1 : Int)))
                              else
                                none
                        else
                          bif (!decide (((ShowsI a0 (turnI (a1.getD 0 (0 : Int)) (a0.1.length : Int)) (w64 ((1 : Int) + (turnI a3 (1200 : Int))))).2.2) = (0 : Int))) then
                            bif (decide ((w64 ((1 : Int) + (turnI a3 (1200 : Int)))) ≤ v0_0)) then
                              some (.bool false)
                            else
                              bif (pickOK2 a2 (w64 (v0_1 + (1 : Int)))) then
                                bif (decide (v0_0 < (chooseI a0.2.2.1 (pickI a2 (w64 (v0_1 + (1 : Int))))))) then
                                  k0 (0 : Int) (w64 (v0_1 + (1 : Int)))
                                else
                                  k0 (w64 (v0_0 - (chooseI a0.2.2.1 (pickI a2 (w64 (v0_1 + (1 : Int))))))) (w64 (v0_1 + (1 : Int)))
                              else
                                none
                          else
                            bif (pickOK2 a2 (w64 (v0_1 + (1 : Int)))) then
                              bif (decide (v0_0 < (chooseI a0.2.2.1 (pickI a2 (w64 (v0_1 + (1 : Int))))))) then
                                k0 (0 : Int) (w64 (v0_1 + (1 : Int)))
                              else
                                k0 (w64 (v0_0 - (chooseI a0.2.2.1 (pickI a2 (w64 (v0_1 + (1 : Int))))))) (w64 (v0_1 + (1 : Int)))
                            else
                              none
                      else
                        bif (!decide (((ShowsI a0 (turnI (a1.getD 0 (0 : Int)) (a0.1.length : Int)) (w64 ((1 : Int) + (turnI a3 (1200 : Int))))).2.2) = (0 : Int))) then
                          bif (decide ((w64 ((1 : Int) + (turnI a3 (1200 : Int)))) ≤ v0_0)) then
                            some (.bool false)
                          else
                            bif (pickOK2 a2 (w64 (v0_1 + (1 : Int)))) then
                              bif (decide (v0_0 < (chooseI a0.2.2.1 (pickI a2 (w64 (v0_1 + (1 : Int))))))) then
                                k0 (0 : Int) (w64 (v0_1 + (1 : Int)))
                              else
                                k0 (w64 (v0_0 - (chooseI a0.2.2.1 (pickI a2 (w64 (v0_1 + (1 : Int))))))) (w64 (v0_1 + (1 : Int)))
                            else
                              none
                        else
                          bif (pickOK2 a2 (w64 (v0_1 + (1 : Int)))) then
                            bif (decide (v0_0 < (chooseI a0.2.2.1 (pickI a2 (w64 (v0_1 + (1 : Int))))))) then
                              k0 (0 : Int) (w64 (v0_1 + (1 : Int)))
                            else
                              k0 (w64 (v0_0 - (chooseI a0.2.2.1 (pickI a2 (w64 (v0_1 + (1 : Int))))))) (w64 (v0_1 + (1 : Int)))
                          else
                            none
                  else
                    bif (decide (((ShowsI a0 (turnI (a1.getD 0 (0 : Int)) (a0.1.length : Int)) (w64 ((1 : Int) + (turnI a3 (1200 : Int))))).2.1) < v0_1)) then
                      bif (decide (((ShowsI a0 (turnI (a1.getD 0 (0 : Int)) (a0.1.length : Int)) (w64 ((1 : Int) + (turnI a3 (1200 : Int))))).2.1) < (999 : Int))) then
                        bif (decide ((w64 ((1 : Int) + (turnI a3 (1200 : Int)))) ≤ v0_0)) then
                          some (.bool false)
                        else
                          bif (!decide (((ShowsI a0 (turnI (a1.getD 0 (0 : Int)) (a0.1.length : Int)) (w64 ((1 : Int) + (turnI a3 (1200 : Int))))).2.2) = (0 : Int))) then
                            bif (decide ((w64 ((1 : Int) + (turnI a3 (1200 : Int)))) ≤ v0_0)) then
                              some (.bool false)
                            else
                              bif (pickOK2 a2 (w64 (v0_1 + (1 : Int)))) then
                                bif (decide (v0_0 < (chooseI a0.2.2.1 (pickI a2 (w64 (v0_1 + (1 : Int))))))) then
                                  k0 (0 : Int) (w64 (v0_1 + (1 : Int)))
                                else
                                  k0 (w64 (v0_0 - (chooseI a0.2.2.1 (pickI a2 (w64 (v0_1 + (1 : Int))))))) (w64 (v0_1 + (1 : Int)))
                              else
                                none
                          else
                            bif (pickOK2 a2 (w64 (v0_1 + (1 : Int)))) then
                              bif (decide (v0_0 < (chooseI a0.2.2.1 (pickI a2 (w64 (v0_1 + (1 : Int))))))) then
                                k0 (0 : Int) (w64 (v0_1 + (1 : Int)))
                              else
                                k0 (w64 (v0_0 - (chooseI a0.2.2.1 (pickI a2 (w64 (v0_1 + (1 : Int))))))) (w64 (v0_1 + (1 : Int)))
                            else
                              none
                      else
                        bif (!decide (((ShowsI a0 (turnI (a1.getD 0 (0 : Int)) (a0.1.length : Int)) (w64 ((1 : Int) + (turnI a3 (1200 : Int))))).2.2) = (0 : Int))) then
                          bif (decide ((w64 ((1 : Int) + (turnI a3 (1200 : Int)))) ≤ v0_0)) then
                            some (.bool false)
                          else
                            bif (pickOK2 a2 (w64 (v0_1 + (1 : Int)))) then
                              bif (decide (v0_0 < (chooseI a0.2.2.1 (pickI a2 (w64 (v0_1 + (1 : Int))))))) then
                                k0 (0 : Int) (w64 (v0_1 + (1 : Int)))
                              else
                                k0 (w64 (v0_0 - (chooseI a0.2.2.1 (pickI a2 (w64 (v0_1 + (1 : Int))))))) (w64 (v0_1 + (1 : Int)))
                            else
                              none
                        else
                          bif (pickOK2 a2 (w64 (v0_1 + (1 : Int)))) then
                            bif (decide (v0_0 < (chooseI a0.2.2.1 (pickI a2 (w64 (v0_1 + (1 : Int))))))) then
                              k0 (0 : Int) (w64 (v0_1 + (1 : Int)))
                            else
                              k0 (w64 (v0_0 - (chooseI a0.2.2.1 (pickI a2 (w64 (v0_1 + (1 : Int))))))) (w64 (v0_1 + (1 : Int)))
                          else
                            none
                    else
                      bif (!decide (((ShowsI a0 (turnI (a1.getD 0 (0 : Int)) (a0.1.length : Int)) (w64 ((1 : Int) + (turnI a3 (1200 : Int))))).2.2) = (0 : Int))) then
                        bif (decide ((w64 ((1 : Int) + (turnI a3 (1200 : Int)))) ≤ v0_0)) then
                          some (.bool false)
                        else
                          bif (pickOK2 a2 (w64 (v0_1 + (1 : Int)))) then
                            bif (decide (v0_0 < (chooseI a0.2.2.1 (pickI a2 (w64 (v0_1 + (1 : Int))))))) then
                              k0 (0 : Int) (w64 (v0_1 + (1 : Int)))
                            else
                              k0 (w64 (v0_0 - (chooseI a0.2.2.1 (pickI a2 (w64 (v0_1 + (1 : Int))))))) (w64 (v0_1 + (1 : Int)))
                          else
                            none
                      else
                        bif (pickOK2 a2 (w64 (v0_1 + (1 : Int)))) then
                          bif (decide (v0_0 < (chooseI a0.2.2.1 (pickI a2 (w64 (v0_1 + (1 : Int))))))) then
                            k0 (0 : Int) (w64 (v0_1 + (1 : Int)))
                          else
                            k0 (w64 (v0_0 - (chooseI a0.2.2.1 (pickI a2 (w64 (v0_1 + (1 : Int))))))) (w64 (v0_1 + (1 : Int)))
                        else
                          none
                else
                  bif (!decide (((ShowsI a0 (turnI (a1.getD 0 (0 : Int)) (a0.1.length : Int)) (w64 ((1 : Int) + (turnI a3 (1200 : Int))))).2.2) = (0 : Int))) then
                    bif (decide ((w64 ((1 : Int) + (turnI a3 (1200 : Int)))) ≤ v0_0)) then
                      some (.bool false)
                    else
                      bif (pickOK2 a2 (w64 (v0_1 + (1 : Int)))) then
                        bif (decide (v0_0 < (chooseI a0.2.2.1 (pickI a2 (w64 (v0_1 + (1 : Int))))))) then
                          k0 (0 : Int) (w64 (v0_1 + (1 : Int)))
                        else
                          k0 (w64 (v0_0 - (chooseI a0.2.2.1 (pickI a2 (w64 (v0_1 + (1 : Int))))))) (w64 (v0_1 + (1 : Int)))
                      else
                        none
                  else
                    bif (pickOK2 a2 (w64 (v0_1 + (1 : Int)))) then
                      bif (decide (v0_0 < (chooseI a0.2.2.1 (pickI a2 (w64 (v0_1 + (1 : Int))))))) then
                        k0 (0 : Int) (w64 (v0_1 + (1 : Int)))
                      else
                        k0 (w64 (v0_0 - (chooseI a0.2.2.1 (pickI a2 (w64 (v0_1 + (1 : Int))))))) (w64 (v0_1 + (1 : Int)))
                    else
                      none
      else
        none
    else
      none
  else
    some (.bool turnedB)

noncomputable def f11_s (a0 : ((List ((Int × Int) × (Int × Int) × (Int × Int))) × (Int × Int) × (Int × Int) × Int)) (a1 : (List Int)) (a2 : (List Int)) (a3 : Int) (k0 : Int → Int → Option (AV)) : Option (AV) :=
  bif (chkOK a0) then
    bif (!(soundB a0)) then
      some (.bool turnedB)
    else
      bif decide (0 ≤ (0 : Int)) && decide ((0 : Int) < 2) then
        bif decide (0 ≤ (1 : Int)) && decide ((1 : Int) < 2) then
          bif decide (0 ≤ (turnI (a1.getD 0 (0 : Int)) (a0.1.length : Int))) && decide ((turnI (a1.getD 0 (0 : Int)) (a0.1.length : Int)) < (a0.1.length : Int)) then
            bif (pickOK2 a2 (0 : Int)) then
              bif (chkOK3 a0 (turnI (a1.getD 0 (0 : Int)) (a0.1.length : Int)) (w64 ((1 : Int) + (turnI a3 (1200 : Int))))) then
                bif (!decide (((ShowsI a0 (turnI (a1.getD 0 (0 : Int)) (a0.1.length : Int)) (w64 ((1 : Int) + (turnI a3 (1200 : Int))))).2.2) = (0 : Int))) then
                  bif (!decide (((ShowsI a0 (turnI (a1.getD 0 (0 : Int)) (a0.1.length : Int)) (w64 ((1 : Int) + (turnI a3 (1200 : Int))))).2.2) = (4 : Int))) then
                    some (.bool false)
                  else
                    bif decide (0 ≤ (turnI (a1.getD 0 (0 : Int)) (a0.1.length : Int))) && decide ((turnI (a1.getD 0 (0 : Int)) (a0.1.length : Int)) < (a0.1.length : Int)) then
                      bif (decide ((w64 ((1 : Int) + (turnI a3 (1200 : Int)))) ≤ (((a0.1.getD (turnI (a1.getD 0 (0 : Int)) (a0.1.length : Int)).toNat (((0 : Int), (0 : Int)), ((0 : Int), (0 : Int)), ((0 : Int), (0 : Int)))).2.2).2))) then
                        some (.bool false)
                      else
                        bif (decide (((ShowsI a0 (turnI (a1.getD 0 (0 : Int)) (a0.1.length : Int)) (w64 ((1 : Int) + (turnI a3 (1200 : Int))))).2.2) = (0 : Int))) then
                          bif (decide (((ShowsI a0 (turnI (a1.getD 0 (0 : Int)) (a0.1.length : Int)) (w64 ((1 : Int) + (turnI a3 (1200 : Int))))).2.1) < ((ShowsI a0 (turnI (a1.getD 0 (0 : Int)) (a0.1.length : Int)) (w64 ((1 : Int) + (turnI a3 (1200 : Int))))).1))) then
                            some (.bool false)
                          else
                            bif (!(amid ((ShowsI a0 (turnI (a1.getD 0 (0 : Int)) (a0.1.length : Int)) (w64 ((1 : Int) + (turnI a3 (1200 : Int))))).1) (-1 : Int) (999 : Int))) then
                              some (.bool false)
                            else
                              bif (decide (((ShowsI a0 (turnI (a1.getD 0 (0 : Int)) (a0.1.length : Int)) (w64 ((1 : Int) + (turnI a3 (1200 : Int))))).2.1) < (0 : Int))) then
                                some (.bool false)
                              else
                                k0 (chooseI ((a0.1.getD (turnI (a1.getD 0 (0 : Int)) (a0.1.length : Int)).toNat (((0 : Int), (0 : Int)), ((0 : Int), (0 : Int)), ((0 : Int), (0 : Int)))).2.2) (pickI a2 (0 : Int))) (0 : Int)
                        else
                          k0 (chooseI ((a0.1.getD (turnI (a1.getD 0 (0 : Int)) (a0.1.length : Int)).toNat (((0 : Int), (0 : Int)), ((0 : Int), (0 : Int)), ((0 : Int), (0 : Int)))).2.2) (pickI a2 (0 : Int))) (0 : Int)
                    else
                      none
                else
                  bif (decide (((ShowsI a0 (turnI (a1.getD 0 (0 : Int)) (a0.1.length : Int)) (w64 ((1 : Int) + (turnI a3 (1200 : Int))))).2.2) = (0 : Int))) then
                    bif (decide (((ShowsI a0 (turnI (a1.getD 0 (0 : Int)) (a0.1.length : Int)) (w64 ((1 : Int) + (turnI a3 (1200 : Int))))).2.1) < ((ShowsI a0 (turnI (a1.getD 0 (0 : Int)) (a0.1.length : Int)) (w64 ((1 : Int) + (turnI a3 (1200 : Int))))).1))) then
                      some (.bool false)
                    else
                      bif (!(amid ((ShowsI a0 (turnI (a1.getD 0 (0 : Int)) (a0.1.length : Int)) (w64 ((1 : Int) + (turnI a3 (1200 : Int))))).1) (-1 : Int) (999 : Int))) then
                        some (.bool false)
                      else
                        bif (decide (((ShowsI a0 (turnI (a1.getD 0 (0 : Int)) (a0.1.length : Int)) (w64 ((1 : Int) + (turnI a3 (1200 : Int))))).2.1) < (0 : Int))) then
                          some (.bool false)
                        else
                          k0 (chooseI ((a0.1.getD (turnI (a1.getD 0 (0 : Int)) (a0.1.length : Int)).toNat (((0 : Int), (0 : Int)), ((0 : Int), (0 : Int)), ((0 : Int), (0 : Int)))).2.2) (pickI a2 (0 : Int))) (0 : Int)
                  else
                    k0 (chooseI ((a0.1.getD (turnI (a1.getD 0 (0 : Int)) (a0.1.length : Int)).toNat (((0 : Int), (0 : Int)), ((0 : Int), (0 : Int)), ((0 : Int), (0 : Int)))).2.2) (pickI a2 (0 : Int))) (0 : Int)
              else
                none
            else
              none
          else
            none
        else
          none
      else
        none
  else
    none

noncomputable def f11_R0 (a0 : ((List ((Int × Int) × (Int × Int) × (Int × Int))) × (Int × Int) × (Int × Int) × Int)) (a1 : (List Int)) (a2 : (List Int)) (a3 : Int) (N : Nat) (n : Nat) (v0_0 : Int) (v0_1 : Int) : Option (AV) :=
  loopN (evC X11 N (sub [(1, 0), (1, 0), (1, 0), (1, 0), (1, 0), (1, 0), (1, 0), (0, 0), (1, 0), (0, 0), (0, 0)] (bodyOf Tryd.f11))) (keepOf X11.L (sub [(1, 0), (1, 0), (1, 0), (1, 0), (1, 0), (1, 0), (1, 0), (0, 0), (1, 0), (0, 0), (0, 0)] (bodyOf Tryd.f11))) n ⟨[.poison, .poison, .sl .int ⟨false, false, none⟩ a2, .poison, .ref 4 [], .poison, .poison, .poison, .poison, .int (turnI (a1.getD 0 (0 : Int)) (a0.1.length : Int)), .int (turnI (a1.getD 1 (0 : Int)) (120 : Int)), .int v0_0, .int (w64 ((1 : Int) + (turnI a3 (1200 : Int)))), .int ((ShowsI a0 (turnI (a1.getD 0 (0 : Int)) (a0.1.length : Int)) (w64 ((1 : Int) + (turnI a3 (1200 : Int))))).1), .int ((ShowsI a0 (turnI (a1.getD 0 (0 : Int)) (a0.1.length : Int)) (w64 ((1 : Int) + (turnI a3 (1200 : Int))))).2.1), .int ((ShowsI a0 (turnI (a1.getD 0 (0 : Int)) (a0.1.length : Int)) (w64 ((1 : Int) + (turnI a3 (1200 : Int))))).2.2), .int v0_1, .poison, .poison, .poison, .poison, .poison, .poison, .poison, .poison, .poison, .poison, .poison, .poison, .poison, .poison, .poison, .poison, .poison, .poison, .poison, .poison, .poison, .poison, .poison, .poison, .poison, .poison, .poison, .poison, .poison, .poison, .poison, .poison, .poison, .poison, .poison, .poison, .poison, .poison, .poison, .poison, .poison, .poison, .poison, .poison, .poison, .poison, .poison, .poison, .poison, .poison, .poison, .poison, .poison, .poison, .poison, .poison, .poison, .poison, .poison, .poison, .poison, .poison, .poison, .poison, .poison, .poison, .poison, .poison, .poison, .poison, .poison, .poison, .poison, .poison, .poison, .poison, .poison, .poison, .poison, .poison, .poison, .poison, .poison, .poison, .poison, .poison, .poison, .poison, .poison, .poison, .poison, .poison, .poison, .poison, .poison, .poison, .poison, .poison, .poison, .poison, .poison, .poison, .poison, .poison, .poison, .poison, .poison, .poison, .poison, .poison, .poison, .poison, .poison, .poison, .poison, .poison, .poison, .poison, .poison, .poison, .poison, .poison, .poison, .poison, .poison, .poison, .poison, .poison, .poison, .poison, .poison, .poison, .poison, .poison, .poison, .poison, .poison, .poison, .poison, .poison, .poison, .poison, .poison, .poison, .poison, .poison, .poison, .poison, .poison, .poison, .poison, .poison, .poison, .poison, .poison, .poison, .poison, .poison, .poison], [.none, .none, .none, .none, .box (enc tRF a0), .none, .none, .none, .none, .none, .none, .none, .none, .none, .none, .none, .none, .none, .none, .none, .none, .none, .none, .none, .none, .none, .none, .none, .none, .none, .none, .none, .none, .none, .none, .none, .none, .none, .none, .none, .none, .none, .none, .none, .none, .none, .none, .none, .none, .none, .none, .none, .none, .none, .none, .none, .none, .none, .none, .none, .none, .none, .none, .none, .none, .none, .none, .none, .none, .none, .none, .none, .none, .none, .none, .none, .none, .none, .none, .none, .none, .none, .none, .none, .none, .none, .none, .none, .none, .none, .none, .none, .none, .none, .none, .none, .none, .none, .none, .none, .none, .none, .none, .none, .none, .none, .none, .none, .none, .none, .none, .none, .none, .none, .none, .none, .none, .none, .none, .none, .none, .none, .none, .none, .none, .none, .none, .none, .none, .none, .none, .none, .none, .none, .none, .none, .none, .none, .none, .none, .none, .none, .none, .none, .none, .none, .none, .none, .none, .none, .none, .none, .none, .none, .none, .none, .none, .none, .none, .none, .none, .none, .none, .none, .none, .none, .none, .none, .none, .none, .none, .none, .none, .none, .none, .none]⟩ (ctxK X11 N [(1, 0), (1, 0), (1, 0), (1, 0), (1, 0), (1, 0), (1, 0), (0, 0), (1, 0), (0, 0)] (bodyOf Tryd.f11) (finK X11 Tryd.f11))

theorem f11_e0 (a0 : ((List ((Int × Int) × (Int × Int) × (Int × Int))) × (Int × Int) × (Int × Int) × Int)) (a1 : (List Int)) (a2 : (List Int)) (a3 : Int) (N : Nat) (n : Nat) (v0_0 : Int) (v0_1 : Int) : f11_R0 a0 a1 a2 a3 N (n + 1) v0_0 v0_1 = f11_s0 a0 a1 a2 a3 (f11_R0 a0 a1 a2 a3 N n) v0_0 v0_1 := by kernel_rfl

noncomputable def f11_L0 (a0 : ((List ((Int × Int) × (Int × Int) × (Int × Int))) × (Int × Int) × (Int × Int) × Int)) (a1 : (List Int)) (a2 : (List Int)) (a3 : Int) (N : Nat) : Nat → Int → Int → Option (AV)
  | 0, _, _ => none
  | n + 1, v0_0, v0_1 => f11_s0 a0 a1 a2 a3 (f11_L0 a0 a1 a2 a3 N n) v0_0 v0_1

theorem f11_q0 (a0 : ((List ((Int × Int) × (Int × Int) × (Int × Int))) × (Int × Int) × (Int × Int) × Int)) (a1 : (List Int)) (a2 : (List Int)) (a3 : Int) (N : Nat) : ∀ n : Nat, f11_R0 a0 a1 a2 a3 N n = f11_L0 a0 a1 a2 a3 N n
  | 0 => by
    funext v0_0
    funext v0_1
    rfl
  | n + 1 => by
    funext v0_0
    funext v0_1
    rw [f11_e0]
    simp only [f11_q0 a0 a1 a2 a3 N n]
    rfl

noncomputable def f11_T (a0 : ((List ((Int × Int) × (Int × Int) × (Int × Int))) × (Int × Int) × (Int × Int) × Int)) (a1 : (List Int)) (a2 : (List Int)) (a3 : Int) (N : Nat) : Option (AV) := f11_s a0 a1 a2 a3 (f11_L0 a0 a1 a2 a3 N N)

theorem f11_ev (a0 : ((List ((Int × Int) × (Int × Int) × (Int × Int))) × (Int × Int) × (Int × Int) × Int)) (a1 : (List Int)) (a2 : (List Int)) (a3 : Int) (N : Nat) : evF X11 N Tryd.f11 [enc tRF a0, enc (.arr 2 .int) a1, enc tInts a2, enc .int a3] = f11_T a0 a1 a2 a3 N := by
  have h : evF X11 N Tryd.f11 [enc tRF a0, enc (.arr 2 .int) a1, enc tInts a2, enc .int a3] = f11_s a0 a1 a2 a3 (f11_R0 a0 a1 a2 a3 N N) := by kernel_rfl
  rw [h, f11_q0]
  rfl

end Ev
end Go.Proofs.YtidnikjkpbmhhaaDoor
/- The law of both ends, as the evaluator walks it. -/
set_option linter.unusedVariables false
set_option maxRecDepth 4000
namespace Go.Proofs.YtidnikjkpbmhhaaDoor
namespace Ev

noncomputable def g12 : List AV → Option (Bool × AV)
  | [a0, a1] =>
    match dec tRF a0, dec (.arr 2 .int) a1 with
    | some x0, some x1 => some ((endsOK x0 x1), enc .bool (endsB x0 x1))
    | _, _ => none
  | _ => none
noncomputable def X12 : Ctx := { T := TT, G := GG, C := [(25, g25), (30, g30), (43, g43), (48, g48), (53, g53)], L := [(8, [0, 1, 3, 4, 5, 14, 15, 16, 17, 18, 19, 20, 21, 22, 23, 24, 25, 26, 27, 28, 29, 30, 31, 32, 33, 34, 35, 36, 37, 38, 39, 40, 41, 42, 43, 44, 45, 46, 47, 48, 49, 50, 51, 52, 53, 54, 55, 56, 57, 58, 59, 60, 61, 62, 63, 64, 65, 66, 67, 68, 69, 70, 71, 72, 73, 74, 75, 76, 77, 78, 79, 80, 81, 82, 83, 84, 85, 86, 87, 88, 89, 90, 91, 92, 93, 94, 95, 96, 97, 98, 99, 100, 101, 102], [])] }
noncomputable def f12_s0 (a0 : ((List ((Int × Int) × (Int × Int) × (Int × Int))) × (Int × Int) × (Int × Int) × Int)) (a1 : (List Int)) (k0 : Int → Int → Int → Option (AV)) (v0_0 : Int) (v0_1 : Int) (v0_2 : Int) : Option (AV) :=
  bif (decide (v0_2 < (turnI (a1.getD 1 (0 : Int)) (999 : Int)))) then
    k0 (if (0 : Int) < (w64 (v0_0 - a0.2.2.1.2)) then (w64 (v0_0 - a0.2.2.1.2)) else (0 : Int)) (if (0 : Int) < (w64 (v0_1 - a0.2.2.1.1)) then (w64 (v0_1 - a0.2.2.1.1)) else (0 : Int)) (w64 (v0_2 + (1 : Int)))
  else
    bif (decide (((WornI a0 (turnI (a1.getD 0 (0 : Int)) (a0.1.length : Int)) (turnI (a1.getD 1 (0 : Int)) (999 : Int))).2) = (0 : Int))) then
      bif (decide (((WornI a0 (turnI (a1.getD 0 (0 : Int)) (a0.1.length : Int)) (w64 ((turnI (a1.getD 1 (0 : Int)) (999 : Int)) + (1 : Int)))).2) = (0 : Int))) then
        bif ((decide (((WornI a0 (turnI (a1.getD 0 (0 : Int)) (a0.1.length : Int)) (turnI (a1.getD 1 (0 : Int)) (999 : Int))).1).1 = (mk2 v0_0 v0_1).1)) && ((decide (((WornI a0 (turnI (a1.getD 0 (0 : Int)) (a0.1.length : Int)) (turnI (a1.getD 1 (0 : Int)) (999 : Int))).1).2 = (mk2 v0_0 v0_1).2)) && true)) then
          bif (decide ((((WornI a0 (turnI (a1.getD 0 (0 : Int)) (a0.1.length : Int)) (w64 ((turnI (a1.getD 1 (0 : Int)) (999 : Int)) + (1 : Int)))).1).1) ≤ (((WornI a0 (turnI (a1.getD 0 (0 : Int)) (a0.1.length : Int)) (turnI (a1.getD 1 (0 : Int)) (999 : Int))).1).1))) then
            bif (decide ((((WornI a0 (turnI (a1.getD 0 (0 : Int)) (a0.1.length : Int)) (w64 ((turnI (a1.getD 1 (0 : Int)) (999 : Int)) + (1 : Int)))).1).2) ≤ (((WornI a0 (turnI (a1.getD 0 (0 : Int)) (a0.1.length : Int)) (turnI (a1.getD 1 (0 : Int)) (999 : Int))).1).2))) then
              some (.bool turnedB)
            else
              some (.bool false)
          else
            some (.bool false)
        else
          some (.bool false)
      else
        some (.bool false)
    else
      some (.bool false)

noncomputable def f12_s (a0 : ((List ((Int × Int) × (Int × Int) × (Int × Int))) × (Int × Int) × (Int × Int) × Int)) (a1 : (List Int)) (k0 : Int → Int → Int → Option (AV)) : Option (AV) :=
  bif (chkOK a0) then
    bif (!(soundB a0)) then
      some (.bool turnedB)
    else
      bif decide (0 ≤ (0 : Int)) && decide ((0 : Int) < 2) then
        bif decide (0 ≤ (1 : Int)) && decide ((1 : Int) < 2) then
          bif (chkOK3 a0 (turnI (a1.getD 0 (0 : Int)) (a0.1.length : Int)) (turnI (a1.getD 1 (0 : Int)) (999 : Int))) then
            bif (chkOK3 a0 (turnI (a1.getD 0 (0 : Int)) (a0.1.length : Int)) (w64 ((turnI (a1.getD 1 (0 : Int)) (999 : Int)) + (1 : Int)))) then
              bif decide (0 ≤ (turnI (a1.getD 0 (0 : Int)) (a0.1.length : Int))) && decide ((turnI (a1.getD 0 (0 : Int)) (a0.1.length : Int)) < (a0.1.length : Int)) then
                bif decide (0 ≤ (turnI (a1.getD 0 (0 : Int)) (a0.1.length : Int))) && decide ((turnI (a1.getD 0 (0 : Int)) (a0.1.length : Int)) < (a0.1.length : Int)) then
                  k0 (((a0.1.getD (turnI (a1.getD 0 (0 : Int)) (a0.1.length : Int)).toNat (((0 : Int), (0 : Int)), ((0 : Int), (0 : Int)), ((0 : Int), (0 : Int)))).2.2).1) (((a0.1.getD (turnI (a1.getD 0 (0 : Int)) (a0.1.length : Int)).toNat (((0 : Int), (0 : Int)), ((0 : Int), (0 : Int)), ((0 : Int), (0 : Int)))).2.2).2) (0 : Int)
                else
                  none
              else
                none
            else
              none
          else
            none
        else
          none
      else
        none
  else
    none

noncomputable def f12_R0 (a0 : ((List ((Int × Int) × (Int × Int) × (Int × Int))) × (Int × Int) × (Int × Int) × Int)) (a1 : (List Int)) (N : Nat) (n : Nat) (v0_0 : Int) (v0_1 : Int) (v0_2 : Int) : Option (AV) :=
  loopN (evC X12 N (sub [(1, 0), (1, 0), (1, 0), (1, 0), (1, 0), (1, 0), (0, 0), (1, 0), (0, 0), (0, 0)] (bodyOf Tryd.f12))) (keepOf X12.L (sub [(1, 0), (1, 0), (1, 0), (1, 0), (1, 0), (1, 0), (0, 0), (1, 0), (0, 0), (0, 0)] (bodyOf Tryd.f12))) n ⟨[.poison, .poison, .ref 2 [], .poison, .poison, .poison, .int (turnI (a1.getD 1 (0 : Int)) (999 : Int)), .ref 7 [], .int ((WornI a0 (turnI (a1.getD 0 (0 : Int)) (a0.1.length : Int)) (turnI (a1.getD 1 (0 : Int)) (999 : Int))).2), .ref 9 [], .int ((WornI a0 (turnI (a1.getD 0 (0 : Int)) (a0.1.length : Int)) (w64 ((turnI (a1.getD 1 (0 : Int)) (999 : Int)) + (1 : Int)))).2), .int v0_0, .int v0_1, .int v0_2, .poison, .poison, .poison, .poison, .poison, .poison, .poison, .poison, .poison, .poison, .poison, .poison, .poison, .poison, .poison, .poison, .poison, .poison, .poison, .poison, .poison, .poison, .poison, .poison, .poison, .poison, .poison, .poison, .poison, .poison, .poison, .poison, .poison, .poison, .poison, .poison, .poison, .poison, .poison, .poison, .poison, .poison, .poison, .poison, .poison, .poison, .poison, .poison, .poison, .poison, .poison, .poison, .poison, .poison, .poison, .poison, .poison, .poison, .poison, .poison, .poison, .poison, .poison, .poison, .poison, .poison, .poison, .poison, .poison, .poison, .poison, .poison, .poison, .poison, .poison, .poison, .poison, .poison, .poison, .poison, .poison, .poison, .poison, .poison, .poison, .poison, .poison, .poison, .poison], [.none, .none, .box (enc tRF a0), .none, .none, .none, .none, .box (enc tSpan ((WornI a0 (turnI (a1.getD 0 (0 : Int)) (a0.1.length : Int)) (turnI (a1.getD 1 (0 : Int)) (999 : Int))).1)), .none, .box (enc tSpan ((WornI a0 (turnI (a1.getD 0 (0 : Int)) (a0.1.length : Int)) (w64 ((turnI (a1.getD 1 (0 : Int)) (999 : Int)) + (1 : Int)))).1)), .none, .none, .none, .none, .none, .none, .none, .none, .none, .none, .none, .none, .none, .none, .none, .none, .none, .none, .none, .none, .none, .none, .none, .none, .none, .none, .none, .none, .none, .none, .none, .none, .none, .none, .none, .none, .none, .none, .none, .none, .none, .none, .none, .none, .none, .none, .none, .none, .none, .none, .none, .none, .none, .none, .none, .none, .none, .none, .none, .none, .none, .none, .none, .none, .none, .none, .none, .none, .none, .none, .none, .none, .none, .none, .none, .none, .none, .none, .none, .none, .none, .none, .none, .none, .none, .none, .none, .none, .none, .none, .none, .none, .none]⟩ (ctxK X12 N [(1, 0), (1, 0), (1, 0), (1, 0), (1, 0), (1, 0), (0, 0), (1, 0), (0, 0)] (bodyOf Tryd.f12) (finK X12 Tryd.f12))

theorem f12_e0 (a0 : ((List ((Int × Int) × (Int × Int) × (Int × Int))) × (Int × Int) × (Int × Int) × Int)) (a1 : (List Int)) (N : Nat) (n : Nat) (v0_0 : Int) (v0_1 : Int) (v0_2 : Int) : f12_R0 a0 a1 N (n + 1) v0_0 v0_1 v0_2 = f12_s0 a0 a1 (f12_R0 a0 a1 N n) v0_0 v0_1 v0_2 := by kernel_rfl

noncomputable def f12_L0 (a0 : ((List ((Int × Int) × (Int × Int) × (Int × Int))) × (Int × Int) × (Int × Int) × Int)) (a1 : (List Int)) (N : Nat) : Nat → Int → Int → Int → Option (AV)
  | 0, _, _, _ => none
  | n + 1, v0_0, v0_1, v0_2 => f12_s0 a0 a1 (f12_L0 a0 a1 N n) v0_0 v0_1 v0_2

theorem f12_q0 (a0 : ((List ((Int × Int) × (Int × Int) × (Int × Int))) × (Int × Int) × (Int × Int) × Int)) (a1 : (List Int)) (N : Nat) : ∀ n : Nat, f12_R0 a0 a1 N n = f12_L0 a0 a1 N n
  | 0 => by
    funext v0_0
    funext v0_1
    funext v0_2
    rfl
  | n + 1 => by
    funext v0_0
    funext v0_1
    funext v0_2
    rw [f12_e0]
    simp only [f12_q0 a0 a1 N n]
    rfl

noncomputable def f12_T (a0 : ((List ((Int × Int) × (Int × Int) × (Int × Int))) × (Int × Int) × (Int × Int) × Int)) (a1 : (List Int)) (N : Nat) : Option (AV) := f12_s a0 a1 (f12_L0 a0 a1 N N)

theorem f12_ev (a0 : ((List ((Int × Int) × (Int × Int) × (Int × Int))) × (Int × Int) × (Int × Int) × Int)) (a1 : (List Int)) (N : Nat) : evF X12 N Tryd.f12 [enc tRF a0, enc (.arr 2 .int) a1] = f12_T a0 a1 N := by
  have h : evF X12 N Tryd.f12 [enc tRF a0, enc (.arr 2 .int) a1] = f12_s a0 a1 (f12_R0 a0 a1 N N) := by kernel_rfl
  rw [h, f12_q0]
  rfl

end Ev
end Go.Proofs.YtidnikjkpbmhhaaDoor
/- Both ends: what the walk comes to is true. -/
set_option linter.unusedVariables false
set_option linter.unusedSimpArgs false
set_option maxRecDepth 4000
namespace Go.Proofs.YtidnikjkpbmhhaaDoor
namespace Ev

theorem feet_of {x : Fi} {k : Int} (hc : checkB x = true) (hin : inReels x k = true) : 1 ≤ (reelAt x k).2.2.1 ∧ (reelAt x k).2.2.1 ≤ (reelAt x k).2.2.2 ∧ (reelAt x k).2.2.2 ≤ 1200 ∧ 0 ≤ x.2.2.1.1 ∧ x.2.2.1.1 ≤ x.2.2.1.2 ∧ x.2.2.1.2 ≤ 50 := by
  have hr := reel_of hc hin
  simp only [okReel, legal, Bool.and_eq_true, decide_eq_true_eq] at hr
  simp only [checkB, legal, Bool.and_eq_true, decide_eq_true_eq] at hc
  obtain ⟨_, _, _, h1, h2, h3⟩ := hr
  exact ⟨h1, h2, h3, hc.2.2.1⟩

theorem tear_small {T : Int} (h0 : 0 ≤ T) (h1 : T ≤ 50) {n : Nat} (hn : n ≤ 2000) : 0 ≤ (n : Int) * T ∧ (n : Int) * T ≤ 100000 ∧ w64 ((n : Int) * T) = (n : Int) * T := by
  have e1 : (n : Int) * T ≤ 2000 * 50 := Int.mul_le_mul (by omega) h1 h0 (by omega)
  have e0 : 0 ≤ (n : Int) * T := Int.mul_nonneg (by omega) h0
  exact ⟨e0, by omega, w64_small (by omega) (by omega)⟩

theorem least_eq {x : Fi} {k : Int} (hc : checkB x = true) (hin : inReels x k = true) {n : Nat} (hn : n ≤ 2000) : leastI x k n = maxI 0 ((reelAt x k).2.2.1 - (n : Int) * x.2.2.1.2) := by
  obtain ⟨h1, h2, h3, h4, h5, h6⟩ := feet_of hc hin
  obtain ⟨t1, t2, t3⟩ := tear_small (T := x.2.2.1.2) (by omega) (by omega) hn
  unfold leastI
  rw [t3, w64_small (by omega) (by omega)]
theorem most_eq {x : Fi} {k : Int} (hc : checkB x = true) (hin : inReels x k = true) {n : Nat} (hn : n ≤ 2000) : mostI x k n = maxI 0 ((reelAt x k).2.2.2 - (n : Int) * x.2.2.1.1) := by
  obtain ⟨h1, h2, h3, h4, h5, h6⟩ := feet_of hc hin
  obtain ⟨t1, t2, t3⟩ := tear_small (T := x.2.2.1.1) (by omega) (by omega) hn
  unfold mostI
  rw [t3, w64_small (by omega) (by omega)]

theorem max_step {L T P : Int} (h0 : 0 ≤ T) (hT : T ≤ 50) (hL : L ≤ 1200) (hP : 0 ≤ P) (hP2 : P ≤ 100000) (hL0 : 0 ≤ L) : (if (0 : Int) < w64 (maxI 0 (L - P) - T) then w64 (maxI 0 (L - P) - T) else 0) = maxI 0 (L - (P + T)) ∧ maxI 0 (L - (P + T)) ≤ maxI 0 (L - P) := by
  have hm : 0 ≤ maxI 0 (L - P) ∧ maxI 0 (L - P) ≤ 1200 := by
    unfold maxI
    split <;> omega
  rw [w64_small (by omega) (by omega)]
  unfold maxI
  constructor
  · repeat' split
    all_goals omega
  · repeat' split
    all_goals omega

theorem least_step {x : Fi} {k : Int} (hc : checkB x = true) (hin : inReels x k = true) {n : Nat} (hn : n < 2000) : (if (0 : Int) < w64 (leastI x k n - x.2.2.1.2) then w64 (leastI x k n - x.2.2.1.2) else 0) = leastI x k (n + 1 : Nat) ∧ leastI x k (n + 1 : Nat) ≤ leastI x k n := by
  obtain ⟨h1, h2, h3, h4, h5, h6⟩ := feet_of hc hin
  obtain ⟨t1, t2, _⟩ := tear_small (T := x.2.2.1.2) (n := n) (by omega) (by omega) (by omega)
  rw [least_eq hc hin (n := n) (by omega), least_eq hc hin (n := n + 1) (by omega)]
  have e : ((n + 1 : Nat) : Int) * x.2.2.1.2 = (n : Int) * x.2.2.1.2 + x.2.2.1.2 := by rw [Int.natCast_add, Int.add_mul]; omega
  rw [e]
  exact max_step (by omega) (by omega) (by omega) t1 t2 (by omega)
theorem most_step {x : Fi} {k : Int} (hc : checkB x = true) (hin : inReels x k = true) {n : Nat} (hn : n < 2000) : (if (0 : Int) < w64 (mostI x k n - x.2.2.1.1) then w64 (mostI x k n - x.2.2.1.1) else 0) = mostI x k (n + 1 : Nat) ∧ mostI x k (n + 1 : Nat) ≤ mostI x k n := by
  obtain ⟨h1, h2, h3, h4, h5, h6⟩ := feet_of hc hin
  obtain ⟨t1, t2, _⟩ := tear_small (T := x.2.2.1.1) (n := n) (by omega) (by omega) (by omega)
  rw [most_eq hc hin (n := n) (by omega), most_eq hc hin (n := n + 1) (by omega)]
  have e : ((n + 1 : Nat) : Int) * x.2.2.1.1 = (n : Int) * x.2.2.1.1 + x.2.2.1.1 := by rw [Int.natCast_add, Int.add_mul]; omega
  rw [e]
  exact max_step (by omega) (by omega) (by omega) t1 t2 (by omega)
theorem least_zero {x : Fi} {k : Int} (hc : checkB x = true) (hin : inReels x k = true) : leastI x k (0 : Nat) = (reelAt x k).2.2.1 := by
  obtain ⟨h1, h2, h3, h4, h5, h6⟩ := feet_of hc hin
  rw [least_eq hc hin (n := 0) (by omega)]
  unfold maxI
  split <;> omega
theorem most_zero {x : Fi} {k : Int} (hc : checkB x = true) (hin : inReels x k = true) : mostI x k (0 : Nat) = (reelAt x k).2.2.2 := by
  obtain ⟨h1, h2, h3, h4, h5, h6⟩ := feet_of hc hin
  rw [most_eq hc hin (n := 0) (by omega)]
  unfold maxI
  split <;> omega

theorem worn_ok {x : Fi} {k n : Int} (hc : checkB x = true) (hin : inReels x k = true) (hn0 : 0 ≤ n) (hn : n ≤ 999) : WornI x k n = (wornS x k n, 0) := by
  have hl := check_len hc
  have h1 : isReelB x k = true := by
    simp only [inReels, Bool.and_eq_true, decide_eq_true_eq] at hin
    simp only [isReelB, amid, Bool.and_eq_true, decide_eq_true_eq]
    rw [w64_small (by omega) (by omega)]
    omega
  have h2 : amid n 0 999 = true := by simp [amid, hn0, hn]
  unfold WornI
  rw [h1, h2, Bool.and_true, asked_true hc, if_pos rfl]

theorem f12_loop (x : Fi) (ns : List Int) (hc : checkB x = true) (hin : inReels x (turnI (ns.getD 0 0) x.1.length) = true) (s : Nat) (hs : turnI (ns.getD 1 0) 999 = (s : Int)) (hs2 : s < 999) (N : Nat) : ∀ (m i : Nat), i + m = s → f12_L0 x ns N (m + 1) (leastI x (turnI (ns.getD 0 0) x.1.length) i) (mostI x (turnI (ns.getD 0 0) x.1.length) i) i = some (.bool true)
  | 0, i, h => by
    have e : f12_L0 x ns N (0 + 1) (leastI x (turnI (ns.getD 0 0) x.1.length) i) (mostI x (turnI (ns.getD 0 0) x.1.length) i) i = f12_s0 x ns (f12_L0 x ns N 0) (leastI x (turnI (ns.getD 0 0) x.1.length) i) (mostI x (turnI (ns.getD 0 0) x.1.length) i) i := rfl
    rw [e]
    have hi : i = s := by omega
    subst hi
    unfold f12_s0
    rw [hs]
    have hw : w64 ((i : Int) + 1) = ((i + 1 : Nat) : Int) := w64_succ (n := 2000) (by omega) (by omega)
    rw [hw, worn_ok hc hin (n := (i : Int)) (by omega) (by omega), worn_ok hc hin (n := ((i + 1 : Nat) : Int)) (by omega) (by omega)]
    have h1 : decide ((i : Int) < (i : Int)) = false := by simp
    have h2 := (least_step hc hin (n := i) (by omega)).2
    have h3 := (most_step hc hin (n := i) (by omega)).2
    simp only [wornS, mk2, h1, h2, h3, decide_true, cond_true, cond_false, Bool.and_self, turnedB]
  | m + 1, i, h => by
    have e : f12_L0 x ns N (m + 1 + 1) (leastI x (turnI (ns.getD 0 0) x.1.length) i) (mostI x (turnI (ns.getD 0 0) x.1.length) i) i = f12_s0 x ns (f12_L0 x ns N (m + 1)) (leastI x (turnI (ns.getD 0 0) x.1.length) i) (mostI x (turnI (ns.getD 0 0) x.1.length) i) i := rfl
    rw [e]
    unfold f12_s0
    rw [hs]
    have hw : w64 ((i : Int) + 1) = ((i + 1 : Nat) : Int) := w64_succ (n := 2000) (by omega) (by omega)
    have h1 : decide ((i : Int) < (s : Int)) = true := by simp; omega
    rw [h1, cond_true, hw, (least_step hc hin (n := i) (by omega)).1, (most_step hc hin (n := i) (by omega)).1]
    exact f12_loop x ns hc hin s hs hs2 N m (i + 1) (by omega)

theorem f12_sp (x0 : Fi) (x1 : List Int) (hp : endsOK x0 x1 = true) : ∃ (N : Nat) (r0 : AV), f12_T x0 x1 N = some r0 ∧ wkAV r0 = enc .bool (endsB x0 x1) := by
  have h : chkOK x0 = true := hp
  have h3 : ∀ a b, chkOK3 x0 a b = true := fun _ _ => h
  refine ⟨(turnI (x1.getD 1 0) 999).toNat + 1, .bool true, ?_, rfl⟩
  unfold f12_T f12_s
  rw [h]
  cases hc : soundB x0 with
  | false => rfl
  | true =>
    have hc' : checkB x0 = true := hc
    have hl := check_len hc'
    have hk := turn_range (n := x1.getD 0 0) (m := x0.1.length) (by omega) (by omega)
    have hs := turn_range (n := x1.getD 1 0) (m := 999) (by omega) (by omega)
    have hin : inReels x0 (turnI (x1.getD 0 0) x0.1.length) = true := by
      simp only [inReels, Bool.and_eq_true, decide_eq_true_eq]
      exact hk
    have hk2 : (decide (0 ≤ (turnI (x1.getD 0 (0 : Int)) (x0.1.length : Int))) && decide ((turnI (x1.getD 0 (0 : Int)) (x0.1.length : Int)) < (x0.1.length : Int))) = true := hin
    obtain ⟨s, hs3⟩ := Int.eq_ofNat_of_zero_le hs.1
    have hfin := f12_loop x0 x1 hc' hin s hs3 (by omega) (s + 1) s 0 (by omega)
    have e2 : (turnI (x1.getD 1 0) 999).toNat = s := by rw [hs3]; rfl
    rw [e2]
    rw [least_zero hc' hin, most_zero hc' hin] at hfin
    simp only [h3, hk2, Bool.not_true, cond_false, cond_true, decide_true, Bool.and_self, show decide ((0 : Int) < 2) = true from rfl, show decide ((1 : Int) < 2) = true from rfl, show decide ((0 : Int) ≤ 1) = true from rfl, show decide ((0 : Int) ≤ 0) = true from rfl]
    exact hfin

end Ev
end Go.Proofs.YtidnikjkpbmhhaaDoor
/- What is torn off: what the walk comes to is true. -/
set_option linter.unusedVariables false
set_option linter.unusedSimpArgs false
set_option maxRecDepth 4000
namespace Go.Proofs.YtidnikjkpbmhhaaDoor
namespace Ev

/-- The last round of which something holds. -/
def lastP (p : Nat → Bool) : Nat → Nat → Int → Int
  | 0, _, s => s
  | m + 1, n, s => lastP p m (n + 1) (if p n = true then (n : Int) else s)
theorem lastP_spec (p : Nat → Bool) : ∀ (m n : Nat) (s : Int), (lastP p m n s = s ∧ ∀ j, n ≤ j → j < n + m → p j = false) ∨ ∃ j, n ≤ j ∧ j < n + m ∧ lastP p m n s = (j : Int) ∧ p j = true ∧ ∀ i, j < i → i < n + m → p i = false
  | 0, n, s => .inl ⟨rfl, fun j h1 h2 => by omega⟩
  | m + 1, n, s => by
    rw [lastP]
    rcases lastP_spec p m (n + 1) (if p n = true then (n : Int) else s) with ⟨h1, h2⟩ | ⟨j, h1, h2, h3, h4, h5⟩
    · cases hp : p n with
      | true =>
        rw [hp, if_pos rfl] at h1
        exact .inr ⟨n, Nat.le_refl _, by omega, by rw [if_pos rfl]; exact h1, hp, fun i hi1 hi2 => h2 i (by omega) (by omega)⟩
      | false =>
        rw [hp, if_neg (by decide)] at h1
        refine .inl ⟨by rw [if_neg (by decide)]; exact h1, fun j hj1 hj2 => ?_⟩
        rcases Nat.eq_or_lt_of_le hj1 with e | hlt
        · rw [← e]; exact hp
        · exact h2 j (by omega) (by omega)
    · exact .inr ⟨j, by omega, by omega, h3, h4, fun i hi1 hi2 => h5 i hi1 (by omega)⟩

theorem shR_last (x : Fi) (k w : Int) : ∀ (m n : Nat) (s : Int × Int), shR x k w m n s = (lastP (fun n => decide (w ≤ leastI x k n)) m n s.1, lastP (fun n => decide (w ≤ mostI x k n)) m n s.2)
  | 0, n, s => rfl
  | m + 1, n, s => by
    rw [shR, shR_last x k w m (n + 1), lastP, lastP]
    simp only [decide_eq_true_eq]

theorem seR_hi (x : Fi) (k w : Int) : ∀ (m n : Nat) (s : Int × Int), (0 ≤ s.1 → (seR x k w m n s).1 = s.1) ∧ ((seR x k w m n s).2 = s.2 ∨ (n : Int) ≤ (seR x k w m n s).2)
  | 0, n, s => ⟨fun _ => rfl, .inl rfl⟩
  | m + 1, n, s => by
    rw [seR]
    by_cases hb : amid w (leastI x k n) (mostI x k n) = true
    · rw [if_pos hb]
      obtain ⟨h1, h2⟩ := seR_hi x k w m (n + 1) (if s.1 < 0 then (n : Int) else s.1, (n : Int))
      refine ⟨fun h => ?_, ?_⟩
      · rw [h1 (by dsimp only; split <;> omega)]
        dsimp only
        rw [if_neg (by omega)]
      · rcases h2 with h2 | h2
        · rw [h2]
          exact .inr (Int.le_refl _)
        · exact .inr (by omega)
    · rw [if_neg hb]
      obtain ⟨h1, h2⟩ := seR_hi x k w m (n + 1) s
      exact ⟨h1, h2.imp id fun h => by omega⟩
theorem seR_has (x : Fi) (k w : Int) (i : Nat) (hi : amid w (leastI x k i) (mostI x k i) = true) : ∀ (m n : Nat) (s : Int × Int), n ≤ i → i < n + m → s.1 < n → 0 ≤ (seR x k w m n s).1 ∧ (seR x k w m n s).1 ≤ i ∧ (i : Int) ≤ (seR x k w m n s).2
  | 0, n, s, h1, h2, h3 => by omega
  | m + 1, n, s, h1, h2, h3 => by
    rw [seR]
    rcases Nat.eq_or_lt_of_le h1 with e | hlt
    · subst e
      rw [if_pos hi]
      obtain ⟨q1, q2⟩ := seR_hi x k w m (n + 1) (if s.1 < 0 then (n : Int) else s.1, (n : Int))
      have q3 : 0 ≤ (if s.1 < 0 then (n : Int) else s.1) := by split <;> omega
      have q1 := q1 q3
      dsimp only at q1
      rw [q1]
      refine ⟨q3, by split <;> omega, ?_⟩
      rcases q2 with q2 | q2
      · rw [q2]; exact Int.le_refl _
      · omega
    · refine seR_has x k w i hi m (n + 1) _ (by omega) (by omega) ?_
      split
      · dsimp only
        split <;> omega
      · omega

theorem least_le {x : Fi} {k : Int} (hc : checkB x = true) (hin : inReels x k = true) : ∀ (d n : Nat), n + d ≤ 1999 → leastI x k ((n + d : Nat)) ≤ leastI x k n
  | 0, n, h => Int.le_refl _
  | d + 1, n, h => Int.le_trans (least_step hc hin (n := n + d) (by omega)).2 (least_le hc hin d n (by omega))
theorem most_le {x : Fi} {k : Int} (hc : checkB x = true) (hin : inReels x k = true) : ∀ (d n : Nat), n + d ≤ 1999 → mostI x k ((n + d : Nat)) ≤ mostI x k n
  | 0, n, h => Int.le_refl _
  | d + 1, n, h => Int.le_trans (most_step hc hin (n := n + d) (by omega)).2 (most_le hc hin d n (by omega))
theorem least_most {x : Fi} {k : Int} (hc : checkB x = true) (hin : inReels x k = true) {n : Nat} (hn : n ≤ 2000) : 0 ≤ leastI x k n ∧ leastI x k n ≤ mostI x k n ∧ mostI x k n ≤ 1200 := by
  obtain ⟨h1, h2, h3, h4, h5, h6⟩ := feet_of hc hin
  obtain ⟨t1, t2, _⟩ := tear_small (T := x.2.2.1.2) (n := n) (by omega) (by omega) (by omega)
  obtain ⟨u1, u2, _⟩ := tear_small (T := x.2.2.1.1) (n := n) (by omega) (by omega) (by omega)
  have e : (n : Int) * x.2.2.1.1 ≤ (n : Int) * x.2.2.1.2 := Int.mul_le_mul_of_nonneg_left h5 (by omega)
  rw [least_eq hc hin hn, most_eq hc hin hn]
  unfold maxI
  refine ⟨by split <;> omega, by split <;> split <;> omega, by split <;> omega⟩

/-- After how many showings a reel surely, or perhaps, has enough. -/
theorem shows_spec {x : Fi} {k w : Int} (hc : checkB x = true) (hin : inReels x k = true) (h1 : 1 ≤ w) (h2 : w ≤ 1200) : (ShowsI x k w = (0, 0, 4) ∧ mostI x k (0 : Nat) < w) ∨ ∃ s p : Int, ShowsI x k w = (s, p, 0) ∧ -1 ≤ s ∧ s ≤ 999 ∧ 0 ≤ p ∧ s ≤ p ∧ (∀ i : Nat, i ≤ 999 → (i : Int) ≤ s → w ≤ leastI x k i) ∧ ∀ i : Nat, i ≤ 999 → p < (i : Int) → mostI x k i < w := by
  have hl := check_len hc
  have hr : isReelB x k = true := by
    simp only [inReels, Bool.and_eq_true, decide_eq_true_eq] at hin
    simp only [isReelB, amid, Bool.and_eq_true, decide_eq_true_eq]
    rw [w64_small (by omega) (by omega)]
    omega
  have ha : amid w 1 1200 = true := by simp [amid, h1, h2]
  unfold ShowsI
  rw [hr, ha, Bool.and_true, asked_true hc, if_pos rfl]
  by_cases hw : (wornS x k 0).2 < w
  · rw [if_pos hw]
    exact .inl ⟨rfl, hw⟩
  · rw [if_neg hw, shR_last]
    have hw0 : w ≤ mostI x k (0 : Nat) := Int.not_lt.1 hw
    refine .inr ⟨_, _, rfl, ?_⟩
    dsimp only
    have hs := lastP_spec (fun n => decide (w ≤ leastI x k n)) 1000 0 (-1)
    have hp := lastP_spec (fun n => decide (w ≤ mostI x k n)) 1000 0 (-1)
    rcases hp with ⟨_, hp⟩ | ⟨j, p1, p2, p3, p4, p5⟩
    · have := hp 0 (by omega) (by omega)
      simp only [decide_eq_false_iff_not] at this
      exact absurd hw0 this
    · rw [p3]
      simp only [decide_eq_true_eq] at p4
      have hpp : ∀ i : Nat, i ≤ 999 → (j : Int) < (i : Int) → mostI x k i < w := fun i hi hji => by
        have := p5 i (by omega) (by omega)
        simp only [decide_eq_false_iff_not] at this
        omega
      rcases hs with ⟨s1, s2⟩ | ⟨g, s1, s2, s3, s4, s5⟩
      · rw [s1]
        exact ⟨by omega, by omega, by omega, by omega, fun i _ hi => by omega, hpp⟩
      · rw [s3]
        simp only [decide_eq_true_eq] at s4
        refine ⟨by omega, by omega, by omega, ?_, fun i hi hig => ?_, hpp⟩
        · apply Classical.byContradiction
          intro hn
          have := hpp g (by omega) (by omega)
          have := (least_most hc hin (n := g) (by omega)).2.1
          omega
        · have := least_le hc hin (g - i) i (by omega)
          rw [show i + (g - i) = g by omega] at this
          omega

/-- How many showings a reel had: those that it can have had are among them. -/
theorem seen_spec {x : Fi} {k w : Int} (hc : checkB x = true) (hin : inReels x k = true) {i : Nat} (hi : i ≤ 999) (h1 : leastI x k i ≤ w) (h2 : w ≤ mostI x k i) : ∃ s : Sp, SeenI x k w = (s, 0) ∧ s.1 ≤ i ∧ (i : Int) ≤ s.2 := by
  have hl := check_len hc
  have hr : isReelB x k = true := by
    simp only [inReels, Bool.and_eq_true, decide_eq_true_eq] at hin
    simp only [isReelB, amid, Bool.and_eq_true, decide_eq_true_eq]
    rw [w64_small (by omega) (by omega)]
    omega
  have hb := least_most hc hin (n := i) (by omega)
  have ha : amid w 0 1200 = true := by
    simp only [amid, Bool.and_eq_true, decide_eq_true_eq]
    omega
  have hm : amid w (leastI x k i) (mostI x k i) = true := by simp [amid, h1, h2]
  obtain ⟨q1, q2, q3⟩ := seR_has x k w i hm 1000 0 (-1, -1) (by omega) (by omega) (by dsimp only; omega)
  unfold SeenI
  rw [hr, ha, Bool.and_true, asked_true hc, if_pos rfl, if_neg (by omega)]
  exact ⟨_, rfl, q2, q3⟩

theorem choose_range {s : Sp} {n : Int} (h0 : 0 ≤ s.1) (h1 : s.1 ≤ s.2) (h2 : s.2 ≤ 1000000) : s.1 ≤ chooseI s n ∧ chooseI s n ≤ s.2 := by
  have hr := turn_range (n := n) (m := s.2 - s.1 + 1) (by omega) (by omega)
  unfold chooseI
  rw [if_neg (by omega), w64_small (n := s.2 - s.1) (by omega) (by omega), w64_small (n := s.2 - s.1 + 1) (by omega) (by omega), w64_small (by omega) (by omega)]
  omega

/-- A round goes on. -/
def tornNext (x : Fi) (bits : List Int) (k0 : Int → Int → Option AV) (feet i : Int) : Option AV :=
  bif (decide (feet < (chooseI x.2.2.1 (pickI bits (w64 (i + (1 : Int))))))) then k0 (0 : Int) (w64 (i + (1 : Int)))
  else k0 (w64 (feet - (chooseI x.2.2.1 (pickI bits (w64 (i + (1 : Int))))))) (w64 (i + (1 : Int)))

theorem f11_loop (x : Fi) (ns bits : List Int) (need : Int) (hx : chkOK x = true) (hb : lenOK bits = true) (hc : checkB x = true) (hin : inReels x (turnI (ns.getD 0 0) x.1.length) = true) (sh : Nat) (hs : turnI (ns.getD 1 0) 120 = (sh : Int)) (hs2 : sh < 120) (N : Nat) : ∀ (m i : Nat) (feet : Int), i + m = sh + 1 → leastI x (turnI (ns.getD 0 0) x.1.length) i ≤ feet → feet ≤ mostI x (turnI (ns.getD 0 0) x.1.length) i → f11_L0 x ns bits need N (m + 1) feet i = some (.bool true)
  | 0, i, feet, h, h1, h2 => by
    have e : f11_L0 x ns bits need N (0 + 1) feet i = f11_s0 x ns bits need (f11_L0 x ns bits need N 0) feet i := rfl
    rw [e]
    unfold f11_s0
    rw [hs]
    have h3 : decide ((i : Int) ≤ (sh : Int)) = false := by simp; omega
    rw [h3]
    rfl
  | m + 1, i, feet, h, h1, h2 => by
    have e : f11_L0 x ns bits need N (m + 1 + 1) feet i = f11_s0 x ns bits need (f11_L0 x ns bits need N (m + 1)) feet i := rfl
    have hlm := least_most hc hin (n := i) (by omega)
    have hwant := turn_range (n := need) (m := 1200) (by omega) (by omega)
    obtain ⟨sn, hsn, sn1, sn2⟩ := seen_spec hc hin (i := i) (by omega) h1 h2
    have hwo := worn_ok hc hin (n := (i : Int)) (by omega) (by omega)
    have hw1 : w64 ((i : Int) + 1) = ((i + 1 : Nat) : Int) := w64_succ (n := 2000) (by omega) (by omega)
    have hnext : tornNext x bits (f11_L0 x ns bits need N (m + 1)) feet i = some (.bool true) := by
      obtain ⟨g1, g2, g3, g4, g5, g6⟩ := feet_of hc hin
      have hcr := choose_range (s := x.2.2.1) (n := pickI bits ((i + 1 : Nat) : Int)) g4 g5 (by omega)
      have hl1 := (least_step hc hin (n := i) (by omega)).1
      have hm1 := (most_step hc hin (n := i) (by omega)).1
      unfold tornNext
      rw [hw1]
      by_cases hf : feet < chooseI x.2.2.1 (pickI bits ((i + 1 : Nat) : Int))
      · rw [decide_eq_true hf, cond_true]
        refine f11_loop x ns bits need hx hb hc hin sh hs hs2 N m (i + 1) 0 (by omega) ?_ (Int.le_trans (least_most hc hin (n := i + 1) (by omega)).1 (least_most hc hin (n := i + 1) (by omega)).2.1)
        rw [← hl1, w64_small (by omega) (by omega)]
        split <;> omega
      · rw [decide_eq_false hf, cond_false, w64_small (n := feet - _) (by omega) (by omega)]
        refine f11_loop x ns bits need hx hb hc hin sh hs hs2 N m (i + 1) _ (by omega) ?_ ?_
        · rw [← hl1, w64_small (by omega) (by omega)]
          split <;> omega
        · rw [← hm1, w64_small (by omega) (by omega)]
          split <;> omega
    have hww : w64 (1 + turnI need 1200) = 1 + turnI need 1200 := w64_small (by omega) (by omega)
    have hh1 : holds (wornS x (turnI (ns.getD 0 0) x.1.length) i) feet = true := by
      unfold holds amid wornS
      rw [decide_eq_true h1, decide_eq_true h2]
      rfl
    have hh2 : holds sn (i : Int) = true := by
      unfold holds amid
      rw [decide_eq_true sn1, decide_eq_true sn2]
      rfl
    have h3 : decide ((i : Int) ≤ (sh : Int)) = true := by simp; omega
    have hpk : ∀ n, pickOK2 bits n = true := fun _ => hb
    have hck : ∀ a b, chkOK3 x a b = true := fun _ _ => hx
    rw [e]
    unfold f11_s0
    simp only [hs, h3, hck, hwo, hsn, hh1, hh2, hww, hpk, cond_true, cond_false, decide_true, Bool.not_true]
    rcases shows_spec (w := 1 + turnI need 1200) hc hin (by omega) (by omega) with ⟨s1, s2⟩ | ⟨s, p, s1, s2, s3, s4, s5, s6, s7⟩
    · have hm0 := most_le hc hin i 0 (by omega)
      rw [Nat.zero_add] at hm0
      have hno : decide (1 + turnI need 1200 ≤ feet) = false := by simp; omega
      simp only [s1, hno, show decide ((4 : Int) = 0) = false from rfl, Bool.not_false, cond_true, cond_false]
      exact hnext
    · simp only [s1, decide_true, Bool.not_true, cond_true, cond_false]
      by_cases c1 : (i : Int) ≤ s
      · have := s6 i (by omega) c1
        have hno : decide (feet < 1 + turnI need 1200) = false := by simp; omega
        have hno2 : decide (p < (i : Int)) = false := by simp; omega
        simp only [decide_eq_true c1, hno, hno2, cond_true, cond_false]
        exact hnext
      · by_cases c2 : p < (i : Int)
        · have := s7 i (by omega) c2
          have hno : decide (1 + turnI need 1200 ≤ feet) = false := by simp; omega
          by_cases c3 : p < 999
          · simp only [decide_eq_false c1, decide_eq_true c2, decide_eq_true c3, hno, cond_true, cond_false]
            exact hnext
          · simp only [decide_eq_false c1, decide_eq_true c2, decide_eq_false c3, cond_true, cond_false]
            exact hnext
        · simp only [decide_eq_false c1, decide_eq_false c2, cond_true, cond_false]
          exact hnext

theorem f11_sp (x0 : Fi) (x1 x2 : List Int) (x3 : Int) (hp : tornOK x0 x1 x2 x3 = true) : ∃ (N : Nat) (r0 : AV), f11_T x0 x1 x2 x3 N = some r0 ∧ wkAV r0 = enc .bool (tornB x0 x1 x2 x3) := by
  simp only [tornOK, Bool.and_eq_true] at hp
  obtain ⟨h, hb⟩ := hp
  have hck : ∀ a b, chkOK3 x0 a b = true := fun _ _ => h
  have hpk : ∀ n, pickOK2 x2 n = true := fun _ => hb
  refine ⟨(turnI (x1.getD 1 0) 120).toNat + 2, .bool true, ?_, rfl⟩
  unfold f11_T f11_s
  rw [h]
  cases hc : soundB x0 with
  | false => rfl
  | true =>
    have hc' : checkB x0 = true := hc
    have hl := check_len hc'
    have hk := turn_range (n := x1.getD 0 0) (m := x0.1.length) (by omega) (by omega)
    have hs := turn_range (n := x1.getD 1 0) (m := 120) (by omega) (by omega)
    have hwant := turn_range (n := x3) (m := 1200) (by omega) (by omega)
    have hin : inReels x0 (turnI (x1.getD 0 0) x0.1.length) = true := by
      simp only [inReels, Bool.and_eq_true, decide_eq_true_eq]
      exact hk
    have hk2 : (decide (0 ≤ (turnI (x1.getD 0 (0 : Int)) (x0.1.length : Int))) && decide ((turnI (x1.getD 0 (0 : Int)) (x0.1.length : Int)) < (x0.1.length : Int))) = true := hin
    obtain ⟨sh, hs3⟩ := Int.eq_ofNat_of_zero_le hs.1
    have hww : w64 (1 + turnI x3 1200) = 1 + turnI x3 1200 := w64_small (by omega) (by omega)
    obtain ⟨g1, g2, g3, g4, g5, g6⟩ := feet_of hc' hin
    have hcr := choose_range (s := (reelAt x0 (turnI (x1.getD 0 0) x0.1.length)).2.2) (n := pickI x2 0) (by omega) g2 (by omega)
    have hfin := f11_loop x0 x1 x2 x3 h hb hc' hin sh hs3 (by omega) (sh + 2) (sh + 1) 0 _ (by omega) (by rw [least_zero hc' hin]; exact hcr.1) (by rw [most_zero hc' hin]; exact hcr.2)
    have e2 : (turnI (x1.getD 1 0) 120).toNat = sh := by rw [hs3]; rfl
    rw [e2]
    have hfin' : f11_L0 x0 x1 x2 x3 (sh + 2) (sh + 2) (chooseI ((x0.1.getD (turnI (x1.getD 0 (0 : Int)) (x0.1.length : Int)).toNat (((0 : Int), (0 : Int)), ((0 : Int), (0 : Int)), ((0 : Int), (0 : Int)))).2.2) (pickI x2 (0 : Int))) 0 = some (.bool true) := hfin
    simp only [hck, hpk, hk2, hww, Bool.not_true, cond_false, cond_true, decide_true, Bool.and_self, show decide ((0 : Int) < 2) = true from rfl, show decide ((1 : Int) < 2) = true from rfl, show decide ((0 : Int) ≤ 1) = true from rfl, show decide ((0 : Int) ≤ 0) = true from rfl]
    rcases shows_spec (w := 1 + turnI x3 1200) hc' hin (by omega) (by omega) with ⟨s1, s2⟩ | ⟨s, p, s1, s2, s3, s4, s5, s6, s7⟩
    · rw [most_zero hc' hin] at s2
      have hno : decide (1 + turnI x3 1200 ≤ (x0.1.getD (turnI (x1.getD 0 (0 : Int)) (x0.1.length : Int)).toNat (((0 : Int), (0 : Int)), ((0 : Int), (0 : Int)), ((0 : Int), (0 : Int)))).2.2.2) = false := by
        have s2' : (x0.1.getD (turnI (x1.getD 0 (0 : Int)) (x0.1.length : Int)).toNat (((0 : Int), (0 : Int)), ((0 : Int), (0 : Int)), ((0 : Int), (0 : Int)))).2.2.2 < 1 + turnI x3 1200 := s2
        rw [decide_eq_false_iff_not]
        omega
      simp only [s1, hno, show decide ((4 : Int) = 0) = false from rfl, decide_true, Bool.not_false, Bool.not_true, cond_true, cond_false]
      exact hfin'
    · have n1 : decide (p < s) = false := by simp; omega
      have n2 : amid s (-1) 999 = true := by simp [amid, s2, s3]
      have n3 : decide (p < 0) = false := by simp; omega
      simp only [s1, n1, n2, n3, decide_true, Bool.not_true, cond_true, cond_false]
      exact hfin'

end Ev
end Go.Proofs.YtidnikjkpbmhhaaDoor
/- The contract of the law of what is torn off. -/
set_option linter.unusedVariables false
set_option maxRecDepth 4000
namespace Go.Proofs.YtidnikjkpbmhhaaDoor
namespace Ev

theorem k11 : Good 11 g11 := ⟨ctr_ofN (B := Bs) (X := X11) (ctxOK rfl rfl rfl rfl rfl rfl (AllC.cons k25 (AllC.cons k30 (AllC.cons k32 (AllC.cons k34 (AllC.cons k43 (AllC.cons k48 (AllC.cons k52 (AllC.cons k54 (AllC.cons k55 (AllC.cons k56 AllC.nil))))))))))) Tryd.func11 (fun args r h => by
  unfold g11 at h
  split at h
  · rename_i a0 a1 a2 a3
    split at h
    · rename_i x0 x1 x2 x3 h0 h1 h2 h3
      simp only [Option.some.injEq, Prod.mk.injEq] at h
      obtain ⟨hp, rfl⟩ := h
      obtain ⟨N, r0, q1, q2⟩ := f11_sp x0 x1 x2 x3 hp
      refine ⟨N, r0, ?_, q2⟩
      simp only [wkL, wk_dec h0, wk_dec h1, wk_dec h2, wk_dec h3]
      exact (f11_ev x0 x1 x2 x3 N).trans q1
    · cases h
  · cases h), Tryd.f11, Tryd.func11, by kernel_rfl, by kernel_rfl⟩

end Ev
end Go.Proofs.YtidnikjkpbmhhaaDoor
/- ReelTorn returns true for every film and all numbers, and leaves them as they were: where the package variables hold what its text lays. -/
set_option linter.unusedVariables false
set_option linter.unusedSimpArgs false
set_option maxRecDepth 4000
namespace Go.Proofs.YtidnikjkpbmhhaaDoor
namespace Ev
open Go.ChangeShapes Go.WideShapes Go.ChangeAt Go.RowKit

theorem torn_contract (H : Type) (enc' : TypeId × Value → H) (W : World) (base : Nat) (args : Array Value) (ds gs : List (DataW H)) (before : List MemPlace)
    (hval : ∀ (j : Nat) t v, Tryd.f11.params[j]? = some t → args[j]? = some v → Value.okWide Tryd.prog W .any base t v)
    (hW : DataW.Whole enc' Tryd.prog Tryd.f11.params.toList Rows.reelTornSpec.vars false W args.toList ds gs before)
    (hw : (DataW.weightsEach Tryd.prog (Tryd.f11.params.toList ++ (OpenSpec.ofChange Rows.reelTornSpec).bare.plain.varTypes Tryd.prog) (ds ++ gs)).all (· ≤ reachBytes) = true) (hL : laidMetH Tryd.prog laidAll W) :
    Calls Tryd.prog 11 args W fun e W' => ∃ v, e = .returned v ∧ Rows.reelTornSpec.post enc' Tryd.prog Tryd.f11 false true false false W args v W' := by
  have hW' := hW
  obtain ⟨p, q, hA0, hV, rfl, hfz, hnd⟩ := hW
  have hA : DataW.TrodAll enc' Tryd.prog W 0 (fun _ => true) true Tryd.f11.params.toList args.toList ds p := hA0
  rw [Tryd.params11] at hA hval
  obtain ⟨v0, vs0, d0, ds0, p0, q0, hargs, rfl, rfl, h0, r0⟩ := trodAll_cons hA
  obtain ⟨v1, vs1, d1, ds1, p1, q1, rfl, rfl, rfl, h1, r1⟩ := trodAll_cons r0
  obtain ⟨v2, vs2, d2, ds2, p2, q2, rfl, rfl, rfl, h2, r2⟩ := trodAll_cons r1
  obtain ⟨v3, vs3, d3, ds3, p3, q3, rfl, rfl, rfl, h3, r3⟩ := trodAll_cons r2
  obtain ⟨rfl, rfl, rfl⟩ := trodAll_nil r3
  obtain rfl : args = #[v0, v1, v2, v3] := by cases args; simp_all
  obtain ⟨rfl, rfl⟩ := trodVars_none hV
  have hvt : (OpenSpec.ofChange Rows.reelTornSpec).bare.plain.varTypes Tryd.prog = [] := by kernel_rfl
  rw [Tryd.params11, hvt] at hw
  obtain ⟨n0, h0⟩ := h0
  obtain ⟨x0, e0, hd0⟩ := rd_film h0
  have hx0 : chkOK x0 = true := film_bound hd0 fun n hn => by
    have := List.all_eq_true.1 hw n (by
      simp only [List.append_nil, DataW.weightsEach, List.mem_append]
      exact .inl hn)
    simpa using this
  obtain ⟨n1, h1⟩ := h1
  obtain ⟨x1, e1⟩ := rd_ints Tryd.underlying54 (by kernel_rfl) h1
  have hx1 : x1.length = 2 := e1.1
  obtain ⟨n2, h2⟩ := h2
  obtain ⟨x2, e2, hd2⟩ := rd_list h2
  have hx2 : lenOK x2 = true := list_bound hd2 fun n hn => by
    have := List.all_eq_true.1 hw n (by
      simp only [List.append_nil, DataW.weightsEach, List.mem_append]
      exact .inr (.inr (.inl hn)))
    simpa using this
  obtain ⟨n3, h3⟩ := h3
  obtain ⟨x3, e3, _⟩ := rd_int h3
  have hx3 := trivial
  have hrel : RelV TRr (baseCx noV noIo) W [enc tRF x0, enc (.arr 2 .int) x1, enc tInts x2, enc .int x3] [v0, v1, v2, v3] := by
    simp only [RelV]
    exact ⟨v0, _, rfl, vr_film e0 (agg_of Tryd.underlying26 (hval 0 _ v0 rfl rfl)), ⟨v1, _, rfl, vr_arr e1 (agg_ofA Tryd.underlying54 (hval 1 _ v1 rfl rfl)), ⟨v2, _, rfl, vr_list e2 (hval 2 _ v2 rfl rfl), ⟨v3, _, rfl, vr_num e3 (hval 3 _ v3 rfl rfl), rfl⟩⟩⟩⟩
  have hg : g11 [enc tRF x0, enc (.arr 2 .int) x1, enc tInts x2, enc .int x3] = some (true, .bool true) := by
    have g0 : dec tRF (enc tRF x0) = some x0 := by kernel_rfl
    have g1 : dec (.arr 2 .int) (enc (.arr 2 .int) x1) = some x1 := by kernel_rfl
    have g2 : dec tInts (enc tInts x2) = some x2 := by kernel_rfl
    have g3 : dec .int (enc .int x3) = some x3 := by kernel_rfl
    unfold g11
    simp only [g0, g1, g2, g3]
    have : tornOK x0 x1 x2 x3 = true := (by simp [tornOK, hx0, hx2])
    rw [this]
    rfl
  refine Calls.mono (law_calls k11 hL hrel hg) ?_
  rintro e W' ⟨rfl, io', hk⟩
  exact ⟨_, rfl, post_true hk hW' rfl (by kernel_rfl) (by kernel_rfl) rfl⟩

theorem torn_reads (os : Os) {H : Type} (enc : TypeId × Value → H) : ∃ places, DataW.whole enc Tryd.prog ((World.doorLaid Tryd.prog 24 os).forCall (fun _ _ => 0) ⟨#[], #[zFilm, zInts 2, .slice none 0 0, .int .i64 0], []⟩).memory Tryd.f11.params.toList Rows.reelTornSpec.vars false (#[zFilm, zInts 2, .slice none 0 0, .int .i64 0] : Array Value).toList 8 = some ([.agg [.nil, .agg [.lit (.int .i64 0), .lit (.int .i64 0)], .agg [.lit (.int .i64 0), .lit (.int .i64 0)], .lit (.int .i64 0)], .agg [.lit (.int .i64 0), .lit (.int .i64 0)], .nil, .lit (.int .i64 0)], [], places) :=
  ⟨[], by kernel_rfl⟩

set_option maxRecDepth 100000 in
theorem torn_lifted (os : Os) (started : os.Started) (H : Type) (enc : TypeId × Value → H) (F : Stop.Interp) :
    ReturnsInHanded {} Tryd.checked os 11 .any ((OpenSpec.ofChange Rows.reelTornSpec).preRow enc Tryd.prog Tryd.f11 Rows.reelTornRow.domain false Rows.reelTornRow.laid) (((OpenSpec.ofChange Rows.reelTornSpec).at F).post enc Tryd.prog Tryd.f11 false true false false) := by
  obtain ⟨places, hx⟩ := torn_reads os enc
  refine returnsInHanded_of_row (C := Tryd.checked) (s := OpenSpec.ofChange Rows.reelTornSpec) own started (by kernel_rfl) Tryd.func11
    (witness_row_at (enc := enc) (C := Tryd.checked) false (World.doorLaid Tryd.prog 24 os) #[zFilm, zInts 2, .slice none 0 0, .int .i64 0] rfl (by kernel_rfl) (by kernel_rfl) (by kernel_rfl)
      (OpenSpec.preRow_of_cond 8 hx (by kernel_rfl) (fun k hk => by cases hk) (by kernel_rfl) (door_met os _))) ?_
  intro W base args ds gs before hval hW _ _ hw hL _ _
  exact torn_contract H enc W base args ds gs before hval hW hw hL

theorem torn_said : Rows.ReelTornSaid :=
  OpenClaim.holds_of_cond 11 Tryd.f11 rfl rfl rfl rfl rfl rfl rfl ⟨rfl, rfl, rfl, rfl, rfl⟩ rfl rfl rfl rfl rfl (by kernel_rfl) Tryd.func11 (by kernel_rfl)
    (of_decide_eq_true (by kernel_rfl)) (by unfold Func.isWrapper; first | (rw [if_pos (by decide +kernel)]; kernel_rfl) | (rw [if_neg (by decide +kernel)]; exact ⟨rfl, rfl⟩))
    (fun os started H enc _ F => by rw [OpenClaim.pre_eq_preRow]; exact torn_lifted os started H enc F)

theorem torn_plain (f : FuncId) (fn : Func) (hf : Tryd.pinned.checked.prog.funcNamed "bioscope/bioscopelaw01.ReelTorn" = some f) (hfn : Tryd.pinned.checked.prog.funcs[f]? = some fn) :
    false = Tryd.pinned.checked.prog.looks [] ∧ ∀ (j : Nat) t, fn.params[j]? = some t → Tryd.pinned.checked.prog.wantsStandIn t = false := by
  obtain rfl : f = 11 := Option.some.inj ((show Tryd.prog.funcNamed "bioscope/bioscopelaw01.ReelTorn" = some 11 by kernel_rfl).symm.trans hf) |>.symm
  obtain rfl : fn = Tryd.f11 := (Option.some.inj (Tryd.func11.symm.trans hfn)).symm
  refine ⟨by kernel_rfl, fun j t ht => ?_⟩
  have hall : (Tryd.f11.params.toList.all fun u => !Tryd.prog.wantsStandIn u) = true := by kernel_rfl
  have hm : t ∈ Tryd.f11.params.toList := by simpa using Array.mem_of_getElem? ht
  have h2 : Tryd.prog.wantsStandIn t = false := by simpa using List.all_eq_true.1 hall t hm
  exact h2

end Ev

/-- The statement. -/
theorem reelTorn_holds : Rows.ReelTornCardSaid :=
  Claim7.holds_tied_plain_at .later [] _ _ _ _ Ev.torn_said (fun _ h => by cases h) (by kernel_rfl) (fun _ h => by cases h) reelTorn_row_tie rfl ⟨rfl, rfl⟩ (by kernel_rfl) rfl Ev.torn_plain (by kernel_rfl)
end Go.Proofs.YtidnikjkpbmhhaaDoor
