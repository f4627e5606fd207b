/- The law of the feet, as the evaluator walks it. -/
import Derived.Test.YtidnikjkpbmhhaaDoorTrn
import Derived.Test.YtidnikjkpbmhhaaDoorKfe
import Derived.Test.YtidnikjkpbmhhaaDoorPcm
set_option linter.unusedVariables false
set_option maxRecDepth 4000
namespace Go.Proofs.YtidnikjkpbmhhaaDoor
namespace Ev

def feetB (_ : Fi) (_ : List Int) : Bool := true
def feetOK (x : Fi) (_ : List Int) : Bool := chkOK x
noncomputable def g5 : List AV → Option (Bool × AV)
  | [a0, a1] =>
    match dec tRF a0, dec (.arr 3 .int) a1 with
    | some x0, some x1 => some ((feetOK x0 x1), enc .bool (feetB x0 x1))
    | _, _ => none
  | _ => none
noncomputable def X5 : Ctx := { T := TT, G := GG, C := [(25, g25), (30, g30), (31, g31), (32, g32), (33, g33), (34, g34), (35, g35)], L := [] }
noncomputable def f5_s (a0 : ((List ((Int × Int) × (Int × Int) × (Int × Int))) × (Int × Int) × (Int × Int) × Int)) (a1 : (List Int)) : Option (AV) :=
  bif decide (0 ≤ (0 : Int)) && decide ((0 : Int) < 3) then
    bif decide (0 ≤ (1 : Int)) && decide ((1 : Int) < 3) then
      bif (chkOK3 a0 (a1.getD 0 (0 : Int)) (a1.getD 1 (0 : Int))) then
        bif decide (0 ≤ (0 : Int)) && decide ((0 : Int) < 3) then
          bif decide (0 ≤ (1 : Int)) && decide ((1 : Int) < 3) then
            bif (chkOK3 a0 (a1.getD 0 (0 : Int)) (a1.getD 1 (0 : Int))) then
              bif (!((decide (((WornI a0 (a1.getD 0 (0 : Int)) (a1.getD 1 (0 : Int))).1).1 = ((WornI a0 (a1.getD 0 (0 : Int)) (a1.getD 1 (0 : Int))).1).1)) && ((decide (((WornI a0 (a1.getD 0 (0 : Int)) (a1.getD 1 (0 : Int))).1).2 = ((WornI a0 (a1.getD 0 (0 : Int)) (a1.getD 1 (0 : Int))).1).2)) && true))) then
                some (.bool false)
              else
                bif (!decide (((WornI a0 (a1.getD 0 (0 : Int)) (a1.getD 1 (0 : Int))).2) = ((WornI a0 (a1.getD 0 (0 : Int)) (a1.getD 1 (0 : Int))).2))) then
                  some (.bool false)
                else
                  bif decide (0 ≤ (0 : Int)) && decide ((0 : Int) < 3) then
                    bif decide (0 ≤ (2 : Int)) && decide ((2 : Int) < 3) then
                      bif (chkOK3 a0 (a1.getD 0 (0 : Int)) (a1.getD 2 (0 : Int))) then
                        bif decide (0 ≤ (0 : Int)) && decide ((0 : Int) < 3) then
                          bif decide (0 ≤ (2 : Int)) && decide ((2 : Int) < 3) then
                            bif (chkOK3 a0 (a1.getD 0 (0 : Int)) (a1.getD 2 (0 : Int))) then
                              bif (!decide (((ShowsI a0 (a1.getD 0 (0 : Int)) (a1.getD 2 (0 : Int))).1) = ((ShowsI a0 (a1.getD 0 (0 : Int)) (a1.getD 2 (0 : Int))).1))) then
                                some (.bool false)
                              else
                                bif (!decide (((ShowsI a0 (a1.getD 0 (0 : Int)) (a1.getD 2 (0 : Int))).2.1) = ((ShowsI a0 (a1.getD 0 (0 : Int)) (a1.getD 2 (0 : Int))).2.1))) then
                                  some (.bool false)
                                else
                                  bif (!decide (((ShowsI a0 (a1.getD 0 (0 : Int)) (a1.getD 2 (0 : Int))).2.2) = ((ShowsI a0 (a1.getD 0 (0 : Int)) (a1.getD 2 (0 : Int))).2.2))) then
                                    some (.bool false)
                                  else
                                    bif decide (0 ≤ (0 : Int)) && decide ((0 : Int) < 3) then
                                      bif decide (0 ≤ (2 : Int)) && decide ((2 : Int) < 3) then
                                        bif (chkOK3 a0 (a1.getD 0 (0 : Int)) (a1.getD 2 (0 : Int))) then
                                          bif decide (0 ≤ (0 : Int)) && decide ((0 : Int) < 3) then
                                            bif decide (0 ≤ (2 : Int)) && decide ((2 : Int) < 3) then
                                              bif (chkOK3 a0 (a1.getD 0 (0 : Int)) (a1.getD 2 (0 : Int))) then
                                                bif ((decide (((SeenI a0 (a1.getD 0 (0 : Int)) (a1.getD 2 (0 : Int))).1).1 = ((SeenI a0 (a1.getD 0 (0 : Int)) (a1.getD 2 (0 : Int))).1).1)) && ((decide (((SeenI a0 (a1.getD 0 (0 : Int)) (a1.getD 2 (0 : Int))).1).2 = ((SeenI a0 (a1.getD 0 (0 : Int)) (a1.getD 2 (0 : Int))).1).2)) && true)) then
                                                  bif (decide (((SeenI a0 (a1.getD 0 (0 : Int)) (a1.getD 2 (0 : Int))).2) = ((SeenI a0 (a1.getD 0 (0 : Int)) (a1.getD 2 (0 : Int))).2))) then
                                                    some (.bool turnedB)
                                                  else
                                                    some (.bool false)
                                                else
                                                  some (.bool false)
                                              else
                                                none
                                            else
                                              none
                                          else
                                            none
                                        else
                                          none
                                      else
                                        none
                                    else
                                      none
                            else
                              none
                          else
                            none
                        else
                          none
                      else
                        none
                    else
                      none
                  else
                    none
            else
              none
          else
            none
        else
          none
      else
        none
    else
      none
  else
    none

noncomputable def f5_T (a0 : ((List ((Int × Int) × (Int × Int) × (Int × Int))) × (Int × Int) × (Int × Int) × Int)) (a1 : (List Int)) : Option (AV) := f5_s a0 a1

theorem f5_ev (a0 : ((List ((Int × Int) × (Int × Int) × (Int × Int))) × (Int × Int) × (Int × Int) × Int)) (a1 : (List Int)) (N : Nat) : evF X5 N Tryd.f5 [enc tRF a0, enc (.arr 3 .int) a1] = f5_T a0 a1 := by
  have h : evF X5 N Tryd.f5 [enc tRF a0, enc (.arr 3 .int) a1] = f5_s a0 a1 := by kernel_rfl
  rw [h]
  rfl
theorem f5_sp (x0 : Fi) (x1 : List Int) (hp : feetOK x0 x1 = true) : ∃ (N : Nat) (r0 : AV), f5_T x0 x1 = some r0 ∧ wkAV r0 = enc .bool (feetB x0 x1) := by
  have h : chkOK x0 = true := hp
  have h3 : ∀ a b, chkOK3 x0 a b = true := fun _ _ => h
  refine ⟨0, .bool true, ?_, rfl⟩
  unfold f5_T f5_s
  simp [h3, turnedB]
theorem k5 : Good 5 g5 := ⟨ctr_ofN (B := Bs) (X := X5) (ctxOK rfl rfl rfl rfl rfl rfl (AllC.cons k25 (AllC.cons k30 (AllC.cons k31 (AllC.cons k32 (AllC.cons k33 (AllC.cons k34 (AllC.cons k35 AllC.nil)))))))) Tryd.func5 (fun args r h => by
  unfold g5 at h
  split at h
  · rename_i a0 a1
    split at h
    · rename_i x0 x1 h0 h1
      simp only [Option.some.injEq, Prod.mk.injEq] at h
      obtain ⟨hp, rfl⟩ := h
      obtain ⟨N, r0, q1, q2⟩ := f5_sp x0 x1 hp
      refine ⟨N, r0, ?_, q2⟩
      simp only [wkL, wk_dec h0, wk_dec h1]
      exact (f5_ev x0 x1 N).trans q1
    · cases h
  · cases h), Tryd.f5, Tryd.func5, by kernel_rfl, by kernel_rfl⟩

end Ev
end Go.Proofs.YtidnikjkpbmhhaaDoor
