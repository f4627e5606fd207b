/- The chapter examples, as the evaluator answers them. -/
import Derived.Test.YtidnikjkpbmhhaaDoorMix
set_option linter.unusedVariables false
set_option maxRecDepth 4000
namespace Go.Proofs.YtidnikjkpbmhhaaDoor
namespace Ev

noncomputable def SX84 : Ctx := { T := TT, G := GG, C := [(62, g62), (63, sg63), (68, g68), (96, g96)], L := [] }
noncomputable def sg84 : List AV → Option (Bool × AV) := selfG SX84 10 Tryd.f84
theorem sk84 : Good 84 sg84 := ⟨ctr_self (B := Bs) (ctxOK rfl rfl rfl rfl rfl rfl (AllC.cons k62 (AllC.cons sk63 (AllC.cons k68 (AllC.cons k96 AllC.nil))))) Tryd.func84, Tryd.f84, Tryd.func84, by kernel_rfl, by kernel_rfl⟩
noncomputable def SX38 : Ctx := { T := TT, G := GG, C := [(84, sg84)], L := [] }
noncomputable def sg38 : List AV → Option (Bool × AV) := selfG SX38 10 Tryd.f38
theorem sk38 : Good 38 sg38 := ⟨ctr_self (B := Bs) (ctxOK rfl rfl rfl rfl rfl rfl (AllC.cons sk84 AllC.nil)) Tryd.func38, Tryd.f38, Tryd.func38, by kernel_rfl, by kernel_rfl⟩
noncomputable def SX40 : Ctx := { T := TT, G := GG, C := [(82, sg82), (84, sg84)], L := [(7, [0, 3, 4, 5, 6, 7, 9, 10, 13, 14, 15, 16, 17, 18, 19, 20, 21, 22, 23, 24, 25, 26, 27, 28, 29, 33, 34, 35, 36, 37, 38, 39, 40, 41, 42, 43, 44, 45, 46, 47, 48, 49, 50, 51, 52, 53, 54], [1, 30])] }
noncomputable def sg40 : List AV → Option (Bool × AV) := selfG SX40 10 Tryd.f40
theorem sk40 : Good 40 sg40 := ⟨ctr_self (B := Bs) (ctxOK rfl rfl rfl rfl rfl rfl (AllC.cons sk82 (AllC.cons sk84 AllC.nil))) Tryd.func40, Tryd.f40, Tryd.func40, by kernel_rfl, by kernel_rfl⟩
noncomputable def SX25 : Ctx := { T := TT, G := GG, C := [(16, sg16), (20, sg20), (22, sg22), (24, sg24), (26, sg26), (28, sg28), (30, g30), (32, g32), (34, g34), (36, sg36), (38, sg38), (40, sg40), (42, sg42), (53, g53), (59, sg59), (60, g60)], L := [] }
noncomputable def sg25 : List AV → Option (Bool × AV) := selfG SX25 0 Tryd.f25
theorem sk25 : Good 25 sg25 := ⟨ctr_self (B := Bs) (ctxOK rfl rfl rfl rfl rfl rfl (AllC.cons sk16 (AllC.cons sk20 (AllC.cons sk22 (AllC.cons sk24 (AllC.cons sk26 (AllC.cons sk28 (AllC.cons k30 (AllC.cons k32 (AllC.cons k34 (AllC.cons sk36 (AllC.cons sk38 (AllC.cons sk40 (AllC.cons sk42 (AllC.cons k53 (AllC.cons sk59 (AllC.cons k60 AllC.nil))))))))))))))))) Tryd.func25, Tryd.f25, Tryd.func25, by kernel_rfl, by kernel_rfl⟩
theorem turned_eq : sg25 [] = some (true, .bool true) := by kernel_rfl
noncomputable def g25 : List AV → Option (Bool × AV)
  | [] => some (true, .bool true)
  | _ => none
theorem k25 : Good 25 g25 := ⟨ctr_of_each (fun args r h => by
  unfold g25 at h
  split at h
  · cases h
    exact ⟨sg25, sk25.1, turned_eq⟩
  · cases h), Tryd.f25, Tryd.func25, by kernel_rfl, by kernel_rfl⟩

end Ev
end Go.Proofs.YtidnikjkpbmhhaaDoor
