/- Contracts that are the answers of the evaluator itself, for closed calls. -/
import Derived.Test.YtidnikjkpbmhhaaDoorCti
import Derived.Test.YtidnikjkpbmhhaaDoorHand
set_option linter.unusedVariables false
set_option maxRecDepth 4000
namespace Go.Proofs.YtidnikjkpbmhhaaDoor
namespace Ev

noncomputable def SX24 : Ctx := { T := TT, G := GG, C := [], L := [(3, [2, 3, 4, 7, 8, 9, 10, 11, 12, 13, 14, 15, 16, 17, 18, 19, 20, 21, 22, 23, 24, 25, 26, 27, 28, 29, 30], [0, 1])] }
noncomputable def sg24 : List AV → Option (Bool × AV) := selfG SX24 10 Tryd.f24
theorem sk24 : Good 24 sg24 := ⟨ctr_self (B := Bs) (ctxOK rfl rfl rfl rfl rfl rfl AllC.nil) Tryd.func24, Tryd.f24, Tryd.func24, by kernel_rfl, by kernel_rfl⟩
noncomputable def SX42 : Ctx := { T := TT, G := GG, C := [], L := [(3, [2, 3, 4, 7, 8, 9, 10, 11, 12, 13, 14, 15, 16, 17, 18, 19, 20, 21, 22, 23, 24, 25, 26, 27, 28, 29, 30], [0, 1])] }
noncomputable def sg42 : List AV → Option (Bool × AV) := selfG SX42 10 Tryd.f42
theorem sk42 : Good 42 sg42 := ⟨ctr_self (B := Bs) (ctxOK rfl rfl rfl rfl rfl rfl AllC.nil) Tryd.func42, Tryd.f42, Tryd.func42, by kernel_rfl, by kernel_rfl⟩
noncomputable def SX59 : Ctx := { T := TT, G := GG, C := [(53, g53)], L := [] }
noncomputable def sg59 : List AV → Option (Bool × AV) := selfG SX59 10 Tryd.f59
theorem sk59 : Good 59 sg59 := ⟨ctr_self (B := Bs) (ctxOK rfl rfl rfl rfl rfl rfl (AllC.cons k53 AllC.nil)) Tryd.func59, Tryd.f59, Tryd.func59, by kernel_rfl, by kernel_rfl⟩
noncomputable def SX76 : Ctx := { T := TT, G := GG, C := [], L := [(2, [2, 3, 4, 5, 6, 9, 10, 11, 12, 13, 14, 15, 16, 17, 18], [0])] }
noncomputable def sg76 : List AV → Option (Bool × AV) := selfG SX76 10 Tryd.f76
theorem sk76 : Good 76 sg76 := ⟨ctr_self (B := Bs) (ctxOK rfl rfl rfl rfl rfl rfl AllC.nil) Tryd.func76, Tryd.f76, Tryd.func76, by kernel_rfl, by kernel_rfl⟩
noncomputable def SX87 : Ctx := { T := TT, G := GG, C := [(76, sg76)], L := [] }
noncomputable def sg87 : List AV → Option (Bool × AV) := selfG SX87 10 Tryd.f87
theorem sk87 : Good 87 sg87 := ⟨ctr_self (B := Bs) (ctxOK rfl rfl rfl rfl rfl rfl (AllC.cons sk76 AllC.nil)) Tryd.func87, Tryd.f87, Tryd.func87, by kernel_rfl, by kernel_rfl⟩
noncomputable def SX63 : Ctx := { T := TT, G := GG, C := [(68, g68), (87, sg87)], L := [(2, [0, 3, 4, 5, 6, 10, 11, 12, 13, 14, 15, 16, 17, 18, 19, 20, 21, 22, 23, 24, 25, 26, 27, 28], [1, 7])] }
noncomputable def sg63 : List AV → Option (Bool × AV) := selfG SX63 10 Tryd.f63
theorem sk63 : Good 63 sg63 := ⟨ctr_self (B := Bs) (ctxOK rfl rfl rfl rfl rfl rfl (AllC.cons k68 (AllC.cons sk87 AllC.nil))) Tryd.func63, Tryd.f63, Tryd.func63, by kernel_rfl, by kernel_rfl⟩
noncomputable def SX64 : Ctx := { T := TT, G := GG, C := [(88, g88)], L := [(4, [0, 1, 2, 3, 4, 7, 8, 9, 10, 11, 12, 13, 17, 18, 19, 20, 21, 22, 23, 24, 25, 26, 27, 28, 29, 30], [14])] }
noncomputable def sg64 : List AV → Option (Bool × AV) := selfG SX64 10 Tryd.f64
theorem sk64 : Good 64 sg64 := ⟨ctr_self (B := Bs) (ctxOK rfl rfl rfl rfl rfl rfl (AllC.cons k88 AllC.nil)) Tryd.func64, Tryd.f64, Tryd.func64, by kernel_rfl, by kernel_rfl⟩
noncomputable def SX16 : Ctx := { T := TT, G := GG, C := [(62, g62), (63, sg63), (64, sg64)], L := [] }
noncomputable def sg16 : List AV → Option (Bool × AV) := selfG SX16 10 Tryd.f16
theorem sk16 : Good 16 sg16 := ⟨ctr_self (B := Bs) (ctxOK rfl rfl rfl rfl rfl rfl (AllC.cons k62 (AllC.cons sk63 (AllC.cons sk64 AllC.nil)))) Tryd.func16, Tryd.f16, Tryd.func16, by kernel_rfl, by kernel_rfl⟩
noncomputable def SX72 : Ctx := { T := TT, G := GG, C := [], L := [(3, [0, 1, 4, 5, 6, 7, 10, 11, 12, 13, 14, 15], [])] }
noncomputable def sg72 : List AV → Option (Bool × AV) := selfG SX72 10 Tryd.f72
theorem sk72 : Good 72 sg72 := ⟨ctr_self (B := Bs) (ctxOK rfl rfl rfl rfl rfl rfl AllC.nil) Tryd.func72, Tryd.f72, Tryd.func72, by kernel_rfl, by kernel_rfl⟩
noncomputable def SX75 : Ctx := { T := TT, G := GG, C := [], L := [] }
noncomputable def sg75 : List AV → Option (Bool × AV) := selfG SX75 10 Tryd.f75
theorem sk75 : Good 75 sg75 := ⟨ctr_self (B := Bs) (ctxOK rfl rfl rfl rfl rfl rfl AllC.nil) Tryd.func75, Tryd.f75, Tryd.func75, by kernel_rfl, by kernel_rfl⟩
noncomputable def SX99 : Ctx := { T := TT, G := GG, C := [], L := [(3, [0, 1, 2, 4, 5, 9, 10, 11, 12, 13, 14, 15, 16], [6])] }
noncomputable def sg99 : List AV → Option (Bool × AV) := selfG SX99 10 Tryd.f99
theorem sk99 : Good 99 sg99 := ⟨ctr_self (B := Bs) (ctxOK rfl rfl rfl rfl rfl rfl AllC.nil) Tryd.func99, Tryd.f99, Tryd.func99, by kernel_rfl, by kernel_rfl⟩
noncomputable def SX100 : Ctx := { T := TT, G := GG, C := [], L := [] }
noncomputable def sg100 : List AV → Option (Bool × AV) := selfG SX100 10 Tryd.f100
theorem sk100 : Good 100 sg100 := ⟨ctr_self (B := Bs) (ctxOK rfl rfl rfl rfl rfl rfl AllC.nil) Tryd.func100, Tryd.f100, Tryd.func100, by kernel_rfl, by kernel_rfl⟩
noncomputable def SX101 : Ctx := { T := TT, G := GG, C := [], L := [] }
noncomputable def sg101 : List AV → Option (Bool × AV) := selfG SX101 10 Tryd.f101
theorem sk101 : Good 101 sg101 := ⟨ctr_self (B := Bs) (ctxOK rfl rfl rfl rfl rfl rfl AllC.nil) Tryd.func101, Tryd.f101, Tryd.func101, by kernel_rfl, by kernel_rfl⟩
noncomputable def SX94 : Ctx := { T := TT, G := GG, C := [], L := [] }
noncomputable def sg94 : List AV → Option (Bool × AV) := selfG SX94 0 Tryd.f94
theorem sk94 : Good 94 sg94 := ⟨ctr_self (B := Bs) (ctxOK rfl rfl rfl rfl rfl rfl AllC.nil) Tryd.func94, Tryd.f94, Tryd.func94, by kernel_rfl, by kernel_rfl⟩
noncomputable def SX95 : Ctx := { T := TT, G := GG, C := [], L := [] }
noncomputable def sg95 : List AV → Option (Bool × AV) := selfG SX95 0 Tryd.f95
theorem sk95 : Good 95 sg95 := ⟨ctr_self (B := Bs) (ctxOK rfl rfl rfl rfl rfl rfl AllC.nil) Tryd.func95, Tryd.f95, Tryd.func95, by kernel_rfl, by kernel_rfl⟩
noncomputable def SX71 : Ctx := { T := TT, G := GG, C := [], L := [] }
noncomputable def sg71 : List AV → Option (Bool × AV) := selfG SX71 0 Tryd.f71
theorem sk71 : Good 71 sg71 := ⟨ctr_self (B := Bs) (ctxOK rfl rfl rfl rfl rfl rfl AllC.nil) Tryd.func71, Tryd.f71, Tryd.func71, by kernel_rfl, by kernel_rfl⟩
noncomputable def SX93 : Ctx := { T := TT, G := GG, C := [(80, g80), (99, sg99), (100, sg100), (101, sg101)], L := [(3, [0, 1, 3, 5, 6, 8, 10, 11, 15, 16, 17, 18, 19, 20, 21, 22, 23, 24, 25, 26, 27, 28, 29, 30, 31, 32, 33, 34, 35, 36, 37], [12])] }
noncomputable def sg93 : List AV → Option (Bool × AV) := selfG SX93 10 Tryd.f93
theorem sk93 : Good 93 sg93 := ⟨ctr_self (B := Bs) (ctxOK rfl rfl rfl rfl rfl rfl (AllC.cons k80 (AllC.cons sk99 (AllC.cons sk100 (AllC.cons sk101 AllC.nil))))) Tryd.func93, Tryd.f93, Tryd.func93, by kernel_rfl, by kernel_rfl⟩
noncomputable def SX82 : Ctx := { T := TT, G := GG, C := [(93, sg93), (94, sg94), (95, sg95)], L := [] }
noncomputable def sg82 : List AV → Option (Bool × AV) := selfG SX82 10 Tryd.f82
theorem sk82 : Good 82 sg82 := ⟨ctr_self (B := Bs) (ctxOK rfl rfl rfl rfl rfl rfl (AllC.cons sk93 (AllC.cons sk94 (AllC.cons sk95 AllC.nil)))) Tryd.func82, Tryd.f82, Tryd.func82, by kernel_rfl, by kernel_rfl⟩
noncomputable def SX36 : Ctx := { T := TT, G := GG, C := [(62, g62), (63, sg63), (68, g68), (82, sg82)], L := [] }
noncomputable def sg36 : List AV → Option (Bool × AV) := selfG SX36 10 Tryd.f36
theorem sk36 : Good 36 sg36 := ⟨ctr_self (B := Bs) (ctxOK rfl rfl rfl rfl rfl rfl (AllC.cons k62 (AllC.cons sk63 (AllC.cons k68 (AllC.cons sk82 AllC.nil))))) Tryd.func36, Tryd.f36, Tryd.func36, by kernel_rfl, by kernel_rfl⟩
noncomputable def SX20 : Ctx := { T := TT, G := GG, C := [(62, g62), (71, sg71), (72, sg72)], L := [(6, [19, 20, 21], [])], I := [(90, itO)], R := [(6, true)] }
noncomputable def sg20 : List AV → Option (Bool × AV) := selfG SX20 10 Tryd.f20
theorem sk20 : Good 20 sg20 := ⟨ctr_self (B := Bs) (ctxI rfl rfl rfl rfl rfl rfl (AllC.cons k62 (AllC.cons sk71 (AllC.cons sk72 AllC.nil)))) Tryd.func20, Tryd.f20, Tryd.func20, by kernel_rfl, by kernel_rfl⟩
noncomputable def SX22 : Ctx := { T := TT, G := GG, C := [(62, g62), (71, sg71), (72, sg72), (75, sg75)], L := [(6, [6, 19, 20, 21, 22, 23, 24, 25, 26], [])], I := [(90, itO)], R := [(6, false)] }
noncomputable def sg22 : List AV → Option (Bool × AV) := selfG SX22 10 Tryd.f22
theorem sk22 : Good 22 sg22 := ⟨ctr_self (B := Bs) (ctxI rfl rfl rfl rfl rfl rfl (AllC.cons k62 (AllC.cons sk71 (AllC.cons sk72 (AllC.cons sk75 AllC.nil))))) Tryd.func22, Tryd.f22, Tryd.func22, by kernel_rfl, by kernel_rfl⟩
noncomputable def SX26 : Ctx := { T := TT, G := GG, C := [(62, g62), (68, g68), (71, sg71), (72, sg72), (76, sg76), (77, g77)], L := [(12, [0, 1, 2, 3, 4, 5, 6, 7, 8, 9, 11, 12, 13, 14, 15, 16, 17, 18, 19, 20, 21, 22, 23, 24, 25, 26, 27, 28, 29, 30, 31, 32, 33, 34, 35, 36, 37, 38, 41, 42, 43, 44, 45, 46, 47, 48, 49, 50, 51, 52, 53, 54, 55], []), (7, [9, 31, 32, 33, 34, 35], [])], I := [(90, itO)], R := [(7, true)] }
noncomputable def sg26 : List AV → Option (Bool × AV) := selfG SX26 10 Tryd.f26
theorem sk26 : Good 26 sg26 := ⟨ctr_self (B := Bs) (ctxI rfl rfl rfl rfl rfl rfl (AllC.cons k62 (AllC.cons k68 (AllC.cons sk71 (AllC.cons sk72 (AllC.cons sk76 (AllC.cons k77 AllC.nil))))))) Tryd.func26, Tryd.f26, Tryd.func26, by kernel_rfl, by kernel_rfl⟩

end Ev
end Go.Proofs.YtidnikjkpbmhhaaDoor
