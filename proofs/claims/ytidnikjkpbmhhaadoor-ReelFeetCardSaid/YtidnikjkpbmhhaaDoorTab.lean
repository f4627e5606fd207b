/- The types of the program, as far as they are used, and its package variables. -/
import Derived.Test.YtidnikjkpbmhhaaDoorTi
import Derived.Test.YtidnikjkpbmhhaaDoorProg
import Derived.KernelRfl
set_option linter.unusedVariables false
set_option maxRecDepth 4000
namespace Go.Proofs.YtidnikjkpbmhhaaDoor
namespace Ev

def ti3 : Ti := ⟨1, false, some (.int (0 : Int)), [], none, none, false, []⟩
def ti4 : Ti := ⟨1, false, some (.bool false), [], none, none, true, []⟩
def ti24 : Ti := ⟨2, true, some (.agg [.int (0 : Int), .int (0 : Int)]), [(0, 3), (1, 3)], none, none, false, [false, false]⟩
def ti27 : Ti := ⟨1, false, some (.sl .int ⟨true, true, none⟩ ([] : List Int)), [], some (.int, 3, 8), none, false, []⟩
def ti26 : Ti := ⟨6, true, some (.agg [.sl tReel ⟨true, true, none⟩ ([] : List ((Int × Int) × (Int × Int) × (Int × Int))), .agg [.int (0 : Int), .int (0 : Int)], .agg [.int (0 : Int), .int (0 : Int)], .int (0 : Int)]), [(0, 22), (1, 24), (3, 24), (5, 3)], none, none, false, []⟩
def ti22 : Ti := ⟨1, false, some (.sl tReel ⟨true, true, none⟩ ([] : List ((Int × Int) × (Int × Int) × (Int × Int)))), [], some (tReel, 66, 48), none, false, []⟩
def ti66 : Ti := ⟨6, true, some (.agg [.agg [.int (0 : Int), .int (0 : Int)], .agg [.int (0 : Int), .int (0 : Int)], .agg [.int (0 : Int), .int (0 : Int)]]), [(0, 24), (2, 24), (4, 24)], none, none, false, []⟩
def ti28 : Ti := ⟨1, false, some (.int (0 : Int)), [], none, none, false, []⟩
def ti82 : Ti := ⟨7, true, some (.agg [.agg [.sl tReel ⟨true, true, none⟩ ([] : List ((Int × Int) × (Int × Int) × (Int × Int))), .agg [.int (0 : Int), .int (0 : Int)], .agg [.int (0 : Int), .int (0 : Int)], .int (0 : Int)], .tok 0 tRF zRF]), [(0, 26), (6, 80)], none, none, false, []⟩
def ti49 : Ti := ⟨1, false, some (.sl tSpan ⟨true, true, none⟩ ([] : List (Int × Int))), [], some (tSpan, 24, 16), none, false, []⟩
def ti78 : Ti := ⟨1, false, some (.sl tInts ⟨true, true, none⟩ ([] : List (List Int))), [], some (tInts, 27, 24), none, false, []⟩
def ti41 : Ti := ⟨3, true, some (.arr .int 3 (List.replicate 3 (0 : Int))), [], none, some (3, .int, 3), false, []⟩
def ti54 : Ti := ⟨2, true, some (.arr .int 2 (List.replicate 2 (0 : Int))), [], none, some (2, .int, 3), false, []⟩
def ti91 : Ti := ⟨6, true, some (.arr .bool 6 (List.replicate 6 false)), [], none, some (6, .bool, 4), false, [true, true, true, true, true, true]⟩
def ti90 : Ti := ⟨6, true, some (.arr .bool 6 (List.replicate 6 false)), [], none, some (6, .bool, 4), false, [true, true, true, true, true, true]⟩
def ti120 : Ti := ⟨3, true, some (.agg [.int (0 : Int), .agg [.int (0 : Int), .int (0 : Int)]]), [(0, 3), (1, 24)], none, none, false, [false, false, false]⟩
def ti80 : Ti := ⟨1, false, some (.tok 0 tRF zRF), [], none, none, false, []⟩
def ti85 : Ti := ⟨1, false, none, [], none, none, false, []⟩
def ti115 : Ti := ⟨1, true, some (.agg [.tok 6 .int (0 : Int)]), [(0, 113)], none, none, false, []⟩
def ti113 : Ti := ⟨1, false, none, [], none, none, false, []⟩
def ti23 : Ti := ⟨2, true, some (.agg [.int (0 : Int), .int (0 : Int)]), [(0, 3), (1, 3)], none, none, false, [false, false]⟩
def ti25 : Ti := ⟨6, true, some (.agg [.sl tReel ⟨true, true, none⟩ ([] : List ((Int × Int) × (Int × Int) × (Int × Int))), .agg [.int (0 : Int), .int (0 : Int)], .agg [.int (0 : Int), .int (0 : Int)], .int (0 : Int)]), [(0, 22), (1, 24), (3, 24), (5, 3)], none, none, false, []⟩
def ti65 : Ti := ⟨6, true, some (.agg [.agg [.int (0 : Int), .int (0 : Int)], .agg [.int (0 : Int), .int (0 : Int)], .agg [.int (0 : Int), .int (0 : Int)]]), [(0, 24), (2, 24), (4, 24)], none, none, false, []⟩
def ti81 : Ti := ⟨7, true, some (.agg [.agg [.sl tReel ⟨true, true, none⟩ ([] : List ((Int × Int) × (Int × Int) × (Int × Int))), .agg [.int (0 : Int), .int (0 : Int)], .agg [.int (0 : Int), .int (0 : Int)], .int (0 : Int)], .tok 0 tRF zRF]), [(0, 26), (6, 80)], none, none, false, []⟩
def ti119 : Ti := ⟨3, true, some (.agg [.int (0 : Int), .agg [.int (0 : Int), .int (0 : Int)]]), [(0, 3), (1, 24)], none, none, false, [false, false, false]⟩
def ti77 : Ti := ⟨1, false, some (.sl tRF ⟨true, true, none⟩ ([] : List ((List ((Int × Int) × (Int × Int) × (Int × Int))) × (Int × Int) × (Int × Int) × Int))), [], some (tRF, 26, 64), none, false, []⟩
def ti88 : Ti := ⟨1, false, none, [], none, none, false, []⟩
def ti110 : Ti := ⟨1, false, none, [], none, none, false, []⟩
def ti114 : Ti := ⟨1, true, some (.agg [.tok 6 .int (0 : Int)]), [(0, 113)], none, none, false, []⟩
def ti111 : Ti := ⟨2, true, none, [], none, some (2, .int, 110), false, []⟩
def ti105 : Ti := ⟨1, false, none, [], none, none, false, []⟩
def ti96 : Ti := ⟨1, false, some (.tok 6 .int (0 : Int)), [], none, none, false, []⟩
def ti108 : Ti := ⟨1, false, some (.tok 6 .int (0 : Int)), [], none, none, false, []⟩
def TT : Tbl := [(3, ti3), (4, ti4), (24, ti24), (27, ti27), (26, ti26), (22, ti22), (66, ti66), (28, ti28), (82, ti82), (49, ti49), (78, ti78), (41, ti41), (54, ti54), (91, ti91), (90, ti90), (120, ti120), (80, ti80), (85, ti85), (115, ti115), (113, ti113), (23, ti23), (25, ti25), (65, ti65), (81, ti81), (119, ti119), (77, ti77), (88, ti88), (110, ti110), (114, ti114), (111, ti111), (105, ti105), (96, ti96), (108, ti108)]
def GG : List (Nat × AV) := [(0, .agg [.int (-1 : Int), .int (99 : Int)]), (1, .agg [.fn 117 [] [], .fn 119 [] []]), (2, .agg [.int (1 : Int), .int (0 : Int)])]
theorem chk3 : chkTi Tryd.prog 3 ti3 = true := by kernel_rfl
theorem chk4 : chkTi Tryd.prog 4 ti4 = true := by kernel_rfl
theorem chk24 : chkTi Tryd.prog 24 ti24 = true := by kernel_rfl
theorem chk27 : chkTi Tryd.prog 27 ti27 = true := by kernel_rfl
theorem chk26 : chkTi Tryd.prog 26 ti26 = true := by kernel_rfl
theorem chk22 : chkTi Tryd.prog 22 ti22 = true := by kernel_rfl
theorem chk66 : chkTi Tryd.prog 66 ti66 = true := by kernel_rfl
theorem chk28 : chkTi Tryd.prog 28 ti28 = true := by kernel_rfl
theorem chk82 : chkTi Tryd.prog 82 ti82 = true := by kernel_rfl
theorem chk49 : chkTi Tryd.prog 49 ti49 = true := by kernel_rfl
theorem chk78 : chkTi Tryd.prog 78 ti78 = true := by kernel_rfl
theorem chk41 : chkTi Tryd.prog 41 ti41 = true := by kernel_rfl
theorem chk54 : chkTi Tryd.prog 54 ti54 = true := by kernel_rfl
theorem chk91 : chkTi Tryd.prog 91 ti91 = true := by kernel_rfl
theorem chk90 : chkTi Tryd.prog 90 ti90 = true := by kernel_rfl
theorem chk120 : chkTi Tryd.prog 120 ti120 = true := by kernel_rfl
theorem chk80 : chkTi Tryd.prog 80 ti80 = true := by kernel_rfl
theorem chk85 : chkTi Tryd.prog 85 ti85 = true := by kernel_rfl
theorem chk115 : chkTi Tryd.prog 115 ti115 = true := by kernel_rfl
theorem chk113 : chkTi Tryd.prog 113 ti113 = true := by kernel_rfl
theorem chk23 : chkTi Tryd.prog 23 ti23 = true := by kernel_rfl
theorem chk25 : chkTi Tryd.prog 25 ti25 = true := by kernel_rfl
theorem chk65 : chkTi Tryd.prog 65 ti65 = true := by kernel_rfl
theorem chk81 : chkTi Tryd.prog 81 ti81 = true := by kernel_rfl
theorem chk119 : chkTi Tryd.prog 119 ti119 = true := by kernel_rfl
theorem chk77 : chkTi Tryd.prog 77 ti77 = true := by kernel_rfl
theorem chk88 : chkTi Tryd.prog 88 ti88 = true := by kernel_rfl
theorem chk110 : chkTi Tryd.prog 110 ti110 = true := by kernel_rfl
theorem chk114 : chkTi Tryd.prog 114 ti114 = true := by kernel_rfl
theorem chk111 : chkTi Tryd.prog 111 ti111 = true := by kernel_rfl
theorem chk105 : chkTi Tryd.prog 105 ti105 = true := by kernel_rfl
theorem chk96 : chkTi Tryd.prog 96 ti96 = true := by kernel_rfl
theorem chk108 : chkTi Tryd.prog 108 ti108 = true := by kernel_rfl
theorem chkTT : chkAll Tryd.prog TT = true := by
  simp only [TT, chkAll, chk3, chk4, chk24, chk27, chk26, chk22, chk66, chk28, chk82, chk49, chk78, chk41, chk54, chk91, chk90, chk120, chk80, chk85, chk115, chk113, chk23, chk25, chk65, chk81, chk119, chk77, chk88, chk110, chk114, chk111, chk105, chk96, chk108, Bool.and_self]

end Ev
end Go.Proofs.YtidnikjkpbmhhaaDoor
