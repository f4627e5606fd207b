/- The iterator of orders, as the evaluator walks it. -/
import Derived.Test.YtidnikjkpbmhhaaDoorCon
set_option linter.unusedVariables false
set_option maxRecDepth 4000
namespace Go.Proofs.YtidnikjkpbmhhaaDoor
namespace Ev

noncomputable def g77 : List AV → Option (Bool × AV)
  | [] => some (true, enc tUsed unusedB)
  | _ => none
noncomputable def g88 : List AV → Option (Bool × AV)
  | [.agg [a0, .tok 0 t0 d0], a1, a2] =>
    match dec tRF a0, castD tRF t0 d0, dec .int a1, dec tSpan a2 with
    | some x0, some y0, some x1, some x2 => some (decide (x0 = y0) && ((followsOK x0 x1 x2)), .tup [enc tSpan ((followsF x0 x1 x2).1), enc .bool ((followsF x0 x1 x2).2)])
    | _, _, _, _ => none
  | _ => none
noncomputable def X91 (okP : Int → List AV → List Int → Bool) (b : Bool) (fu : Nat) : Ctx := { T := TT, G := GG, C := [(77, g77), (88, g88)], L := [(4, [1, 2, 3, 6, 9, 10, 11, 12, 13, 14, 15, 16, 17, 18, 19, 20, 21, 22, 25, 26, 27, 28, 29, 30, 31, 32, 33, 34, 35, 36, 37, 38, 39, 40, 41, 42, 43, 44, 45, 46, 47, 48, 49, 50, 51, 52, 53, 54, 55, 56, 57], [])], K := [(1, gY okP b), (3, gO okP b fu)] }
noncomputable def f91_s0 (okP : Int → List AV → List Int → Bool) (b : Bool) (fu : Nat) (a0 : List Int) (a1 : List Bool) (a2 : Int × Int) (l : Int) (x : Fi) (y : Fi) (k0 : Int → Option (AV × List AV)) (k1 : Int → List AV → Option (AV × List AV)) (v0_0 : Int) : Option (AV × List AV) :=
  bif (decide (v0_0 < (x.1.length : Int))) then
    bif decide (0 ≤ v0_0) && decide (v0_0 < 6) then
      bif (!(a1.getD v0_0.toNat false)) then
        k0 (w64 (v0_0 + (1 : Int)))
      else
        bif decide (x = y) && ((followsOK x v0_0 a2)) then
          bif (!((followsF x v0_0 a2).2)) then
            k0 (w64 (v0_0 + (1 : Int)))
          else
            bif decide (0 ≤ v0_0) && decide (v0_0 < 6) then
              bif decide ((a0.length : Int) = (a0.length : Int)) && (decide (0 ≤ (a0.length : Int)) && decide ((a0.length : Int) ≤ (a0.length : Int))) then
                bif true && roomy (a0.take (a0.length : Int).toNat).length [v0_0].length 8 then
                  bif (onT okP b fu ([] : List AV) (l, x, y) ((a0.take (a0.length : Int).toNat) ++ [v0_0]) (a1.set v0_0.toNat false) ((followsF x v0_0 a2).1)) then
                    bif (!(onR b (l, x, y) (a1.set v0_0.toNat false) ((followsF x v0_0 a2).1))) then
                      some (.bool false, (([] : List AV) ++ (onI b (l, x, y) ((a0.take (a0.length : Int).toNat) ++ [v0_0]) (a1.set v0_0.toNat false) ((followsF x v0_0 a2).1))))
                    else
                      k1 (w64 (v0_0 + (1 : Int))) (([] : List AV) ++ (onI b (l, x, y) ((a0.take (a0.length : Int).toNat) ++ [v0_0]) (a1.set v0_0.toNat false) ((followsF x v0_0 a2).1)))
                  else
                    none
                else
                  none
              else
                none
            else
              none
        else
          none
    else
      none
  else
    some (.bool true, ([] : List AV))

noncomputable def f91_s1 (okP : Int → List AV → List Int → Bool) (b : Bool) (fu : Nat) (a0 : List Int) (a1 : List Bool) (a2 : Int × Int) (l : Int) (x : Fi) (y : Fi) (k1 : Int → List AV → Option (AV × List AV)) (v1_0 : Int) (v1_1 : List AV) : Option (AV × List AV) :=
  bif (decide (v1_0 < (x.1.length : Int))) then
    bif decide (0 ≤ v1_0) && decide (v1_0 < 6) then
      bif (!(a1.getD v1_0.toNat false)) then
        k1 (w64 (v1_0 + (1 : Int))) v1_1
      else
        bif decide (x = y) && ((followsOK x v1_0 a2)) then
          bif (!((followsF x v1_0 a2).2)) then
            k1 (w64 (v1_0 + (1 : Int))) v1_1
          else
            bif decide (0 ≤ v1_0) && decide (v1_0 < 6) then
              bif decide ((a0.length : Int) = (a0.length : Int)) && (decide (0 ≤ (a0.length : Int)) && decide ((a0.length : Int) ≤ (a0.length : Int))) then
                bif true && roomy (a0.take (a0.length : Int).toNat).length [v1_0].length 8 then
                  bif (onT okP b fu v1_1 (l, x, y) ((a0.take (a0.length : Int).toNat) ++ [v1_0]) (a1.set v1_0.toNat false) ((followsF x v1_0 a2).1)) then
                    bif (!(onR b (l, x, y) (a1.set v1_0.toNat false) ((followsF x v1_0 a2).1))) then
                      some (.bool false, (v1_1 ++ (onI b (l, x, y) ((a0.take (a0.length : Int).toNat) ++ [v1_0]) (a1.set v1_0.toNat false) ((followsF x v1_0 a2).1))))
                    else
                      k1 (w64 (v1_0 + (1 : Int))) (v1_1 ++ (onI b (l, x, y) ((a0.take (a0.length : Int).toNat) ++ [v1_0]) (a1.set v1_0.toNat false) ((followsF x v1_0 a2).1)))
                  else
                    none
                else
                  none
              else
                none
            else
              none
        else
          none
    else
      none
  else
    some (.bool true, v1_1)

noncomputable def f91_s (okP : Int → List AV → List Int → Bool) (b : Bool) (fu : Nat) (a0 : List Int) (a1 : List Bool) (a2 : Int × Int) (l : Int) (x : Fi) (y : Fi) (k0 : Int → Option (AV × List AV)) : Option (AV × List AV) :=
  bif decide (6 = 6) then
    bif (decide (a1 = unusedB)) then
      bif (okP l ([] : List AV) a0) then
        some (.bool b, (([] : List AV) ++ [enc tInts a0]))
      else
        none
    else
      k0 (0 : Int)
  else
    none

noncomputable def f91_R0 (okP : Int → List AV → List Int → Bool) (b : Bool) (fu : Nat) (a0 : List Int) (a1 : List Bool) (a2 : Int × Int) (l : Int) (x : Fi) (y : Fi) (N : Nat) (n : Nat) (v0_0 : Int) : Option (AV × List AV) :=
  loopN (evC (X91 okP b fu) N (sub [(1, 0), (0, 0), (1, 0), (1, 0), (0, 0), (1, 0), (0, 0), (0, 0)] (bodyOf Tryd.f91))) (keepOf (X91 okP b fu).L (sub [(1, 0), (0, 0), (1, 0), (1, 0), (0, 0), (1, 0), (0, 0), (0, 0)] (bodyOf Tryd.f91))) n ⟨[.sl .int ⟨false, false, none⟩ a0, .poison, .poison, .poison, .cref (.agg [enc tRF x, .tok 0 tRF y]) [], .cref (.tok 3 tOn (l, x, y)) [], .poison, .ref 7 [], .ref 8 [], .poison, .poison, .poison, .poison, .poison, .poison, .poison, .poison, .poison, .poison, .poison, .poison, .poison, .poison, .int (x.1.length : Int), .int v0_0, .poison, .poison, .poison, .poison, .poison, .poison, .poison, .poison, .poison, .poison, .poison, .poison, .poison, .poison, .poison, .poison, .poison, .poison, .poison, .poison, .poison, .poison, .poison, .poison, .poison, .poison, .poison, .poison, .poison, .poison, .poison, .poison, .poison], [.none, .none, .none, .none, .none, .none, .none, .box (.arr .bool 6 a1), .box (enc tSpan a2), .none, .none, .none, .none, .none, .none, .none, .none, .none, .none, .none, .none, .none, .none, .none, .none, .none, .none, .none, .none, .none, .none, .none, .none, .none, .none, .none, .none, .none, .none, .none, .none, .none, .none, .none, .none, .none, .none, .none, .none, .none, .none, .none, .none, .none, .none, .none, .none, .none, .map 0 0 ([] : List AV)]⟩ (ctxK (X91 okP b fu) N [(1, 0), (0, 0), (1, 0), (1, 0), (0, 0), (1, 0), (0, 0)] (bodyOf Tryd.f91) (finT (X91 okP b fu) Tryd.f91))

noncomputable def f91_R1 (okP : Int → List AV → List Int → Bool) (b : Bool) (fu : Nat) (a0 : List Int) (a1 : List Bool) (a2 : Int × Int) (l : Int) (x : Fi) (y : Fi) (N : Nat) (n : Nat) (v1_0 : Int) (v1_1 : List AV) : Option (AV × List AV) :=
  loopN (evC (X91 okP b fu) N (sub [(1, 0), (0, 0), (1, 0), (1, 0), (0, 0), (1, 0), (0, 0), (0, 0)] (bodyOf Tryd.f91))) (keepOf (X91 okP b fu).L (sub [(1, 0), (0, 0), (1, 0), (1, 0), (0, 0), (1, 0), (0, 0), (0, 0)] (bodyOf Tryd.f91))) n ⟨[.sl .int ⟨false, false, none⟩ a0, .poison, .poison, .poison, .cref (.agg [enc tRF x, .tok 0 tRF y]) [], .cref (.tok 3 tOn (l, x, y)) [], .poison, .ref 7 [], .ref 8 [], .poison, .poison, .poison, .poison, .poison, .poison, .poison, .poison, .poison, .poison, .poison, .poison, .poison, .poison, .int (x.1.length : Int), .int v1_0, .poison, .poison, .poison, .poison, .poison, .poison, .poison, .poison, .poison, .poison, .poison, .poison, .poison, .poison, .poison, .poison, .poison, .poison, .poison, .poison, .poison, .poison, .poison, .poison, .poison, .poison, .poison, .poison, .poison, .poison, .poison, .poison, .poison], [.none, .none, .none, .none, .none, .none, .none, .box (.arr .bool 6 a1), .box (enc tSpan a2), .none, .none, .none, .none, .none, .none, .none, .none, .none, .none, .none, .none, .none, .none, .none, .none, .none, .none, .none, .none, .none, .none, .none, .none, .none, .none, .none, .none, .none, .none, .none, .none, .none, .none, .none, .none, .none, .none, .none, .none, .none, .none, .none, .lin 0 true, .none, .none, .none, .none, .none, .map 0 0 v1_1]⟩ (ctxK (X91 okP b fu) N [(1, 0), (0, 0), (1, 0), (1, 0), (0, 0), (1, 0), (0, 0)] (bodyOf Tryd.f91) (finT (X91 okP b fu) Tryd.f91))

theorem f91_e0 (okP : Int → List AV → List Int → Bool) (b : Bool) (fu : Nat) (a0 : List Int) (a1 : List Bool) (a2 : Int × Int) (l : Int) (x : Fi) (y : Fi) (N : Nat) (n : Nat) (v0_0 : Int) : f91_R0 okP b fu a0 a1 a2 l x y N (n + 1) v0_0 = f91_s0 okP b fu a0 a1 a2 l x y (f91_R0 okP b fu a0 a1 a2 l x y N n) (f91_R1 okP b fu a0 a1 a2 l x y N n) v0_0 := by kernel_rfl

theorem f91_e1 (okP : Int → List AV → List Int → Bool) (b : Bool) (fu : Nat) (a0 : List Int) (a1 : List Bool) (a2 : Int × Int) (l : Int) (x : Fi) (y : Fi) (N : Nat) (n : Nat) (v1_0 : Int) (v1_1 : List AV) : f91_R1 okP b fu a0 a1 a2 l x y N (n + 1) v1_0 v1_1 = f91_s1 okP b fu a0 a1 a2 l x y (f91_R1 okP b fu a0 a1 a2 l x y N n) v1_0 v1_1 := by kernel_rfl

noncomputable def f91_L1 (okP : Int → List AV → List Int → Bool) (b : Bool) (fu : Nat) (a0 : List Int) (a1 : List Bool) (a2 : Int × Int) (l : Int) (x : Fi) (y : Fi) (N : Nat) : Nat → Int → List AV → Option (AV × List AV)
  | 0, _, _ => none
  | n + 1, v1_0, v1_1 => f91_s1 okP b fu a0 a1 a2 l x y (f91_L1 okP b fu a0 a1 a2 l x y N n) v1_0 v1_1

noncomputable def f91_L0 (okP : Int → List AV → List Int → Bool) (b : Bool) (fu : Nat) (a0 : List Int) (a1 : List Bool) (a2 : Int × Int) (l : Int) (x : Fi) (y : Fi) (N : Nat) : Nat → Int → Option (AV × List AV)
  | 0, _ => none
  | n + 1, v0_0 => f91_s0 okP b fu a0 a1 a2 l x y (f91_L0 okP b fu a0 a1 a2 l x y N n) (f91_L1 okP b fu a0 a1 a2 l x y N n) v0_0

theorem f91_q1 (okP : Int → List AV → List Int → Bool) (b : Bool) (fu : Nat) (a0 : List Int) (a1 : List Bool) (a2 : Int × Int) (l : Int) (x : Fi) (y : Fi) (N : Nat) : ∀ n : Nat, f91_R1 okP b fu a0 a1 a2 l x y N n = f91_L1 okP b fu a0 a1 a2 l x y N n
  | 0 => by
    funext v1_0
    funext v1_1
    rfl
  | n + 1 => by
    funext v1_0
    funext v1_1
    rw [f91_e1]
    simp only [f91_q1 okP b fu a0 a1 a2 l x y N n]
    rfl

theorem f91_q0 (okP : Int → List AV → List Int → Bool) (b : Bool) (fu : Nat) (a0 : List Int) (a1 : List Bool) (a2 : Int × Int) (l : Int) (x : Fi) (y : Fi) (N : Nat) : ∀ n : Nat, f91_R0 okP b fu a0 a1 a2 l x y N n = f91_L0 okP b fu a0 a1 a2 l x y N n
  | 0 => by
    funext v0_0
    rfl
  | n + 1 => by
    funext v0_0
    rw [f91_e0]
    simp only [f91_q0 okP b fu a0 a1 a2 l x y N n, f91_q1 okP b fu a0 a1 a2 l x y N n]
    rfl

noncomputable def f91_T (okP : Int → List AV → List Int → Bool) (b : Bool) (fu : Nat) (a0 : List Int) (a1 : List Bool) (a2 : Int × Int) (l : Int) (x : Fi) (y : Fi) (N : Nat) : Option (AV × List AV) := f91_s okP b fu a0 a1 a2 l x y (f91_L0 okP b fu a0 a1 a2 l x y N N)

theorem f91_ev (okP : Int → List AV → List Int → Bool) (b : Bool) (fu : Nat) (a0 : List Int) (a1 : List Bool) (a2 : Int × Int) (l : Int) (x : Fi) (y : Fi) (N : Nat) : evT (X91 okP b fu) N Tryd.f91 [enc tInts a0, enc tUsed a1, enc tSpan a2, .cref (.tok 1 .int l) [], .cref (.agg [enc tRF x, .tok 0 tRF y]) [], .cref (.tok 3 tOn (l, x, y)) []] = f91_T okP b fu a0 a1 a2 l x y N := by
  have h : evT (X91 okP b fu) N Tryd.f91 [enc tInts a0, enc tUsed a1, enc tSpan a2, .cref (.tok 1 .int l) [], .cref (.agg [enc tRF x, .tok 0 tRF y]) [], .cref (.tok 3 tOn (l, x, y)) []] = f91_s okP b fu a0 a1 a2 l x y (f91_R0 okP b fu a0 a1 a2 l x y N N) := by kernel_rfl
  rw [h, f91_q0]
  rfl

theorem f90_ev (okP : Int → List AV → List Int → Bool) (b : Bool) (fu : Nat) (l : Int) (x y : Fi) (set : List Bool) (N : Nat) :
    evTz (X91 okP b fu) N onFrz 3 Tryd.f90 [.tok 1 .int l, .cref (.agg [enc tRF x, .tok 0 tRF y]) [], .cref (enc tUsed set) []] =
      bif onT okP b fu [] (l, x, y) [] set (-1, 99) then some (.tup [], [] ++ onI b (l, x, y) [] set (-1, 99)) else none := by kernel_rfl
noncomputable def X71 : Ctx := { T := TT, G := GG, C := [], L := [] }
theorem f71_ev (x y : Fi) (set : List Bool) (N : Nat) : evF X71 N Tryd.f71 [.agg [enc tRF x, .tok 0 tRF y], enc tUsed set] = some (.fn 90 [] [.cref (.agg [enc tRF x, .tok 0 tRF y]) [], .cref (enc tUsed set) []]) := by kernel_rfl

end Ev
end Go.Proofs.YtidnikjkpbmhhaaDoor
