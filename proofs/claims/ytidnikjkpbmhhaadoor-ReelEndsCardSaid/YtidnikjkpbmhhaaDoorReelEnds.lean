/- ReelEnds returns true for every film and all numbers, and leaves them as they were: where the package variables hold what its text lays. -/
import Derived.Test.YtidnikjkpbmhhaaDoorBaseD
/- The law of both ends, as the evaluator walks it. -/
set_option linter.unusedVariables false
set_option maxRecDepth 4000
namespace Go.Proofs.YtidnikjkpbmhhaaDoor
namespace Ev

noncomputable def g12 : List AV → Option (Bool × AV)
  | [a0, a1] =>
    match dec tRF a0, dec (.arr 2 .int) a1 with
    | some x0, some x1 => some ((endsOK x0 x1), enc .bool (endsB x0 x1))
    | _, _ => none
  | _ => none
noncomputable def X12 : Ctx := { T := TT, G := GG, C := [(25, g25), (30, g30), (43, g43), (48, g48), (53, g53)], L := [(8, [0, 1, 3, 4, 5, 14, 15, 16, 17, 18, 19, 20, 21, 22, 23, 24, 25, 26, 27, 28, 29, 30, 31, 32, 33, 34, 35, 36, 37, 38, 39, 40, 41, 42, 43, 44, 45, 46, 47, 48, 49, 50, 51, 52, 53, 54, 55, 56, 57, 58, 59, 60, 61, 62, 63, 64, 65, 66, 67, 68, 69, 70, 71, 72, 73, 74, 75, 76, 77, 78, 79, 80, 81, 82, 83, 84, 85, 86, 87, 88, 89, 90, 91, 92, 93, 94, 95, 96, 97, 98, 99, 100, 101, 102], [])] }
noncomputable def f12_s0 (a0 : ((List ((Int × Int) × (Int × Int) × (Int × Int))) × (Int × Int) × (Int × Int) × Int)) (a1 : (List Int)) (k0 : Int → Int → Int → Option (AV)) (v0_0 : Int) (v0_1 : Int) (v0_2 : Int) : Option (AV) :=
  bif (decide (v0_2 < (turnI (a1.getD 1 (0 : Int)) (999 : Int)))) then
    k0 (if (0 : Int) < (w64 (v0_0 - a0.2.2.1.2)) then (w64 (v0_0 - a0.2.2.1.2)) else (0 : Int)) (if (0 : Int) < (w64 (v0_1 - a0.2.2.1.1)) then (w64 (v0_1 - a0.2.2.1.1)) else (0 : Int)) (w64 (v0_2 + (1 : Int)))
  else
    bif (decide (((WornI a0 (turnI (a1.getD 0 (0 : Int)) (a0.1.length : Int)) (turnI (a1.getD 1 (0 : Int)) (999 : Int))).2) = (0 : Int))) then
      bif (decide (((WornI a0 (turnI (a1.getD 0 (0 : Int)) (a0.1.length : Int)) (w64 ((turnI (a1.getD 1 (0 : Int)) (999 : Int)) + (1 : Int)))).2) = (0 : Int))) then
        bif ((decide (((WornI a0 (turnI (a1.getD 0 (0 : Int)) (a0.1.length : Int)) (turnI (a1.getD 1 (0 : Int)) (999 : Int))).1).1 = (mk2 v0_0 v0_1).1)) && ((decide (((WornI a0 (turnI (a1.getD 0 (0 : Int)) (a0.1.length : Int)) (turnI (a1.getD 1 (0 : Int)) (999 : Int))).1).2 = (mk2 v0_0 v0_1).2)) && true)) then
          bif (decide ((((WornI a0 (turnI (a1.getD 0 (0 : Int)) (a0.1.length : Int)) (w64 ((turnI (a1.getD 1 (0 : Int)) (999 : Int)) + (1 : Int)))).1).1) ≤ (((WornI a0 (turnI (a1.getD 0 (0 : Int)) (a0.1.length : Int)) (turnI (a1.getD 1 (0 : Int)) (999 : Int))).1).1))) then
            bif (decide ((((WornI a0 (turnI (a1.getD 0 (0 : Int)) (a0.1.length : Int)) (w64 ((turnI (a1.getD 1 (0 : Int)) (999 : Int)) + (1 : Int)))).1).2) ≤ (((WornI a0 (turnI (a1.getD 0 (0 : Int)) (a0.1.length : Int)) (turnI (a1.getD 1 (0 : Int)) (999 : Int))).1).2))) then
              some (.bool turnedB)
            else
              some (.bool false)
          else
            some (.bool false)
        else
          some (.bool false)
      else
        some (.bool false)
    else
      some (.bool false)

noncomputable def f12_s (a0 : ((List ((Int × Int) × (Int × Int) × (Int × Int))) × (Int × Int) × (Int × Int) × Int)) (a1 : (List Int)) (k0 : Int → Int → Int → Option (AV)) : Option (AV) :=
  bif (chkOK a0) then
    bif (!(soundB a0)) then
      some (.bool turnedB)
    else
      bif decide (0 ≤ (0 : Int)) && decide ((0 : Int) < 2) then
        bif decide (0 ≤ (1 : Int)) && decide ((1 : Int) < 2) then
          bif (chkOK3 a0 (turnI (a1.getD 0 (0 : Int)) (a0.1.length : Int)) (turnI (a1.getD 1 (0 : Int)) (999 : Int))) then
            bif (chkOK3 a0 (turnI (a1.getD 0 (0 : Int)) (a0.1.length : Int)) (w64 ((turnI (a1.getD 1 (0 : Int)) (999 : Int)) + (1 : Int)))) then
              bif decide (0 ≤ (turnI (a1.getD 0 (0 : Int)) (a0.1.length : Int))) && decide ((turnI (a1.getD 0 (0 : Int)) (a0.1.length : Int)) < (a0.1.length : Int)) then
                bif decide (0 ≤ (turnI (a1.getD 0 (0 : Int)) (a0.1.length : Int))) && decide ((turnI (a1.getD 0 (0 : Int)) (a0.1.length : Int)) < (a0.1.length : Int)) then
                  k0 (((a0.1.getD (turnI (a1.getD 0 (0 : Int)) (a0.1.length : Int)).toNat (((0 : Int), (0 : Int)), ((0 : Int), (0 : Int)), ((0 : Int), (0 : Int)))).2.2).1) (((a0.1.getD (turnI (a1.getD 0 (0 : Int)) (a0.1.length : Int)).toNat (((0 : Int), (0 : Int)), ((0 : Int), (0 : Int)), ((0 : Int), (0 : Int)))).2.2).2) (0 : Int)
                else
                  none
              else
                none
            else
              none
          else
            none
        else
          none
      else
        none
  else
    none

noncomputable def f12_R0 (a0 : ((List ((Int × Int) × (Int × Int) × (Int × Int))) × (Int × Int) × (Int × Int) × Int)) (a1 : (List Int)) (N : Nat) (n : Nat) (v0_0 : Int) (v0_1 : Int) (v0_2 : Int) : Option (AV) :=
  loopN (evC X12 N (sub [(1, 0), (1, 0), (1, 0), (1, 0), (1, 0), (1, 0), (0, 0), (1, 0), (0, 0), (0, 0)] (bodyOf Tryd.f12))) (keepOf X12.L (sub [(1, 0), (1, 0), (1, 0), (1, 0), (1, 0), (1, 0), (0, 0), (1, 0), (0, 0), (0, 0)] (bodyOf Tryd.f12))) n ⟨[.poison, .poison, .ref 2 [], .poison, .poison, .poison, .int (turnI (a1.getD 1 (0 : Int)) (999 : Int)), .ref 7 [], .int ((WornI a0 (turnI (a1.getD 0 (0 : Int)) (a0.1.length : Int)) (turnI (a1.getD 1 (0 : Int)) (999 : Int))).2), .ref 9 [], .int ((WornI a0 (turnI (a1.getD 0 (0 : Int)) (a0.1.length : Int)) (w64 ((turnI (a1.getD 1 (0 : Int)) (999 : Int)) + (1 : Int)))).2), .int v0_0, .int v0_1, .int v0_2, .poison, .poison, .poison, .poison, .poison, .poison, .poison, .poison, .poison, .poison, .poison, .poison, .poison, .poison, .poison, .poison, .poison, .poison, .poison, .poison, .poison, .poison, .poison, .poison, .poison, .poison, .poison, .poison, .poison, .poison, .poison, .poison, .poison, .poison, .poison, .poison, .poison, .poison, .poison, .poison, .poison, .poison, .poison, .poison, .poison, .poison, .poison, .poison, .poison, .poison, .poison, .poison, .poison, .poison, .poison, .poison, .poison, .poison, .poison, .poison, .poison, .poison, .poison, .poison, .poison, .poison, .poison, .poison, .poison, .poison, .poison, .poison, .poison, .poison, .poison, .poison, .poison, .poison, .poison, .poison, .poison, .poison, .poison, .poison, .poison, .poison, .poison, .poison, .poison], [.none, .none, .box (enc tRF a0), .none, .none, .none, .none, .box (enc tSpan ((WornI a0 (turnI (a1.getD 0 (0 : Int)) (a0.1.length : Int)) (turnI (a1.getD 1 (0 : Int)) (999 : Int))).1)), .none, .box (enc tSpan ((WornI a0 (turnI (a1.getD 0 (0 : Int)) (a0.1.length : Int)) (w64 ((turnI (a1.getD 1 (0 : Int)) (999 : Int)) + (1 : Int)))).1)), .none, .none, .none, .none, .none, .none, .none, .none, .none, .none, .none, .none, .none, .none, .none, .none, .none, .none, .none, .none, .none, .none, .none, .none, .none, .none, .none, .none, .none, .none, .none, .none, .none, .none, .none, .none, .none, .none, .none, .none, .none, .none, .none, .none, .none, .none, .none, .none, .none, .none, .none, .none, .none, .none, .none, .none, .none, .none, .none, .none, .none, .none, .none, .none, .none, .none, .none, .none, .none, .none, .none, .none, .none, .none, .none, .none, .none, .none, .none, .none, .none, .none, .none, .none, .none, .none, .none, .none, .none, .none, .none, .none, .none]⟩ (ctxK X12 N [(1, 0), (1, 0), (1, 0), (1, 0), (1, 0), (1, 0), (0, 0), (1, 0), (0, 0)] (bodyOf Tryd.f12) (finK X12 Tryd.f12))

theorem f12_e0 (a0 : ((List ((Int × Int) × (Int × Int) × (Int × Int))) × (Int × Int) × (Int × Int) × Int)) (a1 : (List Int)) (N : Nat) (n : Nat) (v0_0 : Int) (v0_1 : Int) (v0_2 : Int) : f12_R0 a0 a1 N (n + 1) v0_0 v0_1 v0_2 = f12_s0 a0 a1 (f12_R0 a0 a1 N n) v0_0 v0_1 v0_2 := by kernel_rfl

noncomputable def f12_L0 (a0 : ((List ((Int × Int) × (Int × Int) × (Int × Int))) × (Int × Int) × (Int × Int) × Int)) (a1 : (List Int)) (N : Nat) : Nat → Int → Int → Int → Option (AV)
  | 0, _, _, _ => none
  | n + 1, v0_0, v0_1, v0_2 => f12_s0 a0 a1 (f12_L0 a0 a1 N n) v0_0 v0_1 v0_2

theorem f12_q0 (a0 : ((List ((Int × Int) × (Int × Int) × (Int × Int))) × (Int × Int) × (Int × Int) × Int)) (a1 : (List Int)) (N : Nat) : ∀ n : Nat, f12_R0 a0 a1 N n = f12_L0 a0 a1 N n
  | 0 => by
    funext v0_0
    funext v0_1
    funext v0_2
    rfl
  | n + 1 => by
    funext v0_0
    funext v0_1
    funext v0_2
    rw [f12_e0]
    simp only [f12_q0 a0 a1 N n]
    rfl

noncomputable def f12_T (a0 : ((List ((Int × Int) × (Int × Int) × (Int × Int))) × (Int × Int) × (Int × Int) × Int)) (a1 : (List Int)) (N : Nat) : Option (AV) := f12_s a0 a1 (f12_L0 a0 a1 N N)

theorem f12_ev (a0 : ((List ((Int × Int) × (Int × Int) × (Int × Int))) × (Int × Int) × (Int × Int) × Int)) (a1 : (List Int)) (N : Nat) : evF X12 N Tryd.f12 [enc tRF a0, enc (.arr 2 .int) a1] = f12_T a0 a1 N := by
  have h : evF X12 N Tryd.f12 [enc tRF a0, enc (.arr 2 .int) a1] = f12_s a0 a1 (f12_R0 a0 a1 N N) := by kernel_rfl
  rw [h, f12_q0]
  rfl

end Ev
end Go.Proofs.YtidnikjkpbmhhaaDoor
/- Both ends: what the walk comes to is true. -/
set_option linter.unusedVariables false
set_option linter.unusedSimpArgs false
set_option maxRecDepth 4000
namespace Go.Proofs.YtidnikjkpbmhhaaDoor
namespace Ev

theorem feet_of {x : Fi} {k : Int} (hc : checkB x = true) (hin : inReels x k = true) : 1 ≤ (reelAt x k).2.2.1 ∧ (reelAt x k).2.2.1 ≤ (reelAt x k).2.2.2 ∧ (reelAt x k).2.2.2 ≤ 1200 ∧ 0 ≤ x.2.2.1.1 ∧ x.2.2.1.1 ≤ x.2.2.1.2 ∧ x.2.2.1.2 ≤ 50 := by
  have hr := reel_of hc hin
  simp only [okReel, legal, Bool.and_eq_true, decide_eq_true_eq] at hr
  simp only [checkB, legal, Bool.and_eq_true, decide_eq_true_eq] at hc
  obtain ⟨_, _, _, h1, h2, h3⟩ := hr
  exact ⟨h1, h2, h3, hc.2.2.1⟩

theorem tear_small {T : Int} (h0 : 0 ≤ T) (h1 : T ≤ 50) {n : Nat} (hn : n ≤ 2000) : 0 ≤ (n : Int) * T ∧ (n : Int) * T ≤ 100000 ∧ w64 ((n : Int) * T) = (n : Int) * T := by
  have e1 : (n : Int) * T ≤ 2000 * 50 := Int.mul_le_mul (by omega) h1 h0 (by omega)
  have e0 : 0 ≤ (n : Int) * T := Int.mul_nonneg (by omega) h0
  exact ⟨e0, by omega, w64_small (by omega) (by omega)⟩

theorem least_eq {x : Fi} {k : Int} (hc : checkB x = true) (hin : inReels x k = true) {n : Nat} (hn : n ≤ 2000) : leastI x k n = maxI 0 ((reelAt x k).2.2.1 - (n : Int) * x.2.2.1.2) := by
  obtain ⟨h1, h2, h3, h4, h5, h6⟩ := feet_of hc hin
  obtain ⟨t1, t2, t3⟩ := tear_small (T := x.2.2.1.2) (by omega) (by omega) hn
  unfold leastI
  rw [t3, w64_small (by omega) (by omega)]
theorem most_eq {x : Fi} {k : Int} (hc : checkB x = true) (hin : inReels x k = true) {n : Nat} (hn : n ≤ 2000) : mostI x k n = maxI 0 ((reelAt x k).2.2.2 - (n : Int) * x.2.2.1.1) := by
  obtain ⟨h1, h2, h3, h4, h5, h6⟩ := feet_of hc hin
  obtain ⟨t1, t2, t3⟩ := tear_small (T := x.2.2.1.1) (by omega) (by omega) hn
  unfold mostI
  rw [t3, w64_small (by omega) (by omega)]

theorem max_step {L T P : Int} (h0 : 0 ≤ T) (hT : T ≤ 50) (hL : L ≤ 1200) (hP : 0 ≤ P) (hP2 : P ≤ 100000) (hL0 : 0 ≤ L) : (if (0 : Int) < w64 (maxI 0 (L - P) - T) then w64 (maxI 0 (L - P) - T) else 0) = maxI 0 (L - (P + T)) ∧ maxI 0 (L - (P + T)) ≤ maxI 0 (L - P) := by
  have hm : 0 ≤ maxI 0 (L - P) ∧ maxI 0 (L - P) ≤ 1200 := by
    unfold maxI
    split <;> omega
  rw [w64_small (by omega) (by omega)]
  unfold maxI
  constructor
  · repeat' split
    all_goals omega
  · repeat' split
    all_goals omega

theorem least_step {x : Fi} {k : Int} (hc : checkB x = true) (hin : inReels x k = true) {n : Nat} (hn : n < 2000) : (if (0 : Int) < w64 (leastI x k n - x.2.2.1.2) then w64 (leastI x k n - x.2.2.1.2) else 0) = leastI x k (n + 1 : Nat) ∧ leastI x k (n + 1 : Nat) ≤ leastI x k n := by
  obtain ⟨h1, h2, h3, h4, h5, h6⟩ := feet_of hc hin
  obtain ⟨t1, t2, _⟩ := tear_small (T := x.2.2.1.2) (n := n) (by omega) (by omega) (by omega)
  rw [least_eq hc hin (n := n) (by omega), least_eq hc hin (n := n + 1) (by omega)]
  have e : ((n + 1 : Nat) : Int) * x.2.2.1.2 = (n : Int) * x.2.2.1.2 + x.2.2.1.2 := by rw [Int.natCast_add, Int.add_mul]; omega
  rw [e]
  exact max_step (by omega) (by omega) (by omega) t1 t2 (by omega)
theorem most_step {x : Fi} {k : Int} (hc : checkB x = true) (hin : inReels x k = true) {n : Nat} (hn : n < 2000) : (if (0 : Int) < w64 (mostI x k n - x.2.2.1.1) then w64 (mostI x k n - x.2.2.1.1) else 0) = mostI x k (n + 1 : Nat) ∧ mostI x k (n + 1 : Nat) ≤ mostI x k n := by
  obtain ⟨h1, h2, h3, h4, h5, h6⟩ := feet_of hc hin
  obtain ⟨t1, t2, _⟩ := tear_small (T := x.2.2.1.1) (n := n) (by omega) (by omega) (by omega)
  rw [most_eq hc hin (n := n) (by omega), most_eq hc hin (n := n + 1) (by omega)]
  have e : ((n + 1 : Nat) : Int) * x.2.2.1.1 = (n : Int) * x.2.2.1.1 + x.2.2.1.1 := by rw [Int.natCast_add, Int.add_mul]; omega
  rw [e]
  exact max_step (by omega) (by omega) (by omega) t1 t2 (by omega)
theorem least_zero {x : Fi} {k : Int} (hc : checkB x = true) (hin : inReels x k = true) : leastI x k (0 : Nat) = (reelAt x k).2.2.1 := by
  obtain ⟨h1, h2, h3, h4, h5, h6⟩ := feet_of hc hin
  rw [least_eq hc hin (n := 0) (by omega)]
  unfold maxI
  split <;> omega
theorem most_zero {x : Fi} {k : Int} (hc : checkB x = true) (hin : inReels x k = true) : mostI x k (0 : Nat) = (reelAt x k).2.2.2 := by
  obtain ⟨h1, h2, h3, h4, h5, h6⟩ := feet_of hc hin
  rw [most_eq hc hin (n := 0) (by omega)]
  unfold maxI
  split <;> omega

theorem worn_ok {x : Fi} {k n : Int} (hc : checkB x = true) (hin : inReels x k = true) (hn0 : 0 ≤ n) (hn : n ≤ 999) : WornI x k n = (wornS x k n, 0) := by
  have hl := check_len hc
  have h1 : isReelB x k = true := by
    simp only [inReels, Bool.and_eq_true, decide_eq_true_eq] at hin
    simp only [isReelB, amid, Bool.and_eq_true, decide_eq_true_eq]
    rw [w64_small (by omega) (by omega)]
    omega
  have h2 : amid n 0 999 = true := by simp [amid, hn0, hn]
  unfold WornI
  rw [h1, h2, Bool.and_true, asked_true hc, if_pos rfl]

theorem f12_loop (x : Fi) (ns : List Int) (hc : checkB x = true) (hin : inReels x (turnI (ns.getD 0 0) x.1.length) = true) (s : Nat) (hs : turnI (ns.getD 1 0) 999 = (s : Int)) (hs2 : s < 999) (N : Nat) : ∀ (m i : Nat), i + m = s → f12_L0 x ns N (m + 1) (leastI x (turnI (ns.getD 0 0) x.1.length) i) (mostI x (turnI (ns.getD 0 0) x.1.length) i) i = some (.bool true)
  | 0, i, h => by
    have e : f12_L0 x ns N (0 + 1) (leastI x (turnI (ns.getD 0 0) x.1.length) i) (mostI x (turnI (ns.getD 0 0) x.1.length) i) i = f12_s0 x ns (f12_L0 x ns N 0) (leastI x (turnI (ns.getD 0 0) x.1.length) i) (mostI x (turnI (ns.getD 0 0) x.1.length) i) i := rfl
    rw [e]
    have hi : i = s := by omega
    subst hi
    unfold f12_s0
    rw [hs]
    have hw : w64 ((i : Int) + 1) = ((i + 1 : Nat) : Int) := w64_succ (n := 2000) (by omega) (by omega)
    rw [hw, worn_ok hc hin (n := (i : Int)) (by omega) (by omega), worn_ok hc hin (n := ((i + 1 : Nat) : Int)) (by omega) (by omega)]
    have h1 : decide ((i : Int) < (i : Int)) = false := by simp
    have h2 := (least_step hc hin (n := i) (by omega)).2
    have h3 := (most_step hc hin (n := i) (by omega)).2
    simp only [wornS, mk2, h1, h2, h3, decide_true, cond_true, cond_false, Bool.and_self, turnedB]
  | m + 1, i, h => by
    have e : f12_L0 x ns N (m + 1 + 1) (leastI x (turnI (ns.getD 0 0) x.1.length) i) (mostI x (turnI (ns.getD 0 0) x.1.length) i) i = f12_s0 x ns (f12_L0 x ns N (m + 1)) (leastI x (turnI (ns.getD 0 0) x.1.length) i) (mostI x (turnI (ns.getD 0 0) x.1.length) i) i := rfl
    rw [e]
    unfold f12_s0
    rw [hs]
    have hw : w64 ((i : Int) + 1) = ((i + 1 : Nat) : Int) := w64_succ (n := 2000) (by omega) (by omega)
    have h1 : decide ((i : Int) < (s : Int)) = true := by simp; omega
    rw [h1, cond_true, hw, (least_step hc hin (n := i) (by omega)).1, (most_step hc hin (n := i) (by omega)).1]
    exact f12_loop x ns hc hin s hs hs2 N m (i + 1) (by omega)

theorem f12_sp (x0 : Fi) (x1 : List Int) (hp : endsOK x0 x1 = true) : ∃ (N : Nat) (r0 : AV), f12_T x0 x1 N = some r0 ∧ wkAV r0 = enc .bool (endsB x0 x1) := by
  have h : chkOK x0 = true := hp
  have h3 : ∀ a b, chkOK3 x0 a b = true := fun _ _ => h
  refine ⟨(turnI (x1.getD 1 0) 999).toNat + 1, .bool true, ?_, rfl⟩
  unfold f12_T f12_s
  rw [h]
  cases hc : soundB x0 with
  | false => rfl
  | true =>
    have hc' : checkB x0 = true := hc
    have hl := check_len hc'
    have hk := turn_range (n := x1.getD 0 0) (m := x0.1.length) (by omega) (by omega)
    have hs := turn_range (n := x1.getD 1 0) (m := 999) (by omega) (by omega)
    have hin : inReels x0 (turnI (x1.getD 0 0) x0.1.length) = true := by
      simp only [inReels, Bool.and_eq_true, decide_eq_true_eq]
      exact hk
    have hk2 : (decide (0 ≤ (turnI (x1.getD 0 (0 : Int)) (x0.1.length : Int))) && decide ((turnI (x1.getD 0 (0 : Int)) (x0.1.length : Int)) < (x0.1.length : Int))) = true := hin
    obtain ⟨s, hs3⟩ := Int.eq_ofNat_of_zero_le hs.1
    have hfin := f12_loop x0 x1 hc' hin s hs3 (by omega) (s + 1) s 0 (by omega)
    have e2 : (turnI (x1.getD 1 0) 999).toNat = s := by rw [hs3]; rfl
    rw [e2]
    rw [least_zero hc' hin, most_zero hc' hin] at hfin
    simp only [h3, hk2, Bool.not_true, cond_false, cond_true, decide_true, Bool.and_self, show decide ((0 : Int) < 2) = true from rfl, show decide ((1 : Int) < 2) = true from rfl, show decide ((0 : Int) ≤ 1) = true from rfl, show decide ((0 : Int) ≤ 0) = true from rfl]
    exact hfin

end Ev
end Go.Proofs.YtidnikjkpbmhhaaDoor
/- The contract of the law of both ends. -/
set_option linter.unusedVariables false
set_option maxRecDepth 4000
namespace Go.Proofs.YtidnikjkpbmhhaaDoor
namespace Ev

theorem k12 : Good 12 g12 := ⟨ctr_ofN (B := Bs) (X := X12) (ctxOK rfl rfl rfl rfl rfl rfl (AllC.cons k25 (AllC.cons k30 (AllC.cons k43 (AllC.cons k48 (AllC.cons k53 AllC.nil)))))) Tryd.func12 (fun args r h => by
  unfold g12 at h
  split at h
  · rename_i a0 a1
    split at h
    · rename_i x0 x1 h0 h1
      simp only [Option.some.injEq, Prod.mk.injEq] at h
      obtain ⟨hp, rfl⟩ := h
      obtain ⟨N, r0, q1, q2⟩ := f12_sp x0 x1 hp
      refine ⟨N, r0, ?_, q2⟩
      simp only [wkL, wk_dec h0, wk_dec h1]
      exact (f12_ev x0 x1 N).trans q1
    · cases h
  · cases h), Tryd.f12, Tryd.func12, by kernel_rfl, by kernel_rfl⟩

end Ev
end Go.Proofs.YtidnikjkpbmhhaaDoor
/- ReelEnds returns true for every film and all numbers, and leaves them as they were: where the package variables hold what its text lays. -/
set_option linter.unusedVariables false
set_option linter.unusedSimpArgs false
set_option maxRecDepth 4000
namespace Go.Proofs.YtidnikjkpbmhhaaDoor
namespace Ev
open Go.ChangeShapes Go.WideShapes Go.ChangeAt Go.RowKit

theorem ends_contract (H : Type) (enc' : TypeId × Value → H) (W : World) (base : Nat) (args : Array Value) (ds gs : List (DataW H)) (before : List MemPlace)
    (hval : ∀ (j : Nat) t v, Tryd.f12.params[j]? = some t → args[j]? = some v → Value.okWide Tryd.prog W .any base t v)
    (hW : DataW.Whole enc' Tryd.prog Tryd.f12.params.toList Rows.reelEndsSpec.vars false W args.toList ds gs before)
    (hw : (DataW.weightsEach Tryd.prog (Tryd.f12.params.toList ++ (OpenSpec.ofChange Rows.reelEndsSpec).bare.plain.varTypes Tryd.prog) (ds ++ gs)).all (· ≤ reachBytes) = true) (hL : laidMetH Tryd.prog laidAll W) :
    Calls Tryd.prog 12 args W fun e W' => ∃ v, e = .returned v ∧ Rows.reelEndsSpec.post enc' Tryd.prog Tryd.f12 false true false false W args v W' := by
  have hW' := hW
  obtain ⟨p, q, hA0, hV, rfl, hfz, hnd⟩ := hW
  have hA : DataW.TrodAll enc' Tryd.prog W 0 (fun _ => true) true Tryd.f12.params.toList args.toList ds p := hA0
  rw [Tryd.params12] at hA hval
  obtain ⟨v0, vs0, d0, ds0, p0, q0, hargs, rfl, rfl, h0, r0⟩ := trodAll_cons hA
  obtain ⟨v1, vs1, d1, ds1, p1, q1, rfl, rfl, rfl, h1, r1⟩ := trodAll_cons r0
  obtain ⟨rfl, rfl, rfl⟩ := trodAll_nil r1
  obtain rfl : args = #[v0, v1] := by cases args; simp_all
  obtain ⟨rfl, rfl⟩ := trodVars_none hV
  have hvt : (OpenSpec.ofChange Rows.reelEndsSpec).bare.plain.varTypes Tryd.prog = [] := by kernel_rfl
  rw [Tryd.params12, hvt] at hw
  obtain ⟨n0, h0⟩ := h0
  obtain ⟨x0, e0, hd0⟩ := rd_film h0
  have hx0 : chkOK x0 = true := film_bound hd0 fun n hn => by
    have := List.all_eq_true.1 hw n (by
      simp only [List.append_nil, DataW.weightsEach, List.mem_append]
      exact .inl hn)
    simpa using this
  obtain ⟨n1, h1⟩ := h1
  obtain ⟨x1, e1⟩ := rd_ints Tryd.underlying54 (by kernel_rfl) h1
  have hx1 : x1.length = 2 := e1.1
  have hrel : RelV TRr (baseCx noV noIo) W [enc tRF x0, enc (.arr 2 .int) x1] [v0, v1] := by
    simp only [RelV]
    exact ⟨v0, _, rfl, vr_film e0 (agg_of Tryd.underlying26 (hval 0 _ v0 rfl rfl)), ⟨v1, _, rfl, vr_arr e1 (agg_ofA Tryd.underlying54 (hval 1 _ v1 rfl rfl)), rfl⟩⟩
  have hg : g12 [enc tRF x0, enc (.arr 2 .int) x1] = some (true, .bool true) := by
    have g0 : dec tRF (enc tRF x0) = some x0 := by kernel_rfl
    have g1 : dec (.arr 2 .int) (enc (.arr 2 .int) x1) = some x1 := by kernel_rfl
    unfold g12
    simp only [g0, g1]
    have : endsOK x0 x1 = true := hx0
    rw [this]
    rfl
  refine Calls.mono (law_calls k12 hL hrel hg) ?_
  rintro e W' ⟨rfl, io', hk⟩
  exact ⟨_, rfl, post_true hk hW' rfl (by kernel_rfl) (by kernel_rfl) rfl⟩

theorem ends_reads (os : Os) {H : Type} (enc : TypeId × Value → H) : ∃ places, DataW.whole enc Tryd.prog ((World.doorLaid Tryd.prog 24 os).forCall (fun _ _ => 0) ⟨#[], #[zFilm, zInts 2], []⟩).memory Tryd.f12.params.toList Rows.reelEndsSpec.vars false (#[zFilm, zInts 2] : Array Value).toList 8 = some ([.agg [.nil, .agg [.lit (.int .i64 0), .lit (.int .i64 0)], .agg [.lit (.int .i64 0), .lit (.int .i64 0)], .lit (.int .i64 0)], .agg [.lit (.int .i64 0), .lit (.int .i64 0)]], [], places) :=
  ⟨[], by kernel_rfl⟩

set_option maxRecDepth 100000 in
theorem ends_lifted (os : Os) (started : os.Started) (H : Type) (enc : TypeId × Value → H) (F : Stop.Interp) :
    ReturnsInHanded {} Tryd.checked os 12 .any ((OpenSpec.ofChange Rows.reelEndsSpec).preRow enc Tryd.prog Tryd.f12 Rows.reelEndsRow.domain false Rows.reelEndsRow.laid) (((OpenSpec.ofChange Rows.reelEndsSpec).at F).post enc Tryd.prog Tryd.f12 false true false false) := by
  obtain ⟨places, hx⟩ := ends_reads os enc
  refine returnsInHanded_of_row (C := Tryd.checked) (s := OpenSpec.ofChange Rows.reelEndsSpec) own started (by kernel_rfl) Tryd.func12
    (witness_row_at (enc := enc) (C := Tryd.checked) false (World.doorLaid Tryd.prog 24 os) #[zFilm, zInts 2] rfl (by kernel_rfl) (by kernel_rfl) (by kernel_rfl)
      (OpenSpec.preRow_of_cond 8 hx (by kernel_rfl) (fun k hk => by cases hk) (by kernel_rfl) (door_met os _))) ?_
  intro W base args ds gs before hval hW _ _ hw hL _ _
  exact ends_contract H enc W base args ds gs before hval hW hw hL

theorem ends_said : Rows.ReelEndsSaid :=
  OpenClaim.holds_of_cond 12 Tryd.f12 rfl rfl rfl rfl rfl rfl rfl ⟨rfl, rfl, rfl, rfl, rfl⟩ rfl rfl rfl rfl rfl (by kernel_rfl) Tryd.func12 (by kernel_rfl)
    (of_decide_eq_true (by kernel_rfl)) (by unfold Func.isWrapper; first | (rw [if_pos (by decide +kernel)]; kernel_rfl) | (rw [if_neg (by decide +kernel)]; exact ⟨rfl, rfl⟩))
    (fun os started H enc _ F => by rw [OpenClaim.pre_eq_preRow]; exact ends_lifted os started H enc F)

theorem ends_plain (f : FuncId) (fn : Func) (hf : Tryd.pinned.checked.prog.funcNamed "bioscope/bioscopelaw01.ReelEnds" = some f) (hfn : Tryd.pinned.checked.prog.funcs[f]? = some fn) :
    false = Tryd.pinned.checked.prog.looks [] ∧ ∀ (j : Nat) t, fn.params[j]? = some t → Tryd.pinned.checked.prog.wantsStandIn t = false := by
  obtain rfl : f = 12 := Option.some.inj ((show Tryd.prog.funcNamed "bioscope/bioscopelaw01.ReelEnds" = some 12 by kernel_rfl).symm.trans hf) |>.symm
  obtain rfl : fn = Tryd.f12 := (Option.some.inj (Tryd.func12.symm.trans hfn)).symm
  refine ⟨by kernel_rfl, fun j t ht => ?_⟩
  have hall : (Tryd.f12.params.toList.all fun u => !Tryd.prog.wantsStandIn u) = true := by kernel_rfl
  have hm : t ∈ Tryd.f12.params.toList := by simpa using Array.mem_of_getElem? ht
  have h2 : Tryd.prog.wantsStandIn t = false := by simpa using List.all_eq_true.1 hall t hm
  exact h2

end Ev

/-- The statement. -/
theorem reelEnds_holds : Rows.ReelEndsCardSaid :=
  Claim7.holds_tied_plain_at .later [] _ _ _ _ Ev.ends_said (fun _ h => by cases h) (by kernel_rfl) (fun _ h => by cases h) reelEnds_row_tie rfl ⟨rfl, rfl⟩ (by kernel_rfl) rfl Ev.ends_plain (by kernel_rfl)
end Go.Proofs.YtidnikjkpbmhhaaDoor
