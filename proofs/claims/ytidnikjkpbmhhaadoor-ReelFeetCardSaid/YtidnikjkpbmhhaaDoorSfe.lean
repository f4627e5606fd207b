/- Reels, feet and showings: what the walks come to, in plain words. -/
import Derived.Test.YtidnikjkpbmhhaaDoorWfe
import Derived.Test.YtidnikjkpbmhhaaDoorOnl
set_option linter.unusedVariables false
set_option linter.unusedSimpArgs false
set_option maxRecDepth 4000
namespace Go.Proofs.YtidnikjkpbmhhaaDoor
namespace Ev

theorem f77_sp : ∃ (N : Nat) (r0 : AV), f77_T = some r0 ∧ wkAV r0 = enc tUsed unusedB := ⟨0, _, rfl, rfl⟩
theorem f88_sp (x0 : Fi) (x1 : Int) (x2 : (Int × Int)) (hp : followsOK x0 x1 x2 = true) : ∃ (N : Nat) (r0 : AV), f88_T x0 x1 x2 = some r0 ∧ wkAV r0 = .tup [enc tSpan ((followsF x0 x1 x2).1), enc .bool ((followsF x0 x1 x2).2)] := by
  have h : (decide (x0 = x0) && ((lastOK x0 (x1, (x2.1, (w64 (x2.2 + (1 : Int)))))))) = true := by simpa [lastOK, followsOK] using hp
  refine ⟨0, .tup [enc tSpan (lastF x0 (x1, (x2.1, (w64 (x2.2 + (1 : Int)))))), .bool _], by unfold f88_T f88_s; rw [h]; rfl, ?_⟩
  simp only [wkAV, wkL, wk_enc, followsF, Bool.and_true]
  rfl
theorem f53_sp (x0 : Int) (x1 : Int) : ∃ (N : Nat) (r0 : AV), f53_T x0 x1 = some r0 ∧ wkAV r0 = enc tSpan (mk2 x0 x1) := ⟨0, _, rfl, rfl⟩
theorem amid_tree (x0 x1 x2 : Int) : (bif (decide (x1 ≤ x0)) then some (AV.bool (decide (x0 ≤ x2))) else some (.bool false)) = some (.bool (amid x0 x1 x2)) := by
  unfold amid
  cases decide (x1 ≤ x0) <;> rfl
theorem legal_tree (x0 : Int × Int) (x1 x2 : Int) : (bif (decide (x1 ≤ x0.1)) then bif (decide (x0.1 ≤ x0.2)) then some (AV.bool (decide (x0.2 ≤ x2))) else some (.bool false) else some (.bool false)) = some (.bool (legal x0 x1 x2)) := by
  unfold legal
  cases decide (x1 ≤ x0.1) <;> cases decide (x0.1 ≤ x0.2) <;> rfl
theorem f55_sp (x0 : Int) (x1 : Int) (x2 : Int) : ∃ (N : Nat) (r0 : AV), f55_T x0 x1 x2 = some r0 ∧ wkAV r0 = enc .bool (amid x0 x1 x2) := ⟨0, .bool (amid x0 x1 x2), amid_tree x0 x1 x2, rfl⟩
theorem f56_sp (x0 : (Int × Int)) (x1 : Int) : ∃ (N : Nat) (r0 : AV), f56_T x0 x1 = some r0 ∧ wkAV r0 = enc .bool (holds x0 x1) := ⟨0, _, rfl, rfl⟩
theorem f58_sp (x0 : (Int × Int)) : ∃ (N : Nat) (r0 : AV), f58_T x0 = some r0 ∧ wkAV r0 = enc .bool (emptyS x0) := ⟨0, _, rfl, rfl⟩
theorem f68_sp (x0 : Int) (x1 : Int) (x2 : Int) : ∃ (N : Nat) (r0 : AV), f68_T x0 x1 x2 = some r0 ∧ wkAV r0 = enc .bool (amid x0 x1 x2) := ⟨0, .bool (amid x0 x1 x2), amid_tree x0 x1 x2, rfl⟩
theorem f69_sp (x0 : (Int × Int)) (x1 : Int) (x2 : Int) : ∃ (N : Nat) (r0 : AV), f69_T x0 x1 x2 = some r0 ∧ wkAV r0 = enc .bool (legal x0 x1 x2) := ⟨0, .bool (legal x0 x1 x2), legal_tree x0 x1 x2, rfl⟩
theorem f70_sp (x0 : (Int × Int)) (x1 : Int) (x2 : Int) : ∃ (N : Nat) (r0 : AV), f70_T x0 x1 x2 = some r0 ∧ wkAV r0 = enc .bool (legal x0 x1 x2) := ⟨0, .bool (legal x0 x1 x2), legal_tree x0 x1 x2, rfl⟩

theorem f117_sp (x0 : Fi) (x1 : Int) (x2 : Int) (hp : inReels3 x0 x1 x2 = true) : ∃ (N : Nat) (r0 : AV), f117_T x0 x1 x2 = some r0 ∧ wkAV r0 = enc .int (leastI x0 x1 x2) := by
  have h : (decide (0 ≤ x1) && decide (x1 < (x0.1.length : Int))) = true := hp
  exact ⟨0, .int (leastI x0 x1 x2), by unfold f117_T f117_s; rw [h]; rfl, rfl⟩
theorem f119_sp (x0 : Fi) (x1 : Int) (x2 : Int) (hp : inReels3 x0 x1 x2 = true) : ∃ (N : Nat) (r0 : AV), f119_T x0 x1 x2 = some r0 ∧ wkAV r0 = enc .int (mostI x0 x1 x2) := by
  have h : (decide (0 ≤ x1) && decide (x1 < (x0.1.length : Int))) = true := hp
  exact ⟨0, .int (mostI x0 x1 x2), by unfold f119_T f119_s; rw [h]; rfl, rfl⟩
theorem f80_sp (x0 : Fi) (x1 : Int) (x2 : Int) (hp : inReels3 x0 x1 x2 = true) : ∃ (N : Nat) (r0 : AV), f80_T x0 x1 x2 = some r0 ∧ wkAV r0 = enc tSpan (wornS x0 x1 x2) :=
  ⟨0, enc tSpan (wornS x0 x1 x2), by unfold f80_T f80_s; simp [hp, wornS, enc, encT], wk_enc _ _⟩
theorem f81_sp (x0 : Fi) (x1 : Int) (x2 : Int) (hp : inReels3 x0 x1 x2 = true) : ∃ (N : Nat) (r0 : AV), f81_T x0 x1 x2 = some r0 ∧ wkAV r0 = enc tSpan (wornS x0 x1 x2) := by
  have h : (decide (0 ≤ x1) && decide (x1 < (x0.1.length : Int))) = true := hp
  exact ⟨0, enc tSpan (wornS x0 x1 x2), by unfold f81_T f81_s; rw [h]; rfl, wk_enc _ _⟩

theorem len_lt {x : Fi} (hx : chkOK x = true) : x.1.length ≤ 70368744177664 := by
  unfold chkOK lenOK at hx
  exact Nat.le_of_ble_eq_true hx
theorem w64_succ {i n : Nat} (h : i < n) (hn : n ≤ 70368744177664) : w64 ((i : Int) + 1) = ((i + 1 : Nat) : Int) := by
  rw [w64_small (by omega) (by omega)]
  omega

def chkV (b : Bool) : Int := bif b then 0 else 10
theorem checkI_eq (x : Fi) : checkI x = chkV (checkB x) := by
  unfold checkI chkV
  cases checkB x <;> rfl

theorem f18_loop (x : Fi) (hx : chkOK x = true) (N : Nat) : ∀ (m i : Nat) (b : Bool), i + m = x.1.length → f18_L0 x N (m + 1) b i = some (.int (chkV (b && (x.1.drop i).all okReel)))
  | 0, i, b, h => by
    have e : f18_L0 x N (0 + 1) b i = f18_s0 x (f18_L0 x N 0) b i := rfl
    rw [e]
    unfold f18_s0
    have h1 : decide ((i : Int) < (x.1.length : Int)) = false := by simp; omega
    rw [h1, List.drop_eq_nil_of_le (by omega)]
    cases b <;> rfl
  | m + 1, i, b, h => by
    have e : f18_L0 x N (m + 1 + 1) b i = f18_s0 x (f18_L0 x N (m + 1)) b i := rfl
    rw [e]
    have hlt : i < x.1.length := by omega
    unfold f18_s0
    have h1 : decide ((i : Int) < (x.1.length : Int)) = true := by simp; omega
    have h2 : decide (0 ≤ (i : Int)) = true := by simp
    have hg : x.1.getD (i : Int).toNat (((0 : Int), (0 : Int)), ((0 : Int), (0 : Int)), ((0 : Int), (0 : Int))) = x.1[i] := by simp [List.getD, hlt]
    rw [hg, h1, h2, w64_succ hlt (len_lt hx), List.drop_eq_getElem_cons hlt]
    simp only [f18_loop x hx N m (i + 1) _ (by omega), List.all_cons, okReel]
    cases b <;> cases legal x.1[i].1 0 99 <;> cases legal x.1[i].2.1 0 99 <;> cases decide (x.1[i].1.1 ≤ x.1[i].2.1.2) <;> cases legal x.1[i].2.2 1 1200 <;> rfl

theorem f18_sp (x0 : Fi) (hp : chkOK x0 = true) : ∃ (N : Nat) (r0 : AV), f18_T x0 N = some r0 ∧ wkAV r0 = enc .int (checkI x0) := by
  refine ⟨x0.1.length + 1, .int (checkI x0), ?_, rfl⟩
  unfold f18_T f18_s
  have h := fun b => f18_loop x0 hp (x0.1.length + 1) x0.1.length 0 b (by omega)
  have h2 : ∀ b, f18_L0 x0 (x0.1.length + 1) (x0.1.length + 1) b 0 = some (.int (chkV (b && (x0.1.drop 0).all okReel))) := h
  simp only [h2, checkI_eq, checkB, List.drop_zero]
  cases amid (x0.1.length : Int) 1 6 <;> cases legal x0.2.1 1 20 <;> cases legal x0.2.2.1 0 50 <;> cases amid x0.2.2.2 1 6000 <;> cases x0.1.all okReel <;> rfl

theorem f19_loop (x : Fi) (hx : chkOK x = true) (N : Nat) : ∀ (m i : Nat) (b : Bool), i + m = x.1.length → f19_L0 x N (m + 1) b i = some (.int (chkV (b && (x.1.drop i).all okReel)))
  | 0, i, b, h => by
    have e : f19_L0 x N (0 + 1) b i = f19_s0 x (f19_L0 x N 0) b i := rfl
    rw [e]
    unfold f19_s0
    have h1 : decide ((i : Int) < (x.1.length : Int)) = false := by simp; omega
    rw [h1, List.drop_eq_nil_of_le (by omega)]
    cases b <;> rfl
  | m + 1, i, b, h => by
    have e : f19_L0 x N (m + 1 + 1) b i = f19_s0 x (f19_L0 x N (m + 1)) b i := rfl
    rw [e]
    have hlt : i < x.1.length := by omega
    unfold f19_s0
    have h1 : decide ((i : Int) < (x.1.length : Int)) = true := by simp; omega
    have h2 : decide (0 ≤ (i : Int)) = true := by simp
    have hg : x.1.getD (i : Int).toNat (((0 : Int), (0 : Int)), ((0 : Int), (0 : Int)), ((0 : Int), (0 : Int))) = x.1[i] := by simp [List.getD, hlt]
    rw [hg, h1, h2, w64_succ hlt (len_lt hx), List.drop_eq_getElem_cons hlt]
    simp only [f19_loop x hx N m (i + 1) _ (by omega), List.all_cons, okReel]
    cases b <;> cases legal x.1[i].1 0 99 <;> cases legal x.1[i].2.1 0 99 <;> cases decide (x.1[i].1.1 ≤ x.1[i].2.1.2) <;> cases legal x.1[i].2.2 1 1200 <;> rfl

theorem f19_sp (x0 : Fi) (hp : chkOK x0 = true) : ∃ (N : Nat) (r0 : AV), f19_T x0 N = some r0 ∧ wkAV r0 = enc .int (checkI x0) := by
  refine ⟨x0.1.length + 1, .int (checkI x0), ?_, rfl⟩
  unfold f19_T f19_s
  have h := fun b => f19_loop x0 hp (x0.1.length + 1) x0.1.length 0 b (by omega)
  have h2 : ∀ b, f19_L0 x0 (x0.1.length + 1) (x0.1.length + 1) b 0 = some (.int (chkV (b && (x0.1.drop 0).all okReel))) := h
  simp only [h2, checkI_eq, checkB, List.drop_zero]
  cases amid (x0.1.length : Int) 1 6 <;> cases legal x0.2.1 1 20 <;> cases legal x0.2.2.1 0 50 <;> cases amid x0.2.2.2 1 6000 <;> cases x0.1.all okReel <;> rfl

theorem f62_sp (x0 : Fi) (x1 : Bool) (hp : askOK x0 x1 = true) : ∃ (N : Nat) (r0 : AV), f62_T x0 x1 = some r0 ∧ wkAV r0 = .tup [.agg [enc tRF ((askedF x0 x1).1), .tok 0 tRF ((askedF x0 x1).1)], enc .int ((askedF x0 x1).2)] := by
  have h : chkOK x0 = true := hp
  unfold f62_T f62_s askedF askedI checkI
  rw [h]
  cases checkB x0 <;> cases x1
  · exact ⟨0, _, rfl, rfl⟩
  · exact ⟨0, _, rfl, rfl⟩
  · exact ⟨0, _, rfl, rfl⟩
  · refine ⟨0, _, rfl, ?_⟩
    simp only [wkAV, wkL, wk_enc]
    rfl
theorem f65_sp (x0 : Fi) (x1 : Bool) (hp : askOK x0 x1 = true) : ∃ (N : Nat) (r0 : AV), f65_T x0 x1 = some r0 ∧ wkAV r0 = enc .int (askedI x0 x1) := by
  have h : chkOK x0 = true := hp
  unfold f65_T f65_s askedI checkI
  rw [h]
  cases checkB x0 <;> cases x1 <;> exact ⟨0, _, rfl, rfl⟩
theorem f78_sp (x0 : Fi) (x1 : Int) : ∃ (N : Nat) (r0 : AV), f78_T x0 x1 = some r0 ∧ wkAV r0 = enc .bool (isReelB x0 x1) := ⟨0, _, rfl, rfl⟩

theorem asked_zero {x : Fi} {r : Bool} (h : askedI x r = 0) : checkB x = true ∧ r = true := by
  unfold askedI at h
  cases hc : checkB x <;> cases r <;> simp_all
theorem asked_true {x : Fi} (h : checkB x = true) : askedI x true = 0 := by simp [askedI, h]
theorem check_len {x : Fi} (h : checkB x = true) : 1 ≤ x.1.length ∧ x.1.length ≤ 6 := by
  simp only [checkB, amid, Bool.and_eq_true, decide_eq_true_eq] at h
  omega
theorem isReel_in {x : Fi} {k : Int} (h : checkB x = true) (hk : isReelB x k = true) : inReels x k = true := by
  have hl := check_len h
  simp only [isReelB, amid, Bool.and_eq_true, decide_eq_true_eq] at hk
  rw [w64_small (by omega) (by omega)] at hk
  simp only [inReels, Bool.and_eq_true, decide_eq_true_eq]
  omega

theorem f30_sp (x0 : Fi) (x1 : Int) (x2 : Int) (hp : chkOK3 x0 x1 x2 = true) : ∃ (N : Nat) (r0 : AV), f30_T x0 x1 x2 = some r0 ∧ wkAV r0 = .tup [enc tSpan ((WornI x0 x1 x2).1), enc .int ((WornI x0 x1 x2).2)] := by
  have h : ∀ r, askOK x0 r = true := fun _ => hp
  have e : f30_T x0 x1 x2 = (bif (!decide (((askedF x0 (isReelB x0 x1 && amid x2 0 999)).2) = (0 : Int))) then
        some (.tup [.agg [.int (0 : Int), .int (0 : Int)], .int ((askedF x0 (isReelB x0 x1 && amid x2 0 999)).2)])
      else
        bif decide (((askedF x0 (isReelB x0 x1 && amid x2 0 999)).1) = ((askedF x0 (isReelB x0 x1 && amid x2 0 999)).1)) && ((inReels3 ((askedF x0 (isReelB x0 x1 && amid x2 0 999)).1) x1 x2)) then
          some (.tup [enc tSpan (wornS ((askedF x0 (isReelB x0 x1 && amid x2 0 999)).1) x1 x2), .int (0 : Int)])
        else
          none) := by
    unfold f30_T f30_s
    simp only [h, cond_true]
    rw [show amid x1 (0 : Int) (w64 ((x0.1.length : Int) - (1 : Int))) = isReelB x0 x1 from rfl]
    cases isReelB x0 x1 <;> rfl
  rw [e]
  unfold WornI
  generalize hr : (isReelB x0 x1 && amid x2 0 999) = r
  by_cases h0 : askedI x0 r = 0
  · obtain ⟨hc, rfl⟩ := asked_zero h0
    rw [Bool.and_eq_true] at hr
    have hin : inReels3 x0 x1 x2 = true := isReel_in hc hr.1
    have e1 : (askedF x0 true) = (x0, 0) := by simp [askedF, h0]
    exact ⟨0, .tup [enc tSpan (wornS x0 x1 x2), .int 0], by simp [e1, hin], by simp [wkAV, wkL, wk_enc, wkT_enc, h0, enc]⟩
  · exact ⟨0, .tup [.agg [.int 0, .int 0], .int (askedI x0 r)], by simp [askedF, h0], by simp [wkAV, wkL, h0, enc, encT]⟩
theorem f31_sp (x0 : Fi) (x1 : Int) (x2 : Int) (hp : chkOK3 x0 x1 x2 = true) : ∃ (N : Nat) (r0 : AV), f31_T x0 x1 x2 = some r0 ∧ wkAV r0 = .tup [enc tSpan ((WornI x0 x1 x2).1), enc .int ((WornI x0 x1 x2).2)] := by
  have h : ∀ r, askOK x0 r = true := fun _ => hp
  have e : f31_T x0 x1 x2 = (bif (!decide (((askedI x0 (isReelB x0 x1 && amid x2 0 999))) = (0 : Int))) then
        some (.tup [.agg [.int (0 : Int), .int (0 : Int)], .int ((askedI x0 (isReelB x0 x1 && amid x2 0 999)))])
      else
        bif (inReels3 x0 x1 x2) then
          some (.tup [enc tSpan (wornS x0 x1 x2), .int (0 : Int)])
        else
          none) := by
    unfold f31_T f31_s
    simp only [h, cond_true]
    cases isReelB x0 x1 <;> rfl
  rw [e]
  unfold WornI
  generalize hr : (isReelB x0 x1 && amid x2 0 999) = r
  by_cases h0 : askedI x0 r = 0
  · obtain ⟨hc, rfl⟩ := asked_zero h0
    rw [Bool.and_eq_true] at hr
    have hin : inReels3 x0 x1 x2 = true := isReel_in hc hr.1
    exact ⟨0, .tup [enc tSpan (wornS x0 x1 x2), .int 0], by simp [h0, hin], by simp [wkAV, wkL, wk_enc, wkT_enc, h0, enc]⟩
  · exact ⟨0, .tup [.agg [.int 0, .int 0], .int (askedI x0 r)], by simp [h0], by simp [wkAV, wkL, h0, enc, encT]⟩

theorem f32_loop (x : Fi) (k w : Int) (hin : inReels x k = true) (N : Nat) : ∀ (m n : Nat) (s : Int × Int), n + m = 1000 → f32_L0 x k w N (m + 1) s.1 s.2 n x x = some (.tup [.int (shR x k w m n s).1, .int (shR x k w m n s).2, .int 0])
  | 0, n, s, h => by
    have e : f32_L0 x k w N (0 + 1) s.1 s.2 n x x = f32_s0 x k w (f32_L0 x k w N 0) s.1 s.2 n x x := rfl
    rw [e]
    unfold f32_s0
    have h1 : decide ((n : Int) < 1000) = false := by simp; omega
    rw [h1]
    rfl
  | m + 1, n, s, h => by
    have e : f32_L0 x k w N (m + 1 + 1) s.1 s.2 n x x = f32_s0 x k w (f32_L0 x k w N (m + 1)) s.1 s.2 n x x := rfl
    rw [e]
    unfold f32_s0
    have h1 : decide ((n : Int) < 1000) = true := by simp; omega
    have h2 : (decide (x = x) && inReels3 x k n) = true := by simpa [inReels3] using hin
    rw [h1, h2, w64_succ (n := 1000) (by omega) (by omega), shR, wornS]
    simp only [cond_true]
    have hl := fun s => f32_loop x k w hin N m (n + 1) s (by omega)
    by_cases c1 : w ≤ leastI x k n <;> by_cases c2 : w ≤ mostI x k n <;> simp only [c1, c2, decide_true, decide_false, cond_true, cond_false, if_true, if_false]
    · exact hl ((n : Int), (n : Int))
    · exact hl ((n : Int), s.2)
    · exact hl (s.1, (n : Int))
    · exact hl s
theorem f33_loop (x : Fi) (k w : Int) (hin : inReels x k = true) (N : Nat) : ∀ (m n : Nat) (s : Int × Int), n + m = 1000 → f33_L0 x k w N (m + 1) s.1 s.2 n = (bif decide ((shR x k w m n s).2 < 0) then some (.tup [.int 0, .int 0, .int 4]) else some (.tup [.int (shR x k w m n s).1, .int (shR x k w m n s).2, .int 0]))
  | 0, n, s, h => by
    have e : f33_L0 x k w N (0 + 1) s.1 s.2 n = f33_s0 x k w (f33_L0 x k w N 0) s.1 s.2 n := rfl
    rw [e]
    unfold f33_s0
    have h1 : decide ((n : Int) ≤ 999) = false := by simp; omega
    rw [h1]
    rfl
  | m + 1, n, s, h => by
    have e : f33_L0 x k w N (m + 1 + 1) s.1 s.2 n = f33_s0 x k w (f33_L0 x k w N (m + 1)) s.1 s.2 n := rfl
    rw [e]
    unfold f33_s0
    have h1 : decide ((n : Int) ≤ 999) = true := by simp; omega
    have h2 : inReels3 x k n = true := hin
    rw [h1, h2, w64_succ (n := 1000) (by omega) (by omega), shR, wornS]
    simp only [cond_true]
    have hl := fun s => f33_loop x k w hin N m (n + 1) s (by omega)
    by_cases c1 : w ≤ leastI x k n <;> by_cases c2 : w ≤ mostI x k n <;> simp only [c1, c2, decide_true, decide_false, cond_true, cond_false, if_true, if_false]
    · exact hl ((n : Int), (n : Int))
    · exact hl ((n : Int), s.2)
    · exact hl (s.1, (n : Int))
    · exact hl s

theorem reel_of {x : Fi} {k : Int} (hc : checkB x = true) (hin : inReels x k = true) : okReel (reelAt x k) = true := by
  simp only [inReels, Bool.and_eq_true, decide_eq_true_eq] at hin
  obtain ⟨h0, h1⟩ := hin
  have hall : x.1.all okReel = true := by
    simp only [checkB, Bool.and_eq_true] at hc
    exact hc.2.2.2.2
  rw [List.all_eq_true] at hall
  unfold reelAt
  have hlt : k.toNat < x.1.length := by omega
  have : x.1.getD k.toNat zR = x.1[k.toNat] := by simp [List.getD, hlt]
  rw [this]
  exact hall _ (List.getElem_mem hlt)
theorem most_mono {x : Fi} {k : Int} (hc : checkB x = true) (hin : inReels x k = true) {n : Nat} (hn : n ≤ 1000) : mostI x k n ≤ mostI x k 0 := by
  have hr := reel_of hc hin
  simp only [okReel, legal, Bool.and_eq_true, decide_eq_true_eq] at hr
  simp only [checkB, legal, Bool.and_eq_true, decide_eq_true_eq] at hc
  obtain ⟨_, _, _, h1, h2, h3⟩ := hr
  have ht := hc.2.2.1
  unfold mostI
  generalize (reelAt x k).2.2.2 = H at *
  generalize (reelAt x k).2.2.1 = L at *
  generalize x.2.2.1.1 = T at *
  have hT0 : 0 ≤ T := ht.1
  have hT1 : T ≤ 50 := by omega
  have e1 : (n : Int) * T ≤ 1000 * 50 := Int.mul_le_mul (by omega) hT1 hT0 (by omega)
  have e0 : 0 ≤ (n : Int) * T := Int.mul_nonneg (by omega) hT0
  rw [w64_small (n := (n : Int) * T) (by omega) (by omega), w64_small (n := H - (n : Int) * T) (by omega) (by omega)]
  rw [show (0 : Int) * T = 0 by omega, w64_small (n := 0) (by omega) (by omega), w64_small (n := H - 0) (by omega) (by omega)]
  unfold maxI
  split <;> split <;> omega

theorem shR_some (x : Fi) (k w : Int) : ∀ (m n : Nat) (s : Int × Int), 0 ≤ s.2 → 0 ≤ (shR x k w m n s).2
  | 0, n, s, h => h
  | m + 1, n, s, h => by
    rw [shR]
    refine shR_some x k w m (n + 1) _ ?_
    dsimp only
    split <;> omega
theorem shR_none {x : Fi} {k w : Int} (hc : checkB x = true) (hin : inReels x k = true) (hw : mostI x k 0 < w) : ∀ (m n : Nat) (s : Int × Int), n + m = 1000 → (shR x k w m n s).2 = s.2
  | 0, n, s, h => rfl
  | m + 1, n, s, h => by
    rw [shR, shR_none hc hin hw m (n + 1) _ (by omega)]
    have := most_mono hc hin (n := n) (by omega)
    dsimp only
    rw [if_neg (by omega)]

theorem shows_none {x : Fi} {k w : Int} (hc : checkB x = true) (hin : inReels x k = true) : (shR x k w 1000 0 (-1, -1)).2 < 0 ↔ mostI x k 0 < w := by
  constructor
  · intro h
    apply Classical.byContradiction
    intro hn
    have : 0 ≤ (shR x k w 1000 0 (-1, -1)).2 := by
      rw [show (1000 : Nat) = 999 + 1 from rfl, shR]
      refine shR_some x k w 999 1 _ ?_
      dsimp only
      rw [if_pos (by have := Int.not_lt.1 hn; simpa using this)]
      decide
    omega
  · intro h
    rw [shR_none hc hin h 1000 0 _ (by omega)]
    decide

theorem f32_sp (x0 : Fi) (x1 : Int) (x2 : Int) (hp : chkOK3 x0 x1 x2 = true) : ∃ (N : Nat) (r0 : AV), f32_T x0 x1 x2 N = some r0 ∧ wkAV r0 = .tup [enc .int ((ShowsI x0 x1 x2).1), enc .int ((ShowsI x0 x1 x2).2.1), enc .int ((ShowsI x0 x1 x2).2.2)] := by
  have h : ∀ r, askOK x0 r = true := fun _ => hp
  refine ⟨1001, ?_⟩
  have e : f32_T x0 x1 x2 1001 = (bif (!decide (((askedF x0 (isReelB x0 x1 && amid x2 1 1200)).2) = (0 : Int))) then
        some (.tup [.int (0 : Int), .int (0 : Int), .int ((askedF x0 (isReelB x0 x1 && amid x2 1 1200)).2)])
      else
        bif decide (((askedF x0 (isReelB x0 x1 && amid x2 1 1200)).1) = ((askedF x0 (isReelB x0 x1 && amid x2 1 1200)).1)) && ((inReels3 ((askedF x0 (isReelB x0 x1 && amid x2 1 1200)).1) x1 0)) then
          bif (decide (((wornS ((askedF x0 (isReelB x0 x1 && amid x2 1 1200)).1) x1 (0 : Int)).2) < x2)) then
            some (.tup [.int (0 : Int), .int (0 : Int), .int (4 : Int)])
          else
            f32_L0 x0 x1 x2 1001 1001 (-1 : Int) (-1 : Int) (0 : Int) ((askedF x0 (isReelB x0 x1 && amid x2 1 1200)).1) ((askedF x0 (isReelB x0 x1 && amid x2 1 1200)).1)
        else
          none) := by
    unfold f32_T f32_s
    simp only [h, cond_true]
    rw [show amid x1 (0 : Int) (w64 ((x0.1.length : Int) - (1 : Int))) = isReelB x0 x1 from rfl]
    cases isReelB x0 x1 <;> rfl
  rw [e]
  unfold ShowsI
  generalize hr : (isReelB x0 x1 && amid x2 1 1200) = r
  by_cases h0 : askedI x0 r = 0
  · obtain ⟨hc, rfl⟩ := asked_zero h0
    rw [Bool.and_eq_true] at hr
    have hin := isReel_in hc hr.1
    have hin3 : inReels3 x0 x1 0 = true := hin
    have e1 : (askedF x0 true) = (x0, 0) := by simp [askedF, h0]
    have hl := f32_loop x0 x1 x2 hin 1001 1000 0 (-1, -1) (by omega)
    have hl' : f32_L0 x0 x1 x2 1001 1001 (-1) (-1) 0 x0 x0 = _ := hl
    rw [e1, if_pos h0]
    simp only [decide_true, Bool.not_true, cond_false, hin3, Bool.and_true, cond_true, hl']
    by_cases hw : (wornS x0 x1 0).2 < x2
    · rw [if_pos hw, decide_eq_true hw]
      exact ⟨_, rfl, rfl⟩
    · rw [if_neg hw, decide_eq_false hw]
      exact ⟨_, rfl, rfl⟩
  · exact ⟨.tup [.int 0, .int 0, .int (askedI x0 r)], by simp [askedF, h0], by simp [wkAV, wkL, h0, enc]⟩
theorem f33_sp (x0 : Fi) (x1 : Int) (x2 : Int) (hp : chkOK3 x0 x1 x2 = true) : ∃ (N : Nat) (r0 : AV), f33_T x0 x1 x2 N = some r0 ∧ wkAV r0 = .tup [enc .int ((ShowsI x0 x1 x2).1), enc .int ((ShowsI x0 x1 x2).2.1), enc .int ((ShowsI x0 x1 x2).2.2)] := by
  have h : ∀ r, askOK x0 r = true := fun _ => hp
  refine ⟨1001, ?_⟩
  have e : f33_T x0 x1 x2 1001 = (bif (!decide (((askedI x0 (isReelB x0 x1 && amid x2 1 1200))) = (0 : Int))) then
        some (.tup [.int (0 : Int), .int (0 : Int), .int ((askedI x0 (isReelB x0 x1 && amid x2 1 1200)))])
      else f33_L0 x0 x1 x2 1001 1001 (-1 : Int) (-1 : Int) (0 : Int)) := by
    unfold f33_T f33_s
    simp only [h, cond_true]
    cases isReelB x0 x1 <;> rfl
  rw [e]
  unfold ShowsI
  generalize hr : (isReelB x0 x1 && amid x2 1 1200) = r
  by_cases h0 : askedI x0 r = 0
  · obtain ⟨hc, rfl⟩ := asked_zero h0
    rw [Bool.and_eq_true] at hr
    have hin := isReel_in hc hr.1
    have hl := f33_loop x0 x1 x2 hin 1001 1000 0 (-1, -1) (by omega)
    have hl' : f33_L0 x0 x1 x2 1001 1001 (-1) (-1) 0 = _ := hl
    rw [h0, if_pos rfl]
    simp only [decide_true, Bool.not_true, cond_false, hl']
    have hn := shows_none (w := x2) hc hin
    by_cases hw : (wornS x0 x1 0).2 < x2
    · rw [if_pos hw, decide_eq_true (hn.2 hw)]
      exact ⟨_, rfl, rfl⟩
    · rw [if_neg hw, decide_eq_false fun h => hw (hn.1 h)]
      exact ⟨_, rfl, rfl⟩
  · exact ⟨.tup [.int 0, .int 0, .int (askedI x0 r)], by simp [h0], by simp [wkAV, wkL, h0, enc]⟩

theorem f34_loop (x : Fi) (k w : Int) (hin : inReels x k = true) (N : Nat) : ∀ (m n : Nat) (s : Int × Int), n + m = 1000 → f34_L0 x k w N (m + 1) n x x s.1 s.2 = (bif decide ((seR x k w m n s).1 < 0) then some (.tup [.agg [.int 0, .int 0], .int 4]) else some (.tup [.agg [.int (seR x k w m n s).1, .int (seR x k w m n s).2], .int 0]))
  | 0, n, s, h => by
    have e : f34_L0 x k w N (0 + 1) n x x s.1 s.2 = f34_s0 x k w (f34_L0 x k w N 0) n x x s.1 s.2 := rfl
    rw [e]
    unfold f34_s0
    have h1 : decide ((n : Int) < 1000) = false := by simp; omega
    rw [h1]
    rfl
  | m + 1, n, s, h => by
    have e : f34_L0 x k w N (m + 1 + 1) n x x s.1 s.2 = f34_s0 x k w (f34_L0 x k w N (m + 1)) n x x s.1 s.2 := rfl
    rw [e]
    unfold f34_s0
    have h1 : decide ((n : Int) < 1000) = true := by simp; omega
    have h2 : (decide (x = x) && inReels3 x k n) = true := by simpa [inReels3] using hin
    rw [h1, h2, w64_succ (n := 1000) (by omega) (by omega), seR, wornS]
    simp only [cond_true]
    have hl := fun s => f34_loop x k w hin N m (n + 1) s (by omega)
    cases c1 : amid w (leastI x k n) (mostI x k n) <;> by_cases c2 : s.1 < 0 <;> simp only [c2, decide_true, decide_false, cond_true, cond_false, if_true, if_false, Bool.not_true, Bool.not_false, Bool.false_eq_true]
    · exact hl s
    · exact hl s
    · exact hl ((n : Int), (n : Int))
    · exact hl (s.1, (n : Int))
theorem f35_loop (x : Fi) (k w : Int) (hin : inReels x k = true) (N : Nat) : ∀ (m n : Nat) (s : Int × Int), n + m = 1000 → f35_L0 x k w N (m + 1) n s.1 s.2 = (bif decide ((seR x k w m n s).1 < 0) then some (.tup [.agg [.int 0, .int 0], .int 4]) else some (.tup [.agg [.int (seR x k w m n s).1, .int (seR x k w m n s).2], .int 0]))
  | 0, n, s, h => by
    have e : f35_L0 x k w N (0 + 1) n s.1 s.2 = f35_s0 x k w (f35_L0 x k w N 0) n s.1 s.2 := rfl
    rw [e]
    unfold f35_s0
    have h1 : decide ((n : Int) ≤ 999) = false := by simp; omega
    rw [h1]
    rfl
  | m + 1, n, s, h => by
    have e : f35_L0 x k w N (m + 1 + 1) n s.1 s.2 = f35_s0 x k w (f35_L0 x k w N (m + 1)) n s.1 s.2 := rfl
    rw [e]
    unfold f35_s0
    have h1 : decide ((n : Int) ≤ 999) = true := by simp; omega
    have h2 : inReels3 x k n = true := hin
    rw [h1, h2, w64_succ (n := 1000) (by omega) (by omega), seR, wornS]
    simp only [cond_true, holds]
    have hl := fun s => f35_loop x k w hin N m (n + 1) s (by omega)
    cases c1 : amid w (leastI x k n) (mostI x k n) <;> by_cases c2 : s.1 < 0 <;> simp only [c2, decide_true, decide_false, cond_true, cond_false, if_true, if_false, Bool.not_true, Bool.not_false, Bool.false_eq_true]
    · exact hl s
    · exact hl s
    · exact hl ((n : Int), (n : Int))
    · exact hl (s.1, (n : Int))
theorem f34_sp (x0 : Fi) (x1 : Int) (x2 : Int) (hp : chkOK3 x0 x1 x2 = true) : ∃ (N : Nat) (r0 : AV), f34_T x0 x1 x2 N = some r0 ∧ wkAV r0 = .tup [enc tSpan ((SeenI x0 x1 x2).1), enc .int ((SeenI x0 x1 x2).2)] := by
  have h : ∀ r, askOK x0 r = true := fun _ => hp
  refine ⟨1001, ?_⟩
  have e : f34_T x0 x1 x2 1001 = (bif (!decide (((askedF x0 (isReelB x0 x1 && amid x2 0 1200)).2) = (0 : Int))) then
        some (.tup [.agg [.int (0 : Int), .int (0 : Int)], .int ((askedF x0 (isReelB x0 x1 && amid x2 0 1200)).2)])
      else
        f34_L0 x0 x1 x2 1001 1001 (0 : Int) ((askedF x0 (isReelB x0 x1 && amid x2 0 1200)).1) ((askedF x0 (isReelB x0 x1 && amid x2 0 1200)).1) (-1) (-1)) := by
    unfold f34_T f34_s
    simp only [h, cond_true]
    rw [show amid x1 (0 : Int) (w64 ((x0.1.length : Int) - (1 : Int))) = isReelB x0 x1 from rfl]
    cases isReelB x0 x1 <;> rfl
  rw [e]
  unfold SeenI
  generalize hr : (isReelB x0 x1 && amid x2 0 1200) = r
  by_cases h0 : askedI x0 r = 0
  · obtain ⟨hc, rfl⟩ := asked_zero h0
    rw [Bool.and_eq_true] at hr
    have hin := isReel_in hc hr.1
    have e1 : (askedF x0 true) = (x0, 0) := by simp [askedF, h0]
    have hl := f34_loop x0 x1 x2 hin 1001 1000 0 (-1, -1) (by omega)
    have hl' : f34_L0 x0 x1 x2 1001 1001 0 x0 x0 (-1) (-1) = _ := hl
    rw [e1, if_pos h0]
    simp only [decide_true, Bool.not_true, cond_false, hl']
    by_cases hw : (seR x0 x1 x2 1000 0 (-1, -1)).1 < 0
    · rw [if_pos hw, decide_eq_true hw]
      exact ⟨_, rfl, rfl⟩
    · rw [if_neg hw, decide_eq_false hw]
      exact ⟨_, rfl, rfl⟩
  · exact ⟨.tup [.agg [.int 0, .int 0], .int (askedI x0 r)], by simp [askedF, h0], by simp [wkAV, wkL, h0, enc, encT]⟩
theorem f35_sp (x0 : Fi) (x1 : Int) (x2 : Int) (hp : chkOK3 x0 x1 x2 = true) : ∃ (N : Nat) (r0 : AV), f35_T x0 x1 x2 N = some r0 ∧ wkAV r0 = .tup [enc tSpan ((SeenI x0 x1 x2).1), enc .int ((SeenI x0 x1 x2).2)] := by
  have h : ∀ r, askOK x0 r = true := fun _ => hp
  refine ⟨1001, ?_⟩
  have e : f35_T x0 x1 x2 1001 = (bif (!decide (((askedI x0 (isReelB x0 x1 && amid x2 0 1200))) = (0 : Int))) then
        some (.tup [.agg [.int (0 : Int), .int (0 : Int)], .int ((askedI x0 (isReelB x0 x1 && amid x2 0 1200)))])
      else f35_L0 x0 x1 x2 1001 1001 (0 : Int) (-1 : Int) (-1 : Int)) := by
    unfold f35_T f35_s
    simp only [h, cond_true]
    cases isReelB x0 x1 <;> rfl
  rw [e]
  unfold SeenI
  generalize hr : (isReelB x0 x1 && amid x2 0 1200) = r
  by_cases h0 : askedI x0 r = 0
  · obtain ⟨hc, rfl⟩ := asked_zero h0
    rw [Bool.and_eq_true] at hr
    have hin := isReel_in hc hr.1
    have hl := f35_loop x0 x1 x2 hin 1001 1000 0 (-1, -1) (by omega)
    have hl' : f35_L0 x0 x1 x2 1001 1001 0 (-1) (-1) = _ := hl
    rw [h0, if_pos rfl]
    simp only [decide_true, Bool.not_true, cond_false, hl']
    by_cases hw : (seR x0 x1 x2 1000 0 (-1, -1)).1 < 0
    · rw [if_pos hw, decide_eq_true hw]
      exact ⟨_, rfl, rfl⟩
    · rw [if_neg hw, decide_eq_false hw]
      exact ⟨_, rfl, rfl⟩
  · exact ⟨.tup [.agg [.int 0, .int 0], .int (askedI x0 r)], by simp [h0], by simp [wkAV, wkL, h0, enc, encT]⟩

end Ev
end Go.Proofs.YtidnikjkpbmhhaaDoor
