/- The iterator of orders: what its walk answers, in plain words. -/
import Derived.Test.YtidnikjkpbmhhaaDoorGon
set_option linter.unusedVariables false
set_option linter.unusedSimpArgs false
namespace Go.Proofs.YtidnikjkpbmhhaaDoor
namespace Ev

theorem w64_small {n : Int} (h0 : -9223372036854775808 ≤ n) (h1 : n < 9223372036854775808) : w64 n = n := by
  unfold w64 IntKind.wrap
  simp [IntKind.bits, IntKind.signed]
  omega

theorem count_set {l : List Bool} {k : Nat} (h : l.getD k false = true) : (l.set k false).count true + 1 = l.count true := by
  induction l generalizing k with
  | nil => simp at h
  | cons b l ih =>
    cases k with
    | zero =>
      simp at h
      subst h
      simp [List.count_cons]
    | succ k =>
      have := ih (k := k) (by simpa using h)
      simp only [List.set_cons_succ, List.count_cons]
      omega

/-- Enough rounds come to the same. -/
theorem ordsF_fuel (x : Fi) : ∀ (n m : Nat) (left : List Bool) (e : Sp), left.count true < n → left.count true < m → ordsF x n left e = ordsF x m left e
  | 0, m, left, e, h, _ => by omega
  | n + 1, 0, left, e, _, h => by omega
  | n + 1, m + 1, left, e, h, h' => by
    simp only [ordsF]
    split
    · rfl
    · congr 1
      funext k
      split
      · rename_i hk
        have := count_set hk.1
        rw [ordsF_fuel x n m _ _ (by omega) (by omega)]
      · rfl

theorem okSeq_append (ok : List AV → List Int → Bool) : ∀ (tr : List AV) (l m : List (List Int)), okSeq ok tr (l ++ m) = (okSeq ok tr l && okSeq ok (tr ++ l.map (enc tInts)) m)
  | tr, [], m => by simp [okSeq]
  | tr, y :: l, m => by
    simp only [List.cons_append, okSeq, okSeq_append ok _ l m, Bool.and_assoc, List.map_cons]
    rw [List.append_assoc]
    rfl

theorem ordsF_succ (x : Fi) (n : Nat) (left : List Bool) (e : Sp) : ordsF x (n + 1) left e =
    if left = unusedB then [[]] else (List.range x.1.length).flatMap fun k => if left.getD k false = true ∧ (followsF x k e).2 = true then (ordsF x n (left.set k false) (followsF x k e).1).map fun l => (k : Int) :: l else [] := rfl

/-- What one reel contributes. -/
def onC (m : Nat) (x : Fi) (left : List Bool) (e : Sp) (k : Nat) : List (List Int) :=
  if left.getD k false = true ∧ (followsF x k e).2 = true then (ordsF x m (left.set k false) (followsF x k e).1).map fun l => (k : Int) :: l else []

theorem ordsF_eq {x : Fi} {m : Nat} {left : List Bool} {e : Sp} (h : left.count true < m) (hu : left ≠ unusedB) : ordsF x m left e = (List.range x.1.length).flatMap (onC m x left e) := by
  obtain ⟨n, rfl⟩ : ∃ n, m = n + 1 := ⟨m - 1, by omega⟩
  have h0 := ordsF_succ x n left e
  rw [if_neg hu] at h0
  refine h0.trans ?_
  congr 1
  funext k
  unfold onC
  split
  · rename_i hk
    have := count_set hk.1
    rw [ordsF_fuel x n (n + 1) _ _ (by omega) (by omega)]
  · rfl


def tk {α : Type} (b : Bool) (l : List α) : List α := if b = true then l else l.take 1

theorem onL_eq (b : Bool) (d : OnD) (a0 : List Int) (a1 : List Bool) (a2 : Sp) : onL b d a0 a1 a2 = tk b ((ordsF d.2.1 7 a1 a2).map fun l => a0 ++ l) := by
  unfold onL tk
  cases b <;> simp

/-- What is left from a reel on. -/
def remC (x : Fi) (left : List Bool) (e : Sp) (k j : Nat) : List (List Int) := (List.range' k j).flatMap (onC 7 x left e)

theorem remC_succ (x : Fi) (left : List Bool) (e : Sp) (k j : Nat) : remC x left e k (j + 1) = onC 7 x left e k ++ remC x left e (k + 1) j := by
  unfold remC
  rw [List.range'_succ, List.flatMap_cons]

theorem onC_map {x : Fi} {left : List Bool} {e : Sp} {k : Nat} (a0 : List Int) (h : left.getD k false = true ∧ (followsF x k e).2 = true) : (onC 7 x left e k).map (fun l => a0 ++ l) = (ordsF x 7 (left.set k false) (followsF x k e).1).map fun l => (a0 ++ [(k : Int)]) ++ l := by
  unfold onC
  rw [if_pos h, List.map_map]
  congr 1
  funext l
  simp

section
variable {okP : Int → List AV → List Int → Bool} {b : Bool} {fu : Nat} {a0 : List Int} {left : List Bool} {e : Sp} {l : Int} {x : Fi} {N : Nat}

/-- One round, in plain words. -/
theorem on_round (hc : left.count true < fu + 1) (h6 : left.count true ≤ 6) (ha : a0.length + left.count true ≤ 6) (hx : allOK x = true) {k : Nat} (hk : k < x.1.length) (K : Int → List AV → Option (AV × List AV)) (tr : List AV) (rest : List (List Int))
    (hok : okSeq (okP l) tr (tk b ((onC 7 x left e k ++ rest).map fun l => a0 ++ l)) = true) :
    f91_s1 okP b fu a0 left e l x x K k tr = (if b = false ∧ onC 7 x left e k ≠ [] then some (.bool false, tr ++ (tk b ((onC 7 x left e k).map fun l => a0 ++ l)).map (enc tInts)) else K (w64 ((k : Int) + 1)) (tr ++ (tk b ((onC 7 x left e k).map fun l => a0 ++ l)).map (enc tInts))) ∨
    (f91_s1 okP b fu a0 left e l x x K k tr = K (w64 ((k : Int) + 1)) tr ∧ onC 7 x left e k = []) := by
  have hl6 : x.1.length ≤ 6 := Nat.le_of_ble_eq_true hx
  have hk6 : (k : Int) < 6 := by omega
  have hk0 : (0 : Int) ≤ (k : Int) := by omega
  have hkl : (k : Int) < (x.1.length : Int) := by omega
  unfold f91_s1
  have t1 : decide ((k : Int) < (x.1.length : Int)) = true := by simp [hkl]
  have t2 : (decide ((0 : Int) ≤ (k : Int)) && decide ((k : Int) < 6)) = true := by simp [hk0, hk6]
  rw [t1, t2]
  simp only [cond_true, Int.toNat_natCast]
  cases hb : left.getD k false with
  | false =>
    refine .inr ⟨by simp, ?_⟩
    unfold onC
    rw [if_neg (by rw [hb]; simp)]
  | true =>
    have t3 : followsOK x (k : Int) e = true := by simp [followsOK, inReels, hk0, hkl]
    simp only [Bool.not_true, cond_false, t3, decide_true, Bool.and_self, cond_true]
    cases hf : (followsF x (k : Int) e).2 with
    | false =>
      refine .inr ⟨by simp, ?_⟩
      unfold onC
      rw [if_neg (by rw [hf]; simp)]
    | true =>
      have hboth : left.getD k false = true ∧ (followsF x (k : Int) e).2 = true := ⟨hb, hf⟩
      have hcs := count_set hb
      have t4 : (decide ((a0.length : Int) = (a0.length : Int)) && (decide ((0 : Int) ≤ (a0.length : Int)) && decide ((a0.length : Int) ≤ (a0.length : Int)))) = true := by simp
      have t5 : (true && roomy (a0.take a0.length).length [(k : Int)].length 8) = true := by
        simp only [Bool.true_and, List.take_length, List.length_cons, List.length_nil, roomy]
        exact Nat.ble_eq_true_of_le (by omega)
      have hC := onC_map (x := x) (left := left) (e := e) (k := k) a0 hboth
      have hon : onL b (l, x, x) (a0.take a0.length ++ [(k : Int)]) (left.set k false) (followsF x (k : Int) e).1 = tk b ((onC 7 x left e k).map fun l => a0 ++ l) := by
        rw [onL_eq, hC, List.take_length]
      have hok1 : okSeq (okP l) tr (tk b ((onC 7 x left e k).map fun l => a0 ++ l)) = true := by
        unfold tk at hok ⊢
        cases b with
        | true =>
          simp only [if_true, List.map_append, okSeq_append, Bool.and_eq_true] at hok ⊢
          exact hok.1
        | false =>
          simp only [Bool.false_eq_true, if_false] at hok ⊢
          cases hq : (onC 7 x left e k) with
          | nil => rfl
          | cons y ys =>
            rw [hq] at hok
            simpa using hok
      have t6 : onT okP b fu tr (l, x, x) (a0.take a0.length ++ [(k : Int)]) (left.set k false) (followsF x (k : Int) e).1 = true := by
        unfold onT
        rw [hon, hok1]
        simp only [Bool.and_eq_true, decide_eq_true_eq, Bool.and_true]
        refine ⟨by omega, by omega, ?_, trivial, hx⟩
        simp only [List.length_append, List.take_length, List.length_cons, List.length_nil]
        omega
      refine .inl ?_
      have hR : onR b (l, x, x) (left.set k false) (followsF x (k : Int) e).1 = (b || (onC 7 x left e k).isEmpty) := by
        unfold onR onC
        rw [if_pos hboth]
        simp
      have hI : onI b (l, x, x) (a0.take a0.length ++ [(k : Int)]) (left.set k false) (followsF x (k : Int) e).1 = (tk b ((onC 7 x left e k).map fun l => a0 ++ l)).map (enc tInts) := by
        unfold onI
        rw [hon]
      simp only [Bool.not_true, cond_false, t4, cond_true, t5, t6, hR, hI]
      cases b with
      | true => simp
      | false =>
        cases hq : onC 7 x left e k with
        | nil => simp
        | cons y ys => simp

theorem on_shapes : ∀ (n : Nat) (v : Int), f91_L0 okP b fu a0 left e l x x N n v = f91_L1 okP b fu a0 left e l x x N n v []
  | 0, v => rfl
  | n + 1, v => by
    show f91_s0 okP b fu a0 left e l x x (f91_L0 okP b fu a0 left e l x x N n) (f91_L1 okP b fu a0 left e l x x N n) v = f91_s1 okP b fu a0 left e l x x (f91_L1 okP b fu a0 left e l x x N n) v []
    unfold f91_s0 f91_s1
    simp only [on_shapes n]

theorem on_loop (hc : left.count true < fu + 1) (h6 : left.count true ≤ 6) (ha : a0.length + left.count true ≤ 6) (hx : allOK x = true) : ∀ (j k : Nat) (tr : List AV) (n : Nat), k + j = x.1.length → j < n → okSeq (okP l) tr (tk b ((remC x left e k j).map fun l => a0 ++ l)) = true →
    f91_L1 okP b fu a0 left e l x x N n k tr = some (.bool (b || (remC x left e k j).isEmpty), tr ++ (tk b ((remC x left e k j).map fun l => a0 ++ l)).map (enc tInts))
  | 0, k, tr, n, hk, hn, hok => by
    obtain ⟨n, rfl⟩ : ∃ m, n = m + 1 := ⟨n - 1, by omega⟩
    show f91_s1 okP b fu a0 left e l x x (f91_L1 okP b fu a0 left e l x x N n) k tr = _
    unfold f91_s1
    have : decide ((k : Int) < (x.1.length : Int)) = false := by simp; omega
    rw [this]
    have hr : remC x left e k 0 = [] := rfl
    rw [hr]
    simp [tk]
  | j + 1, k, tr, n, hk, hn, hok => by
    obtain ⟨n, rfl⟩ : ∃ m, n = m + 1 := ⟨n - 1, by omega⟩
    rw [remC_succ] at hok ⊢
    have hw : w64 ((k : Int) + 1) = ((k + 1 : Nat) : Int) := by
      have : x.1.length ≤ 6 := Nat.le_of_ble_eq_true hx
      rw [w64_small (by omega) (by omega)]
      rfl
    show f91_s1 okP b fu a0 left e l x x (f91_L1 okP b fu a0 left e l x x N n) k tr = _
    have ih := on_loop hc h6 ha hx j (k + 1)
    rcases on_round (e := e) (l := l) hc h6 ha hx (k := k) (by omega) (f91_L1 okP b fu a0 left e l x x N n) tr (remC x left e (k + 1) j) hok with h | ⟨h, hz⟩
    · rw [h]
      cases b with
      | true =>
        rw [if_neg (by simp), hw]
        have hok' : okSeq (okP l) (tr ++ (tk true ((onC 7 x left e k).map fun l => a0 ++ l)).map (enc tInts)) (tk true ((remC x left e (k + 1) j).map fun l => a0 ++ l)) = true := by
          simp only [tk, if_true, List.map_append, okSeq_append, Bool.and_eq_true] at hok ⊢
          exact hok.2
        rw [ih _ n (by omega) (by omega) hok']
        simp [tk, List.map_append]
      | false =>
        cases hq : onC 7 x left e k with
        | nil =>
          rw [if_neg (by simp), hw]
          rw [hq] at hok
          have := ih tr n (by omega) (by omega) (by simpa using hok)
          simp only [tk, List.map_nil, Bool.false_eq_true, if_false, List.take_nil, List.append_nil, List.nil_append] at this ⊢
          exact this
        | cons y ys =>
          rw [if_pos ⟨rfl, by simp⟩]
          simp [tk]
    · rw [h, hz, hw]
      rw [hz] at hok
      have := ih tr n (by omega) (by omega) (by simpa using hok)
      simpa using this

/-- **What the iterator tells, and what it says at its end.** -/
theorem on_sp (h : onT okP b (fu + 1) [] (l, x, x) a0 left e = true) : ∃ N, f91_T okP b fu a0 left e l x x N = some (.bool (onR b (l, x, x) left e), onI b (l, x, x) a0 left e) := by
  unfold onT at h
  simp only [Bool.and_eq_true, decide_eq_true_eq] at h
  obtain ⟨hc, h6, ha, _, hx, hok⟩ := h
  refine ⟨x.1.length + 1, ?_⟩
  unfold f91_T f91_s
  simp only [decide_true, cond_true]
  have hI : onI b (l, x, x) a0 left e = (tk b ((ordsF x 7 left e).map fun l => a0 ++ l)).map (enc tInts) := by
    unfold onI
    rw [onL_eq]
  rw [onL_eq] at hok
  by_cases hu : left = unusedB
  · have hq : ∃ m, m + 1 = 7 := ⟨6, rfl⟩
    obtain ⟨m, hm⟩ := hq
    have h0 : ordsF x 7 left e = [[]] := by
      rw [← hm, ordsF_succ, if_pos hu]
    have hd : decide (left = unusedB) = true := by simp [hu]
    rw [hI]
    unfold onR
    simp only at hok ⊢
    rw [h0] at hok ⊢
    rw [hd]
    simp only [cond_true]
    have hk : okP l [] a0 = true := by
      cases b <;> simpa [tk, okSeq] using hok
    rw [hk]
    cases b <;> simp [tk]
  · have hd : decide (left = unusedB) = false := by simp [hu]
    rw [hd]
    simp only [cond_false]
    have h0 : ordsF x 7 left e = remC x left e 0 x.1.length := by
      rw [ordsF_eq (by omega) hu, List.range_eq_range']
      rfl
    rw [on_shapes]
    rw [hI]
    unfold onR
    simp only at hok ⊢
    rw [h0] at hok ⊢
    have := on_loop (e := e) (l := l) (N := x.1.length + 1) hc h6 ha hx x.1.length 0 [] (x.1.length + 1) (by omega) (by omega) hok
    simpa using this
end

end Ev
end Go.Proofs.YtidnikjkpbmhhaaDoor
