/- Comparisons; all operations; guards and choices. -/
import Derived.Test.YtidnikjkpbmhhaaDoorStep5
set_option linter.unusedVariables false
namespace Go.Proofs.YtidnikjkpbmhhaaDoor
namespace Ev

variable {E : Env} {V0 : Nat → Nat → Prop} {io0 : Io} {W0 : World} {C : Cx} {s : St} {a : Act} {W : World} {X : Ctx} {o : Oper}

theorem map_and {o : Option Bool} {a b : Bool} : (o.map (b && ·)).map (a && ·) = o.map ((a && b) && ·) := by
  cases o <;> simp [Bool.and_assoc]

mutual
theorem eqAV_vals {TR : TokRel} : ∀ {u v : AV} {r : Bool} {xs ys : List Value}, eqAV u v = some r → Rel TR C W u xs → Rel TR C W v ys → ∀ xs' ys', eqVals (xs ++ xs') (ys ++ ys') = (eqVals xs' ys').map (r && ·)
  | .int a, v, r, xs, ys, h, h1, h2, xs', ys' => by
    cases v <;> simp only [eqAV] at h <;> first | (cases h; done) | skip
    cases h
    simp only [Rel] at h1 h2
    subst h1 h2
    rfl
  | .bool a, v, r, xs, ys, h, h1, h2, xs', ys' => by
    cases v <;> simp only [eqAV] at h <;> first | (cases h; done) | skip
    cases h
    simp only [Rel] at h1 h2
    subst h1 h2
    rfl
  | .agg l, v, r, xs, ys, h, h1, h2, xs', ys' => by
    cases v <;> simp only [eqAV] at h <;> first | (cases h; done) | skip
    simp only [Rel] at h1 h2
    exact eqAL_vals h h1 h2 xs' ys'
  | .poison, v, r, xs, ys, h, h1, h2, xs', ys' => by simp [eqAV] at h
  | .undef, v, r, xs, ys, h, h1, h2, xs', ys' => by simp [eqAV] at h
  | .arr .., v, r, xs, ys, h, h1, h2, xs', ys' => by simp [eqAV] at h
  | .sl .., v, r, xs, ys, h, h1, h2, xs', ys' => by simp [eqAV] at h
  | .tup _, v, r, xs, ys, h, h1, h2, xs', ys' => by simp [eqAV] at h
  | .ref .., v, r, xs, ys, h, h1, h2, xs', ys' => by simp [eqAV] at h
  | .cref .., v, r, xs, ys, h, h1, h2, xs', ys' => by simp [eqAV] at h
  | .fn .., v, r, xs, ys, h, h1, h2, xs', ys' => by simp [eqAV] at h
  | .map _, v, r, xs, ys, h, h1, h2, xs', ys' => by simp [eqAV] at h
  | .tok .., v, r, xs, ys, h, h1, h2, xs', ys' => by simp [eqAV] at h
theorem eqAL_vals {TR : TokRel} : ∀ {l m : List AV} {r : Bool} {xs ys : List Value}, eqAL l m = some r → RelL TR C W l xs → RelL TR C W m ys → ∀ xs' ys', eqVals (xs ++ xs') (ys ++ ys') = (eqVals xs' ys').map (r && ·)
  | [], [], r, xs, ys, h, h1, h2, xs', ys' => by
    simp only [eqAL] at h
    cases h
    simp only [RelL] at h1 h2
    subst h1 h2
    simp only [List.nil_append]
    cases eqVals xs' ys' <;> simp
  | x :: l, y :: m, r, xs, ys, h, h1, h2, xs', ys' => by
    simp only [eqAL] at h
    split at h
    · rename_i p q hp hq
      cases h
      simp only [RelL] at h1 h2
      obtain ⟨c, d, rfl, _, h3, h4⟩ := h1
      obtain ⟨c', d', rfl, _, h5, h6⟩ := h2
      rw [List.append_assoc, List.append_assoc, eqAV_vals hp h3 h5, eqAL_vals hq h4 h6, map_and]
    · cases h
  | [], _ :: _, r, xs, ys, h, h1, h2, xs', ys' => by simp [eqAL] at h
  | _ :: _, [], r, xs, ys, h, h1, h2, xs', ys' => by simp [eqAL] at h
end

theorem eqInts {V : Nat → Nat → Prop} : ∀ {xs ys : List Int} {cs ds : List Value}, xs.length = ys.length → Flat (CRel V W .int) xs cs → Flat (CRel V W .int) ys ds → eqVals cs ds = some (decide (xs = ys))
  | [], [], cs, ds, _, h1, h2 => by
    have e1 : cs = [] := h1
    have e2 : ds = [] := h2
    subst e1 e2
    simp [eqVals]
  | x :: xs, y :: ys, cs, ds, hl, ⟨c, d, e, h3, h4⟩, ⟨c', d', e', h5, h6⟩ => by
    have e1 : c = [.int .i64 x] := h3
    have e2 : c' = [.int .i64 y] := h5
    subst e e' e1 e2
    simp only [List.cons_append, List.nil_append, eqVals, eqInts (by simpa using hl) h4 h6, Option.map_some, List.cons.injEq, Bool.decide_and]
  | [], _ :: _, _, _, hl, _, _ => by simp at hl
  | _ :: _, [], _, _, hl, _, _ => by simp at hl
theorem eqBools {V : Nat → Nat → Prop} : ∀ {xs ys : List Bool} {cs ds : List Value}, xs.length = ys.length → Flat (CRel V W .bool) xs cs → Flat (CRel V W .bool) ys ds → eqVals cs ds = some (decide (xs = ys))
  | [], [], cs, ds, _, h1, h2 => by
    have e1 : cs = [] := h1
    have e2 : ds = [] := h2
    subst e1 e2
    simp [eqVals]
  | x :: xs, y :: ys, cs, ds, hl, ⟨c, d, e, h3, h4⟩, ⟨c', d', e', h5, h6⟩ => by
    have e1 : c = [.bool x] := h3
    have e2 : c' = [.bool y] := h5
    subst e e' e1 e2
    simp only [List.cons_append, List.nil_append, eqVals, eqBools (by simpa using hl) h4 h6, Option.map_some, List.cons.injEq, Bool.decide_and]
    congr 2
  | [], _ :: _, _, _, hl, _, _ => by simp at hl
  | _ :: _, [], _, _, hl, _, _ => by simp at hl

theorem eqArr_vals {V : Nat → Nat → Prop} {t : Ty} {xs ys : List t.den} {cs ds : List Value} {r : Bool} (h : eqArr t xs ys = some r) (hl : xs.length = ys.length) (h1 : Flat (CRel V W t) xs cs) (h2 : Flat (CRel V W t) ys ds) : eqVals cs ds = some r := by
  cases t with
  | int =>
    simp only [eqArr] at h
    cases h
    exact eqInts hl h1 h2
  | bool =>
    simp only [eqArr] at h
    cases h
    exact eqBools hl h1 h2
  | _ => simp [eqArr] at h

theorem kindsV_append : ∀ (xs ys : List Value), kindsV (xs ++ ys) = match kindsV xs, kindsV ys with | some a, some b => some (a ++ b) | _, _ => none
  | [], ys => by
    simp only [List.nil_append, kindsV]
    cases kindsV ys <;> rfl
  | x :: xs, ys => by
    have ih := kindsV_append xs ys
    cases x with
    | int k n =>
      cases k <;> simp only [List.cons_append, kindsV] <;> first
        | rfl
        | (rw [ih]
           cases kindsV xs <;> cases kindsV ys <;> rfl)
    | bool b =>
      simp only [List.cons_append, kindsV, ih]
      cases kindsV xs <;> cases kindsV ys <;> rfl
    | _ => simp only [List.cons_append, kindsV]

theorem kinds_flat {V : Nat → Nat → Prop} : ∀ {xs : List Int} {cs : List Value}, Flat (CRel V W .int) xs cs → kindsV cs = some (List.replicate xs.length false)
  | [], cs, h => by
    have e : cs = [] := h
    subst e
    rfl
  | x :: xs, cs, ⟨c, d, e, h1, h2⟩ => by
    have e1 : c = [.int .i64 x] := h1
    subst e e1
    simp [kindsV, kinds_flat h2, List.replicate_succ]
theorem kinds_flatB {V : Nat → Nat → Prop} : ∀ {xs : List Bool} {cs : List Value}, Flat (CRel V W .bool) xs cs → kindsV cs = some (List.replicate xs.length true)
  | [], cs, h => by
    have e : cs = [] := h
    subst e
    rfl
  | x :: xs, cs, ⟨c, d, e, h1, h2⟩ => by
    have e1 : c = [.bool x] := h1
    subst e e1
    simp [kindsV, kinds_flatB h2, List.replicate_succ]

mutual
theorem kinds_rel {TR : TokRel} : ∀ {v : AV} {cs : List Value} {ks : List Bool}, kindsAV v = some ks → Rel TR C W v cs → kindsV cs = some ks
  | .int n, cs, ks, hk, h => by
    simp only [Rel] at h
    subst h
    simpa [kindsV, kindsAV] using hk
  | .bool n, cs, ks, hk, h => by
    simp only [Rel] at h
    subst h
    simpa [kindsV, kindsAV] using hk
  | .agg l, cs, ks, hk, h => by
    simp only [Rel] at h
    simp only [kindsAV] at hk
    exact kindsL_rel hk h
  | .arr t n xs, cs, ks, hk, h => by
    simp only [Rel] at h
    obtain ⟨h1, h2⟩ := h
    cases t with
    | int =>
      simp only [kindsAV, Option.some.injEq] at hk
      subst hk h1
      exact kinds_flat h2
    | bool =>
      simp only [kindsAV, Option.some.injEq] at hk
      subst hk h1
      exact kinds_flatB h2
    | _ => simp [kindsAV] at hk
  | .poison, cs, ks, hk, h => by simp [kindsAV] at hk
  | .undef, cs, ks, hk, h => by simp [kindsAV] at hk
  | .sl .., cs, ks, hk, h => by simp [kindsAV] at hk
  | .tup _, cs, ks, hk, h => by simp [kindsAV] at hk
  | .ref .., cs, ks, hk, h => by simp [kindsAV] at hk
  | .cref .., cs, ks, hk, h => by simp [kindsAV] at hk
  | .fn .., cs, ks, hk, h => by simp [kindsAV] at hk
  | .map _, cs, ks, hk, h => by simp [kindsAV] at hk
  | .tok .., cs, ks, hk, h => by simp [kindsAV] at hk
theorem kindsL_rel {TR : TokRel} : ∀ {l : List AV} {cs : List Value} {ks : List Bool}, kindsL l = some ks → RelL TR C W l cs → kindsV cs = some ks
  | [], cs, ks, hk, h => by
    simp only [RelL] at h
    subst h
    simpa [kindsV, kindsL] using hk
  | v :: l, cs, ks, hk, h => by
    simp only [RelL] at h
    obtain ⟨c, d, rfl, _, h1, h2⟩ := h
    simp only [kindsL] at hk
    split at hk
    · rename_i a b ha hb
      cases hk
      rw [kindsV_append, kinds_rel ha h1, kindsL_rel hb h2]
    · cases hk
end

theorem run_eqAgg {t : Nat} {i : Ti} (hi : TiOK E.toBase t i) (he : i.eq ≠ []) {xs ys : List Value} {r : Bool} (hx : kindsV xs = some i.eq) (hy : kindsV ys = some i.eq) (h : eqVals xs ys = some r) (x y : Operand) :
    (do eqGuard .eql t x y (.agg xs.toArray) (.agg ys.toArray); binOp .eql t (.agg xs.toArray) (.agg ys.toArray) : Sem Value).run E.P W = .ok (.bool r) W ∧
    (do eqGuard .neq t x y (.agg xs.toArray) (.agg ys.toArray); binOp .neq t (.agg xs.toArray) (.agg ys.toArray) : Sem Value).run E.P W = .ok (.bool (!r)) W := by
  obtain ⟨h1, h2⟩ := hi.eq he
  have := h2 xs ys r W hx hy h
  constructor <;> simp [eqGuard, h1, binOp, this]

theorem run_equal_bool {t : Nat} (hu : E.P.underlying t = some .bool) (n m : Bool) : (Op.equal t (.bool n) (.bool m)).run E.P W = .ok (n == m) W := by
  have : ∀ d, (Op.equalIn (d + 1) t (.bool n) (.bool m)).run E.P W = .ok (n == m) W := fun d => by
    simp only [Op.equalIn, Sem.run_bind, run_underlying hu, Result.andThen_ok, Sem.run_pure]
  exact this 9999
theorem run_equal_nil {t e : Nat} (hu : E.P.underlying t = some (.slice e)) (n c : Nat) : (Op.equal t (.slice none n c) (.slice none 0 0)).run E.P W = .ok true W := by
  have : ∀ d, (Op.equalIn (d + 1) t (.slice none n c) (.slice none 0 0)).run E.P W = .ok true W := fun d => by
    simp only [Op.equalIn, Sem.run_bind, run_underlying hu, Result.andThen_ok, Sem.run_pure, Option.isNone_none]
  exact this 9999
theorem run_equal_some {t e : Nat} (hu : E.P.underlying t = some (.slice e)) (ad : Addr) (n c : Nat) : (Op.equal t (.slice (some ad) n c) (.slice none 0 0)).run E.P W = .ok false W := by
  have : ∀ d, (Op.equalIn (d + 1) t (.slice (some ad) n c) (.slice none 0 0)).run E.P W = .ok false W := fun d => by
    simp only [Op.equalIn, Sem.run_bind, run_underlying hu, Result.andThen_ok, Sem.run_pure]
  exact this 9999

theorem eqAV_kinds {u w : AV} {r : Bool} (h : eqAV u w = some r) : (∃ n m, u = .int n ∧ w = .int m) ∨ (∃ n m, u = .bool n ∧ w = .bool m) ∨ (∃ l m, u = .agg l ∧ w = .agg m) := by
  cases u with
  | int n =>
    cases w with
    | int m => exact .inl ⟨_, _, rfl, rfl⟩
    | _ => simp [eqAV] at h
  | bool n =>
    cases w with
    | bool m => exact .inr (.inl ⟨_, _, rfl, rfl⟩)
    | _ => simp [eqAV] at h
  | agg n =>
    cases w with
    | agg m => exact .inr (.inr ⟨_, _, rfl, rfl⟩)
    | _ => simp [eqAV] at h
  | _ => simp [eqAV] at h

theorem binAV_kinds {op : BinOp} {u w : AV} {b : Bool} {v : AV} (h : binAV op u w = some (b, v)) : (∃ n m, u = .int n ∧ w = .int m) ∨ (∃ n m, u = .bool n ∧ w = .bool m) ∨ (∃ t f l t' g, u = .sl t f l ∧ w = .sl t' g []) ∨ (∃ l m, u = .agg l ∧ w = .agg m) ∨
    (∃ t n xs n' ys, u = .arr t n xs ∧ w = .arr t n' ys) := by
  unfold binAV at h
  split at h
  · exact .inl ⟨_, _, rfl, rfl⟩
  · exact .inr (.inr (.inl ⟨_, _, _, _, _, rfl, rfl⟩))
  · split at h
    · rename_i e
      subst e
      exact .inr (.inr (.inr (.inr ⟨_, _, _, _, _, rfl, rfl⟩)))
    · cases h
  · cases hq : eqAV u w with
    | none =>
      rw [hq] at h
      cases op <;> cases h
    | some r =>
      rcases eqAV_kinds hq with h | h | h
      · exact .inl h
      · exact .inr (.inl h)
      · exact .inr (.inr (.inr (.inl h)))

/-- It is enough to run it. -/
theorem op_bin_run (S : Sim E V0 io0 W0 C s a W) {op : BinOp} {t t' : Nat} {x y : Operand} {v : AV} (ho : o.op = .binOp op t x y t') {r : Value} (hr : VR E.TR C W v r)
    (hrun : (do eqGuard op t x y (a.eval x) (a.eval y); binOp op t (a.eval x) (a.eval y) : Sem Value).run E.P W = .ok r W) : OpOK E V0 io0 W0 C o s a W v s.objs := by
  refine OpOK.pure S (x := r) ?_ hr
  unfold execOp
  rw [ho]
  exact run_v hrun

theorem run_eqn {t : Nat} {x y : Operand} {u w : Value} {r : Bool} (hg : ∀ op, (eqGuard op t x y u w).run E.P W = .ok () W) (h : (Op.equal t u w).run E.P W = .ok r W) (h1 : binOp .eql t u w = (do pure (.bool (← Op.equal t u w)))) (h2 : binOp .neq t u w = (do pure (.bool (!(← Op.equal t u w))))) :
    (do eqGuard .eql t x y u w; binOp .eql t u w : Sem Value).run E.P W = .ok (.bool r) W ∧ (do eqGuard .neq t x y u w; binOp .neq t u w : Sem Value).run E.P W = .ok (.bool (!r)) W := by
  constructor
  · simp only [Sem.run_bind, hg, Result.andThen_ok, h1, h, Sem.run_pure]
  · simp only [Sem.run_bind, hg, Result.andThen_ok, h2, h, Sem.run_pure]

theorem op_bin (hX : CtxOK E X) (S : Sim E V0 io0 W0 C s a W) {op : BinOp} {t t' : Nat} {x y : Operand} {v : AV} (ho : o.op = .binOp op t x y t') (hb : binT X.T t (evO X s t x) = true) (hb2 : binT X.T t (evO X s t y) = true) (h : binAV op (evO X s t x) (evO X s t y) = some (true, v)) : OpOK E V0 io0 W0 C o s a W v s.objs := by
  have hxv := S.evO hX t x
  have hyv := S.evO hX t y
  rcases binAV_kinds h with ⟨n, m, e1, e2⟩ | ⟨n, m, e1, e2⟩ | ⟨te, f, l, te', g, e1, e2⟩ | ⟨l, m, e1, e2⟩ | ⟨te, n, xs, n', ys, e1, e2⟩
  · rw [e1, e2] at h
    rw [e1] at hxv
    rw [e2] at hyv
    obtain ⟨r, h1, h2⟩ := run_binInt (E := E) (C := C) (W := W) (t := t) h
    refine op_bin_run S ho h1 ?_
    rw [hxv.int_inv, hyv.int_inv]
    have : (eqGuard op t x y (.int .i64 n) (.int .i64 m)).run E.P W = .ok () W := by
      cases op <;> rfl
    simp only [Sem.run_bind, this, Result.andThen_ok]
    exact h2
  · rw [e1, e2] at h
    rw [e1] at hxv hb
    rw [e2] at hyv
    simp only [binT] at hb
    split at hb
    · rename_i i hi
      have hu := (hX.T t i hi).bl hb
      obtain ⟨k1, k2⟩ := run_eqn (E := E) (W := W) (x := x) (y := y) (fun op => by cases op <;> rfl) (run_equal_bool (W := W) hu n m) rfl rfl
      simp only [binAV, eqAV] at h
      cases op <;> simp only [eqRes, Option.some.injEq, Prod.mk.injEq, true_and, reduceCtorEq] at h
      · subst h
        exact op_bin_run S ho (vr_bool _) (by rw [hxv.bool_inv, hyv.bool_inv]; exact k1)
      · subst h
        exact op_bin_run S ho (vr_bool _) (by rw [hxv.bool_inv, hyv.bool_inv]; exact k2)
    · cases hb
  · rw [e1, e2] at h
    rw [e1] at hxv hb
    rw [e2] at hyv
    simp only [binT, Option.isSome_iff_exists] at hb
    obtain ⟨⟨te0, e, by_⟩, he⟩ := hb
    obtain ⟨hu, _⟩ := look_el hX.T he
    obtain ⟨A, c, ev, hr⟩ := hxv.sl_inv
    obtain ⟨B, c', ev', hr'⟩ := hyv.sl_inv
    obtain ⟨q1, q2, q3, q4, q5⟩ := rel_row hr
    obtain ⟨p1, p2, p3, p4, p5⟩ := rel_row hr'
    have run : (f.z = true ∨ (!decide (l.length = 0)) = true) → g.z = true → (Op.equal t (a.eval x) (a.eval y)).run E.P W = .ok (decide (l.length = 0)) W := by
      intro hf hg
      obtain ⟨rfl, rfl⟩ := p3 hg rfl
      rw [ev, ev']
      cases l with
      | nil =>
        obtain ⟨rfl, rfl⟩ := q3 (hf.resolve_right (by simp)) rfl
        exact run_equal_nil hu _ _
      | cons x0 l =>
        obtain ⟨ad, _, h, _⟩ := q2 0 x0 rfl
        subst h
        exact run_equal_some hu _ _ _
    simp only [binAV] at h
    have hgd : ∀ op, (eqGuard op t x y (a.eval x) (a.eval y)).run E.P W = .ok () W := fun op => by rw [ev, ev']; cases op <;> rfl
    cases op <;> simp only [Option.some.injEq, Prod.mk.injEq, Bool.and_eq_true, Bool.or_eq_true, reduceCtorEq] at h
    · obtain ⟨⟨h1, h2⟩, rfl⟩ := h
      exact op_bin_run S ho (vr_bool _) (run_eqn hgd (run h1 h2) (by rw [ev, ev']; rfl) (by rw [ev, ev']; rfl)).1
    · obtain ⟨⟨h1, h2⟩, rfl⟩ := h
      exact op_bin_run S ho (vr_bool _) (run_eqn hgd (run h1 h2) (by rw [ev, ev']; rfl) (by rw [ev, ev']; rfl)).2
  · rw [e1, e2] at h
    rw [e1] at hxv hb
    rw [e2] at hyv hb2
    simp only [binT] at hb hb2
    split at hb
    · rename_i i hi
      rw [hi] at hb2
      simp only [decide_eq_true_eq] at hb hb2
      obtain ⟨us, ev, hr⟩ := hxv.agg_inv
      obtain ⟨ws, ev', hr'⟩ := hyv.agg_inv
      simp only [binAV] at h
      cases he : eqAV (.agg l) (.agg m) with
      | none => rw [he] at h; cases op <;> cases h
      | some r =>
        rw [he] at h
        have fin : eqVals us ws = some r := by
          simp only [eqAV] at he
          have := eqAL_vals he hr hr' [] []
          simpa [eqVals] using this
        have hl1 : kindsV us = some i.eq := kinds_rel hb.2 (by simpa only [Rel] using hr)
        have hl2 : kindsV ws = some i.eq := kinds_rel hb2.2 (by simpa only [Rel] using hr')
        obtain ⟨h1, h2⟩ := run_eqAgg (W := W) (hX.T t i hi) hb.1 hl1 hl2 fin x y
        cases op <;> simp only [eqRes, Option.some.injEq, Prod.mk.injEq, true_and, reduceCtorEq] at h
        · subst h
          exact op_bin_run S ho (vr_bool _) (by rw [ev, ev']; exact h1)
        · subst h
          exact op_bin_run S ho (vr_bool _) (by rw [ev, ev']; exact h2)
    · cases hb
  · rw [e1, e2] at h
    rw [e1] at hxv hb
    rw [e2] at hyv hb2
    simp only [binT] at hb hb2
    split at hb
    · rename_i i hi
      rw [hi] at hb2
      simp only [decide_eq_true_eq] at hb hb2
      obtain ⟨us, ev, hn, hr⟩ := hxv.arr_inv
      obtain ⟨ws, ev', hn', hr'⟩ := hyv.arr_inv
      simp only [binAV, dif_pos] at h
      cases he : eqArr te xs ys with
      | none => rw [he] at h; cases op <;> cases h
      | some r =>
        rw [he] at h
        have hl1 : kindsV us = some i.eq := kinds_rel (TR := E.TR) hb.2 (by simp only [Rel]; exact ⟨hn, hr⟩)
        have hl2 : kindsV ws = some i.eq := kinds_rel (TR := E.TR) hb2.2 (by simp only [Rel]; exact ⟨hn', hr'⟩)
        cases op <;> simp only [Option.some.injEq, Prod.mk.injEq, decide_eq_true_eq, reduceCtorEq] at h
        · obtain ⟨rfl, rfl⟩ := h
          have fin := eqArr_vals he (by rw [hn, hn']) hr hr'
          exact op_bin_run S ho (vr_bool _) (by rw [ev, ev']; exact (run_eqAgg (W := W) (hX.T t i hi) hb.1 hl1 hl2 fin x y).1)
        · obtain ⟨rfl, rfl⟩ := h
          have fin := eqArr_vals he (by rw [hn, hn']) hr hr'
          exact op_bin_run S ho (vr_bool _) (by rw [ev, ev']; exact (run_eqAgg (W := W) (hX.T t i hi) hb.1 hl1 hl2 fin x y).2)
    · cases hb

end Ev
end Go.Proofs.YtidnikjkpbmhhaaDoor
