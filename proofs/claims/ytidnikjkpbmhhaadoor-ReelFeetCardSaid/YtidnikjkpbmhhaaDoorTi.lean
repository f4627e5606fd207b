/- A check of what is known of a type; what the check lets by is so. -/
import Derived.Test.YtidnikjkpbmhhaaDoorBas
import Derived.Laws.StructEq
import Derived.ChangeKeysEq
set_option linter.unusedVariables false
set_option linter.unusedSimpArgs false
namespace Go.Proofs.YtidnikjkpbmhhaaDoor
namespace Ev

/-! Values of one cell, compared. -/
def scalEq : Value → Value → Bool
  | .int .i64 a, .int .i64 b => decide (a = b)
  | .bool a, .bool b => a == b
  | .slice none 0 0, .slice none 0 0 => true
  | .map none, .map none => true
  | .nilFunc, .nilFunc => true
  | _, _ => false
theorem scalEq_ok {a b : Value} (h : scalEq a b = true) : a = b := by
  unfold scalEq at h
  split at h <;> simp_all
def scalsEq : List Value → List Value → Bool
  | [], [] => true
  | x :: xs, y :: ys => scalEq x y && scalsEq xs ys
  | _, _ => false
theorem scalsEq_ok : ∀ {xs ys : List Value}, scalsEq xs ys = true → xs = ys
  | [], [], _ => rfl
  | x :: xs, y :: ys, h => by
    simp only [scalsEq, Bool.and_eq_true] at h
    rw [scalEq_ok h.1, scalsEq_ok h.2]
  | [], _ :: _, h => nomatch h
  | _ :: _, [], h => nomatch h
def valEq : Value → Value → Bool
  | .agg a, .agg b => scalsEq a.toList b.toList
  | a, b => scalEq a b
theorem valEq_ok {a b : Value} (h : valEq a b = true) : a = b := by
  unfold valEq at h
  split at h
  · rw [Array.ext' (scalsEq_ok h)]
  · exact scalEq_ok h

/-- The film of nothing. -/
def isZ (x : tRF.den) : Bool := x.1.isEmpty && (decide (x.2.1.1 = 0) && (decide (x.2.1.2 = 0) && (decide (x.2.2.1.1 = 0) && (decide (x.2.2.1.2 = 0) && decide (x.2.2.2 = 0)))))
theorem isZ_ok {x : tRF.den} (h : isZ x = true) : x = zRF := by
  obtain ⟨l, ⟨a, b⟩, ⟨c, d⟩, e⟩ := x
  simp only [isZ, Bool.and_eq_true, decide_eq_true_eq, List.isEmpty_iff] at h
  obtain ⟨rfl, rfl, rfl, rfl, rfl, rfl⟩ := h
  rfl

/-! Zero values. -/
mutual
def zc : AV → Option (List Value)
  | .int n => some [.int .i64 n]
  | .bool b => some [.bool b]
  | .agg l => zcL l
  | .arr .int n xs => if xs.length = n then some (xs.map fun x => .int .i64 x) else none
  | .arr .bool n xs => if xs.length = n then some (xs.map fun x => .bool x) else none
  | .sl _ f [] => match f.ow with | none => some [.slice none 0 0] | some _ => none
  | .tok 0 t d => match castD tRF t d with | some x => (if isZ x = true then some [.map none] else none) | none => none
  | .tok 6 _ _ => some [.nilFunc]
  | _ => none
def zcL : List AV → Option (List Value)
  | [] => some []
  | v :: l =>
    match zc v, zcL l with
    | some a, some b => if a.length = v.size then some (a ++ b) else none
    | _, _ => none
end

theorem flat_ints {V : Nat → Nat → Prop} {W : World} : ∀ xs : List Int, Flat (CRel V W .int) xs (xs.map fun x => .int .i64 x)
  | [] => rfl
  | x :: xs => ⟨[.int .i64 x], _, rfl, rfl, flat_ints xs⟩
theorem flat_bools {V : Nat → Nat → Prop} {W : World} : ∀ xs : List Bool, Flat (CRel V W .bool) xs (xs.map fun x => .bool x)
  | [] => rfl
  | x :: xs => ⟨[.bool x], _, rfl, rfl, flat_bools xs⟩

mutual
theorem zc_rel {C : Cx} {W : World} : ∀ {v : AV} {cs : List Value}, zc v = some cs → Rel TRr C W v cs
  | .int n, cs, h => by simp only [zc] at h; cases h; simp [Rel]
  | .bool n, cs, h => by simp only [zc] at h; cases h; simp [Rel]
  | .agg l, cs, h => by
    simp only [zc] at h
    simp only [Rel]
    exact zcL_rel h
  | .arr t n xs, cs, h => by
    cases t with
    | int =>
      simp only [zc] at h
      split at h
      · rename_i e
        cases h
        simp only [Rel]
        exact ⟨e, flat_ints xs⟩
      · cases h
    | bool =>
      simp only [zc] at h
      split at h
      · rename_i e
        cases h
        simp only [Rel]
        exact ⟨e, flat_bools xs⟩
      · cases h
    | _ => simp [zc] at h
  | .sl t f [], cs, h => by
    simp only [zc] at h
    split at h
    · rename_i e
      cases h
      exact rel_nil (E := Base.env { P := default, TR := TRr, hT := tokOK, MI := fun _ _ _ => True, GL := [] }) t f e
    · cases h
  | .sl t f (_ :: _), cs, h => by simp [zc] at h
  | .tok 0 t d, cs, h => by
    simp only [zc] at h
    split at h
    · rename_i x e
      split at h
      · rename_i hz
        cases h
        simp only [Rel]
        exact ⟨_, rfl, .inr ⟨rfl, by rw [← isZ_ok hz]; exact castD_eq e⟩⟩
      · cases h
    · cases h
  | .tok 6 t d, cs, h => by
    simp only [zc] at h
    cases h
    simp only [Rel]
    exact ⟨_, rfl, rfl⟩
  | .tok 1 t d, cs, h => by simp [zc] at h
  | .tok 2 t d, cs, h => by simp [zc] at h
  | .tok 3 t d, cs, h => by simp [zc] at h
  | .tok 4 t d, cs, h => by simp [zc] at h
  | .tok 5 t d, cs, h => by simp [zc] at h
  | .tok (_ + 7) t d, cs, h => by simp [zc] at h
  | .poison, cs, h => by simp [zc] at h
  | .undef, cs, h => by simp [zc] at h
  | .tup _, cs, h => by simp [zc] at h
  | .ref .., cs, h => by simp [zc] at h
  | .cref .., cs, h => by simp [zc] at h
  | .fn .., cs, h => by simp [zc] at h
  | .map _, cs, h => by simp [zc] at h
theorem zcL_rel {C : Cx} {W : World} : ∀ {l : List AV} {cs : List Value}, zcL l = some cs → RelL TRr C W l cs
  | [], cs, h => by simp only [zcL] at h; cases h; simp [RelL]
  | v :: l, cs, h => by
    simp only [zcL] at h
    split at h
    · rename_i a b ha hb
      split at h
      · rename_i e
        cases h
        simp only [RelL]
        exact ⟨a, b, rfl, e, zc_rel ha, zcL_rel hb⟩
      · cases h
    · cases h
end

mutual
def dc : (t : Ty) → Option (List Value)
  | .int => some [.int .i64 0]
  | .bool => some [.bool false]
  | .last a => dc a
  | .cons a b => match dc a, dc b with | some x, some y => some (x ++ y) | _, _ => none
  | .slice _ => some [.slice none 0 0]
  | .arr _ _ => none
end
theorem dc_rel {V : Nat → Nat → Prop} {W : World} : ∀ {t : Ty} {cs : List Value}, dc t = some cs → CRel V W t t.dflt cs
  | .int, cs, h => by simp only [dc] at h; cases h; rfl
  | .bool, cs, h => by simp only [dc] at h; cases h; rfl
  | .last a, cs, h => by simp only [dc] at h; exact dc_rel (t := a) h
  | .cons a b, cs, h => by
    simp only [dc] at h
    split at h
    · rename_i x y hx hy
      cases h
      exact ⟨x, y, rfl, dc_rel hx, dc_rel hy⟩
    · cases h
  | .slice t, cs, h => by
    simp only [dc] at h
    cases h
    exact ⟨none, 0, rfl, Nat.le_refl _, fun j x h => by simp [Ty.dflt] at h⟩
  | .arr _ _, cs, h => by simp [dc] at h

/-! Comparable trees of numbers and truths. -/
def flatF (P : Program) (g : TypeId → Option (List Bool)) : List Field → Nat → Option (List Bool)
  | [], _ => some []
  | f :: fs, off =>
    if f.name = "_" then none else
    if f.offset = off then
      match g f.type, P.info? f.type with
      | some ks, some i => if i.size = ks.length ∧ 0 < ks.length then (match flatF P g fs (off + ks.length) with | some r => some (ks ++ r) | none => none) else none
      | _, _ => none
    else none
def flatK (P : Program) : Nat → TypeId → Option (List Bool)
  | 0, _ => none
  | d + 1, t =>
    match P.underlying t with
    | some (.int _) => some [false]
    | some .bool => some [true]
    | some (.struct fs) => if P.stoodInHeld t = true then none else flatF P (flatK P d) fs.toList 0
    | some (.array n e) =>
      match P.underlying e, P.info? e with
      | some .bool, some i => if i.size = 1 ∧ 0 < d then some (List.replicate n true) else none
      | _, _ => none
    | _ => none


theorem kindsV_len : ∀ {xs : List Value} {ks : List Bool}, kindsV xs = some ks → xs.length = ks.length
  | [], ks, h => by simp only [kindsV] at h; cases h; rfl
  | x :: xs, ks, h => by
    cases x with
    | int k n =>
      cases k <;> simp only [kindsV] at h <;> first
        | (cases h; done)
        | (cases hx : kindsV xs with
           | none => rw [hx] at h; cases h
           | some r =>
             rw [hx] at h
             cases h
             simp [kindsV_len hx])
    | bool b =>
      simp only [kindsV] at h
      cases hx : kindsV xs with
      | none => rw [hx] at h; cases h
      | some r =>
        rw [hx] at h
        cases h
        simp [kindsV_len hx]
    | _ => simp [kindsV] at h

/-- Kinds of a list in two parts. -/
theorem kindsV_split {ks ls : List Bool} {xs : List Value} (h : kindsV xs = some (ks ++ ls)) : kindsV (xs.take ks.length) = some ks ∧ kindsV (xs.drop ks.length) = some ls := by
  induction ks generalizing xs with
  | nil => exact ⟨rfl, by simpa using h⟩
  | cons k ks ih =>
    cases xs with
    | nil => simp [kindsV] at h
    | cons x xs =>
      cases x with
      | int q n =>
        cases q <;> simp only [kindsV] at h <;> first
          | (cases h; done)
          | (cases hx : kindsV xs with
             | none => rw [hx] at h; cases h
             | some r =>
               rw [hx] at h
               simp only [Option.map_some, List.cons_append, Option.some.injEq, List.cons.injEq] at h
               obtain ⟨rfl, rfl⟩ := h
               obtain ⟨h1, h2⟩ := ih hx
               exact ⟨by simp [kindsV, h1], by simpa using h2⟩)
      | bool q =>
        simp only [kindsV] at h
        cases hx : kindsV xs with
        | none => rw [hx] at h; cases h
        | some r =>
          rw [hx] at h
          simp only [Option.map_some, List.cons_append, Option.some.injEq, List.cons.injEq] at h
          obtain ⟨rfl, rfl⟩ := h
          obtain ⟨h1, h2⟩ := ih hx
          exact ⟨by simp [kindsV, h1], by simpa using h2⟩
      | _ => simp [kindsV] at h

theorem eqVals_of_kinds : ∀ {xs ys : List Value} {ks : List Bool}, kindsV xs = some ks → kindsV ys = some ks → ∃ r, eqVals xs ys = some r
  | [], ys, ks, h, h' => by
    simp only [kindsV] at h
    cases h
    have := kindsV_len h'
    have : ys = [] := List.eq_nil_of_length_eq_zero (by simpa using this)
    subst this
    exact ⟨true, rfl⟩
  | x :: xs, ys, ks, h, h' => by
    cases ys with
    | nil => simp only [kindsV] at h'; cases h'; have := kindsV_len h; simp at this
    | cons y ys =>
      cases hx : kindsV xs with
      | none =>
        cases x with
        | int q n => cases q <;> simp [kindsV, hx] at h
        | bool q => simp [kindsV, hx] at h
        | _ => simp [kindsV] at h
      | some r =>
        cases hy : kindsV ys with
        | none =>
          cases y with
          | int q n => cases q <;> simp [kindsV, hy] at h'
          | bool q => simp [kindsV, hy] at h'
          | _ => simp [kindsV] at h'
        | some r' =>
          cases x with
          | int q n =>
            cases q <;> simp only [kindsV, hx, Option.map_some, reduceCtorEq] at h
            cases h
            cases y with
            | int q' m =>
              cases q' <;> simp only [kindsV, hy, Option.map_some, reduceCtorEq] at h'
              simp only [Option.some.injEq, List.cons.injEq, true_and] at h'
              subst h'
              obtain ⟨b, hb⟩ := eqVals_of_kinds hx hy
              exact ⟨_, by simp only [eqVals, hb, Option.map_some]; rfl⟩
            | bool q' => simp [kindsV, hy] at h'
            | _ => simp [kindsV] at h'
          | bool q =>
            simp only [kindsV, hx, Option.map_some] at h
            cases h
            cases y with
            | bool q' =>
              simp only [kindsV, hy, Option.map_some, Option.some.injEq, List.cons.injEq, true_and] at h'
              subst h'
              obtain ⟨b, hb⟩ := eqVals_of_kinds hx hy
              exact ⟨_, by simp only [eqVals, hb, Option.map_some]; rfl⟩
            | int q' m => cases q' <;> simp [kindsV, hy] at h'
            | _ => simp [kindsV] at h'
          | _ => simp [kindsV] at h

theorem eqVals_append : ∀ {xs ys xs' ys' : List Value} {r : Bool}, eqVals xs ys = some r → eqVals (xs ++ xs') (ys ++ ys') = (eqVals xs' ys').map (r && ·)
  | [], [], xs', ys', r, h => by
    cases h
    simp only [List.nil_append]
    cases eqVals xs' ys' <;> simp
  | [], _ :: _, xs', ys', r, h => by simp [eqVals] at h
  | x :: xs, [], xs', ys', r, h => by cases x <;> simp [eqVals] at h
  | x :: xs, y :: ys, xs', ys', r, h => by
    cases x with
    | int q n =>
      cases y with
      | int q' m =>
        cases q <;> cases q' <;> simp only [eqVals, reduceCtorEq] at h
        cases hq : eqVals xs ys with
        | none => rw [hq] at h; cases h
        | some b =>
          rw [hq] at h
          cases h
          simp only [List.cons_append, eqVals, eqVals_append hq]
          cases eqVals xs' ys' <;> simp [Bool.and_assoc]
      | _ => cases q <;> simp [eqVals] at h
    | bool q =>
      cases y with
      | bool q' =>
        simp only [eqVals] at h
        cases hq : eqVals xs ys with
        | none => rw [hq] at h; cases h
        | some b =>
          rw [hq] at h
          cases h
          simp only [List.cons_append, eqVals, eqVals_append hq]
          cases eqVals xs' ys' <;> simp [Bool.and_assoc]
      | _ => simp [eqVals] at h
    | _ => simp [eqVals] at h

/-- A value of a type, out of its cells. -/
def valT (P : Program) (t : TypeId) (xs : List Value) : Value := match P.underlying t with | some d => if isAggD d = true then .agg xs.toArray else xs.headD undef | none => undef

theorem part_run {P : Program} {t : TypeId} {d : TypeDesc} {i : TypeInfo} {cs : List Value} {off : Nat} (hu : P.underlying t = some d) (hi : P.info? t = some i) (h1 : off + i.size ≤ cs.length) (h2 : isAggD d = false → i.size = 1) (W : World) :
    (part t cs.toArray off).run P W = .ok (valT P t ((cs.drop off).take i.size)) W := by
  have ha := run_isAgg (E := Base.env { P, TR := TRr, hT := tokOK, MI := fun _ _ _ => True, GL := [] }) hu W
  have hs := run_sizeOf' (E := Base.env { P, TR := TRr, hT := tokOK, MI := fun _ _ _ => True, GL := [] }) hi W
  have ha : (isAgg t).run P W = .ok (isAggD d) W := ha
  have hs : (sizeOf t).run P W = .ok i.size W := hs
  simp only [part, Sem.run_bind, ha, Result.andThen_ok, valT, hu]
  cases hd : isAggD d with
  | true =>
    simp only [if_true, Sem.run_bind, hs, Result.andThen_ok, Sem.run_pure]
    congr 2
    apply Array.ext'
    simp [List.extract_eq_take_drop, List.take_drop]
  | false =>
    have h3 := h2 hd
    have hlt : off < cs.length := by omega
    simp only [Bool.false_eq_true, if_false]
    have : cs.toArray[off]? = some cs[off] := by simp [hlt]
    rw [this]
    simp only [Sem.run_pure]
    congr 1
    rw [h3, List.drop_eq_getElem_cons hlt]
    rfl

/-- Equal as trees of cells. -/
def EqAt (P : Program) (d : Nat) (t : TypeId) (ks : List Bool) : Prop :=
  ∀ n, d ≤ n → ∀ xs ys r W, kindsV xs = some ks → kindsV ys = some ks → eqVals xs ys = some r → (Op.equalIn n t (valT P t xs) (valT P t ys)).run P W = .ok r W

theorem flatF_ok {P : Program} {d : Nat} {g : TypeId → Option (List Bool)} (hg : ∀ t ks, g t = some ks → EqAt P d t ks ∧ ∃ u, P.underlying t = some u ∧ (isAggD u = false → ks.length = 1)) : ∀ {fs : List Field} {off : Nat} {ks : List Bool}, flatF P g fs off = some ks →
    ∀ n, d ≤ n → ∀ (X Y : List Value) r W, kindsV (X.drop off) = some ks → kindsV (Y.drop off) = some ks → eqVals (X.drop off) (Y.drop off) = some r → (Op.eqFields n X.toArray Y.toArray fs).run P W = .ok r W
  | [], off, ks, h, n, hn, X, Y, r, W, hx, hy, hr => by
    simp only [flatF] at h
    cases h
    have e1 : X.drop off = [] := List.eq_nil_of_length_eq_zero (by simpa using kindsV_len hx)
    have e2 : Y.drop off = [] := List.eq_nil_of_length_eq_zero (by simpa using kindsV_len hy)
    rw [e1, e2] at hr
    cases hr
    simp [Op.eqFields]
  | f :: fs, off, ks, h, n, hn, X, Y, r, W, hx, hy, hr => by
    simp only [flatF] at h
    split at h
    · cases h
    · rename_i hname
      split at h
      · rename_i hoff
        split at h
        · rename_i k0 i hk0 hi
          split at h
          · rename_i hsz
            obtain ⟨hsz, hpos⟩ := hsz
            split at h
            · rename_i k1 hk1
              cases h
              obtain ⟨he, u, hu, hone⟩ := hg _ _ hk0
              obtain ⟨x1, x2⟩ := kindsV_split hx
              obtain ⟨y1, y2⟩ := kindsV_split hy
              rw [List.drop_drop] at x2 y2
              have hlx := kindsV_len hx
              have hly := kindsV_len hy
              simp only [List.length_drop, List.length_append] at hlx hly
              have hpx := part_run (t := f.type) (cs := X) (off := off) hu hi (by omega) (fun h => by rw [hsz]; exact hone h) W
              have hpy := part_run (t := f.type) (cs := Y) (off := off) hu hi (by omega) (fun h => by rw [hsz]; exact hone h) W
              rw [hsz] at hpx hpy
              obtain ⟨b, hb⟩ := eqVals_of_kinds x1 y1
              obtain ⟨c, hc⟩ := eqVals_of_kinds x2 y2
              have happ : eqVals (X.drop off) (Y.drop off) = some (b && c) := by
                have := eqVals_append (xs' := X.drop (off + k0.length)) (ys' := Y.drop (off + k0.length)) hb
                rw [hc, ← List.drop_drop, ← List.drop_drop, List.take_append_drop, List.take_append_drop] at this
                exact this
              rw [hr] at happ
              cases happ
              have heq := he n hn _ _ b W x1 y1 hb
              have ih := flatF_ok hg hk1 n hn X Y c W x2 y2 hc
              subst hoff
              simp only [Op.eqFields, ne_eq, hname, not_false_eq_true, if_true, Sem.run_bind, hpx, hpy, Result.andThen_ok, heq]
              cases b with
              | true => simpa using ih
              | false => simp
            · cases h
          · cases h
        · cases h
      · cases h


theorem kinds_one {b : Bool} {xs : List Value} (h : kindsV xs = some [b]) : (b = false ∧ ∃ n, xs = [.int .i64 n]) ∨ (b = true ∧ ∃ q, xs = [.bool q]) := by
  have hl := kindsV_len h
  match xs, hl with
  | [x], _ =>
    cases x with
    | int k n =>
      cases k <;> simp [kindsV] at h
      exact .inl ⟨h, n, rfl⟩
    | bool q =>
      simp [kindsV] at h
      exact .inr ⟨h, q, rfl⟩
    | _ => simp [kindsV] at h

theorem eqItems_ok {P : Program} {n : Nat} {e : TypeId} {i : TypeInfo} (hu : P.underlying e = some .bool) (hi : P.info? e = some i) (h1 : i.size = 1) (hc : P.cellsOf e = 1) (hn : 1 ≤ n) : ∀ (m k : Nat) (X Y : List Value) r W, kindsV (X.drop k) = some (List.replicate m true) → kindsV (Y.drop k) = some (List.replicate m true) → eqVals (X.drop k) (Y.drop k) = some r →
    (Op.eqItems n e (P.cellsOf e) X.toArray Y.toArray (List.range' k m)).run P W = .ok r W
  | 0, k, X, Y, r, W, hx, hy, hr => by
    have e1 : X.drop k = [] := List.eq_nil_of_length_eq_zero (by simpa using kindsV_len hx)
    have e2 : Y.drop k = [] := List.eq_nil_of_length_eq_zero (by simpa using kindsV_len hy)
    rw [e1, e2] at hr
    cases hr
    simp [Op.eqItems]
  | m + 1, k, X, Y, r, W, hx, hy, hr => by
    have hx' : kindsV (X.drop k) = some ([true] ++ List.replicate m true) := by rw [hx]; rfl
    have hy' : kindsV (Y.drop k) = some ([true] ++ List.replicate m true) := by rw [hy]; rfl
    obtain ⟨x1, x2⟩ := kindsV_split hx'
    obtain ⟨y1, y2⟩ := kindsV_split hy'
    rw [List.drop_drop] at x2 y2
    have hlx := kindsV_len hx'
    have hly := kindsV_len hy'
    simp only [List.length_drop, List.length_append, List.length_cons, List.length_nil, List.length_replicate] at hlx hly x1 y1 x2 y2
    have hpx := part_run (t := e) (cs := X) (off := k * P.cellsOf e) hu hi (by rw [hc, h1]; omega) (fun _ => h1) W
    have hpy := part_run (t := e) (cs := Y) (off := k * P.cellsOf e) hu hi (by rw [hc, h1]; omega) (fun _ => h1) W
    rw [h1, hc, Nat.mul_one] at hpx hpy
    obtain ⟨b, hb⟩ := eqVals_of_kinds x1 y1
    obtain ⟨c, hcc⟩ := eqVals_of_kinds x2 y2
    have happ : eqVals (X.drop k) (Y.drop k) = some (b && c) := by
      have := eqVals_append (xs' := X.drop (k + 1)) (ys' := Y.drop (k + 1)) hb
      simp only [Nat.zero_add] at hcc
      rw [hcc, ← List.drop_drop, ← List.drop_drop] at this
      simpa only [Nat.zero_add, List.take_append_drop, Option.map_some] using this
    rw [hr] at happ
    cases happ
    have ih := eqItems_ok hu hi h1 hc hn m (k + 1) X Y c W (by simpa using x2) (by simpa using y2) (by simpa using hcc)
    have hv : ∀ xs : List Value, kindsV xs = some [true] → ∃ q, xs = [.bool q] := fun xs h => by
      rcases kinds_one h with ⟨h, _⟩ | ⟨_, h⟩
      · cases h
      · exact h
    obtain ⟨p, hp⟩ := hv _ (by simpa using x1)
    obtain ⟨q, hq⟩ := hv _ (by simpa using y1)
    simp only [Nat.zero_add] at hb
    rw [hp, hq] at hb
    rw [hp] at hpx
    rw [hq] at hpy
    have e1 : valT P e [.bool p] = .bool p := by simp [valT, hu, isAggD]
    have e2 : valT P e [.bool q] = .bool q := by simp [valT, hu, isAggD]
    rw [e1] at hpx
    rw [e2] at hpy
    simp only [eqVals, Option.map_some, Option.some.injEq, Bool.and_true] at hb
    obtain ⟨n', rfl⟩ : ∃ n', n = n' + 1 := ⟨n - 1, by omega⟩
    have heq := run_equalIn_bool' (P := P) W n' e p q hu
    have hk : k * P.cellsOf e = k := by rw [hc, Nat.mul_one]
    simp only [List.range'_succ, Op.eqItems, Sem.run_bind, hk, hpx, hpy, Result.andThen_ok, heq, hb]
    cases b with
    | true => simpa using ih
    | false => simp

theorem flatK_ok {P : Program} : ∀ (d : Nat) (t : TypeId) (ks : List Bool), flatK P d t = some ks → EqAt P d t ks ∧ ∃ u, P.underlying t = some u ∧ (isAggD u = false → ks.length = 1)
  | 0, t, ks, h => by cases h
  | d + 1, t, ks, h => by
    simp only [flatK] at h
    split at h
    · rename_i q hu
      cases h
      refine ⟨fun n hn xs ys r W hx hy hr => ?_, _, hu, fun _ => rfl⟩
      obtain ⟨n', rfl⟩ : ∃ n', n = n' + 1 := ⟨n - 1, by omega⟩
      rcases kinds_one hx with ⟨_, a, rfl⟩ | ⟨h, _⟩
      · rcases kinds_one hy with ⟨_, b, rfl⟩ | ⟨h, _⟩
        · have e1 : ∀ a : Int, valT P t [.int .i64 a] = .int .i64 a := fun a => by simp [valT, hu, isAggD]
          rw [e1, e1, run_equalIn_int W n' t .i64 q a b hu]
          simp only [eqVals, Option.map_some, Option.some.injEq, Bool.and_true] at hr
          rw [← hr]
          congr 1
        · cases h
      · cases h
    · rename_i hu
      cases h
      refine ⟨fun n hn xs ys r W hx hy hr => ?_, _, hu, fun _ => rfl⟩
      obtain ⟨n', rfl⟩ : ∃ n', n = n' + 1 := ⟨n - 1, by omega⟩
      rcases kinds_one hx with ⟨h, _⟩ | ⟨_, a, rfl⟩
      · cases h
      · rcases kinds_one hy with ⟨h, _⟩ | ⟨_, b, rfl⟩
        · cases h
        · have e1 : ∀ a : Bool, valT P t [.bool a] = .bool a := fun a => by simp [valT, hu, isAggD]
          rw [e1, e1, run_equalIn_bool' W n' t a b hu]
          simp only [eqVals, Option.map_some, Option.some.injEq, Bool.and_true] at hr
          rw [← hr]
    · rename_i fs hu
      split at h
      · cases h
      · rename_i hst
        refine ⟨fun n hn xs ys r W hx hy hr => ?_, _, hu, fun h => nomatch h⟩
        obtain ⟨n', rfl⟩ : ∃ n', n = n' + 1 := ⟨n - 1, by omega⟩
        have hf : P.fieldsOf t = fs := by simp [Program.fieldsOf, hu]
        have e1 : ∀ l : List Value, valT P t l = .agg l.toArray := fun l => by simp [valT, hu, isAggD]
        rw [e1, e1, run_equalIn_struct W n' t _ _ (by rw [hf]; exact hu) (by simpa using hst), hf]
        exact flatF_ok (fun t ks h => flatK_ok d t ks h) h n' (by omega) xs ys r W (by simpa using hx) (by simpa using hy) (by simpa using hr)
    · rename_i m e hu
      split at h
      · rename_i i hue hie
        split at h
        · rename_i h1
          cases h
          refine ⟨fun n hn xs ys r W hx hy hr => ?_, _, hu, fun h => nomatch h⟩
          obtain ⟨n', rfl⟩ : ∃ n', n = n' + 1 := ⟨n - 1, by omega⟩
          have e1 : ∀ l : List Value, valT P t l = .agg l.toArray := fun l => by simp [valT, hu, isAggD]
          rw [e1, e1, run_equalIn_array W n' _ _ hu hie, List.range_eq_range']
          exact eqItems_ok hue hie h1.1 (by simp [Program.cellsOf, hie, h1.1]) (by omega) m 0 xs ys r W (by simpa using hx) (by simpa using hy) (by simpa using hr)
        · cases h
      · cases h
    · cases h


/-! All that is known of a type, checked. -/

def chkFlds (P : Program) (t : TypeId) (l : List (Nat × Nat)) : Bool :=
  match l with
  | [] => true
  | _ =>
    match P.underlying t with
    | some (.struct fs) => decide (fs.toList.map (fun f => (f.offset, f.type)) = l) && fs.toList.all (fun f => match P.info? f.type with | some i => !decide (i.size = 0) | none => false)
    | _ => false
def chkZero (P : Program) (t : TypeId) (i : Ti) : Bool :=
  match i.zero with
  | none => true
  | some z =>
    match P.info? t with
    | some inf =>
      match inf.zero, zc z with
      | some v, some cs => valEq v (mkV z cs) && (decide (cs.length = z.size) && (decide (z.size = i.sz) && ((isAg z == i.ag) && clean z)))
      | _, _ => false
    | none => false
def chkEl (P : Program) (t : TypeId) (i : Ti) : Bool :=
  match i.el with
  | none => true
  | some (e, te, by_) =>
    match P.underlying t, P.info? te with
    | some (.slice te'), some inf =>
      decide (te' = te) && (decide (0 < e.size) && (decide (0 < by_) && (decide (inf.size = e.size) && (decide (inf.bytes = by_) &&
        (match inf.zero, dc e with | some zv, some cs => scalsEq zv.cells.toList cs && decide (cs.length = e.size) | _, _ => false)))))
    | _, _ => false
def chkAr (P : Program) (t : TypeId) (i : Ti) : Bool :=
  match i.ar with
  | none => true
  | some (n, te, tid) =>
    match P.underlying t, P.info? tid, P.underlying tid with
    | some (.array n' tid'), some inf, some d => decide (n' = n) && (decide (tid' = tid) && (decide (inf.size = te.size) && (isAggD d == isAgT te)))
    | _, _, _ => false
def chkTi (P : Program) (t : TypeId) (i : Ti) : Bool :=
  (match P.info? t with | some inf => decide (inf.size = i.sz) | none => false) && ((match P.underlying t with | some d => isAggD d == i.ag | none => false) && (chkZero P t i && (chkFlds P t i.flds && (chkEl P t i && (chkAr P t i &&
    ((if i.bl = true then (match P.underlying t with | some .bool => true | _ => false) else true) && (match i.eq with | [] => true | ks => i.ag && (!P.eqGuardType P.depth t && decide (flatK P 20 t = some ks)))))))))

theorem mapM_infos {P : Program} : ∀ {fs : List Field}, (∀ f ∈ fs, ∃ i, P.info? f.type = some i) → ∃ pl, fs.mapM (fun f => (P.info? f.type).map fun i => (f.offset, i.size)) = some pl ∧ ∀ (k : Nat) (f : Field), fs[k]? = some f → ∃ i, P.info? f.type = some i ∧ pl[k]? = some (f.offset, i.size)
  | [], _ => ⟨[], rfl, fun k f h => by simp at h⟩
  | f :: fs, h => by
    obtain ⟨i, hi⟩ := h f (List.mem_cons_self ..)
    obtain ⟨pl, h1, h2⟩ := mapM_infos (fs := fs) fun g hg => h g (List.mem_cons_of_mem _ hg)
    refine ⟨(f.offset, i.size) :: pl, ?_, fun k g hg => ?_⟩
    · rw [List.mapM_cons, hi, h1]
      rfl
    · cases k with
      | zero =>
        simp only [List.getElem?_cons_zero, Option.some.injEq] at hg
        subst hg
        exact ⟨i, hi, rfl⟩
      | succ k => exact h2 k g (by simpa using hg)

theorem chkTi_ok {B : Base} (hTR : B.TR = TRr) {t : TypeId} {i : Ti} (h : chkTi B.P t i = true) : TiOK B t i := by
  simp only [chkTi, Bool.and_eq_true] at h
  obtain ⟨h1, h2, h3, h4, h5, h6, h7, h8⟩ := h
  have hfl : ∀ (f off ft : Nat), i.flds[f]? = some (off, ft) → ∃ fs fd, B.P.underlying t = some (.struct fs) ∧ fs[f]? = some fd ∧ fd.offset = off ∧ fd.type = ft ∧ (∀ g ∈ fs.toList, ∃ j, B.P.info? g.type = some j) ∧ ∃ inf, B.P.info? ft = some inf ∧ inf.size ≠ 0 := fun f off ft hf => by
    unfold chkFlds at h4
    split at h4
    · rename_i e
      rw [e] at hf
      simp at hf
    · split at h4
      · rename_i fs hu
        simp only [Bool.and_eq_true, decide_eq_true_eq] at h4
        obtain ⟨g1, g2⟩ := h4
        rw [← g1, List.getElem?_map] at hf
        cases hq : fs.toList[f]? with
        | none => rw [hq] at hf; cases hf
        | some fd =>
          rw [hq] at hf
          simp only [Option.map_some, Option.some.injEq, Prod.mk.injEq] at hf
          obtain ⟨rfl, rfl⟩ := hf
          have hall := List.all_eq_true.1 g2
          refine ⟨fs, fd, hu, by simpa using hq, rfl, rfl, fun g hg => ?_, ?_⟩
          · have := hall g hg
            split at this
            · rename_i j hj
              exact ⟨j, hj⟩
            · cases this
          · have := hall fd (List.mem_of_getElem? hq)
            split at this
            · rename_i j hj
              exact ⟨j, hj, by simpa using this⟩
            · cases this
      · cases h4
  refine ⟨?_, ?_, ?_, ?_, ?_, ?_, ?_, ?_, ?_⟩
  · split at h1
    · rename_i inf hi
      exact ⟨inf, hi, by simpa using h1⟩
    · cases h1
  · split at h2
    · rename_i d hd
      exact ⟨d, hd, by simpa using h2⟩
    · cases h2
  · intro z hz
    unfold chkZero at h3
    rw [hz] at h3
    dsimp only at h3
    split at h3
    · rename_i inf hi
      split at h3
      · rename_i v cs hv hc
        simp only [Bool.and_eq_true, decide_eq_true_eq, beq_iff_eq] at h3
        obtain ⟨g1, g2, g3, g4, g5⟩ := h3
        exact ⟨inf, v, hi, hv, g3, g4, g5, fun C W => ⟨cs, g2, hTR ▸ zc_rel hc, valEq_ok g1⟩⟩
      · cases h3
    · cases h3
  · intro f off ft hf
    obtain ⟨fs, fd, g1, g2, g3, g4, _, g5⟩ := hfl f off ft hf
    exact ⟨fs, fd, g1, g2, g3, g4, g5⟩
  · intro e te by_ he
    unfold chkEl at h5
    rw [he] at h5
    dsimp only at h5
    split at h5
    · rename_i te' inf hu hi
      simp only [Bool.and_eq_true, decide_eq_true_eq] at h5
      obtain ⟨rfl, g2, g3, g4, g5, g6⟩ := h5
      split at g6
      · rename_i zv cs hz hc
        simp only [Bool.and_eq_true, decide_eq_true_eq] at g6
        have e1 := scalsEq_ok g6.1
        exact ⟨hu, g2, g3, inf, zv, hi, g4, g5, hz, by rw [← g6.2, ← e1]; simp, fun V W => by rw [e1]; exact dc_rel hc⟩
      · cases g6
    · cases h5
  · intro n te tid ha
    unfold chkAr at h6
    rw [ha] at h6
    dsimp only at h6
    split at h6
    · rename_i n' tid' inf d hu hi hd
      simp only [Bool.and_eq_true, decide_eq_true_eq, beq_iff_eq] at h6
      obtain ⟨rfl, rfl, g3, g4⟩ := h6
      exact ⟨inf, d, hu, hi, g3, hd, g4⟩
    · cases h6
  · intro hb
    rw [if_pos hb] at h7
    split at h7
    · rename_i hu
      exact hu
    · cases h7
  · intro he
    split at h8
    · rename_i e
      exact absurd e he
    · rename_i ks hne
      simp only [Bool.and_eq_true, Bool.not_eq_true', decide_eq_true_eq] at h8
      obtain ⟨gag, g1, g2⟩ := h8
      obtain ⟨e1, u, hu, hone⟩ := flatK_ok 20 t _ g2
      refine ⟨g1, fun xs ys r W hx hy hr => ?_⟩
      have := e1 10000 (by omega) xs ys r W hx hy hr
      have hag : isAggD u = true ∨ isAggD u = false := by cases isAggD u <;> simp
      rcases hag with hag | hag
      · have ev : ∀ l : List Value, valT B.P t l = .agg l.toArray := fun l => by simp [valT, hu, hag]
        rw [ev, ev] at this
        exact this
      · rw [hu] at h2
        dsimp only at h2
        rw [hag, gag] at h2
        cases h2
  · intro _ hf
    cases hl : i.flds with
    | nil => exact absurd hl hf
    | cons x l =>
      obtain ⟨off, ft⟩ := x
      obtain ⟨fs, fd, g1, g2, g3, g4, g5, _⟩ := hfl 0 off ft (by rw [hl]; rfl)
      obtain ⟨pl, q1, q2⟩ := mapM_infos g5
      refine ⟨fs, pl, g1, q1, fun f off' ft' hf' => ?_⟩
      obtain ⟨fs', fd', k1, k2, k3, k4, _⟩ := hfl f off' ft' (by rw [hl]; exact hf')
      rw [g1] at k1
      cases k1
      obtain ⟨j, hj, hp⟩ := q2 f fd' (by simpa using k2)
      exact ⟨j, by rw [← k4]; exact hj, by rw [← k3]; exact hp⟩

def chkAll (P : Program) : Tbl → Bool
  | [] => true
  | (t, i) :: r => chkTi P t i && chkAll P r

theorem chkAll_ok {B : Base} (hTR : B.TR = TRr) : ∀ {T : Tbl}, chkAll B.P T = true → TblOK B T
  | [], _, t, i, hl => nomatch hl
  | (t', i') :: r, h, t, i, hl => by
    simp only [chkAll, Bool.and_eq_true] at h
    simp only [look] at hl
    split at hl
    · rename_i e
      subst e
      cases hl
      exact chkTi_ok hTR h.1
    · exact chkAll_ok hTR h.2 t i hl

end Ev
end Go.Proofs.YtidnikjkpbmhhaaDoor
