/- What every contract of this program leans on: its types, its package variables, its memos. -/
import Derived.Test.YtidnikjkpbmhhaaDoorTab
import Derived.Test.YtidnikjkpbmhhaaDoorPure
set_option linter.unusedVariables false
set_option linter.unusedSimpArgs false
namespace Go.Proofs.YtidnikjkpbmhhaaDoor
namespace Ev

/-- What a film's memo holds: of a reel, and a span, with which scenes it can end. -/
def MIr (t : Ty) (d : t.den) (es : Array MapEntry) : Prop :=
  ∃ x : tRF.den, (⟨t, d⟩ : DTy) = ⟨tRF, x⟩ ∧ ∀ e ∈ es.toList, ∃ (k : Int) (s : Sp), 0 ≤ k ∧ k < x.1.length ∧ e.key = .agg #[.int .i64 k, .int .i64 s.1, .int .i64 s.2] ∧ e.val = .agg #[.int .i64 (lastF x (k, s)).1, .int .i64 (lastF x (k, s)).2]

noncomputable def Bs : Base := { P := Tryd.prog, TR := TRr, hT := tokOK, MI := MIr, GL := GG }

def Good (f : Nat) (g : List AV → Option (Bool × AV)) : Prop := Ctr Bs f g ∧ ∃ fn, Tryd.prog.funcs[f]? = some fn ∧ fn.body.isNone = false ∧ (fn.name == "runtime.NumGoroutine") = false
def AllC (l : List (Nat × (List AV → Option (Bool × AV)))) : Prop := ∀ f g, findA l f = some g → Good f g
theorem AllC.nil : AllC [] := fun f g h => nomatch h
theorem AllC.cons {f : Nat} {g : List AV → Option (Bool × AV)} {l : List (Nat × (List AV → Option (Bool × AV)))} (h : Good f g) (k : AllC l) : AllC ((f, g) :: l) := fun f' g' h' => by
  simp only [findA] at h'
  split at h'
  · rename_i e
    subst e
    cases h'
    exact h
  · exact k f' g' h'

theorem mixed : Tryd.prog.follows .mixedOrders = true := by kernel_rfl

theorem ctxOK {X : Ctx} (hT : X.T = TT) (hG : X.G = GG) (hK : X.K = []) (hI : X.I = []) (hk : X.mkm = none) (hu : X.up = none) (hC : AllC X.C) : CtxOK Bs.env X where
  T := by rw [hT]; exact chkAll_ok (B := Bs) rfl chkTT
  G := hG
  C := fun f g h => hC f g h
  M := mixed
  K := fun i g h => by rw [hK] at h; cases h
  I := fun f it h => by rw [hI] at h; cases h
  mkm := fun d h => by rw [hk] at h; cases h
  up := fun u h => by rw [hu] at h; cases h

mutual
theorem wk_enc : ∀ (t : Ty) (x : t.den), wkAV (enc t x) = enc t x
  | .int, _ => rfl
  | .bool, _ => rfl
  | .last a, x => by simp only [enc, wkAV, wkL, wk_enc a x]
  | .cons a b, x => by simp only [enc, wkAV, wkL, wk_enc a x.1, wkT_enc b x.2]
  | .slice _, _ => rfl
  | .arr _ _, _ => rfl
theorem wkT_enc : ∀ (t : Ty) (x : t.den), wkL (encT t x) = encT t x
  | .int, _ => rfl
  | .bool, _ => rfl
  | .last a, x => by simp only [encT, wkL, wk_enc a x]
  | .cons a b, x => by simp only [encT, wkL, wk_enc a x.1, wkT_enc b x.2]
  | .slice _, _ => rfl
  | .arr _ _, _ => rfl
end

mutual
theorem wk_dec : ∀ {t : Ty} {a : AV} {x : t.den}, dec t a = some x → wkAV a = enc t x
  | .int, a, x, h => by
    cases a <;> simp only [dec, reduceCtorEq] at h
    cases h
    rfl
  | .bool, a, x, h => by
    cases a <;> simp only [dec, reduceCtorEq] at h
    cases h
    rfl
  | .last t, a, x, h => by
    cases a with
    | agg l =>
      match l, h with
      | [v], h =>
        simp only [dec] at h
        simp only [wkAV, wkL, enc, wk_dec h]
      | [], h => simp [dec] at h
      | _ :: _ :: _, h => simp [dec] at h
    | _ => simp [dec] at h
  | .cons t u, a, x, h => by
    cases a with
    | agg l =>
      match l, h with
      | v :: r, h =>
        simp only [dec] at h
        split at h
        · rename_i y z hy hz
          cases h
          simp only [wkAV, wkL, enc, wk_dec hy, wkT_dec hz]
        · cases h
      | [], h => simp [dec] at h
    | _ => simp [dec] at h
  | .slice t, a, x, h => by
    cases a with
    | sl t' f l =>
      simp only [dec] at h
      split at h
      · rename_i e
        subst e
        cases h
        rfl
      · cases h
    | _ => simp [dec] at h
  | .arr n t, a, x, h => by
    cases a with
    | arr t' n' xs =>
      simp only [dec] at h
      split at h
      · rename_i e
        subst e
        split at h
        · rename_i e
          subst e
          cases h
          rfl
        · cases h
      · cases h
    | _ => simp [dec] at h
theorem wkT_dec : ∀ {t : Ty} {l : List AV} {x : t.den}, decT t l = some x → wkL l = encT t x
  | .last t, l, x, h => by
    match l, h with
    | [v], h =>
      simp only [decT] at h
      simp only [wkL, encT, wk_dec h]
    | [], h => simp [decT] at h
    | _ :: _ :: _, h => simp [decT] at h
  | .cons t u, l, x, h => by
    match l, h with
    | v :: r, h =>
      simp only [decT] at h
      split at h
      · rename_i y z hy hz
        cases h
        simp only [wkL, encT, wk_dec hy, wkT_dec hz]
      · cases h
    | [], h => simp [decT] at h
  | .int, l, x, h => by simp [decT] at h
  | .bool, l, x, h => by simp [decT] at h
  | .slice _, l, x, h => by simp [decT] at h
  | .arr _ _, l, x, h => by simp [decT] at h
end


theorem wk_film {a : AV} {t : Ty} {d : t.den} {x : tRF.den} (h : dec tRF a = some x) (k : castD tRF t d = some x) : wkAV (.agg [a, .tok 0 t d]) = .agg [enc tRF x, .tok 0 tRF x] := by
  have e := castD_eq k
  cases e
  simp only [wkAV, wkL, wk_dec h]

/-! What an iterator of orders tells. b: what the loop's body says. -/
abbrev OnD := Int × Fi × Fi
def onL (b : Bool) (d : OnD) (a0 : List Int) (a1 : List Bool) (a2 : Sp) : List (List Int) := if b = true then (ordsF d.2.1 7 a1 a2).map fun l => a0 ++ l else ((ordsF d.2.1 7 a1 a2).take 1).map fun l => a0 ++ l
def onI (b : Bool) (d : OnD) (a0 : List Int) (a1 : List Bool) (a2 : Sp) : List AV := (onL b d a0 a1 a2).map (enc tInts)
def onR (b : Bool) (d : OnD) (a1 : List Bool) (a2 : Sp) : Bool := b || (ordsF d.2.1 7 a1 a2).isEmpty
def okSeq (ok : List AV → List Int → Bool) : List AV → List (List Int) → Bool
  | _, [] => true
  | tr, y :: ys => ok tr y && okSeq ok (tr ++ [enc tInts y]) ys
def onT (okP : Int → List AV → List Int → Bool) (b : Bool) (fu : Nat) (tr : List AV) (d : OnD) (a0 : List Int) (a1 : List Bool) (a2 : Sp) : Bool :=
  decide (a1.count true < fu) && (decide (a1.count true ≤ 6) && (decide (a0.length + a1.count true ≤ 6) && (decide (d.2.1 = d.2.2) && (allOK d.2.1 && okSeq (okP d.1) tr (onL b d a0 a1 a2)))))

noncomputable def gY (okP : Int → List AV → List Int → Bool) (b : Bool) : List AV → (t : Ty) → t.den → List AV → Option (Bool × AV × List AV) := fun tr t d args =>
  match args with
  | [a] => (match castD .int t d, dec tInts a with | some l, some y => some (okP l tr y, .bool b, [enc tInts y]) | _, _ => none)
  | _ => none
noncomputable def gO (okP : Int → List AV → List Int → Bool) (b : Bool) (fu : Nat) : List AV → (t : Ty) → t.den → List AV → Option (Bool × AV × List AV) := fun tr t d args =>
  match args with
  | [a0, a1, a2] =>
    (match castD tOn t d, dec tInts a0, dec tUsed a1, dec tSpan a2 with
    | some d, some x0, some x1, some x2 => some (onT okP b fu tr d x0 x1 x2, .bool (onR b d x1 x2), onI b d x0 x1 x2)
    | _, _, _, _ => none)
  | _ => none

end Ev
end Go.Proofs.YtidnikjkpbmhhaaDoor
