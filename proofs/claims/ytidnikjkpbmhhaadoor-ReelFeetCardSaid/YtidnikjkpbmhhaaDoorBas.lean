/- The kinds of data of the program's layer 1, and what its tokens say: a film's memo, the word to a loop's body, and closures that name themselves. -/
import Derived.Test.YtidnikjkpbmhhaaDoorFun
set_option linter.unusedVariables false
set_option linter.unusedSimpArgs false
namespace Go.Proofs.YtidnikjkpbmhhaaDoor
namespace Ev

abbrev tSpan : Ty := .cons .int (.last .int)
abbrev tReel : Ty := .cons tSpan (.cons tSpan (.last tSpan))
abbrev tRF : Ty := .cons (.slice tReel) (.cons tSpan (.cons tSpan (.last .int)))
abbrev tSpot : Ty := .cons .int (.last tSpan)
abbrev tInts : Ty := .slice .int
abbrev tSpans : Ty := .slice tSpan
abbrev tRows : Ty := .slice tInts
abbrev tUsed : Ty := .arr 6 .bool
abbrev tReels : Ty := .slice tReel
abbrev tOn : Ty := .cons .int (.cons tRF (.last tRF))
abbrev tAt : Ty := .cons .int (.cons .int (.last .int))
abbrev tCh : Ty := .cons tRF (.cons tRF (.last tRF))
def zRF : tRF.den := (([] : List ((Int × Int) × (Int × Int) × (Int × Int))), ((0 : Int), (0 : Int)), ((0 : Int), (0 : Int)), (0 : Int))

abbrev DTy := (t : Ty) × t.den

/-- A memo: a map that stands for these data; or the nil map of no film. -/
def memoV (io : Io) (W : World) (d : DTy) (v : Value) : Prop := (∃ b, v = .map (some b) ∧ b < W.heap.size ∧ io b = some d) ∨ (v = .map none ∧ d = ⟨tRF, zRF⟩)
/-- A film in the calculation lies here. -/
def filmAt (V : Nat → Nat → Prop) (io : Io) (W : World) (x y : tRF.den) (fa : Addr) : Prop := ∃ cs m, CRel V W tRF x cs ∧ Cells V W fa (cs ++ [m]) ∧ memoV io W ⟨tRF, y⟩ m
def oneAt (V : Nat → Nat → Prop) (W : World) (a : Addr) (v : Value) : Prop := W.cell? a = some v ∧ ¬ V a.block a.off

/-- The function that an order is told by, as it stands in the call that ranges over the orders. -/
def onV (V : Nat → Nat → Prop) (io : Io) (W : World) (l : Int) (x y : tRF.den) (v : Value) : Prop :=
  ∃ ya fa oa : Addr, v = .func (.func 91) #[] #[.pointer (some ya), .pointer (some fa), .pointer (some oa)] ∧ oneAt V W ya (.func (.yield l.toNat) #[] #[]) ∧ filmAt V io W x y fa ∧ oneAt V W oa v
/-- The function that chooses strange reels. -/
def chV (V : Nat → Nat → Prop) (io : Io) (W : World) (x y z : tRF.den) (v : Value) : Prop :=
  ∃ fa xa ca : Addr, v = .func (.func 79) #[] #[.pointer (some fa), .pointer (some xa), .pointer (some ca)] ∧ filmAt V io W x y fa ∧ (∃ cs, CRel V W tRF z cs ∧ Cells V W xa cs) ∧ oneAt V W ca v

def TRr : TokRel := fun i t d V io W v =>
  match i with
  | 0 => memoV io W ⟨t, d⟩ v
  | 1 => ∃ l : Int, (⟨t, d⟩ : DTy) = ⟨.int, l⟩ ∧ v = .func (.yield l.toNat) #[] #[]
  | 3 => ∃ (l : Int) (x y : tRF.den), (⟨t, d⟩ : DTy) = ⟨tOn, (l, x, y)⟩ ∧ onV V io W l x y v
  | 4 => ∃ x y z : tRF.den, (⟨t, d⟩ : DTy) = ⟨tCh, (x, y, z)⟩ ∧ chV V io W x y z v
  | 6 => v = .nilFunc
  | 9 => ∃ b n c : Int, (⟨t, d⟩ : DTy) = ⟨tAt, (b, n, c)⟩ ∧ v = .slice (some ⟨b.toNat, 0, none⟩) n.toNat c.toNat
  | _ => False

theorem oneAt.mono {V V' : Nat → Nat → Prop} {W W' : World} {a : Addr} {v : Value} (hs : Stab V V' W W') (h : oneAt V W a v) : oneAt V' W' a v :=
  ⟨hs.cell _ _ h.1 h.2, fun hv => h.2 (hs.vol _ _ (World.block_lt_of_cell? W a h.1) hv)⟩
theorem memoV.mono {io io' : Io} {W W' : World} {d : DTy} {v : Value} (hi : ioLe W.heap.size io io') (hz : W.heap.size ≤ W'.heap.size) (h : memoV io W d v) : memoV io' W' d v := by
  rcases h with ⟨b, h1, h2, h3⟩ | h
  · exact .inl ⟨b, h1, Nat.lt_of_lt_of_le h2 hz, (hi b h2).trans h3⟩
  · exact .inr h
theorem filmAt.mono {V V' : Nat → Nat → Prop} {io io' : Io} {W W' : World} {x y : tRF.den} {fa : Addr} (hs : Stab V V' W W') (hi : ioLe W.heap.size io io') (hz : W.heap.size ≤ W'.heap.size) (h : filmAt V io W x y fa) : filmAt V' io' W' x y fa := by
  obtain ⟨cs, m, h1, h2, h3⟩ := h
  exact ⟨cs, m, CRel.mono hs h1, h2.mono hs, h3.mono hi hz⟩

theorem tokOK : TokOK TRr where
  mono := fun i t d V V' io io' W W' v hs hi hz h => by
    unfold TRr at h ⊢
    split at h
    · exact memoV.mono hi hz h
    · exact h
    · obtain ⟨l, x, y, h1, ya, fa, oa, h2, h3, h4, h5⟩ := h
      exact ⟨l, x, y, h1, ya, fa, oa, h2, h3.mono hs, h4.mono hs hi hz, h5.mono hs⟩
    · obtain ⟨x, y, z, h1, fa, xa, ca, h2, h3, ⟨cs, h4, h5⟩, h6⟩ := h
      exact ⟨x, y, z, h1, fa, xa, ca, h2, h3.mono hs hi hz, ⟨cs, CRel.mono hs h4, h5.mono hs⟩, h6.mono hs⟩
    · exact h
    · exact h
    · exact h
  one := fun i t d V io W v h => by
    unfold TRr at h
    split at h
    · rcases h with ⟨b, rfl, _⟩ | ⟨rfl, _⟩ <;> exact ⟨rfl, rfl⟩
    · obtain ⟨l, _, rfl⟩ := h
      exact ⟨rfl, rfl⟩
    · obtain ⟨l, x, y, _, ya, fa, oa, rfl, _⟩ := h
      exact ⟨rfl, rfl⟩
    · obtain ⟨x, y, z, _, fa, xa, ca, rfl, _⟩ := h
      exact ⟨rfl, rfl⟩
    · subst h
      exact ⟨rfl, rfl⟩
    · obtain ⟨b, n, c, _, rfl⟩ := h
      exact ⟨rfl, rfl⟩
    · exact h.elim

def castD (t t' : Ty) (d : t'.den) : Option t.den := if h : t' = t then some (h ▸ d) else none

theorem castD_eq {t t' : Ty} {d : t'.den} {x : t.den} (h : castD t t' d = some x) : (⟨t', d⟩ : DTy) = ⟨t, x⟩ := by
  unfold castD at h
  split at h
  · rename_i e
    subst e
    cases h
    rfl
  · cases h

/-! The two closures, frozen. -/

def onFrz : Frz :=
  { ks := [3, 4], k := 4, j := 2, f := 91, i := 3, t := tOn
    d := fun l => match l with
      | [.cref (.tok 1 t d) [], .cref (.agg (a :: r)) [], _] =>
        match castD .int t d, dec tRF a, r with
        | some l, some x, [.tok 0 t' d'] => (match castD tRF t' d' with | some y => some (l, x, y) | none => none)
        | _, _, _ => none
      | _ => none }

def chFrz : Frz :=
  { ks := [1, 4, 6], k := 6, j := 2, f := 79, i := 4, t := tCh
    d := fun l => match l with
      | [.cref (.agg (a :: r)) [], .cref b [], _] =>
        match dec tRF a, dec tRF b, r with
        | some x, some z, [.tok 0 t' d'] => (match castD tRF t' d' with | some y => some (x, y, z) | none => none)
        | _, _, _ => none
      | _ => none }

theorem filmAt_of {C : Cx} {W : World} {a : AV} {t : Ty} {d : t.den} {x y : tRF.den} {ds : List Value} {fa : Addr} (h : Rel TRr C W (.agg [a, .tok 0 t d]) ds) (hx : dec tRF a = some x) (hy : castD tRF t d = some y) (hc : Cells C.V W fa ds) : filmAt C.V C.io W x y fa := by
  simp only [Rel, RelL] at h
  obtain ⟨c, r, rfl, hl, h1, c2, r2, rfl, hl2, ⟨m, rfl, h2⟩, rfl⟩ := h
  have e := castD_eq hy
  cases e
  exact ⟨c, m, dec_rel hx h1, by simpa using hc, h2⟩

theorem onFrz_ok : FrzOK TRr onFrz := by
  intro V io W ys capsF d b hd hr hj hcell hV
  simp only [onFrz] at hd hj hcell ⊢
  split at hd
  · rename_i t e a r c3
    split at hd
    · rename_i l x t' d' h1 h2
      split at hd
      · rename_i y h3
        cases hd
        simp only [RelV] at hr
        obtain ⟨y1, r1, rfl, q1, y2, r2, rfl, q2, y3, r3, rfl, q3, rfl⟩ := hr
        rcases q1 with q1 | ⟨cs1, _, q1, e1⟩
        · cases q1
        rcases q2 with q2 | ⟨cs2, _, q2, e2⟩
        · cases q2
        simp only [Rel, offP, add_zero] at q1 q2
        obtain ⟨ya, ds1, ⟨v1, rfl, p1⟩, p2, _, rfl⟩ := q1
        obtain ⟨fa, ds2, p3, p4, _, rfl⟩ := q2
        have e1' : y1 = .pointer (some ya) := e1
        have e2' : y2 = .pointer (some fa) := e2
        subst e1' e2'
        simp only [List.getElem?_cons_succ, List.getElem?_cons_zero, Option.some.injEq] at hj
        subst hj
        have et := castD_eq h1
        have p1' : ∃ l0 : Int, (⟨t, e⟩ : DTy) = ⟨.int, l0⟩ ∧ v1 = .func (.yield l0.toNat) #[] #[] := p1
        obtain ⟨l0, p5, rfl⟩ := p1'
        rw [et] at p5
        cases p5
        have hfilm := filmAt_of (C := baseCx V io) (fa := fa) (by simpa only [Rel] using p3) h2 h3 p4
        have hya := p2 0 _ rfl
        rw [add_zero] at hya
        exact ⟨l, x, y, rfl, ya, fa, ⟨b, 0, none⟩, rfl, ⟨hya.1, by simpa [baseCx] using hya.2⟩, hfilm, hcell, hV⟩
      · cases hd
    · cases hd
  · cases hd

theorem chFrz_ok : FrzOK TRr chFrz := by
  intro V io W ys capsF d b hd hr hj hcell hV
  simp only [chFrz] at hd hj hcell ⊢
  split at hd
  · rename_i a r bb c3
    split at hd
    · rename_i x z t' d' h1 h2
      split at hd
      · rename_i y h3
        cases hd
        simp only [RelV] at hr
        obtain ⟨y1, r1, rfl, q1, y2, r2, rfl, q2, y3, r3, rfl, q3, rfl⟩ := hr
        rcases q1 with q1 | ⟨cs1, _, q1, e1⟩
        · cases q1
        rcases q2 with q2 | ⟨cs2, _, q2, e2⟩
        · cases q2
        simp only [Rel, offP, add_zero] at q1 q2
        obtain ⟨fa, ds2, p3, p4, _, rfl⟩ := q1
        obtain ⟨xa, ds1, p1, p2, _, rfl⟩ := q2
        have e1' : y1 = .pointer (some fa) := e1
        have e2' : y2 = .pointer (some xa) := e2
        subst e1' e2'
        simp only [List.getElem?_cons_succ, List.getElem?_cons_zero, Option.some.injEq] at hj
        subst hj
        have hfilm := filmAt_of (C := baseCx V io) (fa := fa) (by simpa only [Rel] using p3) h1 h3 p4
        exact ⟨x, y, z, rfl, fa, xa, ⟨b, 0, none⟩, rfl, hfilm, ⟨ds1, dec_rel h2 p1, p2⟩, hcell, hV⟩
      · cases hd
    · cases hd
  · cases hd

end Ev
end Go.Proofs.YtidnikjkpbmhhaaDoor
