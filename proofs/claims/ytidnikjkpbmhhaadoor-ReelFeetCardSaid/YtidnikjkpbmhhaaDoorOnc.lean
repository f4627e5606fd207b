/- The iterator of orders keeps its word. -/
import Derived.Test.YtidnikjkpbmhhaaDoorOnl
set_option linter.unusedVariables false
set_option linter.unusedSimpArgs false
namespace Go.Proofs.YtidnikjkpbmhhaaDoor
namespace Ev

def shP (okP : Int → List AV → List Int → Bool) (tr0 : List AV) : Int → List AV → List Int → Bool := fun l tr y => okP l (tr0 ++ tr) y

theorem okSeq_shift (ok : List AV → List Int → Bool) (tr0 : List AV) : ∀ (tr : List AV) (L : List (List Int)), okSeq (fun tr y => ok (tr0 ++ tr) y) tr L = okSeq ok (tr0 ++ tr) L
  | tr, [] => rfl
  | tr, y :: L => by
    simp only [okSeq, okSeq_shift ok tr0 _ L, List.append_assoc]

theorem onT_shift (okP : Int → List AV → List Int → Bool) (b : Bool) (fu : Nat) (tr0 tr : List AV) (d : OnD) (a0 : List Int) (a1 : List Bool) (a2 : Sp) : onT (shP okP tr0) b fu tr d a0 a1 a2 = onT okP b fu (tr0 ++ tr) d a0 a1 a2 := by
  unfold onT
  rw [← okSeq_shift (okP d.1) tr0]
  rfl

theorem gO_shift (okP : Int → List AV → List Int → Bool) (b : Bool) (fu : Nat) (tr0 : List AV) : (fun tr => gO okP b fu (tr0 ++ tr)) = gO (shP okP tr0) b fu := by
  funext tr t d args
  unfold gO
  simp only [onT_shift]

theorem tctr_shift {E : Env} {i : Nat} {g : List AV → (t : Ty) → t.den → List AV → Option (Bool × AV × List AV)} (h : TCtr E i g) (tr0 : List AV) : TCtr (E.behind tr0) i (fun tr => g (tr0 ++ tr)) := by
  intro V io W tr t d x args vs r items hb hn hM hJ ht hr hg
  have := h V io W (tr0 ++ tr) t d x args vs r items hb hn hM hJ ht hr hg
  rw [List.append_assoc] at this
  exact this

theorem one_cells {V : Nat → Nat → Prop} {W : World} {a : Addr} {v : Value} (h : oneAt V W a v) : Cells V W a [v] := fun i u hi => by
  cases i with
  | zero =>
    cases hi
    rw [add_zero]
    exact ⟨h.1, by simpa using h.2⟩
  | succ i => simp at hi

theorem on_caps {V : Nat → Nat → Prop} {io : Io} {W : World} {l : Int} {x : tRF.den} {ya fa oa : Addr} {xv : Value} (hy : oneAt V W ya (.func (.yield l.toNat) #[] #[])) (hf : filmAt V io W x x fa) (ho : oneAt V W oa xv) (ht : TRr 3 tOn (l, x, x) V io W xv) :
    RelV TRr (baseCx V io) W [.cref (.tok 1 .int l) [], .cref (.agg [enc tRF x, .tok 0 tRF x]) [], .cref (.tok 3 tOn (l, x, x)) []] [.pointer (some ya), .pointer (some fa), .pointer (some oa)] := by
  obtain ⟨cs, m, f1, f2, f3⟩ := hf
  simp only [RelV]
  refine ⟨_, _, rfl, .inr ⟨[.pointer (some ya)], rfl, ?_, rfl⟩, _, _, rfl, .inr ⟨[.pointer (some fa)], rfl, ?_, rfl⟩, _, _, rfl, .inr ⟨[.pointer (some oa)], rfl, ?_, rfl⟩, rfl⟩
  · simp only [Rel]
    exact ⟨ya, _, ⟨_, rfl, l, rfl, rfl⟩, one_cells hy, (fun _ h => nomatch h), by simp [offP, add_zero]⟩
  · simp only [Rel, RelL]
    obtain ⟨g1, g2⟩ := enc_rel (io := io) (TR := TRr) f1 (baseCx V io) rfl
    refine ⟨fa, cs ++ [m], ⟨cs, [m], rfl, by rw [CRel.length f1, g2], g1, [m], [], rfl, rfl, ⟨m, rfl, f3⟩, rfl⟩, f2, (fun _ h => nomatch h), by simp [offP, add_zero]⟩
  · simp only [Rel]
    exact ⟨oa, _, ⟨_, rfl, ht⟩, one_cells ho, (fun _ h => nomatch h), by simp [offP, add_zero]⟩

section
variable (h77 : Good 77 g77) (h88 : Good 88 g88)
include h77 h88

theorem ctx91 {E : Env} (hE : E.toBase = Bs) {okP : Int → List AV → List Int → Bool} {b : Bool} {fu : Nat} (hY : TCtr E 1 (gY okP b)) (hO : TCtr E 3 (gO okP b fu)) : CtxOK E (X91 okP b fu) where
  T := by rw [hE]; exact chkAll_ok (B := Bs) rfl chkTT
  G := by show GG = E.toBase.GL; rw [hE]; rfl
  C := fun f g h => by
    rw [hE]
    exact (AllC.cons h77 (AllC.cons h88 AllC.nil)) f g h
  M := by rw [hE]; exact mixed
  K := fun i g h => by
    simp only [X91, findA] at h
    split at h
    · rename_i e
      subst e
      cases h
      exact hY
    · split at h
      · rename_i e
        subst e
        cases h
        exact hO
      · cases h
  I := fun f it h => by cases h
  mkm := fun d h => by cases h
  up := fun u h => by cases h

theorem on_ctr {b : Bool} : ∀ (fu : Nat) {E : Env}, E.toBase = Bs → ∀ okP : Int → List AV → List Int → Bool, TCtr E 1 (gY okP b) → TCtr E 3 (gO okP b fu)
  | 0, E, hE, okP, hY => by
    intro V io W tr t d xv args vs r items hb hn hM hJ ht hr hg
    unfold gO at hg
    split at hg
    · split at hg
      · simp only [Option.some.injEq, Prod.mk.injEq] at hg
        have := hg.1
        simp [onT] at this
      · cases hg
    · cases hg
  | fu + 1, E, hE, okP, hY => by
    intro V io W tr t d xv args vs r items hb hn hM hJ ht hr hg
    have hTR : E.TR = TRr := congrArg Base.TR hE
    have hP : E.P = Tryd.prog := congrArg Base.P hE
    unfold gO at hg
    split at hg
    · rename_i a0 a1 a2
      split at hg
      · rename_i D x0 x1 x2 hD h0 h1 h2
        simp only [Option.some.injEq, Prod.mk.injEq] at hg
        obtain ⟨hT, rfl, rfl⟩ := hg
        obtain ⟨l, x, y⟩ := D
        have hxy : x = y := by
          unfold onT at hT
          simp only [Bool.and_eq_true, decide_eq_true_eq] at hT
          exact hT.2.2.2.1
        subst hxy
        have e1 := castD_eq hD
        cases e1
        rw [hTR] at ht
        have ht' := ht
        obtain ⟨l', x', y', e2, ya, fa, oa, hv, hya, hfa, hoa⟩ := ht
        cases e2
        subst hv
        refine .inl ⟨_, [], [.pointer (some ya), .pointer (some fa), .pointer (some oa)], Tryd.f91, rfl, by rw [hP]; exact Tryd.func91, by kernel_rfl, by kernel_rfl, ?_⟩
        have hY' : TCtr (E.behind tr) 1 (gY (shP okP tr) b) := tctr_shift hY tr
        have hO' : TCtr (E.behind tr) 3 (gO (shP okP tr) b fu) := by
          have := tctr_shift (on_ctr fu hE okP hY) tr
          rw [gO_shift] at this
          exact this
        have hX := ctx91 h77 h88 (E := E.behind tr) hE hY' hO'
        obtain ⟨N, hN⟩ := on_sp (okP := shP okP tr) (b := b) (fu := fu) (a0 := x0) (left := x1) (e := x2) (l := l) (x := x) (by rw [onT_shift, List.append_nil]; exact hT)
        have hev := (f91_ev (shP okP tr) b fu x0 x1 x2 l x x N).trans hN
        have hrel : RelV E.TR (baseCx V io) W [enc tInts x0, enc tUsed x1, enc tSpan x2, .cref (.tok 1 .int l) [], .cref (.agg [enc tRF x, .tok 0 tRF x]) [], .cref (.tok 3 tOn (l, x, x)) []] (vs ++ [.pointer (some ya), .pointer (some fa), .pointer (some oa)]) := by
          have := wkV_rel hr
          simp only [wkL, wk_dec h0, wk_dec h1, wk_dec h2] at this
          exact relV_append this (by rw [hTR]; exact on_caps hya hfa hoa ht')
        have := tctr_of (E := E) (tr := tr) hX (by rw [hP]; exact Tryd.func91) hev hb hn hM hJ hrel
        exact this
      · cases hg
    · cases hg
end

def ordT (x y : Fi) (set : List Bool) : Bool := decide (x = y) && (allOK x && decide (set.count true ≤ 6))

/-- What is ranged over: all orders of some reels. -/
def itO : It := ⟨tInts, fun cap =>
  match cap with
  | [.cref (.agg (a :: r)) [], .cref s []] =>
    match dec tRF a, dec tUsed s, r with
    | some x, some set, [.tok 0 t d] => (match castD tRF t d with | some y => some (ordT x y set, ordersF x set) | none => none)
    | _, _, _ => none
  | _ => none⟩

theorem okSeq_all {ok : List AV → List Int → Bool} {xs : List (List Int)} (h : ∀ pre y rest, xs = pre ++ y :: rest → ok (pre.map (enc tInts)) y = true) : ∀ (pre rest : List (List Int)), xs = pre ++ rest → okSeq ok (pre.map (enc tInts)) rest = true
  | pre, [], _ => rfl
  | pre, y :: rest, e => by
    simp only [okSeq, Bool.and_eq_true]
    refine ⟨h pre y rest e, ?_⟩
    have := okSeq_all h (pre ++ [y]) rest (by rw [e]; simp)
    simpa using this

theorem itO_ok (h77 : Good 77 g77) (h88 : Good 88 g88) : ICtr Bs 90 itO := by
  intro E hE b V io W l cap caps xs hb hn hM hJ hr hit hY
  have hTR : E.TR = TRr := congrArg Base.TR hE
  have hP : E.P = Tryd.prog := congrArg Base.P hE
  simp only [itO] at hit
  split at hit
  · rename_i a r s
    split at hit
    · rename_i x set t d h0 h1
      split at hit
      · rename_i y h2
        have hit2 := Option.some.inj hit
        have hT : ordT x y set = true := congrArg Prod.fst hit2
        have hxs : ordersF x set = xs := congrArg Prod.snd hit2
        subst hxs
        simp only [ordT, Bool.and_eq_true, decide_eq_true_eq] at hT
        obtain ⟨rfl, hx, h6⟩ := hT
        have e1 := castD_eq h2
        cases e1
        let okP : Int → List AV → List Int → Bool := fun l' tr y => @decide (l' = l ∧ ∃ pre rest, tr = pre.map (enc tInts) ∧ ordersF x set = pre ++ y :: rest ∧ (b = false → pre = [])) (Classical.propDecidable _)
        have hY1 : TCtr E 1 (gY okP b) := by
          intro V' io' W' tr t' d' xv args vs r' items hb' hn' hM' hJ' ht' hr' hg
          unfold gY at hg
          split at hg
          · rename_i a1
            split at hg
            · rename_i l' y1 hl hy
              simp only [Option.some.injEq, Prod.mk.injEq] at hg
              obtain ⟨hok, rfl, rfl⟩ := hg
              simp only [okP, decide_eq_true_eq] at hok
              obtain ⟨rfl, pre, rest, rfl, hxs, hbp⟩ := hok
              have e2 := castD_eq hl
              cases e2
              rw [hTR] at ht'
              obtain ⟨l2, e3, rfl⟩ := ht'
              cases e3
              have hr2 := wkV_rel hr'
              simp only [wkL, wk_dec hy] at hr2
              have := hY pre y1 rest hxs hbp V' io' W' vs hb' hn' hM' hJ' hr2
              have conv : ∀ {y : Value} {W2 : World}, (∃ io2, y = .bool b ∧ Keep E.M io' io2 W' W2 ∧ IoOK E.MI io2 W2 ∧ E.J ((pre ++ [y1]).map (enc tInts)) V' io2 W2) →
                  ∃ io2, VR E.TR (baseCx V' io2) W2 (.bool b) y ∧ Keep E.M io' io2 W' W2 ∧ IoOK E.MI io2 W2 ∧ E.J (pre.map (enc tInts) ++ [enc tInts y1]) V' io2 W2 := fun ⟨io2, q1, q2, q3, q4⟩ => ⟨io2, by rw [q1]; exact .inr ⟨[.bool b], rfl, by simp [Rel], rfl⟩, q2, q3, by simpa using q4⟩
              rcases this with ⟨f, xs1, ys1, fn, g1, g2, g3, g4, g5⟩ | ⟨l3, g1, fn, tm, asg, bd, g2, g3⟩
              · exact .inl ⟨f, xs1, ys1, fn, g1, g2, g3, g4, Calls.mono g5 fun e W2 ⟨q, hq, hh⟩ => ⟨q, hq, conv hh⟩⟩
              · exact .inr ⟨l3, g1, fn, tm, asg, bd, g2, RoundIn.mono g3 fun e W2 ⟨q, hq, hh⟩ => ⟨q, hq, conv hh⟩⟩
            · cases hg
          · cases hg
        have hO1 := on_ctr h77 h88 (b := b) 7 hE okP hY1
        have hX := ctx91 h77 h88 (E := E.behind []) hE (okP := okP) (b := b) (fu := 7) (tctr_shift hY1 []) (tctr_shift hO1 [])
        have hon : onT okP b 7 [] (l, x, x) [] set (-1, 99) = true := by
          unfold onT
          simp only [Bool.and_eq_true, decide_eq_true_eq]
          refine ⟨by omega, h6, by simpa using h6, trivial, hx, ?_⟩
          rw [onL_eq]
          have hm : (ordsF x 7 set (-1, 99)).map (fun l => ([] : List Int) ++ l) = ordersF x set := by simp [ordersF]
          simp only at hm ⊢
          rw [hm]
          cases b with
          | true =>
            refine okSeq_all (xs := ordersF x set) (fun pre y rest e => ?_) [] _ rfl
            simp only [okP, decide_eq_true_eq]
            exact ⟨trivial, pre, rest, rfl, e, fun h => nomatch h⟩
          | false =>
            unfold tk
            simp only [Bool.false_eq_true, if_false]
            cases hq : ordersF x set with
            | nil => rfl
            | cons y ys =>
              simp only [List.take_succ_cons, List.take_zero, okSeq, Bool.and_true, okP, decide_eq_true_eq]
              exact ⟨trivial, [], ys, rfl, by rw [hq]; rfl, fun _ => rfl⟩
        have hev := f90_ev okP b 7 l x x set 0
        rw [hon] at hev
        simp only [cond_true] at hev
        have hrel : RelV E.TR (baseCx V io) W [.tok 1 .int l, .cref (.agg [enc tRF x, .tok 0 tRF x]) [], .cref (enc tUsed set) []] (Value.func (.yield l) #[] #[] :: caps) := by
          have := wkV_rel hr
          simp only [wkL, wkAV, wk_dec h0, wk_dec h1] at this
          simp only [RelV]
          refine ⟨_, _, rfl, .inr ⟨[.func (.yield l) #[] #[]], rfl, ?_, rfl⟩, ?_⟩
          · rw [hTR]
            simp only [Rel]
            exact ⟨_, rfl, l, rfl, rfl⟩
          · simp only [RelV] at this
            rw [hTR]
            exact this
        have hcall := tctr_ofZ (E := E) (tr := []) hX (by rw [hTR]; exact onFrz_ok) (by rw [hP]; exact Tryd.func90) hev (by rw [hE]; exact hb) hn hM hJ hrel
        rw [hP] at hcall
        refine Calls.mono hcall ?_
        rintro e W' ⟨v, rfl, io', _, q1, q2, q3⟩
        refine ⟨v, rfl, io', q1, by rw [← hE]; exact q2, ?_⟩
        have : told itO.t b (ordersF x set) = [] ++ ([] ++ onI b (l, x, x) [] set (-1, 99)) := by
          simp only [List.nil_append, onI, onL_eq, told, itO, tk]
          have hm : (ordsF x 7 set (-1, 99)).map (fun l => ([] : List Int) ++ l) = ordersF x set := by simp [ordersF]
          simp only [List.nil_append] at hm
          rw [hm]
          cases b <;> simp
        rw [this]
        exact q3
      · cases hit
    · cases hit
  · cases hit

end Ev
end Go.Proofs.YtidnikjkpbmhhaaDoor
