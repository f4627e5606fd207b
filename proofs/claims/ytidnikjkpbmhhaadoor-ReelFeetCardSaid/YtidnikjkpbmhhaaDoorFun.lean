/- Control flow and whole functions: what the evaluator answers is what the machine's call returns. -/
import Derived.Test.YtidnikjkpbmhhaaDoorFrz
import Derived.LoopNIn
import Derived.Scope
set_option linter.unusedVariables false
set_option linter.unusedSimpArgs false
namespace Go.Proofs.YtidnikjkpbmhhaaDoor
namespace Ev

variable {E : Env} {V0 : Nat → Nat → Prop} {io0 : Io} {W0 : World} {C : Cx} {s s' s1 s2 : St} {a : Act} {W : World} {X : Ctx} {o : Oper}

theorem loopN_ok {ρ : Type} {ro : Option Nat} {D : Nat → Prop} {a0 : Act} {C0 : Cx} {Wa : World} {c : Code} {B : St → (Ex → St → Option ρ) → Option ρ} (hB : BOK ro D a0 C0 Wa E V0 io0 W0 c B) {w : List Nat × List Nat} {K : Ex → St → Option ρ} {r : ρ} {Q : Exit → Act → World → Prop} (hK : KOK D a0 C0 Wa E V0 io0 W0 K r Q) :
    ∀ n s C a W, loopN B w n s K = some r → Sim E V0 io0 W0 C s a W → Fm E.M D a0 a C0 C Wa W → Code.roundsIn (Fr ro) 0 E.P c Q n a W
  | 0, s, C, a, W, h, S, hF => by cases h
  | n + 1, s, C, a, W, h, S, hF => by
    rw [roundsIn_succ]
    refine hB _ r (Exit.then (Code.roundsIn (Fr ro) 0 E.P c Q n) Q) ?_ s C a W h S hF
    intro e s' he C' a' W' S' hF'
    cases e with
    | norm => exact loopN_ok hB hK n _ _ a' W' he (S'.mask w) (hF'.mask w.1)
    | exit j => exact hK (.exit j) s' he C' a' W' S' hF'
    | ret => exact hK .ret s' he C' a' W' S' hF'

theorem evC_ok {ρ : Type} (hX : CtxOK E X) (N : Nat) : ∀ (c : Code) (ro : Option Nat), (ro = none ∨ noRange c = true) → ∀ {D : Nat → Prop} {a0 : Act} {C0 : Cx} {Wa : World}, (∀ k ∈ dsts c, D k) → BOK (ρ := ρ) ro D a0 C0 Wa E V0 io0 W0 c (evC X N c)
  | .skip => fun ro hro D a0 C0 Wa hD K r Q hK s C a W h S hF => wpIn_skip (hK .norm s h C a W S hF)
  | .label l => fun ro hro D a0 C0 Wa hD K r Q hK s C a W h S hF => wpIn_label (hK .norm s h C a W S hF)
  | .exit j => fun ro hro D a0 C0 Wa hD K r Q hK s C a W h S hF => wpIn_exit (hK (.exit j) s h C a W S hF)
  | .ret => fun ro hro D a0 C0 Wa hD K r Q hK s C a W h S hF => wpIn_ret (hK .ret s h C a W S hF)
  | .region id ops dr => fun ro hro D a0 C0 Wa hD K r Q hK s C a W h S hF => by
    simp only [evC] at h
    split at h
    · rename_i hc
      rw [evOps_eq] at h
      split at h
      · rename_i s' hs
        have hDo : ∀ o ∈ ops.toList, ∀ k, o.dst = some k → D k := fun o ho k hk => hD k (List.mem_filterMap.2 ⟨o, ho, hk⟩)
        cases dr with
        | false => exact region_text hX ro hs S hDo hF fun C' a' W' S' hf => hK .norm s' h C' a' W' S' hf
        | true => exact region_any hX ro (hc.resolve_left (by simp)) hs S hDo hF fun C' a' W' S' hf => hK .norm s' h C' a' W' S' hf
      · cases h
    · cases h
  | .seq x y => fun ro hro D a0 C0 Wa hD K r Q hK s C a W h S hF => by
    simp only [evC] at h
    refine wpIn_seq (evC_ok hX N x ro (hro.imp_right fun h => (by simp only [noRange, Bool.and_eq_true] at h; exact h.1)) (fun k hk => hD k (List.mem_append_left _ hk)) _ r _ ?_ s C a W h S hF)
    intro e s' he C' a' W' S' hF'
    cases e with
    | norm => exact evC_ok hX N y ro (hro.imp_right fun h => (by simp only [noRange, Bool.and_eq_true] at h; exact h.2)) (fun k hk => hD k (List.mem_append_right _ hk)) K r Q hK s' C' a' W' he S' hF'
    | exit j => exact hK (.exit j) s' he C' a' W' S' hF'
    | ret => exact hK .ret s' he C' a' W' S' hF'
  | .cond c x y => fun ro hro D a0 C0 Wa hD K r Q hK s C a W h S hF => by
    simp only [evC] at h
    have hc := S.evO hX 0 c
    cases ht : evO X s 0 c with
    | bool t =>
      rw [ht] at h hc
      have hb := hc.bool_inv
      have e : ∀ u k, c = .tmp k → u = t → (⟨s.tmps.set k (.bool u), s.objs⟩ : St) = s := fun u k hk hu => by
        subst hu
        subst hk
        simp only [evO] at ht
        rw [set_same ht (by simp)]
      dsimp only at h
      cases t with
      | true =>
        refine wpIn_cond_true hb (evC_ok hX N x ro (hro.imp_right fun h => (by simp only [noRange, Bool.and_eq_true] at h; exact h.1)) (fun k hk => hD k (List.mem_append_left _ hk)) K r Q hK s C a W ?_ S hF)
        cases c with
        | tmp k =>
          simp only [cond_true] at h
          rwa [e true k rfl rfl] at h
        | _ => exact h
      | false =>
        refine wpIn_cond_false hb (evC_ok hX N y ro (hro.imp_right fun h => (by simp only [noRange, Bool.and_eq_true] at h; exact h.2)) (fun k hk => hD k (List.mem_append_right _ hk)) K r Q hK s C a W ?_ S hF)
        cases c with
        | tmp k =>
          simp only [cond_false] at h
          rwa [e false k rfl rfl] at h
        | _ => exact h
    | _ => rw [ht] at h; cases h
  | .block id b => fun ro hro D a0 C0 Wa hD K r Q hK s C a W h S hF => by
    simp only [evC] at h
    refine wpIn_block (evC_ok hX N b ro hro hD _ r _ ?_ s C a W h S hF)
    intro e s' he C' a' W' S' hF'
    cases e with
    | norm => exact hK .norm s' he C' a' W' S' hF'
    | exit j =>
      simp only [blockK] at he
      simp only [toExit, Exit.inBlock]
      split
      · rename_i hj
        rw [if_pos hj] at he
        exact hK .norm s' he C' a' W' S' hF'
      · rename_i hj
        rw [if_neg hj] at he
        exact hK (.exit j) s' he C' a' W' S' hF'
    | ret => exact hK .ret s' he C' a' W' S' hF'
  | .loop b => fun ro hro D a0 C0 Wa hD K r Q hK s C a W h S hF => by
    simp only [evC] at h
    exact wpIn_loop_rounds N (loopN_ok (evC_ok hX N b ro hro hD) hK N _ _ a W h (S.mask _) (hF.mask _))
  | .scope b => fun ro hro D a0 C0 Wa hD K r Q hK s C a W h S hF => by
    simp only [evC] at h
    refine wpIn_scope (evC_ok hX N b ro hro hD K r _ ?_ s C a W h S hF)
    intro e s' he C' a' W' S' hF'
    cases e with
    | norm => exact hK .norm s' he C' a' W' S' hF'
    | exit j => exact hK (.exit j) s' he C' a' W' S' hF'
    | ret => exact hK .ret s' he C' a' W' S' hF'
  | .rangeFunc g ps assign body => fun ro hro D a0 C0 Wa hD K r Q hK s C a W h S hF => by
    have : ro = none := hro.resolve_right (by simp [noRange])
    subst this
    exact range_ok hX (fun hn l _ _ _ _ hD => evC_ok hX N assign (some l) (.inr hn) hD) (fun hn l _ _ _ _ hD => evC_ok hX N body (some l) (.inr hn) hD) hK h S hF
  | .goto .. => fun ro hro D a0 C0 Wa hD K r Q hK s C a W h S hF => by cases h
  | .refuse .. => fun ro hro D a0 C0 Wa hD K r Q hK s C a W h S hF => by cases h

theorem evZ_ok {ρ : Type} (hX : CtxOK E X) (N : Nat) {z : Frz} (hz : FrzOK E.TR z) : ∀ (n : Nat) (c : Code) (K : Ex → St → Option ρ) (r : ρ) (Q : Exit → Act → World → Prop), (∀ e s, K e s = some r → ∀ C a W, Sim E V0 io0 W0 C s a W → Q (toExit e) a W) →
    ∀ s C a W, evZ X N z n c s K = some r → Sim E V0 io0 W0 C s a W → c.wpIn (Fr none) 0 E.P Q a W
  | 0, c, K, r, Q, hK, s, C, a, W, h, S => by
    simp only [evZ] at h
    split at h
    · rename_i s' hs
      obtain ⟨C', S'⟩ := freeze_ok S hz hs
      exact evC_ok hX N c none (.inl rfl) (D := fun _ => True) (fun _ _ => trivial) K r Q (fun e s he C a W S _ => hK e s he C a W S) s' C' a W h S' (Fm.refl _ _ _ _ _)
    · cases h
  | n + 1, .seq x y, K, r, Q, hK, s, C, a, W, h, S => by
    simp only [evZ] at h
    refine wpIn_seq (evC_ok hX N x none (.inl rfl) (D := fun _ => True) (fun _ _ => trivial) _ r _ ?_ s C a W h S (Fm.refl _ _ _ _ _))
    intro e s' he C' a' W' S' _
    cases e with
    | norm => exact evZ_ok hX N hz n y K r Q hK s' C' a' W' he S'
    | exit j => exact hK (.exit j) s' he C' a' W' S'
    | ret => exact hK .ret s' he C' a' W' S'
  | n + 1, .region .., K, r, Q, hK, s, C, a, W, h, S => by cases h
  | n + 1, .cond .., K, r, Q, hK, s, C, a, W, h, S => by cases h
  | n + 1, .block .., K, r, Q, hK, s, C, a, W, h, S => by cases h
  | n + 1, .loop .., K, r, Q, hK, s, C, a, W, h, S => by cases h
  | n + 1, .scope .., K, r, Q, hK, s, C, a, W, h, S => by cases h
  | n + 1, .exit .., K, r, Q, hK, s, C, a, W, h, S => by cases h
  | n + 1, .ret, K, r, Q, hK, s, C, a, W, h, S => by cases h
  | n + 1, .skip, K, r, Q, hK, s, C, a, W, h, S => by cases h
  | n + 1, .label .., K, r, Q, hK, s, C, a, W, h, S => by cases h
  | n + 1, .goto .., K, r, Q, hK, s, C, a, W, h, S => by cases h
  | n + 1, .refuse .., K, r, Q, hK, s, C, a, W, h, S => by cases h
  | n + 1, .rangeFunc .., K, r, Q, hK, s, C, a, W, h, S => by cases h

/-- A way of walking a body that is sound. -/
def Walks {ρ : Type} (E : Env) (c : Code) (B : St → (Ex → St → Option ρ) → Option ρ) : Prop :=
  ∀ (V0 : Nat → Nat → Prop) (io0 : Io) (W0 : World) (K : Ex → St → Option ρ) (r : ρ) (Q : Exit → Act → World → Prop), (∀ e s, K e s = some r → ∀ C a W, Sim E V0 io0 W0 C s a W → Q (toExit e) a W) →
    ∀ s C a W, B s K = some r → Sim E V0 io0 W0 C s a W → c.wpIn (Fr none) 0 E.P Q a W

theorem walks_evC {ρ : Type} (hX : CtxOK E X) (N : Nat) (c : Code) : Walks (ρ := ρ) E c (evC X N c) := fun V0 io0 W0 K r Q hK s C a W h S =>
  evC_ok hX N c none (.inl rfl) (D := fun _ => True) (fun _ _ => trivial) K r Q (fun e s he C a W S _ => hK e s he C a W S) s C a W h S (Fm.refl _ _ _ _ _)
theorem walks_evZ {ρ : Type} (hX : CtxOK E X) (N : Nat) {z : Frz} (hz : FrzOK E.TR z) (n : Nat) (c : Code) : Walks (ρ := ρ) E c (evZ X N z n c) := fun V0 io0 W0 K r Q hK s C a W h S =>
  evZ_ok hX N hz n c K r Q hK s C a W h S

/-! Whole functions. -/

theorem CxLe.back (S : Sim E V0 io0 W0 C s a W) : CxLe (baseCx C.V C.io) (baseCx V0 C.io) W W :=
  ⟨⟨fun _ _ h _ => h, fun b o _ h => S.V0V b o h⟩, (fun _ _ h => by cases h), (fun _ _ _ h => by cases h), fun _ _ => rfl, Nat.le_refl _⟩

theorem vr_st {v : AV} {x : Value} (h : VR E.TR C W v x) : VR E.TR (baseCx C.V C.io) W (stAV v) x := by
  rcases h with h1 | ⟨cs, g0, g1, g2⟩
  · subst h1
    exact .inl rfl
  · exact .inr ⟨cs, by rw [st_size, g0], st_rel g1, by rw [g2]; simp only [mkV, st_isAg]⟩

mutual
theorem fr_size (obs : List Ob) : ∀ v : AV, (frAV obs v).size = v.size
  | .poison => rfl
  | .undef => rfl
  | .int _ => rfl
  | .bool _ => rfl
  | .agg l => by simp only [frAV, AV.size]; exact frL_size obs l
  | .arr .. => rfl
  | .sl .. => rfl
  | .tup _ => rfl
  | .ref k p => by
    simp only [frAV]
    split <;> rfl
  | .cref .. => rfl
  | .fn .. => rfl
  | .map _ => rfl
  | .tok .. => rfl
theorem frL_size (obs : List Ob) : ∀ l : List AV, sizeL (frL obs l) = sizeL l
  | [] => rfl
  | v :: l => by simp only [frL, sizeL, fr_size obs v, frL_size obs l]
end

theorem fr_isAg (obs : List Ob) : ∀ v : AV, isAg (frAV obs v) = isAg v := fun v => by
  cases v <;> simp only [frAV] <;> first
    | rfl
    | (split <;> rfl)

mutual
theorem fr_rel (S : Sim E V0 io0 W0 C s a W) : ∀ {v : AV} {cs : List Value}, Rel E.TR C W v cs → Rel E.TR (baseCx V0 C.io) W (frAV s.objs v) cs
  | .poison, cs, h => Rel.mono E.hT (CxLe.back S) (st_rel h)
  | .undef, cs, h => Rel.mono E.hT (CxLe.back S) (st_rel h)
  | .int _, cs, h => Rel.mono E.hT (CxLe.back S) (st_rel h)
  | .bool _, cs, h => Rel.mono E.hT (CxLe.back S) (st_rel h)
  | .agg l, cs, h => by
    simp only [frAV, Rel] at h ⊢
    exact frL_rel S h
  | .arr .., cs, h => Rel.mono E.hT (CxLe.back S) (st_rel h)
  | .sl t f l, cs, h => Rel.mono E.hT (CxLe.back S) (st_rel h)
  | .tup l, cs, h => by
    simp only [frAV, Rel] at h ⊢
    obtain ⟨vs, e, h⟩ := h
    exact ⟨vs, e, frV_rel S h⟩
  | .ref k p, cs, h => by
    simp only [frAV]
    cases ho : s.objs.getD k .none with
    | box v =>
      simp only [Rel] at h
      obtain ⟨b, hb, hp, e⟩ := h
      have hk : s.objs[k]? = some (.box v) := by
        cases hq : s.objs[k]? with
        | none => simp [List.getD, hq] at ho
        | some q => simp [List.getD, hq] at ho; rw [ho]
      obtain ⟨b1, ds, ty, h1, h2, h3, h4, h5⟩ := S.bx k v hk
      rw [hb] at h1
      cases h1
      simp only [Rel]
      refine ⟨⟨b, 0, none⟩, ds.toList, Rel.mono E.hT (CxLe.back S) (st_rel h4), fun i x hi => ⟨?_, ?_⟩, hp, ?_⟩
      · have hi' : ds[i]? = some x := by simpa using hi
        have e : (⟨b, 0, none⟩ : Addr).add i = ⟨b, i, none⟩ := by
          unfold Addr.add
          split
          · rename_i h; subst h; rfl
          · simp
        rw [e]
        unfold World.cell?
        simp only [h2]
        simpa using hi'
      · intro hv
        have : b < W0.heap.size := S.old0 _ _ hv
        omega
      · rw [e]
        congr 3
        unfold Addr.add
        split
        · rename_i h; simp [h]
        · simp
    | _ =>
      simp only [Rel] at h ⊢
      obtain ⟨b, _, _, e⟩ := h
      exact ⟨_, e⟩
  | .cref v p, cs, h => Rel.mono E.hT (CxLe.back S) (st_rel h)
  | .fn f x y, cs, h => by
    simp only [frAV, Rel] at h ⊢
    obtain ⟨xs, ys, e, h1, h2⟩ := h
    exact ⟨xs, ys, e, frV_rel S h1, frV_rel S h2⟩
  | .map _, cs, h => by simp only [Rel] at h
  | .tok .., cs, h => Rel.mono E.hT (CxLe.back S) (st_rel h)
theorem frL_rel (S : Sim E V0 io0 W0 C s a W) : ∀ {l : List AV} {cs : List Value}, RelL E.TR C W l cs → RelL E.TR (baseCx V0 C.io) W (frL s.objs l) cs
  | [], cs, h => by simpa only [frL, RelL] using h
  | v :: l, cs, h => by
    simp only [frL, RelL] at h ⊢
    obtain ⟨c, d, e, hl, h1, h2⟩ := h
    exact ⟨c, d, e, by rw [fr_size, hl], fr_rel S h1, frL_rel S h2⟩
theorem frV_rel (S : Sim E V0 io0 W0 C s a W) : ∀ {l : List AV} {vs : List Value}, RelV E.TR C W l vs → RelV E.TR (baseCx V0 C.io) W (frL s.objs l) vs
  | [], cs, h => by simpa only [frL, RelV] using h
  | v :: l, cs, h => by
    simp only [frL, RelV] at h ⊢
    obtain ⟨x, r, e, h1, h2⟩ := h
    refine ⟨x, r, e, ?_, frV_rel S h2⟩
    rcases h1 with h1 | ⟨ds, g1, g2, g3⟩
    · subst h1
      exact .inl rfl
    · exact .inr ⟨ds, by rw [fr_size, g1], fr_rel S g2, by rw [g3]; simp [mkV, fr_isAg]⟩
end

theorem vr_fr (S : Sim E V0 io0 W0 C s a W) {v : AV} {x : Value} (h : VR E.TR C W v x) : VR E.TR (baseCx V0 C.io) W (frAV s.objs v) x := by
  rcases h with h1 | ⟨cs, g0, g1, g2⟩
  · subst h1
    exact .inl rfl
  · exact .inr ⟨cs, by rw [fr_size, g0], fr_rel S g1, by rw [g2]; simp only [mkV, fr_isAg]⟩

/-- One result. -/
def resM (tm : Array Value) : ResultVar → Sem Value
  | .tmp t => pure (tm.getD t undef)
  | .cell a t => do loadVar t (← asAddr (tm.getD a undef))

theorem results_eq (fn : Func) (tm : Array Value) : results fn tm = (do let vs ← fn.results.mapM (resM tm); pure (if h : vs.size = 1 then vs[0] else .tuple vs)) := rfl

theorem resV_ok (hX : CtxOK E X) (S : Sim E V0 io0 W0 C s a W) {x : ResultVar} {v : AV} (h : resV X s x = some v) :
    ∃ y, (resM a.tmps x).run E.P W = .ok y W ∧ VR E.TR C W v y := by
  cases x with
  | tmp t =>
    simp only [resV, Option.some.injEq] at h
    subst h
    exact ⟨_, rfl, S.get t⟩
  | cell b t =>
    simp only [resV] at h
    split at h
    · rename_i u hu
      split at h
      · rename_i hf
        cases h
        obtain ⟨ad, cs, e, h1, h2⟩ := S.ld (S.get b) hu
        obtain ⟨i, hi, hs, hg⟩ := fits_inv hf
        refine ⟨mkV v cs, ?_, VR.mk h1⟩
        simp only [resM, e, asAddr, Sem.run_bind, Sem.run_pure, Result.andThen_ok]
        exact run_loadVar' (hX.T t i hi) hs hg h1.len h2 size_one
      · cases h
    · cases h

theorem resVs_ok (hX : CtxOK E X) (S : Sim E V0 io0 W0 C s a W) : ∀ {l : List ResultVar} {vs : List AV}, resVs X s l = some vs →
    ∃ ys : List Value, (l.mapM (resM a.tmps)).run E.P W = .ok ys W ∧ RelV E.TR C W vs ys
  | [], vs, h => by
    cases h
    exact ⟨[], rfl, rfl⟩
  | x :: l, vs, h => by
    simp only [resVs] at h
    split at h
    · rename_i v m hv hm
      cases h
      obtain ⟨y, hy, hr⟩ := resV_ok hX S hv
      obtain ⟨ys, hys, hrs⟩ := resVs_ok hX S hm
      refine ⟨y :: ys, ?_, ?_⟩
      · rw [List.mapM_cons]
        simp only [Sem.run_bind, hy, hys, Result.andThen_ok, Sem.run_pure]
      · simp only [RelV]
        exact ⟨y, ys, rfl, hr, hrs⟩
    · cases h

theorem stL_len : ∀ l : List AV, (stL l).length = l.length
  | [] => rfl
  | v :: l => by simp only [stL, List.length_cons, stL_len l]
theorem relV_len {TR : TokRel} {C : Cx} : ∀ {l : List AV} {vs : List Value}, RelV TR C W l vs → vs.length = l.length
  | [], vs, h => by simp only [RelV] at h; subst h; rfl
  | v :: l, vs, h => by
    simp only [RelV] at h
    obtain ⟨x, r, rfl, _, h⟩ := h
    simp only [List.length_cons, relV_len h]

theorem resAV_ok (hX : CtxOK E X) (S : Sim E V0 io0 W0 C s a W) {fn : Func} {r : AV} (h : resAV X fn s = some r) : ∃ v, (results fn a.tmps).run E.P W = .ok v W ∧ VR E.TR (baseCx V0 C.io) W r v := by
  unfold resAV at h
  rw [results_eq, Array.mapM_eq_mapM_toList]
  cases hr : resVs X s fn.results.toList with
  | none => rw [hr] at h; cases h
  | some vs =>
    rw [hr] at h
    obtain ⟨ys, h1, h2⟩ := resVs_ok hX S hr
    have hrun : (do let vs ← (List.toArray <$> fn.results.toList.mapM (resM a.tmps) : Sem (Array Value)); pure (if h : vs.size = 1 then vs[0] else .tuple vs) : Sem Value).run E.P W = .ok (if h : ys.toArray.size = 1 then ys.toArray[0] else .tuple ys.toArray) W := by
      rw [map_eq_pure_bind]
      simp only [Sem.run_bind, h1, Result.andThen_ok, Sem.run_pure]
    refine ⟨_, hrun, ?_⟩
    have hlen := relV_len h2
    match vs, h, h2, hlen with
    | [v], h, h2, hlen =>
      cases h
      simp only [RelV] at h2
      obtain ⟨y, r, rfl, h3, h4⟩ := h2
      subst h4
      exact vr_fr S h3
    | [], h, h2, hlen =>
      cases h
      simp only [RelV] at h2
      subst h2
      exact .inr ⟨[.tuple #[]], rfl, by simp only [Rel]; exact ⟨[], rfl, by simp [frL, RelV]⟩, rfl⟩
    | v :: w :: l, h, h2, hlen =>
      cases h
      rw [dif_neg (by simp [hlen])]
      refine .inr ⟨[.tuple ys.toArray], rfl, ?_, rfl⟩
      simp only [Rel]
      exact ⟨ys, rfl, frV_rel S h2⟩

/-- A call's frame, as it begins: some boxes' places, and at the end, maybe, what has been told. -/
theorem st0_sim' {V : Nat → Nat → Prop} {io : Io} {args : List AV} {vs : List Value} {s0 : St} (hb : BaseOK E.toBase V io W) (hr : RelV E.TR (baseCx V io) W args vs) (fn : Func) (h0 : s0.tmps = (st0 fn args).tmps) (hob : ∀ (k : Nat) (x : Ob), s0.objs[k]? = some x → x = Ob.none ∨ x = .map 0 0 [])
    (hn : E.n0 ≤ W.heap.size) (hM : ∀ b, E.M b → b < E.n0 ∧ ∀ o, V b o) (hJ : ∀ (k : Nat), s0.objs[k]? = some (.map 0 0 []) → E.J [] V io W) :
    Sim E V io W (baseCx V io) s0 { tmps := vs.toArray ++ Array.replicate (fn.ntmps - vs.toArray.size) undef, defers := [] } W := by
  have hlen := relV_len hr
  refine ⟨?_, ?_, (DfOK.nil _ _), ?_, ?_, ?_, ?_, ?_, ?_, ?_, fun b o h => .inl h, fun b o h => h, hb.iok, hb.gl, Keep.refl _ _ _, hb.old, hn, hM, fun k x y tr _ h => ?_⟩
  · simp [h0, st0, hlen]
  · intro t x hx
    rw [h0] at hx
    have hx' : (args ++ List.replicate (fn.ntmps - args.length) AV.undef)[t]? = some x := hx
    rcases Nat.lt_or_ge t args.length with h | h
    · rw [List.getElem?_append_left h] at hx'
      obtain ⟨v, hv, hvr⟩ := relV_get hr t x hx'
      refine ⟨v, ?_, hvr⟩
      rw [Array.getElem?_append_left (by simpa [hlen] using h)]
      simpa using hv
    · rw [List.getElem?_append_right h] at hx'
      have hu := List.eq_of_mem_replicate (List.mem_of_getElem? hx')
      subst hu
      have hlt := (List.getElem?_eq_some_iff.1 hx').1
      refine ⟨undef, ?_, vr_undef⟩
      rw [Array.getElem?_append_right (by simpa [hlen] using h)]
      simp at hlt ⊢
      rw [hlen]
      simp [hlt]
  · intro k v h
    rcases hob k _ h with h | h <;> cases h
  · intro k b h
    cases h
  · intro k k' b h
    cases h
  · intro k b o h
    cases h
  · intro k v al
    exact ⟨(fun h => nomatch h), fun h => by rcases hob k _ h with h | h <;> cases h⟩
  · intro k v b lo hi o h
    cases h
  · intro k k' v v' b lo hi lo' hi' o h
    cases h
  · rcases hob k _ h with h' | h'
    · cases h'
    · cases h'
      exact hJ k h

theorem objs0 (fn : Func) (args : List AV) : ∀ (k : Nat) (x : Ob), (st0 fn args).objs[k]? = some x → x = Ob.none := fun k x h => by
  have := List.mem_of_getElem? (show (List.replicate fn.ntmps Ob.none)[k]? = some x from h)
  exact List.eq_of_mem_replicate this

theorem st0_sim {V : Nat → Nat → Prop} {io : Io} {args : List AV} {vs : List Value} (hb : BaseOK E.toBase V io W) (hr : RelV E.TR (baseCx V io) W args vs) (fn : Func) (hn : E.n0 ≤ W.heap.size) (hM : ∀ b, E.M b → b < E.n0 ∧ ∀ o, V b o) :
    Sim E V io W (baseCx V io) (st0 fn args) { tmps := vs.toArray ++ Array.replicate (fn.ntmps - vs.toArray.size) undef, defers := [] } W :=
  st0_sim' hb hr fn rfl (fun k x h => .inl (objs0 fn args k x h)) hn hM fun k h => nomatch objs0 fn args k _ h

/-- A call returns: the mark, if there is one, is taken. -/
theorem leave_ok (S : Sim E V0 io0 W0 C s a W) {fn : Func} {R : Ending → World → Prop} (h : ∀ a' W', a'.tmps = a.tmps → Sim E V0 io0 W0 C s a' W' → ∃ v, (results fn a'.tmps).run E.P W' = .ok v W' ∧ R (.returned v) W') :
    LeavesInM (Fr none) 0 E.P fn a.tmps R a.defers .returning W := by
  obtain ⟨rs, hd, hnd, hrs⟩ := S.df
  have key : ∀ (rs : List Nat) (a1 : Act) (W : World), a1.tmps = a.tmps → a1.defers = rs.map markOf → rs.Nodup → (∀ r ∈ rs, W.heap[r]? = some (.deferred (some [])) ∧ W0.heap.size ≤ r) → Sim E V0 io0 W0 C s a1 W →
      LeavesInM (Fr none) 0 E.P fn a.tmps R (rs.map markOf) .returning W := fun rs => by
    induction rs with
    | nil =>
      intro a1 W ht hd _ _ S1
      obtain ⟨v, h1, h2⟩ := h a1 W ht S1
      exact ⟨v, ht ▸ h1, h2⟩
    | cons r rs ih =>
      intro a1 W ht hd hnd hrs S1
      obtain ⟨hr, h0⟩ := hrs r (List.mem_cons_self ..)
      rw [List.nodup_cons] at hnd
      have hrs' : ∀ r1 ∈ rs, (W.putObj r (.deferred none)).heap[r1]? = some (.deferred (some [])) ∧ W0.heap.size ≤ r1 := fun r1 h1 => by
        have : r1 ≠ r := fun e => hnd.1 (e ▸ h1)
        exact ⟨(World.putObj_heap_other this).trans (hrs r1 (List.mem_cons_of_mem _ h1)).1, (hrs r1 (List.mem_cons_of_mem _ h1)).2⟩
      refine ⟨(fun h => nomatch h), .inl ⟨r, _, rfl, run_takeDeferred hr, ?_⟩⟩
      exact ih ⟨a1.tmps, rs.map markOf⟩ _ ht rfl hnd.2 hrs' (S1.turn hr (fun _ _ _ h => nomatch h) (fun _ _ h => nomatch h) h0 rfl ⟨rs, rfl, hnd.2, hrs'⟩)
  rw [hd]
  exact key rs a W rfl hd hnd hrs S

/-- **What a walk of the body answers, the call returns.** -/
theorem ctr_walk {B : Base} (hX : CtxOK B.env X) {f : Nat} {fn : Func} {c : Code} (hf : B.P.funcs[f]? = some fn) (hc : fn.body = some c) {g : List AV → Option (Bool × AV)}
    (hg : ∀ args r, g args = some (true, r) → ∃ Bw r0, Walks (ρ := AV) B.env c Bw ∧ Bw (st0 fn (wkL args)) (finK X fn) = some r0 ∧ wkAV r0 = r) : Ctr B f g := by
  intro V io W args vs r hb hr h
  obtain ⟨Bw, r0, hw, h1, hr0⟩ := hg args r h
  replace hr := wkV_rel hr
  refine calls_of_fr (ro := none) (callsIn_of_wp_marks (F := Fr none) hf hc trivial ?_)
  refine hw _ _ _ (finK X fn) r0 _ ?_ _ _ _ W h1 (st0_sim (E := B.env) hb hr fn (Nat.zero_le _) fun b hm => hm.elim)
  intro e s he C a W' S
  have fin : resAV X fn s = some r0 → LeavesInM (Fr none) 0 B.P fn a.tmps (fun e W' => ∃ v io', e = .returned v ∧ VR B.TR (baseCx V io') W' r v ∧ Keep noM io io' W W' ∧ IoOK B.MI io' W') a.defers .returning W' := fun hr =>
    leave_ok S fun a' W'' ht S' => by
      obtain ⟨v, hv, hvr⟩ := resAV_ok hX S' hr
      exact ⟨v, hv, v, C.io, rfl, hr0 ▸ vr_wk hvr, S'.kp, S'.iok⟩
  cases e with
  | norm => exact fin he
  | ret => exact fin he
  | exit j => cases he

/-- **What the evaluator answers, the call returns.** -/
theorem ctr_of {B : Base} (hX : CtxOK B.env X) {f N : Nat} {fn : Func} (hf : B.P.funcs[f]? = some fn) {g : List AV → Option (Bool × AV)} (hg : ∀ args r, g args = some (true, r) → ∃ r0, evF X N fn (wkL args) = some r0 ∧ wkAV r0 = r) : Ctr B f g := by
  cases hc : fn.body with
  | none =>
    intro V io W args vs r hb hr h
    obtain ⟨r0, h1, _⟩ := hg args r h
    unfold evF at h1
    rw [hc] at h1
    cases h1
  | some c =>
    refine ctr_walk hX hf hc fun args r h => ?_
    obtain ⟨r0, h1, h2⟩ := hg args r h
    unfold evF at h1
    rw [hc] at h1
    exact ⟨_, r0, walks_evC hX N c, h1, h2⟩

/-- The number of rounds may hang on the arguments. -/
theorem ctr_ofN {B : Base} (hX : CtxOK B.env X) {f : Nat} {fn : Func} (hf : B.P.funcs[f]? = some fn) {g : List AV → Option (Bool × AV)} (hg : ∀ args r, g args = some (true, r) → ∃ N r0, evF X N fn (wkL args) = some r0 ∧ wkAV r0 = r) : Ctr B f g := by
  cases hc : fn.body with
  | none =>
    intro V io W args vs r hb hr h
    obtain ⟨N, r0, h1, _⟩ := hg args r h
    unfold evF at h1
    rw [hc] at h1
    cases h1
  | some c =>
    refine ctr_walk hX hf hc fun args r h => ?_
    obtain ⟨N, r0, h1, h2⟩ := hg args r h
    unfold evF at h1
    rw [hc] at h1
    exact ⟨_, r0, walks_evC hX N c, h1, h2⟩

theorem ctr_ofZ {B : Base} (hX : CtxOK B.env X) {f n : Nat} {fn : Func} {z : Frz} (hz : FrzOK B.TR z) (hf : B.P.funcs[f]? = some fn) {g : List AV → Option (Bool × AV)} (hg : ∀ args r, g args = some (true, r) → ∃ N r0, evFz X N z n fn (wkL args) = some r0 ∧ wkAV r0 = r) : Ctr B f g := by
  cases hc : fn.body with
  | none =>
    intro V io W args vs r hb hr h
    obtain ⟨N, r0, h1, _⟩ := hg args r h
    unfold evFz at h1
    rw [hc] at h1
    cases h1
  | some c =>
    refine ctr_walk hX hf hc fun args r h => ?_
    obtain ⟨N, r0, h1, h2⟩ := hg args r h
    unfold evFz at h1
    rw [hc] at h1
    exact ⟨_, r0, walks_evZ hX N hz n c, h1, h2⟩

/-! Functions that tell others. -/

/-- What was told before stands ahead. -/
def Env.behind (E : Env) (tr : List AV) : Env := { E with J := fun tr' => E.J (tr ++ tr'), hJ := fun tr' => E.hJ (tr ++ tr') }

theorem st1_sim {V : Nat → Nat → Prop} {io : Io} {args : List AV} {vs : List Value} (hb : BaseOK E.toBase V io W) (hr : RelV E.TR (baseCx V io) W args vs) (fn : Func) (hn : E.n0 ≤ W.heap.size) (hM : ∀ b, E.M b → b < E.n0 ∧ ∀ o, V b o) (hJ : E.J [] V io W) :
    Sim E V io W (baseCx V io) (st1T fn args) { tmps := vs.toArray ++ Array.replicate (fn.ntmps - vs.toArray.size) undef, defers := [] } W :=
  st0_sim' hb hr fn rfl (fun k x h => by
    have h' : (List.replicate fn.ntmps Ob.none ++ [.map 0 0 []])[k]? = some x := h
    rcases List.mem_append.1 (List.mem_of_getElem? h') with h | h
    · exact .inl (List.eq_of_mem_replicate h)
    · simp at h
      exact .inr h) hn hM fun _ _ => hJ

theorem trOf_map {tr : List AV} (h : trOf s = some tr) : ∃ x y, s.objs[s.objs.length - 1]? = some (.map x y tr) := by
  unfold trOf at h
  cases hq : s.objs[s.objs.length - 1]? with
  | none => simp [List.getD, hq] at h
  | some q =>
    simp only [List.getD, hq, Option.getD_some] at h
    cases q with
    | map x y l => cases h; exact ⟨x, y, rfl⟩
    | _ => cases h

theorem tctr_walk {tr : List AV} (hX' : CtxOK (E.behind tr) X) {f : Nat} {fn : Func} {c : Code} (hf : E.P.funcs[f]? = some fn) (hc : fn.body = some c) {Bw : St → (Ex → St → Option (AV × List AV)) → Option (AV × List AV)} (hw : Walks (E.behind tr) c Bw)
    {args : List AV} {r : AV} {items : List AV} (h : Bw (st1T fn args) (finT X fn) = some (r, items)) {V : Nat → Nat → Prop} {io : Io} {vs : List Value}
    (hb : BaseOK E.toBase V io W) (hn : E.n0 ≤ W.heap.size) (hM : ∀ b, E.M b → b < E.n0 ∧ ∀ o, V b o) (hJ : E.J tr V io W) (hr : RelV E.TR (baseCx V io) W args vs) :
    Calls E.P f vs.toArray W fun e W' => ∃ v, e = .returned v ∧ ∃ io', VR E.TR (baseCx V io') W' r v ∧ Keep E.M io io' W W' ∧ IoOK E.MI io' W' ∧ E.J (tr ++ items) V io' W' := by
  refine calls_of_fr (ro := none) (callsIn_of_wp_marks (F := Fr none) hf hc trivial ?_)
  have S0 := st1_sim (E := E.behind tr) (W := W) hb hr fn hn hM (by simpa [Env.behind] using hJ)
  refine hw _ _ _ (finT X fn) (r, items) _ ?_ _ _ _ W h S0
  intro e s he C a W' S
  have fin : (match resAV X fn s, trOf s with | some v, some l => some (v, l) | _, _ => none) = some (r, items) →
      LeavesInM (Fr none) 0 E.P fn a.tmps (fun e W' => ∃ v, e = .returned v ∧ ∃ io', VR E.TR (baseCx V io') W' r v ∧ Keep E.M io io' W W' ∧ IoOK E.MI io' W' ∧ E.J (tr ++ items) V io' W') a.defers .returning W' := fun he => by
    split at he
    · rename_i v0 l0 hr0 ht
      simp only [Option.some.injEq, Prod.mk.injEq] at he
      obtain ⟨rfl, rfl⟩ := he
      refine leave_ok (E := E.behind tr) S fun a' W'' hta S' => ?_
      obtain ⟨v, hv, hvr⟩ := resAV_ok hX' S' hr0
      refine ⟨v, hv, v, rfl, C.io, hvr, S'.kp, S'.iok, ?_⟩
      obtain ⟨x, y, hmap⟩ := trOf_map ht
      have hJ' : E.J (tr ++ l0) C.V C.io W'' := S'.gh _ x y l0 (by have := (List.getElem?_eq_some_iff.1 hmap).1; omega) hmap
      exact E.hJ _ _ _ _ _ _ _ hJ' ⟨rfl, rfl, rfl, Nat.le_refl _, fun _ _ _ => rfl, ⟨fun _ _ h _ => h, fun b o _ h => S'.V0V b o h⟩, fun _ _ => rfl,
        fun b o hb' h => (S'.Vn b o h).resolve_right fun h => absurd h.1 (Nat.not_le_of_lt (Nat.lt_of_lt_of_le hb' hn)), fun b o h => Nat.lt_of_lt_of_le (hb.old b o h) S'.kp.size⟩ S'.iok
    · cases he
  cases e with
  | norm => exact fin he
  | ret => exact fin he
  | exit j => cases he

/-- **What a function that tells others answers and tells, its call returns and tells.** -/
theorem tctr_of {tr : List AV} (hX' : CtxOK (E.behind tr) X) {f N : Nat} {fn : Func} (hf : E.P.funcs[f]? = some fn) {args : List AV} {r : AV} {items : List AV} (h : evT X N fn args = some (r, items)) {V : Nat → Nat → Prop} {io : Io} {vs : List Value}
    (hb : BaseOK E.toBase V io W) (hn : E.n0 ≤ W.heap.size) (hM : ∀ b, E.M b → b < E.n0 ∧ ∀ o, V b o) (hJ : E.J tr V io W) (hr : RelV E.TR (baseCx V io) W args vs) :
    Calls E.P f vs.toArray W fun e W' => ∃ v, e = .returned v ∧ ∃ io', VR E.TR (baseCx V io') W' r v ∧ Keep E.M io io' W W' ∧ IoOK E.MI io' W' ∧ E.J (tr ++ items) V io' W' := by
  unfold evT at h
  split at h
  · rename_i c hc
    exact tctr_walk hX' hf hc (walks_evC hX' N c) h hb hn hM hJ hr
  · cases h

theorem tctr_ofZ {tr : List AV} (hX' : CtxOK (E.behind tr) X) {f N n : Nat} {fn : Func} {z : Frz} (hz : FrzOK E.TR z) (hf : E.P.funcs[f]? = some fn) {args : List AV} {r : AV} {items : List AV} (h : evTz X N z n fn args = some (r, items)) {V : Nat → Nat → Prop} {io : Io} {vs : List Value}
    (hb : BaseOK E.toBase V io W) (hn : E.n0 ≤ W.heap.size) (hM : ∀ b, E.M b → b < E.n0 ∧ ∀ o, V b o) (hJ : E.J tr V io W) (hr : RelV E.TR (baseCx V io) W args vs) :
    Calls E.P f vs.toArray W fun e W' => ∃ v, e = .returned v ∧ ∃ io', VR E.TR (baseCx V io') W' r v ∧ Keep E.M io io' W W' ∧ IoOK E.MI io' W' ∧ E.J (tr ++ items) V io' W' := by
  unfold evTz at h
  split at h
  · rename_i c hc
    exact tctr_walk hX' hf hc (walks_evZ hX' N hz n c) h hb hn hM hJ hr
  · cases h

end Ev
end Go.Proofs.YtidnikjkpbmhhaaDoor
