/- Boxes that nobody turns any more become memory. -/
import Derived.Test.YtidnikjkpbmhhaaDoorRng
set_option linter.unusedVariables false
set_option linter.unusedSimpArgs false
namespace Go.Proofs.YtidnikjkpbmhhaaDoor
namespace Ev

variable {E : Env} {V0 : Nat → Nat → Prop} {io0 : Io} {W0 : World} {C : Cx} {s s' s1 s2 : St} {a : Act} {W : World} {X : Ctx} {o : Oper}

mutual
theorem fz_size (c : Nat → Option AV) : ∀ v : AV, (fzAV c v).size = v.size
  | .poison => rfl
  | .undef => rfl
  | .int _ => rfl
  | .bool _ => rfl
  | .agg l => by simp only [fzAV, AV.size]; exact fzL_size c l
  | .arr .. => rfl
  | .sl .. => rfl
  | .tup _ => rfl
  | .ref k p => by
    simp only [fzAV]
    cases c k <;> rfl
  | .cref .. => rfl
  | .fn .. => rfl
  | .map _ => rfl
  | .tok .. => rfl
theorem fzL_size (c : Nat → Option AV) : ∀ l : List AV, sizeL (fzL c l) = sizeL l
  | [] => rfl
  | v :: l => by simp only [fzL, sizeL, fz_size c v, fzL_size c l]
end

theorem fz_isAg (c : Nat → Option AV) : ∀ v : AV, isAg (fzAV c v) = isAg v := fun v => by
  cases v <;> simp only [fzAV] <;> first
    | rfl
    | (rename_i k _; cases c k <;> rfl)

/-- The context behind. -/
def fzCx (ks : List Nat) (C : Cx) : Cx :=
  { C with V := fun b o => C.V b o ∧ ∀ k, memN ks k = true → C.box k ≠ some b, box := fun k => bif memN ks k then none else C.box k }

theorem fz_stab (ks : List Nat) (C : Cx) (W : World) : Stab C.V (fzCx ks C).V W W := ⟨fun _ _ h _ => h, fun _ _ _ h => h.1⟩

/-- What stands for a box tells its cells. -/
def ContOK (TR : TokRel) (ks : List Nat) (C : Cx) (W : World) (c : Nat → Option AV) : Prop :=
  ∀ k b, C.box k = some b → (memN ks k = true → ∃ u ds, c k = some u ∧ Rel TR (fzCx ks C) W u ds ∧ Cells (fzCx ks C).V W ⟨b, 0, none⟩ ds) ∧ (memN ks k = false → c k = none)

theorem addr_add (b i : Nat) : (⟨b, 0, none⟩ : Addr).add i = ⟨b, i, none⟩ := by
  unfold Addr.add
  split
  · rename_i h; subst h; rfl
  · simp

mutual
theorem fz_rel {TR : TokRel} (hT : TokOK TR) {ks : List Nat} {c : Nat → Option AV} (hc : ContOK TR ks C W c) : ∀ {v : AV} {cs : List Value}, Rel TR C W v cs → Rel TR (fzCx ks C) W (fzAV c v) cs
  | .poison, cs, h => by simpa only [fzAV, Rel] using h
  | .undef, cs, h => by simpa only [fzAV, Rel] using h
  | .int _, cs, h => by simpa only [fzAV, Rel] using h
  | .bool _, cs, h => by simpa only [fzAV, Rel] using h
  | .agg l, cs, h => by
    simp only [fzAV, Rel] at h ⊢
    exact fzL_rel hT hc h
  | .arr t n xs, cs, h => by
    simp only [fzAV, Rel] at h ⊢
    exact ⟨h.1, Flat.imp (fun x c h => CRel.mono (fz_stab ks C W) h) h.2⟩
  | .sl t f l, cs, h => by
    simp only [fzAV, Rel] at h ⊢
    obtain ⟨A, c', h1, h2, h3, h4, h5, h6⟩ := h
    exact ⟨A, c', h1, h2, fun j x hj => by
      obtain ⟨ad, d, g1, g2, g3, g4⟩ := h3 j x hj
      exact ⟨ad, d, g1, CRel.mono (fz_stab ks C W) g2, g3, g4.mono (fz_stab ks C W)⟩, h4, h5, h6⟩
  | .tup l, cs, h => by
    simp only [fzAV, Rel] at h ⊢
    obtain ⟨vs, e, h⟩ := h
    exact ⟨vs, e, fzV_rel hT hc h⟩
  | .ref k p, cs, h => by
    simp only [Rel] at h
    obtain ⟨b, h1, h2, e⟩ := h
    obtain ⟨g1, g2⟩ := hc k b h1
    simp only [fzAV]
    cases hm : memN ks k with
    | true =>
      obtain ⟨u, ds, q1, q2, q3⟩ := g1 hm
      rw [q1]
      simp only [Rel]
      exact ⟨⟨b, 0, none⟩, ds, q2, q3, h2, by rw [addr_add]; exact e⟩
    | false =>
      rw [g2 hm]
      simp only [Rel]
      exact ⟨b, by simp [fzCx, hm, h1], h2, e⟩
  | .cref v p, cs, h => by
    simp only [fzAV, Rel] at h ⊢
    obtain ⟨ad, ds, h1, h2, h3⟩ := h
    exact ⟨ad, ds, fz_rel hT hc h1, h2.mono (fz_stab ks C W), h3⟩
  | .fn f x y, cs, h => by
    simp only [fzAV, Rel] at h ⊢
    obtain ⟨xs, ys, e, h1, h2⟩ := h
    exact ⟨xs, ys, e, fzV_rel hT hc h1, fzV_rel hT hc h2⟩
  | .map _, cs, h => by simp only [Rel] at h
  | .tok i t d, cs, h => by
    simp only [fzAV, Rel] at h ⊢
    obtain ⟨v, e, h⟩ := h
    exact ⟨v, e, hT.mono _ _ _ _ _ _ _ _ _ _ (fz_stab ks C W) (fun _ _ => rfl) (Nat.le_refl _) h⟩
theorem fzL_rel {TR : TokRel} (hT : TokOK TR) {ks : List Nat} {c : Nat → Option AV} (hc : ContOK TR ks C W c) : ∀ {l : List AV} {cs : List Value}, RelL TR C W l cs → RelL TR (fzCx ks C) W (fzL c l) cs
  | [], cs, h => by simpa only [fzL, RelL] using h
  | v :: l, cs, h => by
    simp only [fzL, RelL] at h ⊢
    obtain ⟨x, d, e, hl, h1, h2⟩ := h
    exact ⟨x, d, e, by rw [fz_size, hl], fz_rel hT hc h1, fzL_rel hT hc h2⟩
theorem fzV_rel {TR : TokRel} (hT : TokOK TR) {ks : List Nat} {c : Nat → Option AV} (hc : ContOK TR ks C W c) : ∀ {l : List AV} {vs : List Value}, RelV TR C W l vs → RelV TR (fzCx ks C) W (fzL c l) vs
  | [], cs, h => by simpa only [fzL, RelV] using h
  | v :: l, cs, h => by
    simp only [fzL, RelV] at h ⊢
    obtain ⟨x, r, e, h1, h2⟩ := h
    refine ⟨x, r, e, ?_, fzV_rel hT hc h2⟩
    rcases h1 with h1 | ⟨ds, g1, g2, g3⟩
    · subst h1
      exact .inl rfl
    · exact .inr ⟨ds, by rw [fz_size, g1], fz_rel hT hc g2, by rw [g3]; simp [mkV, fz_isAg]⟩
end

theorem vr_fz {TR : TokRel} (hT : TokOK TR) {ks : List Nat} {c : Nat → Option AV} (hc : ContOK TR ks C W c) {v : AV} {x : Value} (h : VR TR C W v x) : VR TR (fzCx ks C) W (fzAV c v) x := by
  rcases h with h1 | ⟨cs, g0, g1, g2⟩
  · subst h1
    exact .inl rfl
  · exact .inr ⟨cs, by rw [fz_size, g0], fz_rel hT hc g1, by rw [g2]; simp only [mkV, fz_isAg]⟩

theorem fzL_get (c : Nat → Option AV) : ∀ (l : List AV) (k : Nat), (fzL c l)[k]? = (l[k]?).map (fzAV c)
  | [], k => by simp [fzL]
  | v :: l, 0 => by simp [fzL]
  | v :: l, k + 1 => by simp only [fzL, List.getElem?_cons_succ, fzL_get c l k]
theorem fzL_len (c : Nat → Option AV) : ∀ l : List AV, (fzL c l).length = l.length
  | [] => rfl
  | v :: l => by simp [fzL, fzL_len c l]
theorem fzObs_get (c : Nat → Option AV) (ks : List Nat) : ∀ (l : List Ob) (i k : Nat), (fzObs c ks i l)[k]? = (l[k]?).map (fzOb c ks (i + k))
  | [], i, k => by simp [fzObs]
  | v :: l, i, 0 => by simp [fzObs]
  | v :: l, i, k + 1 => by
    simp only [fzObs, List.getElem?_cons_succ, fzObs_get c ks l (i + 1) k]
    rw [show i + 1 + k = i + (k + 1) by omega]
theorem fzObs_len (c : Nat → Option AV) (ks : List Nat) : ∀ (l : List Ob) (i : Nat), (fzObs c ks i l).length = l.length
  | [], _ => rfl
  | v :: l, i => by simp [fzObs, fzObs_len c ks l (i + 1)]

/-- Boxes become memory. -/
theorem Sim.frz (S : Sim E V0 io0 W0 C s a W) {ks : List Nat} {c : Nat → Option AV} (hc : ContOK E.TR ks C W c) : Sim E V0 io0 W0 (fzCx ks C) ⟨fzL c s.tmps, fzObs c ks 0 s.objs⟩ a W := by
  have hob : ∀ k : Nat, (fzObs c ks 0 s.objs)[k]? = (s.objs[k]?).map (fzOb c ks k) := fun k => by rw [fzObs_get, Nat.zero_add]
  have hbx : ∀ (k : Nat) (v : AV), (fzObs c ks 0 s.objs)[k]? = some (.box v) → memN ks k = false ∧ ∃ u, s.objs[k]? = some (.box u) ∧ v = fzAV c u := fun k v h => by
    rw [hob] at h
    cases hk : s.objs[k]? with
    | none => rw [hk] at h; cases h
    | some q =>
      rw [hk] at h
      simp only [Option.map_some, Option.some.injEq] at h
      cases q with
      | box u =>
        simp only [fzOb] at h
        cases hm : memN ks k with
        | true => rw [hm] at h; cases h
        | false => rw [hm] at h; cases h; exact ⟨rfl, u, rfl, rfl⟩
      | _ => cases h
  have hnot : ∀ (k : Nat) (x : Ob), (∀ v, x ≠ .box v) → x ≠ .none → ((fzObs c ks 0 s.objs)[k]? = some x ↔ s.objs[k]? = some x) := fun k x h1 h2 => by
    rw [hob]
    cases hk : s.objs[k]? with
    | none => simp
    | some q =>
      cases q with
      | box u =>
        simp only [Option.map_some, Option.some.injEq, fzOb]
        constructor
        · intro h
          cases hm : memN ks k with
          | true => rw [hm] at h; exact absurd h.symm h2
          | false => rw [hm] at h; exact absurd h.symm (h1 _)
        · intro h
          exact absurd h.symm (h1 _)
      | _ => simp [fzOb]
  have hst := fz_stab ks C W
  have hbox : ∀ {k b : Nat}, (fzCx ks C).box k = some b → memN ks k = false ∧ C.box k = some b := fun {k b} h => by
    simp only [fzCx] at h
    cases hm : memN ks k with
    | true => rw [hm] at h; cases h
    | false => rw [hm] at h; exact ⟨rfl, h⟩
  have hV0 : ∀ b o, V0 b o → (fzCx ks C).V b o := fun b o h => ⟨S.V0V b o h, fun k _ hk => by
    obtain ⟨u, hu⟩ := S.bxn k b hk
    obtain ⟨b1, _, _, g1, _, _, _, g5⟩ := S.bx k u hu
    rw [hk] at g1
    cases g1
    have := S.old0 b o h
    omega⟩
  refine { S with len := ?_, tm := ?_, bx := ?_, bxn := ?_, inj := ?_, bxV := ?_, ln := ?_, tl := ?_, Vn := fun b o h => S.Vn b o h.1, V0V := hV0, gl := ?_, gh := ?_ }
  · rw [S.len]
    exact (fzL_len c s.tmps).symm
  · intro t x hx
    have : (fzL c s.tmps)[t]? = some x := hx
    rw [fzL_get] at this
    cases ht : s.tmps[t]? with
    | none => rw [ht] at this; cases this
    | some v =>
      rw [ht] at this
      simp only [Option.map_some, Option.some.injEq] at this
      obtain ⟨y, hy, hr⟩ := S.tm t v ht
      exact ⟨y, hy, this ▸ vr_fz E.hT hc hr⟩
  · intro k v hv
    obtain ⟨hm, u, hu, rfl⟩ := hbx k v hv
    obtain ⟨b, cs, ty, h1, h2, h3, h4, h5⟩ := S.bx k u hu
    exact ⟨b, cs, ty, by simp [fzCx, hm, h1], h2, by rw [fz_size, h3], fz_rel E.hT hc h4, h5⟩
  · intro k b hb
    obtain ⟨hm, hb⟩ := hbox hb
    obtain ⟨v, hv⟩ := S.bxn k b hb
    exact ⟨fzAV c v, by rw [hob, hv]; simp [fzOb, hm]⟩
  · intro k k' b h h'
    exact S.inj k k' b (hbox h).2 (hbox h').2
  · intro k b o h
    obtain ⟨hm, hb⟩ := hbox h
    exact ⟨S.bxV k b o hb, fun k' hk' hb' => by
      have := S.inj k k' b hb hb'
      subst this
      rw [hm] at hk'
      cases hk'⟩
  · intro k v al
    exact (S.ln k v al).trans (hnot k (.lin v al) (fun _ h => nomatch h) (fun h => nomatch h)).symm
  · intro k v b lo hi o h1 h2 h3 h4
    obtain ⟨g1, g2, g3, g4⟩ := S.tl k v b lo hi o h1 h2 h3 h4
    exact ⟨⟨g1, fun k' _ => g3 k'⟩, g2, fun k' h => g3 k' (hbox h).2, g4⟩
  · intro g v h
    exact Rel.mono E.hT (C := baseCx C.V C.io) (C' := baseCx (fzCx ks C).V C.io) ⟨hst, (fun _ _ h => by cases h), (fun _ _ _ h => by cases h), fun _ _ => rfl, Nat.le_refl _⟩ (S.gl g v h)
  · intro k x y tr hl h
    have hl' : k + 1 = s.objs.length := by
      have := fzObs_len c ks s.objs 0
      simp only at hl
      omega
    exact S.ghs (Wst.refl _ _) hst (fun b o h => S.Vn b o h.1) hV0 S.iok (S.gh k x y tr hl' ((hnot k (.map x y tr) (fun _ h => nomatch h) (fun h => nomatch h)).1 h))

/-- A closure that names itself is what its token says. -/
def FrzOK (TR : TokRel) (z : Frz) : Prop :=
  ∀ V io W (ys : List Value) (capsF : List AV) (d : z.t.den) (b : Nat), z.d capsF = some d → RelV TR (baseCx V io) W capsF ys → ys[z.j]? = some (.pointer (some ⟨b, 0, none⟩)) →
    W.cell? ⟨b, 0, none⟩ = some (.func (.func z.f) #[] ys.toArray) → ¬ V b 0 → TR z.i z.t d V io W (.func (.func z.f) #[] ys.toArray)

theorem freeze_ok (S : Sim E V0 io0 W0 C s a W) {z : Frz} (hz : FrzOK E.TR z) (h : freeze z s = some s') : ∃ C', Sim E V0 io0 W0 C' s' a W := by
  unfold freeze at h
  split at h
  · rename_i f caps hk
    split at h
    · rename_i hf
      obtain ⟨rfl, hmk⟩ := hf
      split at h
      · rename_i k hj
        split at h
        · rename_i hkk
          subst hkk
          split at h
          · rename_i d hd
            cases h
            have hk' : s.objs[z.k]? = some (.box (.fn z.f [] caps)) := by
              cases hq : s.objs[z.k]? with
              | none => simp [List.getD, hq] at hk
              | some q => simp [List.getD, hq] at hk; rw [hk]
            obtain ⟨b, cs, ty, h1, h2, h3, h4, h5⟩ := S.bx z.k _ hk'
            have hcell : ∀ (k b : Nat) (v : AV), C.box k = some b → memN z.ks k = true → s.objs[k]? = some (.box v) → ∃ ds, Rel E.TR C W v ds ∧ Cells (fzCx z.ks C).V W ⟨b, 0, none⟩ ds ∧ ds.length = v.size := fun k b v hb hm hv => by
              obtain ⟨b1, cs1, ty1, g1, g2, g3, g4, g5⟩ := S.bx k v hv
              rw [hb] at g1
              cases g1
              refine ⟨cs1.toList, g4, fun i x hi => ⟨?_, fun hV => ?_⟩, g3⟩
              · rw [addr_add]
                unfold World.cell?
                simp only [g2]
                simpa using hi
              · exact hV.2 k hm hb
            have hgen : ∀ self : AV, (∃ ds, Rel E.TR (fzCx z.ks C) W self ds ∧ Cells (fzCx z.ks C).V W ⟨b, 0, none⟩ ds) → ContOK E.TR z.ks C W (contOf s z self) := fun self hs k b' hb' => by
              refine ⟨fun hm => ?_, fun hm => by simp [contOf, hm]⟩
              by_cases e : k = z.k
              · subst e
                rw [h1] at hb'
                cases hb'
                obtain ⟨ds, q1, q2⟩ := hs
                exact ⟨self, ds, by simp [contOf, hm], q1, q2⟩
              · obtain ⟨v, hv⟩ := S.bxn k b' hb'
                obtain ⟨ds, q1, q2, _⟩ := hcell k b' v hb' hm hv
                refine ⟨stAV v, ds, by simp [contOf, hm, e, List.getD, hv], ?_, q2⟩
                have := Rel.mono E.hT (C := baseCx C.V C.io) (C' := baseCx (fzCx z.ks C).V C.io) ⟨fz_stab z.ks C W, (fun _ _ h => by cases h), (fun _ _ _ h => by cases h), fun _ _ => rfl, Nat.le_refl _⟩ (st_rel q1)
                exact Rel.mono E.hT (CxLe.ofBase (fzCx z.ks C) rfl rfl) this
            obtain ⟨ds, q1, q2, q3⟩ := hcell z.k b _ h1 hmk hk'
            simp only [Rel, RelV] at q1
            obtain ⟨xs, ys, rfl, rfl, q5⟩ := q1
            have hc0 := hgen .poison ⟨_, by simp only [Rel]; exact ⟨_, rfl⟩, q2⟩
            have hcaps := stV_rel (fzV_rel E.hT hc0 q5)
            obtain ⟨y, hy, hyr⟩ := relV_get q5 z.j _ hj
            have hyp : y = .pointer (some ⟨b, 0, none⟩) := by
              rcases hyr with hyr | ⟨cs', _, hyr, e⟩
              · cases hyr
              · simp only [Rel] at hyr
                obtain ⟨b2, g1, _, rfl⟩ := hyr
                rw [h1] at g1
                cases g1
                rw [e]
                rfl
            subst hyp
            obtain ⟨g1, g2⟩ := q2 0 _ rfl
            rw [addr_add] at g1
            have htok := hz (fzCx z.ks C).V (fzCx z.ks C).io W ys _ d b hd hcaps hy g1 (by simpa using g2)
            exact ⟨_, S.frz (hgen (.tok z.i z.t d) ⟨_, by simp only [Rel]; exact ⟨_, rfl, htok⟩, q2⟩)⟩
          · cases h
        · cases h
      · cases h
    · cases h
  · cases h

end Ev
end Go.Proofs.YtidnikjkpbmhhaaDoor
