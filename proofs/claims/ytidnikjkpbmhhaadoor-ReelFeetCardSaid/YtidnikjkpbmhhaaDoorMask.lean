/- What is forgotten at a round's end; blocks that hold no data. -/
import Derived.Test.YtidnikjkpbmhhaaDoorDraw
import Derived.RangeFuncRecord
import Derived.Scope
import Derived.RangeFuncIn
set_option linter.unusedVariables false
set_option linter.unusedSimpArgs false
namespace Go.Proofs.YtidnikjkpbmhhaaDoor
namespace Ev

variable {E : Env} {V0 : Nat → Nat → Prop} {io0 : Io} {W0 : World} {C : Cx} {s s' s1 s2 : St} {a : Act} {W : World} {X : Ctx} {o : Oper}

/-! Forgetting at a round's end. -/

mutual
theorem sw_size (w : List Nat) (obs : List Ob) : ∀ v : AV, (swAV w obs v).size = v.size
  | .poison => rfl
  | .undef => rfl
  | .int _ => rfl
  | .bool _ => rfl
  | .agg l => by simp only [swAV, AV.size]; exact swL_size w obs l
  | .arr .. => rfl
  | .sl t f l => by
    simp only [swAV]
    repeat' split
    all_goals rfl
  | .tup _ => rfl
  | .ref k p => by
    simp only [swAV]
    cases memN w k <;> rfl
  | .cref .. => rfl
  | .fn .. => rfl
  | .map k => by
    simp only [swAV]
    cases memN w k <;> rfl
  | .tok .. => rfl
theorem swL_size (w : List Nat) (obs : List Ob) : ∀ l : List AV, sizeL (swL w obs l) = sizeL l
  | [] => rfl
  | v :: l => by simp only [swL, sizeL, sw_size w obs v, swL_size w obs l]
end

theorem sw_isAg (w : List Nat) (obs : List Ob) : ∀ v : AV, isAg (swAV w obs v) = isAg v := fun v => by
  cases v <;> simp only [swAV] <;> first
    | rfl
    | (repeat' split
       all_goals rfl)
    | (rename_i k _; cases memN w k <;> rfl)
    | (rename_i k; cases memN w k <;> rfl)

/-- The context behind. -/
def swCx (w : List Nat) (C : Cx) : Cx := ⟨C.V, fun k => bif memN w k then none else C.box k, fun k => (C.lv k).map fun x => (0, x.2), C.tl, C.io⟩

mutual
theorem sw_rel {TR : TokRel} (w : List Nat) (obs : List Ob) (hln : ∀ (k v : Nat) (al : Bool), C.lv k = some (v, al) ↔ obs[k]? = some (.lin v al)) : ∀ {v : AV} {cs : List Value}, Rel TR C W v cs → Rel TR (swCx w C) W (swAV w obs v) cs
  | .poison, cs, h => by simpa only [swAV, Rel] using h
  | .undef, cs, h => by simpa only [swAV, Rel] using h
  | .int _, cs, h => by simpa only [swAV, Rel] using h
  | .bool _, cs, h => by simpa only [swAV, Rel] using h
  | .agg l, cs, h => by
    simp only [swAV, Rel] at h ⊢
    exact swL_rel w obs hln h
  | .arr .., cs, h => by
    simp only [swAV, Rel] at h ⊢
    exact h
  | .sl t f l, cs, h => by
    simp only [Rel] at h
    obtain ⟨A, c, h1, h2, h3, h4, h5, h6⟩ := h
    simp only [swAV]
    cases ho : f.ow with
    | none =>
      simp only [Rel]
      exact ⟨A, c, h1, h2, h3, h4, h5, fun k v hk => by rw [ho] at hk; cases hk⟩
    | some kv =>
      obtain ⟨k, v⟩ := kv
      dsimp only
      split
      · rename_i cv hcv
        simp only [Rel]
        refine ⟨A, c, h1, h2, h3, h4, h5, fun k' v' hk => ?_⟩
        split at hk
        · rename_i hv
          simp only [Option.some.injEq, Prod.mk.injEq] at hk
          obtain ⟨rfl, rfl⟩ := hk
          obtain ⟨cu, al, g1, g2, g3⟩ := h6 k v ho
          have hcv' : obs[k]? = some (.lin cv true) := by
            cases hq : obs[k]? with
            | none => simp [List.getD, hq] at hcv
            | some q => simp [List.getD, hq] at hcv; rw [hcv]
          have g4 := (hln k cv true).2 hcv'
          rw [g4] at g1
          cases g1
          refine ⟨0, true, by simp [swCx, g4], Nat.le_refl _, fun _ _ => ?_⟩
          exact g3 rfl hv
        · cases hk
      · simp only [Rel]
        exact ⟨A, c, h1, h2, h3, h4, h5, fun k v hk => by cases hk⟩
  | .tup l, cs, h => by
    simp only [swAV, Rel] at h ⊢
    obtain ⟨vs, e, h⟩ := h
    exact ⟨vs, e, swV_rel w obs hln h⟩
  | .ref k p, cs, h => by
    simp only [swAV]
    cases hm : memN w k with
    | true =>
      simp only [Rel, cond_true] at h ⊢
      obtain ⟨b, _, _, e⟩ := h
      exact ⟨_, e⟩
    | false =>
      simp only [Rel, cond_false] at h ⊢
      obtain ⟨b, h1, h2, e⟩ := h
      exact ⟨b, by simp [swCx, hm, h1], h2, e⟩
  | .cref v p, cs, h => by
    simp only [swAV, Rel] at h ⊢
    obtain ⟨ad, ds, h1, h2, h3⟩ := h
    exact ⟨ad, ds, sw_rel w obs hln h1, h2, h3⟩
  | .fn f x y, cs, h => by
    simp only [swAV, Rel] at h ⊢
    obtain ⟨xs, ys, e, h1, h2⟩ := h
    exact ⟨xs, ys, e, swV_rel w obs hln h1, swV_rel w obs hln h2⟩
  | .map _, cs, h => by simp only [Rel] at h
  | .tok .., cs, h => by
    simp only [swAV, Rel] at h ⊢
    exact h
theorem swL_rel {TR : TokRel} (w : List Nat) (obs : List Ob) (hln : ∀ (k v : Nat) (al : Bool), C.lv k = some (v, al) ↔ obs[k]? = some (.lin v al)) : ∀ {l : List AV} {cs : List Value}, RelL TR C W l cs → RelL TR (swCx w C) W (swL w obs l) cs
  | [], cs, h => by simpa only [swL, RelL] using h
  | v :: l, cs, h => by
    simp only [swL, RelL] at h ⊢
    obtain ⟨c, d, e, hl, h1, h2⟩ := h
    exact ⟨c, d, e, by rw [sw_size, hl], sw_rel w obs hln h1, swL_rel w obs hln h2⟩
theorem swV_rel {TR : TokRel} (w : List Nat) (obs : List Ob) (hln : ∀ (k v : Nat) (al : Bool), C.lv k = some (v, al) ↔ obs[k]? = some (.lin v al)) : ∀ {l : List AV} {vs : List Value}, RelV TR C W l vs → RelV TR (swCx w C) W (swL w obs l) vs
  | [], cs, h => by simpa only [swL, RelV] using h
  | v :: l, cs, h => by
    simp only [swL, RelV] at h ⊢
    obtain ⟨x, r, e, h1, h2⟩ := h
    refine ⟨x, r, e, ?_, swV_rel w obs hln h2⟩
    rcases h1 with h1 | ⟨cs, g0, g1, g2⟩
    · subst h1
      exact .inl rfl
    · exact .inr ⟨cs, by rw [sw_size, g0], sw_rel w obs hln g1, by rw [g2]; simp only [mkV, sw_isAg]⟩
end

theorem sw_vr {TR : TokRel} (w : List Nat) (obs : List Ob) (hln : ∀ (k v : Nat) (al : Bool), C.lv k = some (v, al) ↔ obs[k]? = some (.lin v al)) {v : AV} {x : Value} (h : VR TR C W v x) : VR TR (swCx w C) W (swAV w obs v) x := by
  rcases h with h1 | ⟨cs, g0, g1, g2⟩
  · subst h1
    exact .inl rfl
  · exact .inr ⟨cs, by rw [sw_size, g0], sw_rel w obs hln g1, by rw [g2]; simp only [mkV, sw_isAg]⟩

theorem swTs_get (w : List Nat) (obs : List Ob) : ∀ (l : List AV) (i k : Nat), (swTs w obs i l)[k]? = (l[k]?).map fun v => bif memN w (i + k) then .poison else swAV w obs v
  | [], i, k => by simp [swTs]
  | v :: l, i, 0 => by simp [swTs]
  | v :: l, i, k + 1 => by
    simp only [swTs, List.getElem?_cons_succ, swTs_get w obs l (i + 1) k]
    rw [show i + 1 + k = i + (k + 1) by omega]
theorem swObs_get (w : List Nat) (obs : List Ob) : ∀ (l : List Ob) (i k : Nat), (swObs w obs i l)[k]? = (l[k]?).map fun v => swOb w obs (i + k) v
  | [], i, k => by simp [swObs]
  | v :: l, i, 0 => by simp [swObs]
  | v :: l, i, k + 1 => by
    simp only [swObs, List.getElem?_cons_succ, swObs_get w obs l (i + 1) k]
    rw [show i + 1 + k = i + (k + 1) by omega]
theorem swTs_len (w : List Nat) (obs : List Ob) : ∀ (l : List AV) (i : Nat), (swTs w obs i l).length = l.length
  | [], _ => rfl
  | v :: l, i => by simp [swTs, swTs_len w obs l (i + 1)]

theorem swObs_len (w : List Nat) (obs : List Ob) : ∀ (l : List Ob) (i : Nat), (swObs w obs i l).length = l.length
  | [], _ => rfl
  | v :: l, i => by simp [swObs, swObs_len w obs l (i + 1)]

theorem Sim.mask1 (S : Sim E V0 io0 W0 C s a W) (w : List Nat) : Sim E V0 io0 W0 (swCx w C) (s.mask1 w) a W := by
  have hob : ∀ k, (s.mask1 w).objs[k]? = (s.objs[k]?).map (swOb w s.objs k) := fun k => by
    show (swObs w s.objs 0 s.objs)[k]? = _
    rw [swObs_get, Nat.zero_add]
  have hbx : ∀ k v, (s.mask1 w).objs[k]? = some (.box v) → memN w k = false ∧ ∃ u, s.objs[k]? = some (.box u) ∧ v = swAV w s.objs u := fun k v h => by
    rw [hob] at h
    cases hk : s.objs[k]? with
    | none => rw [hk] at h; cases h
    | some q =>
      rw [hk] at h
      simp only [Option.map_some, Option.some.injEq] at h
      cases q with
      | box u =>
        simp only [swOb] at h
        cases hm : memN w k with
        | true => rw [hm] at h; cases h
        | false =>
          rw [hm] at h
          simp only [cond_false] at h
          cases h
          exact ⟨rfl, u, rfl, rfl⟩
      | map x y z => simp only [swOb] at h; cases h
      | none => simp only [swOb] at h; cases h
      | lin x y => simp only [swOb] at h; cases h
  have hln : ∀ (k v : Nat) (al : Bool), (s.mask1 w).objs[k]? = some (Ob.lin v al) ↔ v = 0 ∧ ∃ cv : Nat, s.objs[k]? = some (Ob.lin cv al) := fun k v al => by
    rw [hob]
    cases hk : s.objs[k]? with
    | none => simp
    | some q =>
      cases q with
      | lin x y =>
        simp only [Option.map_some, swOb, Option.some.injEq, Ob.lin.injEq]
        exact ⟨fun ⟨h1, h2⟩ => ⟨h1.symm, x, rfl, h2⟩, fun ⟨h1, cv, h2, h3⟩ => ⟨h1.symm, h3⟩⟩
      | box u =>
        simp only [Option.map_some, swOb, Option.some.injEq]
        cases memN w k <;> simp
      | map x y z =>
        simp only [Option.map_some, swOb, Option.some.injEq]
        cases memN w k <;> simp
      | none => simp [swOb]
  refine ⟨?_, ?_, S.df, ?_, ?_, ?_, ?_, ?_, ?_, ?_, S.Vn, S.V0V, S.iok, S.gl, S.kp, S.old0, S.n0, S.hM, fun k x y tr hl h => ?_⟩
  rotate_right
  · have hl' : k + 1 = s.objs.length := hl.trans (swObs_len w s.objs s.objs 0)
    rw [hob] at h
    cases hk : s.objs[k]? with
    | none => rw [hk] at h; cases h
    | some q =>
      rw [hk] at h
      simp only [Option.map_some, Option.some.injEq] at h
      cases q with
      | map x' y' z' =>
        simp only [swOb, Ob.map.injEq] at h
        obtain ⟨_, _, rfl⟩ := h
        exact S.gh k _ _ _ hl' hk
      | box u =>
        simp only [swOb] at h
        cases hm : memN w k <;> rw [hm] at h <;> cases h
      | none => cases h
      | lin _ _ => cases h
  · rw [S.len]
    exact (swTs_len w s.objs s.tmps 0).symm
  · intro t x hx
    have : (swTs w s.objs 0 s.tmps)[t]? = some x := hx
    rw [swTs_get, Nat.zero_add] at this
    cases ht : s.tmps[t]? with
    | none => rw [ht] at this; cases this
    | some v =>
      rw [ht] at this
      simp only [Option.map_some, Option.some.injEq] at this
      obtain ⟨y, hy, hr⟩ := S.tm t v ht
      refine ⟨y, hy, ?_⟩
      cases hm : memN w t with
      | true =>
        rw [hm] at this
        subst this
        exact .inl rfl
      | false =>
        rw [hm] at this
        subst this
        exact sw_vr w s.objs S.ln hr
  · intro k v hv
    obtain ⟨hm, u, hu, rfl⟩ := hbx k v hv
    obtain ⟨b, cs, ty, h1, h2, h3, h4, h5⟩ := S.bx k u hu
    exact ⟨b, cs, ty, by simp [swCx, hm, h1], h2, by rw [sw_size, h3], sw_rel w s.objs S.ln h4, h5⟩
  · intro k b hb
    simp only [swCx] at hb
    cases hm : memN w k with
    | true => rw [hm] at hb; cases hb
    | false =>
      rw [hm] at hb
      obtain ⟨v, hv⟩ := S.bxn k b hb
      exact ⟨swAV w s.objs v, by rw [hob, hv]; simp [swOb, hm]⟩
  · intro k k' b h h'
    simp only [swCx] at h h'
    cases hm : memN w k with
    | true => rw [hm] at h; cases h
    | false =>
      cases hm' : memN w k' with
      | true => rw [hm'] at h'; cases h'
      | false =>
        rw [hm] at h
        rw [hm'] at h'
        exact S.inj k k' b h h'
  · intro k b o' h
    simp only [swCx] at h
    cases hm : memN w k with
    | true => rw [hm] at h; cases h
    | false =>
      rw [hm] at h
      exact S.bxV k b o' h
  · intro k v al
    rw [hln]
    simp only [swCx]
    constructor
    · intro h
      cases hk : C.lv k with
      | none => rw [hk] at h; cases h
      | some x =>
        obtain ⟨cu, al'⟩ := x
        rw [hk] at h
        simp only [Option.map_some, Option.some.injEq, Prod.mk.injEq] at h
        obtain ⟨rfl, rfl⟩ := h
        exact ⟨rfl, cu, (S.ln k cu al').1 hk⟩
    · rintro ⟨rfl, cv, h⟩
      rw [(S.ln k cv al).2 h]
      rfl
  · intro k v b lo hi o' h1 h2 h3 h4
    simp only [swCx] at h1 h2
    cases hk : C.lv k with
    | none => rw [hk] at h1; cases h1
    | some x =>
      obtain ⟨cu, al'⟩ := x
      rw [hk] at h1
      simp only [Option.map_some, Option.some.injEq, Prod.mk.injEq] at h1
      obtain ⟨rfl, rfl⟩ := h1
      obtain ⟨g1, g2, g3, g4⟩ := S.tl k cu b lo hi o' hk h2 h3 h4
      refine ⟨g1, g2, fun k' h => ?_, g4⟩
      simp only [swCx] at h
      cases hm : memN w k' with
      | true => rw [hm] at h; cases h
      | false =>
        rw [hm] at h
        exact g3 k' h
  · intro k k' v v' b lo hi lo' hi' o' h1 h2 h3 h4 h5
    simp only [swCx] at h1 h2 h4 h5
    cases hk : C.lv k with
    | none => rw [hk] at h1; cases h1
    | some x =>
      cases hk' : C.lv k' with
      | none => rw [hk'] at h2; cases h2
      | some x' =>
        obtain ⟨cu, al⟩ := x
        obtain ⟨cu', al'⟩ := x'
        rw [hk] at h1
        rw [hk'] at h2
        simp only [Option.map_some, Option.some.injEq, Prod.mk.injEq] at h1 h2
        obtain ⟨_, rfl⟩ := h1
        obtain ⟨_, rfl⟩ := h2
        exact S.tld k k' cu cu' b lo hi lo' hi' o' hk hk' h3 h4 h5

mutual
theorem wk_size : ∀ v : AV, (wkAV v).size = v.size
  | .poison => rfl
  | .undef => rfl
  | .int _ => rfl
  | .bool _ => rfl
  | .agg l => by simp only [wkAV, AV.size]; exact wkL_size l
  | .arr .. => rfl
  | .sl .. => rfl
  | .tup _ => rfl
  | .ref .. => rfl
  | .cref .. => rfl
  | .fn .. => rfl
  | .map _ => rfl
  | .tok .. => rfl
theorem wkL_size : ∀ l : List AV, sizeL (wkL l) = sizeL l
  | [] => rfl
  | v :: l => by simp only [wkL, sizeL, wk_size v, wkL_size l]
end

theorem wk_isAg : ∀ v : AV, isAg (wkAV v) = isAg v := fun v => by cases v <;> rfl

mutual
theorem wk_rel {TR : TokRel} {C : Cx} {W : World} : ∀ {v : AV} {cs : List Value}, Rel TR C W v cs → Rel TR C W (wkAV v) cs
  | .poison, cs, h => h
  | .undef, cs, h => h
  | .int _, cs, h => h
  | .bool _, cs, h => h
  | .agg l, cs, h => by
    simp only [wkAV, Rel] at h ⊢
    exact wkL_rel h
  | .arr .., cs, h => h
  | .sl t f l, cs, h => by
    simp only [wkAV, Rel] at h ⊢
    obtain ⟨A, c, h1, h2, h3, h4, h5, _⟩ := h
    exact ⟨A, c, h1, h2, h3, (fun h => by cases h), (fun h => by cases h), by simp⟩
  | .tup l, cs, h => by
    simp only [wkAV, Rel] at h ⊢
    obtain ⟨vs, e, h⟩ := h
    exact ⟨vs, e, wkV_rel h⟩
  | .ref .., cs, h => h
  | .cref v p, cs, h => by
    simp only [wkAV, Rel] at h ⊢
    obtain ⟨ad, ds, h1, h2, h3⟩ := h
    exact ⟨ad, ds, wk_rel h1, h2, h3⟩
  | .fn f x y, cs, h => by
    simp only [wkAV, Rel] at h ⊢
    obtain ⟨xs, ys, e, h1, h2⟩ := h
    exact ⟨xs, ys, e, wkV_rel h1, wkV_rel h2⟩
  | .map _, cs, h => h
  | .tok .., cs, h => h
theorem wkL_rel {TR : TokRel} {C : Cx} {W : World} : ∀ {l : List AV} {cs : List Value}, RelL TR C W l cs → RelL TR C W (wkL l) cs
  | [], cs, h => h
  | v :: l, cs, h => by
    simp only [wkL, RelL] at h ⊢
    obtain ⟨c, d, e, hl, h1, h2⟩ := h
    exact ⟨c, d, e, by rw [wk_size, hl], wk_rel h1, wkL_rel h2⟩
theorem wkV_rel {TR : TokRel} {C : Cx} {W : World} : ∀ {l : List AV} {vs : List Value}, RelV TR C W l vs → RelV TR C W (wkL l) vs
  | [], cs, h => h
  | v :: l, cs, h => by
    simp only [wkL, RelV] at h ⊢
    obtain ⟨x, r, e, h1, h2⟩ := h
    refine ⟨x, r, e, ?_, wkV_rel h2⟩
    rcases h1 with h1 | ⟨ds, g1, g2, g3⟩
    · subst h1
      exact .inl rfl
    · exact .inr ⟨ds, by rw [wk_size, g1], wk_rel g2, by rw [g3]; simp [mkV, wk_isAg]⟩
end

theorem vr_wk {TR : TokRel} {C : Cx} {W : World} {v : AV} {x : Value} (h : VR TR C W v x) : VR TR C W (wkAV v) x := by
  rcases h with h1 | ⟨cs, g0, g1, g2⟩
  · subst h1
    exact .inl rfl
  · exact .inr ⟨cs, by rw [wk_size, g0], wk_rel g1, by rw [g2]; simp only [mkV, wk_isAg]⟩

theorem softTs_get (u : List Nat) : ∀ (l : List AV) (i k : Nat), (softTs u i l)[k]? = (l[k]?).map fun v => bif memN u (i + k) then wkAV v else v
  | [], i, k => by simp [softTs]
  | v :: l, i, 0 => by simp [softTs]
  | v :: l, i, k + 1 => by
    simp only [softTs, List.getElem?_cons_succ, softTs_get u l (i + 1) k]
    rw [show i + 1 + k = i + (k + 1) by omega]
theorem softTs_len (u : List Nat) : ∀ (l : List AV) (i : Nat), (softTs u i l).length = l.length
  | [], _ => rfl
  | v :: l, i => by simp [softTs, softTs_len u l (i + 1)]

theorem Sim.soft (S : Sim E V0 io0 W0 C s a W) (u : List Nat) : Sim E V0 io0 W0 C (s.soft u) a W := by
  refine { S with len := ?_, tm := ?_, bx := S.bx, bxn := S.bxn, ln := S.ln, gh := S.gh }
  · rw [S.len]
    exact (softTs_len u s.tmps 0).symm
  · intro t x hx
    have : (softTs u 0 s.tmps)[t]? = some x := hx
    rw [softTs_get] at this
    cases ht : s.tmps[t]? with
    | none => rw [ht] at this; cases this
    | some v =>
      rw [ht] at this
      simp only [Option.map_some, Option.some.injEq] at this
      obtain ⟨y, hy, hr⟩ := S.tm t v ht
      refine ⟨y, hy, ?_⟩
      subst this
      cases memN u (0 + t)
      · exact hr
      · exact vr_wk hr

theorem Sim.mask (S : Sim E V0 io0 W0 C s a W) (w : List Nat × List Nat) : Sim E V0 io0 W0 (swCx w.1 C) (s.mask w) a W := (S.soft w.2).mask1 w.1

/-! Control flow. -/

def toExit : Ex → Exit
  | .norm => .normal
  | .exit j => .exit j
  | .ret => .ret

/-- What stands behind is sound. -/
def KOK {ρ : Type} (D : Nat → Prop) (a0 : Act) (C0 : Cx) (Wa : World) (E : Env) (V0 : Nat → Nat → Prop) (io0 : Io) (W0 : World) (K : Ex → St → Option ρ) (r : ρ) (Q : Exit → Act → World → Prop) : Prop :=
  ∀ e s, K e s = some r → ∀ C a W, Sim E V0 io0 W0 C s a W → Fm E.M D a0 a C0 C Wa W → Q (toExit e) a W

/-- A piece of code is walked soundly. -/
def BOK {ρ : Type} (ro : Option Nat) (D : Nat → Prop) (a0 : Act) (C0 : Cx) (Wa : World) (E : Env) (V0 : Nat → Nat → Prop) (io0 : Io) (W0 : World) (c : Code) (B : St → (Ex → St → Option ρ) → Option ρ) : Prop :=
  ∀ (K : Ex → St → Option ρ) (r : ρ) (Q : Exit → Act → World → Prop), KOK D a0 C0 Wa E V0 io0 W0 K r Q → ∀ s C a W, B s K = some r → Sim E V0 io0 W0 C s a W → Fm E.M D a0 a C0 C Wa W → c.wpIn (Fr ro) 0 E.P Q a W

theorem stepR_scope {P : Program} {b : Frame} {a : Act} {k : List Item} {cs : List Frame} {w : World} {c : Code} : step P (lone (b.atR a (.code (.scope c) :: k)) cs w) = .next (lone (b.atR a (.code c :: .inScope c :: k)) cs w) :=
  step_lone_go (by simp [stepG, stepG.exec, Frame.atR])
theorem stepR_inScope {P : Program} {b : Frame} {a : Act} {k : List Item} {cs : List Frame} {w : World} {c : Code} : step P (lone (b.atR a (.inScope c :: k)) cs w) = .next (lone (b.atR a k) cs w) :=
  step_lone_go (by simp [stepG, stepG.exec, Frame.atR])

theorem wpIn_scope {F : Fence} {n : Nat} {P : Program} {Q : Exit → Act → World → Prop} {a : Act} {w : World} {c : Code} (h : c.wpIn F n P (Exit.noGoto Q) a w) : (Code.scope c).wpIn F n P Q a w := by
  intro b k cs hro hb hr
  have h0 : (lone (b.atR a (.code (.scope c) :: k)) cs w).fenced P F := fenced_calm hb hr rfl
  obtain ⟨e, a₁, w₁, hq, harr⟩ := h b (.inScope c :: k) cs hro hb hr
  cases e with
  | normal => exact ⟨.normal, a₁, w₁, hq, .head h0 stepR_scope (StepsIn.trans harr (.one (fenced_calm hb hr rfl) stepR_inScope))⟩
  | exit id =>
    exact ⟨.exit id, a₁, w₁, hq, fun k' hk => .head h0 stepR_scope (harr.1 k' (by simp [exitTo, hk])),
      fun hr' hk => let ⟨k₁, h1, h2⟩ := harr.2 hr' (by simp [exitTo, hk]); ⟨k₁, h1, .head h0 stepR_scope h2⟩⟩
  | goto l => exact hq.elim
  | ret => exact ⟨_, a₁, w₁, hq, .of_steps (.one h0 stepR_scope) harr⟩
  | panic ch => exact ⟨_, a₁, w₁, hq, .of_steps (.one h0 stepR_scope) harr⟩
  | outgrown => exact ⟨_, a₁, w₁, hq, .of_steps (.one h0 stepR_scope) harr⟩

theorem swCx_lv {w : List Nat} {C : Cx} {k v : Nat} (hv : (swCx w C).lv k = some (v, true)) : ∃ cu, C.lv k = some (cu, true) := by
  simp only [swCx] at hv
  cases hq : C.lv k with
  | none => rw [hq] at hv; cases hv
  | some x =>
    obtain ⟨cu, al⟩ := x
    rw [hq] at hv
    simp only [Option.map_some, Option.some.injEq, Prod.mk.injEq] at hv
    obtain ⟨_, rfl⟩ := hv
    exact ⟨cu, rfl⟩
theorem swCx_box {w : List Nat} {C : Cx} {k b : Nat} (hb : (swCx w C).box k = some b) : memN w k = false ∧ C.box k = some b := by
  simp only [swCx] at hb
  cases hm : memN w k with
  | true => rw [hm] at hb; cases hb
  | false => rw [hm] at hb; exact ⟨rfl, hb⟩

theorem Fm.mask {M D : Nat → Prop} {a0 a : Act} {C0 C : Cx} {Wa W : World} (h : Fm M D a0 a C0 C Wa W) (w : List Nat) : Fm M D a0 a C0 (swCx w C) Wa W :=
  ⟨h.sz, h.tm, fun k b hk hb => h.bx k b hk (swCx_box hb).2, fun k v hk hv => by
    obtain ⟨cu, hq⟩ := swCx_lv hv
    exact h.lv k cu hk hq, h.kx.kp, fun k b hb => h.kx.bx k b (swCx_box hb).2, fun k v b lo hi h1 h2 h3 => by
    obtain ⟨cu, hq⟩ := swCx_lv h1
    exact h.kx.tl k cu b lo hi hq h2 h3, h.kx.vo⟩

/-- A block of ours that holds no data turns. -/
theorem Sim.turn (S : Sim E V0 io0 W0 C s a W) {r : Nat} {o o' : Obj} (hr : W.heap[r]? = some o) (hc : ∀ cs ty fr, o ≠ .cells cs ty fr) (hm : ∀ es ck, o ≠ .map es ck) (h0 : W0.heap.size ≤ r) {a' : Act} (ht : a'.tmps = a.tmps) (hd : DfOK W0 (W.putObj r o') a'.defers) :
    Sim E V0 io0 W0 C s a' (W.putObj r o') := by
  have hoth : ∀ (b : Nat) (x : Obj), W.heap[b]? = some x → x ≠ o → (W.putObj r o').heap[b]? = some x := fun b x hb hx => by
    have : b ≠ r := fun e => by subst e; rw [hr] at hb; cases hb; exact hx rfl
    rw [World.putObj_heap_other this]
    exact hb
  have hcell : ∀ (ad : Addr) (v : Value), W.cell? ad = some v → (W.putObj r o').cell? ad = some v := fun ad v h => by
    obtain ⟨cs, ty, fr, h1, _⟩ := cells_of_cell h
    exact (cell_of_block ((hoth _ _ h1 fun e => hc _ _ _ e.symm).trans h1.symm)).trans h
  have hst : Stab C.V C.V W (W.putObj r o') := ⟨fun ad v h _ => hcell ad v h, fun _ _ _ h => h⟩
  have hle : CxLe C C W (W.putObj r o') := ⟨hst, fun _ _ h => h, fun k cu al h => ⟨cu, al, h, Nat.le_refl _, fun h _ => ⟨h, rfl⟩⟩, fun _ _ => rfl, by simp⟩
  have hiok : IoOK E.MI C.io (W.putObj r o') := fun b t d h => by
    obtain ⟨es, ck, h1, h2⟩ := S.iok b t d h
    exact ⟨es, ck, hoth _ _ h1 (fun e => hm _ _ e.symm), h2⟩
  have hold : ∀ b, b < W0.heap.size → (W.putObj r o').heap[b]? = W.heap[b]? := fun b hb => World.putObj_heap_other (by omega)
  refine { S with len := by rw [ht]; exact S.len, tm := ?_, df := hd, bx := ?_, tl := ?_, Vn := ?_, iok := hiok, gl := ?_, kp := ?_, gh := ?_ }
  · intro t x hx
    obtain ⟨v, h1, h2⟩ := S.tm t x hx
    exact ⟨v, by rw [ht]; exact h1, h2.mono E.hT hle⟩
  · intro k v hv
    obtain ⟨b, cs, ty, h1, h2, h3, h4, h5⟩ := S.bx k v hv
    exact ⟨b, cs, ty, h1, hoth _ _ h2 (fun e => hc _ _ _ e.symm), h3, Rel.mono E.hT hle h4, h5⟩
  · intro k v b lo hi o h1 h2 h3 h4
    obtain ⟨g1, g2, g3, cs, ty, g4, g5⟩ := S.tl k v b lo hi o h1 h2 h3 h4
    exact ⟨g1, g2, g3, cs, ty, hoth _ _ g4 (fun e => hc _ _ _ e.symm), g5⟩
  · intro b o h
    exact (S.Vn b o h).imp id fun h => ⟨h.1, by simpa using h.2⟩
  · intro g v h
    have := S.gl g v h
    exact Rel.mono E.hT (C := baseCx C.V C.io) (C' := baseCx C.V C.io) ⟨hst, (fun _ _ h => by cases h), (fun _ _ _ h => by cases h), fun _ _ => rfl, by simp⟩ this
  · exact ⟨S.kp.os, S.kp.tape, S.kp.output, by simpa using S.kp.size, fun b hb hi hm => (hold b hb).trans (S.kp.block b hb hi hm), S.kp.io⟩
  · intro k x y tr hl h
    refine E.hJ _ _ _ _ _ _ _ (S.gh k x y tr hl h) ⟨rfl, rfl, rfl, by simp, fun b hb _ => hold b (Nat.lt_of_lt_of_le hb S.n0), hst, fun _ _ => rfl, fun _ _ _ h => h, fun b o h => by simpa using S.base.old b o h⟩ hiok

end Ev
end Go.Proofs.YtidnikjkpbmhhaaDoor
