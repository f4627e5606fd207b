/- All operations in one word; guards and choices. -/
import Derived.Test.YtidnikjkpbmhhaaDoorStep6
set_option linter.unusedVariables false
namespace Go.Proofs.YtidnikjkpbmhhaaDoor
namespace Ev

variable {E : Env} {V0 : Nat → Nat → Prop} {io0 : Io} {W0 : World} {C : Cx} {s : St} {a : Act} {W : World} {X : Ctx} {o : Oper}

theorem evVal_ok (hX : CtxOK E X) (S : Sim E V0 io0 W0 C s a W) {v : AV} {obs : List Ob} (h : evVal X s o = some (true, v, obs)) : OpOK E V0 io0 W0 C o s a W v obs := by
  unfold evVal at h
  dsimp only at h
  have hq : ∀ {r : Option (Bool × AV)}, (match r with | some (b, v) => some (b, v, s.objs) | none => none) = some (true, v, obs) → r = some (true, v) ∧ obs = s.objs := fun {r} h => by
    cases r with
    | none => cases h
    | some x => obtain ⟨b, u⟩ := x; cases h; exact ⟨rfl, rfl⟩
  have hp : ∀ {r : Option AV}, (match r with | some v => some (true, v, s.objs) | none => none) = some (true, v, obs) → r = some v ∧ obs = s.objs := fun {r} h => by
    cases r with
    | none => cases h
    | some x => cases h; exact ⟨rfl, rfl⟩
  split at h
  · rename_i x ho
    cases h
    exact op_move hX S _ (.inl ho)
  · rename_i x ho
    cases h
    exact op_move hX S _ (.inr ho)
  · rename_i e ho
    split at h
    · rename_i d i hd hi
      split at h
      · rename_i z hz hn
        split at h
        · rename_i hl
          cases h
          exact op_alloc hX S ho hi hz hn hl
        · cases h
      · cases h
    · cases h
  · rename_i e x ho
    split at h
    · rename_i d hd
      split at h
      · rename_i hn
        split at h
        · rename_i hl
          cases h
          exact op_box hX S ho hl.1 hl.2.1 hn hl.2.2
        · cases h
      · cases h
    · cases h
  · rename_i t parts ho
    split at h
    · rename_i i hi
      split at h
      · rename_i z hz hn
        split at h
        · cases h
        · rename_i hf
          obtain ⟨h1, rfl⟩ := hp h
          split at h1
          · rename_i l hl
            cases h1
            exact op_build hX S ho hi hz hn (by simpa using hf) hl
          · cases h1
      · rename_i n te eid te' m xs hz hn
        obtain ⟨h1, rfl⟩ := hp h
        split at h1
        · rename_i l hl
          split at h1
          · rename_i hc
            cases h1
            exact op_buildArr hX S ho hi hz hn hl hc.1 hc.2
          · cases h1
        · cases h1
      · cases h
    · cases h
  · rename_i t len parts ho
    split at h
    · rename_i e eid by_ he
      split at h
      · rename_i l hl
        split at h
        · rename_i hc
          cases h
          exact op_buildSlice hX S ho he hl hc.1 hc.2.1 hc.2.2.1 _ (by simp)
        · cases h
      · cases h
    · cases h
  · rename_i t x ho
    obtain ⟨h1, rfl⟩ := hp h
    split at h1
    · rename_i u hu
      split at h1
      · rename_i hf
        cases h1
        exact op_load hX S ho hu hf
      · cases h1
    · cases h1
  · rename_i t x y ho
    split at h
    · rename_i k p hx
      split at h
      · rename_i u hk
        split at h
        · rename_i u' hf hs
          cases h
          simp only [Bool.and_eq_true] at hf
          exact op_store hX S ho hx hk hf.1 hf.2 hs
        · cases h
      · cases h
    · cases h
  · rename_i op t x y t' ho
    split at h
    · rename_i hb
      obtain ⟨h1, rfl⟩ := hq h
      exact op_bin hX S ho hb.1 hb.2 h1
    · cases h
  · rename_i t x ho
    obtain ⟨h1, rfl⟩ := hp h
    split at h1
    · rename_i b hx
      cases h1
      exact op_not hX S ho hx
    · cases h1
  · rename_i t x ho
    obtain ⟨h1, rfl⟩ := hp h
    split at h1
    · rename_i b hx
      cases h1
      exact op_neg hX S ho hx
    · cases h1
  · rename_i x i ho
    obtain ⟨h1, rfl⟩ := hp h
    split at h1
    · rename_i l hx
      exact op_extract hX S ho hx h1
    · cases h1
  · rename_i t x f ho
    split at h
    · rename_i i hi
      obtain ⟨h1, rfl⟩ := hp h
      split at h1
      · rename_i off ft hf
        exact op_fieldAddr hX S ho hi hf h1
      · cases h1
    · cases h
  · rename_i t x f ho
    split at h
    · rename_i i hi
      obtain ⟨h1, rfl⟩ := hp h
      split at h1
      · rename_i l off ft hx hf
        split at h1
        · rename_i u hu
          split at h1
          · rename_i hc
            cases h1
            exact op_field hX S ho hi hx hf hu hc.1 hc.2
          · cases h1
        · cases h1
      · cases h1
    · cases h
  · rename_i t x y ho
    split at h
    · rename_i te f l n hx hy
      split at h
      · rename_i te' e by_ he
        split at h
        · rename_i ee
          subst ee
          simp only [Option.some.injEq, Prod.mk.injEq, Bool.and_eq_true, decide_eq_true_eq] at h
          obtain ⟨⟨h0, h1⟩, rfl, rfl⟩ := h
          exact op_indexAddr hX S ho hx hy he h0 h1
        · cases h
      · cases h
    · rename_i n hy _
      split at h
      · rename_i ti hi
        split at h
        · rename_i m te tid ha
          split at h
          · rename_i r hr
            simp only [Option.some.injEq, Prod.mk.injEq, Bool.and_eq_true, decide_eq_true_eq] at h
            obtain ⟨⟨h0, h1⟩, rfl, rfl⟩ := h
            exact op_indexAddrA hX S ho hi ha hy hr h0 h1
          · cases h
        · cases h
      · cases h
    · cases h
  · rename_i t x y ho
    split at h
    · rename_i te m xs n ti hx hy hi
      split at h
      · rename_i m' te' tid ha
        split at h
        · rename_i ee
          obtain ⟨e1, e2⟩ := ee
          subst e1 e2
          simp only [Option.some.injEq, Prod.mk.injEq, Bool.and_eq_true, decide_eq_true_eq] at h
          obtain ⟨⟨h0, h1⟩, rfl, rfl⟩ := h
          exact op_index hX S ho hi ha hx hy h0 h1
        · cases h
      · cases h
    · cases h
  · rename_i t x lo hi mx ho
    split at h
    · rename_i te f l te' e by_ hx he
      split at h
      · rename_i ee
        subst ee
        obtain ⟨h1, rfl⟩ := hq h
        exact op_slice hX S ho hx he h1
      · cases h
    · cases h
  · rename_i f x y ho
    cases h
    exact op_makeFunc hX S ho
  · rename_i ho
    split at h
    · rename_i d hd
      cases h
      exact op_makeMap hX S ho hd
    · cases h
  · rename_i t m k v' ho
    split at h
    · rename_i u mt d hu hm
      split at h
      · rename_i hut
        simp only [Option.some.injEq, Prod.mk.injEq] at h
        obtain ⟨h1, rfl, rfl⟩ := h
        exact op_mapUpdate hX S ho hu hm hut h1
      · cases h
    · cases h
  · rename_i t n c ho
    split at h
    · rename_i d hd
      split at h
      · rename_i hl
        exact op_make hX S ho hl h
      · cases h
    · cases h
  · rename_i args ts ho
    split at h
    · rename_i x t ha ht
      have e1 : args = #[x] := Array.ext' (by simpa using ha)
      have e2 : ts = #[t] := Array.ext' (by simpa using ht)
      subst e1 e2
      split at h
      · rename_i te f l hx
        obtain ⟨h1, rfl⟩ := hp h
        split at h1
        · rename_i y he
          obtain ⟨te0, e, by_⟩ := y
          cases h1
          obtain ⟨hu, _⟩ := look_el hX.T he
          have := S.evO hX t x
          rw [hx] at this
          obtain ⟨A, c, ev, _⟩ := this.sl_inv
          refine OpOK.pure S (x := .int .i64 l.length) ?_ (vr_int _)
          unfold execOp
          rw [ho]
          simp only [Sem.run_bind, resolve, Sem.run_pure, Result.andThen_ok, invoke, builtin]
          simp [Builtin.len_, run_underlying hu, ev, goInt]
        · cases h1
      · rename_i te n xs hx
        obtain ⟨h1, rfl⟩ := hp h
        split at h1
        · rename_i i hi
          split at h1
          · rename_i m te' tid ha
            split at h1
            · rename_i ee
              subst ee
              cases h1
              exact op_lenA hX S ho hx hi ha
            · cases h1
          · cases h1
        · cases h1
      · cases h
    · cases h
  · rename_i args ts ho
    split at h
    · rename_i x r ha
      obtain ⟨h1, rfl⟩ := hp h
      exact op_max hX S ho ha h1
    · cases h
  · rename_i args ts ho
    split at h
    · rename_i x r ha
      obtain ⟨h1, rfl⟩ := hp h
      exact op_min hX S ho ha h1
    · cases h
  · rename_i args ts ho
    split at h
    · rename_i d x y t t' hd ha ht
      have e1 : args = #[x, y] := Array.ext' (by simpa using ha)
      have e2 : ts = #[t, t'] := Array.ext' (by simpa using ht)
      split at h
      · rename_i hc
        obtain ⟨e3, hl⟩ := hc
        subst e1 e2 e3
        exact op_append hX S ho hl h
      · cases h
    · cases h
  · rename_i f args ts ho
    split at h
    · rename_i fid first cap hf
      split at h
      · rename_i g hg
        obtain ⟨h1, rfl⟩ := hq h
        exact op_call hX S ho hf hg h1
      · cases h
    · rename_i i t d hf
      split at h
      · rename_i g x y tr hg hl
        split at h
        · rename_i tt u m hgm
          cases h
          exact op_tcall hX S ho hf hg hl hgm
        · cases h
      · cases h
    · cases h
  · cases h

/-! Which objects an operation turns. -/

theorem ObLe.refl (d : Option Nat) (l : List Ob) : ObLe d l l := fun _ _ => ⟨fun v h => ⟨v, h⟩, fun _ h => h⟩

theorem ObLe.set (d : Nat) (l : List Ob) (x : Ob) : ObLe (some d) l (l.set d x) := fun k hk => by
  have : d ≠ k := fun e => hk (by rw [e])
  rw [List.getElem?_set_ne this]
  exact ⟨fun v h => ⟨v, h⟩, fun _ h => h⟩

theorem ObLe.setBox {d : Option Nat} {l : List Ob} {k : Nat} {v u : AV} (hk : l.getD k .none = .box v) : ObLe d l (l.set k (.box u)) := fun j _ => by
  rw [List.getElem?_set]
  by_cases e : k = j
  · subst e
    have hl : l[k]? = some (.box v) := by
      cases hq : l[k]? with
      | none => simp [List.getD, hq] at hk
      | some q => simp [List.getD, hq] at hk; rw [hk]
    rw [if_pos rfl, hl]
    refine ⟨fun _ _ => ⟨v, rfl⟩, fun w h => ?_⟩
    split at h <;> cases h
  · rw [if_neg e]
    exact ⟨fun v h => ⟨v, h⟩, fun _ h => h⟩

theorem ObLe.setNot {d : Option Nat} {l : List Ob} {k : Nat} {x : Ob} (h1 : ∀ v, x ≠ .box v) (h2 : ∀ v, x ≠ .lin v true) : ObLe d l (l.set k x) := fun j _ => by
  rw [List.getElem?_set]
  by_cases e : k = j
  · subst e
    rw [if_pos rfl]
    refine ⟨fun w h => ?_, fun w h => ?_⟩
    · split at h
      · cases h; exact absurd rfl (h1 _)
      · cases h
    · split at h
      · cases h; exact absurd rfl (h2 _)
      · cases h
  · rw [if_neg e]
    exact ⟨fun v h => ⟨v, h⟩, fun _ h => h⟩

theorem ObLe.trans {d : Option Nat} {l m n : List Ob} (h : ObLe d l m) (k : ObLe d m n) : ObLe d l n := fun j hj =>
  ⟨fun v hv => by
    obtain ⟨u, hu⟩ := (k j hj).1 v hv
    exact (h j hj).1 u hu, fun v hv => (h j hj).2 v ((k j hj).2 v hv)⟩

theorem app_ob {T : Tbl} {ty d : Nat} {x y : AV} {b : Bool} {v : AV} {obs : List Ob} (h : appAV T s ty d x y = some (b, v, obs)) : ObLe (some d) s.objs obs := by
  unfold appAV at h
  repeat' split at h
  all_goals first
    | (cases h; done)
    | (dsimp only at h
       repeat' split at h
       all_goals first
         | (cases h; done)
         | (cases h
            exact (ObLe.setNot (by intro v h; cases h) (by intro v h; cases h)).trans (ObLe.set _ _ _))
         | (cases h
            exact ObLe.set _ _ _))

theorem mk_ob {T : Tbl} {ty d : Nat} {x y : AV} {b : Bool} {v : AV} {obs : List Ob} (h : mkSl T s ty d x y = some (b, v, obs)) : ObLe (some d) s.objs obs := by
  unfold mkSl at h
  repeat' split at h
  all_goals first
    | (cases h; done)
    | (cases h
       exact ObLe.set _ _ _)

theorem evVal_ob {b : Bool} {v : AV} {obs : List Ob} (h : evVal X s o = some (b, v, obs)) : ObLe o.dst s.objs obs := by
  unfold evVal at h
  dsimp only at h
  split at h
  all_goals repeat' split at h
  all_goals first
    | (cases h; done)
    | (cases h
       exact ObLe.refl _ _)
    | (rw [‹o.dst = some _›]; exact app_ob h)
    | (rw [‹o.dst = some _›]; exact mk_ob h)
    | (cases h
       rw [‹o.dst = some _›]; exact ObLe.set _ _ _)
    | (cases h
       exact ObLe.setBox (by assumption))
    | (cases h
       exact ObLe.setNot (by intro v h; cases h) (by intro v h; cases h))

end Ev
end Go.Proofs.YtidnikjkpbmhhaaDoor
