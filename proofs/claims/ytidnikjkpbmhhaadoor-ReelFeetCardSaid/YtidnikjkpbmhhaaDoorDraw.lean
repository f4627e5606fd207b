/- Regions that draw their order: the order of the text serves for any. -/
import Derived.Test.YtidnikjkpbmhhaaDoorReg
import Derived.Orders
set_option linter.unusedVariables false
set_option linter.unusedSimpArgs false
namespace Go.Proofs.YtidnikjkpbmhhaaDoor
namespace Ev

variable {E : Env} {V0 : Nat → Nat → Prop} {io0 : Io} {W0 : World} {C : Cx} {s s' s1 s2 : St} {a : Act} {W : World} {X : Ctx} {o : Oper}

/-- Some machine's state reads so. -/
def Live (E : Env) (V0 : Nat → Nat → Prop) (io0 : Io) (W0 : World) (s : St) : Prop := ∃ C a W, Sim E V0 io0 W0 C s a W

theorem wp_ex {P : Program} {next : Act → World → Prop} (h : o.wpIn (Fr none) 0 P a W next (fun _ _ _ => False)) : ∃ a' W', next a' W' := by
  unfold Oper.wpIn at h
  replace h := h.2
  generalize (o.semAt (Fr none).round a.eval).run P W = r at h
  cases r with
  | ok n w' =>
    cases n <;> simp only [Oper.uponIn] at h
    case value v => exact ⟨_, _, h⟩
    case skip => exact ⟨_, _, h⟩
    case defer d => exact ⟨_, _, h⟩
    case enter f args =>
      obtain ⟨e, w'', fr, hR, _⟩ := h.2.2 [] (room_wide _)
      cases e with
      | returned v => exact ⟨_, _, hR⟩
      | panicked c => exact hR.elim
      | outgrown =>
        obtain ⟨_, _, h⟩ := hR
        exact h.elim
    case row row args =>
      obtain ⟨v, w'', hR, _⟩ := h.2 (Frame.ofRow P row args .normal) [] (room_wide _)
      exact ⟨_, _, hR⟩
    case round l f tmps asg body =>
      obtain ⟨e, w'', hR, _⟩ := h.2.2 default [] (room_wide _)
      cases e with
      | returned v => exact ⟨_, _, hR⟩
      | panicked c => exact hR.elim
      | outgrown =>
        obtain ⟨_, _, h⟩ := hR
        exact h.elim
    all_goals exact h.elim
  | halt x w' => cases x <;> simp only [Oper.uponIn] at h

theorem live_step (hX : CtxOK E X) {ops : Array Oper} (h : st1 X ops.toList s o = some s') (hl : Live E V0 io0 W0 s) : Live E V0 io0 W0 s' := by
  obtain ⟨C, a, W, S⟩ := hl
  have := st1_ok (V0 := V0) (io0 := io0) (W0 := W0) hX h C a W S none (fun a' W' => ∃ C', Sim E V0 io0 W0 C' s' a' W') (fun _ _ _ => False) (fun C' a' W' S' _ => ⟨C', S'⟩)
  split at this
  · obtain ⟨a', W', C', S'⟩ := wp_ex this
    exact ⟨C', a', W', S'⟩
  · obtain ⟨C', S'⟩ := this
    exact ⟨C', _, _, S'⟩

theorem live_ref (hl : Live E V0 io0 W0 s) {k t : Nat} {p : List Stp} (h : s.get t = .ref k p) : ∃ v, s.objs.getD k .none = .box v := by
  obtain ⟨C, a, W, S⟩ := hl
  have hv := S.get t
  rw [h] at hv
  rcases hv with hv | ⟨cs, _, hv, _⟩
  · cases hv
  · simp only [Rel] at hv
    obtain ⟨b, hb, _⟩ := hv
    obtain ⟨v, hv⟩ := S.bxn k b hb
    exact ⟨v, by simp [List.getD, hv]⟩

/-! What an operation looks at. -/

def Agree (ops : List Oper) (o : Oper) (s s' : St) : Prop := ∀ k ∈ looksL ops o, s'.get k = s.get k

theorem evO_agree {ops : List Oper} (h : Agree ops o s s') (t : Nat) {x : Operand} (hx : x ∈ o.op.operands) : evO X s' t x = evO X s t x := by
  cases x with
  | tmp k =>
    simp only [evO]
    refine h k (List.mem_append_left _ (List.mem_filterMap.2 ⟨.tmp k, by simpa using hx, rfl⟩))
  | _ => rfl

theorem wantA_agree {ops : List Oper} (h : Agree ops o s s') : wantA ops s' o = wantA ops s o := by
  unfold wantA
  cases hg : o.guard with
  | none => rfl
  | some jw =>
    obtain ⟨j, want⟩ := jw
    dsimp only
    cases hj : ops[j]? with
    | none => rfl
    | some oj =>
      dsimp only
      cases hk : oj.dst with
      | none => rfl
      | some k =>
        dsimp only
        rw [h k (by unfold looksL; simp [hg, hj, hk])]

theorem map_agree {ops : List Oper} (h : Agree ops o s s') (t : Nat) {l : List Operand} (hl : ∀ x ∈ l, x ∈ o.op.operands) : l.map (evO X s' t) = l.map (evO X s t) :=
  List.map_congr_left fun x hx => evO_agree h t (hl x hx)

theorem argsO_agree {ops : List Oper} (h : Agree ops o s s') : ∀ (ts : List Nat) (l : List Operand), (∀ x ∈ l, x ∈ o.op.operands) → argsO X s' ts l = argsO X s ts l
  | [], [], _ => rfl
  | _ :: _, [], _ => rfl
  | [], x :: l, hl => by
    simp only [argsO]
    rw [evO_agree h _ (hl x (List.mem_cons_self ..)), argsO_agree h [] l fun y hy => hl y (List.mem_cons_of_mem _ hy)]
  | t :: ts, x :: l, hl => by
    simp only [argsO]
    rw [evO_agree h _ (hl x (List.mem_cons_self ..)), argsO_agree h ts l fun y hy => hl y (List.mem_cons_of_mem _ hy)]

/-- A value and no object turned. -/
theorem pq_same {r : Option AV} {b : Bool} {v : AV} {obs objs objs' : List Ob} : (match r with | some v => some (true, v, objs) | none => none) = some (b, v, obs) →
    obs = objs ∧ (match r with | some v => some (true, v, objs') | none => none) = some (b, v, objs') := fun h => by
  cases r with
  | none => cases h
  | some x =>
    cases h
    exact ⟨rfl, rfl⟩
theorem qq_same {r : Option (Bool × AV)} {b : Bool} {v : AV} {obs objs objs' : List Ob} : (match r with | some (b, v) => some (b, v, objs) | none => none) = some (b, v, obs) →
    obs = objs ∧ (match r with | some (b, v) => some (b, v, objs') | none => none) = some (b, v, objs') := fun h => by
  cases r with
  | none => cases h
  | some x =>
    obtain ⟨c, x⟩ := x
    cases h
    exact ⟨rfl, rfl⟩

theorem evVal_pure {ops : List Oper} (hA : Agree ops o s s') (hc : clsO X.tk o.op = 0) {b : Bool} {v : AV} {obs : List Ob} (h : evVal X s o = some (b, v, obs)) :
    obs = s.objs ∧ evVal X s' o = some (b, v, s'.objs) := by
  have e : ∀ t x, x ∈ o.op.operands → evO X s' t x = evO X s t x := fun t x hx => evO_agree hA t hx
  have em : ∀ t (l : List Operand), (∀ x ∈ l, x ∈ o.op.operands) → l.map (evO X s' t) = l.map (evO X s t) := fun t l hl => map_agree hA t hl
  have ea : ∀ ts (l : List Operand), (∀ x ∈ l, x ∈ o.op.operands) → argsO X s' ts l = argsO X s ts l := fun ts l hl => argsO_agree hA ts l hl
  have ep : ∀ (f : Nat → Nat) (l : List (Nat × Operand)), (∀ x ∈ l, x.2 ∈ o.op.operands) → l.map (fun y => (y.1, evO X s' (f y.1) y.2)) = l.map (fun y => (y.1, evO X s (f y.1) y.2)) := fun f l hl =>
    List.map_congr_left fun y hy => by rw [e _ _ (hl y hy)]
  unfold evVal at h ⊢
  cases ho : o.op with
  | move x =>
    simp only [ho, Op.operands] at h e ⊢
    rw [e _ x (by simp)]
    cases h
    exact ⟨rfl, rfl⟩
  | assign x =>
    simp only [ho, Op.operands] at h e ⊢
    rw [e _ x (by simp)]
    cases h
    exact ⟨rfl, rfl⟩
  | build t parts =>
    simp only [ho] at h ep ⊢
    have hp : ∀ x ∈ parts.toList, x.2 ∈ (Op.build t parts).operands := fun x hx => by
      simp only [Op.operands]
      simp only [List.mem_toArray, List.mem_map]
      exact ⟨x, hx, rfl⟩
    split at h
    · split at h
      · split at h
        · cases h
        · rename_i hf
          rw [ep _ _ hp]
          simp only [hf] at h ⊢
          exact pq_same h
      · rw [ep (fun _ => _) _ hp]
        exact pq_same h
      · cases h
    · cases h
  | buildSlice t len parts =>
    simp only [ho] at h ep ⊢
    have hp : ∀ x ∈ parts.toList, x.2 ∈ (Op.buildSlice t len parts).operands := fun x hx => by
      simp only [Op.operands]
      simp only [List.mem_toArray, List.mem_map]
      exact ⟨x, hx, rfl⟩
    split at h
    · rw [ep (fun _ => _) _ hp]
      split at h
      · split at h
        · rename_i hh
          cases h
          exact ⟨rfl, by simp only [if_pos hh]⟩
        · cases h
      · cases h
    · cases h
  | binOp op t x y u =>
    simp only [ho, Op.operands] at h e ⊢
    rw [e t x (by simp), e t y (by simp)]
    split at h
    · rename_i hh
      rw [if_pos hh]
      exact qq_same h
    · cases h
  | unOp op t x =>
    simp only [ho, Op.operands] at h e ⊢
    cases op <;> simp only at h ⊢ <;> first
      | (rw [e 0 x (by simp)]; exact pq_same h)
      | cases h
  | extract x i =>
    simp only [ho, Op.operands] at h e ⊢
    rw [e 0 x (by simp)]
    exact pq_same h
  | fieldAddr t x f =>
    simp only [ho, Op.operands] at h e ⊢
    rw [e 0 x (by simp)]
    split at h
    · exact pq_same h
    · cases h
  | field t x f =>
    simp only [ho, Op.operands] at h e ⊢
    rw [e 0 x (by simp)]
    split at h
    · exact pq_same h
    · cases h
  | indexAddr t x i =>
    simp only [ho, Op.operands] at h e ⊢
    rw [e t x (by simp), e 0 i (by simp)]
    repeat' split at h
    all_goals first | (cases h; done) | skip
    all_goals (cases h; simp_all)
  | index t x i =>
    simp only [ho, Op.operands] at h e ⊢
    rw [e t x (by simp), e 0 i (by simp)]
    repeat' split at h
    all_goals first | (cases h; done) | skip
    all_goals (cases h; simp_all)
  | slice t x lo hi mx =>
    simp only [ho, Op.operands] at h e ⊢
    have el : lo.map (evO X s' 0) = lo.map (evO X s 0) := by
      cases lo with
      | none => rfl
      | some y => simp only [Option.map_some]; rw [e 0 y (by simp)]
    have eh : hi.map (evO X s' 0) = hi.map (evO X s 0) := by
      cases hi with
      | none => rfl
      | some y => simp only [Option.map_some]; rw [e 0 y (by simp)]
    have ex : mx.map (evO X s' 0) = mx.map (evO X s 0) := by
      cases mx with
      | none => rfl
      | some y => simp only [Option.map_some]; rw [e 0 y (by simp)]
    rw [e t x (by simp), el, eh, ex]
    split at h
    · split at h
      · rename_i hh
        rw [if_pos hh]
        exact qq_same h
      · cases h
    · cases h
  | makeMap t r =>
    cases r with
    | none =>
      simp only [ho] at h ⊢
      split at h
      · cases h
        exact ⟨rfl, rfl⟩
      · cases h
    | some r => simp only [ho] at h; cases h
  | mapUpdate t m k v' =>
    simp only [ho, Op.operands] at h e ⊢
    rw [e 0 m (by simp), e 0 k (by simp), e 0 v' (by simp)]
    split at h
    · split at h
      · rename_i hh
        cases h
        exact ⟨rfl, by simp only [if_pos hh]⟩
      · cases h
    · cases h
  | makeFunc fn first cap =>
    simp only [ho, Op.operands] at h em ⊢
    cases fn with
    | func f =>
      dsimp only at h ⊢
      rw [em 0 first.toList (fun x hx => by simp at hx ⊢; exact .inl hx), em 0 cap.toList (fun x hx => by simp at hx ⊢; exact .inr hx)]
      cases h
      exact ⟨rfl, rfl⟩
    | _ => cases h
  | call c =>
    obtain ⟨callee, args, argTypes⟩ := c
    rw [ho] at hc
    simp only [ho] at h e em ea ⊢
    cases callee with
    | invoke r m => cases h
    | value f =>
      have ht : ∀ i t d, evO X s 0 f = .tok i t d → findA X.K i = none := fun i t d hf => by
        cases f with
        | func q => simp [evO] at hf
        | _ =>
          simp only [clsO] at hc
          split at hc
          · cases hc
          · rename_i hk
            unfold Ctx.tk at hk
            split at hk
            · rename_i hK
              rw [hK]
              rfl
            · exact absurd rfl hk
      simp only [Op.operands, Call.operands] at h e ea ⊢
      rw [e 0 f (by simp), ea argTypes.toList args.toList (fun x hx => by simp at hx ⊢; first | exact .inr hx | exact .inl hx)]
      split at h
      · split at h
        · exact qq_same h
        · cases h
      · rename_i i t d hf
        rw [ht i t d hf] at h
        cases h
      · cases h
    | builtin bt =>
      simp only [Op.operands, Call.operands] at h e em ⊢
      cases bt with
      | len =>
        dsimp only at h ⊢
        split at h
        · rename_i x t hx ht
          rw [e t x (by have : x ∈ args.toList := by rw [hx]; simp
                        simp at this ⊢; exact this)]
          split at h
          · exact pq_same h
          · exact pq_same h
          · cases h
        · cases h
      | max =>
        dsimp only at h ⊢
        split at h
        · rename_i x r hx
          have hm : ∀ y, y ∈ x :: r → y ∈ args := fun y hy => by rw [← hx] at hy; simpa using hy
          rw [e 0 x (by have := hm x (by simp); simpa using this), em 0 r (fun y hy => by have := hm y (by simp [hy]); simpa using this)]
          exact pq_same h
        · cases h
      | min =>
        dsimp only at h ⊢
        split at h
        · rename_i x r hx
          have hm : ∀ y, y ∈ x :: r → y ∈ args := fun y hy => by rw [← hx] at hy; simpa using hy
          rw [e 0 x (by have := hm x (by simp); simpa using this), em 0 r (fun y hy => by have := hm y (by simp [hy]); simpa using this)]
          exact pq_same h
        · cases h
      | append => exact absurd hc (by simp [clsO])
      | _ => cases h
  | _ => simp only [ho] at h ⊢ <;> first | (cases h; done) | exact absurd hc (by rw [ho]; simp [clsO])

theorem val_pure {ops : List Oper} (hA : Agree ops o s s') (hc : clsO X.tk o.op = 0) {v : AV} {obs : List Ob} (h : valA X s o = some (v, obs)) :
    obs = s.objs ∧ valA X s' o = some (v, s'.objs) := by
  unfold valA at h ⊢
  have key : ∀ v obs, (match evVal X s o with | some (t, v, obs) => bif t then some (v, obs) else none | none => none) = some (v, obs) →
      obs = s.objs ∧ (match evVal X s' o with | some (t, v, obs) => bif t then some (v, obs) else none | none => none) = some (v, s'.objs) := fun v obs h => by
    cases hv : evVal X s o with
    | none => rw [hv] at h; cases h
    | some r =>
      obtain ⟨t, u, ob⟩ := r
      obtain ⟨h1, h2⟩ := evVal_pure hA hc hv
      rw [hv] at h
      rw [h2]
      cases t
      · cases h
      · cases h
        exact ⟨h1, rfl⟩
  cases ho : o.op with
  | pick c x y =>
    have e : ∀ t x, x ∈ o.op.operands → evO X s' t x = evO X s t x := fun t x hx => evO_agree hA t hx
    rw [ho] at e
    simp only [Op.operands] at e
    simp only [ho] at h ⊢
    rw [e 0 c (by simp), e o.type x (by simp), e o.type y (by simp)]
    split at h
    · cases h
      exact ⟨rfl, rfl⟩
    · cases h
  | _ =>
    simp only [ho] at h ⊢
    exact key v obs h

/-! Which objects an operation reads, and which it turns. -/

def ob (s : St) (k : Nat) : Ob := s.objs.getD k .none

def nb (o : Ob) : Prop := (∀ v, o ≠ .box v) ∧ ∀ a b m, o ≠ .map a b m

structure Foot (X : Ctx) (ops : List Oper) (o : Oper) (s s1 : St) (v : AV) (R W : Nat → Prop) : Prop where
  eq : s1.tmps = (s.put o.dst v).tmps
  sub : ∀ k, W k → R k
  len : s1.objs.length = s.objs.length
  out : ∀ k, ¬ W k → ob s1 k = ob s k
  again : ∀ s', Agree ops o s s' → s'.objs.length = s.objs.length → (∀ k, R k → ob s' k = ob s k) →
    ∃ s1', st1 X ops s' o = some s1' ∧ s1'.tmps = (s'.put o.dst v).tmps ∧ s1'.objs.length = s.objs.length ∧ (∀ k, W k → ob s1' k = ob s1 k) ∧ (∀ k, ¬ W k → ob s1' k = ob s' k)
  f0 : clsO X.tk o.op = 0 → ∀ k, ¬ R k
  f1 : clsO X.tk o.op = 1 → ∀ k, ¬ W k
  f13 : clsO X.tk o.op = 1 ∨ clsO X.tk o.op = 3 → ∀ k, R k → (∃ v, ob s k = .box v) ∧ (∃ v, ob s1 k = .box v) ∧ ∃ x p, (adrO o.op = some x ∧ x ∈ o.op.operands) ∧ evO X s 0 x = .ref k p
  f2 : clsO X.tk o.op = 2 → ∀ k, R k → o.dst = some k ∧ ob s k = .none ∧ ∃ v, ob s1 k = .box v
  f4 : clsO X.tk o.op = 4 → ∀ k, R k → nb (ob s k) ∧ ∃ v al, ob s1 k = .lin v al
  f5 : clsO X.tk o.op = 5 → ∀ k, R k → (∃ x y l, ob s k = .map x y l) ∧ ∃ x y l, ob s1 k = .map x y l

theorem ob_set {tm : List AV} {l : List Ob} {d k : Nat} {x : Ob} (hd : d < l.length) : ob ⟨tm, l.set d x⟩ k = if d = k then x else ob ⟨tm, l⟩ k := by
  unfold ob
  simp only [List.getD]
  rw [List.getElem?_set]
  by_cases e : d = k
  · subst e
    simp [hd]
  · simp [e]

theorem ob_lt {s : St} {k : Nat} (h : ob s k ≠ .none) : k < s.objs.length := by
  rcases Nat.lt_or_ge k s.objs.length with h' | h'
  · exact h'
  · exact absurd (by unfold ob; simp [List.getD, List.getElem?_eq_none h']) h

/-- An operation that the guard leaves out, or that touches no object. -/
theorem foot_none {ops : List Oper} {v : AV} (h1 : s1 = ⟨(s.put o.dst v).tmps, s.objs⟩) (h : ∀ s', Agree ops o s s' → st1 X ops s' o = some ⟨(s'.put o.dst v).tmps, s'.objs⟩) : Foot X ops o s s1 v (fun _ => False) (fun _ => False) := by
  subst h1
  exact ⟨rfl, fun _ h => h, rfl, fun _ _ => rfl, fun s' ha hl _ => ⟨_, h s' ha, rfl, hl, fun _ h => h.elim, fun _ _ => rfl⟩, fun _ _ h => h, fun _ _ h => h, fun _ _ h => h.elim, fun _ _ h => h.elim, fun _ _ h => h.elim, fun _ _ h => h.elim⟩

theorem put_obs (s : St) (d : Option Nat) (v : AV) : (s.put d v).objs = s.objs := by cases d <;> rfl
theorem put_eta (s : St) (d : Option Nat) (v : AV) : s.put d v = ⟨(s.put d v).tmps, s.objs⟩ := by cases d <;> rfl

theorem foot {ops : List Oper} (h : st1 X ops s o = some s1) : ∃ v R W, Foot X ops o s s1 v R W := by
  have h0 := h
  unfold st1 at h
  split at h
  · rename_i hw
    split at h
    · rename_i v obs hv
      cases h
      have hst : ∀ s' obs', Agree ops o s s' → valA X s' o = some (v, obs') → st1 X ops s' o = some ⟨(s'.put o.dst v).tmps, obs'⟩ := fun s' obs' ha hv' => by
        unfold st1
        rw [wantA_agree ha, hw, hv']
      by_cases hc : clsO X.tk o.op = 0
      · obtain ⟨rfl, _⟩ := val_pure (ops := ops) (fun k _ => rfl : Agree ops o s s) hc hv
        exact ⟨v, _, _, foot_none rfl fun s' ha => hst s' _ ha (val_pure ha hc hv).2⟩
      · have hev : evVal X s o = some (true, v, obs) ∧ ∀ s' obs', evVal X s' o = some (true, v, obs') → valA X s' o = some (v, obs') := by
          unfold valA at hv ⊢
          cases ho : o.op with
          | pick c x y => exact absurd (by rw [ho]; rfl) hc
          | _ =>
            simp only [ho] at hv ⊢
            refine ⟨?_, fun s' obs' h => by rw [h]; rfl⟩
            cases he : evVal X s o with
            | none => rw [he] at hv; cases hv
            | some r =>
              obtain ⟨t, u, ob⟩ := r
              rw [he] at hv
              cases t
              · cases hv
              · cases hv; rfl
        obtain ⟨hev, hback⟩ := hev
        have hst' : ∀ s' obs', Agree ops o s s' → evVal X s' o = some (true, v, obs') → st1 X ops s' o = some ⟨(s'.put o.dst v).tmps, obs'⟩ := fun s' obs' ha hv' => hst s' obs' ha (hback _ _ hv')
        clear hback hst hv
        cases ho : o.op with
        | load t x =>
          have e : ∀ s', Agree ops o s s' → evO X s' 0 x = evO X s 0 x := fun s' ha => evO_agree ha 0 (by rw [ho]; simp [Op.operands])
          unfold evVal at hev
          simp only [ho] at hev
          cases hx : evO X s 0 x with
          | ref k p =>
            simp only [hx, ldAV] at hev
            cases hk : s.objs.getD k .none with
            | box u =>
              simp only [hk] at hev
              have hobs : obs = s.objs := (pq_same (objs' := []) hev).1
              subst hobs
              refine ⟨v, fun j => j = k, fun _ => False, rfl, fun _ h => h.elim, rfl, fun _ _ => rfl, fun s' ha hl hr => ⟨_, hst' s' s'.objs ha ?_, rfl, hl, fun _ h => h.elim, fun _ _ => rfl⟩, ?_, fun _ _ h => h, ?_, ?_, ?_, ?_⟩
              · unfold evVal
                simp only [ho, e s' ha, hx, ldAV]
                have : s'.objs.getD k .none = .box u := (hr k rfl).trans hk
                simp only [this]
                exact (pq_same hev).2
              · rw [ho]; intro h; simp [clsO] at h
              · rintro - j rfl
                exact ⟨⟨u, hk⟩, ⟨u, hk⟩, x, p, by rw [ho]; exact ⟨rfl, by simp [Op.operands]⟩, hx⟩
              · rw [ho]; intro h; simp [clsO] at h
              · rw [ho]; intro h; simp [clsO] at h
              · rw [ho]; intro h; simp [clsO] at h
            | _ => simp only [hk] at hev; cases hev
          | cref u p =>
            simp only [hx, ldAV] at hev
            have hobs : obs = s.objs := (pq_same (objs' := []) hev).1
            subst hobs
            refine ⟨v, _, _, foot_none rfl fun s' ha => hst' s' s'.objs ha ?_⟩
            unfold evVal
            simp only [ho, e s' ha, hx, ldAV]
            exact (pq_same hev).2
          | _ => simp only [hx, ldAV] at hev; cases hev
        | alloc t =>
          unfold evVal at hev
          simp only [ho] at hev
          split at hev
          · rename_i d i hd hi
            split at hev
            · rename_i z hz hn
              split at hev
              · rename_i hlt
                cases hev
                refine ⟨_, fun j => j = d, fun j => j = d, rfl, fun _ h => h, by simp, ?_, fun s' ha hl hr => ⟨_, hst' s' (s'.objs.set d (.box z)) ha ?_, rfl, by simpa using hl, ?_, ?_⟩, ?_, ?_, ?_, ?_, ?_, ?_⟩
                · intro k hk
                  rw [ob_set hlt, if_neg (Ne.symm hk)]
                  rfl
                · unfold evVal
                  have : s'.objs.getD d .none = .none := (hr d rfl).trans hn
                  simp only [ho, hd, hi, hz, this, hl, if_pos hlt]
                · rintro k rfl
                  rw [ob_set hlt, if_pos rfl, ob_set (hl.symm ▸ hlt), if_pos rfl]
                · intro k hk
                  rw [ob_set (hl.symm ▸ hlt), if_neg (Ne.symm hk)]
                  rfl
                · rw [ho]; intro h; simp [clsO] at h
                · rw [ho]; intro h; simp [clsO] at h
                · rw [ho]; intro h; simp [clsO] at h
                · rintro - k rfl
                  exact ⟨hd, hn, z, by rw [ob_set hlt, if_pos rfl]⟩
                · rw [ho]; intro h; simp [clsO] at h
                · rw [ho]; intro h; simp [clsO] at h
              · cases hev
            · cases hev
          · cases hev
        | box t x =>
          have e : ∀ s', Agree ops o s s' → evO X s' t x = evO X s t x := fun s' ha => evO_agree ha t (by rw [ho]; simp [Op.operands])
          unfold evVal at hev
          simp only [ho] at hev
          split at hev
          · rename_i d hd
            split at hev
            · rename_i hn
              split at hev
              · rename_i hlt
                cases hev
                refine ⟨_, fun j => j = d, fun j => j = d, rfl, fun _ h => h, by simp, ?_, fun s' ha hl hr => ⟨_, hst' s' (s'.objs.set d (.box (evO X s t x))) ha ?_, rfl, by simpa using hl, ?_, ?_⟩, ?_, ?_, ?_, ?_, ?_, ?_⟩
                · intro k hk
                  rw [ob_set hlt.2.2, if_neg (Ne.symm hk)]
                  rfl
                · unfold evVal
                  have : s'.objs.getD d .none = .none := (hr d rfl).trans hn
                  simp only [ho, hd, this, hl, e s' ha, if_pos hlt]
                · rintro k rfl
                  rw [ob_set hlt.2.2, if_pos rfl, ob_set (hl.symm ▸ hlt.2.2), if_pos rfl]
                · intro k hk
                  rw [ob_set (hl.symm ▸ hlt.2.2), if_neg (Ne.symm hk)]
                  rfl
                · rw [ho]; intro h; simp [clsO] at h
                · rw [ho]; intro h; simp [clsO] at h
                · rw [ho]; intro h; simp [clsO] at h
                · rintro - k rfl
                  exact ⟨hd, hn, _, by rw [ob_set hlt.2.2, if_pos rfl]⟩
                · rw [ho]; intro h; simp [clsO] at h
                · rw [ho]; intro h; simp [clsO] at h
              · cases hev
            · cases hev
          · cases hev
        | store t x y =>
          have e : ∀ s', Agree ops o s s' → evO X s' 0 x = evO X s 0 x := fun s' ha => evO_agree ha 0 (by rw [ho]; simp [Op.operands])
          have e' : ∀ s', Agree ops o s s' → evO X s' t y = evO X s t y := fun s' ha => evO_agree ha t (by rw [ho]; simp [Op.operands])
          unfold evVal at hev
          simp only [ho] at hev
          split at hev
          · rename_i k p hx
            split at hev
            · rename_i u hk
              split at hev
              · rename_i w hf hp
                cases hev
                have hlt : k < s.objs.length := ob_lt (by unfold ob; rw [hk]; simp)
                refine ⟨_, fun j => j = k, fun j => j = k, rfl, fun _ h => h, by simp, ?_, fun s' ha hl hr => ⟨_, hst' s' (s'.objs.set k (.box w)) ha ?_, rfl, by simpa using hl, ?_, ?_⟩, ?_, ?_, ?_, ?_, ?_, ?_⟩
                · intro j hj
                  rw [ob_set hlt, if_neg (Ne.symm hj)]
                  rfl
                · unfold evVal
                  have : s'.objs.getD k .none = .box u := (hr k rfl).trans hk
                  simp only [ho, e s' ha, e' s' ha, hx, this, hf, hp]
                · rintro j rfl
                  rw [ob_set hlt, if_pos rfl, ob_set (hl.symm ▸ hlt), if_pos rfl]
                · intro j hj
                  rw [ob_set (hl.symm ▸ hlt), if_neg (Ne.symm hj)]
                  rfl
                · rw [ho]; intro h; simp [clsO] at h
                · rw [ho]; intro h; simp [clsO] at h
                · rintro - j rfl
                  exact ⟨⟨u, hk⟩, ⟨w, by rw [ob_set hlt, if_pos rfl]⟩, x, p, by rw [ho]; exact ⟨rfl, by simp [Op.operands]⟩, hx⟩
                · rw [ho]; intro h; simp [clsO] at h
                · rw [ho]; intro h; simp [clsO] at h
                · rw [ho]; intro h; simp [clsO] at h
              · cases hev
            · cases hev
          · cases hev
        | makeSlice t n c =>
          have e : ∀ s', Agree ops o s s' → evO X s' 0 n = evO X s 0 n := fun s' ha => evO_agree ha 0 (by rw [ho]; simp [Op.operands])
          have e' : ∀ s', Agree ops o s s' → evO X s' 0 c = evO X s 0 c := fun s' ha => evO_agree ha 0 (by rw [ho]; simp [Op.operands])
          unfold evVal at hev
          simp only [ho] at hev
          split at hev
          · rename_i d hd
            split at hev
            · rename_i hlt
              have key : nb (ob s d) ∧ (∃ v al, ob ⟨s.tmps, obs⟩ d = .lin v al) ∧ obs.length = s.objs.length ∧ (∀ k, k ≠ d → ob ⟨s.tmps, obs⟩ k = ob s k) ∧
                  ∀ s' : St, s'.objs.length = s.objs.length → ob s' d = ob s d → ∃ obs', mkSl X.T s' t d (evO X s 0 n) (evO X s 0 c) = some (true, v, obs') ∧ obs'.length = s.objs.length ∧ ob ⟨s.tmps, obs'⟩ d = ob ⟨s.tmps, obs⟩ d ∧ ∀ k, k ≠ d → ob ⟨s.tmps, obs'⟩ k = ob s' k := by
                unfold mkSl at hev ⊢
                split at hev
                · rename_i n c el eid by_ hn hc he
                  generalize hO : s.objs.getD d .none = O at hev
                  have hh : (∀ v, O ≠ .box v) ∧ (∀ a b m, O ≠ .map a b m) ∧ v = .sl el ⟨false, false, some (d, linOf O)⟩ (List.replicate n.toNat el.dflt) ∧ obs = s.objs.set d (.lin (linOf O) true) ∧
                      (decide (0 ≤ n) && (decide (n ≤ c) && decide (c * (by_ : Int) ≤ roomFor))) = true := by
                    cases O with
                    | box v => cases hev
                    | map a b m => cases hev
                    | _ =>
                      simp only [Option.some.injEq, Prod.mk.injEq] at hev
                      exact ⟨(fun _ h => nomatch h), (fun _ _ _ h => nomatch h), hev.2.1.symm, hev.2.2.symm, hev.1⟩
                  obtain ⟨hb, hm, hv, hobs, ht⟩ := hh
                  refine ⟨⟨fun u hu => ?_, fun _ _ _ hu => hm _ _ _ (hO.symm.trans hu)⟩, ⟨linOf O, true, ?_⟩, ?_, fun k hk => ?_, fun s' hl hr => ⟨s'.objs.set d (.lin (linOf O) true), ?_, ?_, ?_, fun k hk => ?_⟩⟩
                  · exact hb u (hO.symm.trans hu)
                  · rw [hobs, ob_set hlt, if_pos rfl]
                  · rw [hobs]; simp
                  · rw [hobs, ob_set hlt, if_neg (Ne.symm hk)]; try rfl
                  · have : s'.objs.getD d .none = O := hr.trans hO
                    rw [this]
                    cases O with
                    | box v => exact absurd rfl (hb v)
                    | map a b m => exact absurd rfl (hm a b m)
                    | _ => simp only [ht, hv]
                  · simpa using hl
                  · rw [hobs, ob_set hlt, if_pos rfl, ob_set (hl.symm ▸ hlt), if_pos rfl]
                  · rw [ob_set (hl.symm ▸ hlt), if_neg (Ne.symm hk)]; try rfl
                · cases hev
              obtain ⟨h1, h2, h3, h4, h5⟩ := key
              refine ⟨v, fun j => j = d, fun j => j = d, rfl, fun _ h => h, h3, h4, fun s' ha hl hr => ?_, ?_, ?_, ?_, ?_, ?_, ?_⟩
              · obtain ⟨obs', g1, g2, g3, g4⟩ := h5 s' hl (hr d rfl)
                refine ⟨_, hst' s' obs' ha ?_, rfl, g2, ?_, g4⟩
                · unfold evVal
                  simp only [ho, hd, hl, if_pos hlt, e s' ha, e' s' ha]
                  exact g1
                · rintro k rfl
                  exact g3
              · rw [ho]; intro h; simp [clsO] at h
              · rw [ho]; intro h; simp [clsO] at h
              · rw [ho]; intro h; simp [clsO] at h
              · rw [ho]; intro h; simp [clsO] at h
              · rintro - k rfl
                exact ⟨h1, h2⟩
              · rw [ho]; intro h; simp [clsO] at h
            · cases hev
          · cases hev
        | call c =>
          obtain ⟨callee, args, argTypes⟩ := c
          cases callee with
          | invoke r m => exact absurd (by rw [ho]; rfl) hc
          | value fv =>
            have e : ∀ s', Agree ops o s s' → ∀ x t, (x = fv ∨ x ∈ args.toList) → evO X s' t x = evO X s t x := fun s' ha x t hx => evO_agree ha t (by rw [ho]; simp only [Op.operands, Call.operands]; simpa using hx)
            have ea : ∀ s', Agree ops o s s' → argsO X s' argTypes.toList args.toList = argsO X s argTypes.toList args.toList := fun s' ha => argsO_agree ha _ _ (fun x hx => by rw [ho]; simp only [Op.operands, Call.operands]; simp; exact .inr (by simpa using hx))
            unfold evVal at hev
            simp only [ho] at hev
            cases hf : evO X s 0 fv with
            | fn f first cap =>
              simp only [hf] at hev
              cases hg : findA X.C f with
              | none => simp only [hg] at hev; cases hev
              | some g =>
                simp only [hg] at hev
                have hobs : obs = s.objs := (qq_same (objs' := []) hev).1
                subst hobs
                refine ⟨v, _, _, foot_none rfl fun s' ha => hst' s' s'.objs ha ?_⟩
                unfold evVal
                simp only [ho, e s' ha fv 0 (.inl rfl), hf, hg, ea s' ha]
                exact (qq_same hev).2
            | tok i t d =>
              simp only [hf] at hev
              split at hev
              · rename_i g x y tr hg hl
                split at hev
                · rename_i tt u m hgm
                  cases hev
                  have hlt : s.objs.length - 1 < s.objs.length := ob_lt (s := s) (by unfold ob; rw [hl]; simp)
                  refine ⟨_, fun j => j = s.objs.length - 1, fun j => j = s.objs.length - 1, rfl, fun _ h => h, by simp, ?_, fun s' ha hl' hr => ⟨_, hst' s' (s'.objs.set (s.objs.length - 1) (.map x y (tr ++ m))) ha ?_, rfl, by simpa using hl', ?_, ?_⟩, fun h => absurd h hc, ?_, ?_, ?_, ?_, ?_⟩
                  · intro k hk
                    rw [ob_set hlt, if_neg (Ne.symm hk)]
                    rfl
                  · unfold evVal
                    have : s'.objs.getD (s.objs.length - 1) .none = .map x y tr := (hr _ rfl).trans hl
                    simp only [ho, e s' ha fv 0 (.inl rfl), hf, hg, ea s' ha, hl', this, hgm]
                  · rintro k rfl
                    rw [ob_set hlt, if_pos rfl, ob_set (hl'.symm ▸ hlt), if_pos rfl]
                  · intro k hk
                    rw [ob_set (hl'.symm ▸ hlt), if_neg (Ne.symm hk)]
                    rfl
                  · intro h
                    exfalso
                    rw [ho] at h
                    simp only [clsO] at h
                    repeat' split at h
                    all_goals simp at h
                  · intro h
                    exfalso
                    rw [ho] at h
                    simp only [clsO] at h
                    repeat' split at h
                    all_goals simp at h
                  · intro h
                    exfalso
                    rw [ho] at h
                    simp only [clsO] at h
                    repeat' split at h
                    all_goals simp at h
                  · intro h
                    exfalso
                    rw [ho] at h
                    simp only [clsO] at h
                    repeat' split at h
                    all_goals simp at h
                  · rintro - k rfl
                    exact ⟨⟨x, y, tr, hl⟩, x, y, tr ++ m, by rw [ob_set hlt, if_pos rfl]⟩
                · cases hev
              · cases hev
            | _ => simp only [hf] at hev; cases hev
          | builtin bt =>
            cases bt with
            | append =>
              have e : ∀ s', Agree ops o s s' → ∀ x t, x ∈ args.toList → evO X s' t x = evO X s t x := fun s' ha x t hx => evO_agree ha t (by rw [ho]; simp only [Op.operands, Call.operands]; simpa using hx)
              unfold evVal at hev
              simp only [ho] at hev
              split at hev
              · rename_i d x y t t' hd hargs hty
                split at hev
                · rename_i hlt
                  obtain ⟨htt, hlt⟩ := hlt
                  have key : ∃ D : Nat → Prop, (∀ k, D k → nb (ob s k) ∧ ∃ v al, ob ⟨s.tmps, obs⟩ k = .lin v al) ∧ obs.length = s.objs.length ∧ (∀ k, ¬ D k → ob ⟨s.tmps, obs⟩ k = ob s k) ∧
                      ∀ s' : St, s'.objs.length = s.objs.length → (∀ k, D k → ob s' k = ob s k) → ∃ obs', appAV X.T s' t d (evO X s t x) (evO X s t y) = some (true, v, obs') ∧ obs'.length = s.objs.length ∧
                        (∀ k, D k → ob ⟨s.tmps, obs'⟩ k = ob ⟨s.tmps, obs⟩ k) ∧ ∀ k, ¬ D k → ob ⟨s.tmps, obs'⟩ k = ob s' k := by
                    unfold appAV at hev ⊢
                    generalize evO X s t x = vx at hev ⊢
                    generalize evO X s t y = vy at hev ⊢
                    split at hev
                    · rename_i te f l te' f' m
                      split at hev
                      · rename_i hte
                        split at hev
                        · rename_i e1 e2 by_ hel
                          split at hev
                          · rename_i he1
                            generalize hO : s.objs.getD d .none = O at hev
                            have hne : (∀ v, O ≠ .box v) ∧ (∀ a b m, O ≠ .map a b m) := by
                              cases O with
                              | box v => cases hev
                              | map a b m => cases hev
                              | _ => exact ⟨(fun _ h => nomatch h), (fun _ _ _ h => nomatch h)⟩
                            obtain ⟨hb, hm⟩ := hne
                            have hbd : nb (ob s d) := ⟨fun u hu => hb u (hO.symm.trans hu), fun _ _ _ hu => hm _ _ _ (hO.symm.trans hu)⟩
                            have hred : ∀ {α : Type} (O : Ob) (z : α) (n : α), (∀ v, O ≠ .box v) → (∀ a b m, O ≠ .map a b m) → (match O with | .box _ => n | .map .. => n | ob => z) = z := fun O z n h1 h2 => by
                              cases O with
                              | box v => exact absurd rfl (h1 v)
                              | map a b m => exact absurd rfl (h2 a b m)
                              | _ => rfl
                            cases hf : f.ow with
                            | none =>
                              have hev' : (f.tg && roomy l.length m.length by_) = true ∧ v = AV.sl te ⟨f.z, false, some (d, linOf O)⟩ (l ++ hte ▸ m) ∧ obs = s.objs.set d (.lin (linOf O) true) := by
                                cases O with
                                | box v => exact absurd rfl (hb v)
                                | map a b m => exact absurd rfl (hm a b m)
                                | _ =>
                                  simp only [hf, Option.some.injEq, Prod.mk.injEq] at hev
                                  exact ⟨hev.1, hev.2.1.symm, hev.2.2.symm⟩
                              obtain ⟨ht, hv, hobs⟩ := hev'
                              refine ⟨fun j => j = d, ?_, ?_, fun k hk => ?_, fun s' hl hr => ⟨s'.objs.set d (.lin (linOf O) true), ?_, ?_, ?_, fun k hk => ?_⟩⟩
                              · rintro k rfl
                                exact ⟨hbd, linOf O, true, by rw [hobs, ob_set hlt, if_pos rfl]⟩
                              · rw [hobs]; simp
                              · rw [hobs, ob_set hlt, if_neg (Ne.symm hk)]; try rfl
                              · have : s'.objs.getD d .none = O := (hr d rfl).trans hO
                                rw [this]
                                cases O with
                                | box v => exact absurd rfl (hb v)
                                | map a b m => exact absurd rfl (hm a b m)
                                | _ => simp only [ht, hv, hf, dif_pos hte, hel, if_pos he1]
                              · simpa using hl
                              · rintro k rfl
                                rw [hobs, ob_set hlt, if_pos rfl, ob_set (hl.symm ▸ hlt), if_pos rfl]
                              · rw [ob_set (hl.symm ▸ hlt), if_neg (Ne.symm hk)]; try rfl
                            | some ku =>
                              obtain ⟨k0, u0⟩ := ku
                              have hev' : ∃ cu, s.objs.getD k0 .none = .lin cu true ∧ u0 = cu ∧ roomy l.length m.length by_ = true ∧ v = AV.sl te ⟨f.z, false, some (d, linOf O)⟩ (l ++ hte ▸ m) ∧ obs = (s.objs.set k0 (.lin cu false)).set d (.lin (linOf O) true) := by
                                cases hk0 : s.objs.getD k0 .none with
                                | lin cu al =>
                                  cases al with
                                  | true =>
                                    refine ⟨cu, rfl, ?_⟩
                                    cases O with
                                    | box v => exact absurd rfl (hb v)
                                    | map a b m => exact absurd rfl (hm a b m)
                                    | _ =>
                                      simp only [hf, hk0] at hev
                                      split at hev
                                      · rename_i hu
                                        simp only [Option.some.injEq, Prod.mk.injEq] at hev
                                        exact ⟨hu, hev.1, hev.2.1.symm, hev.2.2.symm⟩
                                      · cases hev
                                  | false =>
                                    cases O with
                                    | box v => exact absurd rfl (hb v)
                                    | map a b m => exact absurd rfl (hm a b m)
                                    | _ => simp only [hf, hk0] at hev; cases hev
                                | _ =>
                                  cases O with
                                  | box v => exact absurd rfl (hb v)
                                  | map a b m => exact absurd rfl (hm a b m)
                                  | _ => simp only [hf, hk0] at hev; cases hev
                              obtain ⟨cu, hk0, hu, ht, hv, hobs⟩ := hev'
                              have hlt0 : k0 < s.objs.length := ob_lt (by unfold ob; rw [hk0]; simp)
                              have hob : ∀ (L : List Ob), L.length = s.objs.length → ∀ k, ob ⟨s.tmps, (L.set k0 (.lin cu false)).set d (.lin (linOf O) true)⟩ k = if d = k then .lin (linOf O) true else if k0 = k then .lin cu false else ob ⟨s.tmps, L⟩ k := fun L hL k => by
                                rw [ob_set (by rw [List.length_set, hL]; exact hlt), ob_set (by rw [hL]; exact hlt0)]
                              refine ⟨fun j => j = d ∨ j = k0, ?_, ?_, fun k hk => ?_, fun s' hl hr => ⟨(s'.objs.set k0 (.lin cu false)).set d (.lin (linOf O) true), ?_, ?_, ?_, fun k hk => ?_⟩⟩
                              · intro k hk
                                refine ⟨?_, ?_⟩
                                · rcases hk with rfl | rfl
                                  · exact hbd
                                  · refine ⟨fun u hu => ?_, fun _ _ _ hu => ?_⟩ <;>
                                    · unfold ob at hu
                                      rw [hk0] at hu
                                      cases hu
                                · rw [hobs, hob _ rfl]
                                  by_cases h1 : d = k
                                  · exact ⟨_, _, if_pos h1⟩
                                  · rw [if_neg h1, if_pos (hk.resolve_left (Ne.symm h1)).symm]
                                    exact ⟨_, _, rfl⟩
                              · rw [hobs]; simp
                              · rw [hobs, hob _ rfl, if_neg (fun h => hk (.inl h.symm)), if_neg (fun h => hk (.inr h.symm))]; try rfl
                              · have h1 : s'.objs.getD d .none = O := (hr d (.inl rfl)).trans hO
                                have h2 : s'.objs.getD k0 .none = .lin cu true := (hr k0 (.inr rfl)).trans hk0
                                cases O with
                                | box v => exact absurd rfl (hb v)
                                | map a b m => exact absurd rfl (hm a b m)
                                | _ => simp only [h1, h2, dif_pos hte, hel, if_pos he1, hf, if_pos hu, hv, ht]
                              · simpa using hl
                              · intro k hk
                                rw [hobs, hob _ hl, hob _ rfl]
                                by_cases h1 : d = k
                                · rw [if_pos h1, if_pos h1]
                                · rw [if_neg h1, if_neg h1, if_pos (hk.resolve_left (Ne.symm h1)).symm, if_pos (hk.resolve_left (Ne.symm h1)).symm]
                              · rw [hob _ hl, if_neg (fun h => hk (.inl h.symm)), if_neg (fun h => hk (.inr h.symm))]; try rfl
                          · cases hev
                        · cases hev
                      · cases hev
                    · cases hev
                  obtain ⟨D, h2, h3, h4, h5⟩ := key
                  refine ⟨v, D, D, rfl, fun _ h => h, h3, h4, fun s' ha hl hr => ?_, ?_, ?_, ?_, ?_, ?_, ?_⟩
                  · obtain ⟨obs', g1, g2, g3, g4⟩ := h5 s' hl hr
                    refine ⟨_, hst' s' obs' ha ?_, rfl, g2, g3, g4⟩
                    unfold evVal
                    simp only [ho, hd, hargs, hty, hl, e s' ha x t (by rw [hargs]; simp), e s' ha y t (by rw [hargs]; simp)]
                    rw [if_pos ⟨htt, hlt⟩]
                    exact g1
                  · rw [ho]; intro h; simp [clsO] at h
                  · rw [ho]; intro h; simp [clsO] at h
                  · rw [ho]; intro h; simp [clsO] at h
                  · rw [ho]; intro h; simp [clsO] at h
                  · exact fun _ => h2
                  · rw [ho]; intro h; simp [clsO] at h
                · cases hev
              · cases hev
            | _ => exact absurd (by rw [ho]; rfl) hc
        | _ => exact absurd (by rw [ho]; rfl) hc
    · cases h
  · rename_i hw
    cases h
    refine ⟨.undef, _, _, foot_none (put_eta ..) fun s' ha => ?_⟩
    unfold st1
    rw [wantA_agree ha, hw]
    exact congrArg some (put_eta ..)
  · cases h

/-! Two operations change places. -/

theorem apartL_spec {ops : List Oper} {x y : Oper} (h : apartL ops x y = true) :
    (∀ d, x.dst = some d → d ∉ looksL ops y) ∧ (∀ d, x.dst = some d → y.dst ≠ some d) ∧ (∀ d, y.dst = some d → d ∉ looksL ops x) := by
  have hm : ∀ (l : List Nat) k, elemN l k = false → k ∉ l := fun l => by
    induction l with
    | nil => intro k _ h; cases h
    | cons x r ih =>
      intro k hk hmem
      unfold elemN at hk
      split at hk
      · cases hk
      · rename_i hx
        rcases List.mem_cons.1 hmem with h | h
        · exact hx h.symm
        · exact ih k hk h
  unfold apartL at h
  rw [Bool.and_eq_true] at h
  obtain ⟨h1, h2⟩ := h
  refine ⟨fun d hd => ?_, fun d hd he => ?_, fun d hd => ?_⟩
  · rw [hd] at h1
    simp only [Bool.and_eq_true, Bool.not_eq_true'] at h1
    exact hm _ _ h1.1
  · rw [hd, he] at h1
    simp at h1
  · rw [hd] at h2
    simp only [Bool.not_eq_true'] at h2
    exact hm _ _ h2

theorem get_put_ne {d : Option Nat} {v : AV} {k : Nat} (h : ∀ e, d = some e → e ≠ k) (obs : List Ob) : St.get ⟨(s.put d v).tmps, obs⟩ k = s.get k := by
  cases d with
  | none => rfl
  | some e =>
    unfold St.get
    simp only [St.put, List.getD]
    rw [List.getElem?_set_ne (h e rfl)]

theorem agree_put {ops : List Oper} {d : Option Nat} {v : AV} (h : ∀ e, d = some e → e ∉ looksL ops o) (hs : s'.tmps = (s.put d v).tmps) : Agree ops o s s' := fun k hk => by
  obtain ⟨tm, obs⟩ := s'
  dsimp only at hs
  subst hs
  exact get_put_ne (fun e he hek => h e he (hek ▸ hk)) obs

theorem Agree.symm {ops : List Oper} (h : Agree ops o s s') : Agree ops o s' s := fun k hk => (h k hk).symm

theorem put_tmps_comm {d e : Option Nat} {v u : AV} (h : ∀ k, d = some k → e ≠ some k) {sa sb sc sd : St} (ha : sa.tmps = (s.put d v).tmps) (hb : sb.tmps = (sa.put e u).tmps) (hc : sc.tmps = (s.put e u).tmps) (hd : sd.tmps = (sc.put d v).tmps) : sd.tmps = sb.tmps := by
  rw [hd, hb]
  cases d with
  | none =>
    cases e with
    | none => simp only [St.put] at *; rw [hc, ha]
    | some e => simp only [St.put] at *; rw [hc, ha]
  | some d =>
    cases e with
    | none => simp only [St.put] at *; rw [hc, ha]
    | some e =>
      simp only [St.put] at *
      rw [hc, ha]
      exact List.set_comm _ _ (fun hde => h d rfl (by rw [hde]))

theorem st_ext {s s' : St} (h1 : s.tmps = s'.tmps) (h2 : s.objs.length = s'.objs.length) (h3 : ∀ k, ob s k = ob s' k) : s = s' := by
  obtain ⟨a, b⟩ := s
  obtain ⟨c, d⟩ := s'
  dsimp only at h1 h2
  subst h1
  congr
  refine List.ext_getElem h2 fun k hk hk' => ?_
  have := h3 k
  unfold ob at this
  simpa [List.getD, List.getElem?_eq_getElem hk, List.getElem?_eq_getElem hk'] using this

theorem evO_ref {x : Operand} {t k : Nat} {p : List Stp} (hX : CtxOK E X) (hl : Live E V0 io0 W0 s) (h : evO X s t x = .ref k p) : ∃ v, ob s k = .box v := by
  cases x with
  | tmp j =>
    simp only [evO] at h
    exact live_ref hl h
  | global g =>
    simp only [evO] at h
    split at h <;> cases h
  | func f => simp only [evO] at h; cases h
  | const v =>
    simp only [evO] at h
    unfold constAV at h
    repeat' split at h
    all_goals cases h

/-- Slots that the region does not write stand. -/
def SameB (ops : List Oper) (s0 s : St) : Prop := ∀ t, elemN (ops.filterMap (·.dst)) t = false → s.get t = s0.get t

theorem elemN_iff : ∀ {l : List Nat} {k : Nat}, elemN l k = true ↔ k ∈ l
  | [], k => by simp [elemN]
  | x :: l, k => by
    unfold elemN
    by_cases h : x = k
    · simp [h]
    · rw [if_neg h, elemN_iff]
      simp [Ne.symm h, h]

theorem boxOf_ref {ops : List Oper} {s0 : St} (hs : SameB ops s0 s) {x : Operand} {k : Nat} {p : List Stp} (he : evO X s 0 x = .ref k p) {q : Option Nat} (hb : boxOf s0 ops x = some q) : q = some k := by
  cases x with
  | tmp t =>
    simp only [boxOf] at hb
    split at hb
    · cases hb
    · rename_i hn
      simp only [evO] at he
      rw [← hs t (by simpa using hn), he] at hb
      cases hb
      rfl
  | global g =>
    simp only [evO] at he
    split at he <;> cases he
  | func f => simp only [evO] at he; cases he
  | const v => simp [boxOf] at hb

theorem farL_ne {ops : List Oper} {s0 : St} {a b : Op} (h : farL s0 ops a b = true) : ∃ x y q q', adrO a = some x ∧ adrO b = some y ∧ boxOf s0 ops x = some q ∧ boxOf s0 ops y = some q' ∧ (∀ k, q = some k → q' ≠ some k) := by
  unfold farL at h
  split at h
  · rename_i x y hx hy
    split at h
    · rename_i k j h1 h2
      refine ⟨x, y, _, _, hx, hy, h1, h2, fun m hm hm' => ?_⟩
      cases hm
      cases hm'
      simp at h
    · rename_i q h1 h2
      exact ⟨x, y, _, _, hx, hy, h1, h2, fun k hk => by cases hk⟩
    · rename_i q h1 h2
      exact ⟨x, y, _, _, hx, hy, h1, h2, fun k _ hk => by cases hk⟩
    · cases h
  · cases h

/-- **Two operations that are apart, in the other order.** -/
theorem swap (hX : CtxOK E X) {ops : List Oper} {s0 : St} (hS0 : SameB ops s0 s) {oi oj : Oper} (hl : Live E V0 io0 W0 s) (hap : apartL ops oi oj = true) (hcm : (compatN (clsO X.tk oi.op) (clsO X.tk oj.op) || farL s0 ops oi.op oj.op) = true) (hi : st1 X ops s oi = some s1) (hj : st1 X ops s1 oj = some s2) :
    ∃ s1', st1 X ops s oj = some s1' ∧ st1 X ops s1' oi = some s2 := by
  obtain ⟨h1, h2, h3⟩ := apartL_spec hap
  obtain ⟨v, R, Wr, F⟩ := foot hi
  obtain ⟨u, R', Wr', F'⟩ := foot hj
  have hA1 : Agree ops oj s s1 := agree_put h1 F.eq
  have hdis : (∀ k, Wr k → ¬ R' k) ∧ (∀ k, Wr' k → ¬ R k) := by
    have hpos : (∀ k, R k → ¬ R' k) → (∀ k, Wr k → ¬ R' k) ∧ (∀ k, Wr' k → ¬ R k) := fun h => ⟨fun k hk => h k (F.sub k hk), fun k hk hr => h k hr (F'.sub k hk)⟩
    have c0 : clsO X.tk oi.op = 0 → (∀ k, Wr k → ¬ R' k) ∧ (∀ k, Wr' k → ¬ R k) := fun h => hpos fun k hk => (F.f0 h k hk).elim
    have c0' : clsO X.tk oj.op = 0 → (∀ k, Wr k → ¬ R' k) ∧ (∀ k, Wr' k → ¬ R k) := fun h => hpos fun k _ hk => (F'.f0 h k hk).elim
    have old : clsO X.tk oj.op = 1 ∨ clsO X.tk oj.op = 3 → ∀ k, R' k → ∃ v, ob s k = .box v := fun h k hk => by
      obtain ⟨_, _, x, p, hx, he⟩ := F'.f13 h k hk
      rw [evO_agree hA1 0 hx.2] at he
      exact evO_ref hX hl he
    rw [Bool.or_eq_true] at hcm
    rcases hcm with hcm | hcm
    rotate_left
    · obtain ⟨x, y, q, q', hx, hy, hq, hq', hne⟩ := farL_ne hcm
      have cls : ∀ {o : Oper} {x : Operand}, adrO o.op = some x → clsO X.tk o.op = 1 ∨ clsO X.tk o.op = 3 := fun {o} {x} h => by
        unfold adrO at h
        split at h
        · rename_i ho; rw [ho]; exact .inl rfl
        · rename_i ho; rw [ho]; exact .inr rfl
        · cases h
      refine hpos fun k hk hk' => ?_
      obtain ⟨_, _, x1, p1, ⟨hx1, _⟩, he1⟩ := F.f13 (cls hx) k hk
      obtain ⟨_, _, y1, p2, ⟨hy1, hym⟩, he2⟩ := F'.f13 (cls hy) k hk'
      rw [hx] at hx1
      cases hx1
      rw [hy] at hy1
      cases hy1
      rw [evO_agree hA1 0 hym] at he2
      exact hne k (boxOf_ref hS0 he1 hq) (boxOf_ref hS0 he2 hq')
    generalize hci : clsO X.tk oi.op = ci at *
    generalize hcj : clsO X.tk oj.op = cj at *
    have hcase : (ci = 0 ∨ cj = 0) ∨ (ci = 1 ∧ cj = 1) ∨ ((ci = 1 ∨ ci = 3) ∧ cj = 2) ∨ (ci = 2 ∧ (cj = 1 ∨ cj = 3)) ∨ (ci = 2 ∧ cj = 2) ∨ ((ci = 1 ∨ ci = 3) ∧ cj = 4) ∨ (ci = 4 ∧ (cj = 1 ∨ cj = 3)) ∨ (ci = 2 ∧ cj = 4) ∨ (ci = 4 ∧ cj = 2) ∨ (ci = 5 ∧ (cj = 1 ∨ cj = 2 ∨ cj = 3 ∨ cj = 4)) ∨ ((ci = 1 ∨ ci = 2 ∨ ci = 3 ∨ ci = 4) ∧ cj = 5) := by
      unfold compatN at hcm
      split at hcm <;> first | (cases hcm; done) | (simp; done)
    rcases hcase with (h | h) | ⟨ha, hb⟩ | ⟨ha, hb⟩ | ⟨ha, hb⟩ | ⟨ha, hb⟩ | ⟨ha, hb⟩ | ⟨ha, hb⟩ | ⟨ha, hb⟩ | ⟨ha, hb⟩ | ⟨ha, hb⟩ | ⟨ha, hb⟩
    · exact c0 h
    · exact c0' h
    · exact ⟨fun k hk => (F.f1 (hci ▸ ha) k hk).elim, fun k hk => (F'.f1 (hcj ▸ hb) k hk).elim⟩
    · refine hpos fun k hk hk' => ?_
      obtain ⟨_, ⟨v, hv⟩, _⟩ := F.f13 (by rw [hci]; exact ha) k hk
      obtain ⟨_, hn, _⟩ := F'.f2 (by rw [hcj]; exact hb) k hk'
      rw [hv] at hn
      cases hn
    · refine hpos fun k hk hk' => ?_
      obtain ⟨_, hn, _⟩ := F.f2 (by rw [hci]; exact ha) k hk
      obtain ⟨v, hv⟩ := old (by first | exact hb | (rw [hcj]; exact hb)) k hk'
      rw [hv] at hn
      cases hn
    · refine hpos fun k hk hk' => ?_
      obtain ⟨e1, _⟩ := F.f2 (by rw [hci]; exact ha) k hk
      obtain ⟨e2, _⟩ := F'.f2 (by rw [hcj]; exact hb) k hk'
      exact h2 k e1 e2
    · refine hpos fun k hk hk' => ?_
      obtain ⟨_, ⟨v, hv⟩, _⟩ := F.f13 (by rw [hci]; exact ha) k hk
      exact (F'.f4 (by rw [hcj]; exact hb) k hk').1.1 v hv
    · refine hpos fun k hk hk' => ?_
      obtain ⟨_, v, al, hv⟩ := F.f4 (by rw [hci]; exact ha) k hk
      obtain ⟨⟨u, hu⟩, _⟩ := F'.f13 (by rw [hcj]; exact hb) k hk'
      rw [hv] at hu
      cases hu
    · refine hpos fun k hk hk' => ?_
      obtain ⟨_, _, v, hv⟩ := F.f2 (by rw [hci]; exact ha) k hk
      exact (F'.f4 (by rw [hcj]; exact hb) k hk').1.1 v hv
    · refine hpos fun k hk hk' => ?_
      obtain ⟨_, v, al, hv⟩ := F.f4 (by rw [hci]; exact ha) k hk
      obtain ⟨_, hn, _⟩ := F'.f2 (by rw [hcj]; exact hb) k hk'
      rw [hv] at hn
      cases hn
    · refine hpos fun k hk hk' => ?_
      obtain ⟨_, x, y, l, hv⟩ := F.f5 (by rw [hci]; exact ha) k hk
      rcases hb with hb | hb | hb | hb
      · obtain ⟨⟨v, hn⟩, _⟩ := F'.f13 (.inl (by rw [hcj]; exact hb)) k hk'
        rw [hv] at hn
        cases hn
      · obtain ⟨_, hn, _⟩ := F'.f2 (by rw [hcj]; exact hb) k hk'
        rw [hv] at hn
        cases hn
      · obtain ⟨⟨v, hn⟩, _⟩ := F'.f13 (.inr (by rw [hcj]; exact hb)) k hk'
        rw [hv] at hn
        cases hn
      · exact (F'.f4 (by rw [hcj]; exact hb) k hk').1.2 _ _ _ hv
    · refine hpos fun k hk hk' => ?_
      obtain ⟨⟨x, y, l, hv⟩, _⟩ := F'.f5 (by rw [hcj]; exact hb) k hk'
      rcases ha with ha | ha | ha | ha
      · obtain ⟨_, ⟨v, hn⟩, _⟩ := F.f13 (.inl (by rw [hci]; exact ha)) k hk
        rw [hv] at hn
        cases hn
      · obtain ⟨_, _, v, hn⟩ := F.f2 (by rw [hci]; exact ha) k hk
        rw [hv] at hn
        cases hn
      · obtain ⟨_, ⟨v, hn⟩, _⟩ := F.f13 (.inr (by rw [hci]; exact ha)) k hk
        rw [hv] at hn
        cases hn
      · obtain ⟨_, v, al, hn⟩ := F.f4 (by rw [hci]; exact ha) k hk
        rw [hv] at hn
        cases hn
  obtain ⟨hd1, hd2⟩ := hdis
  obtain ⟨sa, ga, ta, la, wa, na⟩ := F'.again s hA1.symm F.len.symm fun k hk => (F.out k fun h => hd1 k h hk).symm
  obtain ⟨sb, gb, tb, lb, wb, nb⟩ := F.again sa (agree_put h3 ta) (la.trans F.len) fun k hk => na k fun h => hd2 k h hk
  refine ⟨sa, ga, ?_⟩
  rw [gb]
  refine congrArg some (st_ext (put_tmps_comm h2 F.eq F'.eq ta tb) ?_ fun k => ?_)
  · rw [lb, F'.len, F.len]
  · by_cases hk : Wr k
    · rw [wb k hk, F'.out k fun h => hd2 k h (F.sub k hk)]
    · rw [nb k hk]
      by_cases hk' : Wr' k
      · exact wa k hk'
      · rw [na k hk', F'.out k hk', F.out k hk]

/-! Any order. -/

def AnyA (X : Ctx) (md : Region.Mode) (ops : Array Oper) : Nat → Array Bool → St → St → Prop
  | 0, listed, s, s' => Region.ready md ops listed = [] ∧ s = s'
  | fuel + 1, listed, s, s' => (Region.ready md ops listed = [] → s = s') ∧
    ∀ i ∈ Region.ready md ops listed, ∃ o s1, ops[i]? = some o ∧ st1 X ops.toList s o = some s1 ∧ AnyA X md ops fuel (listed.setIfInBounds i true) s1 s'

theorem SameB.step {ops : List Oper} {s0 : St} (hs : SameB ops s0 s) (ho : o ∈ ops) (h : st1 X ops s o = some s1) : SameB ops s0 s1 := fun t ht => by
  obtain ⟨v, R, Wr, F⟩ := foot h
  obtain ⟨tm, obs⟩ := s1
  have e := F.eq
  dsimp only at e
  subst e
  refine (get_put_ne (fun e he het => ?_) obs).trans (hs t ht)
  subst het
  have : elemN (ops.filterMap (·.dst)) e = true := elemN_iff.2 (List.mem_filterMap.2 ⟨o, ho, he⟩)
  rw [ht] at this
  cases this

theorem anyA_first (hX : CtxOK E X) {md : Region.Mode} {ops : Array Oper} {s0 : St} {i : Nat} {oi : Oper} (hi : ops[i]? = some oi) : ∀ (fuel : Nat) (listed : Array Bool) (s s1 s' : St),
    (∀ j oj, ops[j]? = some oj → j ≠ i → listed.getD j true = false → (∀ e ∈ oj.after, Region.binds md e = true → e.on ≠ i) → apartL ops.toList oi oj = true ∧ (compatN (clsO X.tk oi.op) (clsO X.tk oj.op) || farL s0 ops.toList oi.op oj.op) = true) → SameB ops.toList s0 s →
    i ∈ Region.ready md ops listed → Live E V0 io0 W0 s → st1 X ops.toList s oi = some s1 → AnyA X md ops fuel (listed.setIfInBounds i true) s1 s' → AnyA X md ops (fuel + 1) listed s s' := by
  intro fuel
  induction fuel with
  | zero =>
    intro listed s s1 s' _ hsb hr hl hs H
    refine ⟨fun h => (by rw [h] at hr; cases hr), fun j hj => ?_⟩
    by_cases hji : j = i
    · subst hji
      exact ⟨oi, s1, hi, hs, H⟩
    · have := ready_mono hj hji
      rw [H.1] at this
      cases this
  | succ fuel ih =>
    intro listed s s1 s' hfree hsb hr hl hs H
    refine ⟨fun h => (by rw [h] at hr; cases hr), fun j hj => ?_⟩
    by_cases hji : j = i
    · subst hji
      exact ⟨oi, s1, hi, hs, H⟩
    · obtain ⟨oj', s2, hoj', hs2, H2⟩ := H.2 j (ready_mono hj hji)
      obtain ⟨hjun, oj, hoj, hall⟩ := mem_ready.1 hj
      rw [hoj] at hoj'
      have hsame := Option.some.inj hoj'
      subst hsame
      have hnot : ∀ e ∈ oj.after, Region.binds md e = true → e.on ≠ i := fun e he hb heq => by
        have h1 := hall e he hb
        have h0 := (mem_ready.1 hr).1
        rw [heq] at h1
        rcases Nat.lt_or_ge i listed.size with h' | h'
        · simp [h'] at h0 h1; rw [h0] at h1; cases h1
        · simp [Array.getElem?_eq_none h'] at h1
      obtain ⟨hap, hcm⟩ := hfree j oj hoj hji hjun hnot
      obtain ⟨sa, hsa, hsb2⟩ := swap hX hsb hl hap hcm hs hs2
      refine ⟨oj, sa, hoj, hsa, ih _ sa s2 s' (fun k ok hk hki hun hno => ?_) (hsb.step (by have := Array.mem_of_getElem? hoj; simpa using this) hsa) (ready_mono hr (Ne.symm hji)) (live_step hX hsa hl) hsb2 ?_⟩
      · refine hfree k ok hk hki ?_ hno
        by_cases hjk : j = k
        · subst hjk; exact hjun
        · rw [getD_set_ne true hjk] at hun; exact hun
      · rw [Array.setIfInBounds_comm _ _ hji]
        exact H2

theorem freeL_spec {s0 : St} {tk : Bool} {ops : List Oper} {k : Nat} {ok : Oper} : ∀ {r : List Oper}, freeL s0 tk ops k ok r = true → ∀ oj ∈ r, (∀ e ∈ oj.after, Region.binds .any e = true → e.on ≠ k) → apartL ops ok oj = true ∧ (compatN (clsO tk ok.op) (clsO tk oj.op) || farL s0 ops ok.op oj.op) = true
  | [], _, oj, hm, _ => nomatch hm
  | o :: r, h, oj, hm, hno => by
    unfold freeL at h
    rw [Bool.and_eq_true] at h
    rcases List.mem_cons.1 hm with rfl | hm
    · have h1 := h.1
      rw [Bool.or_eq_true] at h1
      rcases h1 with h1 | h1
      · exfalso
        unfold edgeL at h1
        obtain ⟨e, he, hb⟩ := List.any_eq_true.1 h1
        rw [Bool.and_eq_true, decide_eq_true_iff] at hb
        exact hno e (by simpa using he) hb.1 hb.2
      · rw [Bool.and_eq_true] at h1
        exact h1
    · exact freeL_spec h.2 oj hm hno

theorem anyA_lex (hX : CtxOK E X) {ops : Array Oper} {s0 : St} : ∀ (l : List Oper) (k : Nat) (listed : Array Bool) (s s' : St), (∀ j, l[j]? = ops[k + j]?) → listed.size = ops.size → (∀ j, j < ops.size → listed[j]? = some (decide (j < k))) →
    lexC s0 X.tk ops.toList l k = true → SameB ops.toList s0 s → steps X ops.toList l s = some s' → Live E V0 io0 W0 s → AnyA X .any ops l.length listed s s'
  | [], k, listed, s, s', hl, hsz, hli, hB, hsb, h, hv => by
    simp only [steps, Option.some.injEq] at h
    refine ⟨?_, h⟩
    have hk : ops.size ≤ k := by
      have := hl 0
      simp only [List.getElem?_nil] at this
      exact Array.getElem?_eq_none_iff.1 this.symm
    refine List.eq_nil_iff_forall_not_mem.2 fun j hj => ?_
    obtain ⟨h1, o, ho, _⟩ := mem_ready.1 hj
    have hlt := (Array.getElem?_eq_some_iff.1 ho).1
    rw [Array.getD_eq_getD_getElem?, hli j hlt] at h1
    simp at h1
    omega
  | o :: l, k, listed, s, s', hl, hsz, hli, hB, hsb, h, hv => by
    have h0 : ops[k]? = some o := by simpa using (hl 0).symm
    have hlt := (Array.getElem?_eq_some_iff.1 h0).1
    simp only [lexC, Bool.and_eq_true] at hB
    obtain ⟨hall, hf, hB'⟩ := hB
    simp only [steps] at h
    split at h
    · rename_i s1 hs1
      refine anyA_first hX h0 l.length listed s s1 s' (fun j oj hj hjk hun hno => ?_) hsb (mem_ready.2 ⟨?_, o, h0, fun e he hb => ?_⟩) hv hs1 ?_
      · have hjlt := (Array.getElem?_eq_some_iff.1 hj).1
        rw [Array.getD_eq_getD_getElem?, hli j hjlt] at hun
        simp at hun
        have hm : oj ∈ l := by
          have := hl (j - k)
          rw [show k + (j - k) = j by omega, hj] at this
          have hne : j - k ≠ 0 := by omega
          obtain ⟨m, hm⟩ := Nat.exists_eq_succ_of_ne_zero hne
          rw [hm] at this
          exact List.mem_of_getElem? (by simpa using this)
        exact freeL_spec hf oj hm hno
      · rw [Array.getD_eq_getD_getElem?, hli k hlt]
        simp
      · have := List.all_eq_true.1 hall e (by simpa using he)
        rw [hb] at this
        simp at this
        rw [Array.getD_eq_getD_getElem?, hli e.on (by omega)]
        simpa using this
      · refine anyA_lex hX l (k + 1) _ s1 s' (fun j => by have := hl (j + 1); simpa [Nat.add_assoc, Nat.add_comm 1 j] using this) (by simpa using hsz) (fun j hj => ?_) hB' (hsb.step (by have := Array.mem_of_getElem? h0; simpa using this) hs1) h (live_step hX hs1 hv)
        rw [Array.getElem?_setIfInBounds]
        by_cases e : k = j
        · subst e
          rw [if_pos rfl, if_pos (by omega)]
          simp
        · rw [if_neg e, hli j hj]
          congr 1
          exact decide_eq_decide.2 (by omega)
    · cases h

theorem wpAny_of (hX : CtxOK E X) (ro : Option Nat) {D : Nat → Prop} {a0 : Act} {C0 : Cx} {Wa : World} {md : Region.Mode} {ops : Array Oper} {Q : Exit → Act → World → Prop} (hD : ∀ o ∈ ops.toList, ∀ k, o.dst = some k → D k) (hQ : ∀ C' a' W', Sim E V0 io0 W0 C' s' a' W' → Fm E.M D a0 a' C0 C' Wa W' → Q .normal a' W') : ∀ (fuel : Nat) (listed : Array Bool) (s : St) (C : Cx) (a : Act) (W : World),
    AnyA X md ops fuel listed s s' → Sim E V0 io0 W0 C s a W → Fm E.M D a0 a C0 C Wa W → wpAnyIn (Fr ro) 0 E.P md ops Q fuel listed a W
  | 0, listed, s, C, a, W, h, S, hF => ⟨h.1, hQ _ _ _ (h.2 ▸ S) hF⟩
  | fuel + 1, listed, s, C, a, W, h, S, hF => ⟨fun h0 => hQ _ _ _ (h.1 h0 ▸ S) hF, fun i hi => by
    obtain ⟨o, s1, ho, hs, H⟩ := h.2 i hi
    exact wpOp_of_step (st1_ok hX hs) S ho ro fun C' a' W' S' hf => wpAny_of hX ro hD hQ fuel _ s1 C' a' W' H S' (hF.trans (hf.mono (hD o (by have := Array.mem_of_getElem? ho; simpa using this))))⟩

theorem region_any (hX : CtxOK E X) (ro : Option Nat) {D : Nat → Prop} {a0 : Act} {C0 : Cx} {Wa : World} {ops : Array Oper} {id : Nat} {Q : Exit → Act → World → Prop} (hB : lexC s X.tk ops.toList ops.toList 0 = true) (h : steps X ops.toList ops.toList s = some s') (S : Sim E V0 io0 W0 C s a W)
    (hD : ∀ o ∈ ops.toList, ∀ k, o.dst = some k → D k) (hF : Fm E.M D a0 a C0 C Wa W) (hn : ∀ C' a' W', Sim E V0 io0 W0 C' s' a' W' → Fm E.M D a0 a' C0 C' Wa W' → Q .normal a' W') : (Code.region id ops true).wpIn (Fr ro) 0 E.P Q a W := by
  refine wpIn_region_any hX.M ?_
  have S' := (S.keep (Keep.drew C.io W) (IoOK.drew S.iok)).2
  have hF' : Fm E.M D a0 a C0 C Wa W.drew := hF.trans ⟨rfl, fun _ _ => rfl, fun _ _ _ h => h, fun _ v _ h => ⟨v, h, rfl⟩, ⟨(Keep.drew C.io W).of_noM, fun _ _ h => .inl h, fun k v b lo hi h1 h2 h3 => .inl ⟨k, v, lo, hi, h1, h2, h3⟩, fun _ _ _ h => .inl h⟩⟩
  have hA : AnyA X .any ops ops.toList.length (Array.replicate ops.size false) s s' := anyA_lex hX ops.toList 0 _ s s' (by simp) (by simp) (fun j hj => by simp [hj]) hB (fun _ _ => rfl) h ⟨C, a, W, S⟩
  have := wpAny_of hX ro hD hn _ _ _ _ _ _ hA S' hF'
  simpa using this

end Ev
end Go.Proofs.YtidnikjkpbmhhaaDoor
