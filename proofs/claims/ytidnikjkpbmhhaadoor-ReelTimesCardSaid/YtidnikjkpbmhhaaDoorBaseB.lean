/- What every proof of this seat leans on, part 2. -/
import Derived.Orders
import Derived.RangeFuncRecord
import Derived.Scope
import Derived.RangeFuncIn
import Derived.LoopNIn
import Derived.Laws.StructEq
import Derived.ChangeKeysEq
import Derived.Test.YtidnikjkpbmhhaaDoorProg
import Derived.KernelRfl
import Derived.Test.YtidnikjkpbmhhaaDoorBaseA
/- Regions that draw their order: the order of the text serves for any. -/
set_option linter.unusedVariables false
set_option linter.unusedSimpArgs false
namespace Go.Proofs.YtidnikjkpbmhhaaDoor
namespace Ev

variable {E : Env} {V0 : Nat → Nat → Prop} {io0 : Io} {W0 : World} {C : Cx} {s s' s1 s2 : St} {a : Act} {W : World} {X : Ctx} {o : Oper}

/-- Some machine's state reads so. -/
def Live (E : Env) (V0 : Nat → Nat → Prop) (io0 : Io) (W0 : World) (s : St) : Prop := ∃ C a W, Sim E V0 io0 W0 C s a W

theorem wp_ex {P : Program} {next : Act → World → Prop} (h : o.wpIn (Fr none) 0 P a W next (fun _ _ _ => False)) : ∃ a' W', next a' W' := by
  unfold Oper.wpIn at h
  replace h := h.2
  generalize (o.semAt (Fr none).round a.eval).run P W = r at h
  cases r with
  | ok n w' =>
    cases n <;> simp only [Oper.uponIn] at h
    case value v => exact ⟨_, _, h⟩
    case skip => exact ⟨_, _, h⟩
    case defer d => exact ⟨_, _, h⟩
    case enter f args =>
      obtain ⟨e, w'', fr, hR, _⟩ := h.2.2 [] (room_wide _)
      cases e with
      | returned v => exact ⟨_, _, hR⟩
      | panicked c => exact hR.elim
      | outgrown =>
        obtain ⟨_, _, h⟩ := hR
        exact h.elim
    case row row args =>
      obtain ⟨v, w'', hR, _⟩ := h.2 (Frame.ofRow P row args .normal) [] (room_wide _)
      exact ⟨_, _, hR⟩
    case round l f tmps asg body =>
      obtain ⟨e, w'', hR, _⟩ := h.2.2 default [] (room_wide _)
      cases e with
      | returned v => exact ⟨_, _, hR⟩
      | panicked c => exact hR.elim
      | outgrown =>
        obtain ⟨_, _, h⟩ := hR
        exact h.elim
    all_goals exact h.elim
  | halt x w' => cases x <;> simp only [Oper.uponIn] at h

theorem live_step (hX : CtxOK E X) {ops : Array Oper} (h : st1 X ops.toList s o = some s') (hl : Live E V0 io0 W0 s) : Live E V0 io0 W0 s' := by
  obtain ⟨C, a, W, S⟩ := hl
  have := st1_ok (V0 := V0) (io0 := io0) (W0 := W0) hX h C a W S none (fun a' W' => ∃ C', Sim E V0 io0 W0 C' s' a' W') (fun _ _ _ => False) (fun C' a' W' S' _ => ⟨C', S'⟩)
  split at this
  · obtain ⟨a', W', C', S'⟩ := wp_ex this
    exact ⟨C', a', W', S'⟩
  · obtain ⟨C', S'⟩ := this
    exact ⟨C', _, _, S'⟩

theorem live_ref (hl : Live E V0 io0 W0 s) {k t : Nat} {p : List Stp} (h : s.get t = .ref k p) : ∃ v, s.objs.getD k .none = .box v := by
  obtain ⟨C, a, W, S⟩ := hl
  have hv := S.get t
  rw [h] at hv
  rcases hv with hv | ⟨cs, _, hv, _⟩
  · cases hv
  · simp only [Rel] at hv
    obtain ⟨b, hb, _⟩ := hv
    obtain ⟨v, hv⟩ := S.bxn k b hb
    exact ⟨v, by simp [List.getD, hv]⟩

/-! What an operation looks at. -/

def Agree (ops : List Oper) (o : Oper) (s s' : St) : Prop := ∀ k ∈ looksL ops o, s'.get k = s.get k

theorem evO_agree {ops : List Oper} (h : Agree ops o s s') (t : Nat) {x : Operand} (hx : x ∈ o.op.operands) : evO X s' t x = evO X s t x := by
  cases x with
  | tmp k =>
    simp only [evO]
    refine h k (List.mem_append_left _ (List.mem_filterMap.2 ⟨.tmp k, by simpa using hx, rfl⟩))
  | _ => rfl

theorem wantA_agree {ops : List Oper} (h : Agree ops o s s') : wantA ops s' o = wantA ops s o := by
  unfold wantA
  cases hg : o.guard with
  | none => rfl
  | some jw =>
    obtain ⟨j, want⟩ := jw
    dsimp only
    cases hj : ops[j]? with
    | none => rfl
    | some oj =>
      dsimp only
      cases hk : oj.dst with
      | none => rfl
      | some k =>
        dsimp only
        rw [h k (by unfold looksL; simp [hg, hj, hk])]

theorem map_agree {ops : List Oper} (h : Agree ops o s s') (t : Nat) {l : List Operand} (hl : ∀ x ∈ l, x ∈ o.op.operands) : l.map (evO X s' t) = l.map (evO X s t) :=
  List.map_congr_left fun x hx => evO_agree h t (hl x hx)

theorem argsO_agree {ops : List Oper} (h : Agree ops o s s') : ∀ (ts : List Nat) (l : List Operand), (∀ x ∈ l, x ∈ o.op.operands) → argsO X s' ts l = argsO X s ts l
  | [], [], _ => rfl
  | _ :: _, [], _ => rfl
  | [], x :: l, hl => by
    simp only [argsO]
    rw [evO_agree h _ (hl x (List.mem_cons_self ..)), argsO_agree h [] l fun y hy => hl y (List.mem_cons_of_mem _ hy)]
  | t :: ts, x :: l, hl => by
    simp only [argsO]
    rw [evO_agree h _ (hl x (List.mem_cons_self ..)), argsO_agree h ts l fun y hy => hl y (List.mem_cons_of_mem _ hy)]

/-- A value and no object turned. -/
theorem pq_same {r : Option AV} {b : Bool} {v : AV} {obs objs objs' : List Ob} : (match r with | some v => some (true, v, objs) | none => none) = some (b, v, obs) →
    obs = objs ∧ (match r with | some v => some (true, v, objs') | none => none) = some (b, v, objs') := fun h => by
  cases r with
  | none => cases h
  | some x =>
    cases h
    exact ⟨rfl, rfl⟩
theorem qq_same {r : Option (Bool × AV)} {b : Bool} {v : AV} {obs objs objs' : List Ob} : (match r with | some (b, v) => some (b, v, objs) | none => none) = some (b, v, obs) →
    obs = objs ∧ (match r with | some (b, v) => some (b, v, objs') | none => none) = some (b, v, objs') := fun h => by
  cases r with
  | none => cases h
  | some x =>
    obtain ⟨c, x⟩ := x
    cases h
    exact ⟨rfl, rfl⟩

theorem evVal_pure {ops : List Oper} (hA : Agree ops o s s') (hc : clsO X.tk o.op = 0) {b : Bool} {v : AV} {obs : List Ob} (h : evVal X s o = some (b, v, obs)) :
    obs = s.objs ∧ evVal X s' o = some (b, v, s'.objs) := by
  have e : ∀ t x, x ∈ o.op.operands → evO X s' t x = evO X s t x := fun t x hx => evO_agree hA t hx
  have em : ∀ t (l : List Operand), (∀ x ∈ l, x ∈ o.op.operands) → l.map (evO X s' t) = l.map (evO X s t) := fun t l hl => map_agree hA t hl
  have ea : ∀ ts (l : List Operand), (∀ x ∈ l, x ∈ o.op.operands) → argsO X s' ts l = argsO X s ts l := fun ts l hl => argsO_agree hA ts l hl
  have ep : ∀ (f : Nat → Nat) (l : List (Nat × Operand)), (∀ x ∈ l, x.2 ∈ o.op.operands) → l.map (fun y => (y.1, evO X s' (f y.1) y.2)) = l.map (fun y => (y.1, evO X s (f y.1) y.2)) := fun f l hl =>
    List.map_congr_left fun y hy => by rw [e _ _ (hl y hy)]
  unfold evVal at h ⊢
  cases ho : o.op with
  | move x =>
    simp only [ho, Op.operands] at h e ⊢
    rw [e _ x (by simp)]
    cases h
    exact ⟨rfl, rfl⟩
  | assign x =>
    simp only [ho, Op.operands] at h e ⊢
    rw [e _ x (by simp)]
    cases h
    exact ⟨rfl, rfl⟩
  | build t parts =>
    simp only [ho] at h ep ⊢
    have hp : ∀ x ∈ parts.toList, x.2 ∈ (Op.build t parts).operands := fun x hx => by
      simp only [Op.operands]
      simp only [List.mem_toArray, List.mem_map]
      exact ⟨x, hx, rfl⟩
    split at h
    · split at h
      · split at h
        · cases h
        · rename_i hf
          rw [ep _ _ hp]
          simp only [hf] at h ⊢
          exact pq_same h
      · rw [ep (fun _ => _) _ hp]
        exact pq_same h
      · cases h
    · cases h
  | buildSlice t len parts =>
    simp only [ho] at h ep ⊢
    have hp : ∀ x ∈ parts.toList, x.2 ∈ (Op.buildSlice t len parts).operands := fun x hx => by
      simp only [Op.operands]
      simp only [List.mem_toArray, List.mem_map]
      exact ⟨x, hx, rfl⟩
    split at h
    · rw [ep (fun _ => _) _ hp]
      split at h
      · split at h
        · rename_i hh
          cases h
          exact ⟨rfl, by simp only [if_pos hh]⟩
        · cases h
      · cases h
    · cases h
  | binOp op t x y u =>
    simp only [ho, Op.operands] at h e ⊢
    rw [e t x (by simp), e t y (by simp)]
    split at h
    · rename_i hh
      rw [if_pos hh]
      exact qq_same h
    · cases h
  | unOp op t x =>
    simp only [ho, Op.operands] at h e ⊢
    cases op <;> simp only at h ⊢ <;> first
      | (rw [e 0 x (by simp)]; exact pq_same h)
      | cases h
  | extract x i =>
    simp only [ho, Op.operands] at h e ⊢
    rw [e 0 x (by simp)]
    exact pq_same h
  | fieldAddr t x f =>
    simp only [ho, Op.operands] at h e ⊢
    rw [e 0 x (by simp)]
    split at h
    · exact pq_same h
    · cases h
  | field t x f =>
    simp only [ho, Op.operands] at h e ⊢
    rw [e 0 x (by simp)]
    split at h
    · exact pq_same h
    · cases h
  | indexAddr t x i =>
    simp only [ho, Op.operands] at h e ⊢
    rw [e t x (by simp), e 0 i (by simp)]
    repeat' split at h
    all_goals first | (cases h; done) | skip
    all_goals (cases h; simp_all)
  | index t x i =>
    simp only [ho, Op.operands] at h e ⊢
    rw [e t x (by simp), e 0 i (by simp)]
    repeat' split at h
    all_goals first | (cases h; done) | skip
    all_goals (cases h; simp_all)
  | slice t x lo hi mx =>
    simp only [ho, Op.operands] at h e ⊢
    have el : lo.map (evO X s' 0) = lo.map (evO X s 0) := by
      cases lo with
      | none => rfl
      | some y => simp only [Option.map_some]; rw [e 0 y (by simp)]
    have eh : hi.map (evO X s' 0) = hi.map (evO X s 0) := by
      cases hi with
      | none => rfl
      | some y => simp only [Option.map_some]; rw [e 0 y (by simp)]
    have ex : mx.map (evO X s' 0) = mx.map (evO X s 0) := by
      cases mx with
      | none => rfl
      | some y => simp only [Option.map_some]; rw [e 0 y (by simp)]
    rw [e t x (by simp), el, eh, ex]
    split at h
    · split at h
      · rename_i hh
        rw [if_pos hh]
        exact qq_same h
      · cases h
    · cases h
  | makeMap t r =>
    cases r with
    | none =>
      simp only [ho] at h ⊢
      split at h
      · cases h
        exact ⟨rfl, rfl⟩
      · cases h
    | some r => simp only [ho] at h; cases h
  | mapUpdate t m k v' =>
    simp only [ho, Op.operands] at h e ⊢
    rw [e 0 m (by simp), e 0 k (by simp), e 0 v' (by simp)]
    split at h
    · split at h
      · rename_i hh
        cases h
        exact ⟨rfl, by simp only [if_pos hh]⟩
      · cases h
    · cases h
  | makeFunc fn first cap =>
    simp only [ho, Op.operands] at h em ⊢
    cases fn with
    | func f =>
      dsimp only at h ⊢
      rw [em 0 first.toList (fun x hx => by simp at hx ⊢; exact .inl hx), em 0 cap.toList (fun x hx => by simp at hx ⊢; exact .inr hx)]
      cases h
      exact ⟨rfl, rfl⟩
    | _ => cases h
  | call c =>
    obtain ⟨callee, args, argTypes⟩ := c
    rw [ho] at hc
    simp only [ho] at h e em ea ⊢
    cases callee with
    | invoke r m => cases h
    | value f =>
      have ht : ∀ i t d, evO X s 0 f = .tok i t d → findA X.K i = none := fun i t d hf => by
        cases f with
        | func q => simp [evO] at hf
        | _ =>
          simp only [clsO] at hc
          split at hc
          · cases hc
          · rename_i hk
            unfold Ctx.tk at hk
            split at hk
            · rename_i hK
              rw [hK]
              rfl
            · exact absurd rfl hk
      simp only [Op.operands, Call.operands] at h e ea ⊢
      rw [e 0 f (by simp), ea argTypes.toList args.toList (fun x hx => by simp at hx ⊢; first | exact .inr hx | exact .inl hx)]
      split at h
      · split at h
        · exact qq_same h
        · cases h
      · rename_i i t d hf
        rw [ht i t d hf] at h
        cases h
      · cases h
    | builtin bt =>
      simp only [Op.operands, Call.operands] at h e em ⊢
      cases bt with
      | len =>
        dsimp only at h ⊢
        split at h
        · rename_i x t hx ht
          rw [e t x (by have : x ∈ args.toList := by rw [hx]; simp
                        simp at this ⊢; exact this)]
          split at h
          · exact pq_same h
          · exact pq_same h
          · cases h
        · cases h
      | max =>
        dsimp only at h ⊢
        split at h
        · rename_i x r hx
          have hm : ∀ y, y ∈ x :: r → y ∈ args := fun y hy => by rw [← hx] at hy; simpa using hy
          rw [e 0 x (by have := hm x (by simp); simpa using this), em 0 r (fun y hy => by have := hm y (by simp [hy]); simpa using this)]
          exact pq_same h
        · cases h
      | min =>
        dsimp only at h ⊢
        split at h
        · rename_i x r hx
          have hm : ∀ y, y ∈ x :: r → y ∈ args := fun y hy => by rw [← hx] at hy; simpa using hy
          rw [e 0 x (by have := hm x (by simp); simpa using this), em 0 r (fun y hy => by have := hm y (by simp [hy]); simpa using this)]
          exact pq_same h
        · cases h
      | append => exact absurd hc (by simp [clsO])
      | _ => cases h
  | _ => simp only [ho] at h ⊢ <;> first | (cases h; done) | exact absurd hc (by rw [ho]; simp [clsO])

theorem val_pure {ops : List Oper} (hA : Agree ops o s s') (hc : clsO X.tk o.op = 0) {v : AV} {obs : List Ob} (h : valA X s o = some (v, obs)) :
    obs = s.objs ∧ valA X s' o = some (v, s'.objs) := by
  unfold valA at h ⊢
  have key : ∀ v obs, (match evVal X s o with | some (t, v, obs) => bif t then some (v, obs) else none | none => none) = some (v, obs) →
      obs = s.objs ∧ (match evVal X s' o with | some (t, v, obs) => bif t then some (v, obs) else none | none => none) = some (v, s'.objs) := fun v obs h => by
    cases hv : evVal X s o with
    | none => rw [hv] at h; cases h
    | some r =>
      obtain ⟨t, u, ob⟩ := r
      obtain ⟨h1, h2⟩ := evVal_pure hA hc hv
      rw [hv] at h
      rw [h2]
      cases t
      · cases h
      · cases h
        exact ⟨h1, rfl⟩
  cases ho : o.op with
  | pick c x y =>
    have e : ∀ t x, x ∈ o.op.operands → evO X s' t x = evO X s t x := fun t x hx => evO_agree hA t hx
    rw [ho] at e
    simp only [Op.operands] at e
    simp only [ho] at h ⊢
    rw [e 0 c (by simp), e o.type x (by simp), e o.type y (by simp)]
    split at h
    · cases h
      exact ⟨rfl, rfl⟩
    · cases h
  | _ =>
    simp only [ho] at h ⊢
    exact key v obs h

/-! Which objects an operation reads, and which it turns. -/

def ob (s : St) (k : Nat) : Ob := s.objs.getD k .none

def nb (o : Ob) : Prop := (∀ v, o ≠ .box v) ∧ ∀ a b m, o ≠ .map a b m

structure Foot (X : Ctx) (ops : List Oper) (o : Oper) (s s1 : St) (v : AV) (R W : Nat → Prop) : Prop where
  eq : s1.tmps = (s.put o.dst v).tmps
  sub : ∀ k, W k → R k
  len : s1.objs.length = s.objs.length
  out : ∀ k, ¬ W k → ob s1 k = ob s k
  again : ∀ s', Agree ops o s s' → s'.objs.length = s.objs.length → (∀ k, R k → ob s' k = ob s k) →
    ∃ s1', st1 X ops s' o = some s1' ∧ s1'.tmps = (s'.put o.dst v).tmps ∧ s1'.objs.length = s.objs.length ∧ (∀ k, W k → ob s1' k = ob s1 k) ∧ (∀ k, ¬ W k → ob s1' k = ob s' k)
  f0 : clsO X.tk o.op = 0 → ∀ k, ¬ R k
  f1 : clsO X.tk o.op = 1 → ∀ k, ¬ W k
  f13 : clsO X.tk o.op = 1 ∨ clsO X.tk o.op = 3 → ∀ k, R k → (∃ v, ob s k = .box v) ∧ (∃ v, ob s1 k = .box v) ∧ ∃ x p, (adrO o.op = some x ∧ x ∈ o.op.operands) ∧ evO X s 0 x = .ref k p
  f2 : clsO X.tk o.op = 2 → ∀ k, R k → o.dst = some k ∧ ob s k = .none ∧ ∃ v, ob s1 k = .box v
  f4 : clsO X.tk o.op = 4 → ∀ k, R k → nb (ob s k) ∧ ∃ v al, ob s1 k = .lin v al
  f5 : clsO X.tk o.op = 5 → ∀ k, R k → (∃ x y l, ob s k = .map x y l) ∧ ∃ x y l, ob s1 k = .map x y l

theorem ob_set {tm : List AV} {l : List Ob} {d k : Nat} {x : Ob} (hd : d < l.length) : ob ⟨tm, l.set d x⟩ k = if d = k then x else ob ⟨tm, l⟩ k := by
  unfold ob
  simp only [List.getD]
  rw [List.getElem?_set]
  by_cases e : d = k
  · subst e
    simp [hd]
  · simp [e]

theorem ob_lt {s : St} {k : Nat} (h : ob s k ≠ .none) : k < s.objs.length := by
  rcases Nat.lt_or_ge k s.objs.length with h' | h'
  · exact h'
  · exact absurd (by unfold ob; simp [List.getD, List.getElem?_eq_none h']) h

/-- An operation that the guard leaves out, or that touches no object. -/
theorem foot_none {ops : List Oper} {v : AV} (h1 : s1 = ⟨(s.put o.dst v).tmps, s.objs⟩) (h : ∀ s', Agree ops o s s' → st1 X ops s' o = some ⟨(s'.put o.dst v).tmps, s'.objs⟩) : Foot X ops o s s1 v (fun _ => False) (fun _ => False) := by
  subst h1
  exact ⟨rfl, fun _ h => h, rfl, fun _ _ => rfl, fun s' ha hl _ => ⟨_, h s' ha, rfl, hl, fun _ h => h.elim, fun _ _ => rfl⟩, fun _ _ h => h, fun _ _ h => h, fun _ _ h => h.elim, fun _ _ h => h.elim, fun _ _ h => h.elim, fun _ _ h => h.elim⟩

theorem put_obs (s : St) (d : Option Nat) (v : AV) : (s.put d v).objs = s.objs := by cases d <;> rfl
theorem put_eta (s : St) (d : Option Nat) (v : AV) : s.put d v = ⟨(s.put d v).tmps, s.objs⟩ := by cases d <;> rfl

theorem foot {ops : List Oper} (h : st1 X ops s o = some s1) : ∃ v R W, Foot X ops o s s1 v R W := by
  have h0 := h
  unfold st1 at h
  split at h
  · rename_i hw
    split at h
    · rename_i v obs hv
      cases h
      have hst : ∀ s' obs', Agree ops o s s' → valA X s' o = some (v, obs') → st1 X ops s' o = some ⟨(s'.put o.dst v).tmps, obs'⟩ := fun s' obs' ha hv' => by
        unfold st1
        rw [wantA_agree ha, hw, hv']
      by_cases hc : clsO X.tk o.op = 0
      · obtain ⟨rfl, _⟩ := val_pure (ops := ops) (fun k _ => rfl : Agree ops o s s) hc hv
        exact ⟨v, _, _, foot_none rfl fun s' ha => hst s' _ ha (val_pure ha hc hv).2⟩
      · have hev : evVal X s o = some (true, v, obs) ∧ ∀ s' obs', evVal X s' o = some (true, v, obs') → valA X s' o = some (v, obs') := by
          unfold valA at hv ⊢
          cases ho : o.op with
          | pick c x y => exact absurd (by rw [ho]; rfl) hc
          | _ =>
            simp only [ho] at hv ⊢
            refine ⟨?_, fun s' obs' h => by rw [h]; rfl⟩
            cases he : evVal X s o with
            | none => rw [he] at hv; cases hv
            | some r =>
              obtain ⟨t, u, ob⟩ := r
              rw [he] at hv
              cases t
              · cases hv
              · cases hv; rfl
        obtain ⟨hev, hback⟩ := hev
        have hst' : ∀ s' obs', Agree ops o s s' → evVal X s' o = some (true, v, obs') → st1 X ops s' o = some ⟨(s'.put o.dst v).tmps, obs'⟩ := fun s' obs' ha hv' => hst s' obs' ha (hback _ _ hv')
        clear hback hst hv
        cases ho : o.op with
        | load t x =>
          have e : ∀ s', Agree ops o s s' → evO X s' 0 x = evO X s 0 x := fun s' ha => evO_agree ha 0 (by rw [ho]; simp [Op.operands])
          unfold evVal at hev
          simp only [ho] at hev
          cases hx : evO X s 0 x with
          | ref k p =>
            simp only [hx, ldAV] at hev
            cases hk : s.objs.getD k .none with
            | box u =>
              simp only [hk] at hev
              have hobs : obs = s.objs := (pq_same (objs' := []) hev).1
              subst hobs
              refine ⟨v, fun j => j = k, fun _ => False, rfl, fun _ h => h.elim, rfl, fun _ _ => rfl, fun s' ha hl hr => ⟨_, hst' s' s'.objs ha ?_, rfl, hl, fun _ h => h.elim, fun _ _ => rfl⟩, ?_, fun _ _ h => h, ?_, ?_, ?_, ?_⟩
              · unfold evVal
                simp only [ho, e s' ha, hx, ldAV]
                have : s'.objs.getD k .none = .box u := (hr k rfl).trans hk
                simp only [this]
                exact (pq_same hev).2
              · rw [ho]; intro h; simp [clsO] at h
              · rintro - j rfl
                exact ⟨⟨u, hk⟩, ⟨u, hk⟩, x, p, by rw [ho]; exact ⟨rfl, by simp [Op.operands]⟩, hx⟩
              · rw [ho]; intro h; simp [clsO] at h
              · rw [ho]; intro h; simp [clsO] at h
              · rw [ho]; intro h; simp [clsO] at h
            | _ => simp only [hk] at hev; cases hev
          | cref u p =>
            simp only [hx, ldAV] at hev
            have hobs : obs = s.objs := (pq_same (objs' := []) hev).1
            subst hobs
            refine ⟨v, _, _, foot_none rfl fun s' ha => hst' s' s'.objs ha ?_⟩
            unfold evVal
            simp only [ho, e s' ha, hx, ldAV]
            exact (pq_same hev).2
          | _ => simp only [hx, ldAV] at hev; cases hev
        | alloc t =>
          unfold evVal at hev
          simp only [ho] at hev
          split at hev
          · rename_i d i hd hi
            split at hev
            · rename_i z hz hn
              split at hev
              · rename_i hlt
                cases hev
                refine ⟨_, fun j => j = d, fun j => j = d, rfl, fun _ h => h, by simp, ?_, fun s' ha hl hr => ⟨_, hst' s' (s'.objs.set d (.box z)) ha ?_, rfl, by simpa using hl, ?_, ?_⟩, ?_, ?_, ?_, ?_, ?_, ?_⟩
                · intro k hk
                  rw [ob_set hlt, if_neg (Ne.symm hk)]
                  rfl
                · unfold evVal
                  have : s'.objs.getD d .none = .none := (hr d rfl).trans hn
                  simp only [ho, hd, hi, hz, this, hl, if_pos hlt]
                · rintro k rfl
                  rw [ob_set hlt, if_pos rfl, ob_set (hl.symm ▸ hlt), if_pos rfl]
                · intro k hk
                  rw [ob_set (hl.symm ▸ hlt), if_neg (Ne.symm hk)]
                  rfl
                · rw [ho]; intro h; simp [clsO] at h
                · rw [ho]; intro h; simp [clsO] at h
                · rw [ho]; intro h; simp [clsO] at h
                · rintro - k rfl
                  exact ⟨hd, hn, z, by rw [ob_set hlt, if_pos rfl]⟩
                · rw [ho]; intro h; simp [clsO] at h
                · rw [ho]; intro h; simp [clsO] at h
              · cases hev
            · cases hev
          · cases hev
        | box t x =>
          have e : ∀ s', Agree ops o s s' → evO X s' t x = evO X s t x := fun s' ha => evO_agree ha t (by rw [ho]; simp [Op.operands])
          unfold evVal at hev
          simp only [ho] at hev
          split at hev
          · rename_i d hd
            split at hev
            · rename_i hn
              split at hev
              · rename_i hlt
                cases hev
                refine ⟨_, fun j => j = d, fun j => j = d, rfl, fun _ h => h, by simp, ?_, fun s' ha hl hr => ⟨_, hst' s' (s'.objs.set d (.box (evO X s t x))) ha ?_, rfl, by simpa using hl, ?_, ?_⟩, ?_, ?_, ?_, ?_, ?_, ?_⟩
                · intro k hk
                  rw [ob_set hlt.2.2, if_neg (Ne.symm hk)]
                  rfl
                · unfold evVal
                  have : s'.objs.getD d .none = .none := (hr d rfl).trans hn
                  simp only [ho, hd, this, hl, e s' ha, if_pos hlt]
                · rintro k rfl
                  rw [ob_set hlt.2.2, if_pos rfl, ob_set (hl.symm ▸ hlt.2.2), if_pos rfl]
                · intro k hk
                  rw [ob_set (hl.symm ▸ hlt.2.2), if_neg (Ne.symm hk)]
                  rfl
                · rw [ho]; intro h; simp [clsO] at h
                · rw [ho]; intro h; simp [clsO] at h
                · rw [ho]; intro h; simp [clsO] at h
                · rintro - k rfl
                  exact ⟨hd, hn, _, by rw [ob_set hlt.2.2, if_pos rfl]⟩
                · rw [ho]; intro h; simp [clsO] at h
                · rw [ho]; intro h; simp [clsO] at h
              · cases hev
            · cases hev
          · cases hev
        | store t x y =>
          have e : ∀ s', Agree ops o s s' → evO X s' 0 x = evO X s 0 x := fun s' ha => evO_agree ha 0 (by rw [ho]; simp [Op.operands])
          have e' : ∀ s', Agree ops o s s' → evO X s' t y = evO X s t y := fun s' ha => evO_agree ha t (by rw [ho]; simp [Op.operands])
          unfold evVal at hev
          simp only [ho] at hev
          split at hev
          · rename_i k p hx
            split at hev
            · rename_i u hk
              split at hev
              · rename_i w hf hp
                cases hev
                have hlt : k < s.objs.length := ob_lt (by unfold ob; rw [hk]; simp)
                refine ⟨_, fun j => j = k, fun j => j = k, rfl, fun _ h => h, by simp, ?_, fun s' ha hl hr => ⟨_, hst' s' (s'.objs.set k (.box w)) ha ?_, rfl, by simpa using hl, ?_, ?_⟩, ?_, ?_, ?_, ?_, ?_, ?_⟩
                · intro j hj
                  rw [ob_set hlt, if_neg (Ne.symm hj)]
                  rfl
                · unfold evVal
                  have : s'.objs.getD k .none = .box u := (hr k rfl).trans hk
                  simp only [ho, e s' ha, e' s' ha, hx, this, hf, hp]
                · rintro j rfl
                  rw [ob_set hlt, if_pos rfl, ob_set (hl.symm ▸ hlt), if_pos rfl]
                · intro j hj
                  rw [ob_set (hl.symm ▸ hlt), if_neg (Ne.symm hj)]
                  rfl
                · rw [ho]; intro h; simp [clsO] at h
                · rw [ho]; intro h; simp [clsO] at h
                · rintro - j rfl
                  exact ⟨⟨u, hk⟩, ⟨w, by rw [ob_set hlt, if_pos rfl]⟩, x, p, by rw [ho]; exact ⟨rfl, by simp [Op.operands]⟩, hx⟩
                · rw [ho]; intro h; simp [clsO] at h
                · rw [ho]; intro h; simp [clsO] at h
                · rw [ho]; intro h; simp [clsO] at h
              · cases hev
            · cases hev
          · cases hev
        | makeSlice t n c =>
          have e : ∀ s', Agree ops o s s' → evO X s' 0 n = evO X s 0 n := fun s' ha => evO_agree ha 0 (by rw [ho]; simp [Op.operands])
          have e' : ∀ s', Agree ops o s s' → evO X s' 0 c = evO X s 0 c := fun s' ha => evO_agree ha 0 (by rw [ho]; simp [Op.operands])
          unfold evVal at hev
          simp only [ho] at hev
          split at hev
          · rename_i d hd
            split at hev
            · rename_i hlt
              have key : nb (ob s d) ∧ (∃ v al, ob ⟨s.tmps, obs⟩ d = .lin v al) ∧ obs.length = s.objs.length ∧ (∀ k, k ≠ d → ob ⟨s.tmps, obs⟩ k = ob s k) ∧
                  ∀ s' : St, s'.objs.length = s.objs.length → ob s' d = ob s d → ∃ obs', mkSl X.T s' t d (evO X s 0 n) (evO X s 0 c) = some (true, v, obs') ∧ obs'.length = s.objs.length ∧ ob ⟨s.tmps, obs'⟩ d = ob ⟨s.tmps, obs⟩ d ∧ ∀ k, k ≠ d → ob ⟨s.tmps, obs'⟩ k = ob s' k := by
                unfold mkSl at hev ⊢
                split at hev
                · rename_i n c el eid by_ hn hc he
                  generalize hO : s.objs.getD d .none = O at hev
                  have hh : (∀ v, O ≠ .box v) ∧ (∀ a b m, O ≠ .map a b m) ∧ v = .sl el ⟨false, false, some (d, linOf O)⟩ (List.replicate n.toNat el.dflt) ∧ obs = s.objs.set d (.lin (linOf O) true) ∧
                      (decide (0 ≤ n) && (decide (n ≤ c) && decide (c * (by_ : Int) ≤ roomFor))) = true := by
                    cases O with
                    | box v => cases hev
                    | map a b m => cases hev
                    | _ =>
                      simp only [Option.some.injEq, Prod.mk.injEq] at hev
                      exact ⟨(fun _ h => nomatch h), (fun _ _ _ h => nomatch h), hev.2.1.symm, hev.2.2.symm, hev.1⟩
                  obtain ⟨hb, hm, hv, hobs, ht⟩ := hh
                  refine ⟨⟨fun u hu => ?_, fun _ _ _ hu => hm _ _ _ (hO.symm.trans hu)⟩, ⟨linOf O, true, ?_⟩, ?_, fun k hk => ?_, fun s' hl hr => ⟨s'.objs.set d (.lin (linOf O) true), ?_, ?_, ?_, fun k hk => ?_⟩⟩
                  · exact hb u (hO.symm.trans hu)
                  · rw [hobs, ob_set hlt, if_pos rfl]
                  · rw [hobs]; simp
                  · rw [hobs, ob_set hlt, if_neg (Ne.symm hk)]; try rfl
                  · have : s'.objs.getD d .none = O := hr.trans hO
                    rw [this]
                    cases O with
                    | box v => exact absurd rfl (hb v)
                    | map a b m => exact absurd rfl (hm a b m)
                    | _ => simp only [ht, hv]
                  · simpa using hl
                  · rw [hobs, ob_set hlt, if_pos rfl, ob_set (hl.symm ▸ hlt), if_pos rfl]
                  · rw [ob_set (hl.symm ▸ hlt), if_neg (Ne.symm hk)]; try rfl
                · cases hev
              obtain ⟨h1, h2, h3, h4, h5⟩ := key
              refine ⟨v, fun j => j = d, fun j => j = d, rfl, fun _ h => h, h3, h4, fun s' ha hl hr => ?_, ?_, ?_, ?_, ?_, ?_, ?_⟩
              · obtain ⟨obs', g1, g2, g3, g4⟩ := h5 s' hl (hr d rfl)
                refine ⟨_, hst' s' obs' ha ?_, rfl, g2, ?_, g4⟩
                · unfold evVal
                  simp only [ho, hd, hl, if_pos hlt, e s' ha, e' s' ha]
                  exact g1
                · rintro k rfl
                  exact g3
              · rw [ho]; intro h; simp [clsO] at h
              · rw [ho]; intro h; simp [clsO] at h
              · rw [ho]; intro h; simp [clsO] at h
              · rw [ho]; intro h; simp [clsO] at h
              · rintro - k rfl
                exact ⟨h1, h2⟩
              · rw [ho]; intro h; simp [clsO] at h
            · cases hev
          · cases hev
        | call c =>
          obtain ⟨callee, args, argTypes⟩ := c
          cases callee with
          | invoke r m => exact absurd (by rw [ho]; rfl) hc
          | value fv =>
            have e : ∀ s', Agree ops o s s' → ∀ x t, (x = fv ∨ x ∈ args.toList) → evO X s' t x = evO X s t x := fun s' ha x t hx => evO_agree ha t (by rw [ho]; simp only [Op.operands, Call.operands]; simpa using hx)
            have ea : ∀ s', Agree ops o s s' → argsO X s' argTypes.toList args.toList = argsO X s argTypes.toList args.toList := fun s' ha => argsO_agree ha _ _ (fun x hx => by rw [ho]; simp only [Op.operands, Call.operands]; simp; exact .inr (by simpa using hx))
            unfold evVal at hev
            simp only [ho] at hev
            cases hf : evO X s 0 fv with
            | fn f first cap =>
              simp only [hf] at hev
              cases hg : findA X.C f with
              | none => simp only [hg] at hev; cases hev
              | some g =>
                simp only [hg] at hev
                have hobs : obs = s.objs := (qq_same (objs' := []) hev).1
                subst hobs
                refine ⟨v, _, _, foot_none rfl fun s' ha => hst' s' s'.objs ha ?_⟩
                unfold evVal
                simp only [ho, e s' ha fv 0 (.inl rfl), hf, hg, ea s' ha]
                exact (qq_same hev).2
            | tok i t d =>
              simp only [hf] at hev
              split at hev
              · rename_i g x y tr hg hl
                split at hev
                · rename_i tt u m hgm
                  cases hev
                  have hlt : s.objs.length - 1 < s.objs.length := ob_lt (s := s) (by unfold ob; rw [hl]; simp)
                  refine ⟨_, fun j => j = s.objs.length - 1, fun j => j = s.objs.length - 1, rfl, fun _ h => h, by simp, ?_, fun s' ha hl' hr => ⟨_, hst' s' (s'.objs.set (s.objs.length - 1) (.map x y (tr ++ m))) ha ?_, rfl, by simpa using hl', ?_, ?_⟩, fun h => absurd h hc, ?_, ?_, ?_, ?_, ?_⟩
                  · intro k hk
                    rw [ob_set hlt, if_neg (Ne.symm hk)]
                    rfl
                  · unfold evVal
                    have : s'.objs.getD (s.objs.length - 1) .none = .map x y tr := (hr _ rfl).trans hl
                    simp only [ho, e s' ha fv 0 (.inl rfl), hf, hg, ea s' ha, hl', this, hgm]
                  · rintro k rfl
                    rw [ob_set hlt, if_pos rfl, ob_set (hl'.symm ▸ hlt), if_pos rfl]
                  · intro k hk
                    rw [ob_set (hl'.symm ▸ hlt), if_neg (Ne.symm hk)]
                    rfl
                  · intro h
                    exfalso
                    rw [ho] at h
                    simp only [clsO] at h
                    repeat' split at h
                    all_goals simp at h
                  · intro h
                    exfalso
                    rw [ho] at h
                    simp only [clsO] at h
                    repeat' split at h
                    all_goals simp at h
                  · intro h
                    exfalso
                    rw [ho] at h
                    simp only [clsO] at h
                    repeat' split at h
                    all_goals simp at h
                  · intro h
                    exfalso
                    rw [ho] at h
                    simp only [clsO] at h
                    repeat' split at h
                    all_goals simp at h
                  · rintro - k rfl
                    exact ⟨⟨x, y, tr, hl⟩, x, y, tr ++ m, by rw [ob_set hlt, if_pos rfl]⟩
                · cases hev
              · cases hev
            | _ => simp only [hf] at hev; cases hev
          | builtin bt =>
            cases bt with
            | append =>
              have e : ∀ s', Agree ops o s s' → ∀ x t, x ∈ args.toList → evO X s' t x = evO X s t x := fun s' ha x t hx => evO_agree ha t (by rw [ho]; simp only [Op.operands, Call.operands]; simpa using hx)
              unfold evVal at hev
              simp only [ho] at hev
              split at hev
              · rename_i d x y t t' hd hargs hty
                split at hev
                · rename_i hlt
                  obtain ⟨htt, hlt⟩ := hlt
                  have key : ∃ D : Nat → Prop, (∀ k, D k → nb (ob s k) ∧ ∃ v al, ob ⟨s.tmps, obs⟩ k = .lin v al) ∧ obs.length = s.objs.length ∧ (∀ k, ¬ D k → ob ⟨s.tmps, obs⟩ k = ob s k) ∧
                      ∀ s' : St, s'.objs.length = s.objs.length → (∀ k, D k → ob s' k = ob s k) → ∃ obs', appAV X.T s' t d (evO X s t x) (evO X s t y) = some (true, v, obs') ∧ obs'.length = s.objs.length ∧
                        (∀ k, D k → ob ⟨s.tmps, obs'⟩ k = ob ⟨s.tmps, obs⟩ k) ∧ ∀ k, ¬ D k → ob ⟨s.tmps, obs'⟩ k = ob s' k := by
                    unfold appAV at hev ⊢
                    generalize evO X s t x = vx at hev ⊢
                    generalize evO X s t y = vy at hev ⊢
                    split at hev
                    · rename_i te f l te' f' m
                      split at hev
                      · rename_i hte
                        split at hev
                        · rename_i e1 e2 by_ hel
                          split at hev
                          · rename_i he1
                            generalize hO : s.objs.getD d .none = O at hev
                            have hne : (∀ v, O ≠ .box v) ∧ (∀ a b m, O ≠ .map a b m) := by
                              cases O with
                              | box v => cases hev
                              | map a b m => cases hev
                              | _ => exact ⟨(fun _ h => nomatch h), (fun _ _ _ h => nomatch h)⟩
                            obtain ⟨hb, hm⟩ := hne
                            have hbd : nb (ob s d) := ⟨fun u hu => hb u (hO.symm.trans hu), fun _ _ _ hu => hm _ _ _ (hO.symm.trans hu)⟩
                            have hred : ∀ {α : Type} (O : Ob) (z : α) (n : α), (∀ v, O ≠ .box v) → (∀ a b m, O ≠ .map a b m) → (match O with | .box _ => n | .map .. => n | ob => z) = z := fun O z n h1 h2 => by
                              cases O with
                              | box v => exact absurd rfl (h1 v)
                              | map a b m => exact absurd rfl (h2 a b m)
                              | _ => rfl
                            cases hf : f.ow with
                            | none =>
                              have hev' : (f.tg && roomy l.length m.length by_) = true ∧ v = AV.sl te ⟨f.z, false, some (d, linOf O)⟩ (l ++ hte ▸ m) ∧ obs = s.objs.set d (.lin (linOf O) true) := by
                                cases O with
                                | box v => exact absurd rfl (hb v)
                                | map a b m => exact absurd rfl (hm a b m)
                                | _ =>
                                  simp only [hf, Option.some.injEq, Prod.mk.injEq] at hev
                                  exact ⟨hev.1, hev.2.1.symm, hev.2.2.symm⟩
                              obtain ⟨ht, hv, hobs⟩ := hev'
                              refine ⟨fun j => j = d, ?_, ?_, fun k hk => ?_, fun s' hl hr => ⟨s'.objs.set d (.lin (linOf O) true), ?_, ?_, ?_, fun k hk => ?_⟩⟩
                              · rintro k rfl
                                exact ⟨hbd, linOf O, true, by rw [hobs, ob_set hlt, if_pos rfl]⟩
                              · rw [hobs]; simp
                              · rw [hobs, ob_set hlt, if_neg (Ne.symm hk)]; try rfl
                              · have : s'.objs.getD d .none = O := (hr d rfl).trans hO
                                rw [this]
                                cases O with
                                | box v => exact absurd rfl (hb v)
                                | map a b m => exact absurd rfl (hm a b m)
                                | _ => simp only [ht, hv, hf, dif_pos hte, hel, if_pos he1]
                              · simpa using hl
                              · rintro k rfl
                                rw [hobs, ob_set hlt, if_pos rfl, ob_set (hl.symm ▸ hlt), if_pos rfl]
                              · rw [ob_set (hl.symm ▸ hlt), if_neg (Ne.symm hk)]; try rfl
                            | some ku =>
                              obtain ⟨k0, u0⟩ := ku
                              have hev' : ∃ cu, s.objs.getD k0 .none = .lin cu true ∧ u0 = cu ∧ roomy l.length m.length by_ = true ∧ v = AV.sl te ⟨f.z, false, some (d, linOf O)⟩ (l ++ hte ▸ m) ∧ obs = (s.objs.set k0 (.lin cu false)).set d (.lin (linOf O) true) := by
                                cases hk0 : s.objs.getD k0 .none with
                                | lin cu al =>
                                  cases al with
                                  | true =>
                                    refine ⟨cu, rfl, ?_⟩
                                    cases O with
                                    | box v => exact absurd rfl (hb v)
                                    | map a b m => exact absurd rfl (hm a b m)
                                    | _ =>
                                      simp only [hf, hk0] at hev
                                      split at hev
                                      · rename_i hu
                                        simp only [Option.some.injEq, Prod.mk.injEq] at hev
                                        exact ⟨hu, hev.1, hev.2.1.symm, hev.2.2.symm⟩
                                      · cases hev
                                  | false =>
                                    cases O with
                                    | box v => exact absurd rfl (hb v)
                                    | map a b m => exact absurd rfl (hm a b m)
                                    | _ => simp only [hf, hk0] at hev; cases hev
                                | _ =>
                                  cases O with
                                  | box v => exact absurd rfl (hb v)
                                  | map a b m => exact absurd rfl (hm a b m)
                                  | _ => simp only [hf, hk0] at hev; cases hev
                              obtain ⟨cu, hk0, hu, ht, hv, hobs⟩ := hev'
                              have hlt0 : k0 < s.objs.length := ob_lt (by unfold ob; rw [hk0]; simp)
                              have hob : ∀ (L : List Ob), L.length = s.objs.length → ∀ k, ob ⟨s.tmps, (L.set k0 (.lin cu false)).set d (.lin (linOf O) true)⟩ k = if d = k then .lin (linOf O) true else if k0 = k then .lin cu false else ob ⟨s.tmps, L⟩ k := fun L hL k => by
                                rw [ob_set (by rw [List.length_set, hL]; exact hlt), ob_set (by rw [hL]; exact hlt0)]
                              refine ⟨fun j => j = d ∨ j = k0, ?_, ?_, fun k hk => ?_, fun s' hl hr => ⟨(s'.objs.set k0 (.lin cu false)).set d (.lin (linOf O) true), ?_, ?_, ?_, fun k hk => ?_⟩⟩
                              · intro k hk
                                refine ⟨?_, ?_⟩
                                · rcases hk with rfl | rfl
                                  · exact hbd
                                  · refine ⟨fun u hu => ?_, fun _ _ _ hu => ?_⟩ <;>
                                    · unfold ob at hu
                                      rw [hk0] at hu
                                      cases hu
                                · rw [hobs, hob _ rfl]
                                  by_cases h1 : d = k
                                  · exact ⟨_, _, if_pos h1⟩
                                  · rw [if_neg h1, if_pos (hk.resolve_left (Ne.symm h1)).symm]
                                    exact ⟨_, _, rfl⟩
                              · rw [hobs]; simp
                              · rw [hobs, hob _ rfl, if_neg (fun h => hk (.inl h.symm)), if_neg (fun h => hk (.inr h.symm))]; try rfl
                              · have h1 : s'.objs.getD d .none = O := (hr d (.inl rfl)).trans hO
                                have h2 : s'.objs.getD k0 .none = .lin cu true := (hr k0 (.inr rfl)).trans hk0
                                cases O with
                                | box v => exact absurd rfl (hb v)
                                | map a b m => exact absurd rfl (hm a b m)
                                | _ => simp only [h1, h2, dif_pos hte, hel, if_pos he1, hf, if_pos hu, hv, ht]
                              · simpa using hl
                              · intro k hk
                                rw [hobs, hob _ hl, hob _ rfl]
                                by_cases h1 : d = k
                                · rw [if_pos h1, if_pos h1]
                                · rw [if_neg h1, if_neg h1, if_pos (hk.resolve_left (Ne.symm h1)).symm, if_pos (hk.resolve_left (Ne.symm h1)).symm]
                              · rw [hob _ hl, if_neg (fun h => hk (.inl h.symm)), if_neg (fun h => hk (.inr h.symm))]; try rfl
                          · cases hev
                        · cases hev
                      · cases hev
                    · cases hev
                  obtain ⟨D, h2, h3, h4, h5⟩ := key
                  refine ⟨v, D, D, rfl, fun _ h => h, h3, h4, fun s' ha hl hr => ?_, ?_, ?_, ?_, ?_, ?_, ?_⟩
                  · obtain ⟨obs', g1, g2, g3, g4⟩ := h5 s' hl hr
                    refine ⟨_, hst' s' obs' ha ?_, rfl, g2, g3, g4⟩
                    unfold evVal
                    simp only [ho, hd, hargs, hty, hl, e s' ha x t (by rw [hargs]; simp), e s' ha y t (by rw [hargs]; simp)]
                    rw [if_pos ⟨htt, hlt⟩]
                    exact g1
                  · rw [ho]; intro h; simp [clsO] at h
                  · rw [ho]; intro h; simp [clsO] at h
                  · rw [ho]; intro h; simp [clsO] at h
                  · rw [ho]; intro h; simp [clsO] at h
                  · exact fun _ => h2
                  · rw [ho]; intro h; simp [clsO] at h
                · cases hev
              · cases hev
            | _ => exact absurd (by rw [ho]; rfl) hc
        | _ => exact absurd (by rw [ho]; rfl) hc
    · cases h
  · rename_i hw
    cases h
    refine ⟨.undef, _, _, foot_none (put_eta ..) fun s' ha => ?_⟩
    unfold st1
    rw [wantA_agree ha, hw]
    exact congrArg some (put_eta ..)
  · cases h

/-! Two operations change places. -/

theorem apartL_spec {ops : List Oper} {x y : Oper} (h : apartL ops x y = true) :
    (∀ d, x.dst = some d → d ∉ looksL ops y) ∧ (∀ d, x.dst = some d → y.dst ≠ some d) ∧ (∀ d, y.dst = some d → d ∉ looksL ops x) := by
  have hm : ∀ (l : List Nat) k, elemN l k = false → k ∉ l := fun l => by
    induction l with
    | nil => intro k _ h; cases h
    | cons x r ih =>
      intro k hk hmem
      unfold elemN at hk
      split at hk
      · cases hk
      · rename_i hx
        rcases List.mem_cons.1 hmem with h | h
        · exact hx h.symm
        · exact ih k hk h
  unfold apartL at h
  rw [Bool.and_eq_true] at h
  obtain ⟨h1, h2⟩ := h
  refine ⟨fun d hd => ?_, fun d hd he => ?_, fun d hd => ?_⟩
  · rw [hd] at h1
    simp only [Bool.and_eq_true, Bool.not_eq_true'] at h1
    exact hm _ _ h1.1
  · rw [hd, he] at h1
    simp at h1
  · rw [hd] at h2
    simp only [Bool.not_eq_true'] at h2
    exact hm _ _ h2

theorem get_put_ne {d : Option Nat} {v : AV} {k : Nat} (h : ∀ e, d = some e → e ≠ k) (obs : List Ob) : St.get ⟨(s.put d v).tmps, obs⟩ k = s.get k := by
  cases d with
  | none => rfl
  | some e =>
    unfold St.get
    simp only [St.put, List.getD]
    rw [List.getElem?_set_ne (h e rfl)]

theorem agree_put {ops : List Oper} {d : Option Nat} {v : AV} (h : ∀ e, d = some e → e ∉ looksL ops o) (hs : s'.tmps = (s.put d v).tmps) : Agree ops o s s' := fun k hk => by
  obtain ⟨tm, obs⟩ := s'
  dsimp only at hs
  subst hs
  exact get_put_ne (fun e he hek => h e he (hek ▸ hk)) obs

theorem Agree.symm {ops : List Oper} (h : Agree ops o s s') : Agree ops o s' s := fun k hk => (h k hk).symm

theorem put_tmps_comm {d e : Option Nat} {v u : AV} (h : ∀ k, d = some k → e ≠ some k) {sa sb sc sd : St} (ha : sa.tmps = (s.put d v).tmps) (hb : sb.tmps = (sa.put e u).tmps) (hc : sc.tmps = (s.put e u).tmps) (hd : sd.tmps = (sc.put d v).tmps) : sd.tmps = sb.tmps := by
  rw [hd, hb]
  cases d with
  | none =>
    cases e with
    | none => simp only [St.put] at *; rw [hc, ha]
    | some e => simp only [St.put] at *; rw [hc, ha]
  | some d =>
    cases e with
    | none => simp only [St.put] at *; rw [hc, ha]
    | some e =>
      simp only [St.put] at *
      rw [hc, ha]
      exact List.set_comm _ _ (fun hde => h d rfl (by rw [hde]))

theorem st_ext {s s' : St} (h1 : s.tmps = s'.tmps) (h2 : s.objs.length = s'.objs.length) (h3 : ∀ k, ob s k = ob s' k) : s = s' := by
  obtain ⟨a, b⟩ := s
  obtain ⟨c, d⟩ := s'
  dsimp only at h1 h2
  subst h1
  congr
  refine List.ext_getElem h2 fun k hk hk' => ?_
  have := h3 k
  unfold ob at this
  simpa [List.getD, List.getElem?_eq_getElem hk, List.getElem?_eq_getElem hk'] using this

theorem evO_ref {x : Operand} {t k : Nat} {p : List Stp} (hX : CtxOK E X) (hl : Live E V0 io0 W0 s) (h : evO X s t x = .ref k p) : ∃ v, ob s k = .box v := by
  cases x with
  | tmp j =>
    simp only [evO] at h
    exact live_ref hl h
  | global g =>
    simp only [evO] at h
    split at h <;> cases h
  | func f => simp only [evO] at h; cases h
  | const v =>
    simp only [evO] at h
    unfold constAV at h
    repeat' split at h
    all_goals cases h

/-- Slots that the region does not write stand. -/
def SameB (ops : List Oper) (s0 s : St) : Prop := ∀ t, elemN (ops.filterMap (·.dst)) t = false → s.get t = s0.get t

theorem elemN_iff : ∀ {l : List Nat} {k : Nat}, elemN l k = true ↔ k ∈ l
  | [], k => by simp [elemN]
  | x :: l, k => by
    unfold elemN
    by_cases h : x = k
    · simp [h]
    · rw [if_neg h, elemN_iff]
      simp [Ne.symm h, h]

theorem boxOf_ref {ops : List Oper} {s0 : St} (hs : SameB ops s0 s) {x : Operand} {k : Nat} {p : List Stp} (he : evO X s 0 x = .ref k p) {q : Option Nat} (hb : boxOf s0 ops x = some q) : q = some k := by
  cases x with
  | tmp t =>
    simp only [boxOf] at hb
    split at hb
    · cases hb
    · rename_i hn
      simp only [evO] at he
      rw [← hs t (by simpa using hn), he] at hb
      cases hb
      rfl
  | global g =>
    simp only [evO] at he
    split at he <;> cases he
  | func f => simp only [evO] at he; cases he
  | const v => simp [boxOf] at hb

theorem farL_ne {ops : List Oper} {s0 : St} {a b : Op} (h : farL s0 ops a b = true) : ∃ x y q q', adrO a = some x ∧ adrO b = some y ∧ boxOf s0 ops x = some q ∧ boxOf s0 ops y = some q' ∧ (∀ k, q = some k → q' ≠ some k) := by
  unfold farL at h
  split at h
  · rename_i x y hx hy
    split at h
    · rename_i k j h1 h2
      refine ⟨x, y, _, _, hx, hy, h1, h2, fun m hm hm' => ?_⟩
      cases hm
      cases hm'
      simp at h
    · rename_i q h1 h2
      exact ⟨x, y, _, _, hx, hy, h1, h2, fun k hk => by cases hk⟩
    · rename_i q h1 h2
      exact ⟨x, y, _, _, hx, hy, h1, h2, fun k _ hk => by cases hk⟩
    · cases h
  · cases h

/-- **Two operations that are apart, in the other order.** -/
theorem swap (hX : CtxOK E X) {ops : List Oper} {s0 : St} (hS0 : SameB ops s0 s) {oi oj : Oper} (hl : Live E V0 io0 W0 s) (hap : apartL ops oi oj = true) (hcm : (compatN (clsO X.tk oi.op) (clsO X.tk oj.op) || farL s0 ops oi.op oj.op) = true) (hi : st1 X ops s oi = some s1) (hj : st1 X ops s1 oj = some s2) :
    ∃ s1', st1 X ops s oj = some s1' ∧ st1 X ops s1' oi = some s2 := by
  obtain ⟨h1, h2, h3⟩ := apartL_spec hap
  obtain ⟨v, R, Wr, F⟩ := foot hi
  obtain ⟨u, R', Wr', F'⟩ := foot hj
  have hA1 : Agree ops oj s s1 := agree_put h1 F.eq
  have hdis : (∀ k, Wr k → ¬ R' k) ∧ (∀ k, Wr' k → ¬ R k) := by
    have hpos : (∀ k, R k → ¬ R' k) → (∀ k, Wr k → ¬ R' k) ∧ (∀ k, Wr' k → ¬ R k) := fun h => ⟨fun k hk => h k (F.sub k hk), fun k hk hr => h k hr (F'.sub k hk)⟩
    have c0 : clsO X.tk oi.op = 0 → (∀ k, Wr k → ¬ R' k) ∧ (∀ k, Wr' k → ¬ R k) := fun h => hpos fun k hk => (F.f0 h k hk).elim
    have c0' : clsO X.tk oj.op = 0 → (∀ k, Wr k → ¬ R' k) ∧ (∀ k, Wr' k → ¬ R k) := fun h => hpos fun k _ hk => (F'.f0 h k hk).elim
    have old : clsO X.tk oj.op = 1 ∨ clsO X.tk oj.op = 3 → ∀ k, R' k → ∃ v, ob s k = .box v := fun h k hk => by
      obtain ⟨_, _, x, p, hx, he⟩ := F'.f13 h k hk
      rw [evO_agree hA1 0 hx.2] at he
      exact evO_ref hX hl he
    rw [Bool.or_eq_true] at hcm
    rcases hcm with hcm | hcm
    rotate_left
    · obtain ⟨x, y, q, q', hx, hy, hq, hq', hne⟩ := farL_ne hcm
      have cls : ∀ {o : Oper} {x : Operand}, adrO o.op = some x → clsO X.tk o.op = 1 ∨ clsO X.tk o.op = 3 := fun {o} {x} h => by
        unfold adrO at h
        split at h
        · rename_i ho; rw [ho]; exact .inl rfl
        · rename_i ho; rw [ho]; exact .inr rfl
        · cases h
      refine hpos fun k hk hk' => ?_
      obtain ⟨_, _, x1, p1, ⟨hx1, _⟩, he1⟩ := F.f13 (cls hx) k hk
      obtain ⟨_, _, y1, p2, ⟨hy1, hym⟩, he2⟩ := F'.f13 (cls hy) k hk'
      rw [hx] at hx1
      cases hx1
      rw [hy] at hy1
      cases hy1
      rw [evO_agree hA1 0 hym] at he2
      exact hne k (boxOf_ref hS0 he1 hq) (boxOf_ref hS0 he2 hq')
    generalize hci : clsO X.tk oi.op = ci at *
    generalize hcj : clsO X.tk oj.op = cj at *
    have hcase : (ci = 0 ∨ cj = 0) ∨ (ci = 1 ∧ cj = 1) ∨ ((ci = 1 ∨ ci = 3) ∧ cj = 2) ∨ (ci = 2 ∧ (cj = 1 ∨ cj = 3)) ∨ (ci = 2 ∧ cj = 2) ∨ ((ci = 1 ∨ ci = 3) ∧ cj = 4) ∨ (ci = 4 ∧ (cj = 1 ∨ cj = 3)) ∨ (ci = 2 ∧ cj = 4) ∨ (ci = 4 ∧ cj = 2) ∨ (ci = 5 ∧ (cj = 1 ∨ cj = 2 ∨ cj = 3 ∨ cj = 4)) ∨ ((ci = 1 ∨ ci = 2 ∨ ci = 3 ∨ ci = 4) ∧ cj = 5) := by
      unfold compatN at hcm
      split at hcm <;> first | (cases hcm; done) | (simp; done)
    rcases hcase with (h | h) | ⟨ha, hb⟩ | ⟨ha, hb⟩ | ⟨ha, hb⟩ | ⟨ha, hb⟩ | ⟨ha, hb⟩ | ⟨ha, hb⟩ | ⟨ha, hb⟩ | ⟨ha, hb⟩ | ⟨ha, hb⟩ | ⟨ha, hb⟩
    · exact c0 h
    · exact c0' h
    · exact ⟨fun k hk => (F.f1 (hci ▸ ha) k hk).elim, fun k hk => (F'.f1 (hcj ▸ hb) k hk).elim⟩
    · refine hpos fun k hk hk' => ?_
      obtain ⟨_, ⟨v, hv⟩, _⟩ := F.f13 (by rw [hci]; exact ha) k hk
      obtain ⟨_, hn, _⟩ := F'.f2 (by rw [hcj]; exact hb) k hk'
      rw [hv] at hn
      cases hn
    · refine hpos fun k hk hk' => ?_
      obtain ⟨_, hn, _⟩ := F.f2 (by rw [hci]; exact ha) k hk
      obtain ⟨v, hv⟩ := old (by first | exact hb | (rw [hcj]; exact hb)) k hk'
      rw [hv] at hn
      cases hn
    · refine hpos fun k hk hk' => ?_
      obtain ⟨e1, _⟩ := F.f2 (by rw [hci]; exact ha) k hk
      obtain ⟨e2, _⟩ := F'.f2 (by rw [hcj]; exact hb) k hk'
      exact h2 k e1 e2
    · refine hpos fun k hk hk' => ?_
      obtain ⟨_, ⟨v, hv⟩, _⟩ := F.f13 (by rw [hci]; exact ha) k hk
      exact (F'.f4 (by rw [hcj]; exact hb) k hk').1.1 v hv
    · refine hpos fun k hk hk' => ?_
      obtain ⟨_, v, al, hv⟩ := F.f4 (by rw [hci]; exact ha) k hk
      obtain ⟨⟨u, hu⟩, _⟩ := F'.f13 (by rw [hcj]; exact hb) k hk'
      rw [hv] at hu
      cases hu
    · refine hpos fun k hk hk' => ?_
      obtain ⟨_, _, v, hv⟩ := F.f2 (by rw [hci]; exact ha) k hk
      exact (F'.f4 (by rw [hcj]; exact hb) k hk').1.1 v hv
    · refine hpos fun k hk hk' => ?_
      obtain ⟨_, v, al, hv⟩ := F.f4 (by rw [hci]; exact ha) k hk
      obtain ⟨_, hn, _⟩ := F'.f2 (by rw [hcj]; exact hb) k hk'
      rw [hv] at hn
      cases hn
    · refine hpos fun k hk hk' => ?_
      obtain ⟨_, x, y, l, hv⟩ := F.f5 (by rw [hci]; exact ha) k hk
      rcases hb with hb | hb | hb | hb
      · obtain ⟨⟨v, hn⟩, _⟩ := F'.f13 (.inl (by rw [hcj]; exact hb)) k hk'
        rw [hv] at hn
        cases hn
      · obtain ⟨_, hn, _⟩ := F'.f2 (by rw [hcj]; exact hb) k hk'
        rw [hv] at hn
        cases hn
      · obtain ⟨⟨v, hn⟩, _⟩ := F'.f13 (.inr (by rw [hcj]; exact hb)) k hk'
        rw [hv] at hn
        cases hn
      · exact (F'.f4 (by rw [hcj]; exact hb) k hk').1.2 _ _ _ hv
    · refine hpos fun k hk hk' => ?_
      obtain ⟨⟨x, y, l, hv⟩, _⟩ := F'.f5 (by rw [hcj]; exact hb) k hk'
      rcases ha with ha | ha | ha | ha
      · obtain ⟨_, ⟨v, hn⟩, _⟩ := F.f13 (.inl (by rw [hci]; exact ha)) k hk
        rw [hv] at hn
        cases hn
      · obtain ⟨_, _, v, hn⟩ := F.f2 (by rw [hci]; exact ha) k hk
        rw [hv] at hn
        cases hn
      · obtain ⟨_, ⟨v, hn⟩, _⟩ := F.f13 (.inr (by rw [hci]; exact ha)) k hk
        rw [hv] at hn
        cases hn
      · obtain ⟨_, v, al, hn⟩ := F.f4 (by rw [hci]; exact ha) k hk
        rw [hv] at hn
        cases hn
  obtain ⟨hd1, hd2⟩ := hdis
  obtain ⟨sa, ga, ta, la, wa, na⟩ := F'.again s hA1.symm F.len.symm fun k hk => (F.out k fun h => hd1 k h hk).symm
  obtain ⟨sb, gb, tb, lb, wb, nb⟩ := F.again sa (agree_put h3 ta) (la.trans F.len) fun k hk => na k fun h => hd2 k h hk
  refine ⟨sa, ga, ?_⟩
  rw [gb]
  refine congrArg some (st_ext (put_tmps_comm h2 F.eq F'.eq ta tb) ?_ fun k => ?_)
  · rw [lb, F'.len, F.len]
  · by_cases hk : Wr k
    · rw [wb k hk, F'.out k fun h => hd2 k h (F.sub k hk)]
    · rw [nb k hk]
      by_cases hk' : Wr' k
      · exact wa k hk'
      · rw [na k hk', F'.out k hk', F.out k hk]

/-! Any order. -/

def AnyA (X : Ctx) (md : Region.Mode) (ops : Array Oper) : Nat → Array Bool → St → St → Prop
  | 0, listed, s, s' => Region.ready md ops listed = [] ∧ s = s'
  | fuel + 1, listed, s, s' => (Region.ready md ops listed = [] → s = s') ∧
    ∀ i ∈ Region.ready md ops listed, ∃ o s1, ops[i]? = some o ∧ st1 X ops.toList s o = some s1 ∧ AnyA X md ops fuel (listed.setIfInBounds i true) s1 s'

theorem SameB.step {ops : List Oper} {s0 : St} (hs : SameB ops s0 s) (ho : o ∈ ops) (h : st1 X ops s o = some s1) : SameB ops s0 s1 := fun t ht => by
  obtain ⟨v, R, Wr, F⟩ := foot h
  obtain ⟨tm, obs⟩ := s1
  have e := F.eq
  dsimp only at e
  subst e
  refine (get_put_ne (fun e he het => ?_) obs).trans (hs t ht)
  subst het
  have : elemN (ops.filterMap (·.dst)) e = true := elemN_iff.2 (List.mem_filterMap.2 ⟨o, ho, he⟩)
  rw [ht] at this
  cases this

theorem anyA_first (hX : CtxOK E X) {md : Region.Mode} {ops : Array Oper} {s0 : St} {i : Nat} {oi : Oper} (hi : ops[i]? = some oi) : ∀ (fuel : Nat) (listed : Array Bool) (s s1 s' : St),
    (∀ j oj, ops[j]? = some oj → j ≠ i → listed.getD j true = false → (∀ e ∈ oj.after, Region.binds md e = true → e.on ≠ i) → apartL ops.toList oi oj = true ∧ (compatN (clsO X.tk oi.op) (clsO X.tk oj.op) || farL s0 ops.toList oi.op oj.op) = true) → SameB ops.toList s0 s →
    i ∈ Region.ready md ops listed → Live E V0 io0 W0 s → st1 X ops.toList s oi = some s1 → AnyA X md ops fuel (listed.setIfInBounds i true) s1 s' → AnyA X md ops (fuel + 1) listed s s' := by
  intro fuel
  induction fuel with
  | zero =>
    intro listed s s1 s' _ hsb hr hl hs H
    refine ⟨fun h => (by rw [h] at hr; cases hr), fun j hj => ?_⟩
    by_cases hji : j = i
    · subst hji
      exact ⟨oi, s1, hi, hs, H⟩
    · have := ready_mono hj hji
      rw [H.1] at this
      cases this
  | succ fuel ih =>
    intro listed s s1 s' hfree hsb hr hl hs H
    refine ⟨fun h => (by rw [h] at hr; cases hr), fun j hj => ?_⟩
    by_cases hji : j = i
    · subst hji
      exact ⟨oi, s1, hi, hs, H⟩
    · obtain ⟨oj', s2, hoj', hs2, H2⟩ := H.2 j (ready_mono hj hji)
      obtain ⟨hjun, oj, hoj, hall⟩ := mem_ready.1 hj
      rw [hoj] at hoj'
      have hsame := Option.some.inj hoj'
      subst hsame
      have hnot : ∀ e ∈ oj.after, Region.binds md e = true → e.on ≠ i := fun e he hb heq => by
        have h1 := hall e he hb
        have h0 := (mem_ready.1 hr).1
        rw [heq] at h1
        rcases Nat.lt_or_ge i listed.size with h' | h'
        · simp [h'] at h0 h1; rw [h0] at h1; cases h1
        · simp [Array.getElem?_eq_none h'] at h1
      obtain ⟨hap, hcm⟩ := hfree j oj hoj hji hjun hnot
      obtain ⟨sa, hsa, hsb2⟩ := swap hX hsb hl hap hcm hs hs2
      refine ⟨oj, sa, hoj, hsa, ih _ sa s2 s' (fun k ok hk hki hun hno => ?_) (hsb.step (by have := Array.mem_of_getElem? hoj; simpa using this) hsa) (ready_mono hr (Ne.symm hji)) (live_step hX hsa hl) hsb2 ?_⟩
      · refine hfree k ok hk hki ?_ hno
        by_cases hjk : j = k
        · subst hjk; exact hjun
        · rw [getD_set_ne true hjk] at hun; exact hun
      · rw [Array.setIfInBounds_comm _ _ hji]
        exact H2

theorem freeL_spec {s0 : St} {tk : Bool} {ops : List Oper} {k : Nat} {ok : Oper} : ∀ {r : List Oper}, freeL s0 tk ops k ok r = true → ∀ oj ∈ r, (∀ e ∈ oj.after, Region.binds .any e = true → e.on ≠ k) → apartL ops ok oj = true ∧ (compatN (clsO tk ok.op) (clsO tk oj.op) || farL s0 ops ok.op oj.op) = true
  | [], _, oj, hm, _ => nomatch hm
  | o :: r, h, oj, hm, hno => by
    unfold freeL at h
    rw [Bool.and_eq_true] at h
    rcases List.mem_cons.1 hm with rfl | hm
    · have h1 := h.1
      rw [Bool.or_eq_true] at h1
      rcases h1 with h1 | h1
      · exfalso
        unfold edgeL at h1
        obtain ⟨e, he, hb⟩ := List.any_eq_true.1 h1
        rw [Bool.and_eq_true, decide_eq_true_iff] at hb
        exact hno e (by simpa using he) hb.1 hb.2
      · rw [Bool.and_eq_true] at h1
        exact h1
    · exact freeL_spec h.2 oj hm hno

theorem anyA_lex (hX : CtxOK E X) {ops : Array Oper} {s0 : St} : ∀ (l : List Oper) (k : Nat) (listed : Array Bool) (s s' : St), (∀ j, l[j]? = ops[k + j]?) → listed.size = ops.size → (∀ j, j < ops.size → listed[j]? = some (decide (j < k))) →
    lexC s0 X.tk ops.toList l k = true → SameB ops.toList s0 s → steps X ops.toList l s = some s' → Live E V0 io0 W0 s → AnyA X .any ops l.length listed s s'
  | [], k, listed, s, s', hl, hsz, hli, hB, hsb, h, hv => by
    simp only [steps, Option.some.injEq] at h
    refine ⟨?_, h⟩
    have hk : ops.size ≤ k := by
      have := hl 0
      simp only [List.getElem?_nil] at this
      exact Array.getElem?_eq_none_iff.1 this.symm
    refine List.eq_nil_iff_forall_not_mem.2 fun j hj => ?_
    obtain ⟨h1, o, ho, _⟩ := mem_ready.1 hj
    have hlt := (Array.getElem?_eq_some_iff.1 ho).1
    rw [Array.getD_eq_getD_getElem?, hli j hlt] at h1
    simp at h1
    omega
  | o :: l, k, listed, s, s', hl, hsz, hli, hB, hsb, h, hv => by
    have h0 : ops[k]? = some o := by simpa using (hl 0).symm
    have hlt := (Array.getElem?_eq_some_iff.1 h0).1
    simp only [lexC, Bool.and_eq_true] at hB
    obtain ⟨hall, hf, hB'⟩ := hB
    simp only [steps] at h
    split at h
    · rename_i s1 hs1
      refine anyA_first hX h0 l.length listed s s1 s' (fun j oj hj hjk hun hno => ?_) hsb (mem_ready.2 ⟨?_, o, h0, fun e he hb => ?_⟩) hv hs1 ?_
      · have hjlt := (Array.getElem?_eq_some_iff.1 hj).1
        rw [Array.getD_eq_getD_getElem?, hli j hjlt] at hun
        simp at hun
        have hm : oj ∈ l := by
          have := hl (j - k)
          rw [show k + (j - k) = j by omega, hj] at this
          have hne : j - k ≠ 0 := by omega
          obtain ⟨m, hm⟩ := Nat.exists_eq_succ_of_ne_zero hne
          rw [hm] at this
          exact List.mem_of_getElem? (by simpa using this)
        exact freeL_spec hf oj hm hno
      · rw [Array.getD_eq_getD_getElem?, hli k hlt]
        simp
      · have := List.all_eq_true.1 hall e (by simpa using he)
        rw [hb] at this
        simp at this
        rw [Array.getD_eq_getD_getElem?, hli e.on (by omega)]
        simpa using this
      · refine anyA_lex hX l (k + 1) _ s1 s' (fun j => by have := hl (j + 1); simpa [Nat.add_assoc, Nat.add_comm 1 j] using this) (by simpa using hsz) (fun j hj => ?_) hB' (hsb.step (by have := Array.mem_of_getElem? h0; simpa using this) hs1) h (live_step hX hs1 hv)
        rw [Array.getElem?_setIfInBounds]
        by_cases e : k = j
        · subst e
          rw [if_pos rfl, if_pos (by omega)]
          simp
        · rw [if_neg e, hli j hj]
          congr 1
          exact decide_eq_decide.2 (by omega)
    · cases h

theorem wpAny_of (hX : CtxOK E X) (ro : Option Nat) {D : Nat → Prop} {a0 : Act} {C0 : Cx} {Wa : World} {md : Region.Mode} {ops : Array Oper} {Q : Exit → Act → World → Prop} (hD : ∀ o ∈ ops.toList, ∀ k, o.dst = some k → D k) (hQ : ∀ C' a' W', Sim E V0 io0 W0 C' s' a' W' → Fm E.M D a0 a' C0 C' Wa W' → Q .normal a' W') : ∀ (fuel : Nat) (listed : Array Bool) (s : St) (C : Cx) (a : Act) (W : World),
    AnyA X md ops fuel listed s s' → Sim E V0 io0 W0 C s a W → Fm E.M D a0 a C0 C Wa W → wpAnyIn (Fr ro) 0 E.P md ops Q fuel listed a W
  | 0, listed, s, C, a, W, h, S, hF => ⟨h.1, hQ _ _ _ (h.2 ▸ S) hF⟩
  | fuel + 1, listed, s, C, a, W, h, S, hF => ⟨fun h0 => hQ _ _ _ (h.1 h0 ▸ S) hF, fun i hi => by
    obtain ⟨o, s1, ho, hs, H⟩ := h.2 i hi
    exact wpOp_of_step (st1_ok hX hs) S ho ro fun C' a' W' S' hf => wpAny_of hX ro hD hQ fuel _ s1 C' a' W' H S' (hF.trans (hf.mono (hD o (by have := Array.mem_of_getElem? ho; simpa using this))))⟩

theorem region_any (hX : CtxOK E X) (ro : Option Nat) {D : Nat → Prop} {a0 : Act} {C0 : Cx} {Wa : World} {ops : Array Oper} {id : Nat} {Q : Exit → Act → World → Prop} (hB : lexC s X.tk ops.toList ops.toList 0 = true) (h : steps X ops.toList ops.toList s = some s') (S : Sim E V0 io0 W0 C s a W)
    (hD : ∀ o ∈ ops.toList, ∀ k, o.dst = some k → D k) (hF : Fm E.M D a0 a C0 C Wa W) (hn : ∀ C' a' W', Sim E V0 io0 W0 C' s' a' W' → Fm E.M D a0 a' C0 C' Wa W' → Q .normal a' W') : (Code.region id ops true).wpIn (Fr ro) 0 E.P Q a W := by
  refine wpIn_region_any hX.M ?_
  have S' := (S.keep (Keep.drew C.io W) (IoOK.drew S.iok)).2
  have hF' : Fm E.M D a0 a C0 C Wa W.drew := hF.trans ⟨rfl, fun _ _ => rfl, fun _ _ _ h => h, fun _ v _ h => ⟨v, h, rfl⟩, ⟨(Keep.drew C.io W).of_noM, fun _ _ h => .inl h, fun k v b lo hi h1 h2 h3 => .inl ⟨k, v, lo, hi, h1, h2, h3⟩, fun _ _ _ h => .inl h⟩⟩
  have hA : AnyA X .any ops ops.toList.length (Array.replicate ops.size false) s s' := anyA_lex hX ops.toList 0 _ s s' (by simp) (by simp) (fun j hj => by simp [hj]) hB (fun _ _ => rfl) h ⟨C, a, W, S⟩
  have := wpAny_of hX ro hD hn _ _ _ _ _ _ hA S' hF'
  simpa using this

end Ev
end Go.Proofs.YtidnikjkpbmhhaaDoor
/- What is forgotten at a round's end; blocks that hold no data. -/
set_option linter.unusedVariables false
set_option linter.unusedSimpArgs false
namespace Go.Proofs.YtidnikjkpbmhhaaDoor
namespace Ev

variable {E : Env} {V0 : Nat → Nat → Prop} {io0 : Io} {W0 : World} {C : Cx} {s s' s1 s2 : St} {a : Act} {W : World} {X : Ctx} {o : Oper}

/-! Forgetting at a round's end. -/

mutual
theorem sw_size (w : List Nat) (obs : List Ob) : ∀ v : AV, (swAV w obs v).size = v.size
  | .poison => rfl
  | .undef => rfl
  | .int _ => rfl
  | .bool _ => rfl
  | .agg l => by simp only [swAV, AV.size]; exact swL_size w obs l
  | .arr .. => rfl
  | .sl t f l => by
    simp only [swAV]
    repeat' split
    all_goals rfl
  | .tup _ => rfl
  | .ref k p => by
    simp only [swAV]
    cases memN w k <;> rfl
  | .cref .. => rfl
  | .fn .. => rfl
  | .map k => by
    simp only [swAV]
    cases memN w k <;> rfl
  | .tok .. => rfl
theorem swL_size (w : List Nat) (obs : List Ob) : ∀ l : List AV, sizeL (swL w obs l) = sizeL l
  | [] => rfl
  | v :: l => by simp only [swL, sizeL, sw_size w obs v, swL_size w obs l]
end

theorem sw_isAg (w : List Nat) (obs : List Ob) : ∀ v : AV, isAg (swAV w obs v) = isAg v := fun v => by
  cases v <;> simp only [swAV] <;> first
    | rfl
    | (repeat' split
       all_goals rfl)
    | (rename_i k _; cases memN w k <;> rfl)
    | (rename_i k; cases memN w k <;> rfl)

/-- The context behind. -/
def swCx (w : List Nat) (C : Cx) : Cx := ⟨C.V, fun k => bif memN w k then none else C.box k, fun k => (C.lv k).map fun x => (0, x.2), C.tl, C.io⟩

mutual
theorem sw_rel {TR : TokRel} (w : List Nat) (obs : List Ob) (hln : ∀ (k v : Nat) (al : Bool), C.lv k = some (v, al) ↔ obs[k]? = some (.lin v al)) : ∀ {v : AV} {cs : List Value}, Rel TR C W v cs → Rel TR (swCx w C) W (swAV w obs v) cs
  | .poison, cs, h => by simpa only [swAV, Rel] using h
  | .undef, cs, h => by simpa only [swAV, Rel] using h
  | .int _, cs, h => by simpa only [swAV, Rel] using h
  | .bool _, cs, h => by simpa only [swAV, Rel] using h
  | .agg l, cs, h => by
    simp only [swAV, Rel] at h ⊢
    exact swL_rel w obs hln h
  | .arr .., cs, h => by
    simp only [swAV, Rel] at h ⊢
    exact h
  | .sl t f l, cs, h => by
    simp only [Rel] at h
    obtain ⟨A, c, h1, h2, h3, h4, h5, h6⟩ := h
    simp only [swAV]
    cases ho : f.ow with
    | none =>
      simp only [Rel]
      exact ⟨A, c, h1, h2, h3, h4, h5, fun k v hk => by rw [ho] at hk; cases hk⟩
    | some kv =>
      obtain ⟨k, v⟩ := kv
      dsimp only
      split
      · rename_i cv hcv
        simp only [Rel]
        refine ⟨A, c, h1, h2, h3, h4, h5, fun k' v' hk => ?_⟩
        split at hk
        · rename_i hv
          simp only [Option.some.injEq, Prod.mk.injEq] at hk
          obtain ⟨rfl, rfl⟩ := hk
          obtain ⟨cu, al, g1, g2, g3⟩ := h6 k v ho
          have hcv' : obs[k]? = some (.lin cv true) := by
            cases hq : obs[k]? with
            | none => simp [List.getD, hq] at hcv
            | some q => simp [List.getD, hq] at hcv; rw [hcv]
          have g4 := (hln k cv true).2 hcv'
          rw [g4] at g1
          cases g1
          refine ⟨0, true, by simp [swCx, g4], Nat.le_refl _, fun _ _ => ?_⟩
          exact g3 rfl hv
        · cases hk
      · simp only [Rel]
        exact ⟨A, c, h1, h2, h3, h4, h5, fun k v hk => by cases hk⟩
  | .tup l, cs, h => by
    simp only [swAV, Rel] at h ⊢
    obtain ⟨vs, e, h⟩ := h
    exact ⟨vs, e, swV_rel w obs hln h⟩
  | .ref k p, cs, h => by
    simp only [swAV]
    cases hm : memN w k with
    | true =>
      simp only [Rel, cond_true] at h ⊢
      obtain ⟨b, _, _, e⟩ := h
      exact ⟨_, e⟩
    | false =>
      simp only [Rel, cond_false] at h ⊢
      obtain ⟨b, h1, h2, e⟩ := h
      exact ⟨b, by simp [swCx, hm, h1], h2, e⟩
  | .cref v p, cs, h => by
    simp only [swAV, Rel] at h ⊢
    obtain ⟨ad, ds, h1, h2, h3⟩ := h
    exact ⟨ad, ds, sw_rel w obs hln h1, h2, h3⟩
  | .fn f x y, cs, h => by
    simp only [swAV, Rel] at h ⊢
    obtain ⟨xs, ys, e, h1, h2⟩ := h
    exact ⟨xs, ys, e, swV_rel w obs hln h1, swV_rel w obs hln h2⟩
  | .map _, cs, h => by simp only [Rel] at h
  | .tok .., cs, h => by
    simp only [swAV, Rel] at h ⊢
    exact h
theorem swL_rel {TR : TokRel} (w : List Nat) (obs : List Ob) (hln : ∀ (k v : Nat) (al : Bool), C.lv k = some (v, al) ↔ obs[k]? = some (.lin v al)) : ∀ {l : List AV} {cs : List Value}, RelL TR C W l cs → RelL TR (swCx w C) W (swL w obs l) cs
  | [], cs, h => by simpa only [swL, RelL] using h
  | v :: l, cs, h => by
    simp only [swL, RelL] at h ⊢
    obtain ⟨c, d, e, hl, h1, h2⟩ := h
    exact ⟨c, d, e, by rw [sw_size, hl], sw_rel w obs hln h1, swL_rel w obs hln h2⟩
theorem swV_rel {TR : TokRel} (w : List Nat) (obs : List Ob) (hln : ∀ (k v : Nat) (al : Bool), C.lv k = some (v, al) ↔ obs[k]? = some (.lin v al)) : ∀ {l : List AV} {vs : List Value}, RelV TR C W l vs → RelV TR (swCx w C) W (swL w obs l) vs
  | [], cs, h => by simpa only [swL, RelV] using h
  | v :: l, cs, h => by
    simp only [swL, RelV] at h ⊢
    obtain ⟨x, r, e, h1, h2⟩ := h
    refine ⟨x, r, e, ?_, swV_rel w obs hln h2⟩
    rcases h1 with h1 | ⟨cs, g0, g1, g2⟩
    · subst h1
      exact .inl rfl
    · exact .inr ⟨cs, by rw [sw_size, g0], sw_rel w obs hln g1, by rw [g2]; simp only [mkV, sw_isAg]⟩
end

theorem sw_vr {TR : TokRel} (w : List Nat) (obs : List Ob) (hln : ∀ (k v : Nat) (al : Bool), C.lv k = some (v, al) ↔ obs[k]? = some (.lin v al)) {v : AV} {x : Value} (h : VR TR C W v x) : VR TR (swCx w C) W (swAV w obs v) x := by
  rcases h with h1 | ⟨cs, g0, g1, g2⟩
  · subst h1
    exact .inl rfl
  · exact .inr ⟨cs, by rw [sw_size, g0], sw_rel w obs hln g1, by rw [g2]; simp only [mkV, sw_isAg]⟩

theorem swTs_get (w : List Nat) (obs : List Ob) : ∀ (l : List AV) (i k : Nat), (swTs w obs i l)[k]? = (l[k]?).map fun v => bif memN w (i + k) then .poison else swAV w obs v
  | [], i, k => by simp [swTs]
  | v :: l, i, 0 => by simp [swTs]
  | v :: l, i, k + 1 => by
    simp only [swTs, List.getElem?_cons_succ, swTs_get w obs l (i + 1) k]
    rw [show i + 1 + k = i + (k + 1) by omega]
theorem swObs_get (w : List Nat) (obs : List Ob) : ∀ (l : List Ob) (i k : Nat), (swObs w obs i l)[k]? = (l[k]?).map fun v => swOb w obs (i + k) v
  | [], i, k => by simp [swObs]
  | v :: l, i, 0 => by simp [swObs]
  | v :: l, i, k + 1 => by
    simp only [swObs, List.getElem?_cons_succ, swObs_get w obs l (i + 1) k]
    rw [show i + 1 + k = i + (k + 1) by omega]
theorem swTs_len (w : List Nat) (obs : List Ob) : ∀ (l : List AV) (i : Nat), (swTs w obs i l).length = l.length
  | [], _ => rfl
  | v :: l, i => by simp [swTs, swTs_len w obs l (i + 1)]

theorem swObs_len (w : List Nat) (obs : List Ob) : ∀ (l : List Ob) (i : Nat), (swObs w obs i l).length = l.length
  | [], _ => rfl
  | v :: l, i => by simp [swObs, swObs_len w obs l (i + 1)]

theorem Sim.mask1 (S : Sim E V0 io0 W0 C s a W) (w : List Nat) : Sim E V0 io0 W0 (swCx w C) (s.mask1 w) a W := by
  have hob : ∀ k, (s.mask1 w).objs[k]? = (s.objs[k]?).map (swOb w s.objs k) := fun k => by
    show (swObs w s.objs 0 s.objs)[k]? = _
    rw [swObs_get, Nat.zero_add]
  have hbx : ∀ k v, (s.mask1 w).objs[k]? = some (.box v) → memN w k = false ∧ ∃ u, s.objs[k]? = some (.box u) ∧ v = swAV w s.objs u := fun k v h => by
    rw [hob] at h
    cases hk : s.objs[k]? with
    | none => rw [hk] at h; cases h
    | some q =>
      rw [hk] at h
      simp only [Option.map_some, Option.some.injEq] at h
      cases q with
      | box u =>
        simp only [swOb] at h
        cases hm : memN w k with
        | true => rw [hm] at h; cases h
        | false =>
          rw [hm] at h
          simp only [cond_false] at h
          cases h
          exact ⟨rfl, u, rfl, rfl⟩
      | map x y z => simp only [swOb] at h; cases h
      | none => simp only [swOb] at h; cases h
      | lin x y => simp only [swOb] at h; cases h
  have hln : ∀ (k v : Nat) (al : Bool), (s.mask1 w).objs[k]? = some (Ob.lin v al) ↔ v = 0 ∧ ∃ cv : Nat, s.objs[k]? = some (Ob.lin cv al) := fun k v al => by
    rw [hob]
    cases hk : s.objs[k]? with
    | none => simp
    | some q =>
      cases q with
      | lin x y =>
        simp only [Option.map_some, swOb, Option.some.injEq, Ob.lin.injEq]
        exact ⟨fun ⟨h1, h2⟩ => ⟨h1.symm, x, rfl, h2⟩, fun ⟨h1, cv, h2, h3⟩ => ⟨h1.symm, h3⟩⟩
      | box u =>
        simp only [Option.map_some, swOb, Option.some.injEq]
        cases memN w k <;> simp
      | map x y z =>
        simp only [Option.map_some, swOb, Option.some.injEq]
        cases memN w k <;> simp
      | none => simp [swOb]
  refine ⟨?_, ?_, S.df, ?_, ?_, ?_, ?_, ?_, ?_, ?_, S.Vn, S.V0V, S.iok, S.gl, S.kp, S.old0, S.n0, S.hM, fun k x y tr hl h => ?_⟩
  rotate_right
  · have hl' : k + 1 = s.objs.length := hl.trans (swObs_len w s.objs s.objs 0)
    rw [hob] at h
    cases hk : s.objs[k]? with
    | none => rw [hk] at h; cases h
    | some q =>
      rw [hk] at h
      simp only [Option.map_some, Option.some.injEq] at h
      cases q with
      | map x' y' z' =>
        simp only [swOb, Ob.map.injEq] at h
        obtain ⟨_, _, rfl⟩ := h
        exact S.gh k _ _ _ hl' hk
      | box u =>
        simp only [swOb] at h
        cases hm : memN w k <;> rw [hm] at h <;> cases h
      | none => cases h
      | lin _ _ => cases h
  · rw [S.len]
    exact (swTs_len w s.objs s.tmps 0).symm
  · intro t x hx
    have : (swTs w s.objs 0 s.tmps)[t]? = some x := hx
    rw [swTs_get, Nat.zero_add] at this
    cases ht : s.tmps[t]? with
    | none => rw [ht] at this; cases this
    | some v =>
      rw [ht] at this
      simp only [Option.map_some, Option.some.injEq] at this
      obtain ⟨y, hy, hr⟩ := S.tm t v ht
      refine ⟨y, hy, ?_⟩
      cases hm : memN w t with
      | true =>
        rw [hm] at this
        subst this
        exact .inl rfl
      | false =>
        rw [hm] at this
        subst this
        exact sw_vr w s.objs S.ln hr
  · intro k v hv
    obtain ⟨hm, u, hu, rfl⟩ := hbx k v hv
    obtain ⟨b, cs, ty, h1, h2, h3, h4, h5⟩ := S.bx k u hu
    exact ⟨b, cs, ty, by simp [swCx, hm, h1], h2, by rw [sw_size, h3], sw_rel w s.objs S.ln h4, h5⟩
  · intro k b hb
    simp only [swCx] at hb
    cases hm : memN w k with
    | true => rw [hm] at hb; cases hb
    | false =>
      rw [hm] at hb
      obtain ⟨v, hv⟩ := S.bxn k b hb
      exact ⟨swAV w s.objs v, by rw [hob, hv]; simp [swOb, hm]⟩
  · intro k k' b h h'
    simp only [swCx] at h h'
    cases hm : memN w k with
    | true => rw [hm] at h; cases h
    | false =>
      cases hm' : memN w k' with
      | true => rw [hm'] at h'; cases h'
      | false =>
        rw [hm] at h
        rw [hm'] at h'
        exact S.inj k k' b h h'
  · intro k b o' h
    simp only [swCx] at h
    cases hm : memN w k with
    | true => rw [hm] at h; cases h
    | false =>
      rw [hm] at h
      exact S.bxV k b o' h
  · intro k v al
    rw [hln]
    simp only [swCx]
    constructor
    · intro h
      cases hk : C.lv k with
      | none => rw [hk] at h; cases h
      | some x =>
        obtain ⟨cu, al'⟩ := x
        rw [hk] at h
        simp only [Option.map_some, Option.some.injEq, Prod.mk.injEq] at h
        obtain ⟨rfl, rfl⟩ := h
        exact ⟨rfl, cu, (S.ln k cu al').1 hk⟩
    · rintro ⟨rfl, cv, h⟩
      rw [(S.ln k cv al).2 h]
      rfl
  · intro k v b lo hi o' h1 h2 h3 h4
    simp only [swCx] at h1 h2
    cases hk : C.lv k with
    | none => rw [hk] at h1; cases h1
    | some x =>
      obtain ⟨cu, al'⟩ := x
      rw [hk] at h1
      simp only [Option.map_some, Option.some.injEq, Prod.mk.injEq] at h1
      obtain ⟨rfl, rfl⟩ := h1
      obtain ⟨g1, g2, g3, g4⟩ := S.tl k cu b lo hi o' hk h2 h3 h4
      refine ⟨g1, g2, fun k' h => ?_, g4⟩
      simp only [swCx] at h
      cases hm : memN w k' with
      | true => rw [hm] at h; cases h
      | false =>
        rw [hm] at h
        exact g3 k' h
  · intro k k' v v' b lo hi lo' hi' o' h1 h2 h3 h4 h5
    simp only [swCx] at h1 h2 h4 h5
    cases hk : C.lv k with
    | none => rw [hk] at h1; cases h1
    | some x =>
      cases hk' : C.lv k' with
      | none => rw [hk'] at h2; cases h2
      | some x' =>
        obtain ⟨cu, al⟩ := x
        obtain ⟨cu', al'⟩ := x'
        rw [hk] at h1
        rw [hk'] at h2
        simp only [Option.map_some, Option.some.injEq, Prod.mk.injEq] at h1 h2
        obtain ⟨_, rfl⟩ := h1
        obtain ⟨_, rfl⟩ := h2
        exact S.tld k k' cu cu' b lo hi lo' hi' o' hk hk' h3 h4 h5

mutual
theorem wk_size : ∀ v : AV, (wkAV v).size = v.size
  | .poison => rfl
  | .undef => rfl
  | .int _ => rfl
  | .bool _ => rfl
  | .agg l => by simp only [wkAV, AV.size]; exact wkL_size l
  | .arr .. => rfl
  | .sl .. => rfl
  | .tup _ => rfl
  | .ref .. => rfl
  | .cref .. => rfl
  | .fn .. => rfl
  | .map _ => rfl
  | .tok .. => rfl
theorem wkL_size : ∀ l : List AV, sizeL (wkL l) = sizeL l
  | [] => rfl
  | v :: l => by simp only [wkL, sizeL, wk_size v, wkL_size l]
end

theorem wk_isAg : ∀ v : AV, isAg (wkAV v) = isAg v := fun v => by cases v <;> rfl

mutual
theorem wk_rel {TR : TokRel} {C : Cx} {W : World} : ∀ {v : AV} {cs : List Value}, Rel TR C W v cs → Rel TR C W (wkAV v) cs
  | .poison, cs, h => h
  | .undef, cs, h => h
  | .int _, cs, h => h
  | .bool _, cs, h => h
  | .agg l, cs, h => by
    simp only [wkAV, Rel] at h ⊢
    exact wkL_rel h
  | .arr .., cs, h => h
  | .sl t f l, cs, h => by
    simp only [wkAV, Rel] at h ⊢
    obtain ⟨A, c, h1, h2, h3, h4, h5, _⟩ := h
    exact ⟨A, c, h1, h2, h3, (fun h => by cases h), (fun h => by cases h), by simp⟩
  | .tup l, cs, h => by
    simp only [wkAV, Rel] at h ⊢
    obtain ⟨vs, e, h⟩ := h
    exact ⟨vs, e, wkV_rel h⟩
  | .ref .., cs, h => h
  | .cref v p, cs, h => by
    simp only [wkAV, Rel] at h ⊢
    obtain ⟨ad, ds, h1, h2, h3⟩ := h
    exact ⟨ad, ds, wk_rel h1, h2, h3⟩
  | .fn f x y, cs, h => by
    simp only [wkAV, Rel] at h ⊢
    obtain ⟨xs, ys, e, h1, h2⟩ := h
    exact ⟨xs, ys, e, wkV_rel h1, wkV_rel h2⟩
  | .map _, cs, h => h
  | .tok .., cs, h => h
theorem wkL_rel {TR : TokRel} {C : Cx} {W : World} : ∀ {l : List AV} {cs : List Value}, RelL TR C W l cs → RelL TR C W (wkL l) cs
  | [], cs, h => h
  | v :: l, cs, h => by
    simp only [wkL, RelL] at h ⊢
    obtain ⟨c, d, e, hl, h1, h2⟩ := h
    exact ⟨c, d, e, by rw [wk_size, hl], wk_rel h1, wkL_rel h2⟩
theorem wkV_rel {TR : TokRel} {C : Cx} {W : World} : ∀ {l : List AV} {vs : List Value}, RelV TR C W l vs → RelV TR C W (wkL l) vs
  | [], cs, h => h
  | v :: l, cs, h => by
    simp only [wkL, RelV] at h ⊢
    obtain ⟨x, r, e, h1, h2⟩ := h
    refine ⟨x, r, e, ?_, wkV_rel h2⟩
    rcases h1 with h1 | ⟨ds, g1, g2, g3⟩
    · subst h1
      exact .inl rfl
    · exact .inr ⟨ds, by rw [wk_size, g1], wk_rel g2, by rw [g3]; simp [mkV, wk_isAg]⟩
end

theorem vr_wk {TR : TokRel} {C : Cx} {W : World} {v : AV} {x : Value} (h : VR TR C W v x) : VR TR C W (wkAV v) x := by
  rcases h with h1 | ⟨cs, g0, g1, g2⟩
  · subst h1
    exact .inl rfl
  · exact .inr ⟨cs, by rw [wk_size, g0], wk_rel g1, by rw [g2]; simp only [mkV, wk_isAg]⟩

theorem softTs_get (u : List Nat) : ∀ (l : List AV) (i k : Nat), (softTs u i l)[k]? = (l[k]?).map fun v => bif memN u (i + k) then wkAV v else v
  | [], i, k => by simp [softTs]
  | v :: l, i, 0 => by simp [softTs]
  | v :: l, i, k + 1 => by
    simp only [softTs, List.getElem?_cons_succ, softTs_get u l (i + 1) k]
    rw [show i + 1 + k = i + (k + 1) by omega]
theorem softTs_len (u : List Nat) : ∀ (l : List AV) (i : Nat), (softTs u i l).length = l.length
  | [], _ => rfl
  | v :: l, i => by simp [softTs, softTs_len u l (i + 1)]

theorem Sim.soft (S : Sim E V0 io0 W0 C s a W) (u : List Nat) : Sim E V0 io0 W0 C (s.soft u) a W := by
  refine { S with len := ?_, tm := ?_, bx := S.bx, bxn := S.bxn, ln := S.ln, gh := S.gh }
  · rw [S.len]
    exact (softTs_len u s.tmps 0).symm
  · intro t x hx
    have : (softTs u 0 s.tmps)[t]? = some x := hx
    rw [softTs_get] at this
    cases ht : s.tmps[t]? with
    | none => rw [ht] at this; cases this
    | some v =>
      rw [ht] at this
      simp only [Option.map_some, Option.some.injEq] at this
      obtain ⟨y, hy, hr⟩ := S.tm t v ht
      refine ⟨y, hy, ?_⟩
      subst this
      cases memN u (0 + t)
      · exact hr
      · exact vr_wk hr

theorem Sim.mask (S : Sim E V0 io0 W0 C s a W) (w : List Nat × List Nat) : Sim E V0 io0 W0 (swCx w.1 C) (s.mask w) a W := (S.soft w.2).mask1 w.1

/-! Control flow. -/

def toExit : Ex → Exit
  | .norm => .normal
  | .exit j => .exit j
  | .ret => .ret

/-- What stands behind is sound. -/
def KOK {ρ : Type} (D : Nat → Prop) (a0 : Act) (C0 : Cx) (Wa : World) (E : Env) (V0 : Nat → Nat → Prop) (io0 : Io) (W0 : World) (K : Ex → St → Option ρ) (r : ρ) (Q : Exit → Act → World → Prop) : Prop :=
  ∀ e s, K e s = some r → ∀ C a W, Sim E V0 io0 W0 C s a W → Fm E.M D a0 a C0 C Wa W → Q (toExit e) a W

/-- A piece of code is walked soundly. -/
def BOK {ρ : Type} (ro : Option Nat) (D : Nat → Prop) (a0 : Act) (C0 : Cx) (Wa : World) (E : Env) (V0 : Nat → Nat → Prop) (io0 : Io) (W0 : World) (c : Code) (B : St → (Ex → St → Option ρ) → Option ρ) : Prop :=
  ∀ (K : Ex → St → Option ρ) (r : ρ) (Q : Exit → Act → World → Prop), KOK D a0 C0 Wa E V0 io0 W0 K r Q → ∀ s C a W, B s K = some r → Sim E V0 io0 W0 C s a W → Fm E.M D a0 a C0 C Wa W → c.wpIn (Fr ro) 0 E.P Q a W

theorem stepR_scope {P : Program} {b : Frame} {a : Act} {k : List Item} {cs : List Frame} {w : World} {c : Code} : step P (lone (b.atR a (.code (.scope c) :: k)) cs w) = .next (lone (b.atR a (.code c :: .inScope c :: k)) cs w) :=
  step_lone_go (by simp [stepG, stepG.exec, Frame.atR])
theorem stepR_inScope {P : Program} {b : Frame} {a : Act} {k : List Item} {cs : List Frame} {w : World} {c : Code} : step P (lone (b.atR a (.inScope c :: k)) cs w) = .next (lone (b.atR a k) cs w) :=
  step_lone_go (by simp [stepG, stepG.exec, Frame.atR])

theorem wpIn_scope {F : Fence} {n : Nat} {P : Program} {Q : Exit → Act → World → Prop} {a : Act} {w : World} {c : Code} (h : c.wpIn F n P (Exit.noGoto Q) a w) : (Code.scope c).wpIn F n P Q a w := by
  intro b k cs hro hb hr
  have h0 : (lone (b.atR a (.code (.scope c) :: k)) cs w).fenced P F := fenced_calm hb hr rfl
  obtain ⟨e, a₁, w₁, hq, harr⟩ := h b (.inScope c :: k) cs hro hb hr
  cases e with
  | normal => exact ⟨.normal, a₁, w₁, hq, .head h0 stepR_scope (StepsIn.trans harr (.one (fenced_calm hb hr rfl) stepR_inScope))⟩
  | exit id =>
    exact ⟨.exit id, a₁, w₁, hq, fun k' hk => .head h0 stepR_scope (harr.1 k' (by simp [exitTo, hk])),
      fun hr' hk => let ⟨k₁, h1, h2⟩ := harr.2 hr' (by simp [exitTo, hk]); ⟨k₁, h1, .head h0 stepR_scope h2⟩⟩
  | goto l => exact hq.elim
  | ret => exact ⟨_, a₁, w₁, hq, .of_steps (.one h0 stepR_scope) harr⟩
  | panic ch => exact ⟨_, a₁, w₁, hq, .of_steps (.one h0 stepR_scope) harr⟩
  | outgrown => exact ⟨_, a₁, w₁, hq, .of_steps (.one h0 stepR_scope) harr⟩

theorem swCx_lv {w : List Nat} {C : Cx} {k v : Nat} (hv : (swCx w C).lv k = some (v, true)) : ∃ cu, C.lv k = some (cu, true) := by
  simp only [swCx] at hv
  cases hq : C.lv k with
  | none => rw [hq] at hv; cases hv
  | some x =>
    obtain ⟨cu, al⟩ := x
    rw [hq] at hv
    simp only [Option.map_some, Option.some.injEq, Prod.mk.injEq] at hv
    obtain ⟨_, rfl⟩ := hv
    exact ⟨cu, rfl⟩
theorem swCx_box {w : List Nat} {C : Cx} {k b : Nat} (hb : (swCx w C).box k = some b) : memN w k = false ∧ C.box k = some b := by
  simp only [swCx] at hb
  cases hm : memN w k with
  | true => rw [hm] at hb; cases hb
  | false => rw [hm] at hb; exact ⟨rfl, hb⟩

theorem Fm.mask {M D : Nat → Prop} {a0 a : Act} {C0 C : Cx} {Wa W : World} (h : Fm M D a0 a C0 C Wa W) (w : List Nat) : Fm M D a0 a C0 (swCx w C) Wa W :=
  ⟨h.sz, h.tm, fun k b hk hb => h.bx k b hk (swCx_box hb).2, fun k v hk hv => by
    obtain ⟨cu, hq⟩ := swCx_lv hv
    exact h.lv k cu hk hq, h.kx.kp, fun k b hb => h.kx.bx k b (swCx_box hb).2, fun k v b lo hi h1 h2 h3 => by
    obtain ⟨cu, hq⟩ := swCx_lv h1
    exact h.kx.tl k cu b lo hi hq h2 h3, h.kx.vo⟩

/-- A block of ours that holds no data turns. -/
theorem Sim.turn (S : Sim E V0 io0 W0 C s a W) {r : Nat} {o o' : Obj} (hr : W.heap[r]? = some o) (hc : ∀ cs ty fr, o ≠ .cells cs ty fr) (hm : ∀ es ck, o ≠ .map es ck) (h0 : W0.heap.size ≤ r) {a' : Act} (ht : a'.tmps = a.tmps) (hd : DfOK W0 (W.putObj r o') a'.defers) :
    Sim E V0 io0 W0 C s a' (W.putObj r o') := by
  have hoth : ∀ (b : Nat) (x : Obj), W.heap[b]? = some x → x ≠ o → (W.putObj r o').heap[b]? = some x := fun b x hb hx => by
    have : b ≠ r := fun e => by subst e; rw [hr] at hb; cases hb; exact hx rfl
    rw [World.putObj_heap_other this]
    exact hb
  have hcell : ∀ (ad : Addr) (v : Value), W.cell? ad = some v → (W.putObj r o').cell? ad = some v := fun ad v h => by
    obtain ⟨cs, ty, fr, h1, _⟩ := cells_of_cell h
    exact (cell_of_block ((hoth _ _ h1 fun e => hc _ _ _ e.symm).trans h1.symm)).trans h
  have hst : Stab C.V C.V W (W.putObj r o') := ⟨fun ad v h _ => hcell ad v h, fun _ _ _ h => h⟩
  have hle : CxLe C C W (W.putObj r o') := ⟨hst, fun _ _ h => h, fun k cu al h => ⟨cu, al, h, Nat.le_refl _, fun h _ => ⟨h, rfl⟩⟩, fun _ _ => rfl, by simp⟩
  have hiok : IoOK E.MI C.io (W.putObj r o') := fun b t d h => by
    obtain ⟨es, ck, h1, h2⟩ := S.iok b t d h
    exact ⟨es, ck, hoth _ _ h1 (fun e => hm _ _ e.symm), h2⟩
  have hold : ∀ b, b < W0.heap.size → (W.putObj r o').heap[b]? = W.heap[b]? := fun b hb => World.putObj_heap_other (by omega)
  refine { S with len := by rw [ht]; exact S.len, tm := ?_, df := hd, bx := ?_, tl := ?_, Vn := ?_, iok := hiok, gl := ?_, kp := ?_, gh := ?_ }
  · intro t x hx
    obtain ⟨v, h1, h2⟩ := S.tm t x hx
    exact ⟨v, by rw [ht]; exact h1, h2.mono E.hT hle⟩
  · intro k v hv
    obtain ⟨b, cs, ty, h1, h2, h3, h4, h5⟩ := S.bx k v hv
    exact ⟨b, cs, ty, h1, hoth _ _ h2 (fun e => hc _ _ _ e.symm), h3, Rel.mono E.hT hle h4, h5⟩
  · intro k v b lo hi o h1 h2 h3 h4
    obtain ⟨g1, g2, g3, cs, ty, g4, g5⟩ := S.tl k v b lo hi o h1 h2 h3 h4
    exact ⟨g1, g2, g3, cs, ty, hoth _ _ g4 (fun e => hc _ _ _ e.symm), g5⟩
  · intro b o h
    exact (S.Vn b o h).imp id fun h => ⟨h.1, by simpa using h.2⟩
  · intro g v h
    have := S.gl g v h
    exact Rel.mono E.hT (C := baseCx C.V C.io) (C' := baseCx C.V C.io) ⟨hst, (fun _ _ h => by cases h), (fun _ _ _ h => by cases h), fun _ _ => rfl, by simp⟩ this
  · exact ⟨S.kp.os, S.kp.tape, S.kp.output, by simpa using S.kp.size, fun b hb hi hm => (hold b hb).trans (S.kp.block b hb hi hm), S.kp.io⟩
  · intro k x y tr hl h
    refine E.hJ _ _ _ _ _ _ _ (S.gh k x y tr hl h) ⟨rfl, rfl, rfl, by simp, fun b hb _ => hold b (Nat.lt_of_lt_of_le hb S.n0), hst, fun _ _ => rfl, fun _ _ _ h => h, fun b o h => by simpa using S.base.old b o h⟩ hiok

end Ev
end Go.Proofs.YtidnikjkpbmhhaaDoor
/- A range over a function: the rounds of the evaluator are the rounds of the machine. -/
set_option linter.unusedVariables false
set_option linter.unusedSimpArgs false
namespace Go.Proofs.YtidnikjkpbmhhaaDoor
namespace Ev

variable {E : Env} {V0 : Nat → Nat → Prop} {io0 : Io} {W0 : World} {C : Cx} {s s' s1 s2 : St} {a : Act} {W : World} {X : Ctx} {o : Oper}

/-! What is told is what it was. -/

mutual
theorem enc_inj : ∀ (t : Ty) (x y : t.den), enc t x = enc t y → x = y
  | .int, x, y, h => by simpa [enc] using h
  | .bool, x, y, h => by simpa [enc] using h
  | .last a, x, y, h => by
    simp only [enc, AV.agg.injEq, List.cons.injEq, and_true] at h
    exact enc_inj a x y h
  | .cons a b, x, y, h => by
    simp only [enc, AV.agg.injEq, List.cons.injEq] at h
    exact Prod.ext (enc_inj a _ _ h.1) (encT_inj b _ _ h.2)
  | .slice t, x, y, h => by simpa [enc] using h
  | .arr n t, x, y, h => by simpa [enc] using h
theorem encT_inj : ∀ (t : Ty) (x y : t.den), encT t x = encT t y → x = y
  | .int, x, y, h => by simpa [encT] using h
  | .bool, x, y, h => by simpa [encT] using h
  | .last a, x, y, h => by
    simp only [encT, List.cons.injEq, and_true] at h
    exact enc_inj a x y h
  | .cons a b, x, y, h => by
    simp only [encT, List.cons.injEq] at h
    exact Prod.ext (enc_inj a _ _ h.1) (encT_inj b _ _ h.2)
  | .slice t, x, y, h => by simpa [encT] using h
  | .arr n t, x, y, h => by simpa [encT] using h
end

theorem map_enc_inj (t : Ty) : ∀ {l m : List t.den}, l.map (enc t) = m.map (enc t) → l = m
  | [], [], _ => rfl
  | [], _ :: _, h => by simp at h
  | _ :: _, [], h => by simp at h
  | x :: l, y :: m, h => by
    simp only [List.map_cons, List.cons.injEq] at h
    rw [enc_inj t x y h.1, map_enc_inj t h.2]

/-! Steps of the world that are none of an operation's. -/

/-- Slices grow no more where they stand. -/
def quietCx (C : Cx) : Cx := { C with lv := fun k => (C.lv k).map fun x => (x.1, false) }

theorem quiet_lv {C : Cx} {k v : Nat} : (quietCx C).lv k ≠ some (v, true) := fun h => by
  simp only [quietCx] at h
  cases hq : C.lv k with
  | none => rw [hq] at h; cases h
  | some x => rw [hq] at h; cases h

theorem quiet_le (C : Cx) (W : World) : CxLe C (quietCx C) W W :=
  ⟨⟨fun _ _ h _ => h, fun _ _ _ h => h⟩, fun _ _ h => h, fun k cu al h => ⟨cu, false, by simp [quietCx, h], Nat.le_refl _, fun h => nomatch h⟩, fun _ _ => rfl, Nat.le_refl _⟩

theorem Sim.quiet (S : Sim E V0 io0 W0 C s a W) : Sim E V0 io0 W0 (quietCx C) s.quiet a W := by
  have hob : ∀ k : Nat, s.quiet.objs[k]? = (s.objs[k]?).map quietOb := fun k => by
    show (s.objs.map quietOb)[k]? = _
    rw [List.getElem?_map]
  have hbx : ∀ (k : Nat) (v : AV), s.quiet.objs[k]? = some (.box v) ↔ s.objs[k]? = some (.box v) := fun k v => by
    rw [hob]
    cases s.objs[k]? with
    | none => simp
    | some q => cases q <;> simp [quietOb]
  refine { S with tm := ?_, bx := ?_, bxn := ?_, ln := ?_, tl := ?_, tld := ?_, gh := ?_ }
  · intro t x hx
    obtain ⟨v, h1, h2⟩ := S.tm t x hx
    exact ⟨v, h1, h2.mono E.hT (quiet_le C W)⟩
  · intro k v hv
    obtain ⟨b, cs, ty, h1, h2, h3, h4, h5⟩ := S.bx k v ((hbx k v).1 hv)
    exact ⟨b, cs, ty, h1, h2, h3, Rel.mono E.hT (quiet_le C W) h4, h5⟩
  · intro k b h
    obtain ⟨v, hv⟩ := S.bxn k b h
    exact ⟨v, (hbx k v).2 hv⟩
  · intro k v al
    rw [hob]
    simp only [quietCx]
    constructor
    · intro h
      cases hq : C.lv k with
      | none => rw [hq] at h; cases h
      | some x =>
        obtain ⟨cu, al'⟩ := x
        rw [hq] at h
        simp only [Option.map_some, Option.some.injEq, Prod.mk.injEq] at h
        obtain ⟨rfl, rfl⟩ := h
        rw [(S.ln k cu al').1 hq]
        rfl
    · intro h
      cases hq : s.objs[k]? with
      | none => rw [hq] at h; cases h
      | some q =>
        rw [hq] at h
        cases q with
        | lin v' al' =>
          simp only [Option.map_some, quietOb, Option.some.injEq, Ob.lin.injEq] at h
          obtain ⟨rfl, rfl⟩ := h
          rw [(S.ln k v' al').2 hq]
          rfl
        | _ => simp [quietOb] at h
  · intro k v b lo hi o h
    exact absurd h quiet_lv
  · intro k k' v v' b lo hi lo' hi' o h
    exact absurd h quiet_lv
  · intro k x y tr hl h
    rw [hob] at h
    have hl' : k + 1 = s.objs.length := by
      have : s.quiet.objs.length = s.objs.length := by simp [St.quiet]
      omega
    cases hq : s.objs[k]? with
    | none => rw [hq] at h; cases h
    | some q =>
      rw [hq] at h
      cases q with
      | map x' y' tr' =>
        cases h
        exact S.gh k x y tr hl' hq
      | _ => simp [quietOb] at h

/-- A block more, of any kind; its cells may turn, if vol says so. -/
theorem Sim.note (S : Sim E V0 io0 W0 C s a W) (ob : Obj) (vol : Prop) : Sim E V0 io0 W0 { C with V := fun b o' => C.V b o' ∨ (vol ∧ b = W.heap.size) } s a (W.alloc ob) := by
  have hst : Stab C.V (fun b o' => C.V b o' ∨ (vol ∧ b = W.heap.size)) W (W.alloc ob) := ⟨fun x u hx hv => by
    obtain ⟨c1, t1, f1, g1, _⟩ := cells_of_cell hx
    exact (cell_of_block ((heap_alloc_old' W _ g1).trans g1.symm)).trans hx, fun b o hb h => by
      rcases h with h | h
      · exact h
      · omega⟩
  have hle : CxLe C { C with V := fun b o' => C.V b o' ∨ (vol ∧ b = W.heap.size) } W (W.alloc ob) :=
    ⟨hst, fun _ _ h => h, fun k cu al h => ⟨cu, al, h, Nat.le_refl _, fun h _ => ⟨h, rfl⟩⟩, fun _ _ => rfl, by simp⟩
  have hVn : ∀ b o, (C.V b o ∨ (vol ∧ b = W.heap.size)) → V0 b o ∨ (W0.heap.size ≤ b ∧ b < (W.alloc ob).heap.size) := fun b o h => by
    rcases h with h | ⟨_, rfl⟩
    · exact (S.Vn b o h).imp id fun h => ⟨h.1, Nat.lt_trans h.2 (by simp)⟩
    · exact .inr ⟨S.kp.size, by simp⟩
  refine { S with tm := ?_, df := S.dfs (Wst.alloc 0 W ob), bx := ?_, bxV := ?_, tl := ?_, Vn := hVn, V0V := fun b o h => .inl (S.V0V b o h), iok := S.iok.alloc ob, gl := ?_, kp := S.kp.step (Wst.alloc _ _ _), gh := fun k x y tr hl h => S.ghs (Wst.alloc _ _ _) hst hVn (fun b o h => .inl (S.V0V b o h)) (S.iok.alloc ob) (S.gh k x y tr hl h) }
  · intro t x hx
    obtain ⟨v, h1, h2⟩ := S.tm t x hx
    exact ⟨v, h1, h2.mono E.hT hle⟩
  · intro k v hv
    obtain ⟨b, cs, ty, h1, h2, h3, h4, h5⟩ := S.bx k v hv
    exact ⟨b, cs, ty, h1, heap_alloc_old' W _ h2, h3, Rel.mono E.hT hle h4, h5⟩
  · intro k b o h
    exact .inl (S.bxV k b o h)
  · intro k v b lo hi o h1 h2 h3 h4
    obtain ⟨g1, g2, g3, cs, ty, g4, g5⟩ := S.tl k v b lo hi o h1 h2 h3 h4
    exact ⟨.inl g1, g2, g3, cs, ty, heap_alloc_old' W _ g4, g5⟩
  · intro g u h
    exact Rel.mono E.hT (C := baseCx C.V C.io) (C' := baseCx _ C.io) ⟨hst, (fun _ _ h => by cases h), (fun _ _ _ h => by cases h), fun _ _ => rfl, by simp⟩ (S.gl g u h)

/-- Another activation, whose slots hold the same where they are known. -/
theorem Sim.reAct (S : Sim E V0 io0 W0 C s a W) {a' : Act} (hl : a'.tmps.size = s.tmps.length) (ht : ∀ (k : Nat) (x : AV), s.tmps[k]? = some x → x = .poison ∨ a'.tmps[k]? = a.tmps[k]?) (hd : DfOK W0 W a'.defers) : Sim E V0 io0 W0 C s a' W := by
  refine { S with len := hl, tm := ?_, df := hd }
  intro t x hx
  rcases ht t x hx with h | h
  · subst h
    have : t < a'.tmps.size := by rw [hl]; exact (List.getElem?_eq_some_iff.1 hx).1
    exact ⟨a'.tmps[t], by simp [this], .inl rfl⟩
  · obtain ⟨v, h1, h2⟩ := S.tm t x hx
    exact ⟨v, h.trans h1, h2⟩

/-- Fewer cells may turn. -/
theorem Sim.shrink (S : Sim E V0 io0 W0 C s a W) {V : Nat → Nat → Prop} (hV : ∀ b o, V b o → C.V b o) (h0 : ∀ b o, V0 b o → V b o) (hb : ∀ k b o, C.box k = some b → V b o) (hq : ∀ k v, C.lv k ≠ some (v, true)) : Sim E V0 io0 W0 { C with V := V } s a W := by
  have hst : Stab C.V V W W := ⟨fun _ _ h _ => h, fun b o _ h => hV b o h⟩
  have hle : CxLe C { C with V := V } W W := ⟨hst, fun _ _ h => h, fun k cu al h => ⟨cu, al, h, Nat.le_refl _, fun h _ => ⟨h, rfl⟩⟩, fun _ _ => rfl, Nat.le_refl _⟩
  refine { S with tm := ?_, bx := ?_, bxV := hb, tl := ?_, Vn := fun b o h => S.Vn b o (hV b o h), V0V := h0, gl := ?_, gh := fun k x y tr hl h => S.ghs (Wst.refl _ _) hst (fun b o h => S.Vn b o (hV b o h)) h0 S.iok (S.gh k x y tr hl h) }
  · intro t x hx
    obtain ⟨v, h1, h2⟩ := S.tm t x hx
    exact ⟨v, h1, h2.mono E.hT hle⟩
  · intro k v hv
    obtain ⟨b, cs, ty, h1, h2, h3, h4, h5⟩ := S.bx k v hv
    exact ⟨b, cs, ty, h1, h2, h3, Rel.mono E.hT hle h4, h5⟩
  · intro k v b lo hi o h
    exact absurd h (hq k v)
  · intro g u h
    exact Rel.mono E.hT (C := baseCx C.V C.io) (C' := baseCx V C.io) ⟨hst, (fun _ _ h => by cases h), (fun _ _ _ h => by cases h), fun _ _ => rfl, Nat.le_refl _⟩ (S.gl g u h)

theorem Ab.less {n m : Nat} {V V' : Nat → Nat → Prop} {io io' : Io} {W W' : World} (h : Ab n V V' io io' W W') (hm : m ≤ n) : Ab m V V' io io' W W' :=
  ⟨h.os, h.tape, h.output, h.size, fun b hb hi => h.old b (Nat.lt_of_lt_of_le hb hm) hi, h.st, h.io, fun b o hb => h.more b o (Nat.lt_of_lt_of_le hb hm), h.lt⟩

/-- Others step; blocks below n stand, and all of ours are below n. -/
theorem Sim.abide (S : Sim E V0 io0 W0 C s a W) {n : Nat} {V' : Nat → Nat → Prop} {io' : Io} {W' : World} (hA : Ab n C.V V' C.io io' W W') (hio : IoOK E.MI io' W') (hn : W0.heap.size ≤ n) (hb : ∀ k b, C.box k = some b → b < n) (hq : ∀ k v, C.lv k ≠ some (v, true))
    (hd : DfOK W0 W' a.defers) : Sim E V0 io0 W0 { C with V := V', io := io' } s a W' := by
  have hle : CxLe C { C with V := V', io := io' } W W' := ⟨hA.st, fun _ _ h => h, fun k cu al h => ⟨cu, al, h, Nat.le_refl _, fun h _ => ⟨h, rfl⟩⟩, hA.io, hA.size⟩
  have hV0 : ∀ b o, V0 b o → V' b o := fun b o h => hA.more b o (Nat.lt_of_lt_of_le (S.old0 b o h) hn) (S.V0V b o h)
  have hVn : ∀ b o, V' b o → V0 b o ∨ (W0.heap.size ≤ b ∧ b < W'.heap.size) := fun b o h => by
    rcases Nat.lt_or_ge b W.heap.size with hlt | hge
    · exact (S.Vn b o (hA.st.vol b o hlt h)).imp id fun h' => ⟨h'.1, hA.lt b o h⟩
    · exact .inr ⟨Nat.le_trans S.kp.size hge, hA.lt b o h⟩
  refine { S with tm := ?_, df := hd, bx := ?_, bxV := ?_, tl := ?_, Vn := hVn, V0V := hV0, iok := hio, gl := ?_, kp := ?_, gh := ?_ }
  · intro t x hx
    obtain ⟨v, h1, h2⟩ := S.tm t x hx
    exact ⟨v, h1, h2.mono E.hT hle⟩
  · intro k v hv
    obtain ⟨b, cs, ty, h1, h2, h3, h4, h5⟩ := S.bx k v hv
    exact ⟨b, cs, ty, h1, (hA.old b (hb k b h1) (Cell.io_none S.iok h2 (fun _ _ h => nomatch h))).trans h2, h3, Rel.mono E.hT hle h4, h5⟩
  · intro k b o h
    exact hA.more b o (hb k b h) (S.bxV k b o h)
  · intro k v b lo hi o h
    exact absurd h (hq k v)
  · intro g u h
    exact Rel.mono E.hT (C := baseCx C.V C.io) (C' := baseCx V' io') ⟨hA.st, (fun _ _ h => by cases h), (fun _ _ _ h => by cases h), hA.io, hA.size⟩ (S.gl g u h)
  · exact ⟨hA.os.trans S.kp.os, hA.tape.trans S.kp.tape, hA.output.trans S.kp.output, Nat.le_trans S.kp.size hA.size,
      fun b hb' hi hm => (hA.old b (Nat.lt_of_lt_of_le hb' hn) ((S.kp.io b hb').trans hi)).trans (S.kp.block b hb' hi hm), fun b hb' => (hA.io b (Nat.lt_of_lt_of_le hb' S.kp.size)).trans (S.kp.io b hb')⟩
  · intro k x y tr hl h
    exact E.hJ _ _ _ _ _ _ _ (S.gh k x y tr hl h) (hA.less (Nat.le_trans S.n0 hn)) hio

/-! The rounds. -/

def jumpOf : Ex → Option Code
  | .norm => none
  | .exit j => some (.exit j)
  | .ret => some .ret
def stOf : Ex → LoopState
  | .norm => .ready
  | _ => .done

/-- Between rounds: what has been told, and how the loop's own activation stands. -/
structure RJ {ρ : Type} (E : Env) (V0 : Nat → Nat → Prop) (io0 : Io) (W0 : World) (t : Ty) (xs : List t.den) (B : t.den → St → (Ex → St → Option ρ) → Option ρ) (w : List Nat × List Nat) (K : Ex → St → Option ρ) (r : ρ) (b : Bool)
    (M' : Nat → Prop) (C1 : Cx) (l : Nat) (lp : Loop) (rs : List Nat) (tr : List AV) (V : Nat → Nat → Prop) (io : Io) (W : World) (pre : List t.den) (sp : St) (C' : Cx) (e : Ex) : Prop where
  htr : tr = pre.map (enc t)
  hV : C'.V = V
  hio : C'.io = io
  S : Sim E V0 io0 W0 C' sp ⟨lp.tmps, []⟩ W
  bx : ∀ k b, C'.box k = some b → C1.box k = some b
  lv : ∀ k v, C'.lv k ≠ some (v, true)
  hlp : W.heap[l]? = some (.loop { lp with state := stOf e, pending := jumpOf e })
  hrs : ∀ r ∈ rs, W.heap[r]? = some (.deferred (some []))
  vl : ∀ o, V l o
  go : e = .norm → ∃ rest, xs = pre ++ rest ∧ (b = true → rangeT B w rest sp K = some r) ∧ (b = false → pre = [] ∧ rangeF B w rest sp K = some r)
  st : e ≠ .norm → b = false ∧ K e sp = some r ∧ ∃ d rest, xs = d :: rest ∧ pre = [d]

section
variable {ρ : Type} {t : Ty} {xs : List t.den} {B : t.den → St → (Ex → St → Option ρ) → Option ρ} {w : List Nat × List Nat} {K : Ex → St → Option ρ} {r : ρ} {b : Bool} {M' : Nat → Prop} {C1 : Cx} {l : Nat} {lp : Loop} {rs : List Nat}
  {tr : List AV} {V V' : Nat → Nat → Prop} {io io' : Io} {W' : World} {pre : List t.den} {sp : St} {C' : Cx} {e : Ex}

theorem RJ.abide (R : RJ E V0 io0 W0 t xs B w K r b M' C1 l lp rs tr V io W pre sp C' e) {n : Nat} (hA : Ab n V V' io io' W W') (hio : IoOK E.MI io' W') (hn : W0.heap.size ≤ n) (hl : l < n) (hrs : ∀ r ∈ rs, r < n) (hb : ∀ k b, C1.box k = some b → b < n) :
    RJ E V0 io0 W0 t xs B w K r b M' C1 l lp rs tr V' io' W' pre sp { C' with V := V', io := io' } e := by
  obtain ⟨h1, rfl, rfl, h4, h5, h6, h7, h8, h9, h10, h11⟩ := R
  refine ⟨h1, rfl, rfl, h4.abide hA hio hn (fun k b h => hb k b (h5 k b h)) h6 (DfOK.nil _ _), h5, h6, ?_, fun r hr => ?_, fun o => hA.more l o hl (h9 o), h10, h11⟩
  · exact (hA.old l hl (Cell.io_none h4.iok h7 (fun _ _ h => nomatch h))).trans h7
  · exact (hA.old r (hrs r hr) (Cell.io_none h4.iok (h8 r hr) (fun _ _ h => nomatch h))).trans (h8 r hr)

theorem allMem_spec : ∀ {l w : List Nat}, allMem l w = true → ∀ k ∈ l, memN w k = true
  | [], w, _, k, h => nomatch h
  | x :: l, w, h, k, hk => by
    simp only [allMem, Bool.and_eq_true] at h
    rcases List.mem_cons.1 hk with rfl | hk
    · exact h.1
    · exact allMem_spec h.2 k hk

/-- A round is over. -/
theorem round_end (R : RJ E V0 io0 W0 t xs B w K r b M' C1 l lp rs tr V io W pre sp C' .norm) (hM' : ∀ x, M' x ↔ x = l ∨ E.M x ∨ ∃ k, C1.box k = some x) (hrs : ∀ r ∈ rs, ¬ M' r) (hl0 : W0.heap.size ≤ l) {D : Nat → Prop} (hD : ∀ k, D k → memN w.1 k = true)
    {a1 a3 : Act} {s3 : St} {c1 c3 : Cx} {w1 w3 : World} (F1 : Fm E.M D ⟨lp.tmps, []⟩ a1 C' c1 W w1) {lb : Loop} (F2 : Fm E.M D a1 a3 c1 c3 (w1.putObj l (.loop lb)) w3) (S3 : Sim E V0 io0 W0 c3 s3 a3 w3) {lb' : Loop} (h3 : w3.heap[l]? = some (.loop lb')) (lb'' : Loop) (h1 : l < w1.heap.size) :
    let C4 : Cx := { swCx w.1 (quietCx c3) with V := V }
    let W4 := w3.putObj l (.loop lb'')
    Sim E V0 io0 W0 C4 (s3.quiet.mask w) ⟨lp.tmps, []⟩ W4 ∧ (∀ k b, C4.box k = some b → C1.box k = some b) ∧ (∀ k v, C4.lv k ≠ some (v, true)) ∧ Keep M' io C4.io W W4 ∧ ∀ r ∈ rs, W4.heap[r]? = some (.deferred (some [])) := by
  intro C4 W4
  obtain ⟨_, rfl, rfl, h4, h5, h6, h7, h8, h9, h10, h11⟩ := R
  have hmine : ∀ x, mine E.M C' x → M' x := fun x h => by
    rw [hM']
    rcases h with h | ⟨k, h⟩ | ⟨k, v, lo, hi, h, _⟩
    · exact .inr (.inl h)
    · exact .inr (.inr ⟨k, h5 k x h⟩)
    · exact absurd h (h6 k v)
  have hnD : ∀ k, memN w.1 k = false → ¬ D k := fun k h hk => by rw [hD k hk] at h; cases h
  have hbx : ∀ k b, C4.box k = some b → C'.box k = some b := fun k b h => by
    obtain ⟨g1, g2⟩ := swCx_box (C := quietCx c3) h
    exact F1.bx k b (hnD k g1) (F2.bx k b (hnD k g1) g2)
  have hlv : ∀ k v, C4.lv k ≠ some (v, true) := fun k v h => by
    obtain ⟨cu, h⟩ := swCx_lv (w := w.1) (C := quietCx c3) h
    exact quiet_lv h
  have hdf : DfOK W0 W4 a3.defers := S3.df.imp fun r _ h => (World.putObj_heap_other (fun e => by subst e; rw [h3] at h; cases h)).trans h
  have S4 := ((S3.turn h3 (fun _ _ _ h => nomatch h) (fun _ _ h => nomatch h) hl0 rfl hdf : Sim E V0 io0 W0 c3 s3 a3 W4).quiet).mask w
  have hsz : a3.tmps.size = lp.tmps.size := F2.sz.trans F1.sz
  have S5 : Sim E V0 io0 W0 (swCx w.1 (quietCx c3)) (s3.quiet.mask w) ⟨lp.tmps, []⟩ W4 := S4.reAct (by rw [← S4.len]; exact hsz.symm) (fun k x hx => by
    cases hm : memN w.1 k with
    | true =>
      have : (swTs w.1 (s3.quiet.soft w.2).objs 0 (s3.quiet.soft w.2).tmps)[k]? = some x := hx
      rw [swTs_get, Nat.zero_add, hm] at this
      cases hq : (s3.quiet.soft w.2).tmps[k]? with
      | none => rw [hq] at this; cases this
      | some q => rw [hq] at this; cases this; exact .inl rfl
    | false => exact .inr ((F2.tm k (hnD k hm)).trans (F1.tm k (hnD k hm))).symm) (DfOK.nil _ _)
  have hsz1 : (w1.putObj l (.loop lb)).heap.size = w1.heap.size := by simp
  have hV : ∀ b o, C'.V b o → c3.V b o := fun b o h => by
    have hb := h4.base.old b o h
    rcases F1.kx.vo b o hb h with g | ⟨k0, v0, _, _, g, _⟩
    · rcases F2.kx.vo b o (by rw [hsz1]; exact Nat.lt_of_lt_of_le hb F1.kx.kp.size) g with g | ⟨k0, v0, lo0, hi0, g1, g2, g3⟩
      · exact g
      · rcases F1.kx.tl k0 v0 b lo0 hi0 g1 g2 g3 with ⟨k, v, _, _, g, _⟩ | g
        · exact absurd g (h6 k v)
        · omega
    · exact absurd g (h6 k0 v0)
  have S6 : Sim E V0 io0 W0 C4 (s3.quiet.mask w) ⟨lp.tmps, []⟩ W4 := S5.shrink hV h4.V0V (fun k b o h => h4.bxV k b o (hbx k b h)) hlv
  have hK : Keep M' C'.io C4.io W W4 := by
    have k1 := F1.kx.kp
    have k2 := F2.kx.kp
    refine ⟨k2.os.trans k1.os, k2.tape.trans k1.tape, k2.output.trans k1.output, ?_, fun x hx hi hm => ?_, fun x hx => ?_⟩
    · have := k1.size
      have := k2.size
      simp only [W4, World.putObj_size] at *
      omega
    · have hxl : x ≠ l := fun e => hm ((hM' x).2 (.inl e))
      have e1 := k1.block x hx hi (fun h => hm (hmine x h))
      have e2 := k2.block x (by rw [hsz1]; exact Nat.lt_of_lt_of_le hx k1.size) ((k1.io x hx).trans hi) (fun h => hm (hmine x (F1.kx.mine x hx h)))
      rw [World.putObj_heap_other hxl] at e2
      exact (World.putObj_heap_other hxl).trans (e2.trans e1)
    · exact (k2.io x (by rw [hsz1]; exact Nat.lt_of_lt_of_le hx k1.size)).trans (k1.io x hx)
  refine ⟨S6, fun k b h => h5 k b (hbx k b h), hlv, hK, fun r hr => ?_⟩
  have := h8 r hr
  exact (hK.block r (Array.getElem?_eq_some_iff.1 this).1 (Cell.io_none h4.iok this (fun _ _ h => nomatch h)) (hrs r hr)).trans this

/-- The world of others, as a loop leaves it to the function that it ranges over. -/
def rngEnv (E : Env) (V0 : Nat → Nat → Prop) (io0 : Io) (W0 : World) (t : Ty) (xs : List t.den) (B : t.den → St → (Ex → St → Option ρ) → Option ρ) (w : List Nat × List Nat) (K : Ex → St → Option ρ) (r : ρ) (b : Bool) (M' : Nat → Prop) (C1 : Cx) (l : Nat) (lp : Loop) (rs : List Nat) (n : Nat)
    (hn : W0.heap.size ≤ n) (hl : l < n) (hrs : ∀ r ∈ rs, r < n) (hb : ∀ k b, C1.box k = some b → b < n) : Env :=
  { E.toBase with
    M := M', n0 := n, J := fun tr V io W => ∃ pre sp C' e, RJ E V0 io0 W0 t xs B w K r b M' C1 l lp rs tr V io W pre sp C' e
    hJ := fun tr V V' io io' W W' ⟨pre, sp, C', e, R⟩ hA hio => ⟨pre, sp, _, e, R.abide hA hio hn hl hrs hb⟩ }

theorem yctr_ok {N : Nat} {p : Nat} {assign body : Code} {n : Nat} {hn : W0.heap.size ≤ n} {hl : l < n} {hrsn : ∀ r ∈ rs, r < n} {hbn : ∀ k b, C1.box k = some b → b < n}
    (hA : ∀ {D : Nat → Prop} {a0 : Act} {C0 : Cx} {Wa : World}, (∀ k ∈ dsts assign, D k) → BOK (ρ := ρ) (some l) D a0 C0 Wa E V0 io0 W0 assign (evC X N assign))
    (hB : ∀ {D : Nat → Prop} {a0 : Act} {C0 : Cx} {Wa : World}, (∀ k ∈ dsts body, D k) → BOK (ρ := ρ) (some l) D a0 C0 Wa E V0 io0 W0 body (evC X N body))
    (hBd : B = fun x s K => evC X N assign (s.put (some p) (enc t x)) (asgK (evC X N body) K)) (h1 : lp.params = #[p]) (h2 : lp.assign = assign) (h3 : lp.body = body)
    (hmem : ∀ k ∈ p :: (dsts assign ++ dsts body), memN w.1 k = true) (hM' : ∀ x, M' x ↔ x = l ∨ E.M x ∨ ∃ k, C1.box k = some x) (hrs : ∀ r ∈ rs, ¬ M' r) (hl0 : W0.heap.size ≤ l) :
    YCtr (rngEnv E V0 io0 W0 t xs B w K r b M' C1 l lp rs n hn hl hrsn hbn) b t xs (.func (.yield l) #[] #[]) := by
  intro pre d rest hxs hbp V io W vs hb0 hnW hMV hJ hvs
  obtain ⟨pre', sp, C', e, R⟩ := hJ
  have hpp := map_enc_inj t R.htr
  subst hpp
  have he : e = .norm := by
    by_cases he : e = .norm
    · exact he
    · obtain ⟨hbf, _, d', rest', _, hp⟩ := R.st he
      rw [hbp hbf] at hp
      cases hp
  subst he
  obtain ⟨rest', hr1, hr2, hr3⟩ := R.go rfl
  have hrr : rest' = d :: rest := List.append_cancel_left (hr1.symm.trans hxs)
  subst hrr
  simp only [RelV] at hvs
  obtain ⟨v, vs', rfl, hv, hvs'⟩ := hvs
  subst hvs'
  have hVR : VR E.TR C' W (enc t d) v := by
    have : VR E.TR (baseCx V io) W (enc t d) v := hv
    exact this.mono E.hT (CxLe.ofBase C' R.hV R.hio)
  have hlp := R.hlp
  refine .inr ⟨l, rfl, _, _, _, _, run_yield hlp (by simp [h1]), ?_⟩
  have htm : (Array.zip lp.params #[v]).foldl (fun (tmps : Array Value) (x : Nat × Value) => tmps.setIfInBounds x.1 x.2) lp.tmps = lp.tmps.setIfInBounds p v := by rw [h1]; simp
  have hD1 : ∀ k, k ∈ p :: (dsts assign ++ dsts body) → memN w.1 k = true := hmem
  refine roundIn_of_wpIn (F := Fence.wide) trivial ?_
  show lp.assign.wpIn (Fr (some l)) 0 E.P _ { tmps := (Array.zip lp.params #[v]).foldl (fun (tmps : Array Value) (x : Nat × Value) => tmps.setIfInBounds x.1 x.2) lp.tmps, defers := [] } W
  rw [htm, h2]
  have Sp : Sim E V0 io0 W0 C' (sp.put (some p) (enc t d)) ⟨lp.tmps.setIfInBounds p v, []⟩ W := R.S.put (some p) hVR
  have F0 : Fm E.M (fun k => k ∈ p :: (dsts assign ++ dsts body)) ⟨lp.tmps, []⟩ ⟨lp.tmps.setIfInBounds p v, []⟩ C' C' W W := by
    have := fmA_put (some p) ⟨lp.tmps, []⟩ v
    exact ⟨this.1, fun k hk => this.2.1 k fun e => hk (by cases e; exact List.mem_cons_self ..), fun _ _ _ h => h, fun _ v _ h => ⟨v, h, rfl⟩, Kx.refl _ _ _⟩
  -- what is left to say of the rest, by the way in which the body is left
  obtain ⟨Kr, hev, hKr⟩ : ∃ Kr : Ex → St → Option ρ, evC X N assign (sp.put (some p) (enc t d)) (asgK (evC X N body) Kr) = some r ∧
      ∀ e s3, Kr e s3 = some r → b = (jumpOf e).isNone ∧ (e = .norm → ∃ rest1, xs = (pre ++ [d]) ++ rest1 ∧ (b = true → rangeT B w rest1 (s3.quiet.mask w) K = some r) ∧ (b = false → pre ++ [d] = [] ∧ rangeF B w rest1 (s3.quiet.mask w) K = some r)) ∧
        (e ≠ .norm → b = false ∧ K e (s3.quiet.mask w) = some r ∧ ∃ d1 rest1, xs = d1 :: rest1 ∧ pre ++ [d] = [d1]) := by
    cases hbb : b with
    | true =>
      have h := hr2 hbb
      rw [hBd] at h
      refine ⟨_, h, fun e s3 he => ?_⟩
      cases e with
      | norm => exact ⟨rfl, fun _ => ⟨rest, by rw [hxs]; simp, fun _ => by rw [hBd]; exact he, fun h => nomatch h⟩, fun h => absurd rfl h⟩
      | exit j => cases he
      | ret => cases he
    | false =>
      obtain ⟨hp, h⟩ := hr3 hbb
      subst hp
      rw [hBd] at h
      refine ⟨_, h, fun e s3 he => ?_⟩
      cases e with
      | norm => cases he
      | exit j => exact ⟨rfl, fun h => (by cases h), fun _ => ⟨rfl, he, d, rest, hxs, rfl⟩⟩
      | ret => exact ⟨rfl, fun h => (by cases h), fun _ => ⟨rfl, he, d, rest, hxs, rfl⟩⟩
  refine hA (D := fun k => k ∈ p :: (dsts assign ++ dsts body)) (a0 := ⟨lp.tmps, []⟩) (C0 := C') (Wa := W) (fun k hk => List.mem_cons_of_mem _ (List.mem_append_left _ hk)) _ r _ ?_ _ C' _ W hev Sp F0
  intro e s1 he c1 a1 w1 S1 F1
  cases e with
  | exit j => cases he
  | ret => cases he
  | norm =>
    have hlW : l < W.heap.size := (Array.getElem?_eq_some_iff.1 hlp).1
    have hnl : ∀ {c : Cx} {s : St} {a : Act} {w' : World} {x : Obj}, Sim E V0 io0 W0 c s a w' → (∀ k v, c.lv k ≠ some (v, true)) → w'.heap[l]? = some x → (∀ cs ty fr, x ≠ .cells cs ty fr) → ¬ mine E.M c l := fun S hlv hx hc h => by
      rcases h with h | ⟨k, h⟩ | ⟨k, v, _, _, h, _⟩
      · have := (S.hM l h).1
        have := S.n0
        omega
      · obtain ⟨u, hu⟩ := S.bxn k l h
        obtain ⟨b1, cs, ty, g1, g2, _⟩ := S.bx k u hu
        rw [h] at g1
        cases g1
        rw [hx] at g2
        cases g2
        exact hc _ _ _ rfl
      · exact hlv k v h
    have hl1 : w1.heap[l]? = some (.loop { lp with state := .ready, pending := none }) :=
      (F1.kx.kp.block l hlW (Cell.io_none R.S.iok hlp (fun _ _ h => nomatch h)) (hnl R.S R.lv hlp (fun _ _ _ h => nomatch h))).trans hlp
    refine ⟨_, run_beginRound hl1 rfl, ?_⟩
    refine Eq.mpr (congrArg (fun c : Code => c.wpIn (Fr (some l)) 0 E.P _ a1 _) h3) ?_
    have hdf1 : DfOK W0 (w1.putObj l (.loop { lp with state := .busy, pending := none })) a1.defers := S1.df.imp fun r _ h => (World.putObj_heap_other (fun e => by subst e; rw [hl1] at h; cases h)).trans h
    have S1' := S1.turn hl1 (o' := .loop { lp with state := .busy, pending := none }) (fun _ _ _ h => nomatch h) (fun _ _ h => nomatch h) hl0 rfl hdf1
    have hlw1 : l < w1.heap.size := (Array.getElem?_eq_some_iff.1 hl1).1
    refine hB (D := fun k => k ∈ p :: (dsts assign ++ dsts body)) (a0 := a1) (C0 := c1) (Wa := w1.putObj l (.loop { lp with state := .busy, pending := none })) (fun k hk => List.mem_cons_of_mem _ (List.mem_append_right _ hk)) Kr r _ ?_ _ c1 a1 _ he S1' (Fm.refl _ _ _ _ _)
    intro e s3 he3 c3 a3 w3 S3 F2
    obtain ⟨k1, k2, k3⟩ := hKr e s3 he3
    have hl2 : (w1.putObj l (.loop { lp with state := .busy, pending := none })).heap[l]? = some (.loop { lp with state := .busy, pending := none }) := World.putObj_heap_same hlw1
    have hnl2 : ¬ mine E.M c1 l := fun h => by
      rcases h with h | ⟨k, h⟩ | ⟨k, v, lo, hi, h, h', h''⟩
      · have := (S1.hM l h).1
        have := S1.n0
        omega
      · obtain ⟨u, hu⟩ := S1.bxn k l h
        obtain ⟨b1, cs, ty, g1, g2, _⟩ := S1.bx k u hu
        rw [h] at g1
        cases g1
        rw [hl1] at g2
        cases g2
      · obtain ⟨_, _, _, cs, ty, g4, _⟩ := S1.tl k v l lo hi lo h h' (Nat.le_refl _) h''
        rw [hl1] at g4
        cases g4
    have hl3 : w3.heap[l]? = some (.loop { lp with state := .busy, pending := none }) :=
      (F2.kx.kp.block l (by simpa using hlw1) (Cell.io_none S1'.iok hl2 (fun _ _ h => nomatch h)) hnl2).trans hl2
    obtain ⟨q1, q2, q3, q4, q5⟩ := round_end R hM' hrs hl0 hD1 F1 F2 S3 hl3 { lp with state := stOf e, pending := jumpOf e } hlw1
    have hl4 : (w3.putObj l (.loop { lp with state := stOf e, pending := jumpOf e })).heap[l]? = some (.loop { lp with state := stOf e, pending := jumpOf e }) := World.putObj_heap_same (Array.getElem?_eq_some_iff.1 hl3).1
    have fin : ∃ r', Ending.returned (Value.bool (jumpOf e).isNone) = .returned r' ∧ ∃ io', r' = .bool b ∧ Keep M' io io' W (w3.putObj l (.loop { lp with state := stOf e, pending := jumpOf e })) ∧ IoOK E.MI io' (w3.putObj l (.loop { lp with state := stOf e, pending := jumpOf e })) ∧
        ∃ pre1 sp1 C1' e1, RJ E V0 io0 W0 t xs B w K r b M' C1 l lp rs ((pre ++ [d]).map (enc t)) V io' (w3.putObj l (.loop { lp with state := stOf e, pending := jumpOf e })) pre1 sp1 C1' e1 :=
      ⟨_, rfl, _, by rw [k1], q4, q1.iok, pre ++ [d], _, _, e, ⟨rfl, rfl, rfl, q1, q2, q3, hl4, q5, R.vl, k2, k3⟩⟩
    cases e with
    | norm => exact ⟨_, _, run_endRound none hl3, fin⟩
    | exit j => exact ⟨_, _, run_endRound (some (.exit j)) hl3, fin⟩
    | ret => exact ⟨_, _, run_endRound (some .ret) hl3, fin⟩


theorem range_ok (hX : CtxOK E X) {N : Nat} {g : Operand} {ps : Array Tmp} {assign body : Code} {D : Nat → Prop} {a0 : Act} {C0 : Cx} {Wa : World}
    (hA : noRange assign = true → ∀ (l : Nat) {D : Nat → Prop} {a0 : Act} {C0 : Cx} {Wa : World}, (∀ k ∈ dsts assign, D k) → BOK (ρ := ρ) (some l) D a0 C0 Wa E V0 io0 W0 assign (evC X N assign))
    (hB : noRange body = true → ∀ (l : Nat) {D : Nat → Prop} {a0 : Act} {C0 : Cx} {Wa : World}, (∀ k ∈ dsts body, D k) → BOK (ρ := ρ) (some l) D a0 C0 Wa E V0 io0 W0 body (evC X N body))
    {K : Ex → St → Option ρ} {r : ρ} {Q : Exit → Act → World → Prop} (hK : KOK D a0 C0 Wa E V0 io0 W0 K r Q) (h : evC X N (.rangeFunc g ps assign body) s K = some r) (S : Sim E V0 io0 W0 C s a W) (hF : Fm E.M D a0 a C0 C Wa W) :
    (Code.rangeFunc g ps assign body).wpIn (Fr none) 0 E.P Q a W := by
  simp only [evC] at h
  split at h
  · rename_i f cap p hg hps
    split at h
    · rename_i it b hit hb
      split at h
      · rename_i t xs hxs
        cases hc : (noRange assign && (noRange body && allMem (p :: (dsts assign ++ dsts body)) (keepOf X.L body).1)) with
        | false => rw [hc] at h; cases h
        | true =>
        rw [hc] at h
        simp only [cond_true] at h
        cases t with
        | false => cases h
        | true =>
        simp only [cond_true] at h
        simp only [Bool.and_eq_true] at hc
        obtain ⟨hc1, hc2, hc3⟩ := hc
        have hpe : ps = #[p] := Array.ext' (by simpa using hps)
        subst hpe
        generalize hw : keepOf X.L body = w at h hc3
        have hgv := S.evO hX 0 g
        rw [hg] at hgv
        obtain ⟨fs, ys, ev, e1, e2⟩ := hgv.fn_inv
        simp only [RelV] at e1
        subst e1
        obtain ⟨hI, fn', hfn, hbody, hname⟩ := hX.I f it hit
        obtain ⟨rs, hd, hnd, hrs⟩ := S.df
        have hWs := S.kp.size
        let l := W.heap.size + 1
        -- the state at the first round
        have S0 : Sim E V0 io0 W0 (swCx w.1 (quietCx C)) (s.quiet.mask w) a W := S.quiet.mask w
        have S1 := S0.note (.deferred (some [])) False
        let W1 := W.alloc (.deferred (some []))
        have hs1 : W1.heap.size = l := by simp [W1, l]
        refine wpIn_rangeFunc fun fid _ => ?_
        let lp : Loop := { state := .ready, pending := none, fn := fid, tmps := a.tmps, params := #[p], assign, body, defers := W.heap.size }
        let W2 := W1.alloc (.loop lp)
        have S2 := S1.note (.loop lp) True
        have hs2 : W2.heap.size = W.heap.size + 2 := by simp [W2, W1]
        generalize hC1 : ({ { swCx w.1 (quietCx C) with V := fun b o' => (swCx w.1 (quietCx C)).V b o' ∨ (False ∧ b = W.heap.size) } with V := fun b o' => ((swCx w.1 (quietCx C)).V b o' ∨ (False ∧ b = W.heap.size)) ∨ (True ∧ b = W1.heap.size) } : Cx) = C1 at S2
        have hV1 : ∀ b o, C1.V b o ↔ C.V b o ∨ b = l := fun b o => by
          rw [← hC1]
          simp only [hs1]
          constructor
          · rintro ((h | h) | h)
            · exact .inl h
            · exact h.1.elim
            · exact .inr h.2
          · rintro (h | h)
            · exact .inl (.inl h)
            · exact .inr ⟨trivial, h⟩
        have hio1 : C1.io = C.io := by rw [← hC1]; rfl
        have hbx1 : ∀ k b, C1.box k = some b → C.box k = some b := fun k b h => by
          rw [← hC1] at h
          exact (swCx_box (C := quietCx C) h).2
        have hlv1 : ∀ k v, C1.lv k ≠ some (v, true) := fun k v h => by
          rw [← hC1] at h
          obtain ⟨cu, h⟩ := swCx_lv (w := w.1) (C := quietCx C) h
          exact quiet_lv h
        have hbcell : ∀ {k b : Nat}, C.box k = some b → ∃ cs ty, W.heap[b]? = some (.cells cs ty (0, 0)) := fun {k b} h => by
          obtain ⟨u, hu⟩ := S.bxn k b h
          obtain ⟨b1, cs, ty, g1, g2, _⟩ := S.bx k u hu
          rw [h] at g1
          cases g1
          exact ⟨cs, ty, g2⟩
        have hblt : ∀ {k b : Nat}, C.box k = some b → b < W.heap.size := fun h => by
          obtain ⟨cs, ty, g⟩ := hbcell h
          exact (Array.getElem?_eq_some_iff.1 g).1
        have hl2 : W2.heap[l]? = some (.loop lp) := by
          have := heap_alloc_new' W1 (.loop lp)
          rw [hs1] at this
          exact this
        have hold : ∀ {x : Nat} {o : Obj}, W.heap[x]? = some o → W2.heap[x]? = some o := fun h => heap_alloc_old' W1 _ (heap_alloc_old' W _ h)
        have hsame : ∀ x, x < W.heap.size → W2.heap[x]? = W.heap[x]? := fun x hx => by
          have : W.heap[x]? = some W.heap[x] := Array.getElem?_eq_getElem hx
          rw [hold this, this]
        have hr0 : W2.heap[W.heap.size]? = some (.deferred (some [])) := heap_alloc_old' W1 _ (heap_alloc_new' W _)
        have hrs2 : ∀ r ∈ W.heap.size :: rs, W2.heap[r]? = some (.deferred (some [])) := fun r hr => by
          rcases List.mem_cons.1 hr with rfl | hr
          · exact hr0
          · exact hold (hrs r hr).1
        have hrlt : ∀ r ∈ W.heap.size :: rs, r < W2.heap.size := fun r hr => (Array.getElem?_eq_some_iff.1 (hrs2 r hr)).1
        let M' : Nat → Prop := fun x => x = l ∨ E.M x ∨ ∃ k, C1.box k = some x
        have hMr : ∀ r ∈ W.heap.size :: rs, ¬ M' r := fun r hr h => by
          have h0 : W0.heap.size ≤ r := by
            rcases List.mem_cons.1 hr with rfl | hr
            · exact hWs
            · exact (hrs r hr).2
          rcases h with h | h | ⟨k, h⟩
          · have := hrs2 r hr
            rw [h, hl2] at this
            cases this
          · have := (S.hM r h).1
            have := S.n0
            omega
          · obtain ⟨cs, ty, g⟩ := hbcell (hbx1 k r h)
            have := hrs2 r hr
            rw [hold g] at this
            cases this
        have hbn : ∀ k b, C1.box k = some b → b < W2.heap.size := fun k b h => by
          have := hblt (hbx1 k b h)
          omega
        have S3 : Sim E V0 io0 W0 C1 (s.quiet.mask w) ⟨lp.tmps, []⟩ W2 := S2.reAct (a' := ⟨a.tmps, []⟩) S2.len (fun _ _ _ => .inr rfl) (DfOK.nil _ _)
        have hl0 : W0.heap.size ≤ l := by simp only [l]; omega
        have hln : l < W2.heap.size := by simp only [l]; omega
        have R0 : RJ E V0 io0 W0 it.t xs (fun x s K => evC X N assign (s.put (some p) (enc it.t x)) (asgK (evC X N body) K)) w K r b M' C1 l lp (W.heap.size :: rs) [] C1.V C1.io W2 [] (s.quiet.mask w) C1 .norm :=
          ⟨rfl, rfl, rfl, S3, fun _ _ h => h, hlv1, hl2, hrs2, fun o => (hV1 l o).2 (.inr rfl), fun _ => ⟨xs, rfl, fun hb => by subst hb; exact h, fun hb => by subst hb; exact ⟨rfl, h⟩⟩, fun h => absurd rfl h⟩
        have hMV : ∀ x, M' x → x < W2.heap.size ∧ ∀ o, C1.V x o := fun x hx => by
          rcases hx with rfl | hx | ⟨k, hx⟩
          · exact ⟨hln, fun o => (hV1 _ o).2 (.inr rfl)⟩
          · have h1 := (S.hM x hx).1
            have := S.n0
            exact ⟨by omega, fun o => (hV1 x o).2 (.inl (S.V0V x o ((S.hM x hx).2 o)))⟩
          · exact ⟨hbn k x hx, fun o => (hV1 x o).2 (.inl (S.bxV k x o (hbx1 k x hx)))⟩
        have hcap : RelV E.TR (baseCx C1.V C1.io) W2 (stL cap) ys := by
          refine RelV.mono E.hT (C := baseCx C.V C.io) ⟨⟨fun ad v hx _ => ?_, fun b o hb hv => ?_⟩, (fun _ _ h => by cases h), (fun _ _ _ h => by cases h), fun x hx => by show C1.io x = C.io x; rw [hio1], by omega⟩ (stV_rel e2)
          · obtain ⟨cs, ty, fr, g1, _⟩ := cells_of_cell hx
            exact (cell_of_block ((hold g1).trans g1.symm)).trans hx
          · rcases (hV1 b o).1 hv with h | h
            · exact h
            · simp only [l] at h
              omega
        have hcall := hI (rngEnv E V0 io0 W0 it.t xs (fun x s K => evC X N assign (s.put (some p) (enc it.t x)) (asgK (evC X N body) K)) w K r b M' C1 l lp (W.heap.size :: rs) W2.heap.size (by omega) hln hrlt hbn) rfl b C1.V C1.io W2 l (stL cap) ys xs
          S2.base (Nat.le_refl _) hMV ⟨[], _, C1, .norm, R0⟩ hcap hxs
          (yctr_ok (N := N) (p := p) (assign := assign) (body := body) (hA hc1 l) (hB hc2 l) rfl rfl rfl rfl (allMem_spec hc3) (fun _ => Iff.rfl) hMr hl0)
        refine ⟨l, [{ target := .collected W.heap.size, args := #[] }], W2, { target := .fn (.func f) ys.toArray, args := #[.func (.yield l) #[] #[]] }, W2, f, (Value.func (.yield l) #[] #[] :: ys).toArray, W2, run_enterLoop_outer .., ?_, fun _ _ => trivial, ?_, (fun h => nomatch h), ?_⟩
        · have e : (([] : List Value).toArray ++ Array.map a.eval #[Operand.const (Value.func (.yield l) #[] #[])] : Array Value) = #[Value.func (.yield l) #[] #[]] := by simp [Act.eval]
          simp only [resolve, ev, Deferred.ofValue, Sem.run_pure, e]
        · simp only [invoke, callFunc, Sem.run_bind, run_program, Result.andThen_ok, hfn, hbody, hname, Bool.false_eq_true, if_false, Sem.run_pure]
          congr 2
          apply Array.ext'
          simp
        · refine CallsIn.mono (callsIn_fr hcall) ?_
          rintro e1 W3 ⟨v, rfl, io', hk, hio, pre, sp, C', e, R⟩
          have hKe : K e sp = some r := by
            by_cases hee : e = .norm
            · subst hee
              obtain ⟨rest, g1, g2, g3⟩ := R.go rfl
              cases b with
              | true =>
                have := map_enc_inj it.t (show xs.map (enc it.t) = pre.map (enc it.t) from R.htr)
                subst this
                have : rest = [] := by simpa using g1
                subst this
                exact g2 rfl
              | false =>
                obtain ⟨rfl, g4⟩ := g3 rfl
                have hx : (xs.take 1).map (enc it.t) = ([] : List it.t.den).map (enc it.t) := R.htr
                have hx' := map_enc_inj it.t hx
                have : xs = [] := by
                  cases xs with
                  | nil => rfl
                  | cons x xs => simp at hx'
                subst this
                have : rest = [] := by simpa using g1.symm
                subst this
                exact g4
            · exact (R.st hee).2.1
          have hlp3 := R.hlp
          have hW4 := run_endLoop (P := E.P) hlp3 (by cases e <;> simp [stOf])
          have hk' : Keep M' C1.io io' W2 W3 := hk
          have hd4 : DfOK W0 (W3.putObj l (.loop { { lp with state := stOf e, pending := jumpOf e } with state := .exhausted })) (({ target := .collected W.heap.size, args := #[] } : Deferred) :: a.defers) := by
            refine ⟨W.heap.size :: rs, by rw [hd]; rfl, ?_, fun r hr => ⟨?_, ?_⟩⟩
            · rw [List.nodup_cons]
              exact ⟨fun h => by have := (Array.getElem?_eq_some_iff.1 (hrs _ h).1).1; omega, hnd⟩
            · have h3 := R.hrs r hr
              exact (World.putObj_heap_other (fun e => by subst e; rw [hlp3] at h3; cases h3)).trans h3
            · rcases List.mem_cons.1 hr with rfl | hr
              · exact hWs
              · exact (hrs r hr).2
          have S5 := R.S.turn hlp3 (o' := .loop { { lp with state := stOf e, pending := jumpOf e } with state := .exhausted }) (fun _ _ _ h => nomatch h) (fun _ _ h => nomatch h) hl0 (a' := { a with defers := ({ target := .collected W.heap.size, args := #[] } : Deferred) :: a.defers }) rfl hd4
          have F5 : Fm E.M D a { a with defers := ({ target := .collected W.heap.size, args := #[] } : Deferred) :: a.defers } C C' W (W3.putObj l (.loop { { lp with state := stOf e, pending := jumpOf e } with state := .exhausted })) := by
            refine ⟨rfl, fun _ _ => rfl, fun k b _ h => hbx1 k b (R.bx k b h), fun k v _ h => absurd h (R.lv k v), ⟨⟨hk'.os, hk'.tape, hk'.output, ?_, fun x hx hi hm => ?_, fun x hx => ?_⟩, fun k b h => .inl (hbx1 k b (R.bx k b h)), fun k v b lo hi h => absurd h (R.lv k v), fun b o _ h => .inl (by rw [R.hV]; exact (hV1 b o).2 (.inl h))⟩⟩
            · have := hk'.size
              simp only [World.putObj_size]
              omega
            · have hxl : x ≠ l := by simp only [l]; omega
              rw [World.putObj_heap_other hxl, hk'.block x (by omega) (by rw [hio1]; exact hi) (fun h => ?_), hsame x hx]
              rcases h with h | h | ⟨k, h⟩
              · exact hxl h
              · exact hm (.inl h)
              · exact hm (.inr (.inl ⟨k, hbx1 k x h⟩))
            · rw [R.hio, ← hio1]
              exact hk'.io x (by omega)
          have hq := hK e sp hKe C' _ _ S5 (hF.trans F5)
          refine ⟨_, _, hW4, ?_⟩
          cases e with
          | norm => exact hq
          | exit j => exact wpIn_exit hq
          | ret => exact wpIn_ret hq
      · cases h
    · cases h
  · cases h

end

end Ev
end Go.Proofs.YtidnikjkpbmhhaaDoor
/- Boxes that nobody turns any more become memory. -/
set_option linter.unusedVariables false
set_option linter.unusedSimpArgs false
namespace Go.Proofs.YtidnikjkpbmhhaaDoor
namespace Ev

variable {E : Env} {V0 : Nat → Nat → Prop} {io0 : Io} {W0 : World} {C : Cx} {s s' s1 s2 : St} {a : Act} {W : World} {X : Ctx} {o : Oper}

mutual
theorem fz_size (c : Nat → Option AV) : ∀ v : AV, (fzAV c v).size = v.size
  | .poison => rfl
  | .undef => rfl
  | .int _ => rfl
  | .bool _ => rfl
  | .agg l => by simp only [fzAV, AV.size]; exact fzL_size c l
  | .arr .. => rfl
  | .sl .. => rfl
  | .tup _ => rfl
  | .ref k p => by
    simp only [fzAV]
    cases c k <;> rfl
  | .cref .. => rfl
  | .fn .. => rfl
  | .map _ => rfl
  | .tok .. => rfl
theorem fzL_size (c : Nat → Option AV) : ∀ l : List AV, sizeL (fzL c l) = sizeL l
  | [] => rfl
  | v :: l => by simp only [fzL, sizeL, fz_size c v, fzL_size c l]
end

theorem fz_isAg (c : Nat → Option AV) : ∀ v : AV, isAg (fzAV c v) = isAg v := fun v => by
  cases v <;> simp only [fzAV] <;> first
    | rfl
    | (rename_i k _; cases c k <;> rfl)

/-- The context behind. -/
def fzCx (ks : List Nat) (C : Cx) : Cx :=
  { C with V := fun b o => C.V b o ∧ ∀ k, memN ks k = true → C.box k ≠ some b, box := fun k => bif memN ks k then none else C.box k }

theorem fz_stab (ks : List Nat) (C : Cx) (W : World) : Stab C.V (fzCx ks C).V W W := ⟨fun _ _ h _ => h, fun _ _ _ h => h.1⟩

/-- What stands for a box tells its cells. -/
def ContOK (TR : TokRel) (ks : List Nat) (C : Cx) (W : World) (c : Nat → Option AV) : Prop :=
  ∀ k b, C.box k = some b → (memN ks k = true → ∃ u ds, c k = some u ∧ Rel TR (fzCx ks C) W u ds ∧ Cells (fzCx ks C).V W ⟨b, 0, none⟩ ds) ∧ (memN ks k = false → c k = none)

theorem addr_add (b i : Nat) : (⟨b, 0, none⟩ : Addr).add i = ⟨b, i, none⟩ := by
  unfold Addr.add
  split
  · rename_i h; subst h; rfl
  · simp

mutual
theorem fz_rel {TR : TokRel} (hT : TokOK TR) {ks : List Nat} {c : Nat → Option AV} (hc : ContOK TR ks C W c) : ∀ {v : AV} {cs : List Value}, Rel TR C W v cs → Rel TR (fzCx ks C) W (fzAV c v) cs
  | .poison, cs, h => by simpa only [fzAV, Rel] using h
  | .undef, cs, h => by simpa only [fzAV, Rel] using h
  | .int _, cs, h => by simpa only [fzAV, Rel] using h
  | .bool _, cs, h => by simpa only [fzAV, Rel] using h
  | .agg l, cs, h => by
    simp only [fzAV, Rel] at h ⊢
    exact fzL_rel hT hc h
  | .arr t n xs, cs, h => by
    simp only [fzAV, Rel] at h ⊢
    exact ⟨h.1, Flat.imp (fun x c h => CRel.mono (fz_stab ks C W) h) h.2⟩
  | .sl t f l, cs, h => by
    simp only [fzAV, Rel] at h ⊢
    obtain ⟨A, c', h1, h2, h3, h4, h5, h6⟩ := h
    exact ⟨A, c', h1, h2, fun j x hj => by
      obtain ⟨ad, d, g1, g2, g3, g4⟩ := h3 j x hj
      exact ⟨ad, d, g1, CRel.mono (fz_stab ks C W) g2, g3, g4.mono (fz_stab ks C W)⟩, h4, h5, h6⟩
  | .tup l, cs, h => by
    simp only [fzAV, Rel] at h ⊢
    obtain ⟨vs, e, h⟩ := h
    exact ⟨vs, e, fzV_rel hT hc h⟩
  | .ref k p, cs, h => by
    simp only [Rel] at h
    obtain ⟨b, h1, h2, e⟩ := h
    obtain ⟨g1, g2⟩ := hc k b h1
    simp only [fzAV]
    cases hm : memN ks k with
    | true =>
      obtain ⟨u, ds, q1, q2, q3⟩ := g1 hm
      rw [q1]
      simp only [Rel]
      exact ⟨⟨b, 0, none⟩, ds, q2, q3, h2, by rw [addr_add]; exact e⟩
    | false =>
      rw [g2 hm]
      simp only [Rel]
      exact ⟨b, by simp [fzCx, hm, h1], h2, e⟩
  | .cref v p, cs, h => by
    simp only [fzAV, Rel] at h ⊢
    obtain ⟨ad, ds, h1, h2, h3⟩ := h
    exact ⟨ad, ds, fz_rel hT hc h1, h2.mono (fz_stab ks C W), h3⟩
  | .fn f x y, cs, h => by
    simp only [fzAV, Rel] at h ⊢
    obtain ⟨xs, ys, e, h1, h2⟩ := h
    exact ⟨xs, ys, e, fzV_rel hT hc h1, fzV_rel hT hc h2⟩
  | .map _, cs, h => by simp only [Rel] at h
  | .tok i t d, cs, h => by
    simp only [fzAV, Rel] at h ⊢
    obtain ⟨v, e, h⟩ := h
    exact ⟨v, e, hT.mono _ _ _ _ _ _ _ _ _ _ (fz_stab ks C W) (fun _ _ => rfl) (Nat.le_refl _) h⟩
theorem fzL_rel {TR : TokRel} (hT : TokOK TR) {ks : List Nat} {c : Nat → Option AV} (hc : ContOK TR ks C W c) : ∀ {l : List AV} {cs : List Value}, RelL TR C W l cs → RelL TR (fzCx ks C) W (fzL c l) cs
  | [], cs, h => by simpa only [fzL, RelL] using h
  | v :: l, cs, h => by
    simp only [fzL, RelL] at h ⊢
    obtain ⟨x, d, e, hl, h1, h2⟩ := h
    exact ⟨x, d, e, by rw [fz_size, hl], fz_rel hT hc h1, fzL_rel hT hc h2⟩
theorem fzV_rel {TR : TokRel} (hT : TokOK TR) {ks : List Nat} {c : Nat → Option AV} (hc : ContOK TR ks C W c) : ∀ {l : List AV} {vs : List Value}, RelV TR C W l vs → RelV TR (fzCx ks C) W (fzL c l) vs
  | [], cs, h => by simpa only [fzL, RelV] using h
  | v :: l, cs, h => by
    simp only [fzL, RelV] at h ⊢
    obtain ⟨x, r, e, h1, h2⟩ := h
    refine ⟨x, r, e, ?_, fzV_rel hT hc h2⟩
    rcases h1 with h1 | ⟨ds, g1, g2, g3⟩
    · subst h1
      exact .inl rfl
    · exact .inr ⟨ds, by rw [fz_size, g1], fz_rel hT hc g2, by rw [g3]; simp [mkV, fz_isAg]⟩
end

theorem vr_fz {TR : TokRel} (hT : TokOK TR) {ks : List Nat} {c : Nat → Option AV} (hc : ContOK TR ks C W c) {v : AV} {x : Value} (h : VR TR C W v x) : VR TR (fzCx ks C) W (fzAV c v) x := by
  rcases h with h1 | ⟨cs, g0, g1, g2⟩
  · subst h1
    exact .inl rfl
  · exact .inr ⟨cs, by rw [fz_size, g0], fz_rel hT hc g1, by rw [g2]; simp only [mkV, fz_isAg]⟩

theorem fzL_get (c : Nat → Option AV) : ∀ (l : List AV) (k : Nat), (fzL c l)[k]? = (l[k]?).map (fzAV c)
  | [], k => by simp [fzL]
  | v :: l, 0 => by simp [fzL]
  | v :: l, k + 1 => by simp only [fzL, List.getElem?_cons_succ, fzL_get c l k]
theorem fzL_len (c : Nat → Option AV) : ∀ l : List AV, (fzL c l).length = l.length
  | [] => rfl
  | v :: l => by simp [fzL, fzL_len c l]
theorem fzObs_get (c : Nat → Option AV) (ks : List Nat) : ∀ (l : List Ob) (i k : Nat), (fzObs c ks i l)[k]? = (l[k]?).map (fzOb c ks (i + k))
  | [], i, k => by simp [fzObs]
  | v :: l, i, 0 => by simp [fzObs]
  | v :: l, i, k + 1 => by
    simp only [fzObs, List.getElem?_cons_succ, fzObs_get c ks l (i + 1) k]
    rw [show i + 1 + k = i + (k + 1) by omega]
theorem fzObs_len (c : Nat → Option AV) (ks : List Nat) : ∀ (l : List Ob) (i : Nat), (fzObs c ks i l).length = l.length
  | [], _ => rfl
  | v :: l, i => by simp [fzObs, fzObs_len c ks l (i + 1)]

/-- Boxes become memory. -/
theorem Sim.frz (S : Sim E V0 io0 W0 C s a W) {ks : List Nat} {c : Nat → Option AV} (hc : ContOK E.TR ks C W c) : Sim E V0 io0 W0 (fzCx ks C) ⟨fzL c s.tmps, fzObs c ks 0 s.objs⟩ a W := by
  have hob : ∀ k : Nat, (fzObs c ks 0 s.objs)[k]? = (s.objs[k]?).map (fzOb c ks k) := fun k => by rw [fzObs_get, Nat.zero_add]
  have hbx : ∀ (k : Nat) (v : AV), (fzObs c ks 0 s.objs)[k]? = some (.box v) → memN ks k = false ∧ ∃ u, s.objs[k]? = some (.box u) ∧ v = fzAV c u := fun k v h => by
    rw [hob] at h
    cases hk : s.objs[k]? with
    | none => rw [hk] at h; cases h
    | some q =>
      rw [hk] at h
      simp only [Option.map_some, Option.some.injEq] at h
      cases q with
      | box u =>
        simp only [fzOb] at h
        cases hm : memN ks k with
        | true => rw [hm] at h; cases h
        | false => rw [hm] at h; cases h; exact ⟨rfl, u, rfl, rfl⟩
      | _ => cases h
  have hnot : ∀ (k : Nat) (x : Ob), (∀ v, x ≠ .box v) → x ≠ .none → ((fzObs c ks 0 s.objs)[k]? = some x ↔ s.objs[k]? = some x) := fun k x h1 h2 => by
    rw [hob]
    cases hk : s.objs[k]? with
    | none => simp
    | some q =>
      cases q with
      | box u =>
        simp only [Option.map_some, Option.some.injEq, fzOb]
        constructor
        · intro h
          cases hm : memN ks k with
          | true => rw [hm] at h; exact absurd h.symm h2
          | false => rw [hm] at h; exact absurd h.symm (h1 _)
        · intro h
          exact absurd h.symm (h1 _)
      | _ => simp [fzOb]
  have hst := fz_stab ks C W
  have hbox : ∀ {k b : Nat}, (fzCx ks C).box k = some b → memN ks k = false ∧ C.box k = some b := fun {k b} h => by
    simp only [fzCx] at h
    cases hm : memN ks k with
    | true => rw [hm] at h; cases h
    | false => rw [hm] at h; exact ⟨rfl, h⟩
  have hV0 : ∀ b o, V0 b o → (fzCx ks C).V b o := fun b o h => ⟨S.V0V b o h, fun k _ hk => by
    obtain ⟨u, hu⟩ := S.bxn k b hk
    obtain ⟨b1, _, _, g1, _, _, _, g5⟩ := S.bx k u hu
    rw [hk] at g1
    cases g1
    have := S.old0 b o h
    omega⟩
  refine { S with len := ?_, tm := ?_, bx := ?_, bxn := ?_, inj := ?_, bxV := ?_, ln := ?_, tl := ?_, Vn := fun b o h => S.Vn b o h.1, V0V := hV0, gl := ?_, gh := ?_ }
  · rw [S.len]
    exact (fzL_len c s.tmps).symm
  · intro t x hx
    have : (fzL c s.tmps)[t]? = some x := hx
    rw [fzL_get] at this
    cases ht : s.tmps[t]? with
    | none => rw [ht] at this; cases this
    | some v =>
      rw [ht] at this
      simp only [Option.map_some, Option.some.injEq] at this
      obtain ⟨y, hy, hr⟩ := S.tm t v ht
      exact ⟨y, hy, this ▸ vr_fz E.hT hc hr⟩
  · intro k v hv
    obtain ⟨hm, u, hu, rfl⟩ := hbx k v hv
    obtain ⟨b, cs, ty, h1, h2, h3, h4, h5⟩ := S.bx k u hu
    exact ⟨b, cs, ty, by simp [fzCx, hm, h1], h2, by rw [fz_size, h3], fz_rel E.hT hc h4, h5⟩
  · intro k b hb
    obtain ⟨hm, hb⟩ := hbox hb
    obtain ⟨v, hv⟩ := S.bxn k b hb
    exact ⟨fzAV c v, by rw [hob, hv]; simp [fzOb, hm]⟩
  · intro k k' b h h'
    exact S.inj k k' b (hbox h).2 (hbox h').2
  · intro k b o h
    obtain ⟨hm, hb⟩ := hbox h
    exact ⟨S.bxV k b o hb, fun k' hk' hb' => by
      have := S.inj k k' b hb hb'
      subst this
      rw [hm] at hk'
      cases hk'⟩
  · intro k v al
    exact (S.ln k v al).trans (hnot k (.lin v al) (fun _ h => nomatch h) (fun h => nomatch h)).symm
  · intro k v b lo hi o h1 h2 h3 h4
    obtain ⟨g1, g2, g3, g4⟩ := S.tl k v b lo hi o h1 h2 h3 h4
    exact ⟨⟨g1, fun k' _ => g3 k'⟩, g2, fun k' h => g3 k' (hbox h).2, g4⟩
  · intro g v h
    exact Rel.mono E.hT (C := baseCx C.V C.io) (C' := baseCx (fzCx ks C).V C.io) ⟨hst, (fun _ _ h => by cases h), (fun _ _ _ h => by cases h), fun _ _ => rfl, Nat.le_refl _⟩ (S.gl g v h)
  · intro k x y tr hl h
    have hl' : k + 1 = s.objs.length := by
      have := fzObs_len c ks s.objs 0
      simp only at hl
      omega
    exact S.ghs (Wst.refl _ _) hst (fun b o h => S.Vn b o h.1) hV0 S.iok (S.gh k x y tr hl' ((hnot k (.map x y tr) (fun _ h => nomatch h) (fun h => nomatch h)).1 h))

/-- A closure that names itself is what its token says. -/
def FrzOK (TR : TokRel) (z : Frz) : Prop :=
  ∀ V io W (ys : List Value) (capsF : List AV) (d : z.t.den) (b : Nat), z.d capsF = some d → RelV TR (baseCx V io) W capsF ys → ys[z.j]? = some (.pointer (some ⟨b, 0, none⟩)) →
    W.cell? ⟨b, 0, none⟩ = some (.func (.func z.f) #[] ys.toArray) → ¬ V b 0 → TR z.i z.t d V io W (.func (.func z.f) #[] ys.toArray)

theorem freeze_ok (S : Sim E V0 io0 W0 C s a W) {z : Frz} (hz : FrzOK E.TR z) (h : freeze z s = some s') : ∃ C', Sim E V0 io0 W0 C' s' a W := by
  unfold freeze at h
  split at h
  · rename_i f caps hk
    split at h
    · rename_i hf
      obtain ⟨rfl, hmk⟩ := hf
      split at h
      · rename_i k hj
        split at h
        · rename_i hkk
          subst hkk
          split at h
          · rename_i d hd
            cases h
            have hk' : s.objs[z.k]? = some (.box (.fn z.f [] caps)) := by
              cases hq : s.objs[z.k]? with
              | none => simp [List.getD, hq] at hk
              | some q => simp [List.getD, hq] at hk; rw [hk]
            obtain ⟨b, cs, ty, h1, h2, h3, h4, h5⟩ := S.bx z.k _ hk'
            have hcell : ∀ (k b : Nat) (v : AV), C.box k = some b → memN z.ks k = true → s.objs[k]? = some (.box v) → ∃ ds, Rel E.TR C W v ds ∧ Cells (fzCx z.ks C).V W ⟨b, 0, none⟩ ds ∧ ds.length = v.size := fun k b v hb hm hv => by
              obtain ⟨b1, cs1, ty1, g1, g2, g3, g4, g5⟩ := S.bx k v hv
              rw [hb] at g1
              cases g1
              refine ⟨cs1.toList, g4, fun i x hi => ⟨?_, fun hV => ?_⟩, g3⟩
              · rw [addr_add]
                unfold World.cell?
                simp only [g2]
                simpa using hi
              · exact hV.2 k hm hb
            have hgen : ∀ self : AV, (∃ ds, Rel E.TR (fzCx z.ks C) W self ds ∧ Cells (fzCx z.ks C).V W ⟨b, 0, none⟩ ds) → ContOK E.TR z.ks C W (contOf s z self) := fun self hs k b' hb' => by
              refine ⟨fun hm => ?_, fun hm => by simp [contOf, hm]⟩
              by_cases e : k = z.k
              · subst e
                rw [h1] at hb'
                cases hb'
                obtain ⟨ds, q1, q2⟩ := hs
                exact ⟨self, ds, by simp [contOf, hm], q1, q2⟩
              · obtain ⟨v, hv⟩ := S.bxn k b' hb'
                obtain ⟨ds, q1, q2, _⟩ := hcell k b' v hb' hm hv
                refine ⟨stAV v, ds, by simp [contOf, hm, e, List.getD, hv], ?_, q2⟩
                have := Rel.mono E.hT (C := baseCx C.V C.io) (C' := baseCx (fzCx z.ks C).V C.io) ⟨fz_stab z.ks C W, (fun _ _ h => by cases h), (fun _ _ _ h => by cases h), fun _ _ => rfl, Nat.le_refl _⟩ (st_rel q1)
                exact Rel.mono E.hT (CxLe.ofBase (fzCx z.ks C) rfl rfl) this
            obtain ⟨ds, q1, q2, q3⟩ := hcell z.k b _ h1 hmk hk'
            simp only [Rel, RelV] at q1
            obtain ⟨xs, ys, rfl, rfl, q5⟩ := q1
            have hc0 := hgen .poison ⟨_, by simp only [Rel]; exact ⟨_, rfl⟩, q2⟩
            have hcaps := stV_rel (fzV_rel E.hT hc0 q5)
            obtain ⟨y, hy, hyr⟩ := relV_get q5 z.j _ hj
            have hyp : y = .pointer (some ⟨b, 0, none⟩) := by
              rcases hyr with hyr | ⟨cs', _, hyr, e⟩
              · cases hyr
              · simp only [Rel] at hyr
                obtain ⟨b2, g1, _, rfl⟩ := hyr
                rw [h1] at g1
                cases g1
                rw [e]
                rfl
            subst hyp
            obtain ⟨g1, g2⟩ := q2 0 _ rfl
            rw [addr_add] at g1
            have htok := hz (fzCx z.ks C).V (fzCx z.ks C).io W ys _ d b hd hcaps hy g1 (by simpa using g2)
            exact ⟨_, S.frz (hgen (.tok z.i z.t d) ⟨_, by simp only [Rel]; exact ⟨_, rfl, htok⟩, q2⟩)⟩
          · cases h
        · cases h
      · cases h
    · cases h
  · cases h

end Ev
end Go.Proofs.YtidnikjkpbmhhaaDoor
/- Control flow and whole functions: what the evaluator answers is what the machine's call returns. -/
set_option linter.unusedVariables false
set_option linter.unusedSimpArgs false
namespace Go.Proofs.YtidnikjkpbmhhaaDoor
namespace Ev

variable {E : Env} {V0 : Nat → Nat → Prop} {io0 : Io} {W0 : World} {C : Cx} {s s' s1 s2 : St} {a : Act} {W : World} {X : Ctx} {o : Oper}

theorem loopN_ok {ρ : Type} {ro : Option Nat} {D : Nat → Prop} {a0 : Act} {C0 : Cx} {Wa : World} {c : Code} {B : St → (Ex → St → Option ρ) → Option ρ} (hB : BOK ro D a0 C0 Wa E V0 io0 W0 c B) {w : List Nat × List Nat} {K : Ex → St → Option ρ} {r : ρ} {Q : Exit → Act → World → Prop} (hK : KOK D a0 C0 Wa E V0 io0 W0 K r Q) :
    ∀ n s C a W, loopN B w n s K = some r → Sim E V0 io0 W0 C s a W → Fm E.M D a0 a C0 C Wa W → Code.roundsIn (Fr ro) 0 E.P c Q n a W
  | 0, s, C, a, W, h, S, hF => by cases h
  | n + 1, s, C, a, W, h, S, hF => by
    rw [roundsIn_succ]
    refine hB _ r (Exit.then (Code.roundsIn (Fr ro) 0 E.P c Q n) Q) ?_ s C a W h S hF
    intro e s' he C' a' W' S' hF'
    cases e with
    | norm => exact loopN_ok hB hK n _ _ a' W' he (S'.mask w) (hF'.mask w.1)
    | exit j => exact hK (.exit j) s' he C' a' W' S' hF'
    | ret => exact hK .ret s' he C' a' W' S' hF'

theorem evC_ok {ρ : Type} (hX : CtxOK E X) (N : Nat) : ∀ (c : Code) (ro : Option Nat), (ro = none ∨ noRange c = true) → ∀ {D : Nat → Prop} {a0 : Act} {C0 : Cx} {Wa : World}, (∀ k ∈ dsts c, D k) → BOK (ρ := ρ) ro D a0 C0 Wa E V0 io0 W0 c (evC X N c)
  | .skip => fun ro hro D a0 C0 Wa hD K r Q hK s C a W h S hF => wpIn_skip (hK .norm s h C a W S hF)
  | .label l => fun ro hro D a0 C0 Wa hD K r Q hK s C a W h S hF => wpIn_label (hK .norm s h C a W S hF)
  | .exit j => fun ro hro D a0 C0 Wa hD K r Q hK s C a W h S hF => wpIn_exit (hK (.exit j) s h C a W S hF)
  | .ret => fun ro hro D a0 C0 Wa hD K r Q hK s C a W h S hF => wpIn_ret (hK .ret s h C a W S hF)
  | .region id ops dr => fun ro hro D a0 C0 Wa hD K r Q hK s C a W h S hF => by
    simp only [evC] at h
    split at h
    · rename_i hc
      rw [evOps_eq] at h
      split at h
      · rename_i s' hs
        have hDo : ∀ o ∈ ops.toList, ∀ k, o.dst = some k → D k := fun o ho k hk => hD k (List.mem_filterMap.2 ⟨o, ho, hk⟩)
        cases dr with
        | false => exact region_text hX ro hs S hDo hF fun C' a' W' S' hf => hK .norm s' h C' a' W' S' hf
        | true => exact region_any hX ro (hc.resolve_left (by simp)) hs S hDo hF fun C' a' W' S' hf => hK .norm s' h C' a' W' S' hf
      · cases h
    · cases h
  | .seq x y => fun ro hro D a0 C0 Wa hD K r Q hK s C a W h S hF => by
    simp only [evC] at h
    refine wpIn_seq (evC_ok hX N x ro (hro.imp_right fun h => (by simp only [noRange, Bool.and_eq_true] at h; exact h.1)) (fun k hk => hD k (List.mem_append_left _ hk)) _ r _ ?_ s C a W h S hF)
    intro e s' he C' a' W' S' hF'
    cases e with
    | norm => exact evC_ok hX N y ro (hro.imp_right fun h => (by simp only [noRange, Bool.and_eq_true] at h; exact h.2)) (fun k hk => hD k (List.mem_append_right _ hk)) K r Q hK s' C' a' W' he S' hF'
    | exit j => exact hK (.exit j) s' he C' a' W' S' hF'
    | ret => exact hK .ret s' he C' a' W' S' hF'
  | .cond c x y => fun ro hro D a0 C0 Wa hD K r Q hK s C a W h S hF => by
    simp only [evC] at h
    have hc := S.evO hX 0 c
    cases ht : evO X s 0 c with
    | bool t =>
      rw [ht] at h hc
      have hb := hc.bool_inv
      have e : ∀ u k, c = .tmp k → u = t → (⟨s.tmps.set k (.bool u), s.objs⟩ : St) = s := fun u k hk hu => by
        subst hu
        subst hk
        simp only [evO] at ht
        rw [set_same ht (by simp)]
      dsimp only at h
      cases t with
      | true =>
        refine wpIn_cond_true hb (evC_ok hX N x ro (hro.imp_right fun h => (by simp only [noRange, Bool.and_eq_true] at h; exact h.1)) (fun k hk => hD k (List.mem_append_left _ hk)) K r Q hK s C a W ?_ S hF)
        cases c with
        | tmp k =>
          simp only [cond_true] at h
          rwa [e true k rfl rfl] at h
        | _ => exact h
      | false =>
        refine wpIn_cond_false hb (evC_ok hX N y ro (hro.imp_right fun h => (by simp only [noRange, Bool.and_eq_true] at h; exact h.2)) (fun k hk => hD k (List.mem_append_right _ hk)) K r Q hK s C a W ?_ S hF)
        cases c with
        | tmp k =>
          simp only [cond_false] at h
          rwa [e false k rfl rfl] at h
        | _ => exact h
    | _ => rw [ht] at h; cases h
  | .block id b => fun ro hro D a0 C0 Wa hD K r Q hK s C a W h S hF => by
    simp only [evC] at h
    refine wpIn_block (evC_ok hX N b ro hro hD _ r _ ?_ s C a W h S hF)
    intro e s' he C' a' W' S' hF'
    cases e with
    | norm => exact hK .norm s' he C' a' W' S' hF'
    | exit j =>
      simp only [blockK] at he
      simp only [toExit, Exit.inBlock]
      split
      · rename_i hj
        rw [if_pos hj] at he
        exact hK .norm s' he C' a' W' S' hF'
      · rename_i hj
        rw [if_neg hj] at he
        exact hK (.exit j) s' he C' a' W' S' hF'
    | ret => exact hK .ret s' he C' a' W' S' hF'
  | .loop b => fun ro hro D a0 C0 Wa hD K r Q hK s C a W h S hF => by
    simp only [evC] at h
    exact wpIn_loop_rounds N (loopN_ok (evC_ok hX N b ro hro hD) hK N _ _ a W h (S.mask _) (hF.mask _))
  | .scope b => fun ro hro D a0 C0 Wa hD K r Q hK s C a W h S hF => by
    simp only [evC] at h
    refine wpIn_scope (evC_ok hX N b ro hro hD K r _ ?_ s C a W h S hF)
    intro e s' he C' a' W' S' hF'
    cases e with
    | norm => exact hK .norm s' he C' a' W' S' hF'
    | exit j => exact hK (.exit j) s' he C' a' W' S' hF'
    | ret => exact hK .ret s' he C' a' W' S' hF'
  | .rangeFunc g ps assign body => fun ro hro D a0 C0 Wa hD K r Q hK s C a W h S hF => by
    have : ro = none := hro.resolve_right (by simp [noRange])
    subst this
    exact range_ok hX (fun hn l _ _ _ _ hD => evC_ok hX N assign (some l) (.inr hn) hD) (fun hn l _ _ _ _ hD => evC_ok hX N body (some l) (.inr hn) hD) hK h S hF
  | .goto .. => fun ro hro D a0 C0 Wa hD K r Q hK s C a W h S hF => by cases h
  | .refuse .. => fun ro hro D a0 C0 Wa hD K r Q hK s C a W h S hF => by cases h

theorem evZ_ok {ρ : Type} (hX : CtxOK E X) (N : Nat) {z : Frz} (hz : FrzOK E.TR z) : ∀ (n : Nat) (c : Code) (K : Ex → St → Option ρ) (r : ρ) (Q : Exit → Act → World → Prop), (∀ e s, K e s = some r → ∀ C a W, Sim E V0 io0 W0 C s a W → Q (toExit e) a W) →
    ∀ s C a W, evZ X N z n c s K = some r → Sim E V0 io0 W0 C s a W → c.wpIn (Fr none) 0 E.P Q a W
  | 0, c, K, r, Q, hK, s, C, a, W, h, S => by
    simp only [evZ] at h
    split at h
    · rename_i s' hs
      obtain ⟨C', S'⟩ := freeze_ok S hz hs
      exact evC_ok hX N c none (.inl rfl) (D := fun _ => True) (fun _ _ => trivial) K r Q (fun e s he C a W S _ => hK e s he C a W S) s' C' a W h S' (Fm.refl _ _ _ _ _)
    · cases h
  | n + 1, .seq x y, K, r, Q, hK, s, C, a, W, h, S => by
    simp only [evZ] at h
    refine wpIn_seq (evC_ok hX N x none (.inl rfl) (D := fun _ => True) (fun _ _ => trivial) _ r _ ?_ s C a W h S (Fm.refl _ _ _ _ _))
    intro e s' he C' a' W' S' _
    cases e with
    | norm => exact evZ_ok hX N hz n y K r Q hK s' C' a' W' he S'
    | exit j => exact hK (.exit j) s' he C' a' W' S'
    | ret => exact hK .ret s' he C' a' W' S'
  | n + 1, .region .., K, r, Q, hK, s, C, a, W, h, S => by cases h
  | n + 1, .cond .., K, r, Q, hK, s, C, a, W, h, S => by cases h
  | n + 1, .block .., K, r, Q, hK, s, C, a, W, h, S => by cases h
  | n + 1, .loop .., K, r, Q, hK, s, C, a, W, h, S => by cases h
  | n + 1, .scope .., K, r, Q, hK, s, C, a, W, h, S => by cases h
  | n + 1, .exit .., K, r, Q, hK, s, C, a, W, h, S => by cases h
  | n + 1, .ret, K, r, Q, hK, s, C, a, W, h, S => by cases h
  | n + 1, .skip, K, r, Q, hK, s, C, a, W, h, S => by cases h
  | n + 1, .label .., K, r, Q, hK, s, C, a, W, h, S => by cases h
  | n + 1, .goto .., K, r, Q, hK, s, C, a, W, h, S => by cases h
  | n + 1, .refuse .., K, r, Q, hK, s, C, a, W, h, S => by cases h
  | n + 1, .rangeFunc .., K, r, Q, hK, s, C, a, W, h, S => by cases h

/-- A way of walking a body that is sound. -/
def Walks {ρ : Type} (E : Env) (c : Code) (B : St → (Ex → St → Option ρ) → Option ρ) : Prop :=
  ∀ (V0 : Nat → Nat → Prop) (io0 : Io) (W0 : World) (K : Ex → St → Option ρ) (r : ρ) (Q : Exit → Act → World → Prop), (∀ e s, K e s = some r → ∀ C a W, Sim E V0 io0 W0 C s a W → Q (toExit e) a W) →
    ∀ s C a W, B s K = some r → Sim E V0 io0 W0 C s a W → c.wpIn (Fr none) 0 E.P Q a W

theorem walks_evC {ρ : Type} (hX : CtxOK E X) (N : Nat) (c : Code) : Walks (ρ := ρ) E c (evC X N c) := fun V0 io0 W0 K r Q hK s C a W h S =>
  evC_ok hX N c none (.inl rfl) (D := fun _ => True) (fun _ _ => trivial) K r Q (fun e s he C a W S _ => hK e s he C a W S) s C a W h S (Fm.refl _ _ _ _ _)
theorem walks_evZ {ρ : Type} (hX : CtxOK E X) (N : Nat) {z : Frz} (hz : FrzOK E.TR z) (n : Nat) (c : Code) : Walks (ρ := ρ) E c (evZ X N z n c) := fun V0 io0 W0 K r Q hK s C a W h S =>
  evZ_ok hX N hz n c K r Q hK s C a W h S

/-! Whole functions. -/

theorem CxLe.back (S : Sim E V0 io0 W0 C s a W) : CxLe (baseCx C.V C.io) (baseCx V0 C.io) W W :=
  ⟨⟨fun _ _ h _ => h, fun b o _ h => S.V0V b o h⟩, (fun _ _ h => by cases h), (fun _ _ _ h => by cases h), fun _ _ => rfl, Nat.le_refl _⟩

theorem vr_st {v : AV} {x : Value} (h : VR E.TR C W v x) : VR E.TR (baseCx C.V C.io) W (stAV v) x := by
  rcases h with h1 | ⟨cs, g0, g1, g2⟩
  · subst h1
    exact .inl rfl
  · exact .inr ⟨cs, by rw [st_size, g0], st_rel g1, by rw [g2]; simp only [mkV, st_isAg]⟩

mutual
theorem fr_size (obs : List Ob) : ∀ v : AV, (frAV obs v).size = v.size
  | .poison => rfl
  | .undef => rfl
  | .int _ => rfl
  | .bool _ => rfl
  | .agg l => by simp only [frAV, AV.size]; exact frL_size obs l
  | .arr .. => rfl
  | .sl .. => rfl
  | .tup _ => rfl
  | .ref k p => by
    simp only [frAV]
    split <;> rfl
  | .cref .. => rfl
  | .fn .. => rfl
  | .map _ => rfl
  | .tok .. => rfl
theorem frL_size (obs : List Ob) : ∀ l : List AV, sizeL (frL obs l) = sizeL l
  | [] => rfl
  | v :: l => by simp only [frL, sizeL, fr_size obs v, frL_size obs l]
end

theorem fr_isAg (obs : List Ob) : ∀ v : AV, isAg (frAV obs v) = isAg v := fun v => by
  cases v <;> simp only [frAV] <;> first
    | rfl
    | (split <;> rfl)

mutual
theorem fr_rel (S : Sim E V0 io0 W0 C s a W) : ∀ {v : AV} {cs : List Value}, Rel E.TR C W v cs → Rel E.TR (baseCx V0 C.io) W (frAV s.objs v) cs
  | .poison, cs, h => Rel.mono E.hT (CxLe.back S) (st_rel h)
  | .undef, cs, h => Rel.mono E.hT (CxLe.back S) (st_rel h)
  | .int _, cs, h => Rel.mono E.hT (CxLe.back S) (st_rel h)
  | .bool _, cs, h => Rel.mono E.hT (CxLe.back S) (st_rel h)
  | .agg l, cs, h => by
    simp only [frAV, Rel] at h ⊢
    exact frL_rel S h
  | .arr .., cs, h => Rel.mono E.hT (CxLe.back S) (st_rel h)
  | .sl t f l, cs, h => Rel.mono E.hT (CxLe.back S) (st_rel h)
  | .tup l, cs, h => by
    simp only [frAV, Rel] at h ⊢
    obtain ⟨vs, e, h⟩ := h
    exact ⟨vs, e, frV_rel S h⟩
  | .ref k p, cs, h => by
    simp only [frAV]
    cases ho : s.objs.getD k .none with
    | box v =>
      simp only [Rel] at h
      obtain ⟨b, hb, hp, e⟩ := h
      have hk : s.objs[k]? = some (.box v) := by
        cases hq : s.objs[k]? with
        | none => simp [List.getD, hq] at ho
        | some q => simp [List.getD, hq] at ho; rw [ho]
      obtain ⟨b1, ds, ty, h1, h2, h3, h4, h5⟩ := S.bx k v hk
      rw [hb] at h1
      cases h1
      simp only [Rel]
      refine ⟨⟨b, 0, none⟩, ds.toList, Rel.mono E.hT (CxLe.back S) (st_rel h4), fun i x hi => ⟨?_, ?_⟩, hp, ?_⟩
      · have hi' : ds[i]? = some x := by simpa using hi
        have e : (⟨b, 0, none⟩ : Addr).add i = ⟨b, i, none⟩ := by
          unfold Addr.add
          split
          · rename_i h; subst h; rfl
          · simp
        rw [e]
        unfold World.cell?
        simp only [h2]
        simpa using hi'
      · intro hv
        have : b < W0.heap.size := S.old0 _ _ hv
        omega
      · rw [e]
        congr 3
        unfold Addr.add
        split
        · rename_i h; simp [h]
        · simp
    | _ =>
      simp only [Rel] at h ⊢
      obtain ⟨b, _, _, e⟩ := h
      exact ⟨_, e⟩
  | .cref v p, cs, h => Rel.mono E.hT (CxLe.back S) (st_rel h)
  | .fn f x y, cs, h => by
    simp only [frAV, Rel] at h ⊢
    obtain ⟨xs, ys, e, h1, h2⟩ := h
    exact ⟨xs, ys, e, frV_rel S h1, frV_rel S h2⟩
  | .map _, cs, h => by simp only [Rel] at h
  | .tok .., cs, h => Rel.mono E.hT (CxLe.back S) (st_rel h)
theorem frL_rel (S : Sim E V0 io0 W0 C s a W) : ∀ {l : List AV} {cs : List Value}, RelL E.TR C W l cs → RelL E.TR (baseCx V0 C.io) W (frL s.objs l) cs
  | [], cs, h => by simpa only [frL, RelL] using h
  | v :: l, cs, h => by
    simp only [frL, RelL] at h ⊢
    obtain ⟨c, d, e, hl, h1, h2⟩ := h
    exact ⟨c, d, e, by rw [fr_size, hl], fr_rel S h1, frL_rel S h2⟩
theorem frV_rel (S : Sim E V0 io0 W0 C s a W) : ∀ {l : List AV} {vs : List Value}, RelV E.TR C W l vs → RelV E.TR (baseCx V0 C.io) W (frL s.objs l) vs
  | [], cs, h => by simpa only [frL, RelV] using h
  | v :: l, cs, h => by
    simp only [frL, RelV] at h ⊢
    obtain ⟨x, r, e, h1, h2⟩ := h
    refine ⟨x, r, e, ?_, frV_rel S h2⟩
    rcases h1 with h1 | ⟨ds, g1, g2, g3⟩
    · subst h1
      exact .inl rfl
    · exact .inr ⟨ds, by rw [fr_size, g1], fr_rel S g2, by rw [g3]; simp [mkV, fr_isAg]⟩
end

theorem vr_fr (S : Sim E V0 io0 W0 C s a W) {v : AV} {x : Value} (h : VR E.TR C W v x) : VR E.TR (baseCx V0 C.io) W (frAV s.objs v) x := by
  rcases h with h1 | ⟨cs, g0, g1, g2⟩
  · subst h1
    exact .inl rfl
  · exact .inr ⟨cs, by rw [fr_size, g0], fr_rel S g1, by rw [g2]; simp only [mkV, fr_isAg]⟩

/-- One result. -/
def resM (tm : Array Value) : ResultVar → Sem Value
  | .tmp t => pure (tm.getD t undef)
  | .cell a t => do loadVar t (← asAddr (tm.getD a undef))

theorem results_eq (fn : Func) (tm : Array Value) : results fn tm = (do let vs ← fn.results.mapM (resM tm); pure (if h : vs.size = 1 then vs[0] else .tuple vs)) := rfl

theorem resV_ok (hX : CtxOK E X) (S : Sim E V0 io0 W0 C s a W) {x : ResultVar} {v : AV} (h : resV X s x = some v) :
    ∃ y, (resM a.tmps x).run E.P W = .ok y W ∧ VR E.TR C W v y := by
  cases x with
  | tmp t =>
    simp only [resV, Option.some.injEq] at h
    subst h
    exact ⟨_, rfl, S.get t⟩
  | cell b t =>
    simp only [resV] at h
    split at h
    · rename_i u hu
      split at h
      · rename_i hf
        cases h
        obtain ⟨ad, cs, e, h1, h2⟩ := S.ld (S.get b) hu
        obtain ⟨i, hi, hs, hg⟩ := fits_inv hf
        refine ⟨mkV v cs, ?_, VR.mk h1⟩
        simp only [resM, e, asAddr, Sem.run_bind, Sem.run_pure, Result.andThen_ok]
        exact run_loadVar' (hX.T t i hi) hs hg h1.len h2 size_one
      · cases h
    · cases h

theorem resVs_ok (hX : CtxOK E X) (S : Sim E V0 io0 W0 C s a W) : ∀ {l : List ResultVar} {vs : List AV}, resVs X s l = some vs →
    ∃ ys : List Value, (l.mapM (resM a.tmps)).run E.P W = .ok ys W ∧ RelV E.TR C W vs ys
  | [], vs, h => by
    cases h
    exact ⟨[], rfl, rfl⟩
  | x :: l, vs, h => by
    simp only [resVs] at h
    split at h
    · rename_i v m hv hm
      cases h
      obtain ⟨y, hy, hr⟩ := resV_ok hX S hv
      obtain ⟨ys, hys, hrs⟩ := resVs_ok hX S hm
      refine ⟨y :: ys, ?_, ?_⟩
      · rw [List.mapM_cons]
        simp only [Sem.run_bind, hy, hys, Result.andThen_ok, Sem.run_pure]
      · simp only [RelV]
        exact ⟨y, ys, rfl, hr, hrs⟩
    · cases h

theorem stL_len : ∀ l : List AV, (stL l).length = l.length
  | [] => rfl
  | v :: l => by simp only [stL, List.length_cons, stL_len l]
theorem relV_len {TR : TokRel} {C : Cx} : ∀ {l : List AV} {vs : List Value}, RelV TR C W l vs → vs.length = l.length
  | [], vs, h => by simp only [RelV] at h; subst h; rfl
  | v :: l, vs, h => by
    simp only [RelV] at h
    obtain ⟨x, r, rfl, _, h⟩ := h
    simp only [List.length_cons, relV_len h]

theorem resAV_ok (hX : CtxOK E X) (S : Sim E V0 io0 W0 C s a W) {fn : Func} {r : AV} (h : resAV X fn s = some r) : ∃ v, (results fn a.tmps).run E.P W = .ok v W ∧ VR E.TR (baseCx V0 C.io) W r v := by
  unfold resAV at h
  rw [results_eq, Array.mapM_eq_mapM_toList]
  cases hr : resVs X s fn.results.toList with
  | none => rw [hr] at h; cases h
  | some vs =>
    rw [hr] at h
    obtain ⟨ys, h1, h2⟩ := resVs_ok hX S hr
    have hrun : (do let vs ← (List.toArray <$> fn.results.toList.mapM (resM a.tmps) : Sem (Array Value)); pure (if h : vs.size = 1 then vs[0] else .tuple vs) : Sem Value).run E.P W = .ok (if h : ys.toArray.size = 1 then ys.toArray[0] else .tuple ys.toArray) W := by
      rw [map_eq_pure_bind]
      simp only [Sem.run_bind, h1, Result.andThen_ok, Sem.run_pure]
    refine ⟨_, hrun, ?_⟩
    have hlen := relV_len h2
    match vs, h, h2, hlen with
    | [v], h, h2, hlen =>
      cases h
      simp only [RelV] at h2
      obtain ⟨y, r, rfl, h3, h4⟩ := h2
      subst h4
      exact vr_fr S h3
    | [], h, h2, hlen =>
      cases h
      simp only [RelV] at h2
      subst h2
      exact .inr ⟨[.tuple #[]], rfl, by simp only [Rel]; exact ⟨[], rfl, by simp [frL, RelV]⟩, rfl⟩
    | v :: w :: l, h, h2, hlen =>
      cases h
      rw [dif_neg (by simp [hlen])]
      refine .inr ⟨[.tuple ys.toArray], rfl, ?_, rfl⟩
      simp only [Rel]
      exact ⟨ys, rfl, frV_rel S h2⟩

/-- A call's frame, as it begins: some boxes' places, and at the end, maybe, what has been told. -/
theorem st0_sim' {V : Nat → Nat → Prop} {io : Io} {args : List AV} {vs : List Value} {s0 : St} (hb : BaseOK E.toBase V io W) (hr : RelV E.TR (baseCx V io) W args vs) (fn : Func) (h0 : s0.tmps = (st0 fn args).tmps) (hob : ∀ (k : Nat) (x : Ob), s0.objs[k]? = some x → x = Ob.none ∨ x = .map 0 0 [])
    (hn : E.n0 ≤ W.heap.size) (hM : ∀ b, E.M b → b < E.n0 ∧ ∀ o, V b o) (hJ : ∀ (k : Nat), s0.objs[k]? = some (.map 0 0 []) → E.J [] V io W) :
    Sim E V io W (baseCx V io) s0 { tmps := vs.toArray ++ Array.replicate (fn.ntmps - vs.toArray.size) undef, defers := [] } W := by
  have hlen := relV_len hr
  refine ⟨?_, ?_, (DfOK.nil _ _), ?_, ?_, ?_, ?_, ?_, ?_, ?_, fun b o h => .inl h, fun b o h => h, hb.iok, hb.gl, Keep.refl _ _ _, hb.old, hn, hM, fun k x y tr _ h => ?_⟩
  · simp [h0, st0, hlen]
  · intro t x hx
    rw [h0] at hx
    have hx' : (args ++ List.replicate (fn.ntmps - args.length) AV.undef)[t]? = some x := hx
    rcases Nat.lt_or_ge t args.length with h | h
    · rw [List.getElem?_append_left h] at hx'
      obtain ⟨v, hv, hvr⟩ := relV_get hr t x hx'
      refine ⟨v, ?_, hvr⟩
      rw [Array.getElem?_append_left (by simpa [hlen] using h)]
      simpa using hv
    · rw [List.getElem?_append_right h] at hx'
      have hu := List.eq_of_mem_replicate (List.mem_of_getElem? hx')
      subst hu
      have hlt := (List.getElem?_eq_some_iff.1 hx').1
      refine ⟨undef, ?_, vr_undef⟩
      rw [Array.getElem?_append_right (by simpa [hlen] using h)]
      simp at hlt ⊢
      rw [hlen]
      simp [hlt]
  · intro k v h
    rcases hob k _ h with h | h <;> cases h
  · intro k b h
    cases h
  · intro k k' b h
    cases h
  · intro k b o h
    cases h
  · intro k v al
    exact ⟨(fun h => nomatch h), fun h => by rcases hob k _ h with h | h <;> cases h⟩
  · intro k v b lo hi o h
    cases h
  · intro k k' v v' b lo hi lo' hi' o h
    cases h
  · rcases hob k _ h with h' | h'
    · cases h'
    · cases h'
      exact hJ k h

theorem objs0 (fn : Func) (args : List AV) : ∀ (k : Nat) (x : Ob), (st0 fn args).objs[k]? = some x → x = Ob.none := fun k x h => by
  have := List.mem_of_getElem? (show (List.replicate fn.ntmps Ob.none)[k]? = some x from h)
  exact List.eq_of_mem_replicate this

theorem st0_sim {V : Nat → Nat → Prop} {io : Io} {args : List AV} {vs : List Value} (hb : BaseOK E.toBase V io W) (hr : RelV E.TR (baseCx V io) W args vs) (fn : Func) (hn : E.n0 ≤ W.heap.size) (hM : ∀ b, E.M b → b < E.n0 ∧ ∀ o, V b o) :
    Sim E V io W (baseCx V io) (st0 fn args) { tmps := vs.toArray ++ Array.replicate (fn.ntmps - vs.toArray.size) undef, defers := [] } W :=
  st0_sim' hb hr fn rfl (fun k x h => .inl (objs0 fn args k x h)) hn hM fun k h => nomatch objs0 fn args k _ h

/-- A call returns: the mark, if there is one, is taken. -/
theorem leave_ok (S : Sim E V0 io0 W0 C s a W) {fn : Func} {R : Ending → World → Prop} (h : ∀ a' W', a'.tmps = a.tmps → Sim E V0 io0 W0 C s a' W' → ∃ v, (results fn a'.tmps).run E.P W' = .ok v W' ∧ R (.returned v) W') :
    LeavesInM (Fr none) 0 E.P fn a.tmps R a.defers .returning W := by
  obtain ⟨rs, hd, hnd, hrs⟩ := S.df
  have key : ∀ (rs : List Nat) (a1 : Act) (W : World), a1.tmps = a.tmps → a1.defers = rs.map markOf → rs.Nodup → (∀ r ∈ rs, W.heap[r]? = some (.deferred (some [])) ∧ W0.heap.size ≤ r) → Sim E V0 io0 W0 C s a1 W →
      LeavesInM (Fr none) 0 E.P fn a.tmps R (rs.map markOf) .returning W := fun rs => by
    induction rs with
    | nil =>
      intro a1 W ht hd _ _ S1
      obtain ⟨v, h1, h2⟩ := h a1 W ht S1
      exact ⟨v, ht ▸ h1, h2⟩
    | cons r rs ih =>
      intro a1 W ht hd hnd hrs S1
      obtain ⟨hr, h0⟩ := hrs r (List.mem_cons_self ..)
      rw [List.nodup_cons] at hnd
      have hrs' : ∀ r1 ∈ rs, (W.putObj r (.deferred none)).heap[r1]? = some (.deferred (some [])) ∧ W0.heap.size ≤ r1 := fun r1 h1 => by
        have : r1 ≠ r := fun e => hnd.1 (e ▸ h1)
        exact ⟨(World.putObj_heap_other this).trans (hrs r1 (List.mem_cons_of_mem _ h1)).1, (hrs r1 (List.mem_cons_of_mem _ h1)).2⟩
      refine ⟨(fun h => nomatch h), .inl ⟨r, _, rfl, run_takeDeferred hr, ?_⟩⟩
      exact ih ⟨a1.tmps, rs.map markOf⟩ _ ht rfl hnd.2 hrs' (S1.turn hr (fun _ _ _ h => nomatch h) (fun _ _ h => nomatch h) h0 rfl ⟨rs, rfl, hnd.2, hrs'⟩)
  rw [hd]
  exact key rs a W rfl hd hnd hrs S

/-- **What a walk of the body answers, the call returns.** -/
theorem ctr_walk {B : Base} (hX : CtxOK B.env X) {f : Nat} {fn : Func} {c : Code} (hf : B.P.funcs[f]? = some fn) (hc : fn.body = some c) {g : List AV → Option (Bool × AV)}
    (hg : ∀ args r, g args = some (true, r) → ∃ Bw r0, Walks (ρ := AV) B.env c Bw ∧ Bw (st0 fn (wkL args)) (finK X fn) = some r0 ∧ wkAV r0 = r) : Ctr B f g := by
  intro V io W args vs r hb hr h
  obtain ⟨Bw, r0, hw, h1, hr0⟩ := hg args r h
  replace hr := wkV_rel hr
  refine calls_of_fr (ro := none) (callsIn_of_wp_marks (F := Fr none) hf hc trivial ?_)
  refine hw _ _ _ (finK X fn) r0 _ ?_ _ _ _ W h1 (st0_sim (E := B.env) hb hr fn (Nat.zero_le _) fun b hm => hm.elim)
  intro e s he C a W' S
  have fin : resAV X fn s = some r0 → LeavesInM (Fr none) 0 B.P fn a.tmps (fun e W' => ∃ v io', e = .returned v ∧ VR B.TR (baseCx V io') W' r v ∧ Keep noM io io' W W' ∧ IoOK B.MI io' W') a.defers .returning W' := fun hr =>
    leave_ok S fun a' W'' ht S' => by
      obtain ⟨v, hv, hvr⟩ := resAV_ok hX S' hr
      exact ⟨v, hv, v, C.io, rfl, hr0 ▸ vr_wk hvr, S'.kp, S'.iok⟩
  cases e with
  | norm => exact fin he
  | ret => exact fin he
  | exit j => cases he

/-- **What the evaluator answers, the call returns.** -/
theorem ctr_of {B : Base} (hX : CtxOK B.env X) {f N : Nat} {fn : Func} (hf : B.P.funcs[f]? = some fn) {g : List AV → Option (Bool × AV)} (hg : ∀ args r, g args = some (true, r) → ∃ r0, evF X N fn (wkL args) = some r0 ∧ wkAV r0 = r) : Ctr B f g := by
  cases hc : fn.body with
  | none =>
    intro V io W args vs r hb hr h
    obtain ⟨r0, h1, _⟩ := hg args r h
    unfold evF at h1
    rw [hc] at h1
    cases h1
  | some c =>
    refine ctr_walk hX hf hc fun args r h => ?_
    obtain ⟨r0, h1, h2⟩ := hg args r h
    unfold evF at h1
    rw [hc] at h1
    exact ⟨_, r0, walks_evC hX N c, h1, h2⟩

/-- The number of rounds may hang on the arguments. -/
theorem ctr_ofN {B : Base} (hX : CtxOK B.env X) {f : Nat} {fn : Func} (hf : B.P.funcs[f]? = some fn) {g : List AV → Option (Bool × AV)} (hg : ∀ args r, g args = some (true, r) → ∃ N r0, evF X N fn (wkL args) = some r0 ∧ wkAV r0 = r) : Ctr B f g := by
  cases hc : fn.body with
  | none =>
    intro V io W args vs r hb hr h
    obtain ⟨N, r0, h1, _⟩ := hg args r h
    unfold evF at h1
    rw [hc] at h1
    cases h1
  | some c =>
    refine ctr_walk hX hf hc fun args r h => ?_
    obtain ⟨N, r0, h1, h2⟩ := hg args r h
    unfold evF at h1
    rw [hc] at h1
    exact ⟨_, r0, walks_evC hX N c, h1, h2⟩

theorem ctr_ofZ {B : Base} (hX : CtxOK B.env X) {f n : Nat} {fn : Func} {z : Frz} (hz : FrzOK B.TR z) (hf : B.P.funcs[f]? = some fn) {g : List AV → Option (Bool × AV)} (hg : ∀ args r, g args = some (true, r) → ∃ N r0, evFz X N z n fn (wkL args) = some r0 ∧ wkAV r0 = r) : Ctr B f g := by
  cases hc : fn.body with
  | none =>
    intro V io W args vs r hb hr h
    obtain ⟨N, r0, h1, _⟩ := hg args r h
    unfold evFz at h1
    rw [hc] at h1
    cases h1
  | some c =>
    refine ctr_walk hX hf hc fun args r h => ?_
    obtain ⟨N, r0, h1, h2⟩ := hg args r h
    unfold evFz at h1
    rw [hc] at h1
    exact ⟨_, r0, walks_evZ hX N hz n c, h1, h2⟩

/-! Functions that tell others. -/

/-- What was told before stands ahead. -/
def Env.behind (E : Env) (tr : List AV) : Env := { E with J := fun tr' => E.J (tr ++ tr'), hJ := fun tr' => E.hJ (tr ++ tr') }

theorem st1_sim {V : Nat → Nat → Prop} {io : Io} {args : List AV} {vs : List Value} (hb : BaseOK E.toBase V io W) (hr : RelV E.TR (baseCx V io) W args vs) (fn : Func) (hn : E.n0 ≤ W.heap.size) (hM : ∀ b, E.M b → b < E.n0 ∧ ∀ o, V b o) (hJ : E.J [] V io W) :
    Sim E V io W (baseCx V io) (st1T fn args) { tmps := vs.toArray ++ Array.replicate (fn.ntmps - vs.toArray.size) undef, defers := [] } W :=
  st0_sim' hb hr fn rfl (fun k x h => by
    have h' : (List.replicate fn.ntmps Ob.none ++ [.map 0 0 []])[k]? = some x := h
    rcases List.mem_append.1 (List.mem_of_getElem? h') with h | h
    · exact .inl (List.eq_of_mem_replicate h)
    · simp at h
      exact .inr h) hn hM fun _ _ => hJ

theorem trOf_map {tr : List AV} (h : trOf s = some tr) : ∃ x y, s.objs[s.objs.length - 1]? = some (.map x y tr) := by
  unfold trOf at h
  cases hq : s.objs[s.objs.length - 1]? with
  | none => simp [List.getD, hq] at h
  | some q =>
    simp only [List.getD, hq, Option.getD_some] at h
    cases q with
    | map x y l => cases h; exact ⟨x, y, rfl⟩
    | _ => cases h

theorem tctr_walk {tr : List AV} (hX' : CtxOK (E.behind tr) X) {f : Nat} {fn : Func} {c : Code} (hf : E.P.funcs[f]? = some fn) (hc : fn.body = some c) {Bw : St → (Ex → St → Option (AV × List AV)) → Option (AV × List AV)} (hw : Walks (E.behind tr) c Bw)
    {args : List AV} {r : AV} {items : List AV} (h : Bw (st1T fn args) (finT X fn) = some (r, items)) {V : Nat → Nat → Prop} {io : Io} {vs : List Value}
    (hb : BaseOK E.toBase V io W) (hn : E.n0 ≤ W.heap.size) (hM : ∀ b, E.M b → b < E.n0 ∧ ∀ o, V b o) (hJ : E.J tr V io W) (hr : RelV E.TR (baseCx V io) W args vs) :
    Calls E.P f vs.toArray W fun e W' => ∃ v, e = .returned v ∧ ∃ io', VR E.TR (baseCx V io') W' r v ∧ Keep E.M io io' W W' ∧ IoOK E.MI io' W' ∧ E.J (tr ++ items) V io' W' := by
  refine calls_of_fr (ro := none) (callsIn_of_wp_marks (F := Fr none) hf hc trivial ?_)
  have S0 := st1_sim (E := E.behind tr) (W := W) hb hr fn hn hM (by simpa [Env.behind] using hJ)
  refine hw _ _ _ (finT X fn) (r, items) _ ?_ _ _ _ W h S0
  intro e s he C a W' S
  have fin : (match resAV X fn s, trOf s with | some v, some l => some (v, l) | _, _ => none) = some (r, items) →
      LeavesInM (Fr none) 0 E.P fn a.tmps (fun e W' => ∃ v, e = .returned v ∧ ∃ io', VR E.TR (baseCx V io') W' r v ∧ Keep E.M io io' W W' ∧ IoOK E.MI io' W' ∧ E.J (tr ++ items) V io' W') a.defers .returning W' := fun he => by
    split at he
    · rename_i v0 l0 hr0 ht
      simp only [Option.some.injEq, Prod.mk.injEq] at he
      obtain ⟨rfl, rfl⟩ := he
      refine leave_ok (E := E.behind tr) S fun a' W'' hta S' => ?_
      obtain ⟨v, hv, hvr⟩ := resAV_ok hX' S' hr0
      refine ⟨v, hv, v, rfl, C.io, hvr, S'.kp, S'.iok, ?_⟩
      obtain ⟨x, y, hmap⟩ := trOf_map ht
      have hJ' : E.J (tr ++ l0) C.V C.io W'' := S'.gh _ x y l0 (by have := (List.getElem?_eq_some_iff.1 hmap).1; omega) hmap
      exact E.hJ _ _ _ _ _ _ _ hJ' ⟨rfl, rfl, rfl, Nat.le_refl _, fun _ _ _ => rfl, ⟨fun _ _ h _ => h, fun b o _ h => S'.V0V b o h⟩, fun _ _ => rfl,
        fun b o hb' h => (S'.Vn b o h).resolve_right fun h => absurd h.1 (Nat.not_le_of_lt (Nat.lt_of_lt_of_le hb' hn)), fun b o h => Nat.lt_of_lt_of_le (hb.old b o h) S'.kp.size⟩ S'.iok
    · cases he
  cases e with
  | norm => exact fin he
  | ret => exact fin he
  | exit j => cases he

/-- **What a function that tells others answers and tells, its call returns and tells.** -/
theorem tctr_of {tr : List AV} (hX' : CtxOK (E.behind tr) X) {f N : Nat} {fn : Func} (hf : E.P.funcs[f]? = some fn) {args : List AV} {r : AV} {items : List AV} (h : evT X N fn args = some (r, items)) {V : Nat → Nat → Prop} {io : Io} {vs : List Value}
    (hb : BaseOK E.toBase V io W) (hn : E.n0 ≤ W.heap.size) (hM : ∀ b, E.M b → b < E.n0 ∧ ∀ o, V b o) (hJ : E.J tr V io W) (hr : RelV E.TR (baseCx V io) W args vs) :
    Calls E.P f vs.toArray W fun e W' => ∃ v, e = .returned v ∧ ∃ io', VR E.TR (baseCx V io') W' r v ∧ Keep E.M io io' W W' ∧ IoOK E.MI io' W' ∧ E.J (tr ++ items) V io' W' := by
  unfold evT at h
  split at h
  · rename_i c hc
    exact tctr_walk hX' hf hc (walks_evC hX' N c) h hb hn hM hJ hr
  · cases h

theorem tctr_ofZ {tr : List AV} (hX' : CtxOK (E.behind tr) X) {f N n : Nat} {fn : Func} {z : Frz} (hz : FrzOK E.TR z) (hf : E.P.funcs[f]? = some fn) {args : List AV} {r : AV} {items : List AV} (h : evTz X N z n fn args = some (r, items)) {V : Nat → Nat → Prop} {io : Io} {vs : List Value}
    (hb : BaseOK E.toBase V io W) (hn : E.n0 ≤ W.heap.size) (hM : ∀ b, E.M b → b < E.n0 ∧ ∀ o, V b o) (hJ : E.J tr V io W) (hr : RelV E.TR (baseCx V io) W args vs) :
    Calls E.P f vs.toArray W fun e W' => ∃ v, e = .returned v ∧ ∃ io', VR E.TR (baseCx V io') W' r v ∧ Keep E.M io io' W W' ∧ IoOK E.MI io' W' ∧ E.J (tr ++ items) V io' W' := by
  unfold evTz at h
  split at h
  · rename_i c hc
    exact tctr_walk hX' hf hc (walks_evZ hX' N hz n c) h hb hn hM hJ hr
  · cases h

end Ev
end Go.Proofs.YtidnikjkpbmhhaaDoor
/- The kinds of data of the program's layer 1, and what its tokens say: a film's memo, the word to a loop's body, and closures that name themselves. -/
set_option linter.unusedVariables false
set_option linter.unusedSimpArgs false
namespace Go.Proofs.YtidnikjkpbmhhaaDoor
namespace Ev

abbrev tSpan : Ty := .cons .int (.last .int)
abbrev tReel : Ty := .cons tSpan (.cons tSpan (.last tSpan))
abbrev tRF : Ty := .cons (.slice tReel) (.cons tSpan (.cons tSpan (.last .int)))
abbrev tSpot : Ty := .cons .int (.last tSpan)
abbrev tInts : Ty := .slice .int
abbrev tSpans : Ty := .slice tSpan
abbrev tRows : Ty := .slice tInts
abbrev tUsed : Ty := .arr 6 .bool
abbrev tReels : Ty := .slice tReel
abbrev tOn : Ty := .cons .int (.cons tRF (.last tRF))
abbrev tAt : Ty := .cons .int (.cons .int (.last .int))
abbrev tCh : Ty := .cons tRF (.cons tRF (.last tRF))
def zRF : tRF.den := (([] : List ((Int × Int) × (Int × Int) × (Int × Int))), ((0 : Int), (0 : Int)), ((0 : Int), (0 : Int)), (0 : Int))

abbrev DTy := (t : Ty) × t.den

/-- A memo: a map that stands for these data; or the nil map of no film. -/
def memoV (io : Io) (W : World) (d : DTy) (v : Value) : Prop := (∃ b, v = .map (some b) ∧ b < W.heap.size ∧ io b = some d) ∨ (v = .map none ∧ d = ⟨tRF, zRF⟩)
/-- A film in the calculation lies here. -/
def filmAt (V : Nat → Nat → Prop) (io : Io) (W : World) (x y : tRF.den) (fa : Addr) : Prop := ∃ cs m, CRel V W tRF x cs ∧ Cells V W fa (cs ++ [m]) ∧ memoV io W ⟨tRF, y⟩ m
def oneAt (V : Nat → Nat → Prop) (W : World) (a : Addr) (v : Value) : Prop := W.cell? a = some v ∧ ¬ V a.block a.off

/-- The function that an order is told by, as it stands in the call that ranges over the orders. -/
def onV (V : Nat → Nat → Prop) (io : Io) (W : World) (l : Int) (x y : tRF.den) (v : Value) : Prop :=
  ∃ ya fa oa : Addr, v = .func (.func 91) #[] #[.pointer (some ya), .pointer (some fa), .pointer (some oa)] ∧ oneAt V W ya (.func (.yield l.toNat) #[] #[]) ∧ filmAt V io W x y fa ∧ oneAt V W oa v
/-- The function that chooses strange reels. -/
def chV (V : Nat → Nat → Prop) (io : Io) (W : World) (x y z : tRF.den) (v : Value) : Prop :=
  ∃ fa xa ca : Addr, v = .func (.func 79) #[] #[.pointer (some fa), .pointer (some xa), .pointer (some ca)] ∧ filmAt V io W x y fa ∧ (∃ cs, CRel V W tRF z cs ∧ Cells V W xa cs) ∧ oneAt V W ca v

def TRr : TokRel := fun i t d V io W v =>
  match i with
  | 0 => memoV io W ⟨t, d⟩ v
  | 1 => ∃ l : Int, (⟨t, d⟩ : DTy) = ⟨.int, l⟩ ∧ v = .func (.yield l.toNat) #[] #[]
  | 3 => ∃ (l : Int) (x y : tRF.den), (⟨t, d⟩ : DTy) = ⟨tOn, (l, x, y)⟩ ∧ onV V io W l x y v
  | 4 => ∃ x y z : tRF.den, (⟨t, d⟩ : DTy) = ⟨tCh, (x, y, z)⟩ ∧ chV V io W x y z v
  | 6 => v = .nilFunc
  | 9 => ∃ b n c : Int, (⟨t, d⟩ : DTy) = ⟨tAt, (b, n, c)⟩ ∧ v = .slice (some ⟨b.toNat, 0, none⟩) n.toNat c.toNat
  | _ => False

theorem oneAt.mono {V V' : Nat → Nat → Prop} {W W' : World} {a : Addr} {v : Value} (hs : Stab V V' W W') (h : oneAt V W a v) : oneAt V' W' a v :=
  ⟨hs.cell _ _ h.1 h.2, fun hv => h.2 (hs.vol _ _ (World.block_lt_of_cell? W a h.1) hv)⟩
theorem memoV.mono {io io' : Io} {W W' : World} {d : DTy} {v : Value} (hi : ioLe W.heap.size io io') (hz : W.heap.size ≤ W'.heap.size) (h : memoV io W d v) : memoV io' W' d v := by
  rcases h with ⟨b, h1, h2, h3⟩ | h
  · exact .inl ⟨b, h1, Nat.lt_of_lt_of_le h2 hz, (hi b h2).trans h3⟩
  · exact .inr h
theorem filmAt.mono {V V' : Nat → Nat → Prop} {io io' : Io} {W W' : World} {x y : tRF.den} {fa : Addr} (hs : Stab V V' W W') (hi : ioLe W.heap.size io io') (hz : W.heap.size ≤ W'.heap.size) (h : filmAt V io W x y fa) : filmAt V' io' W' x y fa := by
  obtain ⟨cs, m, h1, h2, h3⟩ := h
  exact ⟨cs, m, CRel.mono hs h1, h2.mono hs, h3.mono hi hz⟩

theorem tokOK : TokOK TRr where
  mono := fun i t d V V' io io' W W' v hs hi hz h => by
    unfold TRr at h ⊢
    split at h
    · exact memoV.mono hi hz h
    · exact h
    · obtain ⟨l, x, y, h1, ya, fa, oa, h2, h3, h4, h5⟩ := h
      exact ⟨l, x, y, h1, ya, fa, oa, h2, h3.mono hs, h4.mono hs hi hz, h5.mono hs⟩
    · obtain ⟨x, y, z, h1, fa, xa, ca, h2, h3, ⟨cs, h4, h5⟩, h6⟩ := h
      exact ⟨x, y, z, h1, fa, xa, ca, h2, h3.mono hs hi hz, ⟨cs, CRel.mono hs h4, h5.mono hs⟩, h6.mono hs⟩
    · exact h
    · exact h
    · exact h
  one := fun i t d V io W v h => by
    unfold TRr at h
    split at h
    · rcases h with ⟨b, rfl, _⟩ | ⟨rfl, _⟩ <;> exact ⟨rfl, rfl⟩
    · obtain ⟨l, _, rfl⟩ := h
      exact ⟨rfl, rfl⟩
    · obtain ⟨l, x, y, _, ya, fa, oa, rfl, _⟩ := h
      exact ⟨rfl, rfl⟩
    · obtain ⟨x, y, z, _, fa, xa, ca, rfl, _⟩ := h
      exact ⟨rfl, rfl⟩
    · subst h
      exact ⟨rfl, rfl⟩
    · obtain ⟨b, n, c, _, rfl⟩ := h
      exact ⟨rfl, rfl⟩
    · exact h.elim

def castD (t t' : Ty) (d : t'.den) : Option t.den := if h : t' = t then some (h ▸ d) else none

theorem castD_eq {t t' : Ty} {d : t'.den} {x : t.den} (h : castD t t' d = some x) : (⟨t', d⟩ : DTy) = ⟨t, x⟩ := by
  unfold castD at h
  split at h
  · rename_i e
    subst e
    cases h
    rfl
  · cases h

/-! The two closures, frozen. -/

def onFrz : Frz :=
  { ks := [3, 4], k := 4, j := 2, f := 91, i := 3, t := tOn
    d := fun l => match l with
      | [.cref (.tok 1 t d) [], .cref (.agg (a :: r)) [], _] =>
        match castD .int t d, dec tRF a, r with
        | some l, some x, [.tok 0 t' d'] => (match castD tRF t' d' with | some y => some (l, x, y) | none => none)
        | _, _, _ => none
      | _ => none }

def chFrz : Frz :=
  { ks := [1, 4, 6], k := 6, j := 2, f := 79, i := 4, t := tCh
    d := fun l => match l with
      | [.cref (.agg (a :: r)) [], .cref b [], _] =>
        match dec tRF a, dec tRF b, r with
        | some x, some z, [.tok 0 t' d'] => (match castD tRF t' d' with | some y => some (x, y, z) | none => none)
        | _, _, _ => none
      | _ => none }

theorem filmAt_of {C : Cx} {W : World} {a : AV} {t : Ty} {d : t.den} {x y : tRF.den} {ds : List Value} {fa : Addr} (h : Rel TRr C W (.agg [a, .tok 0 t d]) ds) (hx : dec tRF a = some x) (hy : castD tRF t d = some y) (hc : Cells C.V W fa ds) : filmAt C.V C.io W x y fa := by
  simp only [Rel, RelL] at h
  obtain ⟨c, r, rfl, hl, h1, c2, r2, rfl, hl2, ⟨m, rfl, h2⟩, rfl⟩ := h
  have e := castD_eq hy
  cases e
  exact ⟨c, m, dec_rel hx h1, by simpa using hc, h2⟩

theorem onFrz_ok : FrzOK TRr onFrz := by
  intro V io W ys capsF d b hd hr hj hcell hV
  simp only [onFrz] at hd hj hcell ⊢
  split at hd
  · rename_i t e a r c3
    split at hd
    · rename_i l x t' d' h1 h2
      split at hd
      · rename_i y h3
        cases hd
        simp only [RelV] at hr
        obtain ⟨y1, r1, rfl, q1, y2, r2, rfl, q2, y3, r3, rfl, q3, rfl⟩ := hr
        rcases q1 with q1 | ⟨cs1, _, q1, e1⟩
        · cases q1
        rcases q2 with q2 | ⟨cs2, _, q2, e2⟩
        · cases q2
        simp only [Rel, offP, add_zero] at q1 q2
        obtain ⟨ya, ds1, ⟨v1, rfl, p1⟩, p2, _, rfl⟩ := q1
        obtain ⟨fa, ds2, p3, p4, _, rfl⟩ := q2
        have e1' : y1 = .pointer (some ya) := e1
        have e2' : y2 = .pointer (some fa) := e2
        subst e1' e2'
        simp only [List.getElem?_cons_succ, List.getElem?_cons_zero, Option.some.injEq] at hj
        subst hj
        have et := castD_eq h1
        have p1' : ∃ l0 : Int, (⟨t, e⟩ : DTy) = ⟨.int, l0⟩ ∧ v1 = .func (.yield l0.toNat) #[] #[] := p1
        obtain ⟨l0, p5, rfl⟩ := p1'
        rw [et] at p5
        cases p5
        have hfilm := filmAt_of (C := baseCx V io) (fa := fa) (by simpa only [Rel] using p3) h2 h3 p4
        have hya := p2 0 _ rfl
        rw [add_zero] at hya
        exact ⟨l, x, y, rfl, ya, fa, ⟨b, 0, none⟩, rfl, ⟨hya.1, by simpa [baseCx] using hya.2⟩, hfilm, hcell, hV⟩
      · cases hd
    · cases hd
  · cases hd

theorem chFrz_ok : FrzOK TRr chFrz := by
  intro V io W ys capsF d b hd hr hj hcell hV
  simp only [chFrz] at hd hj hcell ⊢
  split at hd
  · rename_i a r bb c3
    split at hd
    · rename_i x z t' d' h1 h2
      split at hd
      · rename_i y h3
        cases hd
        simp only [RelV] at hr
        obtain ⟨y1, r1, rfl, q1, y2, r2, rfl, q2, y3, r3, rfl, q3, rfl⟩ := hr
        rcases q1 with q1 | ⟨cs1, _, q1, e1⟩
        · cases q1
        rcases q2 with q2 | ⟨cs2, _, q2, e2⟩
        · cases q2
        simp only [Rel, offP, add_zero] at q1 q2
        obtain ⟨fa, ds2, p3, p4, _, rfl⟩ := q1
        obtain ⟨xa, ds1, p1, p2, _, rfl⟩ := q2
        have e1' : y1 = .pointer (some fa) := e1
        have e2' : y2 = .pointer (some xa) := e2
        subst e1' e2'
        simp only [List.getElem?_cons_succ, List.getElem?_cons_zero, Option.some.injEq] at hj
        subst hj
        have hfilm := filmAt_of (C := baseCx V io) (fa := fa) (by simpa only [Rel] using p3) h1 h3 p4
        exact ⟨x, y, z, rfl, fa, xa, ⟨b, 0, none⟩, rfl, hfilm, ⟨ds1, dec_rel h2 p1, p2⟩, hcell, hV⟩
      · cases hd
    · cases hd
  · cases hd

end Ev
end Go.Proofs.YtidnikjkpbmhhaaDoor
/- A check of what is known of a type; what the check lets by is so. -/
set_option linter.unusedVariables false
set_option linter.unusedSimpArgs false
namespace Go.Proofs.YtidnikjkpbmhhaaDoor
namespace Ev

/-! Values of one cell, compared. -/
def scalEq : Value → Value → Bool
  | .int .i64 a, .int .i64 b => decide (a = b)
  | .bool a, .bool b => a == b
  | .slice none 0 0, .slice none 0 0 => true
  | .map none, .map none => true
  | .nilFunc, .nilFunc => true
  | _, _ => false
theorem scalEq_ok {a b : Value} (h : scalEq a b = true) : a = b := by
  unfold scalEq at h
  split at h <;> simp_all
def scalsEq : List Value → List Value → Bool
  | [], [] => true
  | x :: xs, y :: ys => scalEq x y && scalsEq xs ys
  | _, _ => false
theorem scalsEq_ok : ∀ {xs ys : List Value}, scalsEq xs ys = true → xs = ys
  | [], [], _ => rfl
  | x :: xs, y :: ys, h => by
    simp only [scalsEq, Bool.and_eq_true] at h
    rw [scalEq_ok h.1, scalsEq_ok h.2]
  | [], _ :: _, h => nomatch h
  | _ :: _, [], h => nomatch h
def valEq : Value → Value → Bool
  | .agg a, .agg b => scalsEq a.toList b.toList
  | a, b => scalEq a b
theorem valEq_ok {a b : Value} (h : valEq a b = true) : a = b := by
  unfold valEq at h
  split at h
  · rw [Array.ext' (scalsEq_ok h)]
  · exact scalEq_ok h

/-- The film of nothing. -/
def isZ (x : tRF.den) : Bool := x.1.isEmpty && (decide (x.2.1.1 = 0) && (decide (x.2.1.2 = 0) && (decide (x.2.2.1.1 = 0) && (decide (x.2.2.1.2 = 0) && decide (x.2.2.2 = 0)))))
theorem isZ_ok {x : tRF.den} (h : isZ x = true) : x = zRF := by
  obtain ⟨l, ⟨a, b⟩, ⟨c, d⟩, e⟩ := x
  simp only [isZ, Bool.and_eq_true, decide_eq_true_eq, List.isEmpty_iff] at h
  obtain ⟨rfl, rfl, rfl, rfl, rfl, rfl⟩ := h
  rfl

/-! Zero values. -/
mutual
def zc : AV → Option (List Value)
  | .int n => some [.int .i64 n]
  | .bool b => some [.bool b]
  | .agg l => zcL l
  | .arr .int n xs => if xs.length = n then some (xs.map fun x => .int .i64 x) else none
  | .arr .bool n xs => if xs.length = n then some (xs.map fun x => .bool x) else none
  | .sl _ f [] => match f.ow with | none => some [.slice none 0 0] | some _ => none
  | .tok 0 t d => match castD tRF t d with | some x => (if isZ x = true then some [.map none] else none) | none => none
  | .tok 6 _ _ => some [.nilFunc]
  | _ => none
def zcL : List AV → Option (List Value)
  | [] => some []
  | v :: l =>
    match zc v, zcL l with
    | some a, some b => if a.length = v.size then some (a ++ b) else none
    | _, _ => none
end

theorem flat_ints {V : Nat → Nat → Prop} {W : World} : ∀ xs : List Int, Flat (CRel V W .int) xs (xs.map fun x => .int .i64 x)
  | [] => rfl
  | x :: xs => ⟨[.int .i64 x], _, rfl, rfl, flat_ints xs⟩
theorem flat_bools {V : Nat → Nat → Prop} {W : World} : ∀ xs : List Bool, Flat (CRel V W .bool) xs (xs.map fun x => .bool x)
  | [] => rfl
  | x :: xs => ⟨[.bool x], _, rfl, rfl, flat_bools xs⟩

mutual
theorem zc_rel {C : Cx} {W : World} : ∀ {v : AV} {cs : List Value}, zc v = some cs → Rel TRr C W v cs
  | .int n, cs, h => by simp only [zc] at h; cases h; simp [Rel]
  | .bool n, cs, h => by simp only [zc] at h; cases h; simp [Rel]
  | .agg l, cs, h => by
    simp only [zc] at h
    simp only [Rel]
    exact zcL_rel h
  | .arr t n xs, cs, h => by
    cases t with
    | int =>
      simp only [zc] at h
      split at h
      · rename_i e
        cases h
        simp only [Rel]
        exact ⟨e, flat_ints xs⟩
      · cases h
    | bool =>
      simp only [zc] at h
      split at h
      · rename_i e
        cases h
        simp only [Rel]
        exact ⟨e, flat_bools xs⟩
      · cases h
    | _ => simp [zc] at h
  | .sl t f [], cs, h => by
    simp only [zc] at h
    split at h
    · rename_i e
      cases h
      exact rel_nil (E := Base.env { P := default, TR := TRr, hT := tokOK, MI := fun _ _ _ => True, GL := [] }) t f e
    · cases h
  | .sl t f (_ :: _), cs, h => by simp [zc] at h
  | .tok 0 t d, cs, h => by
    simp only [zc] at h
    split at h
    · rename_i x e
      split at h
      · rename_i hz
        cases h
        simp only [Rel]
        exact ⟨_, rfl, .inr ⟨rfl, by rw [← isZ_ok hz]; exact castD_eq e⟩⟩
      · cases h
    · cases h
  | .tok 6 t d, cs, h => by
    simp only [zc] at h
    cases h
    simp only [Rel]
    exact ⟨_, rfl, rfl⟩
  | .tok 1 t d, cs, h => by simp [zc] at h
  | .tok 2 t d, cs, h => by simp [zc] at h
  | .tok 3 t d, cs, h => by simp [zc] at h
  | .tok 4 t d, cs, h => by simp [zc] at h
  | .tok 5 t d, cs, h => by simp [zc] at h
  | .tok (_ + 7) t d, cs, h => by simp [zc] at h
  | .poison, cs, h => by simp [zc] at h
  | .undef, cs, h => by simp [zc] at h
  | .tup _, cs, h => by simp [zc] at h
  | .ref .., cs, h => by simp [zc] at h
  | .cref .., cs, h => by simp [zc] at h
  | .fn .., cs, h => by simp [zc] at h
  | .map _, cs, h => by simp [zc] at h
theorem zcL_rel {C : Cx} {W : World} : ∀ {l : List AV} {cs : List Value}, zcL l = some cs → RelL TRr C W l cs
  | [], cs, h => by simp only [zcL] at h; cases h; simp [RelL]
  | v :: l, cs, h => by
    simp only [zcL] at h
    split at h
    · rename_i a b ha hb
      split at h
      · rename_i e
        cases h
        simp only [RelL]
        exact ⟨a, b, rfl, e, zc_rel ha, zcL_rel hb⟩
      · cases h
    · cases h
end

mutual
def dc : (t : Ty) → Option (List Value)
  | .int => some [.int .i64 0]
  | .bool => some [.bool false]
  | .last a => dc a
  | .cons a b => match dc a, dc b with | some x, some y => some (x ++ y) | _, _ => none
  | .slice _ => some [.slice none 0 0]
  | .arr _ _ => none
end
theorem dc_rel {V : Nat → Nat → Prop} {W : World} : ∀ {t : Ty} {cs : List Value}, dc t = some cs → CRel V W t t.dflt cs
  | .int, cs, h => by simp only [dc] at h; cases h; rfl
  | .bool, cs, h => by simp only [dc] at h; cases h; rfl
  | .last a, cs, h => by simp only [dc] at h; exact dc_rel (t := a) h
  | .cons a b, cs, h => by
    simp only [dc] at h
    split at h
    · rename_i x y hx hy
      cases h
      exact ⟨x, y, rfl, dc_rel hx, dc_rel hy⟩
    · cases h
  | .slice t, cs, h => by
    simp only [dc] at h
    cases h
    exact ⟨none, 0, rfl, Nat.le_refl _, fun j x h => by simp [Ty.dflt] at h⟩
  | .arr _ _, cs, h => by simp [dc] at h

/-! Comparable trees of numbers and truths. -/
def flatF (P : Program) (g : TypeId → Option (List Bool)) : List Field → Nat → Option (List Bool)
  | [], _ => some []
  | f :: fs, off =>
    if f.name = "_" then none else
    if f.offset = off then
      match g f.type, P.info? f.type with
      | some ks, some i => if i.size = ks.length ∧ 0 < ks.length then (match flatF P g fs (off + ks.length) with | some r => some (ks ++ r) | none => none) else none
      | _, _ => none
    else none
def flatK (P : Program) : Nat → TypeId → Option (List Bool)
  | 0, _ => none
  | d + 1, t =>
    match P.underlying t with
    | some (.int _) => some [false]
    | some .bool => some [true]
    | some (.struct fs) => if P.stoodInHeld t = true then none else flatF P (flatK P d) fs.toList 0
    | some (.array n e) =>
      match P.underlying e, P.info? e with
      | some .bool, some i => if i.size = 1 ∧ 0 < d then some (List.replicate n true) else none
      | _, _ => none
    | _ => none


theorem kindsV_len : ∀ {xs : List Value} {ks : List Bool}, kindsV xs = some ks → xs.length = ks.length
  | [], ks, h => by simp only [kindsV] at h; cases h; rfl
  | x :: xs, ks, h => by
    cases x with
    | int k n =>
      cases k <;> simp only [kindsV] at h <;> first
        | (cases h; done)
        | (cases hx : kindsV xs with
           | none => rw [hx] at h; cases h
           | some r =>
             rw [hx] at h
             cases h
             simp [kindsV_len hx])
    | bool b =>
      simp only [kindsV] at h
      cases hx : kindsV xs with
      | none => rw [hx] at h; cases h
      | some r =>
        rw [hx] at h
        cases h
        simp [kindsV_len hx]
    | _ => simp [kindsV] at h

/-- Kinds of a list in two parts. -/
theorem kindsV_split {ks ls : List Bool} {xs : List Value} (h : kindsV xs = some (ks ++ ls)) : kindsV (xs.take ks.length) = some ks ∧ kindsV (xs.drop ks.length) = some ls := by
  induction ks generalizing xs with
  | nil => exact ⟨rfl, by simpa using h⟩
  | cons k ks ih =>
    cases xs with
    | nil => simp [kindsV] at h
    | cons x xs =>
      cases x with
      | int q n =>
        cases q <;> simp only [kindsV] at h <;> first
          | (cases h; done)
          | (cases hx : kindsV xs with
             | none => rw [hx] at h; cases h
             | some r =>
               rw [hx] at h
               simp only [Option.map_some, List.cons_append, Option.some.injEq, List.cons.injEq] at h
               obtain ⟨rfl, rfl⟩ := h
               obtain ⟨h1, h2⟩ := ih hx
               exact ⟨by simp [kindsV, h1], by simpa using h2⟩)
      | bool q =>
        simp only [kindsV] at h
        cases hx : kindsV xs with
        | none => rw [hx] at h; cases h
        | some r =>
          rw [hx] at h
          simp only [Option.map_some, List.cons_append, Option.some.injEq, List.cons.injEq] at h
          obtain ⟨rfl, rfl⟩ := h
          obtain ⟨h1, h2⟩ := ih hx
          exact ⟨by simp [kindsV, h1], by simpa using h2⟩
      | _ => simp [kindsV] at h

theorem eqVals_of_kinds : ∀ {xs ys : List Value} {ks : List Bool}, kindsV xs = some ks → kindsV ys = some ks → ∃ r, eqVals xs ys = some r
  | [], ys, ks, h, h' => by
    simp only [kindsV] at h
    cases h
    have := kindsV_len h'
    have : ys = [] := List.eq_nil_of_length_eq_zero (by simpa using this)
    subst this
    exact ⟨true, rfl⟩
  | x :: xs, ys, ks, h, h' => by
    cases ys with
    | nil => simp only [kindsV] at h'; cases h'; have := kindsV_len h; simp at this
    | cons y ys =>
      cases hx : kindsV xs with
      | none =>
        cases x with
        | int q n => cases q <;> simp [kindsV, hx] at h
        | bool q => simp [kindsV, hx] at h
        | _ => simp [kindsV] at h
      | some r =>
        cases hy : kindsV ys with
        | none =>
          cases y with
          | int q n => cases q <;> simp [kindsV, hy] at h'
          | bool q => simp [kindsV, hy] at h'
          | _ => simp [kindsV] at h'
        | some r' =>
          cases x with
          | int q n =>
            cases q <;> simp only [kindsV, hx, Option.map_some, reduceCtorEq] at h
            cases h
            cases y with
            | int q' m =>
              cases q' <;> simp only [kindsV, hy, Option.map_some, reduceCtorEq] at h'
              simp only [Option.some.injEq, List.cons.injEq, true_and] at h'
              subst h'
              obtain ⟨b, hb⟩ := eqVals_of_kinds hx hy
              exact ⟨_, by simp only [eqVals, hb, Option.map_some]; rfl⟩
            | bool q' => simp [kindsV, hy] at h'
            | _ => simp [kindsV] at h'
          | bool q =>
            simp only [kindsV, hx, Option.map_some] at h
            cases h
            cases y with
            | bool q' =>
              simp only [kindsV, hy, Option.map_some, Option.some.injEq, List.cons.injEq, true_and] at h'
              subst h'
              obtain ⟨b, hb⟩ := eqVals_of_kinds hx hy
              exact ⟨_, by simp only [eqVals, hb, Option.map_some]; rfl⟩
            | int q' m => cases q' <;> simp [kindsV, hy] at h'
            | _ => simp [kindsV] at h'
          | _ => simp [kindsV] at h

theorem eqVals_append : ∀ {xs ys xs' ys' : List Value} {r : Bool}, eqVals xs ys = some r → eqVals (xs ++ xs') (ys ++ ys') = (eqVals xs' ys').map (r && ·)
  | [], [], xs', ys', r, h => by
    cases h
    simp only [List.nil_append]
    cases eqVals xs' ys' <;> simp
  | [], _ :: _, xs', ys', r, h => by simp [eqVals] at h
  | x :: xs, [], xs', ys', r, h => by cases x <;> simp [eqVals] at h
  | x :: xs, y :: ys, xs', ys', r, h => by
    cases x with
    | int q n =>
      cases y with
      | int q' m =>
        cases q <;> cases q' <;> simp only [eqVals, reduceCtorEq] at h
        cases hq : eqVals xs ys with
        | none => rw [hq] at h; cases h
        | some b =>
          rw [hq] at h
          cases h
          simp only [List.cons_append, eqVals, eqVals_append hq]
          cases eqVals xs' ys' <;> simp [Bool.and_assoc]
      | _ => cases q <;> simp [eqVals] at h
    | bool q =>
      cases y with
      | bool q' =>
        simp only [eqVals] at h
        cases hq : eqVals xs ys with
        | none => rw [hq] at h; cases h
        | some b =>
          rw [hq] at h
          cases h
          simp only [List.cons_append, eqVals, eqVals_append hq]
          cases eqVals xs' ys' <;> simp [Bool.and_assoc]
      | _ => simp [eqVals] at h
    | _ => simp [eqVals] at h

/-- A value of a type, out of its cells. -/
def valT (P : Program) (t : TypeId) (xs : List Value) : Value := match P.underlying t with | some d => if isAggD d = true then .agg xs.toArray else xs.headD undef | none => undef

theorem part_run {P : Program} {t : TypeId} {d : TypeDesc} {i : TypeInfo} {cs : List Value} {off : Nat} (hu : P.underlying t = some d) (hi : P.info? t = some i) (h1 : off + i.size ≤ cs.length) (h2 : isAggD d = false → i.size = 1) (W : World) :
    (part t cs.toArray off).run P W = .ok (valT P t ((cs.drop off).take i.size)) W := by
  have ha := run_isAgg (E := Base.env { P, TR := TRr, hT := tokOK, MI := fun _ _ _ => True, GL := [] }) hu W
  have hs := run_sizeOf' (E := Base.env { P, TR := TRr, hT := tokOK, MI := fun _ _ _ => True, GL := [] }) hi W
  have ha : (isAgg t).run P W = .ok (isAggD d) W := ha
  have hs : (sizeOf t).run P W = .ok i.size W := hs
  simp only [part, Sem.run_bind, ha, Result.andThen_ok, valT, hu]
  cases hd : isAggD d with
  | true =>
    simp only [if_true, Sem.run_bind, hs, Result.andThen_ok, Sem.run_pure]
    congr 2
    apply Array.ext'
    simp [List.extract_eq_take_drop, List.take_drop]
  | false =>
    have h3 := h2 hd
    have hlt : off < cs.length := by omega
    simp only [Bool.false_eq_true, if_false]
    have : cs.toArray[off]? = some cs[off] := by simp [hlt]
    rw [this]
    simp only [Sem.run_pure]
    congr 1
    rw [h3, List.drop_eq_getElem_cons hlt]
    rfl

/-- Equal as trees of cells. -/
def EqAt (P : Program) (d : Nat) (t : TypeId) (ks : List Bool) : Prop :=
  ∀ n, d ≤ n → ∀ xs ys r W, kindsV xs = some ks → kindsV ys = some ks → eqVals xs ys = some r → (Op.equalIn n t (valT P t xs) (valT P t ys)).run P W = .ok r W

theorem flatF_ok {P : Program} {d : Nat} {g : TypeId → Option (List Bool)} (hg : ∀ t ks, g t = some ks → EqAt P d t ks ∧ ∃ u, P.underlying t = some u ∧ (isAggD u = false → ks.length = 1)) : ∀ {fs : List Field} {off : Nat} {ks : List Bool}, flatF P g fs off = some ks →
    ∀ n, d ≤ n → ∀ (X Y : List Value) r W, kindsV (X.drop off) = some ks → kindsV (Y.drop off) = some ks → eqVals (X.drop off) (Y.drop off) = some r → (Op.eqFields n X.toArray Y.toArray fs).run P W = .ok r W
  | [], off, ks, h, n, hn, X, Y, r, W, hx, hy, hr => by
    simp only [flatF] at h
    cases h
    have e1 : X.drop off = [] := List.eq_nil_of_length_eq_zero (by simpa using kindsV_len hx)
    have e2 : Y.drop off = [] := List.eq_nil_of_length_eq_zero (by simpa using kindsV_len hy)
    rw [e1, e2] at hr
    cases hr
    simp [Op.eqFields]
  | f :: fs, off, ks, h, n, hn, X, Y, r, W, hx, hy, hr => by
    simp only [flatF] at h
    split at h
    · cases h
    · rename_i hname
      split at h
      · rename_i hoff
        split at h
        · rename_i k0 i hk0 hi
          split at h
          · rename_i hsz
            obtain ⟨hsz, hpos⟩ := hsz
            split at h
            · rename_i k1 hk1
              cases h
              obtain ⟨he, u, hu, hone⟩ := hg _ _ hk0
              obtain ⟨x1, x2⟩ := kindsV_split hx
              obtain ⟨y1, y2⟩ := kindsV_split hy
              rw [List.drop_drop] at x2 y2
              have hlx := kindsV_len hx
              have hly := kindsV_len hy
              simp only [List.length_drop, List.length_append] at hlx hly
              have hpx := part_run (t := f.type) (cs := X) (off := off) hu hi (by omega) (fun h => by rw [hsz]; exact hone h) W
              have hpy := part_run (t := f.type) (cs := Y) (off := off) hu hi (by omega) (fun h => by rw [hsz]; exact hone h) W
              rw [hsz] at hpx hpy
              obtain ⟨b, hb⟩ := eqVals_of_kinds x1 y1
              obtain ⟨c, hc⟩ := eqVals_of_kinds x2 y2
              have happ : eqVals (X.drop off) (Y.drop off) = some (b && c) := by
                have := eqVals_append (xs' := X.drop (off + k0.length)) (ys' := Y.drop (off + k0.length)) hb
                rw [hc, ← List.drop_drop, ← List.drop_drop, List.take_append_drop, List.take_append_drop] at this
                exact this
              rw [hr] at happ
              cases happ
              have heq := he n hn _ _ b W x1 y1 hb
              have ih := flatF_ok hg hk1 n hn X Y c W x2 y2 hc
              subst hoff
              simp only [Op.eqFields, ne_eq, hname, not_false_eq_true, if_true, Sem.run_bind, hpx, hpy, Result.andThen_ok, heq]
              cases b with
              | true => simpa using ih
              | false => simp
            · cases h
          · cases h
        · cases h
      · cases h


theorem kinds_one {b : Bool} {xs : List Value} (h : kindsV xs = some [b]) : (b = false ∧ ∃ n, xs = [.int .i64 n]) ∨ (b = true ∧ ∃ q, xs = [.bool q]) := by
  have hl := kindsV_len h
  match xs, hl with
  | [x], _ =>
    cases x with
    | int k n =>
      cases k <;> simp [kindsV] at h
      exact .inl ⟨h, n, rfl⟩
    | bool q =>
      simp [kindsV] at h
      exact .inr ⟨h, q, rfl⟩
    | _ => simp [kindsV] at h

theorem eqItems_ok {P : Program} {n : Nat} {e : TypeId} {i : TypeInfo} (hu : P.underlying e = some .bool) (hi : P.info? e = some i) (h1 : i.size = 1) (hc : P.cellsOf e = 1) (hn : 1 ≤ n) : ∀ (m k : Nat) (X Y : List Value) r W, kindsV (X.drop k) = some (List.replicate m true) → kindsV (Y.drop k) = some (List.replicate m true) → eqVals (X.drop k) (Y.drop k) = some r →
    (Op.eqItems n e (P.cellsOf e) X.toArray Y.toArray (List.range' k m)).run P W = .ok r W
  | 0, k, X, Y, r, W, hx, hy, hr => by
    have e1 : X.drop k = [] := List.eq_nil_of_length_eq_zero (by simpa using kindsV_len hx)
    have e2 : Y.drop k = [] := List.eq_nil_of_length_eq_zero (by simpa using kindsV_len hy)
    rw [e1, e2] at hr
    cases hr
    simp [Op.eqItems]
  | m + 1, k, X, Y, r, W, hx, hy, hr => by
    have hx' : kindsV (X.drop k) = some ([true] ++ List.replicate m true) := by rw [hx]; rfl
    have hy' : kindsV (Y.drop k) = some ([true] ++ List.replicate m true) := by rw [hy]; rfl
    obtain ⟨x1, x2⟩ := kindsV_split hx'
    obtain ⟨y1, y2⟩ := kindsV_split hy'
    rw [List.drop_drop] at x2 y2
    have hlx := kindsV_len hx'
    have hly := kindsV_len hy'
    simp only [List.length_drop, List.length_append, List.length_cons, List.length_nil, List.length_replicate] at hlx hly x1 y1 x2 y2
    have hpx := part_run (t := e) (cs := X) (off := k * P.cellsOf e) hu hi (by rw [hc, h1]; omega) (fun _ => h1) W
    have hpy := part_run (t := e) (cs := Y) (off := k * P.cellsOf e) hu hi (by rw [hc, h1]; omega) (fun _ => h1) W
    rw [h1, hc, Nat.mul_one] at hpx hpy
    obtain ⟨b, hb⟩ := eqVals_of_kinds x1 y1
    obtain ⟨c, hcc⟩ := eqVals_of_kinds x2 y2
    have happ : eqVals (X.drop k) (Y.drop k) = some (b && c) := by
      have := eqVals_append (xs' := X.drop (k + 1)) (ys' := Y.drop (k + 1)) hb
      simp only [Nat.zero_add] at hcc
      rw [hcc, ← List.drop_drop, ← List.drop_drop] at this
      simpa only [Nat.zero_add, List.take_append_drop, Option.map_some] using this
    rw [hr] at happ
    cases happ
    have ih := eqItems_ok hu hi h1 hc hn m (k + 1) X Y c W (by simpa using x2) (by simpa using y2) (by simpa using hcc)
    have hv : ∀ xs : List Value, kindsV xs = some [true] → ∃ q, xs = [.bool q] := fun xs h => by
      rcases kinds_one h with ⟨h, _⟩ | ⟨_, h⟩
      · cases h
      · exact h
    obtain ⟨p, hp⟩ := hv _ (by simpa using x1)
    obtain ⟨q, hq⟩ := hv _ (by simpa using y1)
    simp only [Nat.zero_add] at hb
    rw [hp, hq] at hb
    rw [hp] at hpx
    rw [hq] at hpy
    have e1 : valT P e [.bool p] = .bool p := by simp [valT, hu, isAggD]
    have e2 : valT P e [.bool q] = .bool q := by simp [valT, hu, isAggD]
    rw [e1] at hpx
    rw [e2] at hpy
    simp only [eqVals, Option.map_some, Option.some.injEq, Bool.and_true] at hb
    obtain ⟨n', rfl⟩ : ∃ n', n = n' + 1 := ⟨n - 1, by omega⟩
    have heq := run_equalIn_bool' (P := P) W n' e p q hu
    have hk : k * P.cellsOf e = k := by rw [hc, Nat.mul_one]
    simp only [List.range'_succ, Op.eqItems, Sem.run_bind, hk, hpx, hpy, Result.andThen_ok, heq, hb]
    cases b with
    | true => simpa using ih
    | false => simp

theorem flatK_ok {P : Program} : ∀ (d : Nat) (t : TypeId) (ks : List Bool), flatK P d t = some ks → EqAt P d t ks ∧ ∃ u, P.underlying t = some u ∧ (isAggD u = false → ks.length = 1)
  | 0, t, ks, h => by cases h
  | d + 1, t, ks, h => by
    simp only [flatK] at h
    split at h
    · rename_i q hu
      cases h
      refine ⟨fun n hn xs ys r W hx hy hr => ?_, _, hu, fun _ => rfl⟩
      obtain ⟨n', rfl⟩ : ∃ n', n = n' + 1 := ⟨n - 1, by omega⟩
      rcases kinds_one hx with ⟨_, a, rfl⟩ | ⟨h, _⟩
      · rcases kinds_one hy with ⟨_, b, rfl⟩ | ⟨h, _⟩
        · have e1 : ∀ a : Int, valT P t [.int .i64 a] = .int .i64 a := fun a => by simp [valT, hu, isAggD]
          rw [e1, e1, run_equalIn_int W n' t .i64 q a b hu]
          simp only [eqVals, Option.map_some, Option.some.injEq, Bool.and_true] at hr
          rw [← hr]
          congr 1
        · cases h
      · cases h
    · rename_i hu
      cases h
      refine ⟨fun n hn xs ys r W hx hy hr => ?_, _, hu, fun _ => rfl⟩
      obtain ⟨n', rfl⟩ : ∃ n', n = n' + 1 := ⟨n - 1, by omega⟩
      rcases kinds_one hx with ⟨h, _⟩ | ⟨_, a, rfl⟩
      · cases h
      · rcases kinds_one hy with ⟨h, _⟩ | ⟨_, b, rfl⟩
        · cases h
        · have e1 : ∀ a : Bool, valT P t [.bool a] = .bool a := fun a => by simp [valT, hu, isAggD]
          rw [e1, e1, run_equalIn_bool' W n' t a b hu]
          simp only [eqVals, Option.map_some, Option.some.injEq, Bool.and_true] at hr
          rw [← hr]
    · rename_i fs hu
      split at h
      · cases h
      · rename_i hst
        refine ⟨fun n hn xs ys r W hx hy hr => ?_, _, hu, fun h => nomatch h⟩
        obtain ⟨n', rfl⟩ : ∃ n', n = n' + 1 := ⟨n - 1, by omega⟩
        have hf : P.fieldsOf t = fs := by simp [Program.fieldsOf, hu]
        have e1 : ∀ l : List Value, valT P t l = .agg l.toArray := fun l => by simp [valT, hu, isAggD]
        rw [e1, e1, run_equalIn_struct W n' t _ _ (by rw [hf]; exact hu) (by simpa using hst), hf]
        exact flatF_ok (fun t ks h => flatK_ok d t ks h) h n' (by omega) xs ys r W (by simpa using hx) (by simpa using hy) (by simpa using hr)
    · rename_i m e hu
      split at h
      · rename_i i hue hie
        split at h
        · rename_i h1
          cases h
          refine ⟨fun n hn xs ys r W hx hy hr => ?_, _, hu, fun h => nomatch h⟩
          obtain ⟨n', rfl⟩ : ∃ n', n = n' + 1 := ⟨n - 1, by omega⟩
          have e1 : ∀ l : List Value, valT P t l = .agg l.toArray := fun l => by simp [valT, hu, isAggD]
          rw [e1, e1, run_equalIn_array W n' _ _ hu hie, List.range_eq_range']
          exact eqItems_ok hue hie h1.1 (by simp [Program.cellsOf, hie, h1.1]) (by omega) m 0 xs ys r W (by simpa using hx) (by simpa using hy) (by simpa using hr)
        · cases h
      · cases h
    · cases h


/-! All that is known of a type, checked. -/

def chkFlds (P : Program) (t : TypeId) (l : List (Nat × Nat)) : Bool :=
  match l with
  | [] => true
  | _ =>
    match P.underlying t with
    | some (.struct fs) => decide (fs.toList.map (fun f => (f.offset, f.type)) = l) && fs.toList.all (fun f => match P.info? f.type with | some i => !decide (i.size = 0) | none => false)
    | _ => false
def chkZero (P : Program) (t : TypeId) (i : Ti) : Bool :=
  match i.zero with
  | none => true
  | some z =>
    match P.info? t with
    | some inf =>
      match inf.zero, zc z with
      | some v, some cs => valEq v (mkV z cs) && (decide (cs.length = z.size) && (decide (z.size = i.sz) && ((isAg z == i.ag) && clean z)))
      | _, _ => false
    | none => false
def chkEl (P : Program) (t : TypeId) (i : Ti) : Bool :=
  match i.el with
  | none => true
  | some (e, te, by_) =>
    match P.underlying t, P.info? te with
    | some (.slice te'), some inf =>
      decide (te' = te) && (decide (0 < e.size) && (decide (0 < by_) && (decide (inf.size = e.size) && (decide (inf.bytes = by_) &&
        (match inf.zero, dc e with | some zv, some cs => scalsEq zv.cells.toList cs && decide (cs.length = e.size) | _, _ => false)))))
    | _, _ => false
def chkAr (P : Program) (t : TypeId) (i : Ti) : Bool :=
  match i.ar with
  | none => true
  | some (n, te, tid) =>
    match P.underlying t, P.info? tid, P.underlying tid with
    | some (.array n' tid'), some inf, some d => decide (n' = n) && (decide (tid' = tid) && (decide (inf.size = te.size) && (isAggD d == isAgT te)))
    | _, _, _ => false
def chkTi (P : Program) (t : TypeId) (i : Ti) : Bool :=
  (match P.info? t with | some inf => decide (inf.size = i.sz) | none => false) && ((match P.underlying t with | some d => isAggD d == i.ag | none => false) && (chkZero P t i && (chkFlds P t i.flds && (chkEl P t i && (chkAr P t i &&
    ((if i.bl = true then (match P.underlying t with | some .bool => true | _ => false) else true) && (match i.eq with | [] => true | ks => i.ag && (!P.eqGuardType P.depth t && decide (flatK P 20 t = some ks)))))))))

theorem mapM_infos {P : Program} : ∀ {fs : List Field}, (∀ f ∈ fs, ∃ i, P.info? f.type = some i) → ∃ pl, fs.mapM (fun f => (P.info? f.type).map fun i => (f.offset, i.size)) = some pl ∧ ∀ (k : Nat) (f : Field), fs[k]? = some f → ∃ i, P.info? f.type = some i ∧ pl[k]? = some (f.offset, i.size)
  | [], _ => ⟨[], rfl, fun k f h => by simp at h⟩
  | f :: fs, h => by
    obtain ⟨i, hi⟩ := h f (List.mem_cons_self ..)
    obtain ⟨pl, h1, h2⟩ := mapM_infos (fs := fs) fun g hg => h g (List.mem_cons_of_mem _ hg)
    refine ⟨(f.offset, i.size) :: pl, ?_, fun k g hg => ?_⟩
    · rw [List.mapM_cons, hi, h1]
      rfl
    · cases k with
      | zero =>
        simp only [List.getElem?_cons_zero, Option.some.injEq] at hg
        subst hg
        exact ⟨i, hi, rfl⟩
      | succ k => exact h2 k g (by simpa using hg)

theorem chkTi_ok {B : Base} (hTR : B.TR = TRr) {t : TypeId} {i : Ti} (h : chkTi B.P t i = true) : TiOK B t i := by
  simp only [chkTi, Bool.and_eq_true] at h
  obtain ⟨h1, h2, h3, h4, h5, h6, h7, h8⟩ := h
  have hfl : ∀ (f off ft : Nat), i.flds[f]? = some (off, ft) → ∃ fs fd, B.P.underlying t = some (.struct fs) ∧ fs[f]? = some fd ∧ fd.offset = off ∧ fd.type = ft ∧ (∀ g ∈ fs.toList, ∃ j, B.P.info? g.type = some j) ∧ ∃ inf, B.P.info? ft = some inf ∧ inf.size ≠ 0 := fun f off ft hf => by
    unfold chkFlds at h4
    split at h4
    · rename_i e
      rw [e] at hf
      simp at hf
    · split at h4
      · rename_i fs hu
        simp only [Bool.and_eq_true, decide_eq_true_eq] at h4
        obtain ⟨g1, g2⟩ := h4
        rw [← g1, List.getElem?_map] at hf
        cases hq : fs.toList[f]? with
        | none => rw [hq] at hf; cases hf
        | some fd =>
          rw [hq] at hf
          simp only [Option.map_some, Option.some.injEq, Prod.mk.injEq] at hf
          obtain ⟨rfl, rfl⟩ := hf
          have hall := List.all_eq_true.1 g2
          refine ⟨fs, fd, hu, by simpa using hq, rfl, rfl, fun g hg => ?_, ?_⟩
          · have := hall g hg
            split at this
            · rename_i j hj
              exact ⟨j, hj⟩
            · cases this
          · have := hall fd (List.mem_of_getElem? hq)
            split at this
            · rename_i j hj
              exact ⟨j, hj, by simpa using this⟩
            · cases this
      · cases h4
  refine ⟨?_, ?_, ?_, ?_, ?_, ?_, ?_, ?_, ?_⟩
  · split at h1
    · rename_i inf hi
      exact ⟨inf, hi, by simpa using h1⟩
    · cases h1
  · split at h2
    · rename_i d hd
      exact ⟨d, hd, by simpa using h2⟩
    · cases h2
  · intro z hz
    unfold chkZero at h3
    rw [hz] at h3
    dsimp only at h3
    split at h3
    · rename_i inf hi
      split at h3
      · rename_i v cs hv hc
        simp only [Bool.and_eq_true, decide_eq_true_eq, beq_iff_eq] at h3
        obtain ⟨g1, g2, g3, g4, g5⟩ := h3
        exact ⟨inf, v, hi, hv, g3, g4, g5, fun C W => ⟨cs, g2, hTR ▸ zc_rel hc, valEq_ok g1⟩⟩
      · cases h3
    · cases h3
  · intro f off ft hf
    obtain ⟨fs, fd, g1, g2, g3, g4, _, g5⟩ := hfl f off ft hf
    exact ⟨fs, fd, g1, g2, g3, g4, g5⟩
  · intro e te by_ he
    unfold chkEl at h5
    rw [he] at h5
    dsimp only at h5
    split at h5
    · rename_i te' inf hu hi
      simp only [Bool.and_eq_true, decide_eq_true_eq] at h5
      obtain ⟨rfl, g2, g3, g4, g5, g6⟩ := h5
      split at g6
      · rename_i zv cs hz hc
        simp only [Bool.and_eq_true, decide_eq_true_eq] at g6
        have e1 := scalsEq_ok g6.1
        exact ⟨hu, g2, g3, inf, zv, hi, g4, g5, hz, by rw [← g6.2, ← e1]; simp, fun V W => by rw [e1]; exact dc_rel hc⟩
      · cases g6
    · cases h5
  · intro n te tid ha
    unfold chkAr at h6
    rw [ha] at h6
    dsimp only at h6
    split at h6
    · rename_i n' tid' inf d hu hi hd
      simp only [Bool.and_eq_true, decide_eq_true_eq, beq_iff_eq] at h6
      obtain ⟨rfl, rfl, g3, g4⟩ := h6
      exact ⟨inf, d, hu, hi, g3, hd, g4⟩
    · cases h6
  · intro hb
    rw [if_pos hb] at h7
    split at h7
    · rename_i hu
      exact hu
    · cases h7
  · intro he
    split at h8
    · rename_i e
      exact absurd e he
    · rename_i ks hne
      simp only [Bool.and_eq_true, Bool.not_eq_true', decide_eq_true_eq] at h8
      obtain ⟨gag, g1, g2⟩ := h8
      obtain ⟨e1, u, hu, hone⟩ := flatK_ok 20 t _ g2
      refine ⟨g1, fun xs ys r W hx hy hr => ?_⟩
      have := e1 10000 (by omega) xs ys r W hx hy hr
      have hag : isAggD u = true ∨ isAggD u = false := by cases isAggD u <;> simp
      rcases hag with hag | hag
      · have ev : ∀ l : List Value, valT B.P t l = .agg l.toArray := fun l => by simp [valT, hu, hag]
        rw [ev, ev] at this
        exact this
      · rw [hu] at h2
        dsimp only at h2
        rw [hag, gag] at h2
        cases h2
  · intro _ hf
    cases hl : i.flds with
    | nil => exact absurd hl hf
    | cons x l =>
      obtain ⟨off, ft⟩ := x
      obtain ⟨fs, fd, g1, g2, g3, g4, g5, _⟩ := hfl 0 off ft (by rw [hl]; rfl)
      obtain ⟨pl, q1, q2⟩ := mapM_infos g5
      refine ⟨fs, pl, g1, q1, fun f off' ft' hf' => ?_⟩
      obtain ⟨fs', fd', k1, k2, k3, k4, _⟩ := hfl f off' ft' (by rw [hl]; exact hf')
      rw [g1] at k1
      cases k1
      obtain ⟨j, hj, hp⟩ := q2 f fd' (by simpa using k2)
      exact ⟨j, by rw [← k4]; exact hj, by rw [← k3]; exact hp⟩

def chkAll (P : Program) : Tbl → Bool
  | [] => true
  | (t, i) :: r => chkTi P t i && chkAll P r

theorem chkAll_ok {B : Base} (hTR : B.TR = TRr) : ∀ {T : Tbl}, chkAll B.P T = true → TblOK B T
  | [], _, t, i, hl => nomatch hl
  | (t', i') :: r, h, t, i, hl => by
    simp only [chkAll, Bool.and_eq_true] at h
    simp only [look] at hl
    split at hl
    · rename_i e
      subst e
      cases hl
      exact chkTi_ok hTR h.1
    · exact chkAll_ok hTR h.2 t i hl

end Ev
end Go.Proofs.YtidnikjkpbmhhaaDoor
/- The types of the program, as far as they are used, and its package variables. -/
set_option linter.unusedVariables false
set_option maxRecDepth 4000
namespace Go.Proofs.YtidnikjkpbmhhaaDoor
namespace Ev

def ti3 : Ti := ⟨1, false, some (.int (0 : Int)), [], none, none, false, []⟩
def ti4 : Ti := ⟨1, false, some (.bool false), [], none, none, true, []⟩
def ti24 : Ti := ⟨2, true, some (.agg [.int (0 : Int), .int (0 : Int)]), [(0, 3), (1, 3)], none, none, false, [false, false]⟩
def ti27 : Ti := ⟨1, false, some (.sl .int ⟨true, true, none⟩ ([] : List Int)), [], some (.int, 3, 8), none, false, []⟩
def ti26 : Ti := ⟨6, true, some (.agg [.sl tReel ⟨true, true, none⟩ ([] : List ((Int × Int) × (Int × Int) × (Int × Int))), .agg [.int (0 : Int), .int (0 : Int)], .agg [.int (0 : Int), .int (0 : Int)], .int (0 : Int)]), [(0, 22), (1, 24), (3, 24), (5, 3)], none, none, false, []⟩
def ti22 : Ti := ⟨1, false, some (.sl tReel ⟨true, true, none⟩ ([] : List ((Int × Int) × (Int × Int) × (Int × Int)))), [], some (tReel, 66, 48), none, false, []⟩
def ti66 : Ti := ⟨6, true, some (.agg [.agg [.int (0 : Int), .int (0 : Int)], .agg [.int (0 : Int), .int (0 : Int)], .agg [.int (0 : Int), .int (0 : Int)]]), [(0, 24), (2, 24), (4, 24)], none, none, false, []⟩
def ti28 : Ti := ⟨1, false, some (.int (0 : Int)), [], none, none, false, []⟩
def ti82 : Ti := ⟨7, true, some (.agg [.agg [.sl tReel ⟨true, true, none⟩ ([] : List ((Int × Int) × (Int × Int) × (Int × Int))), .agg [.int (0 : Int), .int (0 : Int)], .agg [.int (0 : Int), .int (0 : Int)], .int (0 : Int)], .tok 0 tRF zRF]), [(0, 26), (6, 80)], none, none, false, []⟩
def ti49 : Ti := ⟨1, false, some (.sl tSpan ⟨true, true, none⟩ ([] : List (Int × Int))), [], some (tSpan, 24, 16), none, false, []⟩
def ti78 : Ti := ⟨1, false, some (.sl tInts ⟨true, true, none⟩ ([] : List (List Int))), [], some (tInts, 27, 24), none, false, []⟩
def ti41 : Ti := ⟨3, true, some (.arr .int 3 (List.replicate 3 (0 : Int))), [], none, some (3, .int, 3), false, []⟩
def ti54 : Ti := ⟨2, true, some (.arr .int 2 (List.replicate 2 (0 : Int))), [], none, some (2, .int, 3), false, []⟩
def ti91 : Ti := ⟨6, true, some (.arr .bool 6 (List.replicate 6 false)), [], none, some (6, .bool, 4), false, [true, true, true, true, true, true]⟩
def ti90 : Ti := ⟨6, true, some (.arr .bool 6 (List.replicate 6 false)), [], none, some (6, .bool, 4), false, [true, true, true, true, true, true]⟩
def ti120 : Ti := ⟨3, true, some (.agg [.int (0 : Int), .agg [.int (0 : Int), .int (0 : Int)]]), [(0, 3), (1, 24)], none, none, false, [false, false, false]⟩
def ti80 : Ti := ⟨1, false, some (.tok 0 tRF zRF), [], none, none, false, []⟩
def ti85 : Ti := ⟨1, false, none, [], none, none, false, []⟩
def ti115 : Ti := ⟨1, true, some (.agg [.tok 6 .int (0 : Int)]), [(0, 113)], none, none, false, []⟩
def ti113 : Ti := ⟨1, false, none, [], none, none, false, []⟩
def ti23 : Ti := ⟨2, true, some (.agg [.int (0 : Int), .int (0 : Int)]), [(0, 3), (1, 3)], none, none, false, [false, false]⟩
def ti25 : Ti := ⟨6, true, some (.agg [.sl tReel ⟨true, true, none⟩ ([] : List ((Int × Int) × (Int × Int) × (Int × Int))), .agg [.int (0 : Int), .int (0 : Int)], .agg [.int (0 : Int), .int (0 : Int)], .int (0 : Int)]), [(0, 22), (1, 24), (3, 24), (5, 3)], none, none, false, []⟩
def ti65 : Ti := ⟨6, true, some (.agg [.agg [.int (0 : Int), .int (0 : Int)], .agg [.int (0 : Int), .int (0 : Int)], .agg [.int (0 : Int), .int (0 : Int)]]), [(0, 24), (2, 24), (4, 24)], none, none, false, []⟩
def ti81 : Ti := ⟨7, true, some (.agg [.agg [.sl tReel ⟨true, true, none⟩ ([] : List ((Int × Int) × (Int × Int) × (Int × Int))), .agg [.int (0 : Int), .int (0 : Int)], .agg [.int (0 : Int), .int (0 : Int)], .int (0 : Int)], .tok 0 tRF zRF]), [(0, 26), (6, 80)], none, none, false, []⟩
def ti119 : Ti := ⟨3, true, some (.agg [.int (0 : Int), .agg [.int (0 : Int), .int (0 : Int)]]), [(0, 3), (1, 24)], none, none, false, [false, false, false]⟩
def ti77 : Ti := ⟨1, false, some (.sl tRF ⟨true, true, none⟩ ([] : List ((List ((Int × Int) × (Int × Int) × (Int × Int))) × (Int × Int) × (Int × Int) × Int))), [], some (tRF, 26, 64), none, false, []⟩
def ti88 : Ti := ⟨1, false, none, [], none, none, false, []⟩
def ti110 : Ti := ⟨1, false, none, [], none, none, false, []⟩
def ti114 : Ti := ⟨1, true, some (.agg [.tok 6 .int (0 : Int)]), [(0, 113)], none, none, false, []⟩
def ti111 : Ti := ⟨2, true, none, [], none, some (2, .int, 110), false, []⟩
def ti105 : Ti := ⟨1, false, none, [], none, none, false, []⟩
def ti96 : Ti := ⟨1, false, some (.tok 6 .int (0 : Int)), [], none, none, false, []⟩
def ti108 : Ti := ⟨1, false, some (.tok 6 .int (0 : Int)), [], none, none, false, []⟩
def TT : Tbl := [(3, ti3), (4, ti4), (24, ti24), (27, ti27), (26, ti26), (22, ti22), (66, ti66), (28, ti28), (82, ti82), (49, ti49), (78, ti78), (41, ti41), (54, ti54), (91, ti91), (90, ti90), (120, ti120), (80, ti80), (85, ti85), (115, ti115), (113, ti113), (23, ti23), (25, ti25), (65, ti65), (81, ti81), (119, ti119), (77, ti77), (88, ti88), (110, ti110), (114, ti114), (111, ti111), (105, ti105), (96, ti96), (108, ti108)]
def GG : List (Nat × AV) := [(0, .agg [.int (-1 : Int), .int (99 : Int)]), (1, .agg [.fn 117 [] [], .fn 119 [] []]), (2, .agg [.int (1 : Int), .int (0 : Int)])]
theorem chk3 : chkTi Tryd.prog 3 ti3 = true := by kernel_rfl
theorem chk4 : chkTi Tryd.prog 4 ti4 = true := by kernel_rfl
theorem chk24 : chkTi Tryd.prog 24 ti24 = true := by kernel_rfl
theorem chk27 : chkTi Tryd.prog 27 ti27 = true := by kernel_rfl
theorem chk26 : chkTi Tryd.prog 26 ti26 = true := by kernel_rfl
theorem chk22 : chkTi Tryd.prog 22 ti22 = true := by kernel_rfl
theorem chk66 : chkTi Tryd.prog 66 ti66 = true := by kernel_rfl
theorem chk28 : chkTi Tryd.prog 28 ti28 = true := by kernel_rfl
theorem chk82 : chkTi Tryd.prog 82 ti82 = true := by kernel_rfl
theorem chk49 : chkTi Tryd.prog 49 ti49 = true := by kernel_rfl
theorem chk78 : chkTi Tryd.prog 78 ti78 = true := by kernel_rfl
theorem chk41 : chkTi Tryd.prog 41 ti41 = true := by kernel_rfl
theorem chk54 : chkTi Tryd.prog 54 ti54 = true := by kernel_rfl
theorem chk91 : chkTi Tryd.prog 91 ti91 = true := by kernel_rfl
theorem chk90 : chkTi Tryd.prog 90 ti90 = true := by kernel_rfl
theorem chk120 : chkTi Tryd.prog 120 ti120 = true := by kernel_rfl
theorem chk80 : chkTi Tryd.prog 80 ti80 = true := by kernel_rfl
theorem chk85 : chkTi Tryd.prog 85 ti85 = true := by kernel_rfl
theorem chk115 : chkTi Tryd.prog 115 ti115 = true := by kernel_rfl
theorem chk113 : chkTi Tryd.prog 113 ti113 = true := by kernel_rfl
theorem chk23 : chkTi Tryd.prog 23 ti23 = true := by kernel_rfl
theorem chk25 : chkTi Tryd.prog 25 ti25 = true := by kernel_rfl
theorem chk65 : chkTi Tryd.prog 65 ti65 = true := by kernel_rfl
theorem chk81 : chkTi Tryd.prog 81 ti81 = true := by kernel_rfl
theorem chk119 : chkTi Tryd.prog 119 ti119 = true := by kernel_rfl
theorem chk77 : chkTi Tryd.prog 77 ti77 = true := by kernel_rfl
theorem chk88 : chkTi Tryd.prog 88 ti88 = true := by kernel_rfl
theorem chk110 : chkTi Tryd.prog 110 ti110 = true := by kernel_rfl
theorem chk114 : chkTi Tryd.prog 114 ti114 = true := by kernel_rfl
theorem chk111 : chkTi Tryd.prog 111 ti111 = true := by kernel_rfl
theorem chk105 : chkTi Tryd.prog 105 ti105 = true := by kernel_rfl
theorem chk96 : chkTi Tryd.prog 96 ti96 = true := by kernel_rfl
theorem chk108 : chkTi Tryd.prog 108 ti108 = true := by kernel_rfl
theorem chkTT : chkAll Tryd.prog TT = true := by
  simp only [TT, chkAll, chk3, chk4, chk24, chk27, chk26, chk22, chk66, chk28, chk82, chk49, chk78, chk41, chk54, chk91, chk90, chk120, chk80, chk85, chk115, chk113, chk23, chk25, chk65, chk81, chk119, chk77, chk88, chk110, chk114, chk111, chk105, chk96, chk108, Bool.and_self]

end Ev
end Go.Proofs.YtidnikjkpbmhhaaDoor
/- What the functions of layer 1 and of its reference answer, in plain words. -/
namespace Go.Proofs.YtidnikjkpbmhhaaDoor
namespace Ev

abbrev Sp := Int × Int
abbrev Rl := Sp × Sp × Sp
abbrev Fi := List Rl × Sp × Sp × Int

def lenOK {α : Type} (l : List α) : Bool := Nat.ble l.length 70368744177664

def amid (n lo hi : Int) : Bool := decide (lo ≤ n) && decide (n ≤ hi)
def legal (s : Sp) (lo hi : Int) : Bool := decide (lo ≤ s.1) && (decide (s.1 ≤ s.2) && decide (s.2 ≤ hi))
def mk2 (lo hi : Int) : Sp := (lo, hi)
def holds (s : Sp) (n : Int) : Bool := amid n s.1 s.2
def maxI (a b : Int) : Int := if a < b then b else a
def minI (a b : Int) : Int := if b < a then b else a
def meet (a c : Sp) : Sp := (maxI a.1 c.1, minI a.2 c.2)
def emptyS (s : Sp) : Bool := decide (s.2 < s.1)
def turnI (n many : Int) : Int := if many < 1 then 0 else if n.tmod many < 0 then w64 (n.tmod many + many) else n.tmod many
def pickI (l : List Int) (n : Int) : Int := if l.length = 0 then 0 else l.getD (turnI n l.length).toNat 0
def pickOK (l : List Int) (n : Int) : Bool := decide (l.length = 0) || (decide (0 ≤ turnI n l.length) && decide (turnI n l.length < l.length))
def chooseI (s : Sp) (n : Int) : Int := if s.2 < s.1 then s.1 else w64 (s.1 + turnI n (w64 (w64 (s.2 - s.1) + 1)))
def sumI : List Int → Int → Int
  | [], a => a
  | x :: l, a => sumI l (w64 (a + x))
def findFrom (n : Int) : List Int → Int → Int
  | [], _ => -1
  | x :: l, i => if x = n then i else findFrom n l (i + 1)
def findI (l : List Int) (n : Int) : Int := findFrom n l 0
def sameI (a c : List Int) : Bool := decide (a = c)
def sameS (a c : List Sp) : Bool := decide (a = c)
def beforeI : List Int → List Int → Bool
  | x :: a, y :: c => if x = y then beforeI a c else decide (x < y)
  | [], _ :: _ => true
  | _, [] => false
def moreI (l : List Int) (n : Int) : List Int := l ++ [n]
def risesFrom (below : Int) : List Int → Int → Bool
  | [], _ => true
  | x :: l, last => amid x (w64 (last + 1)) (w64 (below - 1)) && risesFrom below l x
def risesI (l : List Int) (below : Int) : Bool := risesFrom below l (-1)
def bitI (set n : Int) : Bool := decide (w64 ((BitVec.ofInt 64 (set.fdiv (2 ^ (min n.toNat 64))) &&& BitVec.ofInt 64 1).toNat : Int) = 1)
def membersI (set below : Int) : List Int := ((List.range below.toNat).map Int.ofNat).filter (bitI set)

def okReel (r : Rl) : Bool := legal r.1 0 99 && (legal r.2.1 0 99 && (decide (r.1.1 ≤ r.2.1.2) && legal r.2.2 1 1200))
def checkB (f : Fi) : Bool := amid f.1.length 1 6 && (legal f.2.1 1 20 && (legal f.2.2.1 0 50 && (amid f.2.2.2 1 6000 && f.1.all okReel)))
def checkI (f : Fi) : Int := if checkB f = true then 0 else 10
def askedI (f : Fi) (right : Bool) : Int := if checkB f = true then (if right = true then 0 else 11) else 10
def askedF (f : Fi) (right : Bool) : Fi × Int := (if askedI f right = 0 then f else zRF, askedI f right)
/-- The scenes that a reel can end with, if it begins with some of a span. -/
def lastF (x : Fi) (p : Int × Sp) : Sp :=
  if minI (x.1.getD p.1.toNat (((0 : Int), (0 : Int)), ((0 : Int), (0 : Int)), ((0 : Int), (0 : Int)))).1.2 p.2.2 < maxI (x.1.getD p.1.toNat (((0 : Int), (0 : Int)), ((0 : Int), (0 : Int)), ((0 : Int), (0 : Int)))).1.1 p.2.1 ∨
    (x.1.getD p.1.toNat (((0 : Int), (0 : Int)), ((0 : Int), (0 : Int)), ((0 : Int), (0 : Int)))).2.1.2 < maxI (x.1.getD p.1.toNat (((0 : Int), (0 : Int)), ((0 : Int), (0 : Int)), ((0 : Int), (0 : Int)))).2.1.1 (maxI (x.1.getD p.1.toNat (((0 : Int), (0 : Int)), ((0 : Int), (0 : Int)), ((0 : Int), (0 : Int)))).1.1 p.2.1) then (1, 0)
  else (maxI (x.1.getD p.1.toNat (((0 : Int), (0 : Int)), ((0 : Int), (0 : Int)), ((0 : Int), (0 : Int)))).2.1.1 (maxI (x.1.getD p.1.toNat (((0 : Int), (0 : Int)), ((0 : Int), (0 : Int)), ((0 : Int), (0 : Int)))).1.1 p.2.1), (x.1.getD p.1.toNat (((0 : Int), (0 : Int)), ((0 : Int), (0 : Int)), ((0 : Int), (0 : Int)))).2.1.2)

def unusedB : List Bool := List.replicate 6 false

def lenOK2 {α β : Type} (l : List α) (_ : β) : Bool := lenOK l
def moreOK (l : List Int) (_ : Int) : Bool := roomy 0 (l.length + 1) 8
def membersOK (_ below : Int) : Bool := decide (below ≤ 1000)
def cloneI (l : List Int) : List Int := l
def cloneOK (l : List Int) : Bool := roomy 0 l.length 8
def containsI (l : List Int) (n : Int) : Bool := decide (0 ≤ findI l n)

abbrev z2 : Sp := ((0 : Int), (0 : Int))
abbrev zR : Rl := (((0 : Int), (0 : Int)), ((0 : Int), (0 : Int)), ((0 : Int), (0 : Int)))
def reelAt (x : Fi) (k : Int) : Rl := x.1.getD k.toNat zR
def inReels (x : Fi) (k : Int) : Bool := decide (0 ≤ k) && decide (k < x.1.length)

def isReelB (x : Fi) (k : Int) : Bool := amid k 0 (w64 ((x.1.length : Int) - 1))
def areFrom (n : Int) : List Int → List Int → Bool
  | _, [] => true
  | pre, k :: r => amid k 0 (w64 (n - 1)) && (!(decide (k ∈ pre)) && areFrom n (pre ++ [k]) r)
def areReelsB (x : Fi) (l : List Int) : Bool := areFrom x.1.length [] l
def areOK (_ : Fi) (l : List Int) : Bool := lenOK l

def leastI (x : Fi) (k n : Int) : Int := maxI 0 (w64 ((reelAt x k).2.2.1 - w64 (n * x.2.2.1.2)))
def mostI (x : Fi) (k n : Int) : Int := maxI 0 (w64 ((reelAt x k).2.2.2 - w64 (n * x.2.2.1.1)))
def wornS (x : Fi) (k n : Int) : Sp := (leastI x k n, mostI x k n)
def inReels3 (x : Fi) (k _n : Int) : Bool := inReels x k

def lastOK (x : Fi) (p : Int × Sp) : Bool := inReels x p.1
def followsF (x : Fi) (k : Int) (e : Sp) : Sp × Bool := (lastF x (k, (e.1, w64 (e.2 + 1))), !(decide ((lastF x (k, (e.1, w64 (e.2 + 1)))).1 = 1) && decide ((lastF x (k, (e.1, w64 (e.2 + 1)))).2 = 0)))
def followsOK (x : Fi) (k : Int) (_e : Sp) : Bool := inReels x k
def isOrdF (x : Fi) : List Int → Sp → Bool
  | [], _ => true
  | k :: r, e => (followsF x k e).2 && isOrdF x r (followsF x k e).1
def isOrderF (x : Fi) (l : List Int) : Bool := isOrdF x l (-1, 99)
def listOK (x : Fi) (l : List Int) : Bool := lenOK l && l.all (inReels x)

/-- The reference's. -/
def followsR (x : Fi) (k : Int) (first : Sp) : Sp :=
  if emptyS (meet (reelAt x k).1 first) = true then meet (reelAt x k).1 first else meet (reelAt x k).2.1 (mk2 (meet (reelAt x k).1 first).1 99)
def isOrdR (x : Fi) : List Int → Sp → Bool
  | [], _ => true
  | k :: r, e => if emptyS (followsR x k e) = true then false else isOrdR x r (mk2 (followsR x k e).1 (w64 ((followsR x k e).2 + 1)))
def isOrderR (x : Fi) (l : List Int) : Bool := isOrdR x l (0, 99)

def allB (x : Fi) : List Bool := (List.range 6).map fun k => decide (k < x.1.length)
def allOK (x : Fi) : Bool := Nat.ble x.1.length 6
def allR (x : Fi) : List Int := membersI (w64 (w64 (1 * 2 ^ (min x.1.length 64)) - 1)) x.1.length
def stepR (x : Fi) (reels : List Int) (rows : List (List Int)) : List (List Int) :=
  rows.flatMap fun row => (reels.filter fun k => decide (findI row k < 0) && isOrderR x (row ++ [k])).map fun k => row ++ [k]
def iterR (x : Fi) (reels : List Int) : Nat → List (List Int) → List (List Int)
  | 0, rows => rows
  | n + 1, rows => iterR x reels n (stepR x reels rows)
def ordersR (x : Fi) (reels : List Int) : List (List Int) := iterR x reels reels.length [[]]

/-- All orders of some reels, in their order: the reels in turn, as far as the scenes let them follow. -/
def ordsF (x : Fi) : Nat → List Bool → Sp → List (List Int)
  | 0, _, _ => []
  | n + 1, left, e =>
    if left = unusedB then [[]] else
    (List.range x.1.length).flatMap fun k => if left.getD k false = true ∧ (followsF x k e).2 = true then (ordsF x n (left.set k false) (followsF x k e).1).map fun l => (k : Int) :: l else []
def ordersF (x : Fi) (left : List Bool) : List (List Int) := ordsF x 7 left (-1, 99)

end Ev
end Go.Proofs.YtidnikjkpbmhhaaDoor
/- What every contract of this program leans on: its types, its package variables, its memos. -/
set_option linter.unusedVariables false
set_option linter.unusedSimpArgs false
namespace Go.Proofs.YtidnikjkpbmhhaaDoor
namespace Ev

/-- What a film's memo holds: of a reel, and a span, with which scenes it can end. -/
def MIr (t : Ty) (d : t.den) (es : Array MapEntry) : Prop :=
  ∃ x : tRF.den, (⟨t, d⟩ : DTy) = ⟨tRF, x⟩ ∧ ∀ e ∈ es.toList, ∃ (k : Int) (s : Sp), 0 ≤ k ∧ k < x.1.length ∧ e.key = .agg #[.int .i64 k, .int .i64 s.1, .int .i64 s.2] ∧ e.val = .agg #[.int .i64 (lastF x (k, s)).1, .int .i64 (lastF x (k, s)).2]

noncomputable def Bs : Base := { P := Tryd.prog, TR := TRr, hT := tokOK, MI := MIr, GL := GG }

def Good (f : Nat) (g : List AV → Option (Bool × AV)) : Prop := Ctr Bs f g ∧ ∃ fn, Tryd.prog.funcs[f]? = some fn ∧ fn.body.isNone = false ∧ (fn.name == "runtime.NumGoroutine") = false
def AllC (l : List (Nat × (List AV → Option (Bool × AV)))) : Prop := ∀ f g, findA l f = some g → Good f g
theorem AllC.nil : AllC [] := fun f g h => nomatch h
theorem AllC.cons {f : Nat} {g : List AV → Option (Bool × AV)} {l : List (Nat × (List AV → Option (Bool × AV)))} (h : Good f g) (k : AllC l) : AllC ((f, g) :: l) := fun f' g' h' => by
  simp only [findA] at h'
  split at h'
  · rename_i e
    subst e
    cases h'
    exact h
  · exact k f' g' h'

theorem mixed : Tryd.prog.follows .mixedOrders = true := by kernel_rfl

theorem ctxOK {X : Ctx} (hT : X.T = TT) (hG : X.G = GG) (hK : X.K = []) (hI : X.I = []) (hk : X.mkm = none) (hu : X.up = none) (hC : AllC X.C) : CtxOK Bs.env X where
  T := by rw [hT]; exact chkAll_ok (B := Bs) rfl chkTT
  G := hG
  C := fun f g h => hC f g h
  M := mixed
  K := fun i g h => by rw [hK] at h; cases h
  I := fun f it h => by rw [hI] at h; cases h
  mkm := fun d h => by rw [hk] at h; cases h
  up := fun u h => by rw [hu] at h; cases h

mutual
theorem wk_enc : ∀ (t : Ty) (x : t.den), wkAV (enc t x) = enc t x
  | .int, _ => rfl
  | .bool, _ => rfl
  | .last a, x => by simp only [enc, wkAV, wkL, wk_enc a x]
  | .cons a b, x => by simp only [enc, wkAV, wkL, wk_enc a x.1, wkT_enc b x.2]
  | .slice _, _ => rfl
  | .arr _ _, _ => rfl
theorem wkT_enc : ∀ (t : Ty) (x : t.den), wkL (encT t x) = encT t x
  | .int, _ => rfl
  | .bool, _ => rfl
  | .last a, x => by simp only [encT, wkL, wk_enc a x]
  | .cons a b, x => by simp only [encT, wkL, wk_enc a x.1, wkT_enc b x.2]
  | .slice _, _ => rfl
  | .arr _ _, _ => rfl
end

mutual
theorem wk_dec : ∀ {t : Ty} {a : AV} {x : t.den}, dec t a = some x → wkAV a = enc t x
  | .int, a, x, h => by
    cases a <;> simp only [dec, reduceCtorEq] at h
    cases h
    rfl
  | .bool, a, x, h => by
    cases a <;> simp only [dec, reduceCtorEq] at h
    cases h
    rfl
  | .last t, a, x, h => by
    cases a with
    | agg l =>
      match l, h with
      | [v], h =>
        simp only [dec] at h
        simp only [wkAV, wkL, enc, wk_dec h]
      | [], h => simp [dec] at h
      | _ :: _ :: _, h => simp [dec] at h
    | _ => simp [dec] at h
  | .cons t u, a, x, h => by
    cases a with
    | agg l =>
      match l, h with
      | v :: r, h =>
        simp only [dec] at h
        split at h
        · rename_i y z hy hz
          cases h
          simp only [wkAV, wkL, enc, wk_dec hy, wkT_dec hz]
        · cases h
      | [], h => simp [dec] at h
    | _ => simp [dec] at h
  | .slice t, a, x, h => by
    cases a with
    | sl t' f l =>
      simp only [dec] at h
      split at h
      · rename_i e
        subst e
        cases h
        rfl
      · cases h
    | _ => simp [dec] at h
  | .arr n t, a, x, h => by
    cases a with
    | arr t' n' xs =>
      simp only [dec] at h
      split at h
      · rename_i e
        subst e
        split at h
        · rename_i e
          subst e
          cases h
          rfl
        · cases h
      · cases h
    | _ => simp [dec] at h
theorem wkT_dec : ∀ {t : Ty} {l : List AV} {x : t.den}, decT t l = some x → wkL l = encT t x
  | .last t, l, x, h => by
    match l, h with
    | [v], h =>
      simp only [decT] at h
      simp only [wkL, encT, wk_dec h]
    | [], h => simp [decT] at h
    | _ :: _ :: _, h => simp [decT] at h
  | .cons t u, l, x, h => by
    match l, h with
    | v :: r, h =>
      simp only [decT] at h
      split at h
      · rename_i y z hy hz
        cases h
        simp only [wkL, encT, wk_dec hy, wkT_dec hz]
      · cases h
    | [], h => simp [decT] at h
  | .int, l, x, h => by simp [decT] at h
  | .bool, l, x, h => by simp [decT] at h
  | .slice _, l, x, h => by simp [decT] at h
  | .arr _ _, l, x, h => by simp [decT] at h
end


theorem wk_film {a : AV} {t : Ty} {d : t.den} {x : tRF.den} (h : dec tRF a = some x) (k : castD tRF t d = some x) : wkAV (.agg [a, .tok 0 t d]) = .agg [enc tRF x, .tok 0 tRF x] := by
  have e := castD_eq k
  cases e
  simp only [wkAV, wkL, wk_dec h]

/-! What an iterator of orders tells. b: what the loop's body says. -/
abbrev OnD := Int × Fi × Fi
def onL (b : Bool) (d : OnD) (a0 : List Int) (a1 : List Bool) (a2 : Sp) : List (List Int) := if b = true then (ordsF d.2.1 7 a1 a2).map fun l => a0 ++ l else ((ordsF d.2.1 7 a1 a2).take 1).map fun l => a0 ++ l
def onI (b : Bool) (d : OnD) (a0 : List Int) (a1 : List Bool) (a2 : Sp) : List AV := (onL b d a0 a1 a2).map (enc tInts)
def onR (b : Bool) (d : OnD) (a1 : List Bool) (a2 : Sp) : Bool := b || (ordsF d.2.1 7 a1 a2).isEmpty
def okSeq (ok : List AV → List Int → Bool) : List AV → List (List Int) → Bool
  | _, [] => true
  | tr, y :: ys => ok tr y && okSeq ok (tr ++ [enc tInts y]) ys
def onT (okP : Int → List AV → List Int → Bool) (b : Bool) (fu : Nat) (tr : List AV) (d : OnD) (a0 : List Int) (a1 : List Bool) (a2 : Sp) : Bool :=
  decide (a1.count true < fu) && (decide (a1.count true ≤ 6) && (decide (a0.length + a1.count true ≤ 6) && (decide (d.2.1 = d.2.2) && (allOK d.2.1 && okSeq (okP d.1) tr (onL b d a0 a1 a2)))))

noncomputable def gY (okP : Int → List AV → List Int → Bool) (b : Bool) : List AV → (t : Ty) → t.den → List AV → Option (Bool × AV × List AV) := fun tr t d args =>
  match args with
  | [a] => (match castD .int t d, dec tInts a with | some l, some y => some (okP l tr y, .bool b, [enc tInts y]) | _, _ => none)
  | _ => none
noncomputable def gO (okP : Int → List AV → List Int → Bool) (b : Bool) (fu : Nat) : List AV → (t : Ty) → t.den → List AV → Option (Bool × AV × List AV) := fun tr t d args =>
  match args with
  | [a0, a1, a2] =>
    (match castD tOn t d, dec tInts a0, dec tUsed a1, dec tSpan a2 with
    | some d, some x0, some x1, some x2 => some (onT okP b fu tr d x0 x1 x2, .bool (onR b d x1 x2), onI b d x0 x1 x2)
    | _, _, _, _ => none)
  | _ => none

end Ev
end Go.Proofs.YtidnikjkpbmhhaaDoor
/- The iterator of orders, as the evaluator walks it. -/
set_option linter.unusedVariables false
set_option maxRecDepth 4000
namespace Go.Proofs.YtidnikjkpbmhhaaDoor
namespace Ev

noncomputable def g77 : List AV → Option (Bool × AV)
  | [] => some (true, enc tUsed unusedB)
  | _ => none
noncomputable def g88 : List AV → Option (Bool × AV)
  | [.agg [a0, .tok 0 t0 d0], a1, a2] =>
    match dec tRF a0, castD tRF t0 d0, dec .int a1, dec tSpan a2 with
    | some x0, some y0, some x1, some x2 => some (decide (x0 = y0) && ((followsOK x0 x1 x2)), .tup [enc tSpan ((followsF x0 x1 x2).1), enc .bool ((followsF x0 x1 x2).2)])
    | _, _, _, _ => none
  | _ => none
noncomputable def X91 (okP : Int → List AV → List Int → Bool) (b : Bool) (fu : Nat) : Ctx := { T := TT, G := GG, C := [(77, g77), (88, g88)], L := [(4, [1, 2, 3, 6, 9, 10, 11, 12, 13, 14, 15, 16, 17, 18, 19, 20, 21, 22, 25, 26, 27, 28, 29, 30, 31, 32, 33, 34, 35, 36, 37, 38, 39, 40, 41, 42, 43, 44, 45, 46, 47, 48, 49, 50, 51, 52, 53, 54, 55, 56, 57], [])], K := [(1, gY okP b), (3, gO okP b fu)] }
noncomputable def f91_s0 (okP : Int → List AV → List Int → Bool) (b : Bool) (fu : Nat) (a0 : List Int) (a1 : List Bool) (a2 : Int × Int) (l : Int) (x : Fi) (y : Fi) (k0 : Int → Option (AV × List AV)) (k1 : Int → List AV → Option (AV × List AV)) (v0_0 : Int) : Option (AV × List AV) :=
  bif (decide (v0_0 < (x.1.length : Int))) then
    bif decide (0 ≤ v0_0) && decide (v0_0 < 6) then
      bif (!(a1.getD v0_0.toNat false)) then
        k0 (w64 (v0_0 + (1 : Int)))
      else
        bif decide (x = y) && ((followsOK x v0_0 a2)) then
          bif (!((followsF x v0_0 a2).2)) then
            k0 (w64 (v0_0 + (1 : Int)))
          else
            bif decide (0 ≤ v0_0) && decide (v0_0 < 6) then
              bif decide ((a0.length : Int) = (a0.length : Int)) && (decide (0 ≤ (a0.length : Int)) && decide ((a0.length : Int) ≤ (a0.length : Int))) then
                bif true && roomy (a0.take (a0.length : Int).toNat).length [v0_0].length 8 then
                  bif (onT okP b fu ([] : List AV) (l, x, y) ((a0.take (a0.length : Int).toNat) ++ [v0_0]) (a1.set v0_0.toNat false) ((followsF x v0_0 a2).1)) then
                    bif (!(onR b (l, x, y) (a1.set v0_0.toNat false) ((followsF x v0_0 a2).1))) then
                      some (.bool false, (([] : List AV) ++ (onI b (l, x, y) ((a0.take (a0.length : Int).toNat) ++ [v0_0]) (a1.set v0_0.toNat false) ((followsF x v0_0 a2).1))))
                    else
                      k1 (w64 (v0_0 + (1 : Int))) (([] : List AV) ++ (onI b (l, x, y) ((a0.take (a0.length : Int).toNat) ++ [v0_0]) (a1.set v0_0.toNat false) ((followsF x v0_0 a2).1)))
                  else
                    none
                else
                  none
              else
                none
            else
              none
        else
          none
    else
      none
  else
    some (.bool true, ([] : List AV))

noncomputable def f91_s1 (okP : Int → List AV → List Int → Bool) (b : Bool) (fu : Nat) (a0 : List Int) (a1 : List Bool) (a2 : Int × Int) (l : Int) (x : Fi) (y : Fi) (k1 : Int → List AV → Option (AV × List AV)) (v1_0 : Int) (v1_1 : List AV) : Option (AV × List AV) :=
  bif (decide (v1_0 < (x.1.length : Int))) then
    bif decide (0 ≤ v1_0) && decide (v1_0 < 6) then
      bif (!(a1.getD v1_0.toNat false)) then
        k1 (w64 (v1_0 + (1 : Int))) v1_1
      else
        bif decide (x = y) && ((followsOK x v1_0 a2)) then
          bif (!((followsF x v1_0 a2).2)) then
            k1 (w64 (v1_0 + (1 : Int))) v1_1
          else
            bif decide (0 ≤ v1_0) && decide (v1_0 < 6) then
              bif decide ((a0.length : Int) = (a0.length : Int)) && (decide (0 ≤ (a0.length : Int)) && decide ((a0.length : Int) ≤ (a0.length : Int))) then
                bif true && roomy (a0.take (a0.length : Int).toNat).length [v1_0].length 8 then
                  bif (onT okP b fu v1_1 (l, x, y) ((a0.take (a0.length : Int).toNat) ++ [v1_0]) (a1.set v1_0.toNat false) ((followsF x v1_0 a2).1)) then
                    bif (!(onR b (l, x, y) (a1.set v1_0.toNat false) ((followsF x v1_0 a2).1))) then
                      some (.bool false, (v1_1 ++ (onI b (l, x, y) ((a0.take (a0.length : Int).toNat) ++ [v1_0]) (a1.set v1_0.toNat false) ((followsF x v1_0 a2).1))))
                    else
                      k1 (w64 (v1_0 + (1 : Int))) (v1_1 ++ (onI b (l, x, y) ((a0.take (a0.length : Int).toNat) ++ [v1_0]) (a1.set v1_0.toNat false) ((followsF x v1_0 a2).1)))
                  else
                    none
                else
                  none
              else
                none
            else
              none
        else
          none
    else
      none
  else
    some (.bool true, v1_1)

noncomputable def f91_s (okP : Int → List AV → List Int → Bool) (b : Bool) (fu : Nat) (a0 : List Int) (a1 : List Bool) (a2 : Int × Int) (l : Int) (x : Fi) (y : Fi) (k0 : Int → Option (AV × List AV)) : Option (AV × List AV) :=
  bif decide (6 = 6) then
    bif (decide (a1 = unusedB)) then
      bif (okP l ([] : List AV) a0) then
        some (.bool b, (([] : List AV) ++ [enc tInts a0]))
      else
        none
    else
      k0 (0 : Int)
  else
    none

noncomputable def f91_R0 (okP : Int → List AV → List Int → Bool) (b : Bool) (fu : Nat) (a0 : List Int) (a1 : List Bool) (a2 : Int × Int) (l : Int) (x : Fi) (y : Fi) (N : Nat) (n : Nat) (v0_0 : Int) : Option (AV × List AV) :=
  loopN (evC (X91 okP b fu) N (sub [(1, 0), (0, 0), (1, 0), (1, 0), (0, 0), (1, 0), (0, 0), (0, 0)] (bodyOf Tryd.f91))) (keepOf (X91 okP b fu).L (sub [(1, 0), (0, 0), (1, 0), (1, 0), (0, 0), (1, 0), (0, 0), (0, 0)] (bodyOf Tryd.f91))) n ⟨[.sl .int ⟨false, false, none⟩ a0, .poison, .poison, .poison, .cref (.agg [enc tRF x, .tok 0 tRF y]) [], .cref (.tok 3 tOn (l, x, y)) [], .poison, .ref 7 [], .ref 8 [], .poison, .poison, .poison, .poison, .poison, .poison, .poison, .poison, .poison, .poison, .poison, .poison, .poison, .poison, .int (x.1.length : Int), .int v0_0, .poison, .poison, .poison, .poison, .poison, .poison, .poison, .poison, .poison, .poison, .poison, .poison, .poison, .poison, .poison, .poison, .poison, .poison, .poison, .poison, .poison, .poison, .poison, .poison, .poison, .poison, .poison, .poison, .poison, .poison, .poison, .poison, .poison], [.none, .none, .none, .none, .none, .none, .none, .box (.arr .bool 6 a1), .box (enc tSpan a2), .none, .none, .none, .none, .none, .none, .none, .none, .none, .none, .none, .none, .none, .none, .none, .none, .none, .none, .none, .none, .none, .none, .none, .none, .none, .none, .none, .none, .none, .none, .none, .none, .none, .none, .none, .none, .none, .none, .none, .none, .none, .none, .none, .none, .none, .none, .none, .none, .none, .map 0 0 ([] : List AV)]⟩ (ctxK (X91 okP b fu) N [(1, 0), (0, 0), (1, 0), (1, 0), (0, 0), (1, 0), (0, 0)] (bodyOf Tryd.f91) (finT (X91 okP b fu) Tryd.f91))

noncomputable def f91_R1 (okP : Int → List AV → List Int → Bool) (b : Bool) (fu : Nat) (a0 : List Int) (a1 : List Bool) (a2 : Int × Int) (l : Int) (x : Fi) (y : Fi) (N : Nat) (n : Nat) (v1_0 : Int) (v1_1 : List AV) : Option (AV × List AV) :=
  loopN (evC (X91 okP b fu) N (sub [(1, 0), (0, 0), (1, 0), (1, 0), (0, 0), (1, 0), (0, 0), (0, 0)] (bodyOf Tryd.f91))) (keepOf (X91 okP b fu).L (sub [(1, 0), (0, 0), (1, 0), (1, 0), (0, 0), (1, 0), (0, 0), (0, 0)] (bodyOf Tryd.f91))) n ⟨[.sl .int ⟨false, false, none⟩ a0, .poison, .poison, .poison, .cref (.agg [enc tRF x, .tok 0 tRF y]) [], .cref (.tok 3 tOn (l, x, y)) [], .poison, .ref 7 [], .ref 8 [], .poison, .poison, .poison, .poison, .poison, .poison, .poison, .poison, .poison, .poison, .poison, .poison, .poison, .poison, .int (x.1.length : Int), .int v1_0, .poison, .poison, .poison, .poison, .poison, .poison, .poison, .poison, .poison, .poison, .poison, .poison, .poison, .poison, .poison, .poison, .poison, .poison, .poison, .poison, .poison, .poison, .poison, .poison, .poison, .poison, .poison, .poison, .poison, .poison, .poison, .poison, .poison], [.none, .none, .none, .none, .none, .none, .none, .box (.arr .bool 6 a1), .box (enc tSpan a2), .none, .none, .none, .none, .none, .none, .none, .none, .none, .none, .none, .none, .none, .none, .none, .none, .none, .none, .none, .none, .none, .none, .none, .none, .none, .none, .none, .none, .none, .none, .none, .none, .none, .none, .none, .none, .none, .none, .none, .none, .none, .none, .none, .lin 0 true, .none, .none, .none, .none, .none, .map 0 0 v1_1]⟩ (ctxK (X91 okP b fu) N [(1, 0), (0, 0), (1, 0), (1, 0), (0, 0), (1, 0), (0, 0)] (bodyOf Tryd.f91) (finT (X91 okP b fu) Tryd.f91))

theorem f91_e0 (okP : Int → List AV → List Int → Bool) (b : Bool) (fu : Nat) (a0 : List Int) (a1 : List Bool) (a2 : Int × Int) (l : Int) (x : Fi) (y : Fi) (N : Nat) (n : Nat) (v0_0 : Int) : f91_R0 okP b fu a0 a1 a2 l x y N (n + 1) v0_0 = f91_s0 okP b fu a0 a1 a2 l x y (f91_R0 okP b fu a0 a1 a2 l x y N n) (f91_R1 okP b fu a0 a1 a2 l x y N n) v0_0 := by kernel_rfl

theorem f91_e1 (okP : Int → List AV → List Int → Bool) (b : Bool) (fu : Nat) (a0 : List Int) (a1 : List Bool) (a2 : Int × Int) (l : Int) (x : Fi) (y : Fi) (N : Nat) (n : Nat) (v1_0 : Int) (v1_1 : List AV) : f91_R1 okP b fu a0 a1 a2 l x y N (n + 1) v1_0 v1_1 = f91_s1 okP b fu a0 a1 a2 l x y (f91_R1 okP b fu a0 a1 a2 l x y N n) v1_0 v1_1 := by kernel_rfl

noncomputable def f91_L1 (okP : Int → List AV → List Int → Bool) (b : Bool) (fu : Nat) (a0 : List Int) (a1 : List Bool) (a2 : Int × Int) (l : Int) (x : Fi) (y : Fi) (N : Nat) : Nat → Int → List AV → Option (AV × List AV)
  | 0, _, _ => none
  | n + 1, v1_0, v1_1 => f91_s1 okP b fu a0 a1 a2 l x y (f91_L1 okP b fu a0 a1 a2 l x y N n) v1_0 v1_1

noncomputable def f91_L0 (okP : Int → List AV → List Int → Bool) (b : Bool) (fu : Nat) (a0 : List Int) (a1 : List Bool) (a2 : Int × Int) (l : Int) (x : Fi) (y : Fi) (N : Nat) : Nat → Int → Option (AV × List AV)
  | 0, _ => none
  | n + 1, v0_0 => f91_s0 okP b fu a0 a1 a2 l x y (f91_L0 okP b fu a0 a1 a2 l x y N n) (f91_L1 okP b fu a0 a1 a2 l x y N n) v0_0

theorem f91_q1 (okP : Int → List AV → List Int → Bool) (b : Bool) (fu : Nat) (a0 : List Int) (a1 : List Bool) (a2 : Int × Int) (l : Int) (x : Fi) (y : Fi) (N : Nat) : ∀ n : Nat, f91_R1 okP b fu a0 a1 a2 l x y N n = f91_L1 okP b fu a0 a1 a2 l x y N n
  | 0 => by
    funext v1_0
    funext v1_1
    rfl
  | n + 1 => by
    funext v1_0
    funext v1_1
    rw [f91_e1]
    simp only [f91_q1 okP b fu a0 a1 a2 l x y N n]
    rfl

theorem f91_q0 (okP : Int → List AV → List Int → Bool) (b : Bool) (fu : Nat) (a0 : List Int) (a1 : List Bool) (a2 : Int × Int) (l : Int) (x : Fi) (y : Fi) (N : Nat) : ∀ n : Nat, f91_R0 okP b fu a0 a1 a2 l x y N n = f91_L0 okP b fu a0 a1 a2 l x y N n
  | 0 => by
    funext v0_0
    rfl
  | n + 1 => by
    funext v0_0
    rw [f91_e0]
    simp only [f91_q0 okP b fu a0 a1 a2 l x y N n, f91_q1 okP b fu a0 a1 a2 l x y N n]
    rfl

noncomputable def f91_T (okP : Int → List AV → List Int → Bool) (b : Bool) (fu : Nat) (a0 : List Int) (a1 : List Bool) (a2 : Int × Int) (l : Int) (x : Fi) (y : Fi) (N : Nat) : Option (AV × List AV) := f91_s okP b fu a0 a1 a2 l x y (f91_L0 okP b fu a0 a1 a2 l x y N N)

theorem f91_ev (okP : Int → List AV → List Int → Bool) (b : Bool) (fu : Nat) (a0 : List Int) (a1 : List Bool) (a2 : Int × Int) (l : Int) (x : Fi) (y : Fi) (N : Nat) : evT (X91 okP b fu) N Tryd.f91 [enc tInts a0, enc tUsed a1, enc tSpan a2, .cref (.tok 1 .int l) [], .cref (.agg [enc tRF x, .tok 0 tRF y]) [], .cref (.tok 3 tOn (l, x, y)) []] = f91_T okP b fu a0 a1 a2 l x y N := by
  have h : evT (X91 okP b fu) N Tryd.f91 [enc tInts a0, enc tUsed a1, enc tSpan a2, .cref (.tok 1 .int l) [], .cref (.agg [enc tRF x, .tok 0 tRF y]) [], .cref (.tok 3 tOn (l, x, y)) []] = f91_s okP b fu a0 a1 a2 l x y (f91_R0 okP b fu a0 a1 a2 l x y N N) := by kernel_rfl
  rw [h, f91_q0]
  rfl

theorem f90_ev (okP : Int → List AV → List Int → Bool) (b : Bool) (fu : Nat) (l : Int) (x y : Fi) (set : List Bool) (N : Nat) :
    evTz (X91 okP b fu) N onFrz 3 Tryd.f90 [.tok 1 .int l, .cref (.agg [enc tRF x, .tok 0 tRF y]) [], .cref (enc tUsed set) []] =
      bif onT okP b fu [] (l, x, y) [] set (-1, 99) then some (.tup [], [] ++ onI b (l, x, y) [] set (-1, 99)) else none := by kernel_rfl
noncomputable def X71 : Ctx := { T := TT, G := GG, C := [], L := [] }
theorem f71_ev (x y : Fi) (set : List Bool) (N : Nat) : evF X71 N Tryd.f71 [.agg [enc tRF x, .tok 0 tRF y], enc tUsed set] = some (.fn 90 [] [.cref (.agg [enc tRF x, .tok 0 tRF y]) [], .cref (enc tUsed set) []]) := by kernel_rfl

end Ev
end Go.Proofs.YtidnikjkpbmhhaaDoor
/- The iterator of orders: what its walk answers, in plain words. -/
set_option linter.unusedVariables false
set_option linter.unusedSimpArgs false
namespace Go.Proofs.YtidnikjkpbmhhaaDoor
namespace Ev

theorem w64_small {n : Int} (h0 : -9223372036854775808 ≤ n) (h1 : n < 9223372036854775808) : w64 n = n := by
  unfold w64 IntKind.wrap
  simp [IntKind.bits, IntKind.signed]
  omega

theorem count_set {l : List Bool} {k : Nat} (h : l.getD k false = true) : (l.set k false).count true + 1 = l.count true := by
  induction l generalizing k with
  | nil => simp at h
  | cons b l ih =>
    cases k with
    | zero =>
      simp at h
      subst h
      simp [List.count_cons]
    | succ k =>
      have := ih (k := k) (by simpa using h)
      simp only [List.set_cons_succ, List.count_cons]
      omega

/-- Enough rounds come to the same. -/
theorem ordsF_fuel (x : Fi) : ∀ (n m : Nat) (left : List Bool) (e : Sp), left.count true < n → left.count true < m → ordsF x n left e = ordsF x m left e
  | 0, m, left, e, h, _ => by omega
  | n + 1, 0, left, e, _, h => by omega
  | n + 1, m + 1, left, e, h, h' => by
    simp only [ordsF]
    split
    · rfl
    · congr 1
      funext k
      split
      · rename_i hk
        have := count_set hk.1
        rw [ordsF_fuel x n m _ _ (by omega) (by omega)]
      · rfl

theorem okSeq_append (ok : List AV → List Int → Bool) : ∀ (tr : List AV) (l m : List (List Int)), okSeq ok tr (l ++ m) = (okSeq ok tr l && okSeq ok (tr ++ l.map (enc tInts)) m)
  | tr, [], m => by simp [okSeq]
  | tr, y :: l, m => by
    simp only [List.cons_append, okSeq, okSeq_append ok _ l m, Bool.and_assoc, List.map_cons]
    rw [List.append_assoc]
    rfl

theorem ordsF_succ (x : Fi) (n : Nat) (left : List Bool) (e : Sp) : ordsF x (n + 1) left e =
    if left = unusedB then [[]] else (List.range x.1.length).flatMap fun k => if left.getD k false = true ∧ (followsF x k e).2 = true then (ordsF x n (left.set k false) (followsF x k e).1).map fun l => (k : Int) :: l else [] := rfl

/-- What one reel contributes. -/
def onC (m : Nat) (x : Fi) (left : List Bool) (e : Sp) (k : Nat) : List (List Int) :=
  if left.getD k false = true ∧ (followsF x k e).2 = true then (ordsF x m (left.set k false) (followsF x k e).1).map fun l => (k : Int) :: l else []

theorem ordsF_eq {x : Fi} {m : Nat} {left : List Bool} {e : Sp} (h : left.count true < m) (hu : left ≠ unusedB) : ordsF x m left e = (List.range x.1.length).flatMap (onC m x left e) := by
  obtain ⟨n, rfl⟩ : ∃ n, m = n + 1 := ⟨m - 1, by omega⟩
  have h0 := ordsF_succ x n left e
  rw [if_neg hu] at h0
  refine h0.trans ?_
  congr 1
  funext k
  unfold onC
  split
  · rename_i hk
    have := count_set hk.1
    rw [ordsF_fuel x n (n + 1) _ _ (by omega) (by omega)]
  · rfl


def tk {α : Type} (b : Bool) (l : List α) : List α := if b = true then l else l.take 1

theorem onL_eq (b : Bool) (d : OnD) (a0 : List Int) (a1 : List Bool) (a2 : Sp) : onL b d a0 a1 a2 = tk b ((ordsF d.2.1 7 a1 a2).map fun l => a0 ++ l) := by
  unfold onL tk
  cases b <;> simp

/-- What is left from a reel on. -/
def remC (x : Fi) (left : List Bool) (e : Sp) (k j : Nat) : List (List Int) := (List.range' k j).flatMap (onC 7 x left e)

theorem remC_succ (x : Fi) (left : List Bool) (e : Sp) (k j : Nat) : remC x left e k (j + 1) = onC 7 x left e k ++ remC x left e (k + 1) j := by
  unfold remC
  rw [List.range'_succ, List.flatMap_cons]

theorem onC_map {x : Fi} {left : List Bool} {e : Sp} {k : Nat} (a0 : List Int) (h : left.getD k false = true ∧ (followsF x k e).2 = true) : (onC 7 x left e k).map (fun l => a0 ++ l) = (ordsF x 7 (left.set k false) (followsF x k e).1).map fun l => (a0 ++ [(k : Int)]) ++ l := by
  unfold onC
  rw [if_pos h, List.map_map]
  congr 1
  funext l
  simp

section
variable {okP : Int → List AV → List Int → Bool} {b : Bool} {fu : Nat} {a0 : List Int} {left : List Bool} {e : Sp} {l : Int} {x : Fi} {N : Nat}

/-- One round, in plain words. -/
theorem on_round (hc : left.count true < fu + 1) (h6 : left.count true ≤ 6) (ha : a0.length + left.count true ≤ 6) (hx : allOK x = true) {k : Nat} (hk : k < x.1.length) (K : Int → List AV → Option (AV × List AV)) (tr : List AV) (rest : List (List Int))
    (hok : okSeq (okP l) tr (tk b ((onC 7 x left e k ++ rest).map fun l => a0 ++ l)) = true) :
    f91_s1 okP b fu a0 left e l x x K k tr = (if b = false ∧ onC 7 x left e k ≠ [] then some (.bool false, tr ++ (tk b ((onC 7 x left e k).map fun l => a0 ++ l)).map (enc tInts)) else K (w64 ((k : Int) + 1)) (tr ++ (tk b ((onC 7 x left e k).map fun l => a0 ++ l)).map (enc tInts))) ∨
    (f91_s1 okP b fu a0 left e l x x K k tr = K (w64 ((k : Int) + 1)) tr ∧ onC 7 x left e k = []) := by
  have hl6 : x.1.length ≤ 6 := Nat.le_of_ble_eq_true hx
  have hk6 : (k : Int) < 6 := by omega
  have hk0 : (0 : Int) ≤ (k : Int) := by omega
  have hkl : (k : Int) < (x.1.length : Int) := by omega
  unfold f91_s1
  have t1 : decide ((k : Int) < (x.1.length : Int)) = true := by simp [hkl]
  have t2 : (decide ((0 : Int) ≤ (k : Int)) && decide ((k : Int) < 6)) = true := by simp [hk0, hk6]
  rw [t1, t2]
  simp only [cond_true, Int.toNat_natCast]
  cases hb : left.getD k false with
  | false =>
    refine .inr ⟨by simp, ?_⟩
    unfold onC
    rw [if_neg (by rw [hb]; simp)]
  | true =>
    have t3 : followsOK x (k : Int) e = true := by simp [followsOK, inReels, hk0, hkl]
    simp only [Bool.not_true, cond_false, t3, decide_true, Bool.and_self, cond_true]
    cases hf : (followsF x (k : Int) e).2 with
    | false =>
      refine .inr ⟨by simp, ?_⟩
      unfold onC
      rw [if_neg (by rw [hf]; simp)]
    | true =>
      have hboth : left.getD k false = true ∧ (followsF x (k : Int) e).2 = true := ⟨hb, hf⟩
      have hcs := count_set hb
      have t4 : (decide ((a0.length : Int) = (a0.length : Int)) && (decide ((0 : Int) ≤ (a0.length : Int)) && decide ((a0.length : Int) ≤ (a0.length : Int)))) = true := by simp
      have t5 : (true && roomy (a0.take a0.length).length [(k : Int)].length 8) = true := by
        simp only [Bool.true_and, List.take_length, List.length_cons, List.length_nil, roomy]
        exact Nat.ble_eq_true_of_le (by omega)
      have hC := onC_map (x := x) (left := left) (e := e) (k := k) a0 hboth
      have hon : onL b (l, x, x) (a0.take a0.length ++ [(k : Int)]) (left.set k false) (followsF x (k : Int) e).1 = tk b ((onC 7 x left e k).map fun l => a0 ++ l) := by
        rw [onL_eq, hC, List.take_length]
      have hok1 : okSeq (okP l) tr (tk b ((onC 7 x left e k).map fun l => a0 ++ l)) = true := by
        unfold tk at hok ⊢
        cases b with
        | true =>
          simp only [if_true, List.map_append, okSeq_append, Bool.and_eq_true] at hok ⊢
          exact hok.1
        | false =>
          simp only [Bool.false_eq_true, if_false] at hok ⊢
          cases hq : (onC 7 x left e k) with
          | nil => rfl
          | cons y ys =>
            rw [hq] at hok
            simpa using hok
      have t6 : onT okP b fu tr (l, x, x) (a0.take a0.length ++ [(k : Int)]) (left.set k false) (followsF x (k : Int) e).1 = true := by
        unfold onT
        rw [hon, hok1]
        simp only [Bool.and_eq_true, decide_eq_true_eq, Bool.and_true]
        refine ⟨by omega, by omega, ?_, trivial, hx⟩
        simp only [List.length_append, List.take_length, List.length_cons, List.length_nil]
        omega
      refine .inl ?_
      have hR : onR b (l, x, x) (left.set k false) (followsF x (k : Int) e).1 = (b || (onC 7 x left e k).isEmpty) := by
        unfold onR onC
        rw [if_pos hboth]
        simp
      have hI : onI b (l, x, x) (a0.take a0.length ++ [(k : Int)]) (left.set k false) (followsF x (k : Int) e).1 = (tk b ((onC 7 x left e k).map fun l => a0 ++ l)).map (enc tInts) := by
        unfold onI
        rw [hon]
      simp only [Bool.not_true, cond_false, t4, cond_true, t5, t6, hR, hI]
      cases b with
      | true => simp
      | false =>
        cases hq : onC 7 x left e k with
        | nil => simp
        | cons y ys => simp

theorem on_shapes : ∀ (n : Nat) (v : Int), f91_L0 okP b fu a0 left e l x x N n v = f91_L1 okP b fu a0 left e l x x N n v []
  | 0, v => rfl
  | n + 1, v => by
    show f91_s0 okP b fu a0 left e l x x (f91_L0 okP b fu a0 left e l x x N n) (f91_L1 okP b fu a0 left e l x x N n) v = f91_s1 okP b fu a0 left e l x x (f91_L1 okP b fu a0 left e l x x N n) v []
    unfold f91_s0 f91_s1
    simp only [on_shapes n]

theorem on_loop (hc : left.count true < fu + 1) (h6 : left.count true ≤ 6) (ha : a0.length + left.count true ≤ 6) (hx : allOK x = true) : ∀ (j k : Nat) (tr : List AV) (n : Nat), k + j = x.1.length → j < n → okSeq (okP l) tr (tk b ((remC x left e k j).map fun l => a0 ++ l)) = true →
    f91_L1 okP b fu a0 left e l x x N n k tr = some (.bool (b || (remC x left e k j).isEmpty), tr ++ (tk b ((remC x left e k j).map fun l => a0 ++ l)).map (enc tInts))
  | 0, k, tr, n, hk, hn, hok => by
    obtain ⟨n, rfl⟩ : ∃ m, n = m + 1 := ⟨n - 1, by omega⟩
    show f91_s1 okP b fu a0 left e l x x (f91_L1 okP b fu a0 left e l x x N n) k tr = _
    unfold f91_s1
    have : decide ((k : Int) < (x.1.length : Int)) = false := by simp; omega
    rw [this]
    have hr : remC x left e k 0 = [] := rfl
    rw [hr]
    simp [tk]
  | j + 1, k, tr, n, hk, hn, hok => by
    obtain ⟨n, rfl⟩ : ∃ m, n = m + 1 := ⟨n - 1, by omega⟩
    rw [remC_succ] at hok ⊢
    have hw : w64 ((k : Int) + 1) = ((k + 1 : Nat) : Int) := by
      have : x.1.length ≤ 6 := Nat.le_of_ble_eq_true hx
      rw [w64_small (by omega) (by omega)]
      rfl
    show f91_s1 okP b fu a0 left e l x x (f91_L1 okP b fu a0 left e l x x N n) k tr = _
    have ih := on_loop hc h6 ha hx j (k + 1)
    rcases on_round (e := e) (l := l) hc h6 ha hx (k := k) (by omega) (f91_L1 okP b fu a0 left e l x x N n) tr (remC x left e (k + 1) j) hok with h | ⟨h, hz⟩
    · rw [h]
      cases b with
      | true =>
        rw [if_neg (by simp), hw]
        have hok' : okSeq (okP l) (tr ++ (tk true ((onC 7 x left e k).map fun l => a0 ++ l)).map (enc tInts)) (tk true ((remC x left e (k + 1) j).map fun l => a0 ++ l)) = true := by
          simp only [tk, if_true, List.map_append, okSeq_append, Bool.and_eq_true] at hok ⊢
          exact hok.2
        rw [ih _ n (by omega) (by omega) hok']
        simp [tk, List.map_append]
      | false =>
        cases hq : onC 7 x left e k with
        | nil =>
          rw [if_neg (by simp), hw]
          rw [hq] at hok
          have := ih tr n (by omega) (by omega) (by simpa using hok)
          simp only [tk, List.map_nil, Bool.false_eq_true, if_false, List.take_nil, List.append_nil, List.nil_append] at this ⊢
          exact this
        | cons y ys =>
          rw [if_pos ⟨rfl, by simp⟩]
          simp [tk]
    · rw [h, hz, hw]
      rw [hz] at hok
      have := ih tr n (by omega) (by omega) (by simpa using hok)
      simpa using this

/-- **What the iterator tells, and what it says at its end.** -/
theorem on_sp (h : onT okP b (fu + 1) [] (l, x, x) a0 left e = true) : ∃ N, f91_T okP b fu a0 left e l x x N = some (.bool (onR b (l, x, x) left e), onI b (l, x, x) a0 left e) := by
  unfold onT at h
  simp only [Bool.and_eq_true, decide_eq_true_eq] at h
  obtain ⟨hc, h6, ha, _, hx, hok⟩ := h
  refine ⟨x.1.length + 1, ?_⟩
  unfold f91_T f91_s
  simp only [decide_true, cond_true]
  have hI : onI b (l, x, x) a0 left e = (tk b ((ordsF x 7 left e).map fun l => a0 ++ l)).map (enc tInts) := by
    unfold onI
    rw [onL_eq]
  rw [onL_eq] at hok
  by_cases hu : left = unusedB
  · have hq : ∃ m, m + 1 = 7 := ⟨6, rfl⟩
    obtain ⟨m, hm⟩ := hq
    have h0 : ordsF x 7 left e = [[]] := by
      rw [← hm, ordsF_succ, if_pos hu]
    have hd : decide (left = unusedB) = true := by simp [hu]
    rw [hI]
    unfold onR
    simp only at hok ⊢
    rw [h0] at hok ⊢
    rw [hd]
    simp only [cond_true]
    have hk : okP l [] a0 = true := by
      cases b <;> simpa [tk, okSeq] using hok
    rw [hk]
    cases b <;> simp [tk]
  · have hd : decide (left = unusedB) = false := by simp [hu]
    rw [hd]
    simp only [cond_false]
    have h0 : ordsF x 7 left e = remC x left e 0 x.1.length := by
      rw [ordsF_eq (by omega) hu, List.range_eq_range']
      rfl
    rw [on_shapes]
    rw [hI]
    unfold onR
    simp only at hok ⊢
    rw [h0] at hok ⊢
    have := on_loop (e := e) (l := l) (N := x.1.length + 1) hc h6 ha hx x.1.length 0 [] (x.1.length + 1) (by omega) (by omega) hok
    simpa using this
end

end Ev
end Go.Proofs.YtidnikjkpbmhhaaDoor
/- The iterator of orders keeps its word. -/
set_option linter.unusedVariables false
set_option linter.unusedSimpArgs false
namespace Go.Proofs.YtidnikjkpbmhhaaDoor
namespace Ev

def shP (okP : Int → List AV → List Int → Bool) (tr0 : List AV) : Int → List AV → List Int → Bool := fun l tr y => okP l (tr0 ++ tr) y

theorem okSeq_shift (ok : List AV → List Int → Bool) (tr0 : List AV) : ∀ (tr : List AV) (L : List (List Int)), okSeq (fun tr y => ok (tr0 ++ tr) y) tr L = okSeq ok (tr0 ++ tr) L
  | tr, [] => rfl
  | tr, y :: L => by
    simp only [okSeq, okSeq_shift ok tr0 _ L, List.append_assoc]

theorem onT_shift (okP : Int → List AV → List Int → Bool) (b : Bool) (fu : Nat) (tr0 tr : List AV) (d : OnD) (a0 : List Int) (a1 : List Bool) (a2 : Sp) : onT (shP okP tr0) b fu tr d a0 a1 a2 = onT okP b fu (tr0 ++ tr) d a0 a1 a2 := by
  unfold onT
  rw [← okSeq_shift (okP d.1) tr0]
  rfl

theorem gO_shift (okP : Int → List AV → List Int → Bool) (b : Bool) (fu : Nat) (tr0 : List AV) : (fun tr => gO okP b fu (tr0 ++ tr)) = gO (shP okP tr0) b fu := by
  funext tr t d args
  unfold gO
  simp only [onT_shift]

theorem tctr_shift {E : Env} {i : Nat} {g : List AV → (t : Ty) → t.den → List AV → Option (Bool × AV × List AV)} (h : TCtr E i g) (tr0 : List AV) : TCtr (E.behind tr0) i (fun tr => g (tr0 ++ tr)) := by
  intro V io W tr t d x args vs r items hb hn hM hJ ht hr hg
  have := h V io W (tr0 ++ tr) t d x args vs r items hb hn hM hJ ht hr hg
  rw [List.append_assoc] at this
  exact this

theorem one_cells {V : Nat → Nat → Prop} {W : World} {a : Addr} {v : Value} (h : oneAt V W a v) : Cells V W a [v] := fun i u hi => by
  cases i with
  | zero =>
    cases hi
    rw [add_zero]
    exact ⟨h.1, by simpa using h.2⟩
  | succ i => simp at hi

theorem on_caps {V : Nat → Nat → Prop} {io : Io} {W : World} {l : Int} {x : tRF.den} {ya fa oa : Addr} {xv : Value} (hy : oneAt V W ya (.func (.yield l.toNat) #[] #[])) (hf : filmAt V io W x x fa) (ho : oneAt V W oa xv) (ht : TRr 3 tOn (l, x, x) V io W xv) :
    RelV TRr (baseCx V io) W [.cref (.tok 1 .int l) [], .cref (.agg [enc tRF x, .tok 0 tRF x]) [], .cref (.tok 3 tOn (l, x, x)) []] [.pointer (some ya), .pointer (some fa), .pointer (some oa)] := by
  obtain ⟨cs, m, f1, f2, f3⟩ := hf
  simp only [RelV]
  refine ⟨_, _, rfl, .inr ⟨[.pointer (some ya)], rfl, ?_, rfl⟩, _, _, rfl, .inr ⟨[.pointer (some fa)], rfl, ?_, rfl⟩, _, _, rfl, .inr ⟨[.pointer (some oa)], rfl, ?_, rfl⟩, rfl⟩
  · simp only [Rel]
    exact ⟨ya, _, ⟨_, rfl, l, rfl, rfl⟩, one_cells hy, (fun _ h => nomatch h), by simp [offP, add_zero]⟩
  · simp only [Rel, RelL]
    obtain ⟨g1, g2⟩ := enc_rel (io := io) (TR := TRr) f1 (baseCx V io) rfl
    refine ⟨fa, cs ++ [m], ⟨cs, [m], rfl, by rw [CRel.length f1, g2], g1, [m], [], rfl, rfl, ⟨m, rfl, f3⟩, rfl⟩, f2, (fun _ h => nomatch h), by simp [offP, add_zero]⟩
  · simp only [Rel]
    exact ⟨oa, _, ⟨_, rfl, ht⟩, one_cells ho, (fun _ h => nomatch h), by simp [offP, add_zero]⟩

section
variable (h77 : Good 77 g77) (h88 : Good 88 g88)
include h77 h88

theorem ctx91 {E : Env} (hE : E.toBase = Bs) {okP : Int → List AV → List Int → Bool} {b : Bool} {fu : Nat} (hY : TCtr E 1 (gY okP b)) (hO : TCtr E 3 (gO okP b fu)) : CtxOK E (X91 okP b fu) where
  T := by rw [hE]; exact chkAll_ok (B := Bs) rfl chkTT
  G := by show GG = E.toBase.GL; rw [hE]; rfl
  C := fun f g h => by
    rw [hE]
    exact (AllC.cons h77 (AllC.cons h88 AllC.nil)) f g h
  M := by rw [hE]; exact mixed
  K := fun i g h => by
    simp only [X91, findA] at h
    split at h
    · rename_i e
      subst e
      cases h
      exact hY
    · split at h
      · rename_i e
        subst e
        cases h
        exact hO
      · cases h
  I := fun f it h => by cases h
  mkm := fun d h => by cases h
  up := fun u h => by cases h

theorem on_ctr {b : Bool} : ∀ (fu : Nat) {E : Env}, E.toBase = Bs → ∀ okP : Int → List AV → List Int → Bool, TCtr E 1 (gY okP b) → TCtr E 3 (gO okP b fu)
  | 0, E, hE, okP, hY => by
    intro V io W tr t d xv args vs r items hb hn hM hJ ht hr hg
    unfold gO at hg
    split at hg
    · split at hg
      · simp only [Option.some.injEq, Prod.mk.injEq] at hg
        have := hg.1
        simp [onT] at this
      · cases hg
    · cases hg
  | fu + 1, E, hE, okP, hY => by
    intro V io W tr t d xv args vs r items hb hn hM hJ ht hr hg
    have hTR : E.TR = TRr := congrArg Base.TR hE
    have hP : E.P = Tryd.prog := congrArg Base.P hE
    unfold gO at hg
    split at hg
    · rename_i a0 a1 a2
      split at hg
      · rename_i D x0 x1 x2 hD h0 h1 h2
        simp only [Option.some.injEq, Prod.mk.injEq] at hg
        obtain ⟨hT, rfl, rfl⟩ := hg
        obtain ⟨l, x, y⟩ := D
        have hxy : x = y := by
          unfold onT at hT
          simp only [Bool.and_eq_true, decide_eq_true_eq] at hT
          exact hT.2.2.2.1
        subst hxy
        have e1 := castD_eq hD
        cases e1
        rw [hTR] at ht
        have ht' := ht
        obtain ⟨l', x', y', e2, ya, fa, oa, hv, hya, hfa, hoa⟩ := ht
        cases e2
        subst hv
        refine .inl ⟨_, [], [.pointer (some ya), .pointer (some fa), .pointer (some oa)], Tryd.f91, rfl, by rw [hP]; exact Tryd.func91, by kernel_rfl, by kernel_rfl, ?_⟩
        have hY' : TCtr (E.behind tr) 1 (gY (shP okP tr) b) := tctr_shift hY tr
        have hO' : TCtr (E.behind tr) 3 (gO (shP okP tr) b fu) := by
          have := tctr_shift (on_ctr fu hE okP hY) tr
          rw [gO_shift] at this
          exact this
        have hX := ctx91 h77 h88 (E := E.behind tr) hE hY' hO'
        obtain ⟨N, hN⟩ := on_sp (okP := shP okP tr) (b := b) (fu := fu) (a0 := x0) (left := x1) (e := x2) (l := l) (x := x) (by rw [onT_shift, List.append_nil]; exact hT)
        have hev := (f91_ev (shP okP tr) b fu x0 x1 x2 l x x N).trans hN
        have hrel : RelV E.TR (baseCx V io) W [enc tInts x0, enc tUsed x1, enc tSpan x2, .cref (.tok 1 .int l) [], .cref (.agg [enc tRF x, .tok 0 tRF x]) [], .cref (.tok 3 tOn (l, x, x)) []] (vs ++ [.pointer (some ya), .pointer (some fa), .pointer (some oa)]) := by
          have := wkV_rel hr
          simp only [wkL, wk_dec h0, wk_dec h1, wk_dec h2] at this
          exact relV_append this (by rw [hTR]; exact on_caps hya hfa hoa ht')
        have := tctr_of (E := E) (tr := tr) hX (by rw [hP]; exact Tryd.func91) hev hb hn hM hJ hrel
        exact this
      · cases hg
    · cases hg
end

def ordT (x y : Fi) (set : List Bool) : Bool := decide (x = y) && (allOK x && decide (set.count true ≤ 6))

/-- What is ranged over: all orders of some reels. -/
def itO : It := ⟨tInts, fun cap =>
  match cap with
  | [.cref (.agg (a :: r)) [], .cref s []] =>
    match dec tRF a, dec tUsed s, r with
    | some x, some set, [.tok 0 t d] => (match castD tRF t d with | some y => some (ordT x y set, ordersF x set) | none => none)
    | _, _, _ => none
  | _ => none⟩

theorem okSeq_all {ok : List AV → List Int → Bool} {xs : List (List Int)} (h : ∀ pre y rest, xs = pre ++ y :: rest → ok (pre.map (enc tInts)) y = true) : ∀ (pre rest : List (List Int)), xs = pre ++ rest → okSeq ok (pre.map (enc tInts)) rest = true
  | pre, [], _ => rfl
  | pre, y :: rest, e => by
    simp only [okSeq, Bool.and_eq_true]
    refine ⟨h pre y rest e, ?_⟩
    have := okSeq_all h (pre ++ [y]) rest (by rw [e]; simp)
    simpa using this

theorem itO_ok (h77 : Good 77 g77) (h88 : Good 88 g88) : ICtr Bs 90 itO := by
  intro E hE b V io W l cap caps xs hb hn hM hJ hr hit hY
  have hTR : E.TR = TRr := congrArg Base.TR hE
  have hP : E.P = Tryd.prog := congrArg Base.P hE
  simp only [itO] at hit
  split at hit
  · rename_i a r s
    split at hit
    · rename_i x set t d h0 h1
      split at hit
      · rename_i y h2
        have hit2 := Option.some.inj hit
        have hT : ordT x y set = true := congrArg Prod.fst hit2
        have hxs : ordersF x set = xs := congrArg Prod.snd hit2
        subst hxs
        simp only [ordT, Bool.and_eq_true, decide_eq_true_eq] at hT
        obtain ⟨rfl, hx, h6⟩ := hT
        have e1 := castD_eq h2
        cases e1
        let okP : Int → List AV → List Int → Bool := fun l' tr y => @decide (l' = l ∧ ∃ pre rest, tr = pre.map (enc tInts) ∧ ordersF x set = pre ++ y :: rest ∧ (b = false → pre = [])) (Classical.propDecidable _)
        have hY1 : TCtr E 1 (gY okP b) := by
          intro V' io' W' tr t' d' xv args vs r' items hb' hn' hM' hJ' ht' hr' hg
          unfold gY at hg
          split at hg
          · rename_i a1
            split at hg
            · rename_i l' y1 hl hy
              simp only [Option.some.injEq, Prod.mk.injEq] at hg
              obtain ⟨hok, rfl, rfl⟩ := hg
              simp only [okP, decide_eq_true_eq] at hok
              obtain ⟨rfl, pre, rest, rfl, hxs, hbp⟩ := hok
              have e2 := castD_eq hl
              cases e2
              rw [hTR] at ht'
              obtain ⟨l2, e3, rfl⟩ := ht'
              cases e3
              have hr2 := wkV_rel hr'
              simp only [wkL, wk_dec hy] at hr2
              have := hY pre y1 rest hxs hbp V' io' W' vs hb' hn' hM' hJ' hr2
              have conv : ∀ {y : Value} {W2 : World}, (∃ io2, y = .bool b ∧ Keep E.M io' io2 W' W2 ∧ IoOK E.MI io2 W2 ∧ E.J ((pre ++ [y1]).map (enc tInts)) V' io2 W2) →
                  ∃ io2, VR E.TR (baseCx V' io2) W2 (.bool b) y ∧ Keep E.M io' io2 W' W2 ∧ IoOK E.MI io2 W2 ∧ E.J (pre.map (enc tInts) ++ [enc tInts y1]) V' io2 W2 := fun ⟨io2, q1, q2, q3, q4⟩ => ⟨io2, by rw [q1]; exact .inr ⟨[.bool b], rfl, by simp [Rel], rfl⟩, q2, q3, by simpa using q4⟩
              rcases this with ⟨f, xs1, ys1, fn, g1, g2, g3, g4, g5⟩ | ⟨l3, g1, fn, tm, asg, bd, g2, g3⟩
              · exact .inl ⟨f, xs1, ys1, fn, g1, g2, g3, g4, Calls.mono g5 fun e W2 ⟨q, hq, hh⟩ => ⟨q, hq, conv hh⟩⟩
              · exact .inr ⟨l3, g1, fn, tm, asg, bd, g2, RoundIn.mono g3 fun e W2 ⟨q, hq, hh⟩ => ⟨q, hq, conv hh⟩⟩
            · cases hg
          · cases hg
        have hO1 := on_ctr h77 h88 (b := b) 7 hE okP hY1
        have hX := ctx91 h77 h88 (E := E.behind []) hE (okP := okP) (b := b) (fu := 7) (tctr_shift hY1 []) (tctr_shift hO1 [])
        have hon : onT okP b 7 [] (l, x, x) [] set (-1, 99) = true := by
          unfold onT
          simp only [Bool.and_eq_true, decide_eq_true_eq]
          refine ⟨by omega, h6, by simpa using h6, trivial, hx, ?_⟩
          rw [onL_eq]
          have hm : (ordsF x 7 set (-1, 99)).map (fun l => ([] : List Int) ++ l) = ordersF x set := by simp [ordersF]
          simp only at hm ⊢
          rw [hm]
          cases b with
          | true =>
            refine okSeq_all (xs := ordersF x set) (fun pre y rest e => ?_) [] _ rfl
            simp only [okP, decide_eq_true_eq]
            exact ⟨trivial, pre, rest, rfl, e, fun h => nomatch h⟩
          | false =>
            unfold tk
            simp only [Bool.false_eq_true, if_false]
            cases hq : ordersF x set with
            | nil => rfl
            | cons y ys =>
              simp only [List.take_succ_cons, List.take_zero, okSeq, Bool.and_true, okP, decide_eq_true_eq]
              exact ⟨trivial, [], ys, rfl, by rw [hq]; rfl, fun _ => rfl⟩
        have hev := f90_ev okP b 7 l x x set 0
        rw [hon] at hev
        simp only [cond_true] at hev
        have hrel : RelV E.TR (baseCx V io) W [.tok 1 .int l, .cref (.agg [enc tRF x, .tok 0 tRF x]) [], .cref (enc tUsed set) []] (Value.func (.yield l) #[] #[] :: caps) := by
          have := wkV_rel hr
          simp only [wkL, wkAV, wk_dec h0, wk_dec h1] at this
          simp only [RelV]
          refine ⟨_, _, rfl, .inr ⟨[.func (.yield l) #[] #[]], rfl, ?_, rfl⟩, ?_⟩
          · rw [hTR]
            simp only [Rel]
            exact ⟨_, rfl, l, rfl, rfl⟩
          · simp only [RelV] at this
            rw [hTR]
            exact this
        have hcall := tctr_ofZ (E := E) (tr := []) hX (by rw [hTR]; exact onFrz_ok) (by rw [hP]; exact Tryd.func90) hev (by rw [hE]; exact hb) hn hM hJ hrel
        rw [hP] at hcall
        refine Calls.mono hcall ?_
        rintro e W' ⟨v, rfl, io', _, q1, q2, q3⟩
        refine ⟨v, rfl, io', q1, by rw [← hE]; exact q2, ?_⟩
        have : told itO.t b (ordersF x set) = [] ++ ([] ++ onI b (l, x, x) [] set (-1, 99)) := by
          simp only [List.nil_append, onI, onL_eq, told, itO, tk]
          have hm : (ordsF x 7 set (-1, 99)).map (fun l => ([] : List Int) ++ l) = ordersF x set := by simp [ordersF]
          simp only [List.nil_append] at hm
          rw [hm]
          cases b <;> simp
        rw [this]
        exact q3
      · cases hit
    · cases hit
  · cases hit

end Ev
end Go.Proofs.YtidnikjkpbmhhaaDoor
/- A walk that looks something up in a memo: both outcomes. -/
set_option linter.unusedVariables false
set_option linter.unusedSimpArgs false
namespace Go.Proofs.YtidnikjkpbmhhaaDoor
namespace Ev

variable {E : Env} {V0 : Nat → Nat → Prop} {io0 : Io} {W0 : World} {C : Cx} {s s' s1 s2 : St} {a : Act} {W : World} {X : Ctx} {o : Oper}

/-- In the order of the text, up to a place. -/
theorem wpOps_stepsK (hX : CtxOK E X) (ro : Option Nat) {ops : Array Oper} {Q : Exit → Act → World → Prop} {rest : List Nat} : ∀ (l : List Oper) (k : Nat) (s s' : St) (C : Cx) (a : Act) (W : World), (∀ j, j < l.length → l[j]? = ops[k + j]?) → steps X ops.toList l s = some s' → Sim E V0 io0 W0 C s a W →
    (∀ C' a' W', Sim E V0 io0 W0 C' s' a' W' → wpOpsIn (Fr ro) 0 E.P ops Q rest a' W') → wpOpsIn (Fr ro) 0 E.P ops Q (List.range' k l.length ++ rest) a W
  | [], k, s, s', C, a, W, hl, h, S, hn => by
    simp only [steps] at h
    cases h
    simpa using hn _ _ _ S
  | o :: l, k, s, s', C, a, W, hl, h, S, hn => by
    simp only [steps] at h
    split at h
    · rename_i s1 hs1
      have h0 : ops[k]? = some o := by simpa using (hl 0 (by simp)).symm
      simp only [List.length_cons, List.range'_succ, List.cons_append]
      rw [wpOpsIn_cons]
      refine wpOp_of_step (st1_ok hX hs1) S h0 ro fun C' a' W' S' hf => ?_
      exact wpOps_stepsK hX ro l (k + 1) s1 s' C' a' W' (fun j hj => by have := hl (j + 1) (by simpa using hj); simpa [Nat.add_assoc, Nat.add_comm 1 j] using this) h S' hn
    · cases h

/-- A region with one operation that is walked by hand. -/
theorem region_cut (hX : CtxOK E X) (ro : Option Nat) {ops : Array Oper} {id n : Nat} {o : Oper} {Q : Exit → Act → World → Prop} (hn : ops[n]? = some o) (hg : o.guard = none) (h : steps X ops.toList (ops.toList.take n) s = some s1) (S : Sim E V0 io0 W0 C s a W)
    (hop : ∀ C' a' W', Sim E V0 io0 W0 C' s1 a' W' → ∃ v C2 W2, (execOp a'.eval o).run E.P W' = .ok (.value v) W2 ∧ Sim E V0 io0 W0 C2 s1 a' W2 ∧ ∃ x : AV, VR E.TR C2 W2 x v ∧ ∃ s2, steps X ops.toList (ops.toList.drop (n + 1)) (s1.put o.dst x) = some s2 ∧ ∀ C3 a3 W3, Sim E V0 io0 W0 C3 s2 a3 W3 → Q .normal a3 W3) :
    (Code.region id ops false).wpIn (Fr ro) 0 E.P Q a W := by
  refine wpIn_region ?_
  have hlt := (Array.getElem?_eq_some_iff.1 hn).1
  have hsplit : List.range ops.size = List.range' 0 (ops.toList.take n).length ++ (n :: List.range' (n + 1) (ops.toList.drop (n + 1)).length) := by
    rw [List.range_eq_range']
    have e1 : (ops.toList.take n).length = n := by simp; omega
    have e2 : (ops.toList.drop (n + 1)).length = ops.size - (n + 1) := by simp
    rw [e1, e2, show n :: List.range' (n + 1) (ops.size - (n + 1)) = List.range' n (ops.size - n) by
      rw [show ops.size - n = (ops.size - (n + 1)) + 1 by omega, List.range'_succ]]
    have := List.range'_append_1 (s := 0) (m := n) (n := ops.size - n)
    simp only [Nat.zero_add] at this
    rw [this]
    congr 1
    omega
  rw [hsplit]
  refine wpOps_stepsK hX ro _ 0 s s1 C a W (fun j hj => ?_) h S fun C' a' W' S' => ?_
  · have : j < n := by simp at hj; omega
    simp [List.getElem?_take, this]
  · rw [wpOpsIn_cons]
    unfold wpOpIn
    simp only [hn]
    have hw : Region.wanted o (yielded ops a'.tmps) = true := by simp [Region.wanted, hg]
    rw [if_pos hw]
    obtain ⟨v, C2, W2, hr, S2, x, hv, s2, h2, hq⟩ := hop C' a' W' S'
    refine ⟨fun _ _ => trivial, ?_⟩
    rw [semAt_fr _ hr (fun _ h => nomatch h), hr, Oper.uponIn_value]
    have := wpOps_stepsK hX ro (rest := []) (Q := Q) (ops := ops) (ops.toList.drop (n + 1)) (n + 1) (s1.put o.dst x) s2 C2 (a'.put o.dst v) W2 (fun j hj => by simp) h2 (S2.put o.dst hv) fun C3 a3 W3 S3 => hq C3 a3 W3 S3
    simpa using this

end Ev
end Go.Proofs.YtidnikjkpbmhhaaDoor
