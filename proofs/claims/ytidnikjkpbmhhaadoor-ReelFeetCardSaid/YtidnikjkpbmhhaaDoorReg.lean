/- One operation with its guard; the operations of a region in the order of the text. -/
import Derived.Test.YtidnikjkpbmhhaaDoorCode
import Derived.OrdersIn
set_option linter.unusedVariables false
namespace Go.Proofs.YtidnikjkpbmhhaaDoor
namespace Ev

variable {E : Env} {V0 : Nat → Nat → Prop} {io0 : Io} {W0 : World} {C : Cx} {s : St} {a : Act} {W : World} {X : Ctx} {o : Oper}

/-- The value of an operation, a choice among them. -/
def valA (X : Ctx) (s : St) (o : Oper) : Option (AV × List Ob) :=
  match o.op with
  | .pick c x y =>
    match evO X s 0 c with
    | .bool t => some (bif t then evO X s o.type x else evO X s o.type y, s.objs)
    | _ => none
  | _ =>
    match evVal X s o with
    | some (t, v, obs) => bif t then some (v, obs) else none
    | none => none

def wantA (ops : List Oper) (s : St) (o : Oper) : Option Bool :=
  match o.guard with
  | none => some true
  | some (j, want) =>
    match ops[j]? with
    | some oj =>
      match oj.dst with
      | some k =>
        match s.get k with
        | .bool t => some (t == want)
        | .undef => some false
        | _ => none
      | none => none
    | none => none

def st1 (X : Ctx) (ops : List Oper) (s : St) (o : Oper) : Option St :=
  match wantA ops s o with
  | some true =>
    match valA X s o with
    | some (v, obs) => some ⟨(s.put o.dst v).tmps, obs⟩
    | none => none
  | some false => some (s.put o.dst .undef)
  | none => none

/-- Writing into a slot what it holds. -/
theorem set_same {s : St} {k : Nat} {v : AV} (h : s.get k = v) (hv : v ≠ .undef) : s.tmps.set k v = s.tmps := by
  unfold St.get at h
  by_cases hk : k < s.tmps.length
  · have : s.tmps[k] = v := by rw [← h]; simp [List.getD, List.getElem?_eq_getElem hk]
    apply List.ext_getElem?
    intro i
    rw [List.getElem?_set]
    by_cases e : k = i
    · subst e
      rw [if_pos rfl, if_pos hk, List.getElem?_eq_getElem hk, this]
    · rw [if_neg e]
  · have : s.tmps.getD k .undef = .undef := by simp [List.getD, List.getElem?_eq_none (Nat.le_of_not_lt hk)]
    rw [this] at h
    exact absurd h.symm hv

theorem evOp_eq {ρ : Type} (K : St → Option ρ) : evOp X s o K = match valA X s o with | some (v, obs) => K ⟨(s.put o.dst v).tmps, obs⟩ | none => none := by
  unfold evOp valA
  cases ho : o.op with
  | pick c x y =>
    dsimp only
    cases hc : evO X s 0 c with
    | bool t =>
      dsimp only
      have e : ∀ u : Bool, u = t → ∀ k, c = .tmp k → (⟨s.tmps.set k (.bool u), s.objs⟩ : St) = s := fun u hu k hk => by
        subst hu
        subst hk
        simp only [evO] at hc
        rw [set_same hc (by simp)]
      cases c with
      | tmp k => cases t <;> simp only [cond_true, cond_false] <;> rw [e _ rfl k rfl] <;> simp only [put_objs]
      | _ => cases t <;> simp only [cond_true, cond_false, put_objs]
    | _ => rfl
  | _ =>
    dsimp only
    cases hv : evVal X s o with
    | none => rfl
    | some r =>
      obtain ⟨t, v, obs⟩ := r
      cases t <;> rfl

theorem evG_eq {ρ : Type} (ops : List Oper) (K : St → Option ρ) : evG X ops s o K = match st1 X ops s o with | some s' => K s' | none => none := by
  unfold evG st1 wantA
  cases hg : o.guard with
  | none =>
    simp only [evOp_eq]
    cases valA X s o with
    | none => rfl
    | some r => rfl
  | some jw =>
    obtain ⟨j, want⟩ := jw
    dsimp only
    cases hj : ops[j]? with
    | none => rfl
    | some oj =>
      dsimp only
      cases hk : oj.dst with
      | none => rfl
      | some k =>
        dsimp only
        cases hs : s.get k with
        | bool t =>
          dsimp only
          have e : ∀ u : Bool, u = t → ({ s with tmps := s.tmps.set k (.bool u) } : St) = s := fun u hu => by
            subst hu
            rw [set_same hs (by simp)]
          cases t <;> cases want <;> simp only [cond_true, cond_false, e true, e false, if_true, if_false, evOp_eq, reduceCtorEq, beq_self_eq_true, beq_iff_eq] <;> first
            | (cases valA X s o <;> rfl)
            | rfl
        | undef => rfl
        | _ => rfl

def steps (X : Ctx) (ops : List Oper) : List Oper → St → Option St
  | [], s => some s
  | o :: r, s => match st1 X ops s o with | some s' => steps X ops r s' | none => none

theorem evOps_eq {ρ : Type} (ops : List Oper) : ∀ (l : List Oper) (s : St) (K : St → Option ρ), evOps X ops l s K = match steps X ops l s with | some s' => K s' | none => none
  | [], s, K => rfl
  | o :: r, s, K => by
    simp only [evOps, evG_eq, steps]
    cases st1 X ops s o with
    | none => rfl
    | some s' => exact evOps_eq ops r s' K

/-- A guard is read alike. -/
theorem wanted_of (S : Sim E V0 io0 W0 C s a W) {ops : Array Oper} {b : Bool} (h : wantA ops.toList s o = some b) : Region.wanted o (yielded ops a.tmps) = b := by
  unfold wantA at h
  unfold Region.wanted
  cases hg : o.guard with
  | none =>
    rw [hg] at h
    cases h
    rfl
  | some jw =>
    obtain ⟨j, want⟩ := jw
    rw [hg] at h
    dsimp only at h ⊢
    split at h
    · rename_i oj hj
      split at h
      · rename_i k hk
        have hoj : ops[j]? = some oj := by simpa using hj
        have hy : yielded ops a.tmps j = match a.tmps[k]? with | some (.bool b) => some b | _ => none := by
          unfold yielded
          rw [hoj]
          simp only [Option.bind_some, hk]
          cases a.tmps[k]? <;> rfl
        rw [hy]
        split at h
        · rename_i t ht
          cases h
          have hlt : k < s.tmps.length := by
            rcases Nat.lt_or_ge k s.tmps.length with h | h
            · exact h
            · unfold St.get at ht
              simp [List.getD, List.getElem?_eq_none h] at ht
          obtain ⟨v, hv, hr⟩ := S.tm k _ (List.getElem?_eq_getElem hlt)
          have he : s.tmps[k] = .bool t := by rw [← ht]; unfold St.get; simp [List.getD, List.getElem?_eq_getElem hlt]
          rw [he] at hr
          rw [hv, hr.bool_inv]
          cases t <;> cases want <;> rfl
        · rename_i ht
          cases h
          by_cases hlt : k < s.tmps.length
          · obtain ⟨v, hv, hr⟩ := S.tm k _ (List.getElem?_eq_getElem hlt)
            have he : s.tmps[k] = .undef := by rw [← ht]; unfold St.get; simp [List.getD, List.getElem?_eq_getElem hlt]
            rw [he] at hr
            rw [hv, hr.undef_inv]
            rfl
          · rw [Array.getElem?_eq_none (by rw [S.len]; exact Nat.le_of_not_lt hlt)]
            rfl
        · cases h
      · cases h
    · cases h

/-- A choice. -/
theorem op_pick (hX : CtxOK E X) (S : Sim E V0 io0 W0 C s a W) {c x y : Operand} {t : Bool} (ho : o.op = .pick c x y) (hc : evO X s 0 c = .bool t) :
    OpOK E V0 io0 W0 C o s a W (bif t then evO X s o.type x else evO X s o.type y) s.objs := by
  have h := S.evO hX 0 c
  rw [hc] at h
  refine OpOK.pure S (x := if t then a.eval x else a.eval y) ?_ ?_
  · unfold execOp
    rw [ho]
    simp only [h.bool_inv, asBool, Sem.run_bind, Sem.run_pure, Result.andThen_ok]
  · cases t
    · exact S.evO hX _ y
    · exact S.evO hX _ x

theorem valA_ok (hX : CtxOK E X) (S : Sim E V0 io0 W0 C s a W) {v : AV} {obs : List Ob} (h : valA X s o = some (v, obs)) : OpOK E V0 io0 W0 C o s a W v obs := by
  unfold valA at h
  split at h
  · rename_i c x y ho
    split at h
    · rename_i t hc
      cases h
      exact op_pick hX S ho hc
    · cases h
  · split at h
    · rename_i t v' obs' hv
      cases t with
      | true =>
        simp only [cond_true] at h
        cases h
        exact evVal_ok hX S hv
      | false => cases h
    · cases h

theorem valA_ob {v : AV} {obs : List Ob} (h : valA X s o = some (v, obs)) : ObLe o.dst s.objs obs := by
  unfold valA at h
  split at h
  · split at h
    · cases h
      exact ObLe.refl _ _
    · cases h
  · split at h
    · rename_i t v' obs' hv
      cases t with
      | true =>
        simp only [cond_true] at h
        cases h
        exact evVal_ob hv
      | false => cases h
    · cases h

/-- An operation of a region, guarded or not, from one state to the next. -/
def StepOK (E : Env) (V0 : Nat → Nat → Prop) (io0 : Io) (W0 : World) (ops : Array Oper) (o : Oper) (s s' : St) : Prop :=
  ∀ C a W, Sim E V0 io0 W0 C s a W → ∀ (ro : Option Nat) (next : Act → World → Prop) (Q : Exit → Act → World → Prop), (∀ C' a' W', Sim E V0 io0 W0 C' s' a' W' → Fm E.M (fun k => o.dst = some k) a a' C C' W W' → next a' W') →
    if Region.wanted o (yielded ops a.tmps) then o.wpIn (Fr ro) 0 E.P a W next Q else next (a.put o.dst undef) W

theorem st1_ok (hX : CtxOK E X) {ops : Array Oper} {s' : St} (h : st1 X ops.toList s o = some s') : StepOK E V0 io0 W0 ops o s s' := by
  intro C a W S ro next Q hn
  unfold st1 at h
  split at h
  · rename_i hw
    rw [wanted_of S hw]
    simp only [if_true]
    split at h
    · rename_i v obs hv
      cases h
      exact valA_ok hX S hv ro next Q fun C' a' W' S' hle ha hk => hn C' a' W' S' (Fm.of S S' hle (valA_ob hv) ha hk)
    · cases h
  · rename_i hw
    rw [wanted_of S hw]
    cases h
    simp only [Bool.false_eq_true, if_false]
    exact hn _ _ _ (S.put o.dst vr_undef) ⟨(fmA_put o.dst a undef).1, (fmA_put o.dst a undef).2.1, fun _ _ _ h => h, fun _ v _ h => ⟨v, h, rfl⟩, Kx.refl _ _ _⟩
  · cases h

theorem wpOp_of_step {ops : Array Oper} {s' : St} (h : StepOK E V0 io0 W0 ops o s s') (S : Sim E V0 io0 W0 C s a W) {i : Nat} (hi : ops[i]? = some o) (ro : Option Nat) {K : Act → World → Prop} {Q : Exit → Act → World → Prop}
    (hn : ∀ C' a' W', Sim E V0 io0 W0 C' s' a' W' → Fm E.M (fun k => o.dst = some k) a a' C C' W W' → K a' W') : wpOpIn (Fr ro) 0 E.P ops Q i K a W := by
  have := h C a W S ro K Q hn
  unfold wpOpIn
  simp only [hi]
  split
  · rename_i hw
    rw [if_pos hw] at this
    exact this
  · rename_i hw
    rw [if_neg hw] at this
    exact ⟨fun _ _ => trivial, this⟩

/-- In the order of the text. -/
theorem wpOps_steps (hX : CtxOK E X) (ro : Option Nat) {D : Nat → Prop} {a0 : Act} {C0 : Cx} {Wa : World} {ops : Array Oper} {Q : Exit → Act → World → Prop} : ∀ (l : List Oper) (k : Nat) (s s' : St) (C : Cx) (a : Act) (W : World), (∀ j, l[j]? = ops[k + j]?) → steps X ops.toList l s = some s' → Sim E V0 io0 W0 C s a W → (∀ o ∈ l, ∀ k, o.dst = some k → D k) → Fm E.M D a0 a C0 C Wa W →
    (∀ C' a' W', Sim E V0 io0 W0 C' s' a' W' → Fm E.M D a0 a' C0 C' Wa W' → Q .normal a' W') → wpOpsIn (Fr ro) 0 E.P ops Q (List.range' k l.length) a W
  | [], k, s, s', C, a, W, hl, h, S, hD, hF, hn => by
    simp only [steps] at h
    cases h
    simp only [List.length_nil, List.range'_zero, wpOpsIn]
    exact hn _ _ _ S hF
  | o :: l, k, s, s', C, a, W, hl, h, S, hD, hF, hn => by
    simp only [steps] at h
    split at h
    · rename_i s1 hs1
      have h0 : ops[k]? = some o := by simpa using (hl 0).symm
      simp only [List.length_cons, List.range'_succ]
      rw [wpOpsIn_cons]
      refine wpOp_of_step (st1_ok hX hs1) S h0 ro fun C' a' W' S' hf => ?_
      exact wpOps_steps hX ro l (k + 1) s1 s' C' a' W' (fun j => by have := hl (j + 1); simpa [Nat.add_assoc, Nat.add_comm 1 j] using this) h S' (fun o ho => hD o (List.mem_cons_of_mem _ ho)) (hF.trans (hf.mono (hD o (List.mem_cons_self ..)))) hn
    · cases h

theorem region_text (hX : CtxOK E X) (ro : Option Nat) {D : Nat → Prop} {a0 : Act} {C0 : Cx} {Wa : World} {ops : Array Oper} {id : Nat} {s' : St} {Q : Exit → Act → World → Prop} (h : steps X ops.toList ops.toList s = some s') (S : Sim E V0 io0 W0 C s a W) (hD : ∀ o ∈ ops.toList, ∀ k, o.dst = some k → D k) (hF : Fm E.M D a0 a C0 C Wa W) (hn : ∀ C' a' W', Sim E V0 io0 W0 C' s' a' W' → Fm E.M D a0 a' C0 C' Wa W' → Q .normal a' W') :
    (Code.region id ops false).wpIn (Fr ro) 0 E.P Q a W := by
  refine wpIn_region ?_
  have := wpOps_steps hX ro (Q := Q) ops.toList 0 s s' C a W (by simp) h S hD hF hn
  rw [List.range_eq_range']
  simpa using this

end Ev
end Go.Proofs.YtidnikjkpbmhhaaDoor
