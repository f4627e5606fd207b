/- Functions that are walked by hand, in part: from one walk's end to the next one's start; cells of a block of ours are written. -/
import Derived.Test.YtidnikjkpbmhhaaDoorLook
set_option linter.unusedVariables false
namespace Go.Proofs.YtidnikjkpbmhhaaDoor
namespace Ev

variable {B : Base} {V0 : Nat → Nat → Prop} {io0 : Io} {W0 : World} {C : Cx} {s s' s1 : St} {a : Act} {W : World} {X : Ctx}

/-- What a walk by hand of the body answers, the call returns. -/
theorem ctr_hand {f : Nat} {fn : Func} {c : Code} (hf : B.P.funcs[f]? = some fn) (hc : fn.body = some c) {g : List AV → Option (Bool × AV)}
    (hg : ∀ args r, g args = some (true, r) → ∀ V io W vs a, a.defers = [] → BaseOK B V io W → RelV B.TR (baseCx V io) W (wkL args) vs → Sim B.env V io W (baseCx V io) (st0 fn (wkL args)) a W →
      ∃ X r0, CtxOK B.env X ∧ wkAV r0 = r ∧ ∀ Q : Exit → Act → World → Prop, (∀ e s, finK X fn e s = some r0 → ∀ W1 io1, Keep noM io io1 W W1 → ∀ C a' W', Sim B.env V io1 W1 C s a' W' → Q (toExit e) a' W') → c.wpIn (Fr none) 0 B.P Q a W) : Ctr B f g := by
  intro V io W args vs r hb hr h
  replace hr := wkV_rel hr
  have S0 := st0_sim (E := B.env) hb hr fn (Nat.zero_le _) fun b hm => hm.elim
  obtain ⟨X, r0, hX, hr0, hw⟩ := hg args r h V io W vs _ rfl hb hr S0
  refine calls_of_fr (ro := none) (callsIn_of_wp_marks (F := Fr none) hf hc trivial ?_)
  refine hw _ ?_
  intro e s he W1 io1 hk C a W' S
  have fin : resAV X fn s = some r0 → LeavesInM (Fr none) 0 B.P fn a.tmps (fun e W' => ∃ v io', e = .returned v ∧ VR B.TR (baseCx V io') W' r v ∧ Keep noM io io' W W' ∧ IoOK B.MI io' W') a.defers .returning W' := fun hr =>
    leave_ok S fun a' W'' ht S' => by
      obtain ⟨v, hv, hvr⟩ := resAV_ok hX S' hr
      exact ⟨v, hv, v, C.io, rfl, hr0 ▸ vr_wk hvr, hk.trans S'.kp, S'.iok⟩
  cases e with
  | norm => exact fin he
  | ret => exact fin he
  | exit j => cases he

/-- A contract, argument by argument. -/
theorem ctr_of_each {f : Nat} {g : List AV → Option (Bool × AV)} (h : ∀ args r, g args = some (true, r) → ∃ g', Ctr B f g' ∧ g' args = some (true, r)) : Ctr B f g := fun V io W args vs r hb hr hg => by
  obtain ⟨g', h1, h2⟩ := h args r hg
  exact h1 V io W args vs r hb hr h2

/-- No objects yet. -/
theorem sim_base {V : Nat → Nat → Prop} {io : Io} (hb : BaseOK B V io W) (hl : a.tmps.size = s.tmps.length) (ht : ∀ (t : Nat) (x : AV), s.tmps[t]? = some x → ∃ v, a.tmps[t]? = some v ∧ VR B.TR (baseCx V io) W x v) (hd : a.defers = []) (ho : ∀ (k : Nat) (x : Ob), s.objs[k]? = some x → x = Ob.none) : Sim B.env V io W (baseCx V io) s a W := by
  refine ⟨hl, ht, hd ▸ DfOK.nil _ _, ?_, ?_, ?_, ?_, ?_, ?_, ?_, fun b o h => .inl h, fun b o h => h, hb.iok, hb.gl, Keep.refl _ _ _, hb.old, Nat.zero_le _, (fun b hm => hm.elim), fun k x y tr _ h => nomatch ho k _ h⟩
  · intro k v h
    exact nomatch ho k _ h
  · intro k b h
    cases h
  · intro k k' b h
    cases h
  · intro k b o h
    cases h
  · intro k v al
    exact ⟨(fun h => nomatch h), fun h => nomatch ho k _ h⟩
  · intro k v b lo hi o h
    cases h
  · intro k k' v v' b lo hi lo' hi' o h
    cases h

theorem frL_get (obs : List Ob) : ∀ (l : List AV) (t : Nat), (frL obs l)[t]? = (l[t]?).map (frAV obs)
  | [], t => by simp [frL]
  | v :: l, 0 => by simp [frL]
  | v :: l, t + 1 => by simpa [frL] using frL_get obs l t
theorem frL_len (obs : List Ob) : ∀ l : List AV, (frL obs l).length = l.length
  | [] => rfl
  | v :: l => by simp only [frL, List.length_cons, frL_len obs l]

/-- A walk begins anew: boxes are memory like any other. -/
theorem Sim.rebase (S : Sim B.env V0 io0 W0 C s a W) (hd : a.defers = []) {m : Nat} : Sim B.env V0 C.io W (baseCx V0 C.io) ⟨frL s.objs s.tmps, List.replicate m .none⟩ a W ∧ BaseOK B V0 C.io W ∧ Keep noM io0 C.io W0 W := by
  have hb : BaseOK B V0 C.io W := ⟨fun b o h => Nat.lt_of_lt_of_le (S.old0 b o h) S.kp.size, S.iok, fun g v h => Rel.mono B.hT (CxLe.back S) (S.gl g v h)⟩
  refine ⟨sim_base hb (by rw [S.len]; exact (frL_len _ _).symm) (fun t x hx => ?_) hd fun k x h => List.eq_of_mem_replicate (List.mem_of_getElem? h), hb, S.kp⟩
  have hx' : (s.tmps[t]?).map (frAV s.objs) = some x := by rw [← frL_get]; exact hx
  cases hq : s.tmps[t]? with
  | none => rw [hq] at hx'; cases hx'
  | some y =>
    rw [hq] at hx'
    cases hx'
    obtain ⟨v, h1, h2⟩ := S.tm t y hq
    exact ⟨v, h1, vr_fr S h2⟩

/-- What held at the start holds. -/
theorem Sim.le0 (hb : BaseOK B V0 io0 W0) (S : Sim B.env V0 io0 W0 C s a W) : CxLe (baseCx V0 io0) C W0 W := by
  refine ⟨⟨fun x v hx hv => ?_, fun b o hb h => (S.Vn b o h).resolve_right fun h => absurd h.1 (Nat.not_le_of_lt hb)⟩, (fun _ _ h => by cases h), (fun _ _ _ h => by cases h), S.kp.io, S.kp.size⟩
  obtain ⟨cs, ty, fr, h1, _⟩ := cells_of_cell hx
  exact (cell_of_block (S.kp.block _ (Array.getElem?_eq_some_iff.1 h1).1 (Cell.io_none hb.iok h1 (fun _ _ h => nomatch h)) fun e => e)).trans hx

/-- A block of ours is written, and each slot is told anew. -/
theorem Sim.poke (hb0 : BaseOK B V0 io0 W0) (S : Sim B.env V0 io0 W0 C s a W) {b : Nat} {cs cs' : Array Value} {ty : TypeId} (hb : W0.heap.size ≤ b) (hc : W.heap[b]? = some (.cells cs ty (0, 0))) (hz : cs'.size = cs.size)
    {a' : Act} (hd : a'.defers = a.defers) (hl : a'.tmps.size = s'.tmps.length) (ho : s'.objs = s.objs) (hno : ∀ (k : Nat) (v : AV), s.objs[k]? = some (.box v) → ∀ ds, Rel B.TR C W v ds → Rel B.TR C (W.setRow b cs') v ds) (hnb : ∀ k, C.box k ≠ some b)
    (ht : CxLe (baseCx V0 io0) C W0 (W.setRow b cs') → ∀ (t : Nat) (x : AV), s'.tmps[t]? = some x → ∃ v, a'.tmps[t]? = some v ∧ VR B.TR C (W.setRow b cs') x v) :
    Sim B.env V0 io0 W0 C s' a' (W.setRow b cs') := by
  have hnew : (W.setRow b cs').heap[b]? = some (.cells cs' ty (0, 0)) := setRow_heap W b cs _ ty _ hc
  have hoth : ∀ j, j ≠ b → (W.setRow b cs').heap[j]? = W.heap[j]? := fun j hj => setRow_other W b j _ hj
  have hsize : (W.setRow b cs').heap.size = W.heap.size := by simp
  have hws : Wst W0.heap.size W (W.setRow b cs') := Wst.of_block hb (fun x e => by rw [hc] at e; cases e) rfl rfl rfl hsize hoth
  have hio' : IoOK B.MI C.io (W.setRow b cs') := fun b1 t d h => by
    obtain ⟨es, ck, h1, h2⟩ := S.iok b1 t d h
    exact ⟨es, ck, (hoth b1 fun e => by rw [e, hc] at h1; cases h1).trans h1, h2⟩
  have hle : CxLe (baseCx V0 io0) C W0 (W.setRow b cs') := by
    have h0 := S.le0 hb0
    refine ⟨⟨fun x v hx hv => ?_, h0.st.vol⟩, h0.box, h0.lv, h0.io, by rw [hsize]; exact h0.size⟩
    have hlt := World.block_lt_of_cell? W0 x hx
    exact (cell_of_block (hoth x.block (by omega))).trans (h0.st.cell x v hx hv)
  refine ⟨hl, ht hle, hd ▸ S.dfs hws, ?_, ?_, S.inj, S.bxV, ?_, ?_, S.tld, ?_, S.V0V, hio', ?_, S.kp.step hws, S.old0, S.n0, S.hM, ?_⟩
  · intro k v h
    rw [ho] at h
    obtain ⟨b1, ds, ty1, h1, h2, h3, h4, h5⟩ := S.bx k v h
    exact ⟨b1, ds, ty1, h1, (hoth b1 fun e => hnb k (e ▸ h1)).trans h2, h3, hno k v h _ h4, h5⟩
  · intro k b1 h
    rw [ho]
    exact S.bxn k b1 h
  · intro k v al
    rw [ho]
    exact S.ln k v al
  · intro k v b1 lo hi o h1 h2 h3 h4
    obtain ⟨g1, g2, g3, cs1, ty1, g4, g5⟩ := S.tl k v b1 lo hi o h1 h2 h3 h4
    refine ⟨g1, g2, g3, ?_⟩
    by_cases e : b1 = b
    · subst e
      rw [hc] at g4
      cases g4
      exact ⟨cs', ty, hnew, by rw [hz]; exact g5⟩
    · exact ⟨cs1, ty1, (hoth b1 e).trans g4, g5⟩
  · intro b1 o h
    exact (S.Vn b1 o h).imp id fun h => ⟨h.1, by rw [hsize]; exact h.2⟩
  · intro g v h
    exact Rel.mono B.hT (C := baseCx V0 io0) (C' := baseCx C.V C.io) ⟨hle.st, (fun _ _ h => by cases h), (fun _ _ _ h => by cases h), hle.io, hle.size⟩ (hb0.gl g v h)
  · intro k x y tr h1 h2
    trivial

/-- In the order of the text; what is to be collected stays. -/
theorem wpOps_stepsD {E : Env} {V0 : Nat → Nat → Prop} {io0 : Io} {W0 : World} (hX : CtxOK E X) (ro : Option Nat) {ops : Array Oper} {Q : Exit → Act → World → Prop} : ∀ (l : List Oper) (k : Nat) (s s' : St) (C : Cx) (a : Act) (W : World), (∀ o ∈ l, o.guard = none) → (∀ j, l[j]? = ops[k + j]?) → steps X ops.toList l s = some s' → Sim E V0 io0 W0 C s a W →
    (∀ C' a' W', Sim E V0 io0 W0 C' s' a' W' → a'.defers = a.defers → Q .normal a' W') → wpOpsIn (Fr ro) 0 E.P ops Q (List.range' k l.length) a W
  | [], k, s, s', C, a, W, hgd, hl, h, S, hn => by
    simp only [steps] at h
    cases h
    simp only [List.length_nil, List.range'_zero, wpOpsIn]
    exact hn _ _ _ S rfl
  | o :: l, k, s, s', C, a, W, hgd, hl, h, S, hn => by
    simp only [steps] at h
    split at h
    · rename_i s1 hs1
      have h0 : ops[k]? = some o := by simpa using (hl 0).symm
      simp only [List.length_cons, List.range'_succ]
      rw [wpOpsIn_cons]
      have hg := hgd o (List.mem_cons_self ..)
      have hw : Region.wanted o (yielded ops a.tmps) = true := by simp [Region.wanted, hg]
      unfold wpOpIn
      simp only [h0, hw, if_true]
      unfold st1 wantA at hs1
      rw [hg] at hs1
      dsimp only at hs1
      split at hs1
      · rename_i v obs hv
        cases hs1
        exact valA_ok hX S hv ro _ _ fun C' a' W' S' hle ha hk => wpOps_stepsD hX ro l (k + 1) _ s' C' a' W' (fun o ho => hgd o (List.mem_cons_of_mem _ ho)) (fun j => by have := hl (j + 1); simpa [Nat.add_assoc, Nat.add_comm 1 j] using this) h S' fun C2 a2 W2 S2 hd2 => hn C2 a2 W2 S2 (hd2.trans ha.2.2)
      · cases hs1
    · cases h

theorem region_textD {E : Env} {V0 : Nat → Nat → Prop} {io0 : Io} {W0 : World} (hX : CtxOK E X) (ro : Option Nat) {ops : Array Oper} {id : Nat} {s' : St} {Q : Exit → Act → World → Prop} (hgd : ∀ o ∈ ops.toList, o.guard = none) (h : steps X ops.toList ops.toList s = some s') (S : Sim E V0 io0 W0 C s a W) (hn : ∀ C' a' W', Sim E V0 io0 W0 C' s' a' W' → a'.defers = a.defers → Q .normal a' W') :
    (Code.region id ops false).wpIn (Fr ro) 0 E.P Q a W := by
  refine wpIn_region ?_
  have := wpOps_stepsD hX ro (Q := Q) ops.toList 0 s s' C a W hgd (by simp) h S hn
  rw [List.range_eq_range']
  simpa using this

/-! Walks by hand. -/
def cap (e : Ex) (s : St) : Option (Ex × St) := some (e, s)
/-- A piece of the code, as the evaluator walks it. -/
theorem piece {E : Env} {V0 : Nat → Nat → Prop} {io0 : Io} {W0 : World} (hX : CtxOK E X) (N : Nat) {c : Code} {e : Ex} (h : evC X N c s cap = some (e, s')) (S : Sim E V0 io0 W0 C s a W) {Q : Exit → Act → World → Prop}
    (hQ : ∀ C' a' W', Sim E V0 io0 W0 C' s' a' W' → Fm E.M (fun k => k ∈ dsts c) a a' C C' W W' → Q (toExit e) a' W') : c.wpIn (Fr none) 0 E.P Q a W :=
  evC_ok hX N c none (.inl rfl) (D := fun k => k ∈ dsts c) (fun _ h => h) cap (e, s') Q (fun e' s1 he C' a' W' S' hf => by
    cases he
    exact hQ C' a' W' S' hf) s C a W h S (Fm.refl _ _ _ _ _)

/-- In the order of the text, up to a place; what is turned. -/
theorem wpOps_stepsF {E : Env} {V0 : Nat → Nat → Prop} {io0 : Io} {W0 : World} (hX : CtxOK E X) (ro : Option Nat) {D : Nat → Prop} {a0 : Act} {C0 : Cx} {Wa : World} {ops : Array Oper} {Q : Exit → Act → World → Prop} {rest : List Nat} : ∀ (l : List Oper) (k : Nat) (s s' : St) (C : Cx) (a : Act) (W : World), (∀ j, j < l.length → l[j]? = ops[k + j]?) → steps X ops.toList l s = some s' → Sim E V0 io0 W0 C s a W → (∀ o ∈ l, ∀ k, o.dst = some k → D k) → Fm E.M D a0 a C0 C Wa W →
    (∀ C' a' W', Sim E V0 io0 W0 C' s' a' W' → Fm E.M D a0 a' C0 C' Wa W' → wpOpsIn (Fr ro) 0 E.P ops Q rest a' W') → wpOpsIn (Fr ro) 0 E.P ops Q (List.range' k l.length ++ rest) a W
  | [], k, s, s', C, a, W, hl, h, S, hD, hF, hn => by
    simp only [steps] at h
    cases h
    simpa using hn _ _ _ S hF
  | o :: l, k, s, s', C, a, W, hl, h, S, hD, hF, hn => by
    simp only [steps] at h
    split at h
    · rename_i s1 hs1
      have h0 : ops[k]? = some o := by simpa using (hl 0 (by simp)).symm
      simp only [List.length_cons, List.range'_succ, List.cons_append]
      rw [wpOpsIn_cons]
      refine wpOp_of_step (st1_ok hX hs1) S h0 ro fun C' a' W' S' hf => ?_
      exact wpOps_stepsF hX ro l (k + 1) s1 s' C' a' W' (fun j hj => by have := hl (j + 1) (by simpa using hj); simpa [Nat.add_assoc, Nat.add_comm 1 j] using this) h S' (fun o ho => hD o (List.mem_cons_of_mem _ ho)) (hF.trans (hf.mono (hD o (List.mem_cons_self ..)))) hn
    · cases h

theorem hand_value {P : Program} {ro : Option Nat} {ops : Array Oper} {i : Nat} {o : Oper} (hi : ops[i]? = some o) (hg : o.guard = none) {v : Value} {W' : World} (hr : (execOp a.eval o).run P W = .ok (.value v) W') {Q : Exit → Act → World → Prop} {K : Act → World → Prop} (hK : K (a.put o.dst v) W') : wpOpIn (Fr ro) 0 P ops Q i K a W := by
  unfold wpOpIn
  simp only [hi]
  have hw : Region.wanted o (yielded ops a.tmps) = true := by simp [Region.wanted, hg]
  rw [if_pos hw]
  refine ⟨fun _ _ => trivial, ?_⟩
  rw [semAt_fr _ hr (fun _ h => nomatch h), hr, Oper.uponIn_value]
  exact hK
theorem hand_skip {P : Program} {ro : Option Nat} {ops : Array Oper} {i : Nat} {o : Oper} (hi : ops[i]? = some o) (hg : o.guard = none) {W' : World} (hr : (execOp a.eval o).run P W = .ok .skip W') {Q : Exit → Act → World → Prop} {K : Act → World → Prop} (hK : K (a.put o.dst undef) W') : wpOpIn (Fr ro) 0 P ops Q i K a W := by
  unfold wpOpIn
  simp only [hi]
  have hw : Region.wanted o (yielded ops a.tmps) = true := by simp [Region.wanted, hg]
  rw [if_pos hw]
  refine ⟨fun _ _ => trivial, ?_⟩
  rw [semAt_fr _ hr (fun _ h => nomatch h), hr, Oper.uponIn_skip]
  exact hK

/-- All orders of a drawn region, up to one operation that all others stand before or behind. -/
noncomputable def collectH (X : Ctx) (md : Region.Mode) (ops : Array Oper) (h : Nat) : Nat → Array Bool → St → Option (List (Nat × Array Bool × St))
  | 0, _, _ => none
  | fuel + 1, listed, s =>
    if Region.ready md ops listed = [h] then some [(fuel + 1, listed, s)] else
    match Region.ready md ops listed with
    | [] => none
    | rs => rs.foldr (fun i acc =>
      match ops[i]?, acc with
      | some o, some L => (match st1 X ops.toList s o with | some s1 => (match collectH X md ops h fuel (listed.setIfInBounds i true) s1 with | some M => some (M ++ L) | none => none) | none => none)
      | _, _ => none) (some [])

theorem fold_collect {X : Ctx} {md : Region.Mode} {ops : Array Oper} {h fuel : Nat} {listed : Array Bool} {s : St} : ∀ (rs : List Nat) (L : List (Nat × Array Bool × St)), rs.foldr (fun i acc =>
      match ops[i]?, acc with
      | some o, some L => (match st1 X ops.toList s o with | some s1 => (match collectH X md ops h fuel (listed.setIfInBounds i true) s1 with | some M => some (M ++ L) | none => none) | none => none)
      | _, _ => none) (some []) = some L → ∀ i ∈ rs, ∃ o s1 M, ops[i]? = some o ∧ st1 X ops.toList s o = some s1 ∧ collectH X md ops h fuel (listed.setIfInBounds i true) s1 = some M ∧ ∀ x ∈ M, x ∈ L
  | [], L, h, i, hi => by simp at hi
  | j :: rs, L, h, i, hi => by
    simp only [List.foldr_cons] at h
    split at h
    · rename_i o L1 ho hL
      split at h
      · rename_i s1 hs
        split at h
        · rename_i M hM
          cases h
          rcases List.mem_cons.1 hi with rfl | hi
          · exact ⟨o, s1, M, ho, hs, hM, fun x hx => List.mem_append_left _ hx⟩
          · obtain ⟨o', s1', M', q1, q2, q3, q4⟩ := fold_collect rs L1 hL i hi
            exact ⟨o', s1', M', q1, q2, q3, fun x hx => List.mem_append_right _ (q4 x hx)⟩
        · cases h
      · cases h
    · cases h

theorem collect_ok {E : Env} {V0 : Nat → Nat → Prop} {io0 : Io} {W0 : World} (hX : CtxOK E X) (ro : Option Nat) {md : Region.Mode} {ops : Array Oper} {h : Nat} {Q : Exit → Act → World → Prop} {D : Nat → Prop} {a0 : Act} {C0 : Cx} {Wa : World} (hD : ∀ o ∈ ops.toList, ∀ k, o.dst = some k → D k) : ∀ (fuel : Nat) (listed : Array Bool) (s : St) (L : List (Nat × Array Bool × St)) (C : Cx) (a : Act) (W : World), collectH X md ops h fuel listed s = some L → Sim E V0 io0 W0 C s a W → Fm E.M D a0 a C0 C Wa W →
    (∀ x ∈ L, ∀ C' a' W', Sim E V0 io0 W0 C' x.2.2 a' W' → Fm E.M D a0 a' C0 C' Wa W' → wpAnyIn (Fr ro) 0 E.P md ops Q x.1 x.2.1 a' W') → wpAnyIn (Fr ro) 0 E.P md ops Q fuel listed a W
  | 0, listed, s, L, C, a, W, hc, S, hF, hQ => by cases hc
  | fuel + 1, listed, s, L, C, a, W, hc, S, hF, hQ => by
    unfold collectH at hc
    split at hc
    · cases hc
      exact hQ _ (List.mem_cons_self ..) C a W S hF
    · cases hr : Region.ready md ops listed with
      | nil => rw [hr] at hc; cases hc
      | cons j rs =>
        rw [hr] at hc
        refine ⟨(fun h0 => by rw [hr] at h0; cases h0), fun i hi => ?_⟩
        rw [hr] at hi
        obtain ⟨o, s1, M, q1, q2, q3, q4⟩ := fold_collect _ _ hc i hi
        refine wpOp_of_step (st1_ok hX q2) S q1 ro fun C' a' W' S' hf => ?_
        exact collect_ok hX ro hD fuel _ s1 M C' a' W' q3 S' (hF.trans (hf.mono (hD o (by have := Array.mem_of_getElem? q1; simpa using this)))) fun x hx => hQ x (q4 x hx)

/-! Contracts that are the evaluator's own answers. -/
noncomputable def selfG (X : Ctx) (N : Nat) (fn : Func) : List AV → Option (Bool × AV) := fun args => match evF X N fn (wkL args) with | some r => some (true, wkAV r) | none => none
noncomputable def selfZ (X : Ctx) (N : Nat) (z : Frz) (n : Nat) (fn : Func) : List AV → Option (Bool × AV) := fun args => match evTz X N z n fn (wkL args) with | some (r, _) => some (true, wkAV r) | none => none

theorem ctr_self (hX : CtxOK B.env X) {f N : Nat} {fn : Func} (hf : B.P.funcs[f]? = some fn) : Ctr B f (selfG X N fn) := ctr_ofN hX hf fun args r h => by
  unfold selfG at h
  split at h
  · rename_i r0 h0
    cases h
    exact ⟨N, r0, h0, rfl⟩
  · cases h

theorem ctr_selfZ (hX : CtxOK B.env X) {f N n : Nat} {fn : Func} {z : Frz} (hz : FrzOK B.TR z) (hf : B.P.funcs[f]? = some fn) : Ctr B f (selfZ X N z n fn) := by
  intro V io W args vs r hb hr h
  unfold selfZ at h
  split at h
  · rename_i r0 items h0
    cases h
    have := tctr_ofZ (E := B.env) (tr := []) hX hz hf h0 hb (Nat.zero_le _) (fun b hm => hm.elim) trivial (wkV_rel hr)
    refine Calls.mono this ?_
    rintro e W' ⟨v, rfl, io', q1, q2, q3, _⟩
    exact ⟨v, io', rfl, vr_wk q1, q2, q3⟩
  · cases h

end Ev
end Go.Proofs.YtidnikjkpbmhhaaDoor
