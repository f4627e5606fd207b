/- Each operation that the evaluator lets by goes through in the machine, and leaves what it says. -/
import Derived.Test.YtidnikjkpbmhhaaDoorApp
set_option linter.unusedVariables false
namespace Go.Proofs.YtidnikjkpbmhhaaDoor
namespace Ev

variable {E : Env} {V0 : Nat → Nat → Prop} {io0 : Io} {W0 : World} {C : Cx} {s : St} {a : Act} {W : World} {X : Ctx} {o : Oper}

/-- The world stays. -/
theorem OpOK.pure {v : AV} {x : Value} (S : Sim E V0 io0 W0 C s a W) (hr : (execOp a.eval o).run E.P W = .ok (.value x) W) (hv : VR E.TR C W v x) : OpOK E V0 io0 W0 C o s a W v s.objs :=
  OpOK.value hr S (CxLe.refl C W) (Kx.refl _ C W) hv

theorem VR.agg_inv {l : List AV} {v : Value} (h : VR E.TR C W (.agg l) v) : ∃ cs, v = .agg cs.toArray ∧ RelL E.TR C W l cs := by
  rcases h with h | ⟨cs, _, h, rfl⟩
  · cases h
  · simp only [Rel] at h
    exact ⟨cs, rfl, h⟩
theorem VR.arr_inv {t : Ty} {n : Nat} {xs : List t.den} {v : Value} (h : VR E.TR C W (.arr t n xs) v) : ∃ cs, v = .agg cs.toArray ∧ xs.length = n ∧ Flat (CRel C.V W t) xs cs := by
  rcases h with h | ⟨cs, _, h, rfl⟩
  · cases h
  · simp only [Rel] at h
    exact ⟨cs, rfl, h⟩
theorem VR.tup_inv {l : List AV} {v : Value} (h : VR E.TR C W (.tup l) v) : ∃ vs, v = .tuple vs.toArray ∧ RelV E.TR C W l vs := by
  rcases h with h | ⟨cs, _, h, rfl⟩
  · cases h
  · simp only [Rel] at h
    obtain ⟨vs, rfl, h⟩ := h
    exact ⟨vs, rfl, h⟩
theorem VR.ref_inv {k : Nat} {p : List Stp} {v : Value} (h : VR E.TR C W (.ref k p) v) : ∃ b, C.box k = some b ∧ okP p ∧ v = .pointer (some ⟨b, offP p, none⟩) := by
  rcases h with h | ⟨cs, _, h, rfl⟩
  · cases h
  · simp only [Rel] at h
    obtain ⟨b, h1, h2, rfl⟩ := h
    exact ⟨b, h1, h2, rfl⟩
theorem VR.cref_inv {u : AV} {p : List Stp} {v : Value} (h : VR E.TR C W (.cref u p) v) : ∃ ad ds, Rel E.TR C W u ds ∧ Cells C.V W ad ds ∧ okP p ∧ v = .pointer (some (ad.add (offP p))) := by
  rcases h with h | ⟨cs, _, h, rfl⟩
  · cases h
  · simp only [Rel] at h
    obtain ⟨b, ds, h1, h2, h3, rfl⟩ := h
    exact ⟨b, ds, h1, h2, h3, rfl⟩
theorem VR.fn_inv {f : Nat} {x y : List AV} {v : Value} (h : VR E.TR C W (.fn f x y) v) : ∃ xs ys, v = .func (.func f) xs.toArray ys.toArray ∧ RelV E.TR C W x xs ∧ RelV E.TR C W y ys := by
  rcases h with h | ⟨cs, _, h, rfl⟩
  · cases h
  · simp only [Rel] at h
    obtain ⟨b, ds, rfl, h⟩ := h
    exact ⟨b, ds, rfl, h⟩

theorem relV_get {TR : TokRel} : ∀ {l : List AV} {vs : List Value}, RelV TR C W l vs → ∀ (i : Nat) (x : AV), l[i]? = some x → ∃ v, vs[i]? = some v ∧ VR TR C W x v
  | [], _, _, i, x, h => by simp at h
  | u :: l, vs, hr, 0, x, h => by
    simp only [RelV] at hr
    obtain ⟨v, r, rfl, h1, h2⟩ := hr
    simp at h
    subst h
    exact ⟨v, rfl, h1⟩
  | u :: l, vs, hr, i + 1, x, h => by
    simp only [RelV] at hr
    obtain ⟨v, r, rfl, h1, h2⟩ := hr
    exact relV_get h2 i x (by simpa using h)

/-! Loads. -/

theorem offP_append (p q : List Stp) : offP (p ++ q) = offP p + offP q := by
  induction p with
  | nil => simp [offP]
  | cons x p ih => simp [offP, ih, Nat.add_assoc]

theorem Sim.ld (S : Sim E V0 io0 W0 C s a W) {p u : AV} {v : Value} (hp : VR E.TR C W p v) (hl : ldAV s p = some u) :
    ∃ ad cs, v = .pointer (some ad) ∧ Rel E.TR C W u cs ∧ ∀ j x, cs[j]? = some x → W.cell? (ad.add j) = some x := by
  cases p with
  | ref k q =>
    obtain ⟨b, h1, h2, rfl⟩ := hp.ref_inv
    simp only [ldAV] at hl
    split at hl
    · rename_i w hw
      obtain ⟨b', cs, ty, g1, g2, g3, g4, g5⟩ := S.bx k w (St.objs_lt hw (by simp))
      rw [h1] at g1
      cases g1
      obtain ⟨k1, k2⟩ := getP_rel g4 hl h2
      refine ⟨_, _, rfl, k1, fun j x hj => ?_⟩
      have ha : (⟨b, offP q, none⟩ : Addr).add j = ⟨b, offP q + j, none⟩ := by unfold Addr.add; split <;> simp_all
      rw [ha]
      rw [List.getElem?_take] at hj
      split at hj
      · rw [List.getElem?_drop] at hj
        simp only [World.cell?, g2]
        simpa using hj
      · cases hj
    · cases hl
  | cref w q =>
    obtain ⟨ad, ds, h1, h2, h3, rfl⟩ := hp.cref_inv
    simp only [ldAV] at hl
    obtain ⟨k1, k2⟩ := getP_rel h1 hl h3
    refine ⟨_, _, rfl, k1, fun j x hj => ?_⟩
    rw [List.getElem?_take] at hj
    split at hj
    · rw [List.getElem?_drop] at hj
      rw [add_add]
      exact (h2 _ _ hj).1
    · cases hj
  | _ => simp [ldAV] at hl

theorem op_load (hX : CtxOK E X) (S : Sim E V0 io0 W0 C s a W) {t : Nat} {x : Operand} {u : AV} (ho : o.op = .load t x) (h : ldAV s (evO X s 0 x) = some u) (hf : fits X.T t u = true) : OpOK E V0 io0 W0 C o s a W u s.objs := by
  obtain ⟨ad, cs, e, h1, h2⟩ := S.ld (S.evO hX 0 x) h
  obtain ⟨i, hi, hs, hg⟩ := fits_inv hf
  refine OpOK.pure S (x := mkV u cs) ?_ (VR.mk h1)
  unfold execOp
  rw [ho]
  refine run_v ?_
  rw [e]
  simp only [Instr.loadAt, Instr.sureAddr, Sem.run_bind, Sem.run_pure, Result.andThen_ok]
  exact run_loadVar' (hX.T t i hi) hs hg h1.len h2 size_one

theorem run_storeVar' {t : Nat} {i : Ti} (hi : TiOK E.toBase t i) {u : AV} {ds : List Value} {b off : Nat} {cs : Array Value} {ty : TypeId} (hc : clean u = true) (hr : Rel E.TR C W u ds) (hs : i.sz = u.size)
    (hcs : W.heap[b]? = some (.cells cs ty (0, 0))) (hfit : off + ds.length ≤ cs.size) :
    (storeVar t ⟨b, off, none⟩ (mkV u ds)).run E.P W = .ok () (W.setRow b (cs.toList.take off ++ ds ++ cs.toList.drop (off + ds.length)).toArray) := by
  obtain ⟨inf, hinf, hsz⟩ := hi.sz
  have hcl := mkV_cells E.hT hc hr
  have := run_storeCells_at E.P b off ty ds 0 cs W hcs (by simpa using hfit) (clean_one E.hT hc hr)
  simp only [Nat.add_zero] at this
  simp only [storeVar, Sem.run_bind, run_sizeOf' hinf, Result.andThen_ok, hcl]
  rw [hsz, hs, ← hr.len]
  simp [this]

theorem op_store (hX : CtxOK E X) (S : Sim E V0 io0 W0 C s a W) {t k : Nat} {x y : Operand} {p : List Stp} {v v' : AV} (ho : o.op = .store t x y) (hx : evO X s 0 x = .ref k p) (hk : s.objs.getD k .none = .box v)
    (hf : fits X.T t (evO X s t y) = true) (hc : clean (evO X s t y) = true) (hs : setP v p (evO X s t y) = some v') : OpOK E V0 io0 W0 C o s a W .undef (s.objs.set k (.box v')) := by
  have hp := S.evO hX 0 x
  rw [hx] at hp
  obtain ⟨b, h1, h2, e⟩ := hp.ref_inv
  obtain ⟨i, hi, hs1, hg⟩ := fits_inv hf
  have hk' := St.objs_lt hk (by simp)
  obtain ⟨b', cs, ty, g1, g2, g3, g4, g5⟩ := S.bx k v hk'
  rw [h1] at g1
  cases g1
  have hy := S.evO hX t y
  rcases hy with hy | ⟨ds, hl, hr, ey⟩
  · rw [hy] at hc
    simp [clean] at hc
  · obtain ⟨A, c, B, q1, q2, q3, q4, q5⟩ := setP_rel g4 hs h2 hr
    have hcA : cs.toList.take (offP p) = A := by rw [q1, ← q2]; simp
    have hcB : cs.toList.drop (offP p + ds.length) = B := by
      rw [q1, ← q2, hl, ← q3]
      simp [List.drop_append]
    have hfit : offP p + ds.length ≤ cs.size := by
      have : cs.toList.length = _ := congrArg List.length q1
      simp at this
      omega
    refine OpOK.skip (C' := C) (W' := W.setRow b (A ++ ds ++ B).toArray) ?_ (S.write h1 g2 hk' q4 q5).2 (S.write h1 g2 hk' q4 q5).1.1 (S.write h1 g2 hk' q4 q5).1.2
    unfold execOp
    rw [ho]
    simp only [Instr.storeAt, e, ey, Instr.sureAddr, Sem.run_bind, Sem.run_pure, Result.andThen_ok]
    have := run_storeVar' (hX.T t i hi) hc hr hs1 g2 hfit
    rw [hcA, hcB] at this
    rw [this]
    rfl

theorem vr_ref {C' : Cx} {W' : World} {d b : Nat} (h : C'.box d = some b) : VR E.TR C' W' (.ref d []) (.pointer (some ⟨b, 0, none⟩)) := by
  refine .inr ⟨[.pointer (some ⟨b, 0, none⟩)], rfl, ?_, rfl⟩
  simp only [Rel]
  exact ⟨b, h, fun x hx => by simp at hx, rfl⟩

theorem op_alloc (hX : CtxOK E X) (S : Sim E V0 io0 W0 C s a W) {t d : Nat} {i : Ti} {z : AV} (ho : o.op = .alloc t) (hi : look X.T t = some i) (hz : i.zero = some z) (hd : s.objs.getD d .none = .none) (hl : d < s.objs.length) :
    OpOK E V0 io0 W0 C o s a W (.ref d []) (s.objs.set d (.box z)) := by
  have hd' : s.objs[d]? = some .none := by rw [List.getElem?_eq_getElem hl]; rw [← hd]; simp [List.getD, List.getElem?_eq_getElem hl]
  obtain ⟨inf, v, h1, h2, h3, h4, hcz, h5⟩ := (hX.T t i hi).zero z hz
  obtain ⟨cs, q1, q2, q3⟩ := h5 C W
  have hcl : v.cells = cs.toArray := by rw [q3]; exact mkV_cells E.hT hcz q2
  obtain ⟨C', ⟨c1, cx⟩, c2, c3⟩ := S.newBox (cs := cs.toArray) (ty := t) hd' (by simpa using q2)
  refine OpOK.value (C' := C') (W' := W.alloc (.cells cs.toArray t)) (x := .pointer (some ⟨W.heap.size, 0, none⟩)) ?_ c3 c1 cx ?_
  · unfold execOp
    rw [ho]
    refine run_v ?_
    simp only [Instr.alloc, Sem.run_bind, run_zeroValue' h1 h2, Result.andThen_ok]
    simp [newVar, newRow, hcl]
  · exact vr_ref c2

theorem op_box (hX : CtxOK E X) (S : Sim E V0 io0 W0 C s a W) {t d : Nat} {x : Operand} (ho : o.op = .box t x) (hf : fits X.T t (evO X s t x) = true) (hc : clean (evO X s t x) = true) (hd : s.objs.getD d .none = .none) (hl : d < s.objs.length) :
    OpOK E V0 io0 W0 C o s a W (.ref d []) (s.objs.set d (.box (evO X s t x))) := by
  have hd' : s.objs[d]? = some .none := by rw [List.getElem?_eq_getElem hl]; rw [← hd]; simp [List.getD, List.getElem?_eq_getElem hl]
  have hy := S.evO hX t x
  rcases hy with hy | ⟨ds, hl, hr, ey⟩
  · rw [hy] at hc
    simp [clean] at hc
  · have hcl := mkV_cells E.hT hc hr
    obtain ⟨C', ⟨c1, cx⟩, c2, c3⟩ := S.newBox (cs := ds.toArray) (ty := t) hd' (by simpa using hr)
    refine OpOK.value (C' := C') (W' := W.alloc (.cells ds.toArray t)) (x := .pointer (some ⟨W.heap.size, 0, none⟩)) ?_ c3 c1 cx (vr_ref c2)
    unfold execOp
    rw [ho]
    refine run_v ?_
    rw [ey]
    simp [Instr.box, newVar, newRow, hcl]

/-! Numbers, truths. -/

theorem run_vr {S : Sem Value} {x : Value} {W' : World} (f : (Operand → Value) → Sem Value) (hS : f a.eval = S) (h : S.run E.P W = .ok x W') : (do pure (Next.value (← f a.eval)) : Sem Next).run E.P W = .ok (.value x) W' := by
  rw [hS]
  exact run_v h

theorem op_move (hX : CtxOK E X) (S : Sim E V0 io0 W0 C s a W) {x : Operand} (t : Nat) (ho : o.op = .move x ∨ o.op = .assign x) : OpOK E V0 io0 W0 C o s a W (evO X s t x) s.objs := by
  refine OpOK.pure S ?_ (S.evO hX t x)
  unfold execOp
  rcases ho with ho | ho <;> rw [ho] <;> rfl

theorem op_not (hX : CtxOK E X) (S : Sim E V0 io0 W0 C s a W) {x : Operand} {t : Nat} {b : Bool} (ho : o.op = .unOp .not t x) (hx : evO X s 0 x = .bool b) : OpOK E V0 io0 W0 C o s a W (.bool (!b)) s.objs := by
  have h := S.evO hX 0 x
  rw [hx] at h
  refine OpOK.pure S (x := .bool (!b)) ?_ (vr_bool _)
  unfold execOp
  rw [ho]
  refine run_v ?_
  rw [h.bool_inv]
  rfl
theorem op_neg (hX : CtxOK E X) (S : Sim E V0 io0 W0 C s a W) {x : Operand} {t : Nat} {n : Int} (ho : o.op = .unOp .neg t x) (hx : evO X s 0 x = .int n) : OpOK E V0 io0 W0 C o s a W (.int (w64 (0 - n))) s.objs := by
  have h := S.evO hX 0 x
  rw [hx] at h
  refine OpOK.pure S (x := .int .i64 (w64 (0 - n))) ?_ (vr_int _)
  unfold execOp
  rw [ho]
  refine run_v ?_
  rw [h.int_inv]
  rfl

theorem op_extract (hX : CtxOK E X) (S : Sim E V0 io0 W0 C s a W) {x : Operand} {i : Nat} {l : List AV} {v : AV} (ho : o.op = .extract x i) (hx : evO X s 0 x = .tup l) (hv : l[i]? = some v) : OpOK E V0 io0 W0 C o s a W v s.objs := by
  have h := S.evO hX 0 x
  rw [hx] at h
  obtain ⟨vs, e, hr⟩ := h.tup_inv
  obtain ⟨u, hu, hw⟩ := relV_get hr i v hv
  refine OpOK.pure S (x := u) ?_ hw
  unfold execOp
  rw [ho]
  refine run_v ?_
  rw [e]
  simp [Instr.extract, hu]

theorem addStp_vr {p q : AV} {x : Stp} {v : Value} (h : VR E.TR C W p v) (ha : addStp p x = some q) (hx : x.ok) : ∃ ad, v = .pointer (some ad) ∧ VR E.TR C W q (.pointer (some (ad.add x.off))) := by
  cases p with
  | ref k p =>
    obtain ⟨b, h1, h2, rfl⟩ := h.ref_inv
    simp only [addStp] at ha
    cases ha
    refine ⟨_, rfl, .inr ⟨[.pointer (some ⟨b, offP p + x.off, none⟩)], rfl, ?_, ?_⟩⟩
    · simp only [Rel]
      refine ⟨b, h1, fun y hy => ?_, by simp [offP_append, offP]⟩
      rcases List.mem_append.1 hy with hy | hy
      · exact h2 y hy
      · simp at hy
        subst hy
        exact hx
    · have : (⟨b, offP p, none⟩ : Addr).add x.off = ⟨b, offP p + x.off, none⟩ := by unfold Addr.add; split <;> simp_all
      rw [this]
      rfl
  | cref u p =>
    obtain ⟨ad, ds, h1, h2, h3, rfl⟩ := h.cref_inv
    simp only [addStp] at ha
    cases ha
    refine ⟨_, rfl, .inr ⟨[.pointer (some (ad.add (offP p + x.off)))], rfl, ?_, ?_⟩⟩
    · simp only [Rel]
      refine ⟨ad, ds, h1, h2, fun y hy => ?_, by simp [offP_append, offP]⟩
      rcases List.mem_append.1 hy with hy | hy
      · exact h3 y hy
      · simp at hy
        subst hy
        exact hx
    · rw [add_add]
      rfl
  | _ => simp [addStp] at ha

theorem op_fieldAddr (hX : CtxOK E X) (S : Sim E V0 io0 W0 C s a W) {t f off ft : Nat} {x : Operand} {i : Ti} {v : AV} (ho : o.op = .fieldAddr t x f) (hi : look X.T t = some i) (hf : i.flds[f]? = some (off, ft)) (hv : addStp (evO X s 0 x) (.fld f off) = some v) :
    OpOK E V0 io0 W0 C o s a W v s.objs := by
  obtain ⟨fs, fd, h1, h2, h3, h4, inf, h5, h6⟩ := (hX.T t i hi).flds f off ft hf
  obtain ⟨ad, e, hw⟩ := addStp_vr (S.evO hX 0 x) hv trivial
  refine OpOK.pure S ?_ hw
  unfold execOp
  rw [ho]
  refine run_v ?_
  rw [e]
  subst h3
  subst h4
  simp only [Instr.fieldAt, Sem.run_bind, run_underlying h1, Result.andThen_ok, h2, Instr.sureAddr, Sem.run_pure, fieldPlace, run_sizeOf' h5, if_neg h6, Stp.off]

theorem op_len (hX : CtxOK E X) (S : Sim E V0 io0 W0 C s a W) {x : Operand} {ts : Array TypeId} {t : Nat} {te : Ty} {f : Fl} {l : List te.den} {e : Nat} (ho : o.op = .call { callee := .builtin .len, args := #[x], argTypes := #[t] }) (hx : evO X s 0 x = .sl te f l)
    (hu : E.P.underlying t = some (.slice e)) : OpOK E V0 io0 W0 C o s a W (.int l.length) s.objs := by
  have h := S.evO hX 0 x
  rw [hx] at h
  obtain ⟨A, c, ev, _⟩ := h.sl_inv
  refine OpOK.pure S (x := .int .i64 l.length) ?_ (vr_int _)
  unfold execOp
  rw [ho]
  simp only [Sem.run_bind, resolve, Sem.run_pure, Result.andThen_ok, invoke, builtin]
  simp [Builtin.len_, run_underlying hu, ev, goInt]

end Ev
end Go.Proofs.YtidnikjkpbmhhaaDoor
