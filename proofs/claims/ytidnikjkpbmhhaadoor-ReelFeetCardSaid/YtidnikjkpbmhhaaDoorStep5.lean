/- make, function values, calls, operators; all operations. -/
import Derived.Test.YtidnikjkpbmhhaaDoorStep4
import Derived.Laws.NewFold
set_option linter.unusedVariables false
namespace Go.Proofs.YtidnikjkpbmhhaaDoor
namespace Ev

variable {E : Env} {V0 : Nat → Nat → Prop} {io0 : Io} {W0 : World} {C : Cx} {s : St} {a : Act} {W : World} {X : Ctx} {o : Oper}

/-! make -/

theorem flat_zeros {t : Ty} {zl : List Value} {V : Nat → Nat → Prop} (h : CRel V W t t.dflt zl) : ∀ n : Nat, Flat (CRel V W t) (List.replicate n t.dflt) (List.replicate n zl).flatten
  | 0 => rfl
  | n + 1 => ⟨zl, _, by simp [List.replicate_succ], h, flat_zeros h n⟩

theorem getElem?_flatten_rep (zl : List Value) (hz : 0 < zl.length) : ∀ (n i : Nat), (List.replicate n zl).flatten[i]? = if i < n * zl.length then zl[i % zl.length]? else none
  | 0, i => by simp
  | n + 1, i => by
    rw [List.replicate_succ, List.flatten_cons, List.getElem?_append]
    by_cases h : i < zl.length
    · rw [if_pos h, if_pos (by rw [Nat.add_mul]; omega), Nat.mod_eq_of_lt h]
    · rw [if_neg h, getElem?_flatten_rep zl hz n]
      have e : (i - zl.length) % zl.length = i % zl.length := by
        conv => rhs; rw [← Nat.sub_add_cancel (Nat.le_of_not_lt h)]
        simp
      rw [e]
      by_cases h2 : i - zl.length < n * zl.length
      · rw [if_pos h2, if_pos (by rw [Nat.add_mul]; omega)]
      · rw [if_neg h2, if_neg (by rw [Nat.add_mul]; omega)]

theorem op_make (hX : CtxOK E X) (S : Sim E V0 io0 W0 C s a W) {t d : Nat} {x y : Operand} {v : AV} {obs : List Ob} (ho : o.op = .makeSlice t x y) (hd : d < s.objs.length) (h : mkSl X.T s t d (evO X s 0 x) (evO X s 0 y) = some (true, v, obs)) : OpOK E V0 io0 W0 C o s a W v obs := by
  have hxv := S.evO hX 0 x
  have hyv := S.evO hX 0 y
  unfold mkSl at h
  split at h
  · rename_i n c te e by_ hx hy he
    rw [hx] at hxv
    rw [hy] at hyv
    obtain ⟨hu, hel⟩ := look_el hX.T he
    obtain ⟨inf, zv, g1, g2, g3, g4, g5, g6⟩ := hel.ex
    have hpos := hel.pos
    have hbp := hel.bpos
    split at h
    · cases h
    · cases h
    · rename_i hb1 hb2
      simp only [Option.some.injEq, Prod.mk.injEq, Bool.and_eq_true] at h
      obtain ⟨⟨h0, h1, h2⟩, rfl, rfl⟩ := h
      replace h0 := of_decide_eq_true h0
      replace h1 := of_decide_eq_true h1
      replace h2 := of_decide_eq_true h2
      unfold roomFor at h2
      have hc63 : c ≤ 70368744177664 := by
        have : c * 1 ≤ c * (by_ : Int) := Int.mul_le_mul_of_nonneg_left (by omega) (by omega)
        omega
      have hR := relin_mk hd rfl (fun v => hb1 v) (fun a b m => hb2 a b m)
      have hrun : (execOp a.eval o).run E.P W = .ok (.value (.slice (some ⟨W.heap.size, 0, none⟩) n.toNat c.toNat)) (W.alloc (.cells (madeCells zv.cells (c.toNat * te.size)) e)) := by
        unfold execOp
        rw [ho]
        refine run_v ?_
        rw [hxv.int_inv, hyv.int_inv, ← g2]
        exact run_make W t e inf zv hu g1 g4 .i64 .i64 n c h0 h1 (by rw [g3, Int.mul_comm]; omega) (by omega)
      obtain ⟨C', ⟨c1, cx⟩, c2, c3, c4, c5, c6⟩ := S.grow hR (.inl rfl) (cs := madeCells zv.cells (c.toNat * te.size)) (ty := e) (lo := n.toNat * te.size) (hi := c.toNat * te.size) (by rw [size_madeCells]; exact Nat.le_refl _)
      refine OpOK.value hrun c6 c1 cx ?_
      refine VR.sl_mk (by simp) (by simp; omega) ?_ (by simp) (by simp) rfl c3 (.inr ⟨W.heap.size, rfl, by rw [c4]; simp⟩)
      have hzl : zv.cells.toList.length = te.size := by simpa using g5
      have hfl := flat_zeros (g6 C'.V (W.alloc (.cells (madeCells zv.cells (c.toNat * te.size)) e))) n.toNat
      have hnc : n.toNat * te.size ≤ c.toNat * te.size := Nat.mul_le_mul_right _ (by omega)
      refine row_of_flat hfl (heap_alloc_new' W _) (fun i v hv => ?_) (fun o ho hV => ?_)
      · rw [getElem?_flatten_rep _ (by omega)] at hv
        split at hv
        · rename_i hi
          rw [hzl] at hi hv
          have hi' : i < c.toNat * te.size := by omega
          have hm : i % te.size < te.size := Nat.mod_lt _ hpos
          have hsz : zv.cells.size = te.size := g5
          simp only [madeCells, Array.getElem?_map, Array.getElem?_range, if_pos hi', Option.map_some]
          have hlt : i % zv.cells.size < zv.cells.size := by rw [hsz]; exact hm
          rw [getElem!_pos zv.cells _ hlt]
          rw [List.getElem?_eq_getElem (by rw [hzl]; exact hm)] at hv
          rw [← hv]
          congr 1
          simp [hsz]
        · cases hv
      · have := c5 o hV
        rw [Flat.length (fun x c h => CRel.length h) hfl] at ho
        simp at ho
        omega
  · cases h

/-! function values -/

theorem relV_map (hX : CtxOK E X) (S : Sim E V0 io0 W0 C s a W) (t : Nat) : ∀ l : List Operand, RelV E.TR C W (l.map (evO X s t)) (l.map a.eval)
  | [] => by simp [RelV]
  | x :: l => by
    simp only [List.map_cons, RelV]
    exact ⟨_, _, rfl, S.evO hX t x, relV_map hX S t l⟩

theorem op_makeFunc (hX : CtxOK E X) (S : Sim E V0 io0 W0 C s a W) {f : Nat} {x y : Array Operand} (ho : o.op = .makeFunc (.func f) x y) : OpOK E V0 io0 W0 C o s a W (.fn f (x.toList.map (evO X s 0)) (y.toList.map (evO X s 0))) s.objs := by
  refine OpOK.pure S (x := .func (.func f) (x.map a.eval) (y.map a.eval)) ?_ (.inr ⟨[.func (.func f) (x.map a.eval) (y.map a.eval)], rfl, ?_, rfl⟩)
  · unfold execOp
    rw [ho]
    rfl
  · simp only [Rel]
    refine ⟨x.toList.map a.eval, y.toList.map a.eval, ?_, relV_map hX S 0 _, relV_map hX S 0 _⟩
    congr 2 <;> (apply Array.ext'; simp)

/-! max, min -/

theorem run_max (W : World) : ∀ (l : List AV) (vs : List Value) (n : Int) (r : AV), maxAV (.int n) l = some r → RelV E.TR C W l vs → ∃ m, r = .int m ∧ (vs.foldlM Builtin.max2 (.int .i64 n)).run E.P W = .ok (.int .i64 m) W
  | [], vs, n, r, h, hr => by
    simp only [maxAV] at h
    cases h
    simp only [RelV] at hr
    subst hr
    exact ⟨n, rfl, rfl⟩
  | v :: l, vs, n, r, h, hr => by
    cases v with
    | int b =>
      simp only [maxAV] at h
      simp only [RelV] at hr
      obtain ⟨x, rest, rfl, h1, h2⟩ := hr
      obtain ⟨m, rfl, h3⟩ := run_max W l rest _ _ h h2
      refine ⟨m, rfl, ?_⟩
      have : x = .int .i64 b := VR.int_inv h1
      subst this
      simp only [List.foldlM_cons, Sem.run_bind, Builtin.max2, Sem.run_pure, Result.andThen_ok]
      exact h3
    | _ => simp [maxAV] at h
theorem run_min (W : World) : ∀ (l : List AV) (vs : List Value) (n : Int) (r : AV), minAV (.int n) l = some r → RelV E.TR C W l vs → ∃ m, r = .int m ∧ (vs.foldlM Builtin.min2 (.int .i64 n)).run E.P W = .ok (.int .i64 m) W
  | [], vs, n, r, h, hr => by
    simp only [minAV] at h
    cases h
    simp only [RelV] at hr
    subst hr
    exact ⟨n, rfl, rfl⟩
  | v :: l, vs, n, r, h, hr => by
    cases v with
    | int b =>
      simp only [minAV] at h
      simp only [RelV] at hr
      obtain ⟨x, rest, rfl, h1, h2⟩ := hr
      obtain ⟨m, rfl, h3⟩ := run_min W l rest _ _ h h2
      refine ⟨m, rfl, ?_⟩
      have : x = .int .i64 b := VR.int_inv h1
      subst this
      simp only [List.foldlM_cons, Sem.run_bind, Builtin.min2, Sem.run_pure, Result.andThen_ok]
      exact h3
    | _ => simp [minAV] at h

theorem op_max (hX : CtxOK E X) (S : Sim E V0 io0 W0 C s a W) {args : Array Operand} {x : Operand} {r : List Operand} {ts : Array TypeId} {v : AV} (ho : o.op = .call { callee := .builtin .max, args, argTypes := ts }) (ha : args.toList = x :: r)
    (h : maxAV (evO X s 0 x) (r.map (evO X s 0)) = some v) : OpOK E V0 io0 W0 C o s a W v s.objs := by
  have hxv := S.evO hX 0 x
  cases hx : evO X s 0 x with
  | int n =>
    rw [hx] at h hxv
    obtain ⟨m, rfl, hm⟩ := run_max (E := E) (C := C) W _ _ n v h (relV_map hX S 0 r)
    refine OpOK.pure S (x := .int .i64 m) ?_ (vr_int _)
    unfold execOp
    rw [ho]
    simp only [Sem.run_bind, resolve, Sem.run_pure, Result.andThen_ok, invoke, builtin]
    have : (Builtin.max_ ts o.type (args.map a.eval)).run E.P W = .ok (.int .i64 m) W := by
      unfold Builtin.max_
      have e : (args.map a.eval).toList = a.eval x :: r.map a.eval := by simp [ha]
      rw [e, hxv.int_inv]
      exact hm
    simp [this]
  | _ => rw [hx] at h; cases r <;> simp [maxAV] at h

theorem op_min (hX : CtxOK E X) (S : Sim E V0 io0 W0 C s a W) {args : Array Operand} {x : Operand} {r : List Operand} {ts : Array TypeId} {v : AV} (ho : o.op = .call { callee := .builtin .min, args, argTypes := ts }) (ha : args.toList = x :: r)
    (h : minAV (evO X s 0 x) (r.map (evO X s 0)) = some v) : OpOK E V0 io0 W0 C o s a W v s.objs := by
  have hxv := S.evO hX 0 x
  cases hx : evO X s 0 x with
  | int n =>
    rw [hx] at h hxv
    obtain ⟨m, rfl, hm⟩ := run_min (E := E) (C := C) W _ _ n v h (relV_map hX S 0 r)
    refine OpOK.pure S (x := .int .i64 m) ?_ (vr_int _)
    unfold execOp
    rw [ho]
    simp only [Sem.run_bind, resolve, Sem.run_pure, Result.andThen_ok, invoke, builtin]
    have : (Builtin.min_ ts o.type (args.map a.eval)).run E.P W = .ok (.int .i64 m) W := by
      unfold Builtin.min_
      have e : (args.map a.eval).toList = a.eval x :: r.map a.eval := by simp [ha]
      rw [e, hxv.int_inv]
      exact hm
    simp [this]
  | _ => rw [hx] at h; cases r <;> simp [minAV] at h

theorem op_lenA (hX : CtxOK E X) (S : Sim E V0 io0 W0 C s a W) {x : Operand} {t m tid : Nat} {te te' : Ty} {xs : List te.den} {i : Ti} (ho : o.op = .call { callee := .builtin .len, args := #[x], argTypes := #[t] }) (hx : evO X s t x = .arr te m xs)
    (hi : look X.T t = some i) (ha : i.ar = some (m, te', tid)) : OpOK E V0 io0 W0 C o s a W (.int m) s.objs := by
  obtain ⟨inf, d, g1, _⟩ := (hX.T t i hi).ar _ _ _ ha
  refine OpOK.pure S (x := .int .i64 m) ?_ (vr_int _)
  unfold execOp
  rw [ho]
  simp only [Sem.run_bind, resolve, Sem.run_pure, Result.andThen_ok, invoke, builtin]
  have h := S.evO hX t x
  rw [hx] at h
  obtain ⟨cs, ev, _⟩ := h.arr_inv
  simp [Builtin.len_, run_underlying g1, ev, goInt]

/-! calls -/

mutual
theorem st_size : ∀ v : AV, (stAV v).size = v.size
  | .poison => rfl
  | .undef => rfl
  | .int _ => rfl
  | .bool _ => rfl
  | .agg l => by simp only [stAV, AV.size]; exact stL_size l
  | .arr .. => rfl
  | .sl .. => rfl
  | .tup _ => rfl
  | .ref .. => rfl
  | .cref .. => rfl
  | .fn .. => rfl
  | .map _ => rfl
  | .tok .. => rfl
theorem stL_size : ∀ l : List AV, sizeL (stL l) = sizeL l
  | [] => rfl
  | v :: l => by simp only [stL, sizeL, st_size v, stL_size l]
end

theorem st_isAg : ∀ v : AV, isAg (stAV v) = isAg v := fun v => by cases v <;> rfl

mutual
theorem st_rel : ∀ {v : AV} {cs : List Value}, Rel E.TR C W v cs → Rel E.TR (baseCx C.V C.io) W (stAV v) cs
  | .poison, cs, h => by simpa only [stAV, Rel] using h
  | .undef, cs, h => by simpa only [stAV, Rel] using h
  | .int _, cs, h => by simpa only [stAV, Rel] using h
  | .bool _, cs, h => by simpa only [stAV, Rel] using h
  | .agg l, cs, h => by
    simp only [stAV, Rel] at h ⊢
    exact stL_rel h
  | .arr .., cs, h => by
    simp only [stAV, Rel] at h ⊢
    exact h
  | .sl t f l, cs, h => by
    simp only [stAV, Rel] at h ⊢
    obtain ⟨A, c, h1, h2, h3, h4, h5, _⟩ := h
    exact ⟨A, c, h1, h2, h3, h4, h5, by simp⟩
  | .tup l, cs, h => by
    simp only [stAV, Rel] at h ⊢
    obtain ⟨vs, e, h⟩ := h
    exact ⟨vs, e, stV_rel h⟩
  | .ref k p, cs, h => by
    simp only [stAV, Rel] at h ⊢
    obtain ⟨b, _, _, e⟩ := h
    exact ⟨_, e⟩
  | .cref v p, cs, h => by
    simp only [stAV, Rel] at h ⊢
    obtain ⟨ad, ds, h1, h2, h3⟩ := h
    exact ⟨ad, ds, st_rel h1, h2, h3⟩
  | .fn f x y, cs, h => by
    simp only [stAV, Rel] at h ⊢
    obtain ⟨xs, ys, e, h1, h2⟩ := h
    exact ⟨xs, ys, e, stV_rel h1, stV_rel h2⟩
  | .map _, cs, h => by simp only [Rel] at h
  | .tok .., cs, h => by
    simp only [stAV, Rel] at h ⊢
    exact h
theorem stL_rel : ∀ {l : List AV} {cs : List Value}, RelL E.TR C W l cs → RelL E.TR (baseCx C.V C.io) W (stL l) cs
  | [], cs, h => by simpa only [stL, RelL] using h
  | v :: l, cs, h => by
    simp only [stL, RelL] at h ⊢
    obtain ⟨c, d, e, hl, h1, h2⟩ := h
    exact ⟨c, d, e, by rw [st_size, hl], st_rel h1, stL_rel h2⟩
theorem stV_rel : ∀ {l : List AV} {vs : List Value}, RelV E.TR C W l vs → RelV E.TR (baseCx C.V C.io) W (stL l) vs
  | [], cs, h => by simpa only [stL, RelV] using h
  | v :: l, cs, h => by
    simp only [stL, RelV] at h ⊢
    obtain ⟨x, r, e, h1, h2⟩ := h
    refine ⟨x, r, e, ?_, stV_rel h2⟩
    rcases h1 with h1 | ⟨ds, g1, g2, g3⟩
    · subst h1
      exact .inl rfl
    · exact .inr ⟨ds, by rw [st_size, g1], st_rel g2, by rw [g3]; simp [mkV, st_isAg]⟩
end

theorem relV_append {TR : TokRel} {C : Cx} : ∀ {l m : List AV} {xs ys : List Value}, RelV TR C W l xs → RelV TR C W m ys → RelV TR C W (l ++ m) (xs ++ ys)
  | [], m, xs, ys, h, k => by
    simp only [RelV] at h
    subst h
    simpa using k
  | v :: l, m, xs, ys, h, k => by
    simp only [RelV] at h
    obtain ⟨x, r, rfl, h1, h2⟩ := h
    simp only [List.cons_append, RelV]
    exact ⟨x, r ++ ys, rfl, h1, relV_append h2 k⟩

theorem relV_args (hX : CtxOK E X) (S : Sim E V0 io0 W0 C s a W) : ∀ (l : List Operand) (ts : List Nat), RelV E.TR C W (argsO X s ts l) (l.map a.eval)
  | [], ts => by cases ts <;> simp [argsO, RelV]
  | x :: l, [] => by
    simp only [argsO, List.map_cons, RelV]
    exact ⟨_, _, rfl, S.evO hX 0 x, relV_args hX S l []⟩
  | x :: l, t :: ts => by
    simp only [argsO, List.map_cons, RelV]
    exact ⟨_, _, rfl, S.evO hX t x, relV_args hX S l ts⟩

theorem op_call (hX : CtxOK E X) (S : Sim E V0 io0 W0 C s a W) {f : Operand} {fid : Nat} {args : Array Operand} {ts : Array TypeId} {first cap : List AV} {g : List AV → Option (Bool × AV)} {v : AV} (ho : o.op = .call { callee := .value f, args, argTypes := ts })
    (hf : evO X s 0 f = .fn fid first cap) (hg : findA X.C fid = some g) (h : g (stL first ++ (stL (argsO X s ts.toList args.toList) ++ stL cap)) = some (true, v)) : OpOK E V0 io0 W0 C o s a W v s.objs := by
  have hfv := S.evO hX 0 f
  rw [hf] at hfv
  obtain ⟨xs, ys, ev, h1, h2⟩ := hfv.fn_inv
  obtain ⟨hc, fn, hfn, hbody, hname⟩ := hX.C fid g hg
  have hrel := relV_append (stV_rel h1) (relV_append (stV_rel (relV_args hX S args.toList ts.toList)) (stV_rel h2))
  have hcall := hc C.V C.io W _ _ v S.base hrel h
  have hrun : (execOp a.eval o).run E.P W = .ok (.enter fid (xs ++ (args.toList.map a.eval ++ ys)).toArray) W := by
    unfold execOp
    rw [ho]
    simp only [Sem.run_bind, resolve, ev, Deferred.ofValue, Sem.run_pure, Result.andThen_ok, invoke, callFunc, run_program, hfn, hbody, hname, Bool.false_eq_true, if_false]
    congr 2
    apply Array.ext'
    simp
  intro ro next Q hn
  refine ⟨fun _ _ => trivial, ?_⟩
  rw [semAt_fr _ hrun (fun _ h => nomatch h), hrun, Oper.uponIn_enter]
  refine ⟨(fun h => nomatch h), CallsIn.mono (callsIn_fr hcall) ?_⟩
  rintro e W' ⟨x, io', rfl, hv, hk, hio⟩
  obtain ⟨c1, c2⟩ := S.keep hk hio
  refine hn { C with io := io' } _ _ ?_ c1 (fmA_put _ _ _) ⟨hk.of_noM, fun _ _ h => .inl h, fun k v b lo hi h1 h2 h3 => .inl ⟨k, v, lo, hi, h1, h2, h3⟩, fun _ _ _ h => .inl h⟩
  rw [put_objs]
  exact c2.put o.dst (VR.mono E.hT (CxLe.ofBase { C with io := io' } rfl rfl) hv)

/-- A value that is called, and tells others something. -/
theorem op_tcall (hX : CtxOK E X) (S : Sim E V0 io0 W0 C s a W) {f : Operand} {i x y : Nat} {t : Ty} {d : t.den} {args : Array Operand} {ts : Array TypeId} {g : List AV → (t : Ty) → t.den → List AV → Option (Bool × AV × List AV)} {v : AV} {tr m : List AV}
    (ho : o.op = .call { callee := .value f, args, argTypes := ts }) (hf : evO X s 0 f = .tok i t d) (hg : findA X.K i = some g) (hl : s.objs.getD (s.objs.length - 1) .none = .map x y tr) (h : g tr t d (stL (argsO X s ts.toList args.toList)) = some (true, v, m)) :
    OpOK E V0 io0 W0 C o s a W v (s.objs.set (s.objs.length - 1) (.map x y (tr ++ m))) := by
  have hfv := S.evO hX 0 f
  rw [hf] at hfv
  have htr : E.TR i t d C.V C.io W (a.eval f) := by
    rcases hfv with h | ⟨cs, _, h, h2⟩
    · cases h
    · simp only [Rel] at h
      obtain ⟨b, rfl, h⟩ := h
      rw [h2, mkV_one rfl]
      exact h
  have hlt : s.objs.length - 1 < s.objs.length ∧ s.objs[s.objs.length - 1]? = some (.map x y tr) := by
    cases hq : s.objs[s.objs.length - 1]? with
    | none => simp [List.getD, hq] at hl
    | some q =>
      simp [List.getD, hq] at hl
      subst hl
      exact ⟨(List.getElem?_eq_some_iff.1 hq).1, rfl⟩
  have hrel := stV_rel (relV_args hX S args.toList ts.toList)
  have hgo := hX.K i g hg C.V C.io W tr t d (a.eval f) _ _ v m S.base (Nat.le_trans S.n0 S.kp.size) (fun b hb => ⟨(S.hM b hb).1, fun o => S.V0V b o ((S.hM b hb).2 o)⟩) (S.gh _ x y tr (by omega) hlt.2) htr hrel h
  have fin : ∀ (ro : Option Nat) (next : Act → World → Prop) (y' : Value) (W' : World), (∀ C' a' W', Sim E V0 io0 W0 C' ⟨(s.put o.dst v).tmps, s.objs.set (s.objs.length - 1) (.map x y (tr ++ m))⟩ a' W' → CxLe C C' W W' → FmA o.dst a a' → Kx E.M C C' W W' → next a' W') →
      (∃ io', VR E.TR (baseCx C.V io') W' v y' ∧ Keep E.M C.io io' W W' ∧ IoOK E.MI io' W' ∧ E.J (tr ++ m) C.V io' W') → next (a.put o.dst y') W' := by
    rintro ro next y' W' hn ⟨io', hv, hk, hio, hJ⟩
    have hset : ∀ (k : Nat) (z : Ob), (∀ a b c, z ≠ .map a b c) → ((s.objs.set (s.objs.length - 1) (.map x y (tr ++ m)))[k]? = some z ↔ s.objs[k]? = some z) := fun k z hz => by
      rw [List.getElem?_set]
      by_cases e : s.objs.length - 1 = k
      · subst e
        rw [if_pos rfl, if_pos hlt.1, hlt.2]
        constructor
        · intro h; cases h; exact absurd rfl (hz _ _ _)
        · intro h; cases h; exact absurd rfl (hz _ _ _)
      · rw [if_neg e]
    obtain ⟨c1, c2⟩ := S.keepM (objs' := s.objs.set (s.objs.length - 1) (.map x y (tr ++ m))) hk hio (fun k v => hset k _ (fun _ _ _ h => nomatch h)) (fun k v al => hset k _ (fun _ _ _ h => nomatch h)) (fun k x' y' tr' hkl hk' => by
      rw [List.getElem?_set] at hk'
      by_cases e : s.objs.length - 1 = k
      · subst e
        rw [if_pos rfl, if_pos hlt.1] at hk'
        cases hk'
        exact hJ
      · rw [if_neg e] at hk'
        exact absurd (by simp at hkl; omega) e)
    refine hn { C with io := io' } _ _ ?_ c1 (fmA_put _ _ _) ⟨hk.weak fun _ _ h => .inl h, fun _ _ h => .inl h, fun k v b lo hi h1 h2 h3 => .inl ⟨k, v, lo, hi, h1, h2, h3⟩, fun _ _ _ h => .inl h⟩
    rw [put_objs]
    exact c2.put o.dst (VR.mono E.hT (CxLe.ofBase { C with io := io' } rfl rfl) hv)
  rcases hgo with ⟨fid, xs, ys, fn, ev, hfn, hbody, hname, hcall⟩ | ⟨l, ev, fn, tmps, assign, body, hy, hR⟩
  · have hrun : (execOp a.eval o).run E.P W = .ok (.enter fid (xs ++ (args.toList.map a.eval ++ ys)).toArray) W := by
      unfold execOp
      rw [ho]
      simp only [Sem.run_bind, resolve, ev, Deferred.ofValue, Sem.run_pure, Result.andThen_ok, invoke, callFunc, run_program, hfn, hbody, hname, Bool.false_eq_true, if_false]
      congr 2
      apply Array.ext'
      simp
    intro ro next Q hn
    refine ⟨fun _ _ => trivial, ?_⟩
    rw [semAt_fr _ hrun (fun _ h => nomatch h), hrun, Oper.uponIn_enter]
    refine ⟨(fun h => nomatch h), CallsIn.mono (callsIn_fr hcall) ?_⟩
    rintro e W' ⟨r, rfl, h⟩
    exact fin ro next r W' hn h
  · have hrun : (execOp a.eval o).run E.P W = .ok (.round l fn tmps assign body) W := by
      unfold execOp
      rw [ho]
      simp only [Sem.run_bind, resolve, ev, Deferred.ofValue, Sem.run_pure, Result.andThen_ok, invoke]
      have e : (#[] ++ args.map a.eval : Array Value) = (args.toList.map a.eval).toArray := by
        apply Array.ext'
        simp
      rw [e]
      exact hy
    intro ro next Q hn
    refine ⟨fun _ _ => trivial, ?_⟩
    rw [semAt_fr _ hrun (fun _ h => nomatch h), hrun, Oper.uponIn_round]
    refine ⟨(fun h => nomatch h), RoundIn.mono (F := Fr ro) hR ?_⟩
    rintro e W' ⟨r, rfl, h⟩
    exact fin ro next r W' hn h

/-- A value handed on. -/
theorem vr_base (S : Sim E V0 io0 W0 C s a W) {v : AV} {x : Value} (h : VR E.TR C W v x) : VR E.TR (baseCx C.V C.io) W (stAV v) x := by
  rcases h with h1 | ⟨cs, g0, g1, g2⟩
  · subst h1
    exact .inl rfl
  · exact .inr ⟨cs, by rw [st_size, g0], st_rel g1, by rw [g2]; simp only [mkV, st_isAg]⟩

theorem tok_inv {i : Nat} {t : Ty} {d : t.den} {x : Value} (h : VR E.TR C W (.tok i t d) x) : E.TR i t d C.V C.io W x := by
  rcases h with h | ⟨cs, _, h, h2⟩
  · cases h
  · simp only [Rel] at h
    obtain ⟨b, rfl, h⟩ := h
    rw [h2, mkV_one rfl]
    exact h

/-- A new map. -/
theorem op_makeMap (hX : CtxOK E X) (S : Sim E V0 io0 W0 C s a W) {t : Nat} {d : (t : Ty) × t.den} (ho : o.op = .makeMap t none) (hd : X.mkm = some d) : OpOK E V0 io0 W0 C o s a W (.tok 0 d.1 d.2) s.objs := by
  obtain ⟨h1, h2⟩ := hX.mkm d hd
  let io' : Io := fun b => if b = W.heap.size then some d else C.io b
  have hk : Keep noM C.io io' W (W.alloc (.map #[] 0)) := ⟨rfl, rfl, rfl, by simp, fun b hb _ _ => by
    show (W.heap.push _)[b]? = _
    rw [Array.getElem?_push, if_neg (by omega)], fun b hb => by simp only [io', if_neg (Nat.ne_of_lt hb)]⟩
  have hio : IoOK E.MI io' (W.alloc (.map #[] 0)) := fun b t' d' hb => by
    simp only [io'] at hb
    split at hb
    · rename_i e
      cases hb
      subst e
      exact ⟨#[], 0, heap_alloc_new' W _, h1⟩
    · obtain ⟨es, ck, g1, g2⟩ := S.iok b t' d' hb
      exact ⟨es, ck, heap_alloc_old' W _ g1, g2⟩
  obtain ⟨c1, c2⟩ := S.keep hk hio
  have hrun : (execOp a.eval o).run E.P W = .ok (.value (.map (some W.heap.size))) (W.alloc (.map #[] 0)) := by
    unfold execOp
    rw [ho]
    simp [Instr.makeMap, run_newObj_alloc]
  refine OpOK.value hrun c2 c1 ⟨hk.of_noM, fun _ _ h => .inl h, fun k v b lo hi h1 h2 h3 => .inl ⟨k, v, lo, hi, h1, h2, h3⟩, fun _ _ _ h => .inl h⟩ ?_
  exact .inr ⟨[.map (some W.heap.size)], rfl, by simp only [Rel]; exact ⟨_, rfl, h2 _ _ _ _ (by simp [io']) (by simp)⟩, rfl⟩

/-- Something is noted in a memo. -/
theorem op_mapUpdate (hX : CtxOK E X) (S : Sim E V0 io0 W0 C s a W) {t : Nat} {m k v : Operand} {u : Nat × ((t : Ty) → t.den → AV → AV → Bool)} {mt : Ty} {d : mt.den} (ho : o.op = .mapUpdate t m k v) (hu : X.up = some u) (hm : evO X s 0 m = .tok 0 mt d) (ht : u.1 = t) (h : u.2 mt d (stAV (evO X s 0 k)) (stAV (evO X s 0 v)) = true) :
    OpOK E V0 io0 W0 C o s a W .undef s.objs := by
  have hmv := S.evO hX 0 m
  rw [hm] at hmv
  subst ht
  obtain ⟨W', h1, h2, h3⟩ := hX.up u hu C.V C.io W mt d _ _ _ _ _ S.base (tok_inv hmv) (vr_base S (S.evO hX 0 k)) (vr_base S (S.evO hX 0 v)) h
  obtain ⟨c1, c2⟩ := S.keep h2 h3
  have hrun : (execOp a.eval o).run E.P W = .ok .skip W' := by
    unfold execOp
    rw [ho]
    simp [h1]
  exact OpOK.skip hrun c2 c1 ⟨h2.of_noM, fun _ _ h => .inl h, fun k v b lo hi h1 h2 h3 => .inl ⟨k, v, lo, hi, h1, h2, h3⟩, fun _ _ _ h => .inl h⟩

/-! operators -/

theorem run_binInt {op : BinOp} {t : Nat} {x y : Int} {v : AV} (h : binAV op (.int x) (.int y) = some (true, v)) : ∃ r, VR E.TR C W v r ∧ (binOp op t (.int .i64 x) (.int .i64 y)).run E.P W = .ok r W := by
  cases op <;> simp only [binAV, Option.some.injEq, Prod.mk.injEq] at h <;> try (obtain ⟨h0, rfl⟩ := h)
  · exact ⟨_, vr_int _, rfl⟩
  · exact ⟨_, vr_int _, rfl⟩
  · exact ⟨_, vr_int _, rfl⟩
  · refine ⟨_, vr_int _, ?_⟩
    have : y ≠ 0 := by simpa using h0
    simp [binOp, Op.intDiv, this, w64]
  · refine ⟨_, vr_int _, ?_⟩
    have : y ≠ 0 := by simpa using h0
    simp [binOp, Op.intDiv, this]
  all_goals first
    | (exact ⟨_, vr_bool _, rfl⟩)
    | (exact ⟨_, vr_int _, rfl⟩)
    | (refine ⟨_, vr_bool _, ?_⟩
       simp only [binOp, Op.intCmp]
       rfl)
    | (refine ⟨_, vr_bool _, ?_⟩
       simp [binOp, Op.intCmp]
       done)
    | (refine ⟨_, vr_bool _, ?_⟩
       simp [binOp, Op.intCmp]
       by_cases hxy : x = y <;> simp [hxy])
    | (refine ⟨_, vr_int _, ?_⟩
       have : ¬ y < 0 := by have := of_decide_eq_true h0; omega
       simp [binOp, Op.shift, this, w64, IntKind.bits]
       done)
    | (simp only [bitsOf] at h
       obtain ⟨_, rfl⟩ := h
       exact ⟨_, vr_int _, rfl⟩)
    | (simp only [bitsOf] at h
       simp only [Option.some.injEq, Prod.mk.injEq] at h
       obtain ⟨_, rfl⟩ := h
       exact ⟨_, vr_int _, rfl⟩)
    | (simp [bitsOf] at h)

end Ev
end Go.Proofs.YtidnikjkpbmhhaaDoor
