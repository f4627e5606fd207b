/- Further operations: indexing, slicing, operators, literals. -/
import Derived.Test.YtidnikjkpbmhhaaDoorStep
set_option linter.unusedVariables false
namespace Go.Proofs.YtidnikjkpbmhhaaDoor
namespace Ev

variable {E : Env} {V0 : Nat → Nat → Prop} {io0 : Io} {W0 : World} {C : Cx} {s : St} {a : Act} {W : World} {X : Ctx} {o : Oper}

theorem head_at {ds : List Value} {off : Nat} (h : off < ds.length) (d : Value) : (List.take 1 (List.drop off ds)).head?.getD d = ds[off] := by
  rw [List.drop_eq_getElem_cons h]
  rfl

theorem run_part' {t : Nat} {i : Ti} (hi : TiOK E.toBase t i) {v : AV} {ds : List Value} {off : Nat} (h1 : i.sz = v.size) (h2 : i.ag = isAg v) (hr : Rel E.TR C W v ((ds.drop off).take v.size)) (hl : off + v.size ≤ ds.length) :
    (part t ds.toArray off).run E.P W = .ok (mkV v ((ds.drop off).take v.size)) W := by
  obtain ⟨d, hd, hd2⟩ := hi.ag
  obtain ⟨inf, hinf, hsz⟩ := hi.sz
  simp only [part, Sem.run_bind, run_isAgg hd, Result.andThen_ok, hd2, h2]
  cases hv : isAg v with
  | true =>
    simp only [if_true, Sem.run_bind, run_sizeOf' hinf, Result.andThen_ok, Sem.run_pure, hsz, h1, mkV, hv]
    congr 2
    apply Array.ext'
    simp [List.drop_take]
  | false =>
    have h1 := size_one hv
    have : off < ds.length := by omega
    simp [mkV, hv, h1, List.getElem?_eq_getElem this, head_at this]

theorem op_field (hX : CtxOK E X) (S : Sim E V0 io0 W0 C s a W) {t f off ft : Nat} {x : Operand} {i : Ti} {v : AV} {l : List AV} (ho : o.op = .field t x f) (hi : look X.T t = some i) (hx : evO X s 0 x = .agg l) (hf : i.flds[f]? = some (off, ft))
    (hv : l[f]? = some v) (hoff : off = sizeL (l.take f)) (hfit : fits X.T ft v = true) : OpOK E V0 io0 W0 C o s a W v s.objs := by
  obtain ⟨fs, fd, h1, h2, h3, h4, inf, h5, h6⟩ := (hX.T t i hi).flds f off ft hf
  obtain ⟨j, hj, hj1, hj2⟩ := fits_inv hfit
  have h := S.evO hX 0 x
  rw [hx] at h
  obtain ⟨cs, e, hr⟩ := h.agg_inv
  obtain ⟨g1, g2⟩ := relL_at hr f v hv
  rw [← hoff] at g1 g2
  refine OpOK.pure S ?_ (VR.mk g1)
  unfold execOp
  rw [ho]
  refine run_v ?_
  rw [e]
  subst h3
  subst h4
  simp only [Instr.field, Sem.run_bind, run_underlying h1, Result.andThen_ok, h2, asAgg, Sem.run_pure]
  exact run_part' (hX.T _ j hj) hj1 hj2 g1 g2

theorem rel_row {t : Ty} {f : Fl} {l : List t.den} {A : Option Addr} {c : Nat} (h : Rel E.TR C W (.sl t f l) [.slice A l.length c]) : l.length ≤ c ∧ Row C.V W (CRel C.V W t) t.size A l ∧ (f.z = true → l = [] → A = none ∧ c = 0) ∧ (f.tg = true → c = l.length) ∧
    (∀ k v, f.ow = some (k, v) → ∃ cu al, C.lv k = some (cu, al) ∧ v ≤ cu ∧ (al = true → v = cu → c = l.length ∨ ∃ b, A = some ⟨b, 0, none⟩ ∧ C.tl k = (b, l.length * t.size, c * t.size))) := by
  simp only [Rel] at h
  obtain ⟨A', c', e, h⟩ := h
  cases e
  exact h

theorem op_indexAddr (hX : CtxOK E X) (S : Sim E V0 io0 W0 C s a W) {t : Nat} {x y : Operand} {te : Ty} {f : Fl} {l : List te.den} {n : Int} {e b : Nat} (ho : o.op = .indexAddr t x y) (hx : evO X s t x = .sl te f l) (hy : evO X s 0 y = .int n)
    (he : elOf X.T t = some (te, e, b)) (h0 : 0 ≤ n) (h1 : n < l.length) : OpOK E V0 io0 W0 C o s a W (.cref (enc te (l.getD n.toNat te.dflt)) []) s.objs := by
  obtain ⟨hu, hel⟩ := look_el hX.T he
  obtain ⟨inf, zv, g1, g2, _⟩ := hel.ex
  have hxv := S.evO hX t x
  have hyv := S.evO hX 0 y
  rw [hx] at hxv
  rw [hy] at hyv
  obtain ⟨A, c, ev, hr⟩ := hxv.sl_inv
  obtain ⟨q1, q2, _⟩ := rel_row hr
  have hn : n.toNat < l.length := by omega
  have hg : l.getD n.toNat te.dflt = l[n.toNat] := by simp [List.getD, List.getElem?_eq_getElem hn]
  obtain ⟨ad, ds, e1, e2, e3, e4⟩ := q2 n.toNat _ (List.getElem?_eq_getElem hn)
  obtain ⟨k1, k2⟩ := enc_rel (io := C.io) (TR := E.TR) e2 C rfl
  rw [hg]
  refine OpOK.pure S (x := .pointer (some (ad.add (n.toNat * te.size)))) ?_ (.inr ⟨[.pointer (some (ad.add (n.toNat * te.size)))], rfl, ?_, rfl⟩)
  · unfold execOp
    rw [ho]
    refine run_v ?_
    rw [ev, hyv.int_inv, e1]
    simp [Instr.indexAt, asIntOf, run_underlying hu, h0, h1, run_sizeOf' g1, g2]
  · simp only [Rel]
    exact ⟨_, ds, k1, e4, fun x hx => by simp at hx, by simp [offP, add_zero]⟩

theorem op_indexAddrA (hX : CtxOK E X) (S : Sim E V0 io0 W0 C s a W) {t m tid : Nat} {x y : Operand} {te : Ty} {ti : Ti} {n : Int} {v : AV} (ho : o.op = .indexAddr t x y) (hi : look X.T t = some ti) (ha : ti.ar = some (m, te, tid)) (hy : evO X s 0 y = .int n)
    (hv : addStp (evO X s t x) (.idx n te.size m) = some v) (h0 : 0 ≤ n) (h1 : n < m) : OpOK E V0 io0 W0 C o s a W v s.objs := by
  obtain ⟨inf, d, g1, g2, g3, _⟩ := (hX.T t ti hi).ar m te tid ha
  have hyv := S.evO hX 0 y
  rw [hy] at hyv
  obtain ⟨ad, e, hw⟩ := addStp_vr (S.evO hX t x) hv ⟨h0, h1⟩
  refine OpOK.pure S ?_ hw
  unfold execOp
  rw [ho]
  refine run_v ?_
  rw [e, hyv.int_inv]
  simp [Instr.indexAt, asIntOf, run_underlying g1, Instr.sureAddr, h0, h1, run_sizeOf' g2, g3, Stp.off]

theorem op_index (hX : CtxOK E X) (S : Sim E V0 io0 W0 C s a W) {t m tid : Nat} {x y : Operand} {te : Ty} {xs : List te.den} {ti : Ti} {n : Int} (ho : o.op = .index t x y) (hi : look X.T t = some ti) (ha : ti.ar = some (m, te, tid)) (hx : evO X s t x = .arr te m xs) (hy : evO X s 0 y = .int n)
    (h0 : 0 ≤ n) (h1 : n < m) : OpOK E V0 io0 W0 C o s a W (enc te (xs.getD n.toNat te.dflt)) s.objs := by
  obtain ⟨inf, d, g1, g2, g3, g4, g5⟩ := (hX.T t ti hi).ar m te tid ha
  have hxv := S.evO hX t x
  have hyv := S.evO hX 0 y
  rw [hx] at hxv
  rw [hy] at hyv
  obtain ⟨cs, ev, hl, hf⟩ := hxv.arr_inv
  have hn : n.toNat < xs.length := by omega
  have hg : xs.getD n.toNat te.dflt = xs[n.toNat] := by simp [List.getD, List.getElem?_eq_getElem hn]
  obtain ⟨q1, q2⟩ := flat_at (fun x c h => CRel.length h) hf n.toNat _ (List.getElem?_eq_getElem hn)
  obtain ⟨k1, k2⟩ := enc_rel (io := C.io) (TR := E.TR) q1 C rfl
  rw [hg]
  refine OpOK.pure S ?_ (VR.mk k1)
  unfold execOp
  rw [ho]
  refine run_v ?_
  rw [ev, hyv.int_inv]
  have hp : (part tid cs.toArray (n.toNat * te.size)).run E.P W = .ok (mkV (enc te xs[n.toNat]) ((cs.drop (n.toNat * te.size)).take te.size)) W := by
    simp only [part, Sem.run_bind, run_isAgg g4, Result.andThen_ok, g5]
    cases hv : isAgT te with
    | true =>
      simp only [if_true, Sem.run_bind, run_sizeOf' g2, Result.andThen_ok, Sem.run_pure, g3, mkV, isAg_enc, hv]
      congr 2
      apply Array.ext'
      simp [List.drop_take]
    | false =>
      have h1 : te.size = 1 := by cases te <;> first | rfl | simp [isAgT] at hv
      have : n.toNat * te.size < cs.length := by omega
      simp [mkV, isAg_enc, hv, h1] at this ⊢
      simp [List.getElem?_eq_getElem this, head_at this]
  simp only [Instr.index, asIntOf, Sem.run_bind, Sem.run_pure, Result.andThen_ok, run_underlying g1]
  rw [if_pos ⟨h0, by omega⟩]
  simp only [Sem.run_bind, run_sizeOf' g2, Result.andThen_ok, g3]
  exact hp

/-! Slicing. -/

theorem row_take {t : Ty} {A : Option Addr} {l : List t.den} (h : Row C.V W (CRel C.V W t) t.size A l) (n : Nat) : Row C.V W (CRel C.V W t) t.size A (l.take n) := fun j x hj => by
  rw [List.getElem?_take] at hj
  split at hj
  · exact h j x hj
  · cases hj
theorem row_drop {t : Ty} {A : Option Addr} {l : List t.den} (h : Row C.V W (CRel C.V W t) t.size A l) (n : Nat) : Row C.V W (CRel C.V W t) t.size (A.map (·.add (n * t.size))) (l.drop n) := fun j x hj => by
  rw [List.getElem?_drop] at hj
  obtain ⟨ad, c, h1, h2, h3, h4⟩ := h _ x hj
  refine ⟨ad.add (n * t.size), c, by rw [h1]; rfl, h2, h3, ?_⟩
  rw [add_add, ← Nat.add_mul]
  exact h4
theorem row_nil {t : Ty} {A : Option Addr} : Row C.V W (CRel C.V W t) t.size A [] := fun j x hj => by simp at hj

theorem run_bound {n : Int} {y : Nat} {code : BoundsCode} (h0 : 0 ≤ n) (h1 : n ≤ y) (W : World) : (Instr.sliceBound (.int .i64 n) y code).run E.P W = .ok n.toNat W := by
  simp [Instr.sliceBound, asIntOf, h0, h1]

theorem vr_sl {t : Ty} {f : Fl} {l : List t.den} {A : Option Addr} {c n : Nat} (hn : n = l.length) (h1 : l.length ≤ c) (h2 : Row C.V W (CRel C.V W t) t.size A l) (h3 : f.z = true → l = [] → A = none ∧ c = 0) (h4 : f.tg = true → c = l.length) (h5 : f.ow = none) :
    VR E.TR C W (.sl t f l) (.slice A n c) := by
  subst hn
  refine .inr ⟨[.slice A l.length c], rfl, ?_, rfl⟩
  simp only [Rel]
  exact ⟨A, c, rfl, h1, h2, h3, h4, fun k v h => by rw [h5] at h; cases h⟩

theorem op_slice (hX : CtxOK E X) (S : Sim E V0 io0 W0 C s a W) {t : Nat} {x : Operand} {lo hi mx : Option Operand} {te : Ty} {f : Fl} {l : List te.den} {e b : Nat} {v : AV} (ho : o.op = .slice t x lo hi mx) (hx : evO X s t x = .sl te f l)
    (he : elOf X.T t = some (te, e, b)) (h : slAV (.sl te f l) (lo.map (evO X s 0)) (hi.map (evO X s 0)) (mx.map (evO X s 0)) = some (true, v)) : OpOK E V0 io0 W0 C o s a W v s.objs := by
  obtain ⟨hu, hel⟩ := look_el hX.T he
  obtain ⟨inf, zv, g1, g2, _⟩ := hel.ex
  have hxv := S.evO hX t x
  rw [hx] at hxv
  obtain ⟨A, c, ev, hr⟩ := hxv.sl_inv
  obtain ⟨q1, q2, q3, q4, _⟩ := rel_row hr
  -- the run, whatever the bounds
  have key : ∀ (lo' hi' mx' : Option Value) (L H M : Nat) (u : Value), lo.map a.eval = lo' → hi.map a.eval = hi' → mx.map a.eval = mx' →
      (Instr.sliceBounds true l.length c lo' hi' mx').run E.P W = .ok (L, H, M) W → u = .slice (if M = L then A else A.map (·.add (L * te.size))) (H - L) (M - L) → VR E.TR C W v u → OpOK E V0 io0 W0 C o s a W v s.objs := by
    intro lo' hi' mx' L H M u e1 e2 e3 hb hue hv
    refine OpOK.pure S (x := u) ?_ hv
    unfold execOp
    rw [ho]
    refine run_v ?_
    subst hue
    simp only [Instr.sliceAt, Sem.run_bind, run_underlying hu, Result.andThen_ok, Instr.slice, ev, e1, e2, e3, hb, run_sizeOf' g1, g2, Sem.run_pure]
  have hlen : ∀ (h : Int), 0 ≤ h → h ≤ l.length → (l.take h.toNat).length = h.toNat := fun h h0 h1 => by rw [List.length_take]; omega
  unfold slAV at h
  simp only at h
  split at h
  · -- x[:]
    rename_i e1 e2 e3
    obtain ⟨rfl⟩ : lo = none := by cases lo <;> simp_all
    obtain ⟨rfl⟩ : hi = none := by cases hi <;> simp_all
    obtain ⟨rfl⟩ : mx = none := by cases mx <;> simp_all
    simp only [Option.some.injEq, Prod.mk.injEq] at h
    obtain ⟨_, rfl⟩ := h
    refine key none none none 0 l.length c (.slice A l.length c) rfl rfl rfl (by simp [Instr.sliceBounds]) ?_ (by rw [← ev]; exact hxv)
    by_cases hc : c = 0
    · simp [hc]
    · simp only [if_neg hc, Nat.zero_mul, Nat.sub_zero]
      cases A <;> simp [add_zero]
  · -- x[:h]
    rename_i h' e1 e2 e3
    obtain ⟨rfl⟩ : lo = none := by cases lo <;> simp_all
    obtain ⟨rfl⟩ : mx = none := by cases mx <;> simp_all
    obtain ⟨y, rfl, hy⟩ : ∃ y, hi = some y ∧ evO X s 0 y = .int h' := by cases hi <;> simp_all
    simp only [Option.some.injEq, Prod.mk.injEq, Bool.and_eq_true, decide_eq_true_eq] at h
    obtain ⟨⟨h0, h1⟩, rfl⟩ := h
    have hyv := S.evO hX 0 y
    rw [hy] at hyv
    refine key none (some (.int .i64 h')) none 0 h'.toNat c (.slice A h'.toNat c) rfl (by simp [hyv.int_inv]) rfl (by simp [Instr.sliceBounds, run_bound h0 (show h' ≤ (c : Int) by omega)]) ?_ ?_
    · by_cases hc : c = 0
      · simp [hc]
      · simp only [if_neg hc, Nat.zero_mul, Nat.sub_zero]
        cases A <;> simp [add_zero]
    · exact vr_sl (hlen h' h0 h1).symm (by rw [hlen h' h0 h1]; omega) (row_take q2 _) (by simp) (by simp) rfl
  · -- x[a:]
    rename_i a' e1 e2 e3
    obtain ⟨rfl⟩ : hi = none := by cases hi <;> simp_all
    obtain ⟨rfl⟩ : mx = none := by cases mx <;> simp_all
    obtain ⟨y, rfl, hy⟩ : ∃ y, lo = some y ∧ evO X s 0 y = .int a' := by cases lo <;> simp_all
    simp only [Option.some.injEq, Prod.mk.injEq, Bool.and_eq_true, decide_eq_true_eq] at h
    obtain ⟨⟨h0, h1⟩, rfl⟩ := h
    have hyv := S.evO hX 0 y
    rw [hy] at hyv
    refine key (some (.int .i64 a')) none none a'.toNat l.length c _ (by simp [hyv.int_inv]) rfl rfl (by simp [Instr.sliceBounds, run_bound h0 (show a' ≤ (l.length : Int) by omega)]) rfl ?_
    refine vr_sl (by simp) (by simp; omega) ?_ (by simp) (by simp) rfl
    by_cases hc : c = a'.toNat
    · have : l.drop a'.toNat = [] := List.drop_of_length_le (by omega)
      rw [this]
      exact row_nil
    · rw [if_neg hc]
      exact row_drop q2 _
  · -- x[a:h]
    rename_i a' h' e1 e2 e3
    obtain ⟨rfl⟩ : mx = none := by cases mx <;> simp_all
    obtain ⟨y, rfl, hy⟩ : ∃ y, lo = some y ∧ evO X s 0 y = .int a' := by cases lo <;> simp_all
    obtain ⟨z, rfl, hz⟩ : ∃ y, hi = some y ∧ evO X s 0 y = .int h' := by cases hi <;> simp_all
    simp only [Option.some.injEq, Prod.mk.injEq, Bool.and_eq_true, decide_eq_true_eq] at h
    obtain ⟨⟨h0, h1, h2⟩, rfl⟩ := h
    have hyv := S.evO hX 0 y
    rw [hy] at hyv
    have hzv := S.evO hX 0 z
    rw [hz] at hzv
    refine key (some (.int .i64 a')) (some (.int .i64 h')) none a'.toNat h'.toNat c _ (by simp [hyv.int_inv]) (by simp [hzv.int_inv]) rfl
      (by simp [Instr.sliceBounds, run_bound (show 0 ≤ h' by omega) (show h' ≤ (c : Int) by omega), run_bound h0 (show a' ≤ (h'.toNat : Int) by omega)]) rfl ?_
    refine vr_sl (by simp; omega) (by simp; omega) ?_ (by simp) (by simp) rfl
    by_cases hc : c = a'.toNat
    · have : (l.take h'.toNat).drop a'.toNat = [] := List.drop_of_length_le (by simp; omega)
      rw [this]
      exact row_nil
    · rw [if_neg hc]
      exact row_drop (row_take q2 _) _
  · -- x[:h:m]
    rename_i h' m' e1 e2 e3
    obtain ⟨rfl⟩ : lo = none := by cases lo <;> simp_all
    obtain ⟨y, rfl, hy⟩ : ∃ y, hi = some y ∧ evO X s 0 y = .int h' := by cases hi <;> simp_all
    obtain ⟨z, rfl, hz⟩ : ∃ y, mx = some y ∧ evO X s 0 y = .int m' := by cases mx <;> simp_all
    simp only [Option.some.injEq, Prod.mk.injEq, Bool.and_eq_true, decide_eq_true_eq] at h
    obtain ⟨⟨rfl, h0, h1⟩, rfl⟩ := h
    have hyv := S.evO hX 0 y
    rw [hy] at hyv
    have hzv := S.evO hX 0 z
    rw [hz] at hzv
    refine key none (some (.int .i64 h')) (some (.int .i64 h')) 0 h'.toNat h'.toNat _ rfl (by simp [hyv.int_inv]) (by simp [hzv.int_inv])
      (by simp [Instr.sliceBounds, run_bound h0 (show h' ≤ (c : Int) by omega), run_bound h0 (show h' ≤ (h'.toNat : Int) by omega)]) rfl ?_
    have hA : (if h'.toNat = 0 then A else A.map (·.add (0 * te.size))) = A := by
      split
      · rfl
      · cases A <;> simp [add_zero]
    rw [hA]
    refine vr_sl (by rw [hlen h' h0 h1]; omega) (by rw [hlen h' h0 h1]; omega) (row_take q2 _) ?_ (fun _ => by rw [hlen h' h0 h1]; omega) rfl
    intro hz hn
    simp only [Bool.and_eq_true, decide_eq_true_eq] at hz
    have : l = [] := by
      have := congrArg List.length hn
      rw [hlen h' h0 h1] at this
      simp at this
      exact List.eq_nil_of_length_eq_zero (by omega)
    obtain ⟨k1, k2⟩ := q3 hz.1 this
    subst this
    refine ⟨k1, ?_⟩
    simp at h1
    omega
  · -- x[a:h:m]
    rename_i a' h' m' e1 e2 e3
    obtain ⟨w, rfl, hw⟩ : ∃ y, lo = some y ∧ evO X s 0 y = .int a' := by cases lo <;> simp_all
    obtain ⟨y, rfl, hy⟩ : ∃ y, hi = some y ∧ evO X s 0 y = .int h' := by cases hi <;> simp_all
    obtain ⟨z, rfl, hz⟩ : ∃ y, mx = some y ∧ evO X s 0 y = .int m' := by cases mx <;> simp_all
    simp only [Option.some.injEq, Prod.mk.injEq, Bool.and_eq_true, decide_eq_true_eq] at h
    obtain ⟨⟨rfl, h0, h1, h2⟩, rfl⟩ := h
    have hwv := S.evO hX 0 w
    rw [hw] at hwv
    have hyv := S.evO hX 0 y
    rw [hy] at hyv
    have hzv := S.evO hX 0 z
    rw [hz] at hzv
    refine key (some (.int .i64 a')) (some (.int .i64 h')) (some (.int .i64 h')) a'.toNat h'.toNat h'.toNat _ (by simp [hwv.int_inv]) (by simp [hyv.int_inv]) (by simp [hzv.int_inv])
      (by simp [Instr.sliceBounds, run_bound (show 0 ≤ h' by omega) (show h' ≤ (c : Int) by omega), run_bound (show 0 ≤ h' by omega) (show h' ≤ (h'.toNat : Int) by omega), run_bound h0 (show a' ≤ (h'.toNat : Int) by omega)]) rfl ?_
    refine vr_sl (by simp; omega) (by simp; omega) ?_ ?_ (fun _ => by simp; omega) rfl
    · by_cases hc : h'.toNat = a'.toNat
      · have : (l.take h'.toNat).drop a'.toNat = [] := List.drop_of_length_le (by simp; omega)
        rw [this]
        exact row_nil
      · rw [if_neg hc]
        exact row_drop (row_take q2 _) _
    · intro hz hn
      simp only [Bool.and_eq_true, decide_eq_true_eq] at hz
      obtain ⟨hz1, rfl, hz3⟩ := hz
      have : l = [] := by
        have hl := congrArg List.length hn
        rw [List.length_drop, List.length_take] at hl
        simp only [List.length_nil] at hl
        exact List.eq_nil_of_length_eq_zero (by omega)
      obtain ⟨k1, k2⟩ := q3 hz1 this
      subst this
      simp at hz3
      subst hz3
      exact ⟨by simpa using k1, by simp⟩
  · cases h

end Ev
end Go.Proofs.YtidnikjkpbmhhaaDoor
