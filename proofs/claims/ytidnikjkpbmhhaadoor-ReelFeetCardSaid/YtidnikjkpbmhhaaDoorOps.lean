/- What is known of the types is so; what an operand reads as. -/
import Derived.Test.YtidnikjkpbmhhaaDoorSim
import Derived.CallsIn
import Derived.RangeFuncSeq
import Derived.Laws.Entries
import Derived.Laws.Sem
set_option linter.unusedVariables false
namespace Go.Proofs.YtidnikjkpbmhhaaDoor
namespace Ev

def isAggD : TypeDesc → Bool
  | .struct _ => true
  | .array _ _ => true
  | _ => false
def isAgT : Ty → Bool
  | .last _ => true
  | .cons _ _ => true
  | .arr _ _ => true
  | _ => false

structure ElOK (E : Base) (e : Ty) (te by_ : Nat) : Prop where
  pos : 0 < e.size
  bpos : 0 < by_
  ex : ∃ inf zv, E.P.info? te = some inf ∧ inf.size = e.size ∧ inf.bytes = by_ ∧ inf.zero = some zv ∧ zv.cells.size = e.size ∧ ∀ V W, CRel V W e e.dflt zv.cells.toList

/-- Cells of scalars, compared. -/
def eqVals : List Value → List Value → Option Bool
  | [], [] => some true
  | .int .i64 a :: xs, .int .i64 b :: ys => (eqVals xs ys).map (decide (a = b) && ·)
  | .bool a :: xs, .bool b :: ys => (eqVals xs ys).map ((a == b) && ·)
  | _, _ => none

def kindsV : List Value → Option (List Bool)
  | [] => some []
  | .int .i64 _ :: xs => (kindsV xs).map (false :: ·)
  | .bool _ :: xs => (kindsV xs).map (true :: ·)
  | _ => none

structure TiOK (E : Base) (t : Nat) (i : Ti) : Prop where
  sz : ∃ inf, E.P.info? t = some inf ∧ inf.size = i.sz
  ag : ∃ d, E.P.underlying t = some d ∧ isAggD d = i.ag
  zero : ∀ z, i.zero = some z → ∃ inf v, E.P.info? t = some inf ∧ inf.zero = some v ∧ z.size = i.sz ∧ isAg z = i.ag ∧ clean z = true ∧ ∀ C W, ∃ cs, cs.length = z.size ∧ Rel E.TR C W z cs ∧ v = mkV z cs
  flds : ∀ (f off ft : Nat), i.flds[f]? = some (off, ft) → ∃ fs fd, E.P.underlying t = some (.struct fs) ∧ fs[f]? = some fd ∧ fd.offset = off ∧ fd.type = ft ∧ ∃ inf, E.P.info? ft = some inf ∧ inf.size ≠ 0
  el : ∀ e te by_, i.el = some (e, te, by_) → E.P.underlying t = some (.slice te) ∧ ElOK E e te by_
  ar : ∀ n te tid, i.ar = some (n, te, tid) → ∃ inf d, E.P.underlying t = some (.array n tid) ∧ E.P.info? tid = some inf ∧ inf.size = te.size ∧ E.P.underlying tid = some d ∧ isAggD d = isAgT te
  bl : i.bl = true → E.P.underlying t = some .bool
  eq : i.eq ≠ [] → E.P.eqGuardType E.P.depth t = false ∧ ∀ xs ys r W, kindsV xs = some i.eq → kindsV ys = some i.eq → eqVals xs ys = some r → (Op.equal t (.agg xs.toArray) (.agg ys.toArray)).run E.P W = .ok r W
  bld : i.ar = none → i.flds ≠ [] → ∃ fs pl, E.P.underlying t = some (.struct fs) ∧ fs.toList.mapM (fun f => (E.P.info? f.type).map fun i => (f.offset, i.size)) = some pl ∧
    ∀ (f off ft : Nat), i.flds[f]? = some (off, ft) → ∃ inf, E.P.info? ft = some inf ∧ pl[f]? = some (off, inf.size)

def TblOK (E : Base) (T : Tbl) : Prop := ∀ t i, look T t = some i → TiOK E t i

/-- The fence of a frame: of a function, or of a round of loop l. -/
abbrev Fr (ro : Option Nat) : Fence := { Fence.wide with round := ro }

/-- A value is called: a function, or the word that a loop's body is told by. -/
def Goes (E : Base) (x : Value) (vs : List Value) (W : World) (R : Value → World → Prop) : Prop :=
  (∃ (f : Nat) (xs ys : List Value) (fn : Func), x = .func (.func f) xs.toArray ys.toArray ∧ E.P.funcs[f]? = some fn ∧ fn.body.isNone = false ∧ (fn.name == "runtime.NumGoroutine") = false ∧
    Calls E.P f (xs ++ (vs ++ ys)).toArray W fun e W' => ∃ r, e = .returned r ∧ R r W') ∨
  (∃ l : Nat, x = .func (.yield l) #[] #[] ∧ YieldAt Fence.wide 0 E.P l vs.toArray W fun e W' => ∃ r, e = .returned r ∧ R r W')

/-- The word of a value that is called and tells others something. -/
def TCtr (E : Env) (i : Nat) (g : List AV → (t : Ty) → t.den → List AV → Option (Bool × AV × List AV)) : Prop :=
  ∀ V io W tr t d x args vs r items, BaseOK E.toBase V io W → E.n0 ≤ W.heap.size → (∀ b, E.M b → b < E.n0 ∧ ∀ o, V b o) → E.J tr V io W → E.TR i t d V io W x → RelV E.TR (baseCx V io) W args vs → g tr t d args = some (true, r, items) →
    Goes E.toBase x vs W fun y W' => ∃ io', VR E.TR (baseCx V io') W' r y ∧ Keep E.M io io' W W' ∧ IoOK E.MI io' W' ∧ E.J (tr ++ items) V io' W'

/-- What a loop's body promises: of each that is told in its turn it says b. -/
def YCtr (E : Env) (b : Bool) (t : Ty) (xs : List t.den) (x : Value) : Prop :=
  ∀ (pre : List t.den) (d : t.den) (rest : List t.den), xs = pre ++ d :: rest → (b = false → pre = []) → ∀ V io W vs, BaseOK E.toBase V io W → E.n0 ≤ W.heap.size → (∀ b, E.M b → b < E.n0 ∧ ∀ o, V b o) → E.J (pre.map (enc t)) V io W → RelV E.TR (baseCx V io) W [enc t d] vs →
    Goes E.toBase x vs W fun y W' => ∃ io', y = .bool b ∧ Keep E.M io io' W W' ∧ IoOK E.MI io' W' ∧ E.J ((pre ++ [d]).map (enc t)) V io' W'

def told (t : Ty) (b : Bool) (xs : List t.den) : List AV := if b = true then xs.map (enc t) else (xs.take 1).map (enc t)

/-- The word of a function that tells what is ranged over. -/
def ICtr (B : Base) (f : Nat) (it : It) : Prop :=
  ∀ (E : Env), E.toBase = B → ∀ (b : Bool) V io W (l : Nat) cap caps xs, BaseOK B V io W → E.n0 ≤ W.heap.size → (∀ b, E.M b → b < E.n0 ∧ ∀ o, V b o) → E.J [] V io W → RelV B.TR (baseCx V io) W cap caps → it.f cap = some (true, xs) →
    YCtr E b it.t xs (.func (.yield l) #[] #[]) →
    Calls B.P f (Value.func (.yield l) #[] #[] :: caps).toArray W fun e W' => ∃ v, e = .returned v ∧ ∃ io', Keep E.M io io' W W' ∧ IoOK B.MI io' W' ∧ E.J (told it.t b xs) V io' W'

structure CtxOK (E : Env) (X : Ctx) : Prop where
  T : TblOK E.toBase X.T
  G : X.G = E.GL
  C : ∀ f g, findA X.C f = some g → Ctr E.toBase f g ∧ ∃ fn, E.P.funcs[f]? = some fn ∧ fn.body.isNone = false ∧ (fn.name == "runtime.NumGoroutine") = false
  M : E.P.follows .mixedOrders = true
  K : ∀ i g, findA X.K i = some g → TCtr E i g
  mkm : ∀ d, X.mkm = some d → E.MI d.1 d.2 #[] ∧ ∀ V io (W : World) b, io b = some d → b < W.heap.size → E.TR 0 d.1 d.2 V io W (.map (some b))
  up : ∀ u, X.up = some u → ∀ V io W t d mv k v kv vv, BaseOK E.toBase V io W → E.TR 0 t d V io W mv → VR E.TR (baseCx V io) W k kv → VR E.TR (baseCx V io) W v vv → u.2 t d k v = true →
    ∃ W', (Instr.mapUpdate u.1 mv kv vv).run E.P W = .ok () W' ∧ Keep noM io io W W' ∧ IoOK E.MI io W'
  I : ∀ f it, findA X.I f = some it → ICtr E.toBase f it ∧ ∃ fn, E.P.funcs[f]? = some fn ∧ fn.body.isNone = false ∧ (fn.name == "runtime.NumGoroutine") = false

variable {E : Env} {V0 : Nat → Nat → Prop} {io0 : Io} {W0 : World} {C : Cx} {s : St} {a : Act} {W : World} {X : Ctx}

theorem vr_int (n : Int) : VR E.TR C W (.int n) (.int .i64 n) := .inr ⟨[.int .i64 n], rfl, by simp [Rel], rfl⟩
theorem vr_bool (n : Bool) : VR E.TR C W (.bool n) (.bool n) := .inr ⟨[.bool n], rfl, by simp [Rel], rfl⟩
theorem vr_poison (v : Value) : VR E.TR C W .poison v := .inl rfl
theorem vr_undef : VR E.TR C W .undef undef := .inr ⟨[undef], rfl, by simp [Rel], rfl⟩
theorem VR.int_inv {n : Int} {v : Value} (h : VR E.TR C W (.int n) v) : v = .int .i64 n := by
  rcases h with h | ⟨cs, _, h, rfl⟩
  · cases h
  · simp only [Rel] at h
    subst h
    rfl
theorem VR.bool_inv {n : Bool} {v : Value} (h : VR E.TR C W (.bool n) v) : v = .bool n := by
  rcases h with h | ⟨cs, _, h, rfl⟩
  · cases h
  · simp only [Rel] at h
    subst h
    rfl
theorem VR.undef_inv {v : Value} (h : VR E.TR C W .undef v) : v = undef := by
  rcases h with h | ⟨cs, _, h, rfl⟩
  · cases h
  · simp only [Rel] at h
    subst h
    rfl

theorem rel_nil (t : Ty) (f : Fl) (hf : f.ow = none) : Rel E.TR C W (.sl t f []) [.slice none 0 0] := by
  simp only [Rel]
  refine ⟨none, 0, rfl, Nat.le_refl _, fun j x h => by simp at h, fun _ _ => ⟨rfl, rfl⟩, fun _ => rfl, fun k v h => by rw [hf] at h; cases h⟩
theorem vr_nil (t : Ty) (f : Fl) (hf : f.ow = none) : VR E.TR C W (.sl t f []) (.slice none 0 0) := .inr ⟨_, rfl, rel_nil t f hf, rfl⟩

theorem VR.sl_inv {t : Ty} {f : Fl} {l : List t.den} {v : Value} (h : VR E.TR C W (.sl t f l) v) : ∃ A c, v = .slice A l.length c ∧ Rel E.TR C W (.sl t f l) [.slice A l.length c] := by
  rcases h with h | ⟨cs, _, h, rfl⟩
  · cases h
  · have h' := h
    simp only [Rel] at h
    obtain ⟨A, c, rfl, _⟩ := h
    exact ⟨A, c, rfl, h'⟩

theorem look_el (hT : TblOK E.toBase X.T) {t : Nat} {e : Ty} {te by_ : Nat} (h : elOf X.T t = some (e, te, by_)) : E.P.underlying t = some (.slice te) ∧ ElOK E.toBase e te by_ := by
  unfold elOf at h
  split at h
  · rename_i i hi
    exact (hT t i hi).el _ _ _ h
  · cases h

theorem constAV_ok (t : Nat) (v : Value) : VR E.TR C W (constAV X.T t v) v := by
  unfold constAV
  split
  · exact vr_int _
  · exact vr_bool _
  · split
    · exact vr_nil _ _ rfl
    · exact vr_poison _
  · exact vr_poison _

theorem Sim.evO (S : Sim E V0 io0 W0 C s a W) (hX : CtxOK E X) (t : Nat) (x : Operand) : VR E.TR C W (evO X s t x) (a.eval x) := by
  cases x with
  | tmp k => exact S.get k
  | const v => exact constAV_ok t v
  | global g =>
    simp only [Ev.evO, Act.eval]
    split
    · rename_i v hv
      rw [hX.G] at hv
      exact .inr ⟨_, rfl, Rel.mono E.hT (CxLe.ofBase C rfl rfl) (S.gl g v hv), rfl⟩
    · exact vr_poison _
  | func f =>
    refine .inr ⟨[.func (.func f) #[] #[]], rfl, ?_, rfl⟩
    simp only [Ev.evO, Rel]
    exact ⟨[], [], rfl, by simp [RelV], by simp [RelV]⟩

theorem callsIn_fr {ro : Option Nat} {P : Program} {f : FuncId} {args : Array Value} {w : World} {R : Ending → World → Prop} (h : Calls P f args w R) : CallsIn (Fr ro) 0 P f args w R := (callsIn_wide (n := 0)).2 h
theorem calls_of_fr {ro : Option Nat} {P : Program} {f : FuncId} {args : Array Value} {w : World} {R : Ending → World → Prop} (h : CallsIn (Fr ro) 0 P f args w R) : Calls P f args w R := (callsIn_wide (n := 0)).1 h

theorem semAt_fr {ρ : Operand → Value} {o : Oper} {P : Program} {W W' : World} {x : Next} (ro : Option Nat) (h : (execOp ρ o).run P W = .ok x W') (hx : ∀ d, x ≠ .defer d) : o.semAt ro ρ = execOp ρ o := by
  refine Oper.semAt_eq ro ρ o fun c ho => ?_
  unfold execOp at h
  rw [ho] at h
  simp only [Sem.run_bind] at h
  cases hr : (resolve ρ c o.type).run P W with
  | ok d w' =>
    rw [hr] at h
    simp only [Result.andThen_ok, Sem.run_pure, Result.ok.injEq] at h
    exact hx d h.1.symm
  | halt y w' =>
    rw [hr] at h
    cases h

/-- An operation goes through, and what it leaves. -/
def OpOK (E : Env) (V0 : Nat → Nat → Prop) (io0 : Io) (W0 : World) (C : Cx) (o : Oper) (s : St) (a : Act) (W : World) (v : AV) (obs : List Ob) : Prop :=
  ∀ (ro : Option Nat) (next : Act → World → Prop) (Q : Exit → Act → World → Prop), (∀ C' a' W', Sim E V0 io0 W0 C' ⟨(s.put o.dst v).tmps, obs⟩ a' W' → CxLe C C' W W' → FmA o.dst a a' → Kx E.M C C' W W' → next a' W') → o.wpIn (Fr ro) 0 E.P a W next Q

theorem put_objs (s : St) (d : Option Nat) (v : AV) (obs : List Ob) : (⟨(s.put d v).tmps, obs⟩ : St) = (⟨s.tmps, obs⟩ : St).put d v := by cases d <;> rfl

theorem OpOK.value {o : Oper} {v : AV} {obs : List Ob} {x : Value} {C' : Cx} {W' : World} (hr : (execOp a.eval o).run E.P W = .ok (.value x) W') (hS : Sim E V0 io0 W0 C' ⟨s.tmps, obs⟩ a W') (hle : CxLe C C' W W') (hkx : Kx E.M C C' W W') (hv : VR E.TR C' W' v x) :
    OpOK E V0 io0 W0 C o s a W v obs := by
  intro ro next Q hn
  refine ⟨fun _ _ => trivial, ?_⟩
  rw [semAt_fr _ hr (fun _ h => nomatch h), hr, Oper.uponIn_value]
  exact hn C' _ _ (by rw [put_objs]; exact hS.put o.dst hv) hle (fmA_put _ _ _) hkx
theorem OpOK.skip {o : Oper} {obs : List Ob} {C' : Cx} {W' : World} (hr : (execOp a.eval o).run E.P W = .ok .skip W') (hS : Sim E V0 io0 W0 C' ⟨s.tmps, obs⟩ a W') (hle : CxLe C C' W W') (hkx : Kx E.M C C' W W') :
    OpOK E V0 io0 W0 C o s a W .undef obs := by
  intro ro next Q hn
  refine ⟨fun _ _ => trivial, ?_⟩
  rw [semAt_fr _ hr (fun _ h => nomatch h), hr, Oper.uponIn_skip]
  exact hn C' _ _ (by rw [put_objs]; exact hS.put o.dst vr_undef) hle (fmA_put _ _ _) hkx

/-- Runs of the shape 'v (..)'. -/
theorem run_v {S : Sem Value} {x : Value} {W W' : World} {P : Program} (h : S.run P W = .ok x W') : (do pure (Next.value (← S)) : Sem Next).run P W = .ok (.value x) W' := by
  simp [h]

theorem run_isAgg {t : Nat} {d : TypeDesc} (h : E.P.underlying t = some d) (W : World) : (isAgg t).run E.P W = .ok (isAggD d) W := by
  simp only [isAgg, Sem.run_bind, run_underlying h, Result.andThen_ok]
  cases d <;> rfl
theorem run_sizeOf' {t : Nat} {i : TypeInfo} (h : E.P.info? t = some i) (W : World) : (sizeOf t).run E.P W = .ok i.size W := by
  simp [sizeOf, typeInfo, h]
theorem run_typeInfo' {t : Nat} {i : TypeInfo} (h : E.P.info? t = some i) (W : World) : (typeInfo t).run E.P W = .ok i W := by
  simp [typeInfo, h]
theorem run_zeroValue' {t : Nat} {i : TypeInfo} {v : Value} (h : E.P.info? t = some i) (hz : i.zero = some v) (W : World) : (zeroValue t).run E.P W = .ok v W := by
  simp [zeroValue, typeInfo, h, hz]

/-- A loaded variable. -/
theorem run_loadVar' {t : Nat} {i : Ti} (hi : TiOK E.toBase t i) {v : AV} {cs : List Value} {ad : Addr} (h1 : i.sz = v.size) (h2 : i.ag = isAg v) (hl : cs.length = v.size)
    (hc : ∀ j u, cs[j]? = some u → W.cell? (ad.add j) = some u) (hz : isAg v = false → v.size = 1) : (loadVar t ad).run E.P W = .ok (mkV v cs) W := by
  obtain ⟨d, hd, hd2⟩ := hi.ag
  obtain ⟨inf, hinf, hsz⟩ := hi.sz
  simp only [loadVar, Sem.run_bind, run_isAgg hd, Result.andThen_ok, hd2, h2]
  cases hv : isAg v with
  | true =>
    simp only [if_true, Sem.run_bind, run_sizeOf' hinf, Result.andThen_ok]
    have := run_loadCells_list (P := E.P) W ad cs hc
    rw [hsz, h1, ← hl, this]
    simp [mkV, hv]
  | false =>
    have h1 := hz hv
    match cs, hl, hc with
    | [u], _, hc =>
      have := hc 0 u rfl
      rw [add_zero] at this
      simp [mkV, hv, this]
    | [], hl, _ => simp [h1] at hl
    | _ :: _ :: _, hl, _ => simp [h1] at hl

theorem size_one {v : AV} (h : isAg v = false) : v.size = 1 := by
  cases v <;> first | rfl | (simp [isAg] at h)

theorem fits_inv {T : Tbl} {t : Nat} {v : AV} (h : fits T t v = true) : ∃ i, look T t = some i ∧ i.sz = v.size ∧ i.ag = isAg v := by
  unfold fits at h
  split at h
  · rename_i i hi
    simp only [Bool.and_eq_true, decide_eq_true_eq, beq_iff_eq] at h
    exact ⟨i, hi, h.1, h.2⟩
  · cases h

/-! Paths. -/

theorem flat_at {α : Type} {R : α → List Value → Prop} {sz : Nat} (hR : ∀ x c, R x c → c.length = sz) : ∀ {xs : List α} {cs : List Value}, Flat R xs cs → ∀ j x, xs[j]? = some x → R x ((cs.drop (j * sz)).take sz) ∧ j * sz + sz ≤ cs.length
  | [], _, _, j, x, h => by simp at h
  | y :: xs, cs, ⟨c, d, e, h1, h2⟩, 0, x, h => by
    simp at h
    subst h
    subst e
    have := hR _ _ h1
    subst this
    exact ⟨by simpa using h1, by simp⟩
  | y :: xs, cs, ⟨c, d, e, h1, h2⟩, j + 1, x, h => by
    obtain ⟨g1, g2⟩ := flat_at hR h2 j x (by simpa using h)
    have hl := hR _ _ h1
    subst e
    have e1 : (j + 1) * sz = c.length + j * sz := by rw [Nat.add_mul, Nat.one_mul, hl, Nat.add_comm]
    have e2 : (j + 1) * sz + sz = c.length + (j * sz + sz) := by omega
    rw [e2, e1, List.drop_length_add_append]
    refine ⟨g1, by simp; omega⟩

mutual
theorem enc_rel {V : Nat → Nat → Prop} {io : Io} {W : World} {TR : TokRel} : ∀ {t : Ty} {x : t.den} {cs : List Value}, CRel V W t x cs → ∀ C : Cx, C.V = V → Rel TR C W (enc t x) cs ∧ (enc t x).size = t.size
  | .int, x, cs, h, C, hC => by
    simp only [enc, Rel, AV.size, Ty.size]
    exact ⟨h, trivial⟩
  | .bool, x, cs, h, C, hC => by
    simp only [enc, Rel, AV.size, Ty.size]
    exact ⟨h, trivial⟩
  | .last a, x, cs, h, C, hC => by
    have h' : CRel V W a x cs := h
    obtain ⟨g1, g2⟩ := enc_rel (io := io) (TR := TR) h' C hC
    simp only [enc, Rel, RelL, AV.size, sizeL, Ty.size]
    exact ⟨⟨cs, [], by simp, by rw [CRel.length h', g2], g1, rfl⟩, by omega⟩
  | .cons a b, x, cs, h, C, hC => by
    obtain ⟨c, d, e, h1, h2⟩ := h
    obtain ⟨g1, g2⟩ := enc_rel (io := io) (TR := TR) h1 C hC
    obtain ⟨g3, g4⟩ := encT_rel (io := io) (TR := TR) h2 C hC
    simp only [enc, Rel, RelL, AV.size, sizeL, Ty.size]
    exact ⟨⟨c, d, e, by rw [CRel.length h1, g2], g1, g3⟩, by omega⟩
  | .slice t, l, cs, h, C, hC => by
    obtain ⟨A, c, e, h1, h2⟩ := h
    simp only [enc, Rel, AV.size, Ty.size]
    subst hC
    exact ⟨⟨A, c, e, h1, h2, by simp, by simp, by simp⟩, trivial⟩
  | .arr n t, xs, cs, h, C, hC => by
    obtain ⟨h1, h2⟩ := h
    simp only [enc, Rel, AV.size, Ty.size]
    subst hC
    exact ⟨⟨h1, h2⟩, trivial⟩
theorem encT_rel {V : Nat → Nat → Prop} {io : Io} {W : World} {TR : TokRel} : ∀ {t : Ty} {x : t.den} {cs : List Value}, CRel V W t x cs → ∀ C : Cx, C.V = V → RelL TR C W (encT t x) cs ∧ sizeL (encT t x) = t.size
  | .int, x, cs, h, C, hC => by
    have h' : cs = [.int .i64 x] := h
    simp only [encT, RelL, Rel, AV.size, sizeL, Ty.size]
    exact ⟨⟨cs, [], by simp, by simp [h'], h', rfl⟩, trivial⟩
  | .bool, x, cs, h, C, hC => by
    have h' : cs = [.bool x] := h
    simp only [encT, RelL, Rel, AV.size, sizeL, Ty.size]
    exact ⟨⟨cs, [], by simp, by simp [h'], h', rfl⟩, trivial⟩
  | .last a, x, cs, h, C, hC => by
    have h' : CRel V W a x cs := h
    obtain ⟨g1, g2⟩ := enc_rel (io := io) (TR := TR) h' C hC
    simp only [encT, RelL, sizeL, Ty.size]
    exact ⟨⟨cs, [], by simp, by rw [CRel.length h', g2], g1, rfl⟩, by omega⟩
  | .cons a b, x, cs, h, C, hC => by
    obtain ⟨c, d, e, h1, h2⟩ := h
    obtain ⟨g1, g2⟩ := enc_rel (io := io) (TR := TR) h1 C hC
    obtain ⟨g3, g4⟩ := encT_rel (io := io) (TR := TR) h2 C hC
    simp only [encT, RelL, sizeL, Ty.size]
    exact ⟨⟨c, d, e, by rw [CRel.length h1, g2], g1, g3⟩, by omega⟩
  | .slice t, l, cs, h, C, hC => by
    obtain ⟨A, c, e, h1, h2⟩ := h
    simp only [encT, RelL, Rel, AV.size, sizeL, Ty.size]
    subst hC
    exact ⟨⟨cs, [], by simp, by simp [e], ⟨A, c, e, h1, h2, by simp, by simp, by simp⟩, rfl⟩, trivial⟩
  | .arr n t, xs, cs, h, C, hC => by
    have hl := CRel.length (t := .arr n t) h
    obtain ⟨h1, h2⟩ := h
    simp only [encT, RelL, Rel, AV.size, sizeL, Ty.size] at hl ⊢
    subst hC
    exact ⟨⟨cs, [], by simp, hl, ⟨h1, h2⟩, rfl⟩, by omega⟩
end

theorem isAg_enc (t : Ty) (x : t.den) : isAg (enc t x) = isAgT t := by cases t <;> rfl

theorem relL_at {TR : TokRel} : ∀ {l : List AV} {cs : List Value}, RelL TR C W l cs → ∀ (i : Nat) (x : AV), l[i]? = some x → Rel TR C W x ((cs.drop (sizeL (l.take i))).take x.size) ∧ sizeL (l.take i) + x.size ≤ cs.length
  | [], _, _, i, x, h => by simp at h
  | v :: l, cs, hr, 0, x, h => by
    simp only [RelL] at hr
    obtain ⟨c, d, rfl, hl, h1, h2⟩ := hr
    simp at h
    subst h
    simp only [List.take_zero, sizeL, List.drop_zero]
    refine ⟨by rw [← hl]; simpa using h1, by simp; omega⟩
  | v :: l, cs, hr, i + 1, x, h => by
    simp only [RelL] at hr
    obtain ⟨c, d, rfl, hl, h1, h2⟩ := hr
    obtain ⟨g1, g2⟩ := relL_at h2 i x (by simpa using h)
    simp only [List.take_succ_cons, sizeL]
    rw [← hl, List.drop_length_add_append]
    refine ⟨g1, by simp; omega⟩

theorem relL_length {TR : TokRel} : ∀ {l : List AV} {cs : List Value}, RelL TR C W l cs → cs.length = sizeL l
  | [], _, h => by simp only [RelL] at h; simp [h, sizeL]
  | v :: l, cs, h => by
    simp only [RelL] at h
    obtain ⟨c, d, rfl, hl, h1, h2⟩ := h
    simp [sizeL, hl, relL_length h2]

theorem Rel.len {TR : TokRel} {v : AV} {cs : List Value} (h : Rel TR C W v cs) : cs.length = v.size := by
  cases v with
  | agg l =>
    simp only [Rel] at h
    exact relL_length h
  | arr t n xs =>
    simp only [Rel] at h
    obtain ⟨h1, h2⟩ := h
    rw [Flat.length (fun x c h => CRel.length h) h2, h1]
    rfl
  | poison => simp only [Rel] at h; obtain ⟨v, rfl⟩ := h; rfl
  | undef => simp only [Rel] at h; subst h; rfl
  | int n => simp only [Rel] at h; subst h; rfl
  | bool n => simp only [Rel] at h; subst h; rfl
  | sl t f l => simp only [Rel] at h; obtain ⟨A, c, rfl, _⟩ := h; rfl
  | tup l => simp only [Rel] at h; obtain ⟨vs, rfl, _⟩ := h; rfl
  | ref k p => simp only [Rel] at h; obtain ⟨b, _, _, rfl⟩ := h; rfl
  | cref v p => simp only [Rel] at h; obtain ⟨b, _, _, _, _, rfl⟩ := h; rfl
  | fn f x y => simp only [Rel] at h; obtain ⟨b, _, rfl, _⟩ := h; rfl
  | map k => simp only [Rel] at h
  | tok i t d => simp only [Rel] at h; obtain ⟨b, rfl, _⟩ := h; rfl

theorem VR.mk {v : AV} {cs : List Value} (h : Rel E.TR C W v cs) : VR E.TR C W v (mkV v cs) := .inr ⟨cs, h.len, h, rfl⟩

/-- A part behind a path reads in its place. -/
theorem getP_rel {TR : TokRel} : ∀ {p : List Stp} {v u : AV} {cs : List Value}, Rel TR C W v cs → getP v p = some u → okP p → Rel TR C W u ((cs.drop (offP p)).take u.size) ∧ offP p + u.size ≤ cs.length
  | [], v, u, cs, h, hg, _ => by
    simp only [getP] at hg
    have e := Option.some.inj hg
    subst e
    have := h.len
    simp only [offP, List.drop_zero]
    exact ⟨by rw [← this, List.take_length]; exact h, by omega⟩
  | x :: p, v, u, cs, h, hg, hp => by
    have hp' : okP p := fun y hy => hp y (by simp [hy])
    cases v with
    | agg l =>
      cases x with
      | fld i off =>
        simp only [getP] at hg
        split at hg
        · rename_i w hw
          split at hg
          · rename_i ho
            simp only [Rel] at h
            obtain ⟨g1, g2⟩ := relL_at h i w hw
            obtain ⟨g3, g4⟩ := getP_rel g1 hg hp'
            simp only [List.length_take, List.length_drop] at g4
            simp only [offP, Stp.off]
            subst ho
            refine ⟨?_, by omega⟩
            rw [List.drop_take, List.take_take, List.drop_drop] at g3
            have e : min u.size (w.size - offP p) = u.size := by omega
            rw [e] at g3
            exact g3
          · cases hg
        · cases hg
      | idx i sz n =>
        simp only [getP] at hg
        split at hg
        · rename_i w hw
          split at hg
          · rename_i ho
            simp only [Rel] at h
            obtain ⟨g1, g2⟩ := relL_at h i.toNat w hw
            obtain ⟨g3, g4⟩ := getP_rel g1 hg hp'
            simp only [List.length_take, List.length_drop] at g4
            simp only [offP, Stp.off]
            rw [ho] at g3 g2
            refine ⟨?_, by omega⟩
            rw [List.drop_take, List.take_take, List.drop_drop] at g3
            have e : min u.size (w.size - offP p) = u.size := by omega
            rw [e] at g3
            exact g3
          · cases hg
        · cases hg
    | arr t n xs =>
      cases x with
      | fld i off => simp [getP] at hg
      | idx i sz m =>
        simp only [getP] at hg
        split at hg
        · rename_i hc
          obtain ⟨rfl, rfl⟩ := hc
          simp only [Rel] at h
          obtain ⟨h1, h2⟩ := h
          have hx := hp (.idx i t.size m) (by simp)
          simp only [Stp.ok] at hx
          have hi : i.toNat < xs.length := by omega
          have he : xs.getD i.toNat t.dflt = xs[i.toNat] := by simp [List.getD, List.getElem?_eq_getElem hi]
          rw [he] at hg
          obtain ⟨g1, g2⟩ := flat_at (fun x c h => CRel.length h) h2 i.toNat _ (List.getElem?_eq_getElem hi)
          obtain ⟨g3, g4⟩ := enc_rel (io := C.io) (TR := TR) g1 C rfl
          obtain ⟨g5, g6⟩ := getP_rel g3 hg hp'
          simp only [List.length_take, List.length_drop] at g6
          simp only [offP, Stp.off]
          refine ⟨?_, by omega⟩
          rw [List.drop_take, List.take_take, List.drop_drop] at g5
          have e : min u.size (t.size - offP p) = u.size := by omega
          rw [e] at g5
          exact g5
        · cases hg
    | _ => simp [getP] at hg

end Ev
end Go.Proofs.YtidnikjkpbmhhaaDoor
