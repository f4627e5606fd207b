/- The film and the film mixed up: a slice's block is known, and one of its cells is written. -/
import Derived.Test.YtidnikjkpbmhhaaDoorSpk
set_option linter.unusedVariables false
set_option linter.unusedSimpArgs false
set_option maxRecDepth 4000
namespace Go.Proofs.YtidnikjkpbmhhaaDoor
namespace Ev

variable {B : Base} {V0 : Nat → Nat → Prop} {io0 : Io} {W0 : World} {C : Cx} {s s' s1 : St} {a : Act} {W W' : World} {X : Ctx}

def NoLin (s : St) : Prop := ∀ (k v : Nat) (al : Bool), s.objs[k]? ≠ some (.lin v al)
def noLinB (s : St) : Bool := s.objs.all fun | .lin _ _ => false | _ => true
theorem noLinB_ok (h : noLinB s = true) : NoLin s := fun k v al hx => by
  have := List.all_eq_true.1 h _ (List.mem_of_getElem? hx)
  cases this

/-- A new block is taken as a box. -/
theorem Sim.adopt (S : Sim B.env V0 io0 W0 C s a W) (hln : NoLin s) {io' : Io} (hk : Keep noM C.io io' W W') (hio : IoOK B.MI io' W') {d b : Nat} {v : AV} {cs : Array Value} {ty : TypeId} (hd : s.objs[d]? = some .none) (hb : W.heap.size ≤ b) (hc : W'.heap[b]? = some (.cells cs ty (0, 0))) (hl : cs.toList.length = v.size) (hr : ∀ C, Rel B.TR C W' v cs.toList) :
    ∃ C', CxLe C C' W W' ∧ C'.box d = some b ∧ C'.io = io' ∧ Sim B.env V0 io0 W0 C' ⟨s.tmps, s.objs.set d (.box v)⟩ a W' := by
  let C' : Cx := { C with io := io', box := fun k => if k = d then some b else C.box k, V := fun b1 o => C.V b1 o ∨ b1 = b }
  have hbd : C.box d = none := by
    cases h : C.box d with
    | none => rfl
    | some b =>
      obtain ⟨u, hu⟩ := S.bxn d b h
      rw [hd] at hu
      cases hu
  have hold : ∀ (b1 : Nat) (c1 : Array Value) (t1 : TypeId) (f1 : Nat × Nat), W.heap[b1]? = some (.cells c1 t1 f1) → W'.heap[b1]? = some (.cells c1 t1 f1) := fun b1 c1 t1 f1 h =>
    (hk.block b1 (Array.getElem?_eq_some_iff.1 h).1 (Cell.io_none S.iok h (fun _ _ h => nomatch h)) fun e => e).trans h
  have hst : Stab C.V C'.V W W' := ⟨fun x u hx hv => by
    obtain ⟨c1, t1, f1, g1, _⟩ := cells_of_cell hx
    exact (cell_of_block ((hold _ _ _ _ g1).trans g1.symm)).trans hx, fun b1 o hb1 h => by
      rcases h with h | h
      · exact h
      · omega⟩
  have hle : CxLe C C' W W' := ⟨hst, fun k b1 h => by
      have : k ≠ d := fun e => by subst e; rw [hbd] at h; cases h
      simp only [C', if_neg this]; exact h, fun k cu al h => ⟨cu, al, h, Nat.le_refl _, fun h _ => ⟨h, rfl⟩⟩, hk.io, hk.size⟩
  have hlt : ∀ {k b : Nat}, C.box k = some b → b < W.heap.size := fun {k b} h => by
    obtain ⟨u, hu⟩ := S.bxn k b h
    obtain ⟨b1, c1, t1, g1, g2, _⟩ := S.bx k u hu
    rw [h] at g1
    cases g1
    exact (Array.getElem?_eq_some_iff.1 g2).1
  have hsz := S.kp.size
  have hsz' := hk.size
  have hbl : b < W'.heap.size := (Array.getElem?_eq_some_iff.1 hc).1
  have hset : ∀ (j : Nat) (o : Ob), (s.objs.set d (.box v))[j]? = some o → (j = d ∧ o = .box v) ∨ (j ≠ d ∧ s.objs[j]? = some o) := fun j o hj => by
    rw [List.getElem?_set] at hj
    by_cases e : d = j
    · subst e
      simp only [if_true] at hj
      split at hj
      · exact .inl ⟨rfl, by simpa using hj.symm⟩
      · cases hj
    · rw [if_neg e] at hj
      exact .inr ⟨fun h => e h.symm, hj⟩
  have hnl : ∀ k v, C.lv k ≠ some (v, true) := fun k v h => hln k v true ((S.ln k v true).1 h)
  refine ⟨C', hle, by simp [C'], rfl, ⟨S.len, fun t x hx => ?_, S.df.imp fun r h1 h2 => ?_, ?_, ?_, ?_, ?_, ?_, fun k v1 b1 lo hi o h => absurd h (hnl k v1), fun k k' v1 v1' b1 lo hi lo' hi' o h => absurd h (hnl k v1), ?_, fun b1 o h => .inl (S.V0V b1 o h), hio, ?_, S.kp.trans hk, S.old0, S.n0, S.hM, fun k x y tr h1 h2 => trivial⟩⟩
  · obtain ⟨u, g1, g2⟩ := S.tm t x hx
    exact ⟨u, g1, g2.mono B.hT hle⟩
  · exact (hk.block r (Array.getElem?_eq_some_iff.1 h2).1 (Cell.io_none S.iok h2 (fun _ _ h => nomatch h)) fun e => e).trans h2
  · intro j u hj
    rcases hset j _ hj with ⟨rfl, e⟩ | ⟨hne, hj⟩
    · cases e
      exact ⟨b, cs, ty, by simp [C'], hc, hl, hr _, by omega⟩
    · obtain ⟨b1, c1, t1, g1, g2, g3, g4, g5⟩ := S.bx j u hj
      exact ⟨b1, c1, t1, hle.box _ _ g1, hold _ _ _ _ g2, g3, Rel.mono B.hT hle g4, g5⟩
  · intro j b1 hj
    by_cases e : j = d
    · subst e
      exact ⟨v, by rw [List.getElem?_set, if_pos rfl, if_pos (List.getElem?_eq_some_iff.1 hd).1]⟩
    · simp only [C', if_neg e] at hj
      obtain ⟨u, hu⟩ := S.bxn j b1 hj
      exact ⟨u, by rw [List.getElem?_set, if_neg (fun h => e h.symm)]; exact hu⟩
  · intro j j' b1 h1 h2
    by_cases e : j = d <;> by_cases e' : j' = d
    · rw [e, e']
    · simp only [C', if_pos e, if_neg e'] at h1 h2
      have := hlt h2
      cases h1
      omega
    · simp only [C', if_neg e, if_pos e'] at h1 h2
      have := hlt h1
      cases h2
      omega
    · simp only [C', if_neg e, if_neg e'] at h1 h2
      exact S.inj _ _ _ h1 h2
  · intro j b1 o h
    by_cases e : j = d
    · simp only [C', if_pos e] at h
      cases h
      exact .inr rfl
    · simp only [C', if_neg e] at h
      exact .inl (S.bxV j b1 o h)
  · intro j v1 al
    show C.lv j = _ ↔ _
    rw [S.ln j v1 al]
    constructor
    · intro h
      exact absurd h (hln j v1 al)
    · intro h
      rcases hset j _ h with ⟨_, e⟩ | ⟨_, h⟩
      · cases e
      · exact h
  · intro b1 o h
    rcases h with h | h
    · exact (S.Vn b1 o h).imp id fun h => ⟨h.1, by omega⟩
    · exact .inr ⟨by omega, by omega⟩
  · intro g u h
    exact Rel.mono B.hT (C := baseCx C.V C.io) (C' := baseCx C'.V C'.io) ⟨hst, (fun _ _ h => by cases h), (fun _ _ _ h => by cases h), hk.io, hk.size⟩ (S.gl g u h)

/-- A slice literal, and where it stands. -/
theorem run_bs {E : Env} {V0 : Nat → Nat → Prop} {io0 : Io} {W0 : World} (hX : CtxOK E X) (S : Sim E V0 io0 W0 C s a W) {o : Oper} {t len e by_ : Nat} {te : Ty} {parts : Array (Nat × Operand)} {l : List te.den} (ho : o.op = .buildSlice t len parts) (he : elOf X.T t = some (te, e, by_))
    (h : decAll te 0 (parts.toList.map fun y => (y.1, evO X s e y.2)) = some l) (hl : l.length = len) (hl1 : len ≤ 1000) (hs1 : te.size ≤ 1000) (hlen : len ≠ 0) : ∃ ds, Flat (CRel C.V W te) l ds ∧ (execOp a.eval o).run E.P W = .ok (.value (.slice (some ⟨W.heap.size, 0, none⟩) len len)) (W.alloc (.cells ds.toArray e)) := by
  obtain ⟨hu, hel⟩ := look_el hX.T he
  obtain ⟨inf, zv, g1, g2, g3, g4, g5, g6⟩ := hel.ex
  have hpos := hel.pos
  have hprod : len * te.size ≤ 1000 * 1000 := Nat.mul_le_mul hl1 hs1
  let cells0 : Array Value := if len * te.size = 0 then (Array.range (len * te.size)).map ((#[] : Array Value)[· % (#[] : Array Value).size]!) else (Array.range (len * te.size)).map (zv.cells[· % zv.cells.size]!)
  have hc0 : cells0.size = len * te.size := by simp only [cells0]; split <;> simp
  obtain ⟨ds, r1, r2⟩ := decAll_rel (E := E) (C := C) (W := W) (pre := []) _ (parts.toList.map fun y => (y.1, a.eval y.2)) 0 l cells0 h (forall2_map _ _ _ fun x => ⟨rfl, S.evO hX _ _⟩) (by rw [hc0, hl]; simp)
  have hds := Flat.length (fun x c h => CRel.length h) r1
  have e1 : (cells0.toList.take (0 * te.size) ++ ds ++ cells0.toList.drop ((0 + l.length) * te.size)) = ds := by
    rw [List.drop_of_length_le (by simp [hc0, hl])]
    simp
  rw [e1] at r2
  refine ⟨ds, r1, ?_⟩
  unfold execOp
  rw [ho]
  refine run_v ?_
  have hpe : (parts.map fun (i, x) => (i, a.eval x)).toList = parts.toList.map fun y => (y.1, a.eval y.2) := by simp
  have hne : ¬ len * inf.size = 0 := by
    rw [g2]
    have := Nat.mul_pos (Nat.pos_of_ne_zero hlen) hpos
    omega
  refine run_buildSlice W t e len _ ds.toArray inf zv hu g1 g4 (by rw [g2]; omega) hne ?_
  rw [hpe, g2, ← r2]
  simp only [cells0]
  rw [if_neg (by rw [← g2]; exact hne)]

/-! Reels lie flat. -/
def sixR (r : Rl) : List Value := [.int .i64 r.1.1, .int .i64 r.1.2, .int .i64 r.2.1.1, .int .i64 r.2.1.2, .int .i64 r.2.2.1, .int .i64 r.2.2.2]
def flatR : List Rl → List Value
  | [] => []
  | r :: l => sixR r ++ flatR l
theorem crel_reel {V : Nat → Nat → Prop} {W : World} {r : Rl} {c : List Value} (h : CRel V W tReel r c) : c = sixR r := by
  simp only [CRel] at h
  obtain ⟨_, _, rfl, ⟨_, _, rfl, rfl, rfl⟩, _, _, rfl, ⟨_, _, rfl, rfl, rfl⟩, _, _, rfl, rfl, rfl⟩ := h
  rfl
theorem crel_reel' {V : Nat → Nat → Prop} {W : World} (r : Rl) : CRel V W tReel r (sixR r) := by
  simp only [CRel]
  exact ⟨[_, _], _, rfl, ⟨[_], [_], rfl, rfl, rfl⟩, [_, _], [_, _], rfl, ⟨[_], [_], rfl, rfl, rfl⟩, [_], [_], rfl, rfl, rfl⟩
theorem flat_reels {V : Nat → Nat → Prop} {W : World} : ∀ {l : List Rl} {cs : List Value}, Flat (CRel V W tReel) l cs → cs = flatR l
  | [], cs, h => h
  | r :: l, cs, ⟨c, d, e, h1, h2⟩ => by rw [e, crel_reel h1, flat_reels h2]; rfl
theorem flat_reels' {V : Nat → Nat → Prop} {W : World} : ∀ (l : List Rl), Flat (CRel V W tReel) l (flatR l)
  | [] => rfl
  | r :: l => ⟨_, _, rfl, crel_reel' r, flat_reels' l⟩

noncomputable def rfTok (x : Fi) (b : Nat) : AV := .agg [.tok 9 tAt ((b : Int), (4 : Int), (4 : Int)), enc tSpan x.2.1, enc tSpan x.2.2.1, .int x.2.2.2]
noncomputable def XM : Ctx := { T := TT, G := GG, C := [(53, g53)], L := [] }
theorem ctxMM : CtxOK Bs.env XM := ctxOK rfl rfl rfl rfl rfl rfl (AllC.cons k53 AllC.nil)

noncomputable def y0 : Code := sub [(0, 0)] (bodyOf Tryd.f59)
noncomputable def y1 : Code := sub [(1, 0), (0, 0)] (bodyOf Tryd.f59)
noncomputable def yops : Array Oper := opsOf y1
theorem y1_eq : y1 = .region 1 yops false := by kernel_rfl
theorem y_body : Tryd.f59.body = some (.seq y0 (.seq y1 .ret)) := by kernel_rfl
noncomputable def yparts : Array (Nat × Operand) := match yops[16]? with | some o => (match o.op with | .buildSlice _ _ p => p | _ => #[]) | none => #[]
theorem y_op : (yops[16]?).map (fun o => (o.op, o.dst, o.guard)) = some (.buildSlice 22 4 yparts, some 17, none) := by kernel_rfl
noncomputable def y_0 : St := ((evC XM 0 y0 (st0 Tryd.f59 []) cap).getD (.norm, ⟨[], []⟩)).2
theorem y_0eq : evC XM 0 y0 (st0 Tryd.f59 []) cap = some (.norm, y_0) := by kernel_rfl
noncomputable def y_1 : St := (steps XM yops.toList (yops.toList.take 16) y_0).getD ⟨[], []⟩
theorem y_1eq : steps XM yops.toList (yops.toList.take 16) y_0 = some y_1 := by kernel_rfl
theorem y_dec : decAll tReel 0 (yparts.toList.map fun y => (y.1, evO XM y_1 66 y.2)) = some filmD.1 := by kernel_rfl
theorem y_no : y_1.objs[17]? = some .none := by kernel_rfl
theorem y_lin : noLinB y_1 = true := by kernel_rfl
noncomputable def y_2 (b : Nat) : St := (⟨y_1.tmps, y_1.objs.set 17 (.box (.arr tReel 4 filmD.1))⟩ : St).put (some 17) (.tok 9 tAt ((b : Int), (4 : Int), (4 : Int)))
noncomputable def y_3 (b : Nat) : St := (steps XM yops.toList (yops.toList.drop 17) (y_2 b)).getD ⟨[], []⟩
theorem y_3eq (b : Nat) : steps XM yops.toList (yops.toList.drop 17) (y_2 b) = some (y_3 b) := by kernel_rfl
theorem y_fin (b : Nat) : resAV XM Tryd.f59 (y_3 b) = some (rfTok filmD b) := by kernel_rfl
theorem y_box (b : Nat) : (y_3 b).objs[17]? = some (.box (.arr tReel 4 filmD.1)) := by kernel_rfl
theorem y_size : yops.size = 21 := by kernel_rfl
theorem y_dst : ((yops.toList.drop 17).all fun o => match o.dst with | some d => !decide (d = 17) | none => true) = true := by kernel_rfl

theorem tok_at (C : Cx) (W : World) (b : Nat) : VR TRr C W (.tok 9 tAt ((b : Int), (4 : Int), (4 : Int))) (.slice (some ⟨b, 0, none⟩) 4 4) := by
  refine .inr ⟨[.slice (some ⟨b, 0, none⟩) 4 4], rfl, ?_, rfl⟩
  simp only [Rel]
  exact ⟨_, rfl, (b : Int), 4, 4, rfl, by simp⟩

theorem rfTok_any {C C' : Cx} {W W' : World} {x : Fi} {b : Nat} {v : Value} (h : VR TRr C W (rfTok x b) v) : VR TRr C' W' (rfTok x b) v := by
  rcases h with h | ⟨cs, q1, q2, q3⟩
  · cases h
  · refine .inr ⟨cs, q1, ?_, q3⟩
    simp only [rfTok, enc, encT, Rel, RelL] at q2 ⊢
    exact q2

/-- The film, and where its reels stand. -/
theorem call59 {V : Nat → Nat → Prop} {io : Io} {W : World} (hb : BaseOK Bs V io W) : Calls Tryd.prog 59 #[] W fun e W' => ∃ v io' b ty, e = .returned v ∧ VR TRr (baseCx V io') W' (rfTok filmD b) v ∧ Keep noM io io' W W' ∧ IoOK MIr io' W' ∧ W.heap.size ≤ b ∧ W'.heap[b]? = some (.cells (flatR filmD.1).toArray ty (0, 0)) := by
  have S0 := st0_sim (E := Bs.env) (args := []) (vs := []) hb (by simp [RelV]) Tryd.f59 (Nat.zero_le _) fun b hm => hm.elim
  refine calls_of_fr (ro := none) (callsIn_of_wp_marks (F := Fr none) Tryd.func59 y_body trivial ?_)
  refine wpIn_seq (piece (E := Bs.env) ctxMM 0 y_0eq S0 fun C1 a1 W1 S1 f1 => ?_)
  refine wpIn_seq ?_
  rw [y1_eq]
  refine wpIn_region ?_
  rw [y_size, show List.range 21 = List.range' 0 (yops.toList.take 16).length ++ (16 :: (List.range' 17 (yops.toList.drop 17).length ++ [])) from by
    have e1 : (yops.toList.take 16).length = 16 := by simp [y_size]
    have e2 : (yops.toList.drop 17).length = 4 := by simp [y_size]
    rw [e1, e2]
    rfl]
  refine wpOps_stepsF (E := Bs.env) ctxMM none (D := fun _ => True) _ 0 y_0 y_1 C1 a1 W1 (fun j hj => ?_) y_1eq S1 (fun _ _ _ _ => trivial) (Fm.refl _ _ _ _ _) fun C2 a2 W2 S2 f2 => ?_
  · have : j < 16 := by simp at hj; omega
    simp [List.getElem?_take, this]
  · obtain ⟨o, ho, p1, p2, p3⟩ := op_of y_op
    obtain ⟨ds, hflat, hrun⟩ := run_bs (E := Bs.env) ctxMM S2 p1 (te := tReel) (e := 66) (by_ := 48) (by kernel_rfl) y_dec rfl (by decide) (by decide) (by decide)
    have hds := flat_reels hflat
    subst hds
    rw [wpOpsIn_cons]
    refine hand_value ho p3 hrun ?_
    rw [p2]
    obtain ⟨C3, c1, c2, c3, S3⟩ := S2.adopt (noLinB_ok y_lin) (Keep.alloc C2.io W2 _) (S2.iok.alloc _) y_no (Nat.le_refl _) (cs := (flatR filmD.1).toArray) (ty := 66) (heap_alloc_new' W2 _) (v := .arr tReel 4 filmD.1) (by kernel_rfl) (fun C => by simp only [Rel]; exact ⟨rfl, flat_reels' _⟩)
    have S4 := S3.put (some 17) (tok_at C3 _ W2.heap.size)
    refine wpOps_stepsF (E := Bs.env) ctxMM none (D := fun k => k ≠ 17) _ 17 (y_2 W2.heap.size) (y_3 W2.heap.size) C3 _ _ (fun j hj => by simp) (y_3eq _) S4 (fun o ho k hk e => ?_) (Fm.refl _ _ _ _ _) fun C5 a5 W5 S5 f5 => ?_
    · have := List.all_eq_true.1 y_dst o ho
      rw [hk] at this
      simp [e] at this
    · show Exit.then _ _ .normal a5 W5
      refine wpIn_ret ?_
      refine leave_ok S5 fun a6 W6 ht S6 => ?_
      obtain ⟨v, hv, hvr⟩ := resAV_ok (E := Bs.env) ctxMM S6 (y_fin _)
      obtain ⟨b1, cs, ty, g1, g2, g3, g4, g5⟩ := S6.bx 17 _ (y_box _)
      have hb1 : b1 = W2.heap.size := by
        have := f5.bx 17 b1 (fun h => h rfl) g1
        rw [c2] at this
        cases this
        rfl
      subst hb1
      have hcs : cs = (flatR filmD.1).toArray := by
        simp only [Rel] at g4
        apply Array.ext'
        rw [flat_reels g4.2]
      subst hcs
      exact ⟨v, hv, v, C5.io, W2.heap.size, ty, rfl, hvr, S6.kp, S6.iok, g5, g2⟩


noncomputable def x0 : Code := sub [(0, 0)] (bodyOf Tryd.f60)
noncomputable def x1 : Code := sub [(1, 0), (0, 0)] (bodyOf Tryd.f60)
noncomputable def x2 : Code := sub [(1, 0), (1, 0), (0, 0)] (bodyOf Tryd.f60)
noncomputable def x3 : Code := sub [(1, 0), (1, 0), (1, 0), (0, 0)] (bodyOf Tryd.f60)
noncomputable def xo1 : Array Oper := opsOf x1
noncomputable def xo2 : Array Oper := opsOf x2
theorem x1_eq : x1 = .region 1 xo1 false := by kernel_rfl
theorem x2_eq : x2 = .region 2 xo2 true := by kernel_rfl
theorem x_body : Tryd.f60.body = some (.seq x0 (.seq x1 (.seq x2 (.seq x3 .ret)))) := by kernel_rfl
theorem x_call : (xo1[0]?).map (fun o => (o.op, o.dst, o.guard)) = some (.call { callee := .value (.func 59), args := #[], argTypes := #[] }, some 2, none) := by kernel_rfl
theorem x_idx : (xo2[3]?).map (fun o => (o.op, o.dst, o.guard)) = some (.indexAddr 22 (.tmp 4) (.const (.int .i64 1)), some 6, none) := by kernel_rfl
theorem x_size1 : xo1.size = 3 := by kernel_rfl
theorem x_size2 : xo2.size = 6 := by kernel_rfl
noncomputable def x_0 : St := ((evC XM 0 x0 (st0 Tryd.f60 []) cap).getD (.norm, ⟨[], []⟩)).2
theorem x_0eq : evC XM 0 x0 (st0 Tryd.f60 []) cap = some (.norm, x_0) := by kernel_rfl
theorem x_no : x_0.objs[2]? = some .none := by kernel_rfl
theorem x_lin : noLinB x_0 = true := by kernel_rfl
noncomputable def x_1 (b : Nat) : St := (⟨x_0.tmps, x_0.objs.set 2 (.box (.arr tReel 4 filmD.1))⟩ : St).put (some 2) (rfTok filmD b)
noncomputable def x_2 (b : Nat) : St := (steps XM xo1.toList (xo1.toList.drop 1) (x_1 b)).getD ⟨[], []⟩
theorem x_2eq (b : Nat) : steps XM xo1.toList (xo1.toList.drop 1) (x_1 b) = some (x_2 b) := by kernel_rfl
noncomputable def x_3 (b : Nat) : St := (((x_2 b).put (some 3) (.ref 1 [.fld 0 0])).put (some 4) (.tok 9 tAt ((b : Int), (4 : Int), (4 : Int)))).put (some 5) (enc tSpan (mk2 5 6))
theorem x_3eq (b : Nat) : collectH XM .any xo2 3 6 (Array.replicate 6 false) (x_2 b) = some [(3, #[true, true, true, false, false, false], x_3 b), (3, #[true, true, true, false, false, false], x_3 b), (3, #[true, true, true, false, false, false], x_3 b)] := by kernel_rfl
theorem x_4tok (b : Nat) : (x_3 b).tmps[4]? = some (.tok 9 tAt ((b : Int), (4 : Int), (4 : Int))) := by kernel_rfl
def not2 (d : Option Nat) : Bool := match d with | some d => !decide (d = 2) | none => true
noncomputable def xstp (i : Nat) (_ : Array Bool) (s : St) : Option St := match xo2[i]? with
  | some o => if not2 o.dst = true then st1 XM xo2.toList s o else none
  | none => none
noncomputable def x_4 (b : Nat) : St := (x_3 b).put (some 6) (.ref 2 [.idx 1 6 4])
noncomputable def x_5 (b : Nat) : St := ⟨((x_4 b).put (some 7) (.ref 2 [.idx 1 6 4, .fld 1 2])).tmps, (x_4 b).objs.set 2 (.box (.arr tReel 4 mixedD.1))⟩
theorem x_5eq (b : Nat) : collectG .any xo2 xstp (fun _ => true) 2 #[true, true, true, true, false, false] (x_4 b) = some [x_5 b] := by kernel_rfl
theorem x_ready : Region.ready .any xo2 #[true, true, true, false, false, false] = [3] := by kernel_rfl
noncomputable def x_6 (b : Nat) : St := ((evC XM 0 x3 (x_5 b) cap).getD (.norm, ⟨[], []⟩)).2
theorem x_6eq (b : Nat) : evC XM 0 x3 (x_5 b) cap = some (.norm, x_6 b) := by kernel_rfl
theorem x_6r (b : Nat) : (x_6 b).tmps[0]? = some (.ref 0 []) := by kernel_rfl
theorem x_6a (b : Nat) : (x_6 b).objs[0]? = some (.box (rfTok filmD b)) := by kernel_rfl
theorem x_6b (b : Nat) : (x_6 b).objs[2]? = some (.box (.arr tReel 4 mixedD.1)) := by kernel_rfl
theorem x_fin (b : Nat) : finK XM Tryd.f60 .ret ((⟨frL (x_6 b).objs (x_6 b).tmps, List.replicate (x_6 b).tmps.length .none⟩ : St).put (some 0) (.cref (enc tRF mixedD) [])) = some (enc tRF mixedD) := by kernel_rfl
theorem x_d1 : ((xo1.toList.drop 1).all fun o => match o.dst with | some d => !decide (d = 2) | none => true) = true := by kernel_rfl
theorem x_d2 : (xo2.toList.all fun o => match o.dst with | some d => !decide (d = 2) | none => true) = true := by kernel_rfl
theorem x_d3 : memN (dsts x3) 2 = false := by kernel_rfl

noncomputable def g60 : List AV → Option (Bool × AV)
  | [] => some (true, enc tRF mixedD)
  | _ => none

theorem k60 : Good 60 g60 := by
  refine ⟨ctr_hand (B := Bs) Tryd.func60 x_body fun args r hg V io W vs a hd0 hb hr S => ?_, Tryd.f60, Tryd.func60, by kernel_rfl, by kernel_rfl⟩
  unfold g60 at hg
  split at hg
  · cases hg
    refine ⟨XM, enc tRF mixedD, ctxMM, wk_enc _ _, fun Q hQ => ?_⟩
    refine wpIn_seq (piece (E := Bs.env) ctxMM 0 x_0eq S fun C1 a1 W1 S1 f1 => ?_)
    refine wpIn_seq ?_
    rw [x1_eq]
    refine wpIn_region ?_
    rw [x_size1, show List.range 3 = 0 :: (List.range' 1 (xo1.toList.drop 1).length ++ []) from by
      have e2 : (xo1.toList.drop 1).length = 2 := by simp [x_size1]
      rw [e2]
      rfl]
    obtain ⟨o, ho, p1, p2, p3⟩ := op_of x_call
    rw [wpOpsIn_cons]
    have hrun : (execOp a1.eval o).run Bs.P W1 = .ok (.enter 59 #[]) W1 := by
      unfold execOp
      rw [p1]
      have hfn := Tryd.func59
      have hbody : Tryd.f59.body.isNone = false := by kernel_rfl
      have hname : (Tryd.f59.name == "runtime.NumGoroutine") = false := by kernel_rfl
      have ev : a1.eval (.func 59) = .func (.func 59) #[] #[] := rfl
      have hfn' : Bs.P.funcs[59]? = some Tryd.f59 := hfn
      simp only [Sem.run_bind, resolve, ev, Deferred.ofValue, Sem.run_pure, Result.andThen_ok, invoke, callFunc, run_program, hfn', hbody, hname, Bool.false_eq_true, if_false]
      simp
    unfold wpOpIn
    simp only [ho]
    have hw : Region.wanted o (yielded xo1 a1.tmps) = true := by simp [Region.wanted, p3]
    rw [if_pos hw]
    refine ⟨fun _ _ => trivial, ?_⟩
    rw [semAt_fr _ hrun (fun _ h => nomatch h), hrun, Oper.uponIn_enter]
    refine ⟨(fun h => nomatch h), CallsIn.mono (callsIn_fr (call59 S1.base)) ?_⟩
    rintro e W2 ⟨v, io2, b, ty, rfl, hv, hk, hio, hbW, hcell⟩
    obtain ⟨C2, c1, c2, c3, S2⟩ := S1.adopt (noLinB_ok x_lin) hk hio x_no hbW hcell (v := .arr tReel 4 filmD.1) (by kernel_rfl) (fun C => by simp only [Rel]; exact ⟨rfl, flat_reels' _⟩)
    have hv2 : VR TRr C2 W2 (rfTok filmD b) v := rfTok_any hv
    have S3 := S2.put (some 2) hv2
    show wpOpsIn (Fr none) 0 Tryd.prog xo1 _ _ (a1.put o.dst v) W2
    rw [p2]
    refine wpOps_stepsF (E := Bs.env) ctxMM none (D := fun k => k ≠ 2) _ 1 (x_1 b) (x_2 b) C2 _ _ (fun j hj => by simp [Nat.add_comm]) (x_2eq b) S3 (fun o ho k hk e => ?_) (Fm.refl _ _ _ _ _) fun C4 a4 W4 S4 f4 => ?_
    · have := List.all_eq_true.1 x_d1 o ho
      rw [hk] at this
      simp [e] at this
    · refine wpIn_seq ?_
      have hbox4 : ∀ b', C4.box 2 = some b' → b' = b := fun b' h => by
        have := f4.bx 2 b' (fun h => h rfl) h
        rw [c2] at this
        cases this
        rfl
      rw [x2_eq]
      refine wpIn_region_any mixed ?_
      have S5 := (S4.keep (Keep.drew C4.io W4) (IoOK.drew S4.iok)).2
      rw [x_size2]
      refine collect_ok (E := Bs.env) ctxMM none (D := fun k => k ≠ 2) (fun o ho k hk e => ?_) 6 _ (x_2 b) _ _ _ _ (x_3eq b) S5 (Fm.refl _ _ _ _ _) fun y hy C6 a6 W6 S6 f6 => ?_
      · have := List.all_eq_true.1 x_d2 o ho
        rw [hk] at this
        simp [e] at this
      · have hy' : y = (3, #[true, true, true, false, false, false], x_3 b) := by
          simp only [List.mem_cons, List.not_mem_nil, or_false] at hy
          rcases hy with rfl | rfl | rfl <;> rfl
        subst hy'
        have hbox6 : ∀ b', C6.box 2 = some b' → b' = b := fun b' h => hbox4 b' (f6.bx 2 b' (fun h => h rfl) h)
        have hb6 : C6.box 2 = some b := by
          obtain ⟨b', _, _, h, _⟩ := S6.bx 2 (.arr tReel 4 filmD.1) (show (x_3 b).objs[2]? = _ by kernel_rfl)
          rw [h, hbox6 b' h]
        refine ⟨(fun h0 => by rw [x_ready] at h0; cases h0), fun i hi => ?_⟩
        rw [x_ready] at hi
        simp only [List.mem_singleton] at hi
        subst hi
        obtain ⟨o3, ho3, r1, r2, r3⟩ := op_of x_idx
        obtain ⟨v4, hv4, hr4⟩ := S6.tm 4 _ (x_4tok b)
        have e4 : v4 = .slice (some ⟨b, 0, none⟩) 4 4 := by
          rcases hr4 with h | ⟨cs, _, h, h2⟩
          · cases h
          · simp only [Rel] at h
            obtain ⟨v, rfl, b', n', c', he, rfl⟩ := h
            cases he
            simpa [mkV, isAg] using h2
        subst e4
        have hT : TblOK Bs TT := chkAll_ok (B := Bs) rfl chkTT
        obtain ⟨hu, hel⟩ := look_el (E := Bs.env) (X := XM) hT (show elOf XM.T 22 = some (tReel, 66, 48) by kernel_rfl)
        obtain ⟨inf, zv, g1, g2, _⟩ := hel.ex
        have g2' : inf.size = 6 := g2
        refine hand_value ho3 r3 (v := .pointer (some ⟨b, 6, none⟩)) (W' := W6) ?_ ?_
        · unfold execOp
          rw [r1]
          refine run_v ?_
          rw [eval_tmp hv4, show a6.eval (.const (.int .i64 1)) = .int .i64 1 from rfl]
          have hu' : Bs.env.P.underlying 22 = some (.slice 66) := hu
          have g1' : Bs.env.P.info? 66 = some inf := g1
          simp [Instr.indexAt, asIntOf, run_underlying hu', run_sizeOf' (E := Bs.env) g1', g2', Addr.add]
        · rw [r2]
          have S7 : Sim Bs.env V io W C6 (x_4 b) (a6.put (some 6) (.pointer (some ⟨b, 6, none⟩))) W6 := S6.put (some 6) (by
            refine .inr ⟨[.pointer (some ⟨b, 6, none⟩)], rfl, ?_, rfl⟩
            simp only [Rel]
            refine ⟨b, hb6, fun y hy => ?_, rfl⟩
            simp only [List.mem_singleton] at hy
            subst hy
            exact ⟨by decide, by decide⟩)
          refine collectG_ok (P := Tryd.prog) (ro := none) (stp := xstp) (fin := fun _ => true) (fun listed s a W' => ∃ C, Sim Bs.env V io W C s a W' ∧ ∀ b', C.box 2 = some b' → b' = b) (fun i listed s s1 h a W hJ K hK => ?_) 2 _ (x_4 b) _ (x_5eq b) _ _ ⟨C6, S7, hbox6⟩ fun s' hs' listed' a7 W7 _ hJ => ?_
          · obtain ⟨C8, S8, hb8⟩ := hJ
            unfold xstp at h
            split at h
            · rename_i o8 ho8
              split at h
              · rename_i hd8
                refine wpOp_of_step (E := Bs.env) (st1_ok ctxMM h) S8 ho8 none fun C9 a9 W9 S9 f9 => hK _ _ ⟨C9, S9, fun b' hb' => hb8 b' (f9.bx 2 b' (fun e => ?_) hb')⟩
                rw [e] at hd8
                simp [not2] at hd8
              · cases h
            · cases h
          · obtain ⟨C8, S8, hb8⟩ := hJ
            simp only [List.mem_singleton] at hs'
            subst hs'
            show Exit.then _ _ .normal a7 W7
            refine wpIn_seq (piece (E := Bs.env) ctxMM 0 (x_6eq b) S8 fun C9 a9 W9 S9 f9 => ?_)
            refine wpIn_ret ?_
            have hb9 : C9.box 2 = some b := by
              obtain ⟨b', _, _, h, _⟩ := S9.bx 2 _ (x_6b b)
              rw [h, hb8 b' (f9.bx 2 b' (memN_iff x_d3) h)]
            obtain ⟨b0, cs0, ty0, q1, q2, q3, q4, q5⟩ := S9.bx 0 _ (x_6a b)
            obtain ⟨b2, cs2, ty2, u1, u2, u3, u4, u5⟩ := S9.bx 2 _ (x_6b b)
            rw [hb9] at u1
            cases u1
            obtain ⟨v0, w1, w2⟩ := S9.tm 0 _ (x_6r b)
            obtain ⟨b0', w3, _, rfl⟩ := w2.ref_inv
            rw [q1] at w3
            cases w3
            have hcs2 : cs2.toList = flatR mixedD.1 := by
              simp only [Rel] at u4
              exact flat_reels u4.2
            have hVn : ∀ b1 o, W.heap.size ≤ b1 → ¬ V b1 o := fun b1 o h1 h2 => by
              have : b1 < W.heap.size := hb.old b1 o h2
              omega
            have hrel : Rel TRr (baseCx V C9.io) W9 (enc tRF mixedD) cs0.toList := by
              simp only [rfTok, Rel, RelL] at q4
              obtain ⟨c1, d1, e1, l1, ⟨v1, rfl, bb, nn, cc, he, rfl⟩, c2', d2, rfl, l2, r2', c3', d3, rfl, l3, r3', c4', d4, rfl, l4, rfl, rfl⟩ := q4
              cases he
              rw [e1]
              simp only [enc, encT, Rel, RelL] at r2' r3' ⊢
              refine ⟨_, _, rfl, rfl, ⟨_, 4, rfl, by decide, ?_, (fun h => nomatch h), (fun h => nomatch h), fun k v h => nomatch h⟩, _, _, rfl, l2, r2', _, _, rfl, l3, r3', _, _, rfl, rfl, rfl, rfl⟩
              exact row_of_flat (t := tReel) (ds := flatR mixedD.1) (flat_reels' _) u2 (fun i v hv => by rw [← hcs2] at hv; simpa using hv) (fun o _ => hVn _ _ u5)
            have S10 := S9.toBase
            have S11 := S10.tell (k := 0) (x := .cref (enc tRF mixedD) []) w1 (by
              refine .inr ⟨[.pointer (some ⟨b0, 0, none⟩)], rfl, ?_, rfl⟩
              simp only [Rel]
              refine ⟨⟨b0, 0, none⟩, cs0.toList, hrel, fun i v hv => ?_, (fun y hy => by simp at hy), by simp [offP, add_zero]⟩
              have e : (⟨b0, 0, none⟩ : Addr).add i = ⟨b0, i, none⟩ := by unfold Addr.add; split <;> simp_all
              rw [e]
              refine ⟨?_, hVn _ _ q5⟩
              unfold World.cell?
              simp only [q2]
              simpa using hv)
            exact hQ .ret _ (x_fin b) W io (Keep.refl _ _ _) _ a9 W9 S11
  · cases hg

end Ev
end Go.Proofs.YtidnikjkpbmhhaaDoor
