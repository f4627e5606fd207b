/- Literals, make, calls, operators. -/
import Derived.Test.YtidnikjkpbmhhaaDoorStep3
import Derived.Laws.Tables
import Derived.Great.BuildSlice
import Derived.Laws.MakeOwn
import Derived.Laws.StructEq
set_option linter.unusedVariables false
namespace Go.Proofs.YtidnikjkpbmhhaaDoor
namespace Ev

variable {E : Env} {V0 : Nat → Nat → Prop} {io0 : Io} {W0 : World} {C : Cx} {s : St} {a : Act} {W : World} {X : Ctx} {o : Oper}

inductive All2 {α β : Type} (R : α → β → Prop) : List α → List β → Prop where
  | nil : All2 R [] []
  | cons {x : α} {y : β} {l : List α} {m : List β} : R x y → All2 R l m → All2 R (x :: l) (y :: m)

theorem foldl_set (off : Nat) : ∀ (vs : List Value) (k : Nat) (cs : Array Value), off + k + vs.length ≤ cs.size →
    ((vs.zipIdx k).foldl (fun cs x => cs.setIfInBounds (off + x.2) x.1) cs).toList = cs.toList.take (off + k) ++ vs ++ cs.toList.drop (off + k + vs.length)
  | [], k, cs, h => by simp
  | v :: vs, k, cs, h => by
    simp only [List.length_cons] at h
    rw [List.zipIdx_cons, List.foldl_cons, foldl_set off vs (k + 1) _ (by simp; omega)]
    have := list_seg_step cs.toList (off + k) v vs (by simp; omega)
    simpa [Array.toList_setIfInBounds, Nat.add_assoc, Nat.add_comm, Nat.add_left_comm] using this

theorem fill_cons {place : Nat → Option (Nat × Nat)} {cells : Array Value} {i off sz : Nat} {v : Value} {rest : List (Nat × Value)} {ds : List Value} (hp : place i = some (off, sz)) (hv : v.cells = ds.toArray) (hs : ds.length = sz) (hf : off + sz ≤ cells.size) :
    Instr.fill place cells ((i, v) :: rest) = Instr.fill place (cells.toList.take off ++ ds ++ cells.toList.drop (off + sz)).toArray rest := by
  have h1 : ¬ (v.cells.size ≠ sz ∨ off + v.cells.size > cells.size) := by
    rw [hv]
    simp
    omega
  rw [Instr.fill]
  simp only [hp]
  rw [if_neg (by simpa using h1)]
  congr 1
  apply Array.ext'
  rw [hv, ← Array.foldl_toList, Array.toList_zipIdx]
  have := foldl_set off ds 0 cells (by omega)
  simp only [Nat.add_zero] at this
  rw [hs] at this
  simpa using this

/-- Parts of a struct literal. -/
theorem setAll_rel (hT : TblOK E.toBase X.T) {i : Ti} {t : Nat} (hi : TiOK E.toBase t i) (hn : i.ar = none) {pl : List (Nat × Nat)}
    (hpl : ∀ (f off ft : Nat), i.flds[f]? = some (off, ft) → ∃ inf, E.P.info? ft = some inf ∧ pl[f]? = some (off, inf.size)) :
    ∀ (parts : List (Nat × AV)) (vals : List (Nat × Value)) (l l' : List AV) (cs : List Value), RelL E.TR C W l cs → setAll X.T i.flds l parts = some l' → All2 (fun x y => x.1 = y.1 ∧ VR E.TR C W x.2 y.2) parts vals →
      ∃ cs', Instr.fill (pl.toArray[·]?) cs.toArray vals = some cs'.toArray ∧ RelL E.TR C W l' cs'
  | [], _, l, l', cs, hr, h, hv => by
    cases hv
    simp only [setAll] at h
    cases h
    exact ⟨cs, rfl, hr⟩
  | (j, v) :: parts, _, l, l', cs, hr, h, hv => by
    cases hv with
    | @cons _ y _ vals hv1 hv2 =>
    obtain ⟨j', x⟩ := y
    obtain ⟨e0, hx⟩ := hv1
    replace e0 : j = j' := e0
    replace hx : VR E.TR C W v x := hx
    subst e0
    simp only [setAll] at h
    split at h
    · rename_i u off ft hu hf
      split at h
      · rename_i fi hfi
        split at h
        · rename_i hc
          obtain ⟨h1, h2, h3, h4⟩ := hc
          obtain ⟨inf, g1, g2⟩ := hpl j off ft hf
          obtain ⟨inf', g3, g4⟩ := (hT ft fi hfi).sz
          rw [g1] at g3
          cases g3
          rcases hx with hx | ⟨ds, hl, hd, hx⟩
          · subst hx
            simp [clean] at h4
          · have hcl := mkV_cells E.hT h4 hd
            obtain ⟨A, c, B, q1, q2, q3, q4⟩ := relL_split hr j u hu
            obtain ⟨q5, q6⟩ := q4 v ds h1.symm hd
            have hcl' := q3.len
            obtain ⟨cs', r1, r2⟩ := setAll_rel hT hi hn hpl parts vals (l.set j v) l' (A ++ ds ++ B) q5 h hv2
            refine ⟨cs', ?_, r2⟩
            rw [fill_cons (off := off) (sz := inf.size) (ds := ds) (by simpa using g2) (by rw [hx]; exact hcl) (by omega) (by rw [q1]; simp; omega)]
            rw [← r1]
            congr 2
            have e1 : off = A.length := by omega
            have e2 : inf.size = c.length := by omega
            rw [q1, e1, e2]
            simp [List.drop_append]
        · cases h
      · cases h
    · cases h

theorem forall2_map {α β γ : Type} {R : β → γ → Prop} (f : α → β) (g : α → γ) : ∀ (l : List α), (∀ x, R (f x) (g x)) → All2 R (l.map f) (l.map g)
  | [], _ => .nil
  | x :: l, h => .cons (h x) (forall2_map f g l h)

theorem op_build (hX : CtxOK E X) (S : Sim E V0 io0 W0 C s a W) {t : Nat} {parts : Array (Nat × Operand)} {i : Ti} {z l : List AV} (ho : o.op = .build t parts) (hi : look X.T t = some i) (hz : i.zero = some (.agg z)) (hn : i.ar = none)
    (hf : i.flds ≠ []) (h : setAll X.T i.flds z (parts.toList.map fun y => (y.1, evO X s (fieldT i.flds y.1) y.2)) = some l) : OpOK E V0 io0 W0 C o s a W (.agg l) s.objs := by
  have hti := hX.T t i hi
  obtain ⟨inf, v, h1, h2, h3, h4, hcz, h5⟩ := hti.zero _ hz
  obtain ⟨cs, q1, q2, q3⟩ := h5 C W
  obtain ⟨fs, pl, w1, w2, w3⟩ := hti.bld hn hf
  simp only [Rel] at q2
  obtain ⟨cs', r1, r2⟩ := setAll_rel hX.T hti hn w3 _ (parts.toList.map fun y => (y.1, a.eval y.2)) z l cs q2 h (forall2_map _ _ _ fun x => ⟨rfl, S.evO hX _ _⟩)
  refine OpOK.pure S (x := .agg cs'.toArray) ?_ (.inr ⟨cs', (show Rel E.TR C W (.agg l) cs' by simp only [Rel]; exact r2).len, by simp only [Rel]; exact r2, rfl⟩)
  unfold execOp
  rw [ho]
  refine run_v ?_
  refine run_build W t _ _ ?_
  unfold Program.built
  have e : v.cells = cs.toArray := by rw [q3]; simp [mkV, isAg, Value.cells]
  simp only [h1, w1, h2, w2, e]
  rw [← r1]
  congr 1
  simp

/-- All places of an array or slice, one behind the other. -/
theorem decAll_rel {te : Ty} {pre : List Value} : ∀ (parts : List (Nat × AV)) (vals : List (Nat × Value)) (k : Nat) (l : List te.den) (cells : Array Value), decAll te k parts = some l → All2 (fun x y => x.1 = y.1 ∧ VR E.TR C W x.2 y.2) parts vals →
    (k + l.length) * te.size ≤ cells.size → ∃ ds, Flat (CRel C.V W te) l ds ∧ Instr.fill (fun i => some (i * te.size, te.size)) cells vals = some (cells.toList.take (k * te.size) ++ ds ++ cells.toList.drop ((k + l.length) * te.size)).toArray
  | [], _, k, l, cells, h, hv, hs => by
    cases hv
    simp only [decAll] at h
    cases h
    refine ⟨[], rfl, ?_⟩
    simp [Instr.fill]
  | (j, v) :: parts, _, k, l, cells, h, hv, hs => by
    cases hv with
    | @cons _ y _ vals hv1 hv2 =>
    obtain ⟨j', x⟩ := y
    obtain ⟨e0, hx⟩ := hv1
    replace e0 : j = j' := e0
    replace hx : VR E.TR C W v x := hx
    subst e0
    simp only [decAll] at h
    split at h
    · rename_i hj
      subst hj
      split at h
      · rename_i d r hd hr
        cases h
        have hx' : ∃ cx, CRel C.V W te d cx ∧ x.cells = cx.toArray := by
          rcases hx with hx | ⟨cx, hl, hx, e⟩
          · subst hx
            cases te <;> simp [dec] at hd
          · have hc := dec_rel hd hx
            refine ⟨cx, hc, ?_⟩
            rw [e]
            unfold mkV
            cases ha : isAg v with
            | true => simp [Value.cells]
            | false =>
              have hl1 := hx.len
              rw [size_one ha] at hl1
              match cx, hl1, hc with
              | [u], _, hc =>
                have := crel_one hc u (by simp)
                cases u <;> simp_all [Value.cells, Value.oneCell']
        obtain ⟨cx, hc, hxc⟩ := hx'
        have hcl := CRel.length hc
        simp only [List.length_cons] at hs
        have e1 : j * te.size + te.size = (j + 1) * te.size := by rw [Nat.add_mul, Nat.one_mul]
        have e2 : (j + (r.length + 1)) * te.size = (j + 1) * te.size + r.length * te.size := by rw [← Nat.add_mul]; congr 1; omega
        have hsz : (cells.toList.take (j * te.size) ++ cx ++ cells.toList.drop (j * te.size + te.size)).toArray.size = cells.size := by
          simp
          omega
        obtain ⟨ds, q1, q2⟩ := decAll_rel (pre := pre) parts vals (j + 1) r (cells.toList.take (j * te.size) ++ cx ++ cells.toList.drop (j * te.size + te.size)).toArray hr hv2 (by rw [hsz, Nat.add_mul]; omega)
        refine ⟨cx ++ ds, ⟨cx, ds, rfl, hc, q1⟩, ?_⟩
        rw [fill_cons (off := j * te.size) (sz := te.size) (ds := cx) rfl hxc hcl (by omega), q2]
        congr 2
        have hA : (cells.toList.take (j * te.size)).length = j * te.size := by simp; omega
        have t1 : (cells.toList.take (j * te.size) ++ cx ++ cells.toList.drop (j * te.size + te.size)).take ((j + 1) * te.size) = cells.toList.take (j * te.size) ++ cx := by
          rw [List.take_append_of_le_length (by simp [hcl]; omega), List.take_of_length_le (by simp [hcl]; omega)]
        have t2 : (cells.toList.take (j * te.size) ++ cx ++ cells.toList.drop (j * te.size + te.size)).drop ((j + 1 + r.length) * te.size) = cells.toList.drop ((j + (r.length + 1)) * te.size) := by
          have hAB : (cells.toList.take (j * te.size) ++ cx).length = (j + 1) * te.size := by simp [hcl]; omega
          have e3 : (j + 1 + r.length) * te.size = (cells.toList.take (j * te.size) ++ cx).length + r.length * te.size := by rw [hAB, ← Nat.add_mul]
          rw [e3, List.drop_length_add_append, List.drop_drop]
          congr 1
          rw [e2]
          omega
        simp only [List.length_cons] at *
        rw [t1, t2]
        simp
      · cases h
    · cases h

theorem op_buildArr (hX : CtxOK E X) (S : Sim E V0 io0 W0 C s a W) {t n tid : Nat} {te te' : Ty} {m : Nat} {xs : List te'.den} {parts : Array (Nat × Operand)} {i : Ti} {l : List te.den} (ho : o.op = .build t parts) (hi : look X.T t = some i) (hz : i.zero = some (.arr te' m xs)) (hn : i.ar = some (n, te, tid))
    (h : decAll te 0 (parts.toList.map fun y => (y.1, evO X s tid y.2)) = some l) (hl : l.length = n) (hsz : i.sz = n * te.size) : OpOK E V0 io0 W0 C o s a W (.arr te n l) s.objs := by
  have hti := hX.T t i hi
  obtain ⟨inf, v, h1, h2, h3, h4, hcz, h5⟩ := hti.zero _ hz
  obtain ⟨cs, q1, q2, q3⟩ := h5 C W
  obtain ⟨ie, d, w1, w2, w3, w4, w5⟩ := hti.ar n te tid hn
  have hcs : cs.length = n * te.size := by rw [q1, h3, hsz]
  obtain ⟨ds, r1, r2⟩ := decAll_rel (E := E) (C := C) (W := W) (pre := []) _ (parts.toList.map fun y => (y.1, a.eval y.2)) 0 l cs.toArray h (forall2_map _ _ _ fun x => ⟨rfl, S.evO hX _ _⟩) (by simp [hl, hcs])
  have e : v.cells = cs.toArray := by rw [q3]; simp [mkV, isAg, Value.cells]
  have hr : Rel E.TR C W (.arr te n l) ds := by simp only [Rel]; exact ⟨hl, r1⟩
  refine OpOK.pure S (x := .agg ds.toArray) ?_ (.inr ⟨ds, hr.len, hr, rfl⟩)
  unfold execOp
  rw [ho]
  refine run_v ?_
  refine run_build W t _ _ ?_
  unfold Program.built
  simp only [h1, w1, h2, w2, e, w3]
  have : (cs.toArray.toList.take (0 * te.size) ++ ds ++ cs.toArray.toList.drop ((0 + l.length) * te.size)) = ds := by
    simp [hl, ← hcs]
  rw [this] at r2
  rw [← r2]
  congr 1
  simp

theorem op_buildSlice (hX : CtxOK E X) (S : Sim E V0 io0 W0 C s a W) {t len e by_ : Nat} {te : Ty} {parts : Array (Nat × Operand)} {l : List te.den} (ho : o.op = .buildSlice t len parts) (he : elOf X.T t = some (te, e, by_))
    (h : decAll te 0 (parts.toList.map fun y => (y.1, evO X s e y.2)) = some l) (hl : l.length = len) (hl1 : len ≤ 1000) (hs1 : te.size ≤ 1000) (z : Bool) (hz : z = true → len ≠ 0) : OpOK E V0 io0 W0 C o s a W (.sl te ⟨z, true, none⟩ l) s.objs := by
  obtain ⟨hu, hel⟩ := look_el hX.T he
  obtain ⟨inf, zv, g1, g2, g3, g4, g5, g6⟩ := hel.ex
  have hpos := hel.pos
  have hprod : len * te.size ≤ 1000 * 1000 := Nat.mul_le_mul hl1 hs1
  let cells0 : Array Value := if len * te.size = 0 then (Array.range (len * te.size)).map ((#[] : Array Value)[· % (#[] : Array Value).size]!) else (Array.range (len * te.size)).map (zv.cells[· % zv.cells.size]!)
  have hc0 : cells0.size = len * te.size := by simp only [cells0]; split <;> simp
  obtain ⟨ds, r1, r2⟩ := decAll_rel (E := E) (C := C) (W := W) (pre := []) _ (parts.toList.map fun y => (y.1, a.eval y.2)) 0 l cells0 h (forall2_map _ _ _ fun x => ⟨rfl, S.evO hX _ _⟩) (by rw [hc0, hl]; simp)
  have hds := Flat.length (fun x c h => CRel.length h) r1
  have e1 : (cells0.toList.take (0 * te.size) ++ ds ++ cells0.toList.drop ((0 + l.length) * te.size)) = ds := by
    rw [List.drop_of_length_le (by simp [hc0, hl])]
    simp
  rw [e1] at r2
  obtain ⟨c1, c2⟩ := S.keep (Keep.alloc C.io W (.cells ds.toArray e)) (S.iok.alloc _)
  have hrun : (execOp a.eval o).run E.P W = .ok (.value (.slice (some ⟨W.heap.size, 0, none⟩) len len)) (W.alloc (.cells ds.toArray e)) := by
    unfold execOp
    rw [ho]
    refine run_v ?_
    have hpe : (parts.map fun (i, x) => (i, a.eval x)).toList = parts.toList.map fun y => (y.1, a.eval y.2) := by simp
    by_cases hlen : len = 0
    · have hd0 : ds = [] := List.eq_nil_of_length_eq_zero (by rw [hds, hl, hlen]; simp)
      subst hlen
      have hl0 : l = [] := List.eq_nil_of_length_eq_zero hl
      subst hl0
      have hp0 : parts.toList = [] := by
        cases hp : parts.toList with
        | nil => rfl
        | cons x r =>
          rw [hp] at h
          simp only [List.map_cons, decAll] at h
          split at h
          · split at h
            · cases h
            · cases h
          · cases h
      have hp1 : parts = #[] := by apply Array.ext'; simpa using hp0
      subst hp1
      subst hd0
      simp [Instr.buildSlice, run_underlying hu, run_sizeOf' g1, Instr.fill, newRow, Array.range_zero']
    · have hne : ¬ len * inf.size = 0 := by
        rw [g2]
        have := Nat.mul_pos (Nat.pos_of_ne_zero hlen) hpos
        omega
      refine run_buildSlice W t e len _ ds.toArray inf zv hu g1 g4 (by rw [g2]; omega) hne ?_
      rw [hpe, g2, ← r2]
      simp only [cells0]
      rw [if_neg (by rw [← g2]; exact hne)]
  refine OpOK.value hrun c2 c1 ⟨(Keep.alloc C.io W _).of_noM, fun _ _ h => .inl h, fun k v b lo hi h1 h2 h3 => .inl ⟨k, v, lo, hi, h1, h2, h3⟩, fun _ _ _ h => .inl h⟩ ?_
  refine vr_sl hl.symm (by omega) ?_ (fun hzt hn => absurd (by rw [hn] at hl; exact hl.symm) (hz hzt)) (fun _ => hl.symm) rfl
  refine row_of_flat (ds := ds) (Flat.imp (fun x c h => CRel.mono c1.st h) r1) (heap_alloc_new' W _) (fun i v hv => by simpa using hv) (fun o ho hV => ?_)
  rcases S.Vn _ _ hV with h | h
  · have := S.old0 _ _ h
    have := S.kp.size
    omega
  · omega

end Ev
end Go.Proofs.YtidnikjkpbmhhaaDoor
