/- append, make. -/
import Derived.Test.YtidnikjkpbmhhaaDoorStep2
set_option linter.unusedVariables false
namespace Go.Proofs.YtidnikjkpbmhhaaDoor
namespace Ev

variable {E : Env} {V0 : Nat → Nat → Prop} {io0 : Io} {W0 : World} {C : Cx} {s : St} {a : Act} {W : World} {X : Ctx} {o : Oper}

theorem row_flat {V : Nat → Nat → Prop} {t : Ty} : ∀ {l : List t.den} {A : Option Addr}, Row V W (CRel V W t) t.size A l →
    ∃ cs, Flat (fun x c => CRel V W t x c) l cs ∧ cs.length = l.length * t.size ∧ ∀ ad, A = some ad → ∀ (i : Nat) (v : Value), cs[i]? = some v → W.cell? (ad.add i) = some v ∧ ¬ V ad.block (ad.off + i)
  | [], A, h => ⟨[], rfl, by simp, fun ad _ i v hv => by simp at hv⟩
  | x :: l, A, h => by
    obtain ⟨ad, c, h1, h2, h3, h4⟩ := h 0 x rfl
    have hd : Row V W (CRel V W t) t.size (A.map (·.add t.size)) l := fun j y hj => by
      obtain ⟨ad', c', g1, g2, g3, g4⟩ := h (j + 1) y (by simpa using hj)
      refine ⟨ad'.add t.size, c', by rw [g1]; rfl, g2, g3, ?_⟩
      rw [add_add, show t.size + j * t.size = (j + 1) * t.size by rw [Nat.add_mul, Nat.one_mul, Nat.add_comm]]
      exact g4
    obtain ⟨ds, k1, k2, k3⟩ := row_flat hd
    refine ⟨c ++ ds, ⟨c, ds, rfl, h2, k1⟩, by simp [h3, k2, Nat.add_mul, Nat.add_comm], fun ad' e i v hv => ?_⟩
    rw [h1] at e
    cases e
    rw [List.getElem?_append] at hv
    split at hv
    · have := h4 i v hv
      simp only [Nat.zero_mul, add_zero] at this
      exact this
    · rename_i hi
      have := k3 (ad.add t.size) (by rw [h1]; rfl) (i - c.length) v hv
      rw [add_add, add_block, add_off, show t.size + (i - c.length) = i by omega, show ad.off + t.size + (i - c.length) = ad.off + i by omega] at this
      exact this

theorem row_of_flat {V : Nat → Nat → Prop} {W' : World} {t : Ty} {b : Nat} {xs : List t.den} {ds : List Value} {cs : Array Value} {ty : TypeId} (hf : Flat (fun x c => CRel V W' t x c) xs ds) (hb : W'.heap[b]? = some (.cells cs ty (0, 0)))
    (hp : ∀ (i : Nat) (v : Value), ds[i]? = some v → cs[i]? = some v) (hV : ∀ o, o < ds.length → ¬ V b o) : Row V W' (CRel V W' t) t.size (some ⟨b, 0, none⟩) xs := fun j x hj => by
  obtain ⟨g1, g2⟩ := flat_at (fun x c h => CRel.length h) hf j x hj
  refine ⟨_, _, rfl, g1, by rw [List.length_take, List.length_drop]; omega, fun i v hv => ?_⟩
  rw [List.getElem?_take] at hv
  split at hv
  · rename_i hi
    rw [List.getElem?_drop] at hv
    rw [add_add, add_block, add_off]
    have ha : (⟨b, 0, none⟩ : Addr).add (j * t.size + i) = ⟨b, j * t.size + i, none⟩ := by unfold Addr.add; split <;> simp_all
    rw [ha]
    refine ⟨?_, ?_⟩
    · simp only [World.cell?, hb]
      simpa using hp _ _ hv
    · have := (List.getElem?_eq_some_iff.1 hv).1
      have h2 := hV (j * t.size + i) this
      simpa using h2
  · cases hv

theorem flat_append {α : Type} {R : α → List Value → Prop} : ∀ {xs ys : List α} {cs ds : List Value}, Flat R xs cs → Flat R ys ds → Flat R (xs ++ ys) (cs ++ ds)
  | [], ys, cs, ds, h, k => by
    have h' : cs = [] := h
    subst h'
    simpa using k
  | x :: xs, ys, cs, ds, ⟨c, d, e, h1, h2⟩, k => ⟨c, d ++ ds, by simp [e], h1, flat_append h2 k⟩

theorem run_append_room' {P : Program} (w : World) (t ty e : TypeId) (i : TypeInfo) (ht : P.underlying t = some (.slice e)) (hi : P.info? e = some i)
    (g sLen sCap : Nat) (cur : Array Value) (bt : TypeId) (hg : w.heap[g]? = some (.cells cur bt (0, 0)))
    (a : Addr) (m c : Nat) (news : List Value) (hl : news.length = m * i.size) (hnews : ∀ j u, news[j]? = some u → w.cell? (a.add j) = some u) (h1 : ∀ u ∈ news, u.oneCell' = true)
    (hroom : sLen + m ≤ sCap) (hfit : sLen * i.size + news.length ≤ cur.size) :
    (Builtin.append_ #[t, t] ty #[.slice (some ⟨g, 0, none⟩) sLen sCap, .slice (some a) m c]).run P w =
      .ok (.slice (some ⟨g, 0, none⟩) (sLen + m) sCap) (w.setRow g (cur.toList.take (sLen * i.size) ++ news ++ cur.toList.drop (sLen * i.size + news.length)).toArray) := by
  have hf := run_firstCells_some (P := P) w i.size m a m c news hl hnews
  have hst := run_storeCells_at P g (sLen * i.size) bt news 0 cur w hg (by simpa using hfit) h1
  simp only [Nat.add_zero] at hst
  simp [Builtin.append_, run_underlying ht, sizeOf, typeInfo, hi, Builtin.lenOf, hroom, hf, Addr.add_lit, hst]

theorem run_append_zero {P : Program} (w : World) (t ty e : TypeId) (i : TypeInfo) (ht : P.underlying t = some (.slice e)) (hi : P.info? e = some i) (A B : Option Addr) (n c c' : Nat) (h : n ≤ c) :
    (Builtin.append_ #[t, t] ty #[.slice A n c, .slice B 0 c']).run P w = .ok (.slice A n c) w := by
  cases A <;> cases B <;> simp [Builtin.append_, run_underlying ht, sizeOf, typeInfo, hi, Builtin.lenOf, h, Builtin.firstCells, loadCells, loadCellsFrom, storeCells]

theorem run_append_call {P : Program} {x y : Operand} {t d : Nat} {W W' : World} {r : Value} (ho : o.op = .call { callee := .builtin .append, args := #[x, y], argTypes := #[t, t] })
    (h : (Builtin.append_ #[t, t] o.type #[a.eval x, a.eval y]).run P W = .ok r W') : (execOp a.eval o).run P W = .ok (.value r) W' := by
  unfold execOp
  rw [ho]
  simp only [Sem.run_bind, resolve, Sem.run_pure, Result.andThen_ok, invoke, builtin, List.map_toArray, List.map_cons, List.map_nil, h]

theorem VR.sl_mk {C' : Cx} {W' : World} {t : Ty} {f : Fl} {l : List t.den} {A : Option Addr} {c n d ver : Nat} (hn : n = l.length) (h1 : l.length ≤ c) (h2 : Row C'.V W' (CRel C'.V W' t) t.size A l) (h3 : f.z = true → l = [] → A = none ∧ c = 0) (h4 : f.tg = true → c = l.length)
    (h5 : f.ow = some (d, ver)) (hlv : C'.lv d = some (ver, true)) (h6 : c = l.length ∨ ∃ b, A = some ⟨b, 0, none⟩ ∧ C'.tl d = (b, l.length * t.size, c * t.size)) : VR E.TR C' W' (.sl t f l) (.slice A n c) := by
  subst hn
  refine .inr ⟨[.slice A l.length c], rfl, ?_, rfl⟩
  simp only [Rel]
  exact ⟨A, c, rfl, h1, h2, h3, h4, fun k v h => by rw [h5] at h; cases h; exact ⟨ver, true, hlv, Nat.le_refl _, fun _ _ => h6⟩⟩

theorem row_mono {C' : Cx} {W' : World} {t : Ty} {A : Option Addr} {l : List t.den} (hle : CxLe C C' W W') (h : Row C.V W (CRel C.V W t) t.size A l) : Row C'.V W' (CRel C'.V W' t) t.size A l := fun j x hj => by
  obtain ⟨a, c, g1, g2, g3, g4⟩ := h j x hj
  exact ⟨a, c, g1, CRel.mono hle.st g2, g3, g4.mono hle.st⟩

/-- The slice that an append makes anew. -/
theorem app_grow (S : Sim E V0 io0 W0 C s a W) {objs' : List Ob} {d ver : Nat} {k : Option Nat} (hR : Relin s.objs objs' d ver k) {t e by_ : Nat} {te : Ty} (hu : E.P.underlying t = some (.slice e)) (hel : ElOK E.toBase te e by_)
    {x y : Operand} (ho : o.op = .call { callee := .builtin .append, args := #[x, y], argTypes := #[t, t] }) {A B : Option Addr} {l m : List te.den} {c c' : Nat} (hx : a.eval x = .slice A l.length c) (hy : a.eval y = .slice B m.length c')
    (hA : Row C.V W (CRel C.V W te) te.size A l) (hB : Row C.V W (CRel C.V W te) te.size B m) (hAn : A = none → c = 0) (hc : c < l.length + m.length) (hlc : l.length ≤ c) (hb : (l.length + m.length) * by_ ≤ 70368744177664) (z : Bool) :
    OpOK E V0 io0 W0 C o s a W (.sl te ⟨z, false, some (d, ver)⟩ (l ++ m)) objs' := by
  obtain ⟨inf, zv, g1, g2, g3, g4, g5, g6⟩ := hel.ex
  obtain ⟨olds, f1, f2, f3⟩ := row_flat hA
  obtain ⟨news, k1, k2, k3⟩ := row_flat hB
  have hpos := hel.pos
  have hbp := hel.bpos
  have hn : l.length + m.length ≤ 70368744177664 := Nat.le_trans (Nat.le_mul_of_pos_right _ hbp) hb
  have hm0 : m ≠ [] := fun h => by subst h; simp at hc; omega
  obtain ⟨ad, hBa⟩ : ∃ ad, B = some ad := by
    cases m with
    | nil => exact absurd rfl hm0
    | cons y0 m =>
      obtain ⟨ad, _, h, _⟩ := hB 0 y0 rfl
      exact ⟨ad, h⟩
  -- the run
  have hrun : ∃ W1 cap, (W1 = W ∨ W1 = W.drew) ∧ l.length + m.length ≤ cap ∧ (execOp a.eval o).run E.P W = .ok (.value (.slice (some ⟨W.heap.size, 0, none⟩) (l.length + m.length) cap)) (W1.alloc (.cells (olds.toArray ++ news.toArray ++ Builtin.zeroCells zv.cells (cap - (l.length + m.length))) e)) := by
    cases A with
    | none =>
      have hl : l = [] := by
        cases l with
        | nil => rfl
        | cons x0 l => obtain ⟨_, _, h, _⟩ := hA 0 x0 rfl; cases h
      subst hl
      have hc0 := hAn rfl
      subst hc0
      have ho0 : olds = [] := List.eq_nil_of_length_eq_zero (by simpa using f2)
      subst ho0
      refine ⟨W.drew, grownCap W m.length 0 e, .inr rfl, by simpa using grownCap_ge W m.length 0 e, ?_⟩
      have := run_append_nil (P := E.P) W t o.type e inf zv hu g1 g4 ad m.length c' news (by rw [k2, g2]) (fun j v hv => (k3 ad hBa j v hv).1) (by simpa using hc) (by simp at hn; omega)
        (by rw [g3]; simp at hb; omega)
      refine run_append_call (d := d) ho ?_
      rw [hx, hy, hBa]
      simpa using this
    | some b0 =>
      refine ⟨W.drew, grownCap W (l.length + m.length) c e, .inr rfl, grownCap_ge W _ c e, ?_⟩
      have := run_append_grow (P := E.P) W t o.type e inf zv hu g1 g4 b0 l.length c olds (by rw [f2, g2]) (fun j v hv => (f3 b0 rfl j v hv).1) ad m.length c' news (by rw [k2, g2]) (fun j v hv => (k3 ad hBa j v hv).1) hc (by omega)
        (growslice_fits hc (by rw [g3]; omega))
      refine run_append_call (d := d) ho ?_
      rw [hx, hy, hBa]
      exact this
  obtain ⟨W1, cap, hW1, hcap, hr⟩ := hrun
  have hsize : (olds.toArray ++ news.toArray ++ Builtin.zeroCells zv.cells (cap - (l.length + m.length))).size = cap * te.size := by
    simp only [Array.size_append, List.size_toArray, size_zeroCells, g5, f2, k2, ← Nat.add_mul]
    congr 1
    omega
  obtain ⟨C', ⟨c1, cx⟩, c2, c3, c4, c5, c6⟩ := S.grow hR hW1 (cs := olds.toArray ++ news.toArray ++ Builtin.zeroCells zv.cells (cap - (l.length + m.length))) (ty := e) (lo := (l.length + m.length) * te.size) (hi := cap * te.size) (by rw [hsize]; exact Nat.le_refl _)
  refine OpOK.value hr c6 c1 cx ?_
  have hh : W1.heap.size = W.heap.size := by rcases hW1 with rfl | rfl <;> rfl
  refine VR.sl_mk (by simp) (by simpa using hcap) ?_ (fun _ h => by simp at h; exact absurd h.2 hm0) (by simp) rfl c3 (.inr ⟨W.heap.size, rfl, by rw [c4]; simp⟩)
  refine row_of_flat (flat_append (Flat.imp (fun x c h => CRel.mono c1.st h) f1) (Flat.imp (fun x c h => CRel.mono c1.st h) k1)) (by rw [← hh]; exact heap_alloc_new' W1 _) (fun i v hv => ?_) (fun o ho hV => ?_)
  · have := (List.getElem?_eq_some_iff.1 hv).1
    rw [Array.getElem?_append_left (by simpa using this)]
    simpa using hv
  · have := c5 o hV
    simp only [List.length_append, f2, k2, ← Nat.add_mul] at ho
    omega

theorem app_zero (S : Sim E V0 io0 W0 C s a W) {objs' : List Ob} {d ver : Nat} {k : Option Nat} (hR : Relin s.objs objs' d ver k) {t e by_ : Nat} {te : Ty} (hu : E.P.underlying t = some (.slice e)) (hel : ElOK E.toBase te e by_)
    {x y : Operand} (ho : o.op = .call { callee := .builtin .append, args := #[x, y], argTypes := #[t, t] }) {A B : Option Addr} {l : List te.den} {c c' : Nat} (hx : a.eval x = .slice A l.length c) (hy : a.eval y = .slice B 0 c')
    (hA : Row C.V W (CRel C.V W te) te.size A l) (hc : c = l.length) {z : Bool} (hz : z = true → l = [] → A = none ∧ c = 0) : OpOK E V0 io0 W0 C o s a W (.sl te ⟨z, false, some (d, ver)⟩ l) objs' := by
  obtain ⟨inf, zv, g1, _⟩ := hel.ex
  obtain ⟨C', ⟨c1, cx⟩, c2, c3, c4, c5⟩ := S.relinFull hR
  refine OpOK.value (W' := W) (x := .slice A l.length c) (run_append_call (d := d) ho ?_) c5 c1 cx ?_
  · rw [hx, hy]
    exact run_append_zero W t o.type e inf hu g1 A B l.length c c' (by omega)
  · exact VR.sl_mk rfl (by omega) (row_mono c1 hA) hz (by simp) rfl c3 (.inl hc)

theorem room_nat {n m b : Nat} (h : roomy n m b = true) : (n + m) * b ≤ 70368744177664 := by
  unfold roomy at h
  exact Nat.le_of_ble_eq_true h

theorem op_append (hX : CtxOK E X) (S : Sim E V0 io0 W0 C s a W) {x y : Operand} {t d : Nat} {v : AV} {obs : List Ob} (ho : o.op = .call { callee := .builtin .append, args := #[x, y], argTypes := #[t, t] }) (hd : d < s.objs.length)
    (h : appAV X.T s t d (evO X s t x) (evO X s t y) = some (true, v, obs)) : OpOK E V0 io0 W0 C o s a W v obs := by
  have hxv := S.evO hX t x
  have hyv := S.evO hX t y
  unfold appAV at h
  split at h
  · rename_i te f l te' f' m hx hy
    split at h
    · rename_i e
      subst e
      split at h
      · rename_i e te0 by_ he
        split at h
        · rename_i e0
          subst e0
          obtain ⟨hu, hel⟩ := look_el hX.T he
          rw [hx] at hxv
          rw [hy] at hyv
          obtain ⟨A, c, ev, hr⟩ := hxv.sl_inv
          obtain ⟨B, c', ev', hr'⟩ := hyv.sl_inv
          obtain ⟨q1, q2, q3, q4, q5⟩ := rel_row hr
          obtain ⟨p1, p2, p3, p4, p5⟩ := rel_row hr'
          have hpos := hel.pos
          split at h
          · cases h
          · cases h
          · rename_i hob1 hob2
            split at h
            · rename_i k u hfo
              split at h
              · rename_i cu hk
                split at h
                · rename_i hu'
                  subst hu'
                  simp only [Option.some.injEq, Prod.mk.injEq] at h
                  obtain ⟨hroom, rfl, rfl⟩ := h
                  have hk' := St.objs_lt hk (by simp)
                  have hR := relin_mk2 hd rfl (fun v => hob1 v) (fun a b m => hob2 a b m) hk'
                  have hlv : C.lv k = some (u, true) := (S.ln k u true).2 hk'
                  obtain ⟨cu', al, w1, w2, w3⟩ := q5 k u hfo
                  rw [hlv] at w1
                  cases w1
                  have w3 := w3 rfl rfl
                  have hb : (l.length + m.length) * by_ ≤ 70368744177664 := room_nat hroom
                  have hAn : A = none → c = 0 := fun hA => by
                    rcases w3 with w3 | ⟨b, w3, _⟩
                    · rw [w3]
                      cases l with
                      | nil => rfl
                      | cons x0 l => obtain ⟨_, _, h, _⟩ := q2 0 x0 rfl; rw [hA] at h; cases h
                    · rw [hA] at w3; cases w3
                  by_cases hc : c < l.length + m.length
                  · exact app_grow S hR hu hel ho ev ev' q2 p2 hAn hc q1 hb _
                  · by_cases hm : m = []
                    · subst hm
                      by_cases hcl : c = l.length
                      · have := app_zero S hR hu hel ho ev ev' q2 hcl q3
                        simpa using this
                      · rcases w3 with w3 | ⟨b, w3, w4⟩
                        · exact absurd w3 hcl
                        · -- nothing is written; the room stays
                          have hlt : l.length * e.size < c * e.size := Nat.mul_lt_mul_of_pos_right (by omega) hpos
                          obtain ⟨k1, k2, k3, cs, ty, k4, k5⟩ := S.tl k u b _ _ _ hlv w4 (Nat.le_refl _) hlt
                          obtain ⟨C', ⟨c1, cx⟩, c2, c3, c4, c5, c6⟩ := S.inPlace hR hlv w4 (Nat.le_refl _) (Nat.le_of_lt hlt) (cs' := cs) k4 rfl k2 (fun _ _ => rfl) k5 (fun _ => k3) (fun h => absurd h (Nat.lt_irrefl _))
                          rw [setRow_self W b cs ty (0, 0) k4] at c1 c6 cx
                          obtain ⟨inf, zv, g1, _⟩ := hel.ex
                          refine OpOK.value (W' := W) (x := .slice A l.length c) (run_append_call (d := d) ho ?_) c6 c1 cx ?_
                          · rw [ev, ev']
                            exact run_append_zero W t o.type te0 inf hu g1 A B l.length c c' (by omega)
                          · simp only [List.append_nil]
                            exact VR.sl_mk rfl (by omega) (row_mono c1 q2) q3 (by simp) rfl c3 (.inr ⟨b, w3, c4⟩)
                    · have hml : 0 < m.length := List.length_pos_iff.2 hm
                      rcases w3 with w3 | ⟨b, w3, w4⟩
                      · omega
                      · have hlt : l.length * e.size < c * e.size := Nat.mul_lt_mul_of_pos_right (by omega) hpos
                        obtain ⟨k1, k2, k3, cs, ty, k4, k5⟩ := S.tl k u b _ _ _ hlv w4 (Nat.le_refl _) hlt
                        obtain ⟨olds, f1, f2, f3⟩ := row_flat q2
                        obtain ⟨news, r1, r2, r3⟩ := row_flat p2
                        obtain ⟨ad, hBa⟩ : ∃ ad, B = some ad := by
                          cases m with
                          | nil => exact absurd rfl hm
                          | cons y0 m =>
                            obtain ⟨ad, _, h, _⟩ := p2 0 y0 rfl
                            exact ⟨ad, h⟩
                        obtain ⟨inf, zv, g1, g2, _⟩ := hel.ex
                        have hmid : (l.length + m.length) * e.size ≤ c * e.size := Nat.mul_le_mul_right _ (by omega)
                        have hlen : l.length * e.size + news.length = (l.length + m.length) * e.size := by rw [r2, Nat.add_mul]
                        have hfit : l.length * e.size + news.length ≤ cs.size := by omega
                        have hrun := run_append_room' (P := E.P) W t o.type te0 inf hu g1 b l.length c cs ty k4 ad m.length c' news (by rw [r2, g2]) (fun j v hv => (r3 ad hBa j v hv).1) (flat_one r1) (by omega) (by rw [g2]; exact hfit)
                        rw [g2] at hrun
                        have hsz : (cs.toList.take (l.length * e.size) ++ news ++ cs.toList.drop (l.length * e.size + news.length)).toArray.size = cs.size := by
                          simp
                          omega
                        have hget : ∀ o : Nat, (cs.toList.take (l.length * e.size) ++ news ++ cs.toList.drop (l.length * e.size + news.length)).toArray[o]? =
                            if o < l.length * e.size then cs[o]? else if o < l.length * e.size + news.length then news[o - l.length * e.size]? else cs[o]? := fun o => by
                          have hA1 : (cs.toList.take (l.length * e.size)).length = l.length * e.size := by simp; omega
                          simp only [List.getElem?_toArray]
                          by_cases h1 : o < l.length * e.size
                          · rw [if_pos h1, List.append_assoc, List.getElem?_append_left (by rw [hA1]; exact h1), List.getElem?_take, if_pos h1]
                            simp
                          · rw [if_neg h1]
                            by_cases h2 : o < l.length * e.size + news.length
                            · rw [if_pos h2, List.append_assoc, List.getElem?_append_right (by rw [hA1]; omega), hA1, List.getElem?_append_left (by omega)]
                            · rw [if_neg h2, List.getElem?_append_right (by simp [hA1]; omega), List.getElem?_drop]
                              simp only [List.length_append, hA1]
                              rw [show l.length * e.size + news.length + (o - (l.length * e.size + news.length)) = o by omega]
                              simp
                        obtain ⟨C', ⟨c1, cx⟩, c2, c3, c4, c5, c6⟩ := S.inPlace hR hlv w4 (mid := (l.length + m.length) * e.size) (Nat.mul_le_mul_right _ (by omega)) hmid k4 hsz k2
                          (fun o ho => by
                            rw [hget]
                            by_cases h1 : o < l.length * e.size
                            · rw [if_pos h1]
                            · rw [if_neg h1, if_neg (by omega)]) k5 (fun _ => k3) (fun _ o h1 h2 => (S.tl k u b _ _ o hlv w4 h1 h2).1)
                        refine OpOK.value (x := .slice (some ⟨b, 0, none⟩) (l.length + m.length) c) (run_append_call (d := d) ho ?_) c6 c1 cx ?_
                        · rw [ev, ev', w3, hBa]
                          exact hrun
                        · refine VR.sl_mk (by simp) (by simp; omega) ?_ (fun _ h => by simp at h; exact absurd h.2 hm) (by simp) rfl c3 (.inr ⟨b, rfl, by rw [c4]; simp⟩)
                          refine row_of_flat (flat_append (Flat.imp (fun x c h => CRel.mono c1.st h) f1) (Flat.imp (fun x c h => CRel.mono c1.st h) r1)) (setRow_heap W b cs _ ty _ k4) (fun i v hv => ?_) (fun o ho hV => ?_)
                          · rw [hget]
                            rw [List.getElem?_append] at hv
                            split at hv
                            · rename_i h1
                              rw [if_pos (by omega)]
                              have := (f3 _ w3 i v hv).1
                              have ha : (⟨b, 0, none⟩ : Addr).add i = ⟨b, i, none⟩ := by unfold Addr.add; split <;> simp_all
                              rw [ha] at this
                              simpa [World.cell?, k4] using this
                            · rename_i h1
                              have h2 := (List.getElem?_eq_some_iff.1 hv).1
                              rw [if_neg (by omega), if_pos (by omega), ← f2]
                              exact hv
                          · simp only [List.length_append, f2, r2, ← Nat.add_mul] at ho
                            by_cases h1 : o < l.length * e.size
                            · have h2 : o < olds.length := by omega
                              have := (f3 _ w3 o _ (List.getElem?_eq_getElem h2)).2
                              simp only [Nat.zero_add] at this
                              have hlt := (Array.getElem?_eq_some_iff.1 k4).1
                              exact this (c1.st.vol b o hlt hV)
                            · exact c5 o (by omega) ho hV
                · cases h
              · cases h
            · rename_i hfo
              simp only [Option.some.injEq, Prod.mk.injEq, Bool.and_eq_true] at h
              obtain ⟨⟨htg, hroom⟩, rfl, rfl⟩ := h
              have hR := relin_mk hd rfl (fun v => hob1 v) (fun a b m => hob2 a b m)
              have hc := q4 htg
              have hb : (l.length + m.length) * by_ ≤ 70368744177664 := room_nat hroom
              by_cases hm : m = []
              · subst hm
                have := app_zero S hR hu hel ho ev ev' q2 hc q3
                simpa using this
              · have hml : 0 < m.length := List.length_pos_iff.2 hm
                refine app_grow S hR hu hel ho ev ev' q2 p2 (fun hA => ?_) (by omega) q1 hb _
                rw [hc]
                cases l with
                | nil => rfl
                | cons x0 l => obtain ⟨_, _, h, _⟩ := q2 0 x0 rfl; rw [hA] at h; cases h
        · cases h
      · cases h
    · cases h
  · cases h

end Ev
end Go.Proofs.YtidnikjkpbmhhaaDoor
