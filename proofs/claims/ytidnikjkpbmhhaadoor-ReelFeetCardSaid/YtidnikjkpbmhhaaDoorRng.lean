/- A range over a function: the rounds of the evaluator are the rounds of the machine. -/
import Derived.Test.YtidnikjkpbmhhaaDoorMask
import Derived.RangeFuncIn
set_option linter.unusedVariables false
set_option linter.unusedSimpArgs false
namespace Go.Proofs.YtidnikjkpbmhhaaDoor
namespace Ev

variable {E : Env} {V0 : Nat → Nat → Prop} {io0 : Io} {W0 : World} {C : Cx} {s s' s1 s2 : St} {a : Act} {W : World} {X : Ctx} {o : Oper}

/-! What is told is what it was. -/

mutual
theorem enc_inj : ∀ (t : Ty) (x y : t.den), enc t x = enc t y → x = y
  | .int, x, y, h => by simpa [enc] using h
  | .bool, x, y, h => by simpa [enc] using h
  | .last a, x, y, h => by
    simp only [enc, AV.agg.injEq, List.cons.injEq, and_true] at h
    exact enc_inj a x y h
  | .cons a b, x, y, h => by
    simp only [enc, AV.agg.injEq, List.cons.injEq] at h
    exact Prod.ext (enc_inj a _ _ h.1) (encT_inj b _ _ h.2)
  | .slice t, x, y, h => by simpa [enc] using h
  | .arr n t, x, y, h => by simpa [enc] using h
theorem encT_inj : ∀ (t : Ty) (x y : t.den), encT t x = encT t y → x = y
  | .int, x, y, h => by simpa [encT] using h
  | .bool, x, y, h => by simpa [encT] using h
  | .last a, x, y, h => by
    simp only [encT, List.cons.injEq, and_true] at h
    exact enc_inj a x y h
  | .cons a b, x, y, h => by
    simp only [encT, List.cons.injEq] at h
    exact Prod.ext (enc_inj a _ _ h.1) (encT_inj b _ _ h.2)
  | .slice t, x, y, h => by simpa [encT] using h
  | .arr n t, x, y, h => by simpa [encT] using h
end

theorem map_enc_inj (t : Ty) : ∀ {l m : List t.den}, l.map (enc t) = m.map (enc t) → l = m
  | [], [], _ => rfl
  | [], _ :: _, h => by simp at h
  | _ :: _, [], h => by simp at h
  | x :: l, y :: m, h => by
    simp only [List.map_cons, List.cons.injEq] at h
    rw [enc_inj t x y h.1, map_enc_inj t h.2]

/-! Steps of the world that are none of an operation's. -/

/-- Slices grow no more where they stand. -/
def quietCx (C : Cx) : Cx := { C with lv := fun k => (C.lv k).map fun x => (x.1, false) }

theorem quiet_lv {C : Cx} {k v : Nat} : (quietCx C).lv k ≠ some (v, true) := fun h => by
  simp only [quietCx] at h
  cases hq : C.lv k with
  | none => rw [hq] at h; cases h
  | some x => rw [hq] at h; cases h

theorem quiet_le (C : Cx) (W : World) : CxLe C (quietCx C) W W :=
  ⟨⟨fun _ _ h _ => h, fun _ _ _ h => h⟩, fun _ _ h => h, fun k cu al h => ⟨cu, false, by simp [quietCx, h], Nat.le_refl _, fun h => nomatch h⟩, fun _ _ => rfl, Nat.le_refl _⟩

theorem Sim.quiet (S : Sim E V0 io0 W0 C s a W) : Sim E V0 io0 W0 (quietCx C) s.quiet a W := by
  have hob : ∀ k : Nat, s.quiet.objs[k]? = (s.objs[k]?).map quietOb := fun k => by
    show (s.objs.map quietOb)[k]? = _
    rw [List.getElem?_map]
  have hbx : ∀ (k : Nat) (v : AV), s.quiet.objs[k]? = some (.box v) ↔ s.objs[k]? = some (.box v) := fun k v => by
    rw [hob]
    cases s.objs[k]? with
    | none => simp
    | some q => cases q <;> simp [quietOb]
  refine { S with tm := ?_, bx := ?_, bxn := ?_, ln := ?_, tl := ?_, tld := ?_, gh := ?_ }
  · intro t x hx
    obtain ⟨v, h1, h2⟩ := S.tm t x hx
    exact ⟨v, h1, h2.mono E.hT (quiet_le C W)⟩
  · intro k v hv
    obtain ⟨b, cs, ty, h1, h2, h3, h4, h5⟩ := S.bx k v ((hbx k v).1 hv)
    exact ⟨b, cs, ty, h1, h2, h3, Rel.mono E.hT (quiet_le C W) h4, h5⟩
  · intro k b h
    obtain ⟨v, hv⟩ := S.bxn k b h
    exact ⟨v, (hbx k v).2 hv⟩
  · intro k v al
    rw [hob]
    simp only [quietCx]
    constructor
    · intro h
      cases hq : C.lv k with
      | none => rw [hq] at h; cases h
      | some x =>
        obtain ⟨cu, al'⟩ := x
        rw [hq] at h
        simp only [Option.map_some, Option.some.injEq, Prod.mk.injEq] at h
        obtain ⟨rfl, rfl⟩ := h
        rw [(S.ln k cu al').1 hq]
        rfl
    · intro h
      cases hq : s.objs[k]? with
      | none => rw [hq] at h; cases h
      | some q =>
        rw [hq] at h
        cases q with
        | lin v' al' =>
          simp only [Option.map_some, quietOb, Option.some.injEq, Ob.lin.injEq] at h
          obtain ⟨rfl, rfl⟩ := h
          rw [(S.ln k v' al').2 hq]
          rfl
        | _ => simp [quietOb] at h
  · intro k v b lo hi o h
    exact absurd h quiet_lv
  · intro k k' v v' b lo hi lo' hi' o h
    exact absurd h quiet_lv
  · intro k x y tr hl h
    rw [hob] at h
    have hl' : k + 1 = s.objs.length := by
      have : s.quiet.objs.length = s.objs.length := by simp [St.quiet]
      omega
    cases hq : s.objs[k]? with
    | none => rw [hq] at h; cases h
    | some q =>
      rw [hq] at h
      cases q with
      | map x' y' tr' =>
        cases h
        exact S.gh k x y tr hl' hq
      | _ => simp [quietOb] at h

/-- A block more, of any kind; its cells may turn, if vol says so. -/
theorem Sim.note (S : Sim E V0 io0 W0 C s a W) (ob : Obj) (vol : Prop) : Sim E V0 io0 W0 { C with V := fun b o' => C.V b o' ∨ (vol ∧ b = W.heap.size) } s a (W.alloc ob) := by
  have hst : Stab C.V (fun b o' => C.V b o' ∨ (vol ∧ b = W.heap.size)) W (W.alloc ob) := ⟨fun x u hx hv => by
    obtain ⟨c1, t1, f1, g1, _⟩ := cells_of_cell hx
    exact (cell_of_block ((heap_alloc_old' W _ g1).trans g1.symm)).trans hx, fun b o hb h => by
      rcases h with h | h
      · exact h
      · omega⟩
  have hle : CxLe C { C with V := fun b o' => C.V b o' ∨ (vol ∧ b = W.heap.size) } W (W.alloc ob) :=
    ⟨hst, fun _ _ h => h, fun k cu al h => ⟨cu, al, h, Nat.le_refl _, fun h _ => ⟨h, rfl⟩⟩, fun _ _ => rfl, by simp⟩
  have hVn : ∀ b o, (C.V b o ∨ (vol ∧ b = W.heap.size)) → V0 b o ∨ (W0.heap.size ≤ b ∧ b < (W.alloc ob).heap.size) := fun b o h => by
    rcases h with h | ⟨_, rfl⟩
    · exact (S.Vn b o h).imp id fun h => ⟨h.1, Nat.lt_trans h.2 (by simp)⟩
    · exact .inr ⟨S.kp.size, by simp⟩
  refine { S with tm := ?_, df := S.dfs (Wst.alloc 0 W ob), bx := ?_, bxV := ?_, tl := ?_, Vn := hVn, V0V := fun b o h => .inl (S.V0V b o h), iok := S.iok.alloc ob, gl := ?_, kp := S.kp.step (Wst.alloc _ _ _), gh := fun k x y tr hl h => S.ghs (Wst.alloc _ _ _) hst hVn (fun b o h => .inl (S.V0V b o h)) (S.iok.alloc ob) (S.gh k x y tr hl h) }
  · intro t x hx
    obtain ⟨v, h1, h2⟩ := S.tm t x hx
    exact ⟨v, h1, h2.mono E.hT hle⟩
  · intro k v hv
    obtain ⟨b, cs, ty, h1, h2, h3, h4, h5⟩ := S.bx k v hv
    exact ⟨b, cs, ty, h1, heap_alloc_old' W _ h2, h3, Rel.mono E.hT hle h4, h5⟩
  · intro k b o h
    exact .inl (S.bxV k b o h)
  · intro k v b lo hi o h1 h2 h3 h4
    obtain ⟨g1, g2, g3, cs, ty, g4, g5⟩ := S.tl k v b lo hi o h1 h2 h3 h4
    exact ⟨.inl g1, g2, g3, cs, ty, heap_alloc_old' W _ g4, g5⟩
  · intro g u h
    exact Rel.mono E.hT (C := baseCx C.V C.io) (C' := baseCx _ C.io) ⟨hst, (fun _ _ h => by cases h), (fun _ _ _ h => by cases h), fun _ _ => rfl, by simp⟩ (S.gl g u h)

/-- Another activation, whose slots hold the same where they are known. -/
theorem Sim.reAct (S : Sim E V0 io0 W0 C s a W) {a' : Act} (hl : a'.tmps.size = s.tmps.length) (ht : ∀ (k : Nat) (x : AV), s.tmps[k]? = some x → x = .poison ∨ a'.tmps[k]? = a.tmps[k]?) (hd : DfOK W0 W a'.defers) : Sim E V0 io0 W0 C s a' W := by
  refine { S with len := hl, tm := ?_, df := hd }
  intro t x hx
  rcases ht t x hx with h | h
  · subst h
    have : t < a'.tmps.size := by rw [hl]; exact (List.getElem?_eq_some_iff.1 hx).1
    exact ⟨a'.tmps[t], by simp [this], .inl rfl⟩
  · obtain ⟨v, h1, h2⟩ := S.tm t x hx
    exact ⟨v, h.trans h1, h2⟩

/-- Fewer cells may turn. -/
theorem Sim.shrink (S : Sim E V0 io0 W0 C s a W) {V : Nat → Nat → Prop} (hV : ∀ b o, V b o → C.V b o) (h0 : ∀ b o, V0 b o → V b o) (hb : ∀ k b o, C.box k = some b → V b o) (hq : ∀ k v, C.lv k ≠ some (v, true)) : Sim E V0 io0 W0 { C with V := V } s a W := by
  have hst : Stab C.V V W W := ⟨fun _ _ h _ => h, fun b o _ h => hV b o h⟩
  have hle : CxLe C { C with V := V } W W := ⟨hst, fun _ _ h => h, fun k cu al h => ⟨cu, al, h, Nat.le_refl _, fun h _ => ⟨h, rfl⟩⟩, fun _ _ => rfl, Nat.le_refl _⟩
  refine { S with tm := ?_, bx := ?_, bxV := hb, tl := ?_, Vn := fun b o h => S.Vn b o (hV b o h), V0V := h0, gl := ?_, gh := fun k x y tr hl h => S.ghs (Wst.refl _ _) hst (fun b o h => S.Vn b o (hV b o h)) h0 S.iok (S.gh k x y tr hl h) }
  · intro t x hx
    obtain ⟨v, h1, h2⟩ := S.tm t x hx
    exact ⟨v, h1, h2.mono E.hT hle⟩
  · intro k v hv
    obtain ⟨b, cs, ty, h1, h2, h3, h4, h5⟩ := S.bx k v hv
    exact ⟨b, cs, ty, h1, h2, h3, Rel.mono E.hT hle h4, h5⟩
  · intro k v b lo hi o h
    exact absurd h (hq k v)
  · intro g u h
    exact Rel.mono E.hT (C := baseCx C.V C.io) (C' := baseCx V C.io) ⟨hst, (fun _ _ h => by cases h), (fun _ _ _ h => by cases h), fun _ _ => rfl, Nat.le_refl _⟩ (S.gl g u h)

theorem Ab.less {n m : Nat} {V V' : Nat → Nat → Prop} {io io' : Io} {W W' : World} (h : Ab n V V' io io' W W') (hm : m ≤ n) : Ab m V V' io io' W W' :=
  ⟨h.os, h.tape, h.output, h.size, fun b hb hi => h.old b (Nat.lt_of_lt_of_le hb hm) hi, h.st, h.io, fun b o hb => h.more b o (Nat.lt_of_lt_of_le hb hm), h.lt⟩

/-- Others step; blocks below n stand, and all of ours are below n. -/
theorem Sim.abide (S : Sim E V0 io0 W0 C s a W) {n : Nat} {V' : Nat → Nat → Prop} {io' : Io} {W' : World} (hA : Ab n C.V V' C.io io' W W') (hio : IoOK E.MI io' W') (hn : W0.heap.size ≤ n) (hb : ∀ k b, C.box k = some b → b < n) (hq : ∀ k v, C.lv k ≠ some (v, true))
    (hd : DfOK W0 W' a.defers) : Sim E V0 io0 W0 { C with V := V', io := io' } s a W' := by
  have hle : CxLe C { C with V := V', io := io' } W W' := ⟨hA.st, fun _ _ h => h, fun k cu al h => ⟨cu, al, h, Nat.le_refl _, fun h _ => ⟨h, rfl⟩⟩, hA.io, hA.size⟩
  have hV0 : ∀ b o, V0 b o → V' b o := fun b o h => hA.more b o (Nat.lt_of_lt_of_le (S.old0 b o h) hn) (S.V0V b o h)
  have hVn : ∀ b o, V' b o → V0 b o ∨ (W0.heap.size ≤ b ∧ b < W'.heap.size) := fun b o h => by
    rcases Nat.lt_or_ge b W.heap.size with hlt | hge
    · exact (S.Vn b o (hA.st.vol b o hlt h)).imp id fun h' => ⟨h'.1, hA.lt b o h⟩
    · exact .inr ⟨Nat.le_trans S.kp.size hge, hA.lt b o h⟩
  refine { S with tm := ?_, df := hd, bx := ?_, bxV := ?_, tl := ?_, Vn := hVn, V0V := hV0, iok := hio, gl := ?_, kp := ?_, gh := ?_ }
  · intro t x hx
    obtain ⟨v, h1, h2⟩ := S.tm t x hx
    exact ⟨v, h1, h2.mono E.hT hle⟩
  · intro k v hv
    obtain ⟨b, cs, ty, h1, h2, h3, h4, h5⟩ := S.bx k v hv
    exact ⟨b, cs, ty, h1, (hA.old b (hb k b h1) (Cell.io_none S.iok h2 (fun _ _ h => nomatch h))).trans h2, h3, Rel.mono E.hT hle h4, h5⟩
  · intro k b o h
    exact hA.more b o (hb k b h) (S.bxV k b o h)
  · intro k v b lo hi o h
    exact absurd h (hq k v)
  · intro g u h
    exact Rel.mono E.hT (C := baseCx C.V C.io) (C' := baseCx V' io') ⟨hA.st, (fun _ _ h => by cases h), (fun _ _ _ h => by cases h), hA.io, hA.size⟩ (S.gl g u h)
  · exact ⟨hA.os.trans S.kp.os, hA.tape.trans S.kp.tape, hA.output.trans S.kp.output, Nat.le_trans S.kp.size hA.size,
      fun b hb' hi hm => (hA.old b (Nat.lt_of_lt_of_le hb' hn) ((S.kp.io b hb').trans hi)).trans (S.kp.block b hb' hi hm), fun b hb' => (hA.io b (Nat.lt_of_lt_of_le hb' S.kp.size)).trans (S.kp.io b hb')⟩
  · intro k x y tr hl h
    exact E.hJ _ _ _ _ _ _ _ (S.gh k x y tr hl h) (hA.less (Nat.le_trans S.n0 hn)) hio

/-! The rounds. -/

def jumpOf : Ex → Option Code
  | .norm => none
  | .exit j => some (.exit j)
  | .ret => some .ret
def stOf : Ex → LoopState
  | .norm => .ready
  | _ => .done

/-- Between rounds: what has been told, and how the loop's own activation stands. -/
structure RJ {ρ : Type} (E : Env) (V0 : Nat → Nat → Prop) (io0 : Io) (W0 : World) (t : Ty) (xs : List t.den) (B : t.den → St → (Ex → St → Option ρ) → Option ρ) (w : List Nat × List Nat) (K : Ex → St → Option ρ) (r : ρ) (b : Bool)
    (M' : Nat → Prop) (C1 : Cx) (l : Nat) (lp : Loop) (rs : List Nat) (tr : List AV) (V : Nat → Nat → Prop) (io : Io) (W : World) (pre : List t.den) (sp : St) (C' : Cx) (e : Ex) : Prop where
  htr : tr = pre.map (enc t)
  hV : C'.V = V
  hio : C'.io = io
  S : Sim E V0 io0 W0 C' sp ⟨lp.tmps, []⟩ W
  bx : ∀ k b, C'.box k = some b → C1.box k = some b
  lv : ∀ k v, C'.lv k ≠ some (v, true)
  hlp : W.heap[l]? = some (.loop { lp with state := stOf e, pending := jumpOf e })
  hrs : ∀ r ∈ rs, W.heap[r]? = some (.deferred (some []))
  vl : ∀ o, V l o
  go : e = .norm → ∃ rest, xs = pre ++ rest ∧ (b = true → rangeT B w rest sp K = some r) ∧ (b = false → pre = [] ∧ rangeF B w rest sp K = some r)
  st : e ≠ .norm → b = false ∧ K e sp = some r ∧ ∃ d rest, xs = d :: rest ∧ pre = [d]

section
variable {ρ : Type} {t : Ty} {xs : List t.den} {B : t.den → St → (Ex → St → Option ρ) → Option ρ} {w : List Nat × List Nat} {K : Ex → St → Option ρ} {r : ρ} {b : Bool} {M' : Nat → Prop} {C1 : Cx} {l : Nat} {lp : Loop} {rs : List Nat}
  {tr : List AV} {V V' : Nat → Nat → Prop} {io io' : Io} {W' : World} {pre : List t.den} {sp : St} {C' : Cx} {e : Ex}

theorem RJ.abide (R : RJ E V0 io0 W0 t xs B w K r b M' C1 l lp rs tr V io W pre sp C' e) {n : Nat} (hA : Ab n V V' io io' W W') (hio : IoOK E.MI io' W') (hn : W0.heap.size ≤ n) (hl : l < n) (hrs : ∀ r ∈ rs, r < n) (hb : ∀ k b, C1.box k = some b → b < n) :
    RJ E V0 io0 W0 t xs B w K r b M' C1 l lp rs tr V' io' W' pre sp { C' with V := V', io := io' } e := by
  obtain ⟨h1, rfl, rfl, h4, h5, h6, h7, h8, h9, h10, h11⟩ := R
  refine ⟨h1, rfl, rfl, h4.abide hA hio hn (fun k b h => hb k b (h5 k b h)) h6 (DfOK.nil _ _), h5, h6, ?_, fun r hr => ?_, fun o => hA.more l o hl (h9 o), h10, h11⟩
  · exact (hA.old l hl (Cell.io_none h4.iok h7 (fun _ _ h => nomatch h))).trans h7
  · exact (hA.old r (hrs r hr) (Cell.io_none h4.iok (h8 r hr) (fun _ _ h => nomatch h))).trans (h8 r hr)

theorem allMem_spec : ∀ {l w : List Nat}, allMem l w = true → ∀ k ∈ l, memN w k = true
  | [], w, _, k, h => nomatch h
  | x :: l, w, h, k, hk => by
    simp only [allMem, Bool.and_eq_true] at h
    rcases List.mem_cons.1 hk with rfl | hk
    · exact h.1
    · exact allMem_spec h.2 k hk

/-- A round is over. -/
theorem round_end (R : RJ E V0 io0 W0 t xs B w K r b M' C1 l lp rs tr V io W pre sp C' .norm) (hM' : ∀ x, M' x ↔ x = l ∨ E.M x ∨ ∃ k, C1.box k = some x) (hrs : ∀ r ∈ rs, ¬ M' r) (hl0 : W0.heap.size ≤ l) {D : Nat → Prop} (hD : ∀ k, D k → memN w.1 k = true)
    {a1 a3 : Act} {s3 : St} {c1 c3 : Cx} {w1 w3 : World} (F1 : Fm E.M D ⟨lp.tmps, []⟩ a1 C' c1 W w1) {lb : Loop} (F2 : Fm E.M D a1 a3 c1 c3 (w1.putObj l (.loop lb)) w3) (S3 : Sim E V0 io0 W0 c3 s3 a3 w3) {lb' : Loop} (h3 : w3.heap[l]? = some (.loop lb')) (lb'' : Loop) (h1 : l < w1.heap.size) :
    let C4 : Cx := { swCx w.1 (quietCx c3) with V := V }
    let W4 := w3.putObj l (.loop lb'')
    Sim E V0 io0 W0 C4 (s3.quiet.mask w) ⟨lp.tmps, []⟩ W4 ∧ (∀ k b, C4.box k = some b → C1.box k = some b) ∧ (∀ k v, C4.lv k ≠ some (v, true)) ∧ Keep M' io C4.io W W4 ∧ ∀ r ∈ rs, W4.heap[r]? = some (.deferred (some [])) := by
  intro C4 W4
  obtain ⟨_, rfl, rfl, h4, h5, h6, h7, h8, h9, h10, h11⟩ := R
  have hmine : ∀ x, mine E.M C' x → M' x := fun x h => by
    rw [hM']
    rcases h with h | ⟨k, h⟩ | ⟨k, v, lo, hi, h, _⟩
    · exact .inr (.inl h)
    · exact .inr (.inr ⟨k, h5 k x h⟩)
    · exact absurd h (h6 k v)
  have hnD : ∀ k, memN w.1 k = false → ¬ D k := fun k h hk => by rw [hD k hk] at h; cases h
  have hbx : ∀ k b, C4.box k = some b → C'.box k = some b := fun k b h => by
    obtain ⟨g1, g2⟩ := swCx_box (C := quietCx c3) h
    exact F1.bx k b (hnD k g1) (F2.bx k b (hnD k g1) g2)
  have hlv : ∀ k v, C4.lv k ≠ some (v, true) := fun k v h => by
    obtain ⟨cu, h⟩ := swCx_lv (w := w.1) (C := quietCx c3) h
    exact quiet_lv h
  have hdf : DfOK W0 W4 a3.defers := S3.df.imp fun r _ h => (World.putObj_heap_other (fun e => by subst e; rw [h3] at h; cases h)).trans h
  have S4 := ((S3.turn h3 (fun _ _ _ h => nomatch h) (fun _ _ h => nomatch h) hl0 rfl hdf : Sim E V0 io0 W0 c3 s3 a3 W4).quiet).mask w
  have hsz : a3.tmps.size = lp.tmps.size := F2.sz.trans F1.sz
  have S5 : Sim E V0 io0 W0 (swCx w.1 (quietCx c3)) (s3.quiet.mask w) ⟨lp.tmps, []⟩ W4 := S4.reAct (by rw [← S4.len]; exact hsz.symm) (fun k x hx => by
    cases hm : memN w.1 k with
    | true =>
      have : (swTs w.1 (s3.quiet.soft w.2).objs 0 (s3.quiet.soft w.2).tmps)[k]? = some x := hx
      rw [swTs_get, Nat.zero_add, hm] at this
      cases hq : (s3.quiet.soft w.2).tmps[k]? with
      | none => rw [hq] at this; cases this
      | some q => rw [hq] at this; cases this; exact .inl rfl
    | false => exact .inr ((F2.tm k (hnD k hm)).trans (F1.tm k (hnD k hm))).symm) (DfOK.nil _ _)
  have hsz1 : (w1.putObj l (.loop lb)).heap.size = w1.heap.size := by simp
  have hV : ∀ b o, C'.V b o → c3.V b o := fun b o h => by
    have hb := h4.base.old b o h
    rcases F1.kx.vo b o hb h with g | ⟨k0, v0, _, _, g, _⟩
    · rcases F2.kx.vo b o (by rw [hsz1]; exact Nat.lt_of_lt_of_le hb F1.kx.kp.size) g with g | ⟨k0, v0, lo0, hi0, g1, g2, g3⟩
      · exact g
      · rcases F1.kx.tl k0 v0 b lo0 hi0 g1 g2 g3 with ⟨k, v, _, _, g, _⟩ | g
        · exact absurd g (h6 k v)
        · omega
    · exact absurd g (h6 k0 v0)
  have S6 : Sim E V0 io0 W0 C4 (s3.quiet.mask w) ⟨lp.tmps, []⟩ W4 := S5.shrink hV h4.V0V (fun k b o h => h4.bxV k b o (hbx k b h)) hlv
  have hK : Keep M' C'.io C4.io W W4 := by
    have k1 := F1.kx.kp
    have k2 := F2.kx.kp
    refine ⟨k2.os.trans k1.os, k2.tape.trans k1.tape, k2.output.trans k1.output, ?_, fun x hx hi hm => ?_, fun x hx => ?_⟩
    · have := k1.size
      have := k2.size
      simp only [W4, World.putObj_size] at *
      omega
    · have hxl : x ≠ l := fun e => hm ((hM' x).2 (.inl e))
      have e1 := k1.block x hx hi (fun h => hm (hmine x h))
      have e2 := k2.block x (by rw [hsz1]; exact Nat.lt_of_lt_of_le hx k1.size) ((k1.io x hx).trans hi) (fun h => hm (hmine x (F1.kx.mine x hx h)))
      rw [World.putObj_heap_other hxl] at e2
      exact (World.putObj_heap_other hxl).trans (e2.trans e1)
    · exact (k2.io x (by rw [hsz1]; exact Nat.lt_of_lt_of_le hx k1.size)).trans (k1.io x hx)
  refine ⟨S6, fun k b h => h5 k b (hbx k b h), hlv, hK, fun r hr => ?_⟩
  have := h8 r hr
  exact (hK.block r (Array.getElem?_eq_some_iff.1 this).1 (Cell.io_none h4.iok this (fun _ _ h => nomatch h)) (hrs r hr)).trans this

/-- The world of others, as a loop leaves it to the function that it ranges over. -/
def rngEnv (E : Env) (V0 : Nat → Nat → Prop) (io0 : Io) (W0 : World) (t : Ty) (xs : List t.den) (B : t.den → St → (Ex → St → Option ρ) → Option ρ) (w : List Nat × List Nat) (K : Ex → St → Option ρ) (r : ρ) (b : Bool) (M' : Nat → Prop) (C1 : Cx) (l : Nat) (lp : Loop) (rs : List Nat) (n : Nat)
    (hn : W0.heap.size ≤ n) (hl : l < n) (hrs : ∀ r ∈ rs, r < n) (hb : ∀ k b, C1.box k = some b → b < n) : Env :=
  { E.toBase with
    M := M', n0 := n, J := fun tr V io W => ∃ pre sp C' e, RJ E V0 io0 W0 t xs B w K r b M' C1 l lp rs tr V io W pre sp C' e
    hJ := fun tr V V' io io' W W' ⟨pre, sp, C', e, R⟩ hA hio => ⟨pre, sp, _, e, R.abide hA hio hn hl hrs hb⟩ }

theorem yctr_ok {N : Nat} {p : Nat} {assign body : Code} {n : Nat} {hn : W0.heap.size ≤ n} {hl : l < n} {hrsn : ∀ r ∈ rs, r < n} {hbn : ∀ k b, C1.box k = some b → b < n}
    (hA : ∀ {D : Nat → Prop} {a0 : Act} {C0 : Cx} {Wa : World}, (∀ k ∈ dsts assign, D k) → BOK (ρ := ρ) (some l) D a0 C0 Wa E V0 io0 W0 assign (evC X N assign))
    (hB : ∀ {D : Nat → Prop} {a0 : Act} {C0 : Cx} {Wa : World}, (∀ k ∈ dsts body, D k) → BOK (ρ := ρ) (some l) D a0 C0 Wa E V0 io0 W0 body (evC X N body))
    (hBd : B = fun x s K => evC X N assign (s.put (some p) (enc t x)) (asgK (evC X N body) K)) (h1 : lp.params = #[p]) (h2 : lp.assign = assign) (h3 : lp.body = body)
    (hmem : ∀ k ∈ p :: (dsts assign ++ dsts body), memN w.1 k = true) (hM' : ∀ x, M' x ↔ x = l ∨ E.M x ∨ ∃ k, C1.box k = some x) (hrs : ∀ r ∈ rs, ¬ M' r) (hl0 : W0.heap.size ≤ l) :
    YCtr (rngEnv E V0 io0 W0 t xs B w K r b M' C1 l lp rs n hn hl hrsn hbn) b t xs (.func (.yield l) #[] #[]) := by
  intro pre d rest hxs hbp V io W vs hb0 hnW hMV hJ hvs
  obtain ⟨pre', sp, C', e, R⟩ := hJ
  have hpp := map_enc_inj t R.htr
  subst hpp
  have he : e = .norm := by
    by_cases he : e = .norm
    · exact he
    · obtain ⟨hbf, _, d', rest', _, hp⟩ := R.st he
      rw [hbp hbf] at hp
      cases hp
  subst he
  obtain ⟨rest', hr1, hr2, hr3⟩ := R.go rfl
  have hrr : rest' = d :: rest := List.append_cancel_left (hr1.symm.trans hxs)
  subst hrr
  simp only [RelV] at hvs
  obtain ⟨v, vs', rfl, hv, hvs'⟩ := hvs
  subst hvs'
  have hVR : VR E.TR C' W (enc t d) v := by
    have : VR E.TR (baseCx V io) W (enc t d) v := hv
    exact this.mono E.hT (CxLe.ofBase C' R.hV R.hio)
  have hlp := R.hlp
  refine .inr ⟨l, rfl, _, _, _, _, run_yield hlp (by simp [h1]), ?_⟩
  have htm : (Array.zip lp.params #[v]).foldl (fun (tmps : Array Value) (x : Nat × Value) => tmps.setIfInBounds x.1 x.2) lp.tmps = lp.tmps.setIfInBounds p v := by rw [h1]; simp
  have hD1 : ∀ k, k ∈ p :: (dsts assign ++ dsts body) → memN w.1 k = true := hmem
  refine roundIn_of_wpIn (F := Fence.wide) trivial ?_
  show lp.assign.wpIn (Fr (some l)) 0 E.P _ { tmps := (Array.zip lp.params #[v]).foldl (fun (tmps : Array Value) (x : Nat × Value) => tmps.setIfInBounds x.1 x.2) lp.tmps, defers := [] } W
  rw [htm, h2]
  have Sp : Sim E V0 io0 W0 C' (sp.put (some p) (enc t d)) ⟨lp.tmps.setIfInBounds p v, []⟩ W := R.S.put (some p) hVR
  have F0 : Fm E.M (fun k => k ∈ p :: (dsts assign ++ dsts body)) ⟨lp.tmps, []⟩ ⟨lp.tmps.setIfInBounds p v, []⟩ C' C' W W := by
    have := fmA_put (some p) ⟨lp.tmps, []⟩ v
    exact ⟨this.1, fun k hk => this.2.1 k fun e => hk (by cases e; exact List.mem_cons_self ..), fun _ _ _ h => h, fun _ v _ h => ⟨v, h, rfl⟩, Kx.refl _ _ _⟩
  -- what is left to say of the rest, by the way in which the body is left
  obtain ⟨Kr, hev, hKr⟩ : ∃ Kr : Ex → St → Option ρ, evC X N assign (sp.put (some p) (enc t d)) (asgK (evC X N body) Kr) = some r ∧
      ∀ e s3, Kr e s3 = some r → b = (jumpOf e).isNone ∧ (e = .norm → ∃ rest1, xs = (pre ++ [d]) ++ rest1 ∧ (b = true → rangeT B w rest1 (s3.quiet.mask w) K = some r) ∧ (b = false → pre ++ [d] = [] ∧ rangeF B w rest1 (s3.quiet.mask w) K = some r)) ∧
        (e ≠ .norm → b = false ∧ K e (s3.quiet.mask w) = some r ∧ ∃ d1 rest1, xs = d1 :: rest1 ∧ pre ++ [d] = [d1]) := by
    cases hbb : b with
    | true =>
      have h := hr2 hbb
      rw [hBd] at h
      refine ⟨_, h, fun e s3 he => ?_⟩
      cases e with
      | norm => exact ⟨rfl, fun _ => ⟨rest, by rw [hxs]; simp, fun _ => by rw [hBd]; exact he, fun h => nomatch h⟩, fun h => absurd rfl h⟩
      | exit j => cases he
      | ret => cases he
    | false =>
      obtain ⟨hp, h⟩ := hr3 hbb
      subst hp
      rw [hBd] at h
      refine ⟨_, h, fun e s3 he => ?_⟩
      cases e with
      | norm => cases he
      | exit j => exact ⟨rfl, fun h => (by cases h), fun _ => ⟨rfl, he, d, rest, hxs, rfl⟩⟩
      | ret => exact ⟨rfl, fun h => (by cases h), fun _ => ⟨rfl, he, d, rest, hxs, rfl⟩⟩
  refine hA (D := fun k => k ∈ p :: (dsts assign ++ dsts body)) (a0 := ⟨lp.tmps, []⟩) (C0 := C') (Wa := W) (fun k hk => List.mem_cons_of_mem _ (List.mem_append_left _ hk)) _ r _ ?_ _ C' _ W hev Sp F0
  intro e s1 he c1 a1 w1 S1 F1
  cases e with
  | exit j => cases he
  | ret => cases he
  | norm =>
    have hlW : l < W.heap.size := (Array.getElem?_eq_some_iff.1 hlp).1
    have hnl : ∀ {c : Cx} {s : St} {a : Act} {w' : World} {x : Obj}, Sim E V0 io0 W0 c s a w' → (∀ k v, c.lv k ≠ some (v, true)) → w'.heap[l]? = some x → (∀ cs ty fr, x ≠ .cells cs ty fr) → ¬ mine E.M c l := fun S hlv hx hc h => by
      rcases h with h | ⟨k, h⟩ | ⟨k, v, _, _, h, _⟩
      · have := (S.hM l h).1
        have := S.n0
        omega
      · obtain ⟨u, hu⟩ := S.bxn k l h
        obtain ⟨b1, cs, ty, g1, g2, _⟩ := S.bx k u hu
        rw [h] at g1
        cases g1
        rw [hx] at g2
        cases g2
        exact hc _ _ _ rfl
      · exact hlv k v h
    have hl1 : w1.heap[l]? = some (.loop { lp with state := .ready, pending := none }) :=
      (F1.kx.kp.block l hlW (Cell.io_none R.S.iok hlp (fun _ _ h => nomatch h)) (hnl R.S R.lv hlp (fun _ _ _ h => nomatch h))).trans hlp
    refine ⟨_, run_beginRound hl1 rfl, ?_⟩
    refine Eq.mpr (congrArg (fun c : Code => c.wpIn (Fr (some l)) 0 E.P _ a1 _) h3) ?_
    have hdf1 : DfOK W0 (w1.putObj l (.loop { lp with state := .busy, pending := none })) a1.defers := S1.df.imp fun r _ h => (World.putObj_heap_other (fun e => by subst e; rw [hl1] at h; cases h)).trans h
    have S1' := S1.turn hl1 (o' := .loop { lp with state := .busy, pending := none }) (fun _ _ _ h => nomatch h) (fun _ _ h => nomatch h) hl0 rfl hdf1
    have hlw1 : l < w1.heap.size := (Array.getElem?_eq_some_iff.1 hl1).1
    refine hB (D := fun k => k ∈ p :: (dsts assign ++ dsts body)) (a0 := a1) (C0 := c1) (Wa := w1.putObj l (.loop { lp with state := .busy, pending := none })) (fun k hk => List.mem_cons_of_mem _ (List.mem_append_right _ hk)) Kr r _ ?_ _ c1 a1 _ he S1' (Fm.refl _ _ _ _ _)
    intro e s3 he3 c3 a3 w3 S3 F2
    obtain ⟨k1, k2, k3⟩ := hKr e s3 he3
    have hl2 : (w1.putObj l (.loop { lp with state := .busy, pending := none })).heap[l]? = some (.loop { lp with state := .busy, pending := none }) := World.putObj_heap_same hlw1
    have hnl2 : ¬ mine E.M c1 l := fun h => by
      rcases h with h | ⟨k, h⟩ | ⟨k, v, lo, hi, h, h', h''⟩
      · have := (S1.hM l h).1
        have := S1.n0
        omega
      · obtain ⟨u, hu⟩ := S1.bxn k l h
        obtain ⟨b1, cs, ty, g1, g2, _⟩ := S1.bx k u hu
        rw [h] at g1
        cases g1
        rw [hl1] at g2
        cases g2
      · obtain ⟨_, _, _, cs, ty, g4, _⟩ := S1.tl k v l lo hi lo h h' (Nat.le_refl _) h''
        rw [hl1] at g4
        cases g4
    have hl3 : w3.heap[l]? = some (.loop { lp with state := .busy, pending := none }) :=
      (F2.kx.kp.block l (by simpa using hlw1) (Cell.io_none S1'.iok hl2 (fun _ _ h => nomatch h)) hnl2).trans hl2
    obtain ⟨q1, q2, q3, q4, q5⟩ := round_end R hM' hrs hl0 hD1 F1 F2 S3 hl3 { lp with state := stOf e, pending := jumpOf e } hlw1
    have hl4 : (w3.putObj l (.loop { lp with state := stOf e, pending := jumpOf e })).heap[l]? = some (.loop { lp with state := stOf e, pending := jumpOf e }) := World.putObj_heap_same (Array.getElem?_eq_some_iff.1 hl3).1
    have fin : ∃ r', Ending.returned (Value.bool (jumpOf e).isNone) = .returned r' ∧ ∃ io', r' = .bool b ∧ Keep M' io io' W (w3.putObj l (.loop { lp with state := stOf e, pending := jumpOf e })) ∧ IoOK E.MI io' (w3.putObj l (.loop { lp with state := stOf e, pending := jumpOf e })) ∧
        ∃ pre1 sp1 C1' e1, RJ E V0 io0 W0 t xs B w K r b M' C1 l lp rs ((pre ++ [d]).map (enc t)) V io' (w3.putObj l (.loop { lp with state := stOf e, pending := jumpOf e })) pre1 sp1 C1' e1 :=
      ⟨_, rfl, _, by rw [k1], q4, q1.iok, pre ++ [d], _, _, e, ⟨rfl, rfl, rfl, q1, q2, q3, hl4, q5, R.vl, k2, k3⟩⟩
    cases e with
    | norm => exact ⟨_, _, run_endRound none hl3, fin⟩
    | exit j => exact ⟨_, _, run_endRound (some (.exit j)) hl3, fin⟩
    | ret => exact ⟨_, _, run_endRound (some .ret) hl3, fin⟩


theorem range_ok (hX : CtxOK E X) {N : Nat} {g : Operand} {ps : Array Tmp} {assign body : Code} {D : Nat → Prop} {a0 : Act} {C0 : Cx} {Wa : World}
    (hA : noRange assign = true → ∀ (l : Nat) {D : Nat → Prop} {a0 : Act} {C0 : Cx} {Wa : World}, (∀ k ∈ dsts assign, D k) → BOK (ρ := ρ) (some l) D a0 C0 Wa E V0 io0 W0 assign (evC X N assign))
    (hB : noRange body = true → ∀ (l : Nat) {D : Nat → Prop} {a0 : Act} {C0 : Cx} {Wa : World}, (∀ k ∈ dsts body, D k) → BOK (ρ := ρ) (some l) D a0 C0 Wa E V0 io0 W0 body (evC X N body))
    {K : Ex → St → Option ρ} {r : ρ} {Q : Exit → Act → World → Prop} (hK : KOK D a0 C0 Wa E V0 io0 W0 K r Q) (h : evC X N (.rangeFunc g ps assign body) s K = some r) (S : Sim E V0 io0 W0 C s a W) (hF : Fm E.M D a0 a C0 C Wa W) :
    (Code.rangeFunc g ps assign body).wpIn (Fr none) 0 E.P Q a W := by
  simp only [evC] at h
  split at h
  · rename_i f cap p hg hps
    split at h
    · rename_i it b hit hb
      split at h
      · rename_i t xs hxs
        cases hc : (noRange assign && (noRange body && allMem (p :: (dsts assign ++ dsts body)) (keepOf X.L body).1)) with
        | false => rw [hc] at h; cases h
        | true =>
        rw [hc] at h
        simp only [cond_true] at h
        cases t with
        | false => cases h
        | true =>
        simp only [cond_true] at h
        simp only [Bool.and_eq_true] at hc
        obtain ⟨hc1, hc2, hc3⟩ := hc
        have hpe : ps = #[p] := Array.ext' (by simpa using hps)
        subst hpe
        generalize hw : keepOf X.L body = w at h hc3
        have hgv := S.evO hX 0 g
        rw [hg] at hgv
        obtain ⟨fs, ys, ev, e1, e2⟩ := hgv.fn_inv
        simp only [RelV] at e1
        subst e1
        obtain ⟨hI, fn', hfn, hbody, hname⟩ := hX.I f it hit
        obtain ⟨rs, hd, hnd, hrs⟩ := S.df
        have hWs := S.kp.size
        let l := W.heap.size + 1
        -- the state at the first round
        have S0 : Sim E V0 io0 W0 (swCx w.1 (quietCx C)) (s.quiet.mask w) a W := S.quiet.mask w
        have S1 := S0.note (.deferred (some [])) False
        let W1 := W.alloc (.deferred (some []))
        have hs1 : W1.heap.size = l := by simp [W1, l]
        refine wpIn_rangeFunc fun fid _ => ?_
        let lp : Loop := { state := .ready, pending := none, fn := fid, tmps := a.tmps, params := #[p], assign, body, defers := W.heap.size }
        let W2 := W1.alloc (.loop lp)
        have S2 := S1.note (.loop lp) True
        have hs2 : W2.heap.size = W.heap.size + 2 := by simp [W2, W1]
        generalize hC1 : ({ { swCx w.1 (quietCx C) with V := fun b o' => (swCx w.1 (quietCx C)).V b o' ∨ (False ∧ b = W.heap.size) } with V := fun b o' => ((swCx w.1 (quietCx C)).V b o' ∨ (False ∧ b = W.heap.size)) ∨ (True ∧ b = W1.heap.size) } : Cx) = C1 at S2
        have hV1 : ∀ b o, C1.V b o ↔ C.V b o ∨ b = l := fun b o => by
          rw [← hC1]
          simp only [hs1]
          constructor
          · rintro ((h | h) | h)
            · exact .inl h
            · exact h.1.elim
            · exact .inr h.2
          · rintro (h | h)
            · exact .inl (.inl h)
            · exact .inr ⟨trivial, h⟩
        have hio1 : C1.io = C.io := by rw [← hC1]; rfl
        have hbx1 : ∀ k b, C1.box k = some b → C.box k = some b := fun k b h => by
          rw [← hC1] at h
          exact (swCx_box (C := quietCx C) h).2
        have hlv1 : ∀ k v, C1.lv k ≠ some (v, true) := fun k v h => by
          rw [← hC1] at h
          obtain ⟨cu, h⟩ := swCx_lv (w := w.1) (C := quietCx C) h
          exact quiet_lv h
        have hbcell : ∀ {k b : Nat}, C.box k = some b → ∃ cs ty, W.heap[b]? = some (.cells cs ty (0, 0)) := fun {k b} h => by
          obtain ⟨u, hu⟩ := S.bxn k b h
          obtain ⟨b1, cs, ty, g1, g2, _⟩ := S.bx k u hu
          rw [h] at g1
          cases g1
          exact ⟨cs, ty, g2⟩
        have hblt : ∀ {k b : Nat}, C.box k = some b → b < W.heap.size := fun h => by
          obtain ⟨cs, ty, g⟩ := hbcell h
          exact (Array.getElem?_eq_some_iff.1 g).1
        have hl2 : W2.heap[l]? = some (.loop lp) := by
          have := heap_alloc_new' W1 (.loop lp)
          rw [hs1] at this
          exact this
        have hold : ∀ {x : Nat} {o : Obj}, W.heap[x]? = some o → W2.heap[x]? = some o := fun h => heap_alloc_old' W1 _ (heap_alloc_old' W _ h)
        have hsame : ∀ x, x < W.heap.size → W2.heap[x]? = W.heap[x]? := fun x hx => by
          have : W.heap[x]? = some W.heap[x] := Array.getElem?_eq_getElem hx
          rw [hold this, this]
        have hr0 : W2.heap[W.heap.size]? = some (.deferred (some [])) := heap_alloc_old' W1 _ (heap_alloc_new' W _)
        have hrs2 : ∀ r ∈ W.heap.size :: rs, W2.heap[r]? = some (.deferred (some [])) := fun r hr => by
          rcases List.mem_cons.1 hr with rfl | hr
          · exact hr0
          · exact hold (hrs r hr).1
        have hrlt : ∀ r ∈ W.heap.size :: rs, r < W2.heap.size := fun r hr => (Array.getElem?_eq_some_iff.1 (hrs2 r hr)).1
        let M' : Nat → Prop := fun x => x = l ∨ E.M x ∨ ∃ k, C1.box k = some x
        have hMr : ∀ r ∈ W.heap.size :: rs, ¬ M' r := fun r hr h => by
          have h0 : W0.heap.size ≤ r := by
            rcases List.mem_cons.1 hr with rfl | hr
            · exact hWs
            · exact (hrs r hr).2
          rcases h with h | h | ⟨k, h⟩
          · have := hrs2 r hr
            rw [h, hl2] at this
            cases this
          · have := (S.hM r h).1
            have := S.n0
            omega
          · obtain ⟨cs, ty, g⟩ := hbcell (hbx1 k r h)
            have := hrs2 r hr
            rw [hold g] at this
            cases this
        have hbn : ∀ k b, C1.box k = some b → b < W2.heap.size := fun k b h => by
          have := hblt (hbx1 k b h)
          omega
        have S3 : Sim E V0 io0 W0 C1 (s.quiet.mask w) ⟨lp.tmps, []⟩ W2 := S2.reAct (a' := ⟨a.tmps, []⟩) S2.len (fun _ _ _ => .inr rfl) (DfOK.nil _ _)
        have hl0 : W0.heap.size ≤ l := by simp only [l]; omega
        have hln : l < W2.heap.size := by simp only [l]; omega
        have R0 : RJ E V0 io0 W0 it.t xs (fun x s K => evC X N assign (s.put (some p) (enc it.t x)) (asgK (evC X N body) K)) w K r b M' C1 l lp (W.heap.size :: rs) [] C1.V C1.io W2 [] (s.quiet.mask w) C1 .norm :=
          ⟨rfl, rfl, rfl, S3, fun _ _ h => h, hlv1, hl2, hrs2, fun o => (hV1 l o).2 (.inr rfl), fun _ => ⟨xs, rfl, fun hb => by subst hb; exact h, fun hb => by subst hb; exact ⟨rfl, h⟩⟩, fun h => absurd rfl h⟩
        have hMV : ∀ x, M' x → x < W2.heap.size ∧ ∀ o, C1.V x o := fun x hx => by
          rcases hx with rfl | hx | ⟨k, hx⟩
          · exact ⟨hln, fun o => (hV1 _ o).2 (.inr rfl)⟩
          · have h1 := (S.hM x hx).1
            have := S.n0
            exact ⟨by omega, fun o => (hV1 x o).2 (.inl (S.V0V x o ((S.hM x hx).2 o)))⟩
          · exact ⟨hbn k x hx, fun o => (hV1 x o).2 (.inl (S.bxV k x o (hbx1 k x hx)))⟩
        have hcap : RelV E.TR (baseCx C1.V C1.io) W2 (stL cap) ys := by
          refine RelV.mono E.hT (C := baseCx C.V C.io) ⟨⟨fun ad v hx _ => ?_, fun b o hb hv => ?_⟩, (fun _ _ h => by cases h), (fun _ _ _ h => by cases h), fun x hx => by show C1.io x = C.io x; rw [hio1], by omega⟩ (stV_rel e2)
          · obtain ⟨cs, ty, fr, g1, _⟩ := cells_of_cell hx
            exact (cell_of_block ((hold g1).trans g1.symm)).trans hx
          · rcases (hV1 b o).1 hv with h | h
            · exact h
            · simp only [l] at h
              omega
        have hcall := hI (rngEnv E V0 io0 W0 it.t xs (fun x s K => evC X N assign (s.put (some p) (enc it.t x)) (asgK (evC X N body) K)) w K r b M' C1 l lp (W.heap.size :: rs) W2.heap.size (by omega) hln hrlt hbn) rfl b C1.V C1.io W2 l (stL cap) ys xs
          S2.base (Nat.le_refl _) hMV ⟨[], _, C1, .norm, R0⟩ hcap hxs
          (yctr_ok (N := N) (p := p) (assign := assign) (body := body) (hA hc1 l) (hB hc2 l) rfl rfl rfl rfl (allMem_spec hc3) (fun _ => Iff.rfl) hMr hl0)
        refine ⟨l, [{ target := .collected W.heap.size, args := #[] }], W2, { target := .fn (.func f) ys.toArray, args := #[.func (.yield l) #[] #[]] }, W2, f, (Value.func (.yield l) #[] #[] :: ys).toArray, W2, run_enterLoop_outer .., ?_, fun _ _ => trivial, ?_, (fun h => nomatch h), ?_⟩
        · have e : (([] : List Value).toArray ++ Array.map a.eval #[Operand.const (Value.func (.yield l) #[] #[])] : Array Value) = #[Value.func (.yield l) #[] #[]] := by simp [Act.eval]
          simp only [resolve, ev, Deferred.ofValue, Sem.run_pure, e]
        · simp only [invoke, callFunc, Sem.run_bind, run_program, Result.andThen_ok, hfn, hbody, hname, Bool.false_eq_true, if_false, Sem.run_pure]
          congr 2
          apply Array.ext'
          simp
        · refine CallsIn.mono (callsIn_fr hcall) ?_
          rintro e1 W3 ⟨v, rfl, io', hk, hio, pre, sp, C', e, R⟩
          have hKe : K e sp = some r := by
            by_cases hee : e = .norm
            · subst hee
              obtain ⟨rest, g1, g2, g3⟩ := R.go rfl
              cases b with
              | true =>
                have := map_enc_inj it.t (show xs.map (enc it.t) = pre.map (enc it.t) from R.htr)
                subst this
                have : rest = [] := by simpa using g1
                subst this
                exact g2 rfl
              | false =>
                obtain ⟨rfl, g4⟩ := g3 rfl
                have hx : (xs.take 1).map (enc it.t) = ([] : List it.t.den).map (enc it.t) := R.htr
                have hx' := map_enc_inj it.t hx
                have : xs = [] := by
                  cases xs with
                  | nil => rfl
                  | cons x xs => simp at hx'
                subst this
                have : rest = [] := by simpa using g1.symm
                subst this
                exact g4
            · exact (R.st hee).2.1
          have hlp3 := R.hlp
          have hW4 := run_endLoop (P := E.P) hlp3 (by cases e <;> simp [stOf])
          have hk' : Keep M' C1.io io' W2 W3 := hk
          have hd4 : DfOK W0 (W3.putObj l (.loop { { lp with state := stOf e, pending := jumpOf e } with state := .exhausted })) (({ target := .collected W.heap.size, args := #[] } : Deferred) :: a.defers) := by
            refine ⟨W.heap.size :: rs, by rw [hd]; rfl, ?_, fun r hr => ⟨?_, ?_⟩⟩
            · rw [List.nodup_cons]
              exact ⟨fun h => by have := (Array.getElem?_eq_some_iff.1 (hrs _ h).1).1; omega, hnd⟩
            · have h3 := R.hrs r hr
              exact (World.putObj_heap_other (fun e => by subst e; rw [hlp3] at h3; cases h3)).trans h3
            · rcases List.mem_cons.1 hr with rfl | hr
              · exact hWs
              · exact (hrs r hr).2
          have S5 := R.S.turn hlp3 (o' := .loop { { lp with state := stOf e, pending := jumpOf e } with state := .exhausted }) (fun _ _ _ h => nomatch h) (fun _ _ h => nomatch h) hl0 (a' := { a with defers := ({ target := .collected W.heap.size, args := #[] } : Deferred) :: a.defers }) rfl hd4
          have F5 : Fm E.M D a { a with defers := ({ target := .collected W.heap.size, args := #[] } : Deferred) :: a.defers } C C' W (W3.putObj l (.loop { { lp with state := stOf e, pending := jumpOf e } with state := .exhausted })) := by
            refine ⟨rfl, fun _ _ => rfl, fun k b _ h => hbx1 k b (R.bx k b h), fun k v _ h => absurd h (R.lv k v), ⟨⟨hk'.os, hk'.tape, hk'.output, ?_, fun x hx hi hm => ?_, fun x hx => ?_⟩, fun k b h => .inl (hbx1 k b (R.bx k b h)), fun k v b lo hi h => absurd h (R.lv k v), fun b o _ h => .inl (by rw [R.hV]; exact (hV1 b o).2 (.inl h))⟩⟩
            · have := hk'.size
              simp only [World.putObj_size]
              omega
            · have hxl : x ≠ l := by simp only [l]; omega
              rw [World.putObj_heap_other hxl, hk'.block x (by omega) (by rw [hio1]; exact hi) (fun h => ?_), hsame x hx]
              rcases h with h | h | ⟨k, h⟩
              · exact hxl h
              · exact hm (.inl h)
              · exact hm (.inr (.inl ⟨k, hbx1 k x h⟩))
            · rw [R.hio, ← hio1]
              exact hk'.io x (by omega)
          have hq := hK e sp hKe C' _ _ S5 (hF.trans F5)
          refine ⟨_, _, hW4, ?_⟩
          cases e with
          | norm => exact hq
          | exit j => exact wpIn_exit hq
          | ret => exact wpIn_ret hq
      · cases h
    · cases h
  · cases h

end

end Ev
end Go.Proofs.YtidnikjkpbmhhaaDoor
