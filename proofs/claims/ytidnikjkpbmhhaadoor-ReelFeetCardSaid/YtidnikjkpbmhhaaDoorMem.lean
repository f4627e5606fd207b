/- Parts written in a tree; the bond behind a store, a new box, a slice that grows. -/
import Derived.Test.YtidnikjkpbmhhaaDoorOps
import Derived.Laws.CopyRow
set_option linter.unusedVariables false
namespace Go.Proofs.YtidnikjkpbmhhaaDoor
namespace Ev

variable {E : Env} {V0 : Nat → Nat → Prop} {io0 : Io} {W0 : World} {C : Cx} {s : St} {a : Act} {W : World} {X : Ctx}

mutual
theorem dec_rel {TR : TokRel} : ∀ {t : Ty} {v : AV} {d : t.den} {cs : List Value}, dec t v = some d → Rel TR C W v cs → CRel C.V W t d cs
  | .int, v, d, cs, h, hr => by
    cases v <;> simp only [dec] at h <;> first | (cases h; done) | skip
    rename_i n
    have e := Option.some.inj h
    subst e
    simp only [Rel] at hr
    exact hr
  | .bool, v, d, cs, h, hr => by
    cases v <;> simp only [dec] at h <;> first | (cases h; done) | skip
    rename_i n
    have e := Option.some.inj h
    subst e
    simp only [Rel] at hr
    exact hr
  | .last a, v, d, cs, h, hr => by
    cases v with
    | agg l =>
      match l, h with
      | [x], h =>
        simp only [dec] at h
        simp only [Rel, RelL] at hr
        obtain ⟨c, e, rfl, hl, h1, rfl⟩ := hr
        rw [List.append_nil]
        exact dec_rel (t := a) h h1
      | [], h => simp [dec] at h
      | _ :: _ :: _, h => simp [dec] at h
    | _ => simp [dec] at h
  | .cons a b, v, d, cs, h, hr => by
    cases v with
    | agg l =>
      match l, h with
      | x :: r, h =>
        simp only [dec] at h
        split at h
        · rename_i u w hu hw
          have e := Option.some.inj h
          subst e
          simp only [Rel, RelL] at hr
          obtain ⟨c, e, rfl, hl, h1, h2⟩ := hr
          exact ⟨c, e, rfl, dec_rel hu h1, decT_rel hw h2⟩
        · cases h
      | [], h => simp [dec] at h
    | _ => simp [dec] at h
  | .slice t, v, d, cs, h, hr => by
    cases v with
    | sl t' f l =>
      simp only [dec] at h
      split at h
      · rename_i e
        subst e
        have e := Option.some.inj h
        subst e
        simp only [Rel] at hr
        obtain ⟨A, c, e, h1, h2, _⟩ := hr
        exact ⟨A, c, e, h1, h2⟩
      · cases h
    | _ => simp [dec] at h
  | .arr n t, v, d, cs, h, hr => by
    cases v with
    | arr t' n' xs =>
      simp only [dec] at h
      split at h
      · rename_i e
        subst e
        split at h
        · rename_i e
          subst e
          have e := Option.some.inj h
          subst e
          simp only [Rel] at hr
          exact hr
        · cases h
      · cases h
    | _ => simp [dec] at h
theorem decT_rel {TR : TokRel} : ∀ {t : Ty} {l : List AV} {d : t.den} {cs : List Value}, decT t l = some d → RelL TR C W l cs → CRel C.V W t d cs
  | .int, l, d, cs, h, hr => by simp [decT] at h
  | .bool, l, d, cs, h, hr => by simp [decT] at h
  | .slice t, l, d, cs, h, hr => by simp [decT] at h
  | .arr n t, l, d, cs, h, hr => by simp [decT] at h
  | .last a, l, d, cs, h, hr => by
    match l, h with
    | [x], h =>
      simp only [decT] at h
      simp only [RelL] at hr
      obtain ⟨c, e, rfl, hl, h1, rfl⟩ := hr
      rw [List.append_nil]
      exact dec_rel (t := a) h h1
    | [], h => simp [decT] at h
    | _ :: _ :: _, h => simp [decT] at h
  | .cons a b, l, d, cs, h, hr => by
    match l, h with
    | x :: r, h =>
      simp only [decT] at h
      split at h
      · rename_i u w hu hw
        have e := Option.some.inj h
        subst e
        simp only [RelL] at hr
        obtain ⟨c, e, rfl, hl, h1, h2⟩ := hr
        exact ⟨c, e, rfl, dec_rel hu h1, decT_rel hw h2⟩
      · cases h
    | [], h => simp [decT] at h
end

theorem relL_split {TR : TokRel} : ∀ {l : List AV} {cs : List Value}, RelL TR C W l cs → ∀ (i : Nat) (x : AV), l[i]? = some x →
    ∃ A c B, cs = A ++ c ++ B ∧ A.length = sizeL (l.take i) ∧ Rel TR C W x c ∧ ∀ y d, y.size = x.size → Rel TR C W y d → RelL TR C W (l.set i y) (A ++ d ++ B) ∧ sizeL (l.set i y) = sizeL l
  | [], _, _, i, x, h => by simp at h
  | v :: l, cs, hr, 0, x, h => by
    simp only [RelL] at hr
    obtain ⟨c, d, rfl, hl, h1, h2⟩ := hr
    simp at h
    subst h
    refine ⟨[], c, d, by simp, by simp [sizeL], h1, fun y e hy he => ?_⟩
    simp only [List.set_cons_zero, RelL, sizeL, List.nil_append]
    exact ⟨⟨e, d, rfl, he.len, he, h2⟩, by omega⟩
  | v :: l, cs, hr, i + 1, x, h => by
    simp only [RelL] at hr
    obtain ⟨c, d, rfl, hl, h1, h2⟩ := hr
    obtain ⟨A, e, B, rfl, g1, g2, g3⟩ := relL_split h2 i x (by simpa using h)
    refine ⟨c ++ A, e, B, by simp, by simp [sizeL, g1, hl], g2, fun y f hy hf => ?_⟩
    obtain ⟨g4, g5⟩ := g3 y f hy hf
    simp only [List.set_cons_succ, RelL, sizeL]
    exact ⟨⟨c, A ++ f ++ B, by simp, hl, h1, g4⟩, by omega⟩

theorem flat_split {α : Type} {R : α → List Value → Prop} {sz : Nat} (hR : ∀ x c, R x c → c.length = sz) : ∀ {xs : List α} {cs : List Value}, Flat R xs cs → ∀ (i : Nat) (x : α), xs[i]? = some x →
    ∃ A c B, cs = A ++ c ++ B ∧ A.length = i * sz ∧ R x c ∧ ∀ y d, R y d → Flat R (xs.set i y) (A ++ d ++ B)
  | [], _, _, i, x, h => by simp at h
  | v :: l, cs, hr, 0, x, h => by
    obtain ⟨c, d, rfl, h1, h2⟩ := hr
    simp at h
    subst h
    exact ⟨[], c, d, by simp, by simp, h1, fun y e he => ⟨e, d, by simp, he, h2⟩⟩
  | v :: l, cs, hr, i + 1, x, h => by
    obtain ⟨c, d, rfl, h1, h2⟩ := hr
    obtain ⟨A, e, B, rfl, g1, g2, g3⟩ := flat_split hR h2 i x (by simpa using h)
    exact ⟨c ++ A, e, B, by simp, by simp [g1, hR _ _ h1, Nat.add_mul, Nat.add_comm], g2, fun y f hf => ⟨c, A ++ f ++ B, by simp, h1, g3 y f hf⟩⟩

theorem setP_rel {TR : TokRel} : ∀ {p : List Stp} {v u v' : AV} {cs ds : List Value}, Rel TR C W v cs → setP v p u = some v' → okP p → Rel TR C W u ds →
    ∃ A c B, cs = A ++ c ++ B ∧ A.length = offP p ∧ c.length = u.size ∧ Rel TR C W v' (A ++ ds ++ B) ∧ v'.size = v.size
  | [], v, u, v', cs, ds, h, hg, _, hu => by
    simp only [setP] at hg
    split at hg
    · rename_i hs
      have e := Option.some.inj hg
      subst e
      exact ⟨[], cs, [], by simp, rfl, by rw [h.len, hs], by simpa using hu, hs⟩
    · cases hg
  | x :: p, v, u, v', cs, ds, h, hg, hp, hu => by
    have hp' : okP p := fun y hy => hp y (by simp [hy])
    cases v with
    | agg l =>
      cases x with
      | fld i off =>
        simp only [setP] at hg
        split at hg
        · rename_i w hw
          split at hg
          · rename_i ho
            split at hg
            · rename_i y hy
              have e := Option.some.inj hg
              subst e
              simp only [Rel] at h
              obtain ⟨A, c, B, rfl, g1, g2, g3⟩ := relL_split h i w hw
              obtain ⟨A', c', B', rfl, g4, g5, g6, g7⟩ := setP_rel g2 hy hp' hu
              obtain ⟨g8, g9⟩ := g3 y _ g7 g6
              refine ⟨A ++ A', c', B' ++ B, by simp, by simp [offP, Stp.off, g1, g4, ho], g5, ?_, ?_⟩
              · simp only [Rel]
                simpa using g8
              · simp only [AV.size]
                exact g9
            · cases hg
          · cases hg
        · cases hg
      | idx i sz n => simp [setP] at hg
    | arr t n xs =>
      cases x with
      | fld i off => simp [setP] at hg
      | idx i sz m =>
        simp only [setP] at hg
        split at hg
        · rename_i hc
          obtain ⟨rfl, rfl⟩ := hc
          split at hg
          · rename_i y hy
            split at hg
            · rename_i d hd
              have e := Option.some.inj hg
              subst e
              simp only [Rel] at h
              obtain ⟨h1, h2⟩ := h
              have hx := hp (.idx i t.size m) (by simp)
              simp only [Stp.ok] at hx
              have hi : i.toNat < xs.length := by omega
              have he : xs.getD i.toNat t.dflt = xs[i.toNat] := by simp [List.getD, List.getElem?_eq_getElem hi]
              rw [he] at hy
              obtain ⟨A, c, B, rfl, g1, g2, g3⟩ := flat_split (fun x c h => CRel.length h) h2 i.toNat _ (List.getElem?_eq_getElem hi)
              obtain ⟨k1, k2⟩ := enc_rel (io := C.io) (TR := TR) g2 C rfl
              obtain ⟨A', c', B', rfl, g4, g5, g6, g7⟩ := setP_rel k1 hy hp' hu
              have g8 := g3 d _ (dec_rel hd g6)
              refine ⟨A ++ A', c', B' ++ B, by simp, by simp [offP, Stp.off, g1, g4], g5, ?_, rfl⟩
              simp only [Rel]
              exact ⟨by simpa using h1, by simpa using g8⟩
            · cases hg
          · cases hg
        · cases hg
    | _ => simp [setP] at hg

mutual
theorem crel_one {V W} : ∀ {t : Ty} {x : t.den} {cs : List Value}, CRel V W t x cs → ∀ u ∈ cs, u.oneCell' = true
  | .int, n, cs, h => by
    have h' : cs = [.int .i64 n] := h
    subst h'
    simp [Value.oneCell']
  | .bool, n, cs, h => by
    have h' : cs = [.bool n] := h
    subst h'
    simp [Value.oneCell']
  | .last a, x, cs, h => crel_one (t := a) h
  | .cons a b, x, cs, h => by
    obtain ⟨c, d, rfl, h1, h2⟩ := h
    intro u hu
    rcases List.mem_append.1 hu with hu | hu
    · exact crel_one h1 u hu
    · exact crel_one h2 u hu
  | .slice t, l, cs, h => by
    obtain ⟨A, c, rfl, _⟩ := h
    simp [Value.oneCell']
  | .arr n t, xs, cs, h => flat_one (t := t) h.2
theorem flat_one {V W} {t : Ty} : ∀ {xs : List t.den} {cs : List Value}, Flat (fun x c => CRel V W t x c) xs cs → ∀ u ∈ cs, u.oneCell' = true
  | [], cs, h => by
    have h' : cs = [] := h
    subst h'
    simp
  | x :: xs, cs, h => by
    obtain ⟨c, d, rfl, h1, h2⟩ := h
    intro u hu
    rcases List.mem_append.1 hu with hu | hu
    · exact crel_one h1 u hu
    · exact flat_one (xs := xs) h2 u hu
end

mutual
theorem clean_one {TR : TokRel} (hT : TokOK TR) : ∀ {v : AV} {cs : List Value}, clean v = true → Rel TR C W v cs → ∀ u ∈ cs, u.oneCell' = true
  | .poison, cs, h, hr => by simp [clean] at h
  | .undef, cs, h, hr => by simp [clean] at h
  | .tup _, cs, h, hr => by simp [clean] at h
  | .map _, cs, h, hr => by simp [clean] at h
  | .int n, cs, h, hr => by simp only [Rel] at hr; subst hr; simp [Value.oneCell']
  | .bool n, cs, h, hr => by simp only [Rel] at hr; subst hr; simp [Value.oneCell']
  | .agg l, cs, h, hr => by
    simp only [Rel] at hr
    simp only [clean] at h
    exact cleanL_one hT h hr
  | .arr t n xs, cs, h, hr => by
    simp only [Rel] at hr
    exact flat_one hr.2
  | .sl t f l, cs, h, hr => by simp only [Rel] at hr; obtain ⟨A, c, rfl, _⟩ := hr; simp [Value.oneCell']
  | .ref k p, cs, h, hr => by simp only [Rel] at hr; obtain ⟨b, _, _, rfl⟩ := hr; simp [Value.oneCell']
  | .cref v p, cs, h, hr => by simp only [Rel] at hr; obtain ⟨b, _, _, _, _, rfl⟩ := hr; simp [Value.oneCell']
  | .fn f x y, cs, h, hr => by simp only [Rel] at hr; obtain ⟨b, _, rfl, _⟩ := hr; simp [Value.oneCell']
  | .tok i t d, cs, h, hr => by simp only [Rel] at hr; obtain ⟨b, rfl, h⟩ := hr; simp [(hT.one _ _ _ _ _ _ _ h).1]
theorem cleanL_one {TR : TokRel} (hT : TokOK TR) : ∀ {l : List AV} {cs : List Value}, cleanL l = true → RelL TR C W l cs → ∀ u ∈ cs, u.oneCell' = true
  | [], cs, h, hr => by simp only [RelL] at hr; subst hr; simp
  | v :: l, cs, h, hr => by
    simp only [RelL] at hr
    obtain ⟨c, d, rfl, hl, h1, h2⟩ := hr
    simp only [cleanL, Bool.and_eq_true] at h
    intro u hu
    rcases List.mem_append.1 hu with hu | hu
    · exact clean_one hT h.1 h1 u hu
    · exact cleanL_one hT h.2 h2 u hu
end

/-- What a value's cells are. -/
theorem mkV_cells {TR : TokRel} (hT : TokOK TR) {v : AV} {cs : List Value} (hc : clean v = true) (h : Rel TR C W v cs) : (mkV v cs).cells = cs.toArray := by
  unfold mkV
  cases ha : isAg v with
  | true => simp [Value.cells]
  | false =>
    have hl := h.len
    rw [size_one ha] at hl
    match cs, hl with
    | [u], _ =>
      have := clean_one hT hc h u (by simp)
      cases u <;> simp_all [Value.cells, Value.oneCell']

theorem St.objs_lt {s : St} {k : Nat} {o : Ob} (h : s.objs.getD k .none = o) (ho : o ≠ .none) : s.objs[k]? = some o := by
  unfold List.getD at h
  cases hk : s.objs[k]? with
  | none => rw [hk] at h; exact absurd h.symm ho
  | some x => rw [hk] at h; simpa using h

/-- A box is written. -/
theorem Sim.write (S : Sim E V0 io0 W0 C s a W) {k b : Nat} {v v' : AV} {cs : Array Value} {ds : List Value} {ty : TypeId} (hb : C.box k = some b) (hcs : W.heap[b]? = some (.cells cs ty (0, 0)))
    (hk : s.objs[k]? = some (.box v)) (hr : Rel E.TR C W v' ds) (hsz : v'.size = v.size) :
    (CxLe C C W (W.setRow b ds.toArray) ∧ Kx E.M C C W (W.setRow b ds.toArray)) ∧ Sim E V0 io0 W0 C ⟨s.tmps, s.objs.set k (.box v')⟩ a (W.setRow b ds.toArray) := by
  have hbb := S.bx k v hk
  obtain ⟨b', cs', ty', h1, h2, h3, h4, h5⟩ := hbb
  obtain rfl : b = b' := by rw [hb] at h1; exact Option.some.inj h1
  have hnew : (W.setRow b ds.toArray).heap[b]? = some (.cells ds.toArray ty (0, 0)) := setRow_heap W b cs _ ty _ hcs
  have hoth : ∀ j, j ≠ b → (W.setRow b ds.toArray).heap[j]? = W.heap[j]? := fun j hj => setRow_other W b j _ hj
  have hsize : (W.setRow b ds.toArray).heap.size = W.heap.size := by simp [World.setRow]
  have hst : Stab C.V C.V W (W.setRow b ds.toArray) := ⟨fun x u hx hv => by
    have : x.block ≠ b := fun e => hv (by rw [e]; exact S.bxV k b _ hb)
    exact (cell_of_block (hoth _ this)).trans hx, fun _ _ _ h => h⟩
  have hle : CxLe C C W (W.setRow b ds.toArray) := ⟨hst, fun _ _ h => h, fun k cu al h => ⟨cu, al, h, Nat.le_refl _, fun h _ => ⟨h, rfl⟩⟩, fun _ _ => rfl, by rw [hsize]; exact Nat.le_refl _⟩
  have hset : ∀ (j : Nat) (o : Ob), (s.objs.set k (.box v'))[j]? = some o → (j = k ∧ o = .box v') ∨ (j ≠ k ∧ s.objs[j]? = some o) := fun j o hj => by
    rw [List.getElem?_set] at hj
    by_cases e : k = j
    · subst e
      simp only [if_true] at hj
      split at hj
      · exact .inl ⟨rfl, by simpa using hj.symm⟩
      · cases hj
    · rw [if_neg e] at hj
      exact .inr ⟨fun h => e h.symm, hj⟩
  have hws : Wst W0.heap.size W (W.setRow b ds.toArray) := Wst.of_block h5 (fun x e => by rw [hcs] at e; cases e) rfl rfl rfl hsize hoth
  have hio' : IoOK E.MI C.io (W.setRow b ds.toArray) := fun b1 t d h => by
    obtain ⟨es, ck, g1, g2⟩ := S.iok b1 t d h
    have : b1 ≠ b := fun e => by subst e; rw [hcs] at g1; cases g1
    exact ⟨es, ck, (hoth _ this).trans g1, g2⟩
  have hkx : Kx E.M C C W (W.setRow b ds.toArray) := ⟨⟨rfl, rfl, rfl, by rw [hsize]; exact Nat.le_refl _, fun j _ _ hm => hoth j fun e => hm (.inr (.inl ⟨k, by rw [e]; exact hb⟩)), fun _ _ => rfl⟩, fun _ _ h => .inl h, fun k v b lo hi h1 h2 h3 => .inl ⟨k, v, lo, hi, h1, h2, h3⟩, fun _ _ _ h => .inl h⟩
  refine ⟨⟨hle, hkx⟩, ?_⟩
  refine { S with tm := ?_, df := S.dfs hws, bx := ?_, bxn := ?_, ln := ?_, tl := ?_, Vn := ?_, iok := hio', gl := ?_, kp := S.kp.step hws, gh := fun j x y tr hjl hj => S.ghs hws hst (fun b o h => (S.Vn b o h).imp id fun h => ⟨h.1, Nat.lt_of_lt_of_le h.2 hws.size⟩) S.V0V hio' (S.gh j x y tr (by simpa using hjl) ?_) }
  · intro t x hx
    obtain ⟨u, g1, g2⟩ := S.tm t x hx
    exact ⟨u, g1, g2.mono E.hT hle⟩
  · intro j u hj
    rcases hset j _ hj with ⟨rfl, e⟩ | ⟨hne, hj⟩
    · cases e
      exact ⟨b, ds.toArray, ty, hb, hnew, by simpa using hr.len, by simpa using Rel.mono E.hT hle hr, h5⟩
    · obtain ⟨b1, c1, t1, g1, g2, g3, g4, g5⟩ := S.bx j u hj
      have : b1 ≠ b := fun e => hne (S.inj j k b (by rw [g1, e]) hb)
      exact ⟨b1, c1, t1, g1, (hoth _ this).trans g2, g3, Rel.mono E.hT hle g4, g5⟩
  · intro j b1 hj
    obtain ⟨u, hu⟩ := S.bxn j b1 hj
    by_cases e : k = j
    · subst e
      refine ⟨v', ?_⟩
      rw [List.getElem?_set, if_pos rfl, if_pos (List.getElem?_eq_some_iff.1 hk).1]
    · exact ⟨u, by rw [List.getElem?_set, if_neg e]; exact hu⟩
  · intro j v1 al
    rw [S.ln j v1 al]
    constructor
    · intro h
      have e : k ≠ j := fun e => by subst e; rw [hk] at h; cases h
      rw [List.getElem?_set, if_neg e]
      exact h
    · intro h
      rcases hset j _ h with ⟨_, e⟩ | ⟨_, h⟩
      · cases e
      · exact h
  · intro j v1 b1 lo hi o g1 g2 g3 g4
    obtain ⟨k1, k2, k3, c1, t1, k4, k5⟩ := S.tl j v1 b1 lo hi o g1 g2 g3 g4
    have : b1 ≠ b := fun e => k3 k (by rw [hb, e])
    exact ⟨k1, k2, k3, c1, t1, (hoth _ this).trans k4, k5⟩
  · intro b1 o h
    rw [hsize]
    exact S.Vn b1 o h
  · intro g u h
    exact Rel.mono E.hT (C := baseCx C.V C.io) (C' := baseCx C.V C.io) ⟨hst, (fun _ _ h => by cases h), (fun _ _ _ h => by cases h), fun _ _ => rfl, by rw [hsize]; exact Nat.le_refl _⟩ (S.gl g u h)
  · rcases hset j _ hj with ⟨_, e⟩ | ⟨_, h⟩
    · cases e
    · exact h

/-- A new box. -/
theorem Sim.newBox (S : Sim E V0 io0 W0 C s a W) {d : Nat} {v : AV} {cs : Array Value} {ty : TypeId} (hd : s.objs[d]? = some .none) (hr : Rel E.TR C W v cs.toList) :
    ∃ C', (CxLe C C' W (W.alloc (.cells cs ty)) ∧ Kx E.M C C' W (W.alloc (.cells cs ty))) ∧ C'.box d = some W.heap.size ∧ Sim E V0 io0 W0 C' ⟨s.tmps, s.objs.set d (.box v)⟩ a (W.alloc (.cells cs ty)) := by
  let C' : Cx := { C with box := fun k => if k = d then some W.heap.size else C.box k, V := fun b o => C.V b o ∨ b = W.heap.size }
  have hbd : C.box d = none := by
    cases h : C.box d with
    | none => rfl
    | some b =>
      obtain ⟨u, hu⟩ := S.bxn d b h
      rw [hd] at hu
      cases hu
  have hst : Stab C.V C'.V W (W.alloc (.cells cs ty)) := ⟨fun x u hx hv => by
    obtain ⟨c1, t1, f1, g1, _⟩ := cells_of_cell hx
    exact (cell_of_block ((heap_alloc_old' W _ g1).trans g1.symm)).trans hx, fun b o hb h => by
      rcases h with h | h
      · exact h
      · omega⟩
  have hle : CxLe C C' W (W.alloc (.cells cs ty)) := ⟨hst, fun k b h => by
      have : k ≠ d := fun e => by subst e; rw [hbd] at h; cases h
      simp only [C', if_neg this]; exact h, fun k cu al h => ⟨cu, al, h, Nat.le_refl _, fun h _ => ⟨h, rfl⟩⟩, fun _ _ => rfl, by simp⟩
  have hlt : ∀ {k b : Nat}, C.box k = some b → b < W.heap.size := fun {k b} h => by
    obtain ⟨u, hu⟩ := S.bxn k b h
    obtain ⟨b1, c1, t1, g1, g2, _⟩ := S.bx k u hu
    rw [h] at g1
    cases g1
    exact (Array.getElem?_eq_some_iff.1 g2).1
  have hsz := S.kp.size
  have hset : ∀ (j : Nat) (o : Ob), (s.objs.set d (.box v))[j]? = some o → (j = d ∧ o = .box v) ∨ (j ≠ d ∧ s.objs[j]? = some o) := fun j o hj => by
    rw [List.getElem?_set] at hj
    by_cases e : d = j
    · subst e
      simp only [if_true] at hj
      split at hj
      · exact .inl ⟨rfl, by simpa using hj.symm⟩
      · cases hj
    · rw [if_neg e] at hj
      exact .inr ⟨fun h => e h.symm, hj⟩
  have hvn : ∀ b o, C'.V b o → V0 b o ∨ (W0.heap.size ≤ b ∧ b < (W.alloc (.cells cs ty)).heap.size) := fun b o h => by
    rcases h with h | h
    · exact (S.Vn b o h).imp id fun h => ⟨h.1, Nat.lt_trans h.2 (by simp)⟩
    · subst h
      exact .inr ⟨S.kp.size, by simp⟩
  have hkx : Kx E.M C C' W (W.alloc (.cells cs ty)) := ⟨(Keep.alloc C.io W _).of_noM, fun k b h => by
    simp only [C'] at h
    split at h
    · cases h; exact .inr (Nat.le_refl _)
    · exact .inl h, fun k v b lo hi h1 h2 h3 => .inl ⟨k, v, lo, hi, h1, h2, h3⟩, fun _ _ _ h => .inl (.inl h)⟩
  refine ⟨C', ⟨hle, hkx⟩, by simp [C'], { S with tm := ?_, bx := ?_, bxn := ?_, inj := ?_, bxV := ?_, ln := ?_, tl := ?_, Vn := ?_, V0V := ?_, df := S.dfs (Wst.alloc 0 W _), iok := S.iok.alloc _, gl := ?_, kp := S.kp.step (Wst.alloc _ _ _), gh := fun j x y tr hjl hj => S.ghs (Wst.alloc _ _ _) hst hvn (fun b o h => .inl (S.V0V b o h)) (S.iok.alloc _) (S.gh j x y tr (by simpa using hjl) (by
    rcases hset j _ hj with ⟨_, e⟩ | ⟨_, h⟩
    · cases e
    · exact h)) }⟩
  · intro t x hx
    obtain ⟨u, g1, g2⟩ := S.tm t x hx
    exact ⟨u, g1, g2.mono E.hT hle⟩
  · intro j u hj
    rcases hset j _ hj with ⟨rfl, e⟩ | ⟨hne, hj⟩
    · cases e
      exact ⟨W.heap.size, cs, ty, by simp [C'], heap_alloc_new' W _, hr.len, Rel.mono E.hT hle hr, hsz⟩
    · obtain ⟨b1, c1, t1, g1, g2, g3, g4, g5⟩ := S.bx j u hj
      exact ⟨b1, c1, t1, hle.box _ _ g1, heap_alloc_old' W _ g2, g3, Rel.mono E.hT hle g4, g5⟩
  · intro j b1 hj
    by_cases e : j = d
    · subst e
      exact ⟨v, by rw [List.getElem?_set, if_pos rfl, if_pos (List.getElem?_eq_some_iff.1 hd).1]⟩
    · simp only [C', if_neg e] at hj
      obtain ⟨u, hu⟩ := S.bxn j b1 hj
      exact ⟨u, by rw [List.getElem?_set, if_neg (fun h => e h.symm)]; exact hu⟩
  · intro j j' b1 h1 h2
    by_cases e : j = d <;> by_cases e' : j' = d
    · rw [e, e']
    · simp only [C', if_pos e, if_neg e'] at h1 h2
      have := hlt h2
      cases h1
      omega
    · simp only [C', if_neg e, if_pos e'] at h1 h2
      have := hlt h1
      cases h2
      omega
    · simp only [C', if_neg e, if_neg e'] at h1 h2
      exact S.inj _ _ _ h1 h2
  · intro j b1 o h
    by_cases e : j = d
    · simp only [C', if_pos e] at h
      cases h
      exact .inr rfl
    · simp only [C', if_neg e] at h
      exact .inl (S.bxV j b1 o h)
  · intro j v1 al
    show C.lv j = _ ↔ _
    rw [S.ln j v1 al]
    constructor
    · intro h
      have e : d ≠ j := fun e => by subst e; rw [hd] at h; cases h
      rw [List.getElem?_set, if_neg e]
      exact h
    · intro h
      rcases hset j _ h with ⟨_, e⟩ | ⟨_, h⟩
      · cases e
      · exact h
  · intro j v1 b1 lo hi o g1 g2 g3 g4
    obtain ⟨k1, k2, k3, c1, t1, k4, k5⟩ := S.tl j v1 b1 lo hi o g1 g2 g3 g4
    refine ⟨.inl k1, k2, fun k' h => ?_, c1, t1, heap_alloc_old' W _ k4, k5⟩
    by_cases e : k' = d
    · simp only [C', if_pos e] at h
      cases h
      have := (Array.getElem?_eq_some_iff.1 k4).1
      omega
    · simp only [C', if_neg e] at h
      exact k3 k' h
  · intro b1 o h
    rcases h with h | h
    · exact (S.Vn b1 o h).imp id fun h => ⟨h.1, by simp; omega⟩
    · exact .inr ⟨by omega, by simp; omega⟩
  · exact fun b o h => .inl (S.V0V b o h)
  · intro g u h
    exact Rel.mono E.hT (C := baseCx C.V C.io) (C' := baseCx C'.V C'.io) ⟨hst, (fun _ _ h => by cases h), (fun _ _ _ h => by cases h), fun _ _ => rfl, by simp⟩ (S.gl g u h)

end Ev
end Go.Proofs.YtidnikjkpbmhhaaDoor
