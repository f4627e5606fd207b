/- The bond behind an append: lineages. -/
import Derived.Test.YtidnikjkpbmhhaaDoorMem
import Derived.Laws.Append
import Derived.Laws.AppendOwn
import Derived.Maps.AppendAt
import Derived.Deep.Upon
set_option linter.unusedVariables false
namespace Go.Proofs.YtidnikjkpbmhhaaDoor
namespace Ev

variable {E : Env} {V0 : Nat → Nat → Prop} {io0 : Io} {W0 : World} {C : Cx} {s : St} {a : Act} {W : World} {X : Ctx}

/-- Objects behind an append at d: lineage k (if any) is dead, d is alive at a new version. -/
structure Relin (objs objs' : List Ob) (d ver : Nat) (k : Option Nat) : Prop where
  len : objs'.length = objs.length
  at_d : objs'[d]? = some (.lin ver true)
  was_d : ∀ o, objs[d]? = some o → o = .none ∨ ∃ v al, o = .lin v al ∧ v < ver
  other : ∀ j, j ≠ d → k ≠ some j → objs'[j]? = objs[j]?
  at_k : ∀ j, k = some j → j ≠ d → ∃ cu, objs[j]? = some (.lin cu true) ∧ objs'[j]? = some (.lin cu false)

theorem relin_mk {objs : List Ob} {d : Nat} {ob : Ob} (hd : d < objs.length) (ho : objs.getD d .none = ob) (h1 : ∀ v, ob ≠ .box v) (h2 : ∀ a b m, ob ≠ .map a b m) :
    Relin objs (objs.set d (.lin (linOf ob) true)) d (linOf ob) none := by
  have hod : objs[d]? = some ob := by rw [List.getElem?_eq_getElem hd]; rw [← ho]; simp [List.getD, List.getElem?_eq_getElem hd]
  refine ⟨by simp, by simp [hd], fun o h => ?_, fun j hj _ => by rw [List.getElem?_set, if_neg (fun e => hj e.symm)], fun j h => by cases h⟩
  rw [hod] at h
  cases h
  cases ob with
  | none => exact .inl rfl
  | box v => exact absurd rfl (h1 v)
  | lin v al => exact .inr ⟨v, al, rfl, by simp [linOf]⟩
  | map a b m => exact absurd rfl (h2 a b m)

theorem relin_mk2 {objs : List Ob} {d k cu : Nat} {ob : Ob} (hd : d < objs.length) (ho : objs.getD d .none = ob) (h1 : ∀ v, ob ≠ .box v) (h2 : ∀ a b m, ob ≠ .map a b m) (hk : objs[k]? = some (.lin cu true)) :
    Relin objs ((objs.set k (.lin cu false)).set d (.lin (linOf ob) true)) d (linOf ob) (some k) := by
  have hod : objs[d]? = some ob := by rw [List.getElem?_eq_getElem hd]; rw [← ho]; simp [List.getD, List.getElem?_eq_getElem hd]
  refine ⟨by simp, by simp [hd], fun o h => ?_, fun j hj hk' => ?_, fun j h hj => ?_⟩
  · rw [hod] at h
    cases h
    cases ob with
    | none => exact .inl rfl
    | box v => exact absurd rfl (h1 v)
    | lin v al => exact .inr ⟨v, al, rfl, by simp [linOf]⟩
    | map a b m => exact absurd rfl (h2 a b m)
  · rw [List.getElem?_set, if_neg (fun e => hj e.symm), List.getElem?_set, if_neg (fun e => hk' (by rw [e]))]
  · cases h
    refine ⟨cu, hk, ?_⟩
    rw [List.getElem?_set, if_neg (fun e => hj e.symm), List.getElem?_set, if_pos rfl, if_pos (List.getElem?_eq_some_iff.1 hk).1]

/-- The bond behind an append (or a make): W' the world, V' what may turn now, (b, lo, hi) the room of the new slice. -/
theorem Sim.relin (S : Sim E V0 io0 W0 C s a W) {objs' : List Ob} {d ver : Nat} {k : Option Nat} (hR : Relin s.objs objs' d ver k) {W' : World} {V' : Nat → Nat → Prop} {b lo hi : Nat}
    (hst : Stab C.V V' W W') (hws : Wst W0.heap.size W W') (hsz : W.heap.size ≤ W'.heap.size) (hio : IoOK E.MI C.io W')
    (hbox : ∀ k b, C.box k = some b → W'.heap[b]? = W.heap[b]?) (hbV : ∀ k b o, C.box k = some b → V' b o)
    (htl : ∀ j v b1 lo1 hi1 o, C.lv j = some (v, true) → j ≠ d → k ≠ some j → C.tl j = (b1, lo1, hi1) → lo1 ≤ o → o < hi1 → V' b1 o ∧ (∃ cs ty, W'.heap[b1]? = some (.cells cs ty (0, 0)) ∧ hi1 ≤ cs.size) ∧ ¬ (b1 = b ∧ lo ≤ o ∧ o < hi))
    (hnew : ∀ o, lo ≤ o → o < hi → V' b o ∧ W0.heap.size ≤ b ∧ (∀ k', C.box k' ≠ some b) ∧ ∃ cs ty, W'.heap[b]? = some (.cells cs ty (0, 0)) ∧ hi ≤ cs.size)
    (hVn : ∀ b o, V' b o → V0 b o ∨ (W0.heap.size ≤ b ∧ b < W'.heap.size)) (hV0 : ∀ b o, V0 b o → V' b o) :
    ∃ C', (CxLe C C' W W' ∧ C'.box = C.box ∧ ∀ j v, C'.lv j = some (v, true) → j ≠ d → C.lv j = some (v, true) ∧ C'.tl j = C.tl j) ∧ C'.V = V' ∧ C'.io = C.io ∧ C'.lv d = some (ver, true) ∧ C'.tl d = (b, lo, hi) ∧ Sim E V0 io0 W0 C' ⟨s.tmps, objs'⟩ a W' := by
  let lv' : Nat → Option (Nat × Bool) := fun j => match objs'[j]? with | some (.lin v al) => some (v, al) | _ => none
  let C' : Cx := { C with V := V', lv := lv', tl := fun j => if j = d then (b, lo, hi) else C.tl j }
  have hlvd : lv' d = some (ver, true) := by simp [lv', hR.at_d]
  have hln : ∀ (j v : Nat) (al : Bool), lv' j = some (v, al) ↔ objs'[j]? = some (.lin v al) := fun j v al => by
    simp only [lv']
    split
    · rename_i v1 al1 h
      rw [h]
      constructor
      · intro h
        cases h
        rfl
      · intro h
        cases h
        rfl
    · rename_i h
      constructor
      · intro h'
        cases h'
      · intro h'
        exact absurd h' (h v al)
  have hle : CxLe C C' W W' := by
    refine ⟨hst, fun _ _ h => h, fun j cu al h => ?_, fun _ _ => rfl, hsz⟩
    rw [S.ln] at h
    by_cases e : j = d
    · subst e
      rcases hR.was_d _ h with h' | ⟨v, al', h', hv⟩
      · cases h'
      · cases h'
        exact ⟨ver, true, hlvd, by omega, fun _ he => by omega⟩
    · by_cases ek : k = some j
      · obtain ⟨cu', h1, h2⟩ := hR.at_k j ek e
        rw [h] at h1
        cases h1
        exact ⟨cu, false, (hln j cu false).2 h2, Nat.le_refl _, fun h => by cases h⟩
      · have h2 := (hR.other j e ek).trans h
        exact ⟨cu, al, (hln j cu al).2 h2, Nat.le_refl _, fun h _ => ⟨h, by simp [C', e]⟩⟩
  have alive : ∀ j v, lv' j = some (v, true) → j = d ∨ (j ≠ d ∧ k ≠ some j ∧ C.lv j = some (v, true)) := fun j v h => by
    by_cases e : j = d
    · exact .inl e
    · refine .inr ⟨e, fun ek => ?_, ?_⟩
      · obtain ⟨cu, h1, h2⟩ := hR.at_k j ek e
        rw [hln, h2] at h
        cases h
      · rw [hln] at h
        have ek : k ≠ some j := fun ek => by
          obtain ⟨cu, h1, h2⟩ := hR.at_k j ek e
          rw [h2] at h
          cases h
        rw [S.ln, ← hR.other j e ek]
        exact h
  have boxes : ∀ (j : Nat) (v : AV), objs'[j]? = some (.box v) ↔ s.objs[j]? = some (.box v) := fun j v => by
    by_cases e : j = d
    · subst e
      rw [hR.at_d]
      constructor
      · intro h
        cases h
      · intro h
        rcases hR.was_d _ h with h' | ⟨_, _, h', _⟩ <;> cases h'
    · by_cases ek : k = some j
      · obtain ⟨cu, h1, h2⟩ := hR.at_k j ek e
        rw [h1, h2]
        constructor <;> (intro h; cases h)
      · rw [hR.other j e ek]
  have others : ∀ (j x y : Nat) (tr : List AV), objs'[j]? = some (.map x y tr) ↔ s.objs[j]? = some (.map x y tr) := fun j x y tr => by
    by_cases e : j = d
    · subst e
      rw [hR.at_d]
      constructor
      · intro h
        cases h
      · intro h
        rcases hR.was_d _ h with h' | ⟨_, _, h', _⟩ <;> cases h'
    · by_cases ek : k = some j
      · obtain ⟨cu, h1, h2⟩ := hR.at_k j ek e
        rw [h1, h2]
        constructor <;> (intro h; cases h)
      · rw [hR.other j e ek]
  refine ⟨C', ⟨hle, rfl, fun j v hj hd => by
    rcases alive j v hj with e | ⟨e, ek, g⟩
    · exact absurd e hd
    · exact ⟨g, by simp only [C', if_neg e]⟩⟩, rfl, rfl, hlvd, by simp [C'], { S with tm := ?_, bx := ?_, bxn := ?_, bxV := hbV, ln := hln, tl := ?_, tld := ?_, Vn := hVn, V0V := hV0, df := S.dfs hws, iok := hio, gl := ?_, kp := S.kp.step hws, gh := fun j x y tr hjl hj => S.ghs hws hst hVn hV0 hio (S.gh j x y tr (by rw [← hR.len]; exact hjl) ((others j x y tr).1 hj)) }⟩
  · intro t x hx
    obtain ⟨u, g1, g2⟩ := S.tm t x hx
    exact ⟨u, g1, g2.mono E.hT hle⟩
  · intro j u hj
    obtain ⟨b1, c1, t1, g1, g2, g3, g4, g5⟩ := S.bx j u ((boxes j u).1 hj)
    exact ⟨b1, c1, t1, g1, (hbox j b1 g1).trans g2, g3, Rel.mono E.hT hle g4, g5⟩
  · intro j b1 hj
    obtain ⟨u, hu⟩ := S.bxn j b1 hj
    exact ⟨u, (boxes j u).2 hu⟩
  · intro j v1 b1 lo1 hi1 o g1 g2 g3 g4
    rcases alive j v1 g1 with rfl | ⟨e, ek, g1⟩
    · simp only [C', if_true] at g2
      cases g2
      exact hnew o g3 g4
    · simp only [C', if_neg e] at g2
      obtain ⟨k1, k2, k3, _⟩ := S.tl j v1 b1 lo1 hi1 o g1 g2 g3 g4
      obtain ⟨k4, k5, _⟩ := htl j v1 b1 lo1 hi1 o g1 e ek g2 g3 g4
      exact ⟨k4, k2, k3, k5⟩
  · intro j j' v v' b1 lo1 hi1 lo2 hi2 o g1 g2 hne g3 g4 h1 h2 h3 h4
    rcases alive j v g1 with ej | ⟨e, ek, q1⟩
    · rcases alive j' v' g2 with ej' | ⟨e', ek', q2⟩
      · exact hne (ej.trans ej'.symm)
      · simp only [C', if_pos ej] at g3
        simp only [C', if_neg e'] at g4
        cases g3
        exact (htl j' v' b lo2 hi2 o q2 e' ek' g4 h3 h4).2.2 ⟨rfl, h1, h2⟩
    · simp only [C', if_neg e] at g3
      rcases alive j' v' g2 with ej' | ⟨e', ek', q2⟩
      · simp only [C', if_pos ej'] at g4
        cases g4
        exact (htl j v b lo1 hi1 o q1 e ek g3 h1 h2).2.2 ⟨rfl, h3, h4⟩
      · simp only [C', if_neg e'] at g4
        exact S.tld j j' v v' b1 lo1 hi1 lo2 hi2 o q1 q2 hne g3 g4 h1 h2 h3 h4
  · intro g u h
    exact Rel.mono E.hT (C := baseCx C.V C.io) (C' := baseCx V' C.io) ⟨hst, (fun _ _ h => by cases h), (fun _ _ _ h => by cases h), fun _ _ => rfl, hsz⟩ (S.gl g u h)

/-- A new block with room behind 'lo'. -/
theorem Sim.grow (S : Sim E V0 io0 W0 C s a W) {objs' : List Ob} {d ver : Nat} {k : Option Nat} (hR : Relin s.objs objs' d ver k) {W1 : World} (h1 : W1 = W ∨ W1 = W.drew) {cs : Array Value} {ty : TypeId} {lo hi : Nat} (hhi : hi ≤ cs.size) :
    ∃ C', (CxLe C C' W (W1.alloc (.cells cs ty)) ∧ Kx E.M C C' W (W1.alloc (.cells cs ty))) ∧ C'.io = C.io ∧ C'.lv d = some (ver, true) ∧ C'.tl d = (W.heap.size, lo, hi) ∧ (∀ o, C'.V W.heap.size o → lo ≤ o) ∧ Sim E V0 io0 W0 C' ⟨s.tmps, objs'⟩ a (W1.alloc (.cells cs ty)) := by
  have hh : W1.heap = W.heap := by rcases h1 with rfl | rfl <;> rfl
  have hs1 : W1.heap.size = W.heap.size := by rw [hh]
  have hold : ∀ {b : Nat} {x : Obj}, W.heap[b]? = some x → (W1.alloc (.cells cs ty)).heap[b]? = some x := fun {b x} h => heap_alloc_old' W1 _ (by rw [hh]; exact h)
  have hnw : (W1.alloc (.cells cs ty)).heap[W.heap.size]? = some (.cells cs ty (0, 0)) := by rw [← hs1]; exact heap_alloc_new' W1 _
  have hks : Wst W0.heap.size W (W1.alloc (.cells cs ty)) := by
    rcases h1 with rfl | rfl
    · exact Wst.alloc _ _ _
    · exact (Wst.drew _ _).trans (Wst.alloc _ _ _)
  have hlt : ∀ {k b : Nat}, C.box k = some b → b < W.heap.size := fun {k b} h => by
    obtain ⟨u, hu⟩ := S.bxn k b h
    obtain ⟨b1, c1, t1, g1, g2, _⟩ := S.bx k u hu
    rw [h] at g1
    cases g1
    exact (Array.getElem?_eq_some_iff.1 g2).1
  have hsz : (W1.alloc (.cells cs ty)).heap.size = W.heap.size + 1 := by simp [hs1]
  have hk := S.kp.size
  obtain ⟨C', ⟨g1, gb, ga⟩, g2, g3, g4, g5, g6⟩ := S.relin hR (W' := W1.alloc (.cells cs ty)) (V' := fun b o => C.V b o ∨ (b = W.heap.size ∧ lo ≤ o ∧ o < hi)) (b := W.heap.size) (lo := lo) (hi := hi)
    ⟨fun x u hx hv => by
      obtain ⟨c1, t1, f1, g1, _⟩ := cells_of_cell hx
      exact (cell_of_block ((hold g1).trans g1.symm)).trans hx, fun b o hb h => by
      rcases h with h | h
      · exact h
      · omega⟩ hks (by omega)
    (fun b t d hb => by
      obtain ⟨es, ck, h1, h2⟩ := S.iok b t d hb
      exact ⟨es, ck, hold h1, h2⟩)
    (fun k b h => by
      have := hlt h
      obtain ⟨u, hu⟩ := S.bxn k b h
      obtain ⟨b1, c1, t1, g1, g2, _⟩ := S.bx k u hu
      rw [h] at g1
      cases g1
      rw [hold g2, g2])
    (fun k b o h => .inl (S.bxV k b o h))
    (fun j v b1 lo1 hi1 o q1 _ _ q2 q3 q4 => by
      obtain ⟨k1, k2, k3, c1, t1, k4, k5⟩ := S.tl j v b1 lo1 hi1 o q1 q2 q3 q4
      refine ⟨.inl k1, ⟨c1, t1, hold k4, k5⟩, fun h => ?_⟩
      have := (Array.getElem?_eq_some_iff.1 k4).1
      omega)
    (fun o q1 q2 => ⟨.inr ⟨rfl, q1, q2⟩, hk, fun k' h => by have := hlt h; omega, cs, ty, hnw, hhi⟩)
    (fun b o h => by
      rcases h with h | h
      · exact (S.Vn b o h).imp id fun h => ⟨h.1, by omega⟩
      · exact .inr ⟨by omega, by omega⟩)
    (fun b o h => .inl (S.V0V b o h))
  have hkx : Kx E.M C C' W (W1.alloc (.cells cs ty)) := ⟨by
    rw [g3]
    have h0 : Keep noM C.io C.io W W1 := by
      rcases h1 with rfl | rfl
      · exact Keep.refl _ _ _
      · exact Keep.drew _ _
    exact (h0.trans (Keep.alloc C.io W1 _)).of_noM, fun k b h => .inl (by rw [← gb]; exact h), fun j v b lo' hi' h1 h2 h3 => by
    by_cases e : j = d
    · subst e
      rw [g5] at h2
      cases h2
      exact .inr (Nat.le_refl _)
    · obtain ⟨q1, q2⟩ := ga j v h1 e
      exact .inl ⟨j, v, lo', hi', q1, by rw [← q2]; exact h2, h3⟩, fun _ _ _ h => .inl (by rw [g2]; exact .inl h)⟩
  refine ⟨C', ⟨g1, hkx⟩, g3, g4, g5, fun o h => ?_, g6⟩
  rw [g2] at h
  rcases h with h | h
  · rcases S.Vn _ _ h with h | h
    · have := S.old0 _ _ h
      omega
    · omega
  · exact h.2.1

/-- A slice that grows where it stands. -/
theorem Sim.inPlace (S : Sim E V0 io0 W0 C s a W) {objs' : List Ob} {d ver k cu : Nat} (hR : Relin s.objs objs' d ver (some k)) (hk : C.lv k = some (cu, true)) {b lo hi mid : Nat} (ht : C.tl k = (b, lo, hi)) (hm : lo ≤ mid) (hmh : mid ≤ hi)
    {cs cs' : Array Value} {ty : TypeId} (hcs : W.heap[b]? = some (.cells cs ty (0, 0))) (hs : cs'.size = cs.size) (hb0 : W0.heap.size ≤ b) (hsame : ∀ o, ¬ (lo ≤ o ∧ o < mid) → cs'[o]? = cs[o]?) (hhi : hi ≤ cs.size) (hnb : lo < hi → ∀ k', C.box k' ≠ some b)
    (hbV : lo < mid → ∀ o, lo ≤ o → o < hi → C.V b o) :
    ∃ C', (CxLe C C' W (W.setRow b cs') ∧ Kx E.M C C' W (W.setRow b cs')) ∧ C'.io = C.io ∧ C'.lv d = some (ver, true) ∧ C'.tl d = (b, mid, hi) ∧ (∀ o, lo ≤ o → o < mid → ¬ C'.V b o) ∧ Sim E V0 io0 W0 C' ⟨s.tmps, objs'⟩ a (W.setRow b cs') := by
  have hnew : (W.setRow b cs').heap[b]? = some (.cells cs' ty (0, 0)) := setRow_heap W b cs _ ty _ hcs
  have hoth : ∀ j, j ≠ b → (W.setRow b cs').heap[j]? = W.heap[j]? := fun j hj => setRow_other W b j _ hj
  have hsize : (W.setRow b cs').heap.size = W.heap.size := by simp
  have htail : ∀ o, lo ≤ o → o < hi → C.V b o ∧ W0.heap.size ≤ b ∧ (∀ k', C.box k' ≠ some b) ∧ ∃ cs ty, W.heap[b]? = some (.cells cs ty (0, 0)) ∧ hi ≤ cs.size := fun o h1 h2 => S.tl k cu b lo hi o hk ht h1 h2
  obtain ⟨C', ⟨g1, gb, ga⟩, g2, g3, g4, g5, g6⟩ := S.relin hR (W' := W.setRow b cs') (V' := fun b1 o => C.V b1 o ∧ ¬ (b1 = b ∧ lo ≤ o ∧ o < mid)) (b := b) (lo := mid) (hi := hi)
    ⟨fun x u hx hv => by
      by_cases e : x.block = b
      · have hn : ¬ (lo ≤ x.off ∧ x.off < mid) := fun h => hv (by rw [e]; exact hbV (by omega) _ h.1 (by omega))
        obtain ⟨c1, t1, f1, q1, q2, q3⟩ := cells_of_cell hx
        rw [e, hcs] at q1
        cases q1
        have h1 : (W.setRow b cs').heap[x.block]? = some (.cells cs' ty (0, 0)) := by rw [e]; exact hnew
        unfold World.cell?
        rw [h1]
        simp only [q2]
        rw [hsame _ hn]
        exact q3
      · exact (cell_of_block (hoth _ e)).trans hx, fun _ _ _ h => h.1⟩
    (Wst.of_block hb0 (fun x e => by rw [hcs] at e; cases e) rfl rfl rfl hsize hoth) (by omega)
    (fun b1 t d hb => by
      obtain ⟨es, ck, h1, h2⟩ := S.iok b1 t d hb
      have : b1 ≠ b := fun e => by subst e; rw [hcs] at h1; cases h1
      exact ⟨es, ck, (hoth _ this).trans h1, h2⟩)
    (fun k1 b1 h => by
      by_cases e : b1 = b
      · subst e
        by_cases hlt : lo < hi
        · exact absurd h (hnb hlt k1)
        · have : cs' = cs := by
            apply Array.ext_getElem?
            intro o
            exact hsame o (by omega)
          rw [hnew, hcs, this]
      · exact hoth _ e)
    (fun k1 b1 o h => ⟨S.bxV k1 b1 o h, fun h' => hnb (by omega) k1 (by rw [h, h'.1])⟩)
    (fun j v b1 lo1 hi1 o q1 hjd hjk q2 q3 q4 => by
      obtain ⟨k1, k2, k3, c1, t1, k4, k5⟩ := S.tl j v b1 lo1 hi1 o q1 q2 q3 q4
      have hjk' : k ≠ j := fun e => hjk (by rw [e])
      have hdis : b1 = b → ¬ (lo ≤ o ∧ o < hi) := fun e h => by
        subst e
        exact S.tld k j cu v b1 lo hi lo1 hi1 o hk q1 hjk' ht q2 h.1 h.2 q3 q4
      refine ⟨⟨k1, fun h => hdis h.1 ⟨h.2.1, by omega⟩⟩, ?_, fun h => hdis h.1 ⟨by omega, h.2.2⟩⟩
      by_cases e : b1 = b
      · subst e
        rw [hcs] at k4
        cases k4
        exact ⟨cs', _, hnew, by omega⟩
      · exact ⟨c1, t1, (hoth _ e).trans k4, k5⟩)
    (fun o q1 q2 => by
      obtain ⟨k1, k2, k3, _⟩ := htail o (by omega) q2
      exact ⟨⟨k1, fun h => by omega⟩, k2, k3, cs', ty, hnew, by omega⟩)
    (fun b1 o h => by
      rw [hsize]
      exact S.Vn b1 o h.1)
    (fun b1 o h => ⟨S.V0V b1 o h, fun h' => by have := S.old0 b1 o h; omega⟩)
  have hkx : Kx E.M C C' W (W.setRow b cs') := ⟨by
    rw [g3]
    refine ⟨rfl, rfl, rfl, by rw [hsize]; exact Nat.le_refl _, fun j hj hi' hm => ?_, fun _ _ => rfl⟩
    by_cases e : j = b
    · subst e
      by_cases hlt : lo < hi
      · exact absurd (.inr (.inr ⟨k, cu, lo, hi, hk, ht, hlt⟩)) hm
      · have : cs' = cs := by
          apply Array.ext_getElem?
          intro o
          exact hsame o (by omega)
        rw [hnew, hcs, this]
    · exact hoth j e, fun k b h => .inl (by rw [← gb]; exact h), fun j v b' lo' hi' h1 h2 h3 => by
    by_cases e : j = d
    · subst e
      rw [g5] at h2
      cases h2
      exact .inl ⟨k, cu, lo, hi, hk, ht, by omega⟩
    · obtain ⟨q1, q2⟩ := ga j v h1 e
      exact .inl ⟨j, v, lo', hi', q1, by rw [← q2]; exact h2, h3⟩, fun b1 o _ h => by
    by_cases e : b1 = b ∧ lo ≤ o ∧ o < mid
    · obtain ⟨rfl, e1, e2⟩ := e
      exact .inr ⟨k, cu, lo, hi, hk, ht, by omega⟩
    · exact .inl (by rw [g2]; exact ⟨h, e⟩)⟩
  refine ⟨C', ⟨g1, hkx⟩, g3, g4, g5, fun o h1 h2 h => ?_, g6⟩
  rw [g2] at h
  exact h.2 ⟨rfl, h1, h2⟩

/-- Nothing turns but the lineages: the new slice is full. -/
theorem Sim.relinFull (S : Sim E V0 io0 W0 C s a W) {objs' : List Ob} {d ver : Nat} {k : Option Nat} (hR : Relin s.objs objs' d ver k) :
    ∃ C', (CxLe C C' W W ∧ Kx E.M C C' W W) ∧ C'.io = C.io ∧ C'.lv d = some (ver, true) ∧ C'.V = C.V ∧ Sim E V0 io0 W0 C' ⟨s.tmps, objs'⟩ a W := by
  obtain ⟨C', ⟨g1, gb, ga⟩, g2, g3, g4, g5, g6⟩ := S.relin hR (W' := W) (V' := C.V) (b := 0) (lo := 0) (hi := 0) ⟨fun _ _ h _ => h, fun _ _ _ h => h⟩ (Wst.refl _ _) (Nat.le_refl _) S.iok (fun _ _ _ => rfl) S.bxV
    (fun j v b1 lo1 hi1 o q1 _ _ q2 q3 q4 => by
      obtain ⟨k1, k2, k3, k4⟩ := S.tl j v b1 lo1 hi1 o q1 q2 q3 q4
      exact ⟨k1, k4, fun h => by omega⟩)
    (fun o h1 h2 => by omega) S.Vn S.V0V
  have hkx : Kx E.M C C' W W := ⟨by rw [g3]; exact Keep.refl _ _ _, fun k b h => .inl (by rw [← gb]; exact h), fun j v b' lo' hi' h1 h2 h3 => by
    by_cases e : j = d
    · subst e
      rw [g5] at h2
      cases h2
      omega
    · obtain ⟨q1, q2⟩ := ga j v h1 e
      exact .inl ⟨j, v, lo', hi', q1, by rw [← q2]; exact h2, h3⟩, fun _ _ _ h => .inl (by rw [g2]; exact h)⟩
  exact ⟨C', ⟨g1, hkx⟩, g3, g4, g2, g6⟩

end Ev
end Go.Proofs.YtidnikjkpbmhhaaDoor
