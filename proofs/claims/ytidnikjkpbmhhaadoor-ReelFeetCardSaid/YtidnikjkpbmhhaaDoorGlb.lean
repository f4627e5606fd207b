/- What a row's list gives of the package variables, and what the arguments of a law read as. -/
import Derived.Test.YtidnikjkpbmhhaaDoorCon
import Derived.Test.YtidnikjkpbmhhaaDoorRows
import Derived.ProofKit
import Derived.OpenShut
import Derived.Deep.DeepHandedRow
import Derived.Deep.Slices
import Derived.Deep.Strs
import Derived.LaidMore
import Derived.LaidOnce
import Derived.LaidHandle
import Derived.Lib.SmallJoins
import Derived.WideKeyArgs
set_option linter.unusedVariables false
set_option linter.unusedSimpArgs false
set_option maxRecDepth 4000
namespace Go.Proofs.YtidnikjkpbmhhaaDoor
namespace Ev
open Go.ChangeShapes Go.WideShapes Go.ChangeAt Go.RowKit

abbrev noV : Nat → Nat → Prop := fun _ _ => False
abbrev noIo : Io := fun _ => none
def laidAll : List (String × DataW Unit) := [("bioscope/reel.ends", Rows.laid_bioscope_reel_ends), ("bioscope/reel.nowhere", Rows.laid_bioscope_reel_nowhere), ("bioscope/reel.start", Rows.laid_bioscope_reel_start)]

theorem c3 : Tryd.prog.cellsOf 3 = 1 := by kernel_rfl
theorem c24 : Tryd.prog.cellsOf 24 = 2 := by kernel_rfl
theorem c66 : Tryd.prog.cellsOf 66 = 6 := by kernel_rfl
theorem c22 : Tryd.prog.cellsOf 22 = 1 := by kernel_rfl
theorem c26 : Tryd.prog.cellsOf 26 = 6 := by kernel_rfl

section
variable {H : Type} {enc : TypeId × Value → H} {W : World} {base : Nat} {sp : Nat → Bool} {held : Bool} {fuel : Nat} {cs : List Value} {x : DataW H × List MemPlace}

theorem rd_int (h : DataW.trod enc Tryd.prog W base sp held fuel 3 cs = some x) : ∃ a : Int, cs = [.int .i64 a] ∧ x.1 = .lit (.int .i64 a) := by
  obtain ⟨n, h1, h2, _⟩ := DataW.trod_int Tryd.underlying3 h
  exact ⟨n, h1, by rw [h2]⟩

theorem two_of {α : Type} {cs : List α} (h : cs.length = 2) : ∃ a b, cs = [a, b] := by
  match cs, h with
  | [a, b], _ => exact ⟨a, b, rfl⟩
theorem six_of {α : Type} {cs : List α} (h : cs.length = 6) : ∃ a b c d e f, cs = [a, b, c, d, e, f] := by
  match cs, h with
  | [a, b, c, d, e, f], _ => exact ⟨a, b, c, d, e, f, rfl⟩

theorem rd_span (h : DataW.trod enc Tryd.prog W base sp held fuel 24 cs = some x) : ∃ s : Sp, cs = [.int .i64 s.1, .int .i64 s.2] ∧ x.1 = .agg [.lit (.int .i64 s.1), .lit (.int .i64 s.2)] := by
  obtain ⟨y0, y1, n, hx, hl, h0, h1⟩ := trod_struct2 Tryd.underlying24 h
  rw [c24] at hl
  obtain ⟨a, b, rfl⟩ := two_of hl
  dsimp only at h0 h1
  rw [c3] at h0 h1
  obtain ⟨k0, e0, z0⟩ := rd_int h0
  obtain ⟨k1, e1, z1⟩ := rd_int h1
  simp at e0 e1
  exact ⟨(k0, k1), by rw [e0, e1], by rw [hx, z0, z1]⟩

theorem rd_reel (h : DataW.trod enc Tryd.prog W base sp held fuel 66 cs = some x) : ∃ r : Rl, CRel noV W tReel r cs := by
  obtain ⟨y0, y1, y2, n, hx, hl, h0, h1, h2⟩ := Go.Deep.trod_struct3 Tryd.underlying66 h
  rw [c66] at hl
  obtain ⟨a, b, c, d, e, f, rfl⟩ := six_of hl
  dsimp only at h0 h1 h2
  rw [c24] at h0 h1 h2
  obtain ⟨k0, e0, _⟩ := rd_span h0
  obtain ⟨k1, e1, _⟩ := rd_span h1
  obtain ⟨k2, e2, _⟩ := rd_span h2
  simp at e0 e1 e2
  refine ⟨(k0, k1, k2), ?_⟩
  simp only [CRel]
  exact ⟨[_, _], [_, _, _, _], rfl, ⟨[_], [_], rfl, by rw [e0.1], by rw [e0.2]⟩, [_, _], [_, _], rfl, ⟨[_], [_], rfl, by rw [e1.1], by rw [e1.2]⟩, [_], [_], rfl, by rw [e2.1], by rw [e2.2]⟩

theorem choose_list {α : Type} {p : Nat → α → Prop} : ∀ n : Nat, (∀ i, i < n → ∃ a, p i a) → ∃ l : List α, l.length = n ∧ ∀ i a, l[i]? = some a → p i a
  | 0, _ => ⟨[], rfl, fun i a h => by simp at h⟩
  | n + 1, h => by
    obtain ⟨l, h1, h2⟩ := choose_list n fun i hi => h i (by omega)
    obtain ⟨a, ha⟩ := h n (by omega)
    refine ⟨l ++ [a], by simp [h1], fun i b hb => ?_⟩
    rw [List.getElem?_append] at hb
    split at hb
    · exact h2 i b hb
    · rename_i hi
      have hlt := (List.getElem?_eq_some_iff.1 hb).1
      have e : i = n := by simp at hlt; omega
      subst e
      rw [h1] at hb
      simp at hb
      rw [← hb]
      exact ha

theorem rd_reels (h : DataW.trod enc Tryd.prog W base sp held fuel 22 cs = some x) : ∃ l : List Rl, CRel noV W (.slice tReel) l cs ∧ ((x.1 = .nil ∧ l = []) ∨ ∃ es rs, x.1 = .slice es rs ∧ es.length = l.length) := by
  rcases Go.Deep.open_slice Tryd.underlying22 h with ⟨rfl, rfl⟩ | ⟨a, len, cap, m, n, D, Pl, rfl, hb, hlc, hcm, hm, rfl, hel⟩
  · refine ⟨[], ?_, .inl ⟨rfl, rfl⟩⟩
    simp only [CRel]
    exact ⟨none, 0, rfl, Nat.le_refl _, fun j y hj => by simp at hj⟩
  · have hmlen : len ≤ m := by
      rw [hm]
      split <;> omega
    obtain ⟨l, hl1, hl2⟩ := choose_list (α := Rl) (p := fun i r => ∃ cs', CRel noV W tReel r cs' ∧ cs'.length = 6 ∧ Cells noV W (a.add (i * 6)) cs') len fun i hi => by
      obtain ⟨cs', q1, q2⟩ := hel i (by omega)
      rw [c66] at q1
      obtain ⟨r, hr⟩ := rd_reel q2
      obtain ⟨_, w1, w2⟩ := World.cells?_some q1
      refine ⟨r, cs', hr, w1, fun j v hj => ⟨?_, fun h => h⟩⟩
      have hjl := (List.getElem?_eq_some_iff.1 hj).1
      rw [w2 j (by omega), hj]
    refine ⟨l, ?_, .inr ⟨_, _, rfl, by simp [hl1]⟩⟩
    simp only [CRel]
    refine ⟨some a, cap, by rw [hl1], by omega, fun j r hj => ?_⟩
    obtain ⟨cs', q1, q2, q3⟩ := hl2 j r hj
    exact ⟨a, cs', rfl, q1, q2, q3⟩

theorem rd_list (h : DataW.trod enc Tryd.prog W base sp held fuel 27 cs = some x) : ∃ l : List Int, CRel noV W tInts l cs ∧ ((x.1 = .nil ∧ l = []) ∨ ∃ es rs, x.1 = .slice es rs ∧ es.length = l.length) := by
  rcases Go.Deep.open_slice Tryd.underlying27 h with ⟨rfl, rfl⟩ | ⟨a, len, cap, m, n, D, Pl, rfl, hb, hlc, hcm, hm, rfl, hel⟩
  · refine ⟨[], ?_, .inl ⟨rfl, rfl⟩⟩
    simp only [CRel]
    exact ⟨none, 0, rfl, Nat.le_refl _, fun j y hj => by simp at hj⟩
  · have hmlen : len ≤ m := by
      rw [hm]
      split <;> omega
    obtain ⟨l, hl1, hl2⟩ := choose_list (α := Int) (p := fun i r => ∃ cs', CRel noV W .int r cs' ∧ cs'.length = 1 ∧ Cells noV W (a.add (i * 1)) cs') len fun i hi => by
      obtain ⟨cs', q1, q2⟩ := hel i (by omega)
      rw [c3] at q1
      obtain ⟨r, hr, _⟩ := rd_int q2
      obtain ⟨_, w1, w2⟩ := World.cells?_some q1
      refine ⟨r, cs', hr, w1, fun j v hj => ⟨?_, fun h => h⟩⟩
      have hjl := (List.getElem?_eq_some_iff.1 hj).1
      rw [w2 j (by omega), hj]
    refine ⟨l, ?_, .inr ⟨_, _, rfl, by simp [hl1]⟩⟩
    simp only [CRel]
    refine ⟨some a, cap, by rw [hl1], by omega, fun j r hj => ?_⟩
    obtain ⟨cs', q1, q2, q3⟩ := hl2 j r hj
    exact ⟨a, cs', rfl, q1, q2, q3⟩

theorem rd_film (h : DataW.trod enc Tryd.prog W base sp held fuel 26 cs = some x) : ∃ f : Fi, CRel noV W tRF f cs ∧ ∃ d0 d1 d2 d3, x.1 = .agg [d0, d1, d2, d3] ∧ ((d0 = .nil ∧ f.1 = []) ∨ ∃ es rs, d0 = .slice es rs ∧ es.length = f.1.length) := by
  obtain ⟨y0, y1, y2, y3, n, hx, hl, h0, h1, h2, h3⟩ := Go.Joins.trod_struct4 Tryd.underlying26 h
  rw [c26] at hl
  obtain ⟨a, b, c, d, e, f, rfl⟩ := six_of hl
  dsimp only at h0 h1 h2 h3
  rw [c22] at h0
  rw [c24] at h1 h2
  rw [c3] at h3
  obtain ⟨l, e0, z0⟩ := rd_reels h0
  obtain ⟨k1, e1, _⟩ := rd_span h1
  obtain ⟨k2, e2, _⟩ := rd_span h2
  obtain ⟨k3, e3, _⟩ := rd_int h3
  simp at e1 e2 e3
  simp only [List.drop_zero, List.take_succ_cons, List.take_zero] at e0
  refine ⟨(l, k1, k2, k3), ?_, y0.1, y1.1, y2.1, y3.1, by rw [hx], z0⟩
  simp only [CRel] at e0 ⊢
  exact ⟨[_], [_, _, _, _, _], rfl, e0, [_, _], [_, _, _], rfl, ⟨[_], [_], rfl, by rw [e1.1], by rw [e1.2]⟩, [_, _], [_], rfl, ⟨[_], [_], rfl, by rw [e2.1], by rw [e2.2]⟩, by rw [e3]⟩

theorem rd_ints {t n : Nat} (hu : Tryd.prog.underlying t = some (.array n 3)) (hc : Tryd.prog.cellsOf t = n) (h : DataW.trod enc Tryd.prog W base sp held fuel t cs = some x) : ∃ l : List Int, CRel noV W (.arr n .int) l cs := by
  obtain ⟨xs, m, hf, hx, hl, hn, hel⟩ := DataW.trod_array hu h
  rw [hc] at hl
  obtain ⟨l, hl1, hl2⟩ := choose_list (α := Int) (p := fun i k => cs[i]? = some (Value.int .i64 k)) n fun i hi => by
    have q := hel i hi
    rw [c3, Nat.mul_one] at q
    cases hxi : xs[i]? with
    | none => rw [List.getElem?_eq_none_iff] at hxi; omega
    | some y =>
      rw [hxi] at q
      obtain ⟨k, e, _⟩ := rd_int q
      refine ⟨k, ?_⟩
      have := congrArg (fun l : List Value => l[0]?) e
      simpa [List.getElem?_take, List.getElem?_drop] using this
  refine ⟨l, hl1, ?_⟩
  have key : ∀ (l : List Int) (cs : List Value), cs.length = l.length → (∀ (i : Nat) (k : Int), l[i]? = some k → cs[i]? = some (Value.int .i64 k)) → Flat (fun (x : Int) c => CRel noV W Ty.int x c) l cs := by
    intro l
    induction l with
    | nil => intro cs h _; exact List.eq_nil_of_length_eq_zero h
    | cons k r ih =>
      intro cs h h2
      match cs, h with
      | c :: cs, h =>
        refine ⟨[c], cs, rfl, ?_, ih cs (by simpa using h) fun i k' hk => ?_⟩
        · have := h2 0 k rfl
          simp at this
          rw [this]
          rfl
        · simpa using h2 (i + 1) k' (by simpa using hk)
  exact key l cs (by omega) hl2
end

/-! The package variables. -/
theorem gl_of_laid {W : World} (h : laidMetH Tryd.prog laidAll W) : BaseOK Bs noV noIo W := by
  refine ⟨fun b o h => h.elim, (fun b t d h => by cases h), fun g v hg => ?_⟩
  have hp : laidMet Tryd.prog [("bioscope/reel.nowhere", Rows.laid_bioscope_reel_nowhere), ("bioscope/reel.start", Rows.laid_bioscope_reel_start)] W := (show laidMet Tryd.prog _ W ∧ handlesMet Tryd.prog _ W from h).1
  obtain ⟨ps, ⟨g1, t1, cs1, f1, p1, q1, hg1, ht1, hv1, hd1, ⟨g2, t2, cs2, f2, p2, q2, hg2, ht2, hv2, hd2, _, _⟩, _⟩, _, _⟩ := hp
  obtain rfl := Option.some.inj ((show Tryd.prog.globalNamed "bioscope/reel.nowhere" = some 2 by kernel_rfl).symm.trans hg1)
  obtain rfl := Option.some.inj ((show (Tryd.prog.globals[2]?).map (·.type) = some 24 by kernel_rfl).symm.trans ht1)
  obtain rfl := Option.some.inj ((show Tryd.prog.globalNamed "bioscope/reel.start" = some 0 by kernel_rfl).symm.trans hg2)
  obtain rfl := Option.some.inj ((show (Tryd.prog.globals[0]?).map (·.type) = some 24 by kernel_rfl).symm.trans ht2)
  obtain ⟨s1, e1, z1⟩ := rd_span hd1
  obtain ⟨s2, e2, z2⟩ := rd_span hd2
  obtain ⟨g3, t3, cs3, f3, p3, hg3, ht3, hv3, hd3⟩ := h.funcs (n := "bioscope/reel.ends") (List.mem_cons_self ..)
  obtain rfl := Option.some.inj ((show Tryd.prog.globalNamed "bioscope/reel.ends" = some 1 by kernel_rfl).symm.trans hg3)
  obtain rfl := Option.some.inj ((show (Tryd.prog.globals[1]?).map (·.type) = some 111 by kernel_rfl).symm.trans ht3)
  obtain ⟨xs, m, hf, hx, hl, hn, hel⟩ := DataW.trod_array Tryd.underlying111 hd3
  have c111 : Tryd.prog.cellsOf 111 = 2 := by kernel_rfl
  have c110 : Tryd.prog.cellsOf 110 = 1 := by kernel_rfl
  rw [c111] at hl
  obtain ⟨v0, v1, e3⟩ := two_of hl
  obtain ⟨y0, y1, rfl⟩ := two_of hn
  have h0 := hel 0 (by omega)
  have h1 := hel 1 (by omega)
  rw [c110, e3] at h0 h1
  simp only [Nat.zero_mul, List.drop_zero, List.take_succ_cons, List.take_zero, Nat.one_mul, List.drop_succ_cons, List.getElem?_cons_zero, List.getElem?_cons_succ] at h0 h1
  have hds := congrArg Prod.fst hx
  have hds' : DataW.agg [.held [40, 98, 105, 111, 115, 99, 111, 112, 101, 47, 114, 101, 101, 108, 46, 102, 105, 108, 109, 41, 46, 108, 101, 97, 115, 116], .held [40, 98, 105, 111, 115, 99, 111, 112, 101, 47, 114, 101, 101, 108, 46, 102, 105, 108, 109, 41, 46, 109, 111, 115, 116]] = DataW.agg [y0.1, y1.1] := hds
  simp only [DataW.agg.injEq, List.cons.injEq, and_true] at hds'
  obtain ⟨n0, n1⟩ := hds'
  obtain ⟨d0, w0⟩ := y0
  obtain ⟨d1, w1⟩ := y1
  dsimp only at n0 n1
  subst n0 n1
  obtain rfl := func_of_trod (f0 := 117) Tryd.underlying110 (by kernel_rfl) h0
  obtain rfl := func_of_trod (f0 := 119) Tryd.underlying110 (by kernel_rfl) h1
  have add : ∀ g i : Nat, (⟨g, 0, none⟩ : Addr).add i = ⟨g, i, none⟩ := fun g i => by unfold Addr.add; split <;> simp_all
  have hz1 : s1 = (1, 0) := by
    have : DataW.agg [.lit (.int .i64 1), .lit (.int .i64 0)] = DataW.agg [.lit (.int .i64 s1.1), .lit (.int .i64 s1.2)] := z1
    simp only [DataW.agg.injEq, List.cons.injEq, DataW.lit.injEq, Lit.int.injEq, true_and, and_true] at this
    exact Prod.ext this.1.symm this.2.symm
  have hz2 : s2 = (-1, 99) := by
    have : DataW.agg [.lit (.int .i64 (-1)), .lit (.int .i64 99)] = DataW.agg [.lit (.int .i64 s2.1), .lit (.int .i64 s2.2)] := z2
    simp only [DataW.agg.injEq, List.cons.injEq, DataW.lit.injEq, Lit.int.injEq, true_and, and_true] at this
    exact Prod.ext this.1.symm this.2.symm
  subst hz1 hz2
  have hg' : findA GG g = some v := hg
  simp only [GG, findA] at hg'
  have cell : ∀ (b : Nat) (cs : Array Value) (ds : List Value), cs.toList = ds → (∀ i, W.cell? ⟨b, i, none⟩ = cs[i]?) → Cells noV W ⟨b, 0, none⟩ ds := fun b cs ds e hc i u hu => by
    rw [add]
    refine ⟨?_, fun h => h⟩
    rw [hc i, ← hu, ← e]
    simp
  split at hg'
  · rename_i e
    cases hg'
    subst e
    simp only [Rel, RelL]
    exact ⟨⟨0, 0, none⟩, _, ⟨[_], [_], rfl, rfl, rfl, [_], [], rfl, rfl, rfl, rfl⟩, cell 0 cs2 _ e2 (fun i => World.var?_cell hg2 hv2 i), (fun _ h => nomatch h), by simp [offP, add_zero]⟩
  · split at hg'
    · rename_i e
      cases hg'
      subst e
      simp only [Rel, RelL, RelV]
      exact ⟨⟨1, 0, none⟩, _, ⟨[_], [_], rfl, rfl, ⟨[], [], rfl, rfl, rfl⟩, [_], [], rfl, rfl, ⟨[], [], rfl, rfl, rfl⟩, rfl⟩, cell 1 cs3 _ e3 (fun i => World.var?_cell hg3 hv3 i), (fun _ h => nomatch h), by simp [offP, add_zero]⟩
    · split at hg'
      · rename_i e
        cases hg'
        subst e
        simp only [Rel, RelL]
        exact ⟨⟨2, 0, none⟩, _, ⟨[_], [_], rfl, rfl, rfl, [_], [], rfl, rfl, rfl, rfl⟩, cell 2 cs1 _ e1 (fun i => World.var?_cell hg1 hv1 i), (fun _ h => nomatch h), by simp [offP, add_zero]⟩
      · cases hg'

/-! What is left behind. -/
theorem same_of {io' : Io} {W W' : World} (hk : Keep noM noIo io' W W') {p : MemPlace} (hp : p.block < W.heap.size) : W.sameAt W' p := by
  have := hk.block p.block hp rfl fun e => e
  cases p with
  | cell b o => exact cell_of_block (a := ⟨b, o, none⟩) this
  | map b => exact this

theorem kept_of {io' : Io} {W W' : World} (hk : Keep noM noIo io' W W') (may : MemPlace → Prop) : W.keptBut W' may := by
  refine ⟨hk.os, hk.output, fun i hi => ?_⟩
  have e := hk.block i hi rfl fun e => e
  rw [e]
  cases W.heap[i]? with
  | none => exact rfl
  | some o =>
    cases o with
    | cells c t fr => exact ⟨rfl, rfl, rfl, fun _ _ => rfl⟩
    | map es ck => exact .inr ⟨rfl, rfl⟩
    | _ => exact rfl

theorem laidOut : laidOutB Tryd.prog = true := by kernel_rfl

theorem trods_stay {H : Type} {enc : TypeId × Value → H} {io' : Io} {W W' : World} (hk : Keep noM noIo io' W W') {sp' : Nat → Bool} (ts : List TypeId) : ∀ {vs : List Value} {ds : List (DataW H)} {ps : List MemPlace}, (ts.all fun t => Tryd.prog.readableRec t && decide (t < Tryd.prog.types.size)) = true → DataW.TrodAll enc Tryd.prog W 0 (fun _ => true) true ts vs ds ps → (∀ p ∈ ps, p.block < W.heap.size) → (∀ p ∈ ps, sp' p.block = true) → DataW.TrodAll enc Tryd.prog W' 0 sp' true ts vs ds ps := by
  induction ts with
  | nil =>
    intro vs ds ps _ h _ _
    obtain ⟨rfl, rfl, rfl⟩ := ChangeShapes.trodAll_nil h
    exact rfl
  | cons t ts ih =>
    intro vs ds ps ha h hl hs
    obtain ⟨v, vs', d, ds', p, q, rfl, rfl, rfl, h1, h2⟩ := ChangeShapes.trodAll_cons h
    rw [List.all_cons, Bool.and_eq_true, Bool.and_eq_true, decide_eq_true_eq] at ha
    exact ⟨p, q, Go.WideElems.Trod_stays laidOut ha.1.1 ha.1.2 h1 (fun x hx => same_of hk (hl x (List.mem_append_left _ hx))) (fun x hx => hs x (List.mem_append_left _ hx)), ih ha.2 h2 (fun x hx => hl x (List.mem_append_right _ hx)) (fun x hx => hs x (List.mem_append_right _ hx)), rfl⟩

theorem post_true {H : Type} {enc : TypeId × Value → H} {f : Func} {s : ChangeSpec} {W W' : World} {args : Array Value} {ds : List (DataW H)} {before : List MemPlace} {io' : Io} (hk : Keep noM noIo io' W W')
    (hW : DataW.Whole enc Tryd.prog f.params.toList s.vars false W args.toList ds [] before) (hv : s.vars = []) (hr : f.resultTypes = #[4]) (ht : (f.params.toList.all fun t => Tryd.prog.readableRec t && decide (t < Tryd.prog.types.size)) = true) (hs : s.fn H ds = { results := [.lit (.bool true)], args := ds }) :
    s.post enc Tryd.prog f false true false false W args (.bool true) W' := by
  have hlt := hW.lt
  have hW' := hW
  obtain ⟨p, q, h1, h2, rfl, _, _⟩ := hW
  rw [hv] at h2
  obtain rfl : q = [] := h2
  simp only [List.append_nil] at hlt hW'
  refine ⟨ds, [], p, [], p, [], hW', ?_, ?_, ?_, kept_of hk _, fun h => nomatch h⟩
  · rw [List.append_nil, hs, hr]
    exact ChangeShapes.trodAll_mk1 (RowKit.shut_bool Tryd.underlying4 _)
  · rw [List.append_nil, hs]
    exact trods_stay hk _ ht h1 hlt fun x hx => by simpa using hlt x hx
  · rw [List.append_nil, hs, hv]
    exact rfl

end Ev
end Go.Proofs.YtidnikjkpbmhhaaDoor
