/- What every proof of this seat leans on, part 4. -/
import Derived.Test.YtidnikjkpbmhhaaDoorRows
import Derived.ProofKit
import Derived.OpenShut
import Derived.Deep.DeepHandedRow
import Derived.Deep.Slices
import Derived.Deep.Strs
import Derived.LaidMore
import Derived.LaidOnce
import Derived.LaidHandle
import Derived.Lib.SmallJoins
import Derived.WideKeyArgs
import Derived.Test.YtidnikjkpbmhhaaDoorCards
import Derived.Test.YtidnikjkpbmhhaaDoorTie
import Derived.Test.YtidnikjkpbmhhaaDoorBaseC
/- The chapter examples, as the evaluator answers them. -/
set_option linter.unusedVariables false
set_option maxRecDepth 4000
namespace Go.Proofs.YtidnikjkpbmhhaaDoor
namespace Ev

noncomputable def SX84 : Ctx := { T := TT, G := GG, C := [(62, g62), (63, sg63), (68, g68), (96, g96)], L := [] }
noncomputable def sg84 : List AV → Option (Bool × AV) := selfG SX84 10 Tryd.f84
theorem sk84 : Good 84 sg84 := ⟨ctr_self (B := Bs) (ctxOK rfl rfl rfl rfl rfl rfl (AllC.cons k62 (AllC.cons sk63 (AllC.cons k68 (AllC.cons k96 AllC.nil))))) Tryd.func84, Tryd.f84, Tryd.func84, by kernel_rfl, by kernel_rfl⟩
noncomputable def SX38 : Ctx := { T := TT, G := GG, C := [(84, sg84)], L := [] }
noncomputable def sg38 : List AV → Option (Bool × AV) := selfG SX38 10 Tryd.f38
theorem sk38 : Good 38 sg38 := ⟨ctr_self (B := Bs) (ctxOK rfl rfl rfl rfl rfl rfl (AllC.cons sk84 AllC.nil)) Tryd.func38, Tryd.f38, Tryd.func38, by kernel_rfl, by kernel_rfl⟩
noncomputable def SX40 : Ctx := { T := TT, G := GG, C := [(82, sg82), (84, sg84)], L := [(7, [0, 3, 4, 5, 6, 7, 9, 10, 13, 14, 15, 16, 17, 18, 19, 20, 21, 22, 23, 24, 25, 26, 27, 28, 29, 33, 34, 35, 36, 37, 38, 39, 40, 41, 42, 43, 44, 45, 46, 47, 48, 49, 50, 51, 52, 53, 54], [1, 30])] }
noncomputable def sg40 : List AV → Option (Bool × AV) := selfG SX40 10 Tryd.f40
theorem sk40 : Good 40 sg40 := ⟨ctr_self (B := Bs) (ctxOK rfl rfl rfl rfl rfl rfl (AllC.cons sk82 (AllC.cons sk84 AllC.nil))) Tryd.func40, Tryd.f40, Tryd.func40, by kernel_rfl, by kernel_rfl⟩
noncomputable def SX25 : Ctx := { T := TT, G := GG, C := [(16, sg16), (20, sg20), (22, sg22), (24, sg24), (26, sg26), (28, sg28), (30, g30), (32, g32), (34, g34), (36, sg36), (38, sg38), (40, sg40), (42, sg42), (53, g53), (59, sg59), (60, g60)], L := [] }
noncomputable def sg25 : List AV → Option (Bool × AV) := selfG SX25 0 Tryd.f25
theorem sk25 : Good 25 sg25 := ⟨ctr_self (B := Bs) (ctxOK rfl rfl rfl rfl rfl rfl (AllC.cons sk16 (AllC.cons sk20 (AllC.cons sk22 (AllC.cons sk24 (AllC.cons sk26 (AllC.cons sk28 (AllC.cons k30 (AllC.cons k32 (AllC.cons k34 (AllC.cons sk36 (AllC.cons sk38 (AllC.cons sk40 (AllC.cons sk42 (AllC.cons k53 (AllC.cons sk59 (AllC.cons k60 AllC.nil))))))))))))))))) Tryd.func25, Tryd.f25, Tryd.func25, by kernel_rfl, by kernel_rfl⟩
theorem turned_eq : sg25 [] = some (true, .bool true) := by kernel_rfl
noncomputable def g25 : List AV → Option (Bool × AV)
  | [] => some (true, .bool true)
  | _ => none
theorem k25 : Good 25 g25 := ⟨ctr_of_each (fun args r h => by
  unfold g25 at h
  split at h
  · cases h
    exact ⟨sg25, sk25.1, turned_eq⟩
  · cases h), Tryd.f25, Tryd.func25, by kernel_rfl, by kernel_rfl⟩

end Ev
end Go.Proofs.YtidnikjkpbmhhaaDoor
/- What a row's list gives of the package variables, and what the arguments of a law read as. -/
set_option linter.unusedVariables false
set_option linter.unusedSimpArgs false
set_option maxRecDepth 4000
namespace Go.Proofs.YtidnikjkpbmhhaaDoor
namespace Ev
open Go.ChangeShapes Go.WideShapes Go.ChangeAt Go.RowKit

abbrev noV : Nat → Nat → Prop := fun _ _ => False
abbrev noIo : Io := fun _ => none
def laidAll : List (String × DataW Unit) := [("bioscope/reel.ends", Rows.laid_bioscope_reel_ends), ("bioscope/reel.nowhere", Rows.laid_bioscope_reel_nowhere), ("bioscope/reel.start", Rows.laid_bioscope_reel_start)]

theorem c3 : Tryd.prog.cellsOf 3 = 1 := by kernel_rfl
theorem c24 : Tryd.prog.cellsOf 24 = 2 := by kernel_rfl
theorem c66 : Tryd.prog.cellsOf 66 = 6 := by kernel_rfl
theorem c22 : Tryd.prog.cellsOf 22 = 1 := by kernel_rfl
theorem c26 : Tryd.prog.cellsOf 26 = 6 := by kernel_rfl

section
variable {H : Type} {enc : TypeId × Value → H} {W : World} {base : Nat} {sp : Nat → Bool} {held : Bool} {fuel : Nat} {cs : List Value} {x : DataW H × List MemPlace}

theorem rd_int (h : DataW.trod enc Tryd.prog W base sp held fuel 3 cs = some x) : ∃ a : Int, cs = [.int .i64 a] ∧ x.1 = .lit (.int .i64 a) := by
  obtain ⟨n, h1, h2, _⟩ := DataW.trod_int Tryd.underlying3 h
  exact ⟨n, h1, by rw [h2]⟩

theorem two_of {α : Type} {cs : List α} (h : cs.length = 2) : ∃ a b, cs = [a, b] := by
  match cs, h with
  | [a, b], _ => exact ⟨a, b, rfl⟩
theorem six_of {α : Type} {cs : List α} (h : cs.length = 6) : ∃ a b c d e f, cs = [a, b, c, d, e, f] := by
  match cs, h with
  | [a, b, c, d, e, f], _ => exact ⟨a, b, c, d, e, f, rfl⟩

theorem rd_span (h : DataW.trod enc Tryd.prog W base sp held fuel 24 cs = some x) : ∃ s : Sp, cs = [.int .i64 s.1, .int .i64 s.2] ∧ x.1 = .agg [.lit (.int .i64 s.1), .lit (.int .i64 s.2)] := by
  obtain ⟨y0, y1, n, hx, hl, h0, h1⟩ := trod_struct2 Tryd.underlying24 h
  rw [c24] at hl
  obtain ⟨a, b, rfl⟩ := two_of hl
  dsimp only at h0 h1
  rw [c3] at h0 h1
  obtain ⟨k0, e0, z0⟩ := rd_int h0
  obtain ⟨k1, e1, z1⟩ := rd_int h1
  simp at e0 e1
  exact ⟨(k0, k1), by rw [e0, e1], by rw [hx, z0, z1]⟩

theorem rd_reel (h : DataW.trod enc Tryd.prog W base sp held fuel 66 cs = some x) : ∃ r : Rl, CRel noV W tReel r cs := by
  obtain ⟨y0, y1, y2, n, hx, hl, h0, h1, h2⟩ := Go.Deep.trod_struct3 Tryd.underlying66 h
  rw [c66] at hl
  obtain ⟨a, b, c, d, e, f, rfl⟩ := six_of hl
  dsimp only at h0 h1 h2
  rw [c24] at h0 h1 h2
  obtain ⟨k0, e0, _⟩ := rd_span h0
  obtain ⟨k1, e1, _⟩ := rd_span h1
  obtain ⟨k2, e2, _⟩ := rd_span h2
  simp at e0 e1 e2
  refine ⟨(k0, k1, k2), ?_⟩
  simp only [CRel]
  exact ⟨[_, _], [_, _, _, _], rfl, ⟨[_], [_], rfl, by rw [e0.1], by rw [e0.2]⟩, [_, _], [_, _], rfl, ⟨[_], [_], rfl, by rw [e1.1], by rw [e1.2]⟩, [_], [_], rfl, by rw [e2.1], by rw [e2.2]⟩

theorem choose_list {α : Type} {p : Nat → α → Prop} : ∀ n : Nat, (∀ i, i < n → ∃ a, p i a) → ∃ l : List α, l.length = n ∧ ∀ i a, l[i]? = some a → p i a
  | 0, _ => ⟨[], rfl, fun i a h => by simp at h⟩
  | n + 1, h => by
    obtain ⟨l, h1, h2⟩ := choose_list n fun i hi => h i (by omega)
    obtain ⟨a, ha⟩ := h n (by omega)
    refine ⟨l ++ [a], by simp [h1], fun i b hb => ?_⟩
    rw [List.getElem?_append] at hb
    split at hb
    · exact h2 i b hb
    · rename_i hi
      have hlt := (List.getElem?_eq_some_iff.1 hb).1
      have e : i = n := by simp at hlt; omega
      subst e
      rw [h1] at hb
      simp at hb
      rw [← hb]
      exact ha

theorem rd_reels (h : DataW.trod enc Tryd.prog W base sp held fuel 22 cs = some x) : ∃ l : List Rl, CRel noV W (.slice tReel) l cs ∧ ((x.1 = .nil ∧ l = []) ∨ ∃ es rs, x.1 = .slice es rs ∧ es.length = l.length) := by
  rcases Go.Deep.open_slice Tryd.underlying22 h with ⟨rfl, rfl⟩ | ⟨a, len, cap, m, n, D, Pl, rfl, hb, hlc, hcm, hm, rfl, hel⟩
  · refine ⟨[], ?_, .inl ⟨rfl, rfl⟩⟩
    simp only [CRel]
    exact ⟨none, 0, rfl, Nat.le_refl _, fun j y hj => by simp at hj⟩
  · have hmlen : len ≤ m := by
      rw [hm]
      split <;> omega
    obtain ⟨l, hl1, hl2⟩ := choose_list (α := Rl) (p := fun i r => ∃ cs', CRel noV W tReel r cs' ∧ cs'.length = 6 ∧ Cells noV W (a.add (i * 6)) cs') len fun i hi => by
      obtain ⟨cs', q1, q2⟩ := hel i (by omega)
      rw [c66] at q1
      obtain ⟨r, hr⟩ := rd_reel q2
      obtain ⟨_, w1, w2⟩ := World.cells?_some q1
      refine ⟨r, cs', hr, w1, fun j v hj => ⟨?_, fun h => h⟩⟩
      have hjl := (List.getElem?_eq_some_iff.1 hj).1
      rw [w2 j (by omega), hj]
    refine ⟨l, ?_, .inr ⟨_, _, rfl, by simp [hl1]⟩⟩
    simp only [CRel]
    refine ⟨some a, cap, by rw [hl1], by omega, fun j r hj => ?_⟩
    obtain ⟨cs', q1, q2, q3⟩ := hl2 j r hj
    exact ⟨a, cs', rfl, q1, q2, q3⟩

theorem rd_list (h : DataW.trod enc Tryd.prog W base sp held fuel 27 cs = some x) : ∃ l : List Int, CRel noV W tInts l cs ∧ ((x.1 = .nil ∧ l = []) ∨ ∃ es rs, x.1 = .slice es rs ∧ es.length = l.length) := by
  rcases Go.Deep.open_slice Tryd.underlying27 h with ⟨rfl, rfl⟩ | ⟨a, len, cap, m, n, D, Pl, rfl, hb, hlc, hcm, hm, rfl, hel⟩
  · refine ⟨[], ?_, .inl ⟨rfl, rfl⟩⟩
    simp only [CRel]
    exact ⟨none, 0, rfl, Nat.le_refl _, fun j y hj => by simp at hj⟩
  · have hmlen : len ≤ m := by
      rw [hm]
      split <;> omega
    obtain ⟨l, hl1, hl2⟩ := choose_list (α := Int) (p := fun i r => ∃ cs', CRel noV W .int r cs' ∧ cs'.length = 1 ∧ Cells noV W (a.add (i * 1)) cs') len fun i hi => by
      obtain ⟨cs', q1, q2⟩ := hel i (by omega)
      rw [c3] at q1
      obtain ⟨r, hr, _⟩ := rd_int q2
      obtain ⟨_, w1, w2⟩ := World.cells?_some q1
      refine ⟨r, cs', hr, w1, fun j v hj => ⟨?_, fun h => h⟩⟩
      have hjl := (List.getElem?_eq_some_iff.1 hj).1
      rw [w2 j (by omega), hj]
    refine ⟨l, ?_, .inr ⟨_, _, rfl, by simp [hl1]⟩⟩
    simp only [CRel]
    refine ⟨some a, cap, by rw [hl1], by omega, fun j r hj => ?_⟩
    obtain ⟨cs', q1, q2, q3⟩ := hl2 j r hj
    exact ⟨a, cs', rfl, q1, q2, q3⟩

theorem rd_film (h : DataW.trod enc Tryd.prog W base sp held fuel 26 cs = some x) : ∃ f : Fi, CRel noV W tRF f cs ∧ ∃ d0 d1 d2 d3, x.1 = .agg [d0, d1, d2, d3] ∧ ((d0 = .nil ∧ f.1 = []) ∨ ∃ es rs, d0 = .slice es rs ∧ es.length = f.1.length) := by
  obtain ⟨y0, y1, y2, y3, n, hx, hl, h0, h1, h2, h3⟩ := Go.Joins.trod_struct4 Tryd.underlying26 h
  rw [c26] at hl
  obtain ⟨a, b, c, d, e, f, rfl⟩ := six_of hl
  dsimp only at h0 h1 h2 h3
  rw [c22] at h0
  rw [c24] at h1 h2
  rw [c3] at h3
  obtain ⟨l, e0, z0⟩ := rd_reels h0
  obtain ⟨k1, e1, _⟩ := rd_span h1
  obtain ⟨k2, e2, _⟩ := rd_span h2
  obtain ⟨k3, e3, _⟩ := rd_int h3
  simp at e1 e2 e3
  simp only [List.drop_zero, List.take_succ_cons, List.take_zero] at e0
  refine ⟨(l, k1, k2, k3), ?_, y0.1, y1.1, y2.1, y3.1, by rw [hx], z0⟩
  simp only [CRel] at e0 ⊢
  exact ⟨[_], [_, _, _, _, _], rfl, e0, [_, _], [_, _, _], rfl, ⟨[_], [_], rfl, by rw [e1.1], by rw [e1.2]⟩, [_, _], [_], rfl, ⟨[_], [_], rfl, by rw [e2.1], by rw [e2.2]⟩, by rw [e3]⟩

theorem rd_ints {t n : Nat} (hu : Tryd.prog.underlying t = some (.array n 3)) (hc : Tryd.prog.cellsOf t = n) (h : DataW.trod enc Tryd.prog W base sp held fuel t cs = some x) : ∃ l : List Int, CRel noV W (.arr n .int) l cs := by
  obtain ⟨xs, m, hf, hx, hl, hn, hel⟩ := DataW.trod_array hu h
  rw [hc] at hl
  obtain ⟨l, hl1, hl2⟩ := choose_list (α := Int) (p := fun i k => cs[i]? = some (Value.int .i64 k)) n fun i hi => by
    have q := hel i hi
    rw [c3, Nat.mul_one] at q
    cases hxi : xs[i]? with
    | none => rw [List.getElem?_eq_none_iff] at hxi; omega
    | some y =>
      rw [hxi] at q
      obtain ⟨k, e, _⟩ := rd_int q
      refine ⟨k, ?_⟩
      have := congrArg (fun l : List Value => l[0]?) e
      simpa [List.getElem?_take, List.getElem?_drop] using this
  refine ⟨l, hl1, ?_⟩
  have key : ∀ (l : List Int) (cs : List Value), cs.length = l.length → (∀ (i : Nat) (k : Int), l[i]? = some k → cs[i]? = some (Value.int .i64 k)) → Flat (fun (x : Int) c => CRel noV W Ty.int x c) l cs := by
    intro l
    induction l with
    | nil => intro cs h _; exact List.eq_nil_of_length_eq_zero h
    | cons k r ih =>
      intro cs h h2
      match cs, h with
      | c :: cs, h =>
        refine ⟨[c], cs, rfl, ?_, ih cs (by simpa using h) fun i k' hk => ?_⟩
        · have := h2 0 k rfl
          simp at this
          rw [this]
          rfl
        · simpa using h2 (i + 1) k' (by simpa using hk)
  exact key l cs (by omega) hl2
end

/-! The package variables. -/
theorem gl_of_laid {W : World} (h : laidMetH Tryd.prog laidAll W) : BaseOK Bs noV noIo W := by
  refine ⟨fun b o h => h.elim, (fun b t d h => by cases h), fun g v hg => ?_⟩
  have hp : laidMet Tryd.prog [("bioscope/reel.nowhere", Rows.laid_bioscope_reel_nowhere), ("bioscope/reel.start", Rows.laid_bioscope_reel_start)] W := (show laidMet Tryd.prog _ W ∧ handlesMet Tryd.prog _ W from h).1
  obtain ⟨ps, ⟨g1, t1, cs1, f1, p1, q1, hg1, ht1, hv1, hd1, ⟨g2, t2, cs2, f2, p2, q2, hg2, ht2, hv2, hd2, _, _⟩, _⟩, _, _⟩ := hp
  obtain rfl := Option.some.inj ((show Tryd.prog.globalNamed "bioscope/reel.nowhere" = some 2 by kernel_rfl).symm.trans hg1)
  obtain rfl := Option.some.inj ((show (Tryd.prog.globals[2]?).map (·.type) = some 24 by kernel_rfl).symm.trans ht1)
  obtain rfl := Option.some.inj ((show Tryd.prog.globalNamed "bioscope/reel.start" = some 0 by kernel_rfl).symm.trans hg2)
  obtain rfl := Option.some.inj ((show (Tryd.prog.globals[0]?).map (·.type) = some 24 by kernel_rfl).symm.trans ht2)
  obtain ⟨s1, e1, z1⟩ := rd_span hd1
  obtain ⟨s2, e2, z2⟩ := rd_span hd2
  obtain ⟨g3, t3, cs3, f3, p3, hg3, ht3, hv3, hd3⟩ := h.funcs (n := "bioscope/reel.ends") (List.mem_cons_self ..)
  obtain rfl := Option.some.inj ((show Tryd.prog.globalNamed "bioscope/reel.ends" = some 1 by kernel_rfl).symm.trans hg3)
  obtain rfl := Option.some.inj ((show (Tryd.prog.globals[1]?).map (·.type) = some 111 by kernel_rfl).symm.trans ht3)
  obtain ⟨xs, m, hf, hx, hl, hn, hel⟩ := DataW.trod_array Tryd.underlying111 hd3
  have c111 : Tryd.prog.cellsOf 111 = 2 := by kernel_rfl
  have c110 : Tryd.prog.cellsOf 110 = 1 := by kernel_rfl
  rw [c111] at hl
  obtain ⟨v0, v1, e3⟩ := two_of hl
  obtain ⟨y0, y1, rfl⟩ := two_of hn
  have h0 := hel 0 (by omega)
  have h1 := hel 1 (by omega)
  rw [c110, e3] at h0 h1
  simp only [Nat.zero_mul, List.drop_zero, List.take_succ_cons, List.take_zero, Nat.one_mul, List.drop_succ_cons, List.getElem?_cons_zero, List.getElem?_cons_succ] at h0 h1
  have hds := congrArg Prod.fst hx
  have hds' : DataW.agg [.held [40, 98, 105, 111, 115, 99, 111, 112, 101, 47, 114, 101, 101, 108, 46, 102, 105, 108, 109, 41, 46, 108, 101, 97, 115, 116], .held [40, 98, 105, 111, 115, 99, 111, 112, 101, 47, 114, 101, 101, 108, 46, 102, 105, 108, 109, 41, 46, 109, 111, 115, 116]] = DataW.agg [y0.1, y1.1] := hds
  simp only [DataW.agg.injEq, List.cons.injEq, and_true] at hds'
  obtain ⟨n0, n1⟩ := hds'
  obtain ⟨d0, w0⟩ := y0
  obtain ⟨d1, w1⟩ := y1
  dsimp only at n0 n1
  subst n0 n1
  obtain rfl := func_of_trod (f0 := 117) Tryd.underlying110 (by kernel_rfl) h0
  obtain rfl := func_of_trod (f0 := 119) Tryd.underlying110 (by kernel_rfl) h1
  have add : ∀ g i : Nat, (⟨g, 0, none⟩ : Addr).add i = ⟨g, i, none⟩ := fun g i => by unfold Addr.add; split <;> simp_all
  have hz1 : s1 = (1, 0) := by
    have : DataW.agg [.lit (.int .i64 1), .lit (.int .i64 0)] = DataW.agg [.lit (.int .i64 s1.1), .lit (.int .i64 s1.2)] := z1
    simp only [DataW.agg.injEq, List.cons.injEq, DataW.lit.injEq, Lit.int.injEq, true_and, and_true] at this
    exact Prod.ext this.1.symm this.2.symm
  have hz2 : s2 = (-1, 99) := by
    have : DataW.agg [.lit (.int .i64 (-1)), .lit (.int .i64 99)] = DataW.agg [.lit (.int .i64 s2.1), .lit (.int .i64 s2.2)] := z2
    simp only [DataW.agg.injEq, List.cons.injEq, DataW.lit.injEq, Lit.int.injEq, true_and, and_true] at this
    exact Prod.ext this.1.symm this.2.symm
  subst hz1 hz2
  have hg' : findA GG g = some v := hg
  simp only [GG, findA] at hg'
  have cell : ∀ (b : Nat) (cs : Array Value) (ds : List Value), cs.toList = ds → (∀ i, W.cell? ⟨b, i, none⟩ = cs[i]?) → Cells noV W ⟨b, 0, none⟩ ds := fun b cs ds e hc i u hu => by
    rw [add]
    refine ⟨?_, fun h => h⟩
    rw [hc i, ← hu, ← e]
    simp
  split at hg'
  · rename_i e
    cases hg'
    subst e
    simp only [Rel, RelL]
    exact ⟨⟨0, 0, none⟩, _, ⟨[_], [_], rfl, rfl, rfl, [_], [], rfl, rfl, rfl, rfl⟩, cell 0 cs2 _ e2 (fun i => World.var?_cell hg2 hv2 i), (fun _ h => nomatch h), by simp [offP, add_zero]⟩
  · split at hg'
    · rename_i e
      cases hg'
      subst e
      simp only [Rel, RelL, RelV]
      exact ⟨⟨1, 0, none⟩, _, ⟨[_], [_], rfl, rfl, ⟨[], [], rfl, rfl, rfl⟩, [_], [], rfl, rfl, ⟨[], [], rfl, rfl, rfl⟩, rfl⟩, cell 1 cs3 _ e3 (fun i => World.var?_cell hg3 hv3 i), (fun _ h => nomatch h), by simp [offP, add_zero]⟩
    · split at hg'
      · rename_i e
        cases hg'
        subst e
        simp only [Rel, RelL]
        exact ⟨⟨2, 0, none⟩, _, ⟨[_], [_], rfl, rfl, rfl, [_], [], rfl, rfl, rfl, rfl⟩, cell 2 cs1 _ e1 (fun i => World.var?_cell hg1 hv1 i), (fun _ h => nomatch h), by simp [offP, add_zero]⟩
      · cases hg'

/-! What is left behind. -/
theorem same_of {io' : Io} {W W' : World} (hk : Keep noM noIo io' W W') {p : MemPlace} (hp : p.block < W.heap.size) : W.sameAt W' p := by
  have := hk.block p.block hp rfl fun e => e
  cases p with
  | cell b o => exact cell_of_block (a := ⟨b, o, none⟩) this
  | map b => exact this

theorem kept_of {io' : Io} {W W' : World} (hk : Keep noM noIo io' W W') (may : MemPlace → Prop) : W.keptBut W' may := by
  refine ⟨hk.os, hk.output, fun i hi => ?_⟩
  have e := hk.block i hi rfl fun e => e
  rw [e]
  cases W.heap[i]? with
  | none => exact rfl
  | some o =>
    cases o with
    | cells c t fr => exact ⟨rfl, rfl, rfl, fun _ _ => rfl⟩
    | map es ck => exact .inr ⟨rfl, rfl⟩
    | _ => exact rfl

theorem laidOut : laidOutB Tryd.prog = true := by kernel_rfl

theorem trods_stay {H : Type} {enc : TypeId × Value → H} {io' : Io} {W W' : World} (hk : Keep noM noIo io' W W') {sp' : Nat → Bool} (ts : List TypeId) : ∀ {vs : List Value} {ds : List (DataW H)} {ps : List MemPlace}, (ts.all fun t => Tryd.prog.readableRec t && decide (t < Tryd.prog.types.size)) = true → DataW.TrodAll enc Tryd.prog W 0 (fun _ => true) true ts vs ds ps → (∀ p ∈ ps, p.block < W.heap.size) → (∀ p ∈ ps, sp' p.block = true) → DataW.TrodAll enc Tryd.prog W' 0 sp' true ts vs ds ps := by
  induction ts with
  | nil =>
    intro vs ds ps _ h _ _
    obtain ⟨rfl, rfl, rfl⟩ := ChangeShapes.trodAll_nil h
    exact rfl
  | cons t ts ih =>
    intro vs ds ps ha h hl hs
    obtain ⟨v, vs', d, ds', p, q, rfl, rfl, rfl, h1, h2⟩ := ChangeShapes.trodAll_cons h
    rw [List.all_cons, Bool.and_eq_true, Bool.and_eq_true, decide_eq_true_eq] at ha
    exact ⟨p, q, Go.WideElems.Trod_stays laidOut ha.1.1 ha.1.2 h1 (fun x hx => same_of hk (hl x (List.mem_append_left _ hx))) (fun x hx => hs x (List.mem_append_left _ hx)), ih ha.2 h2 (fun x hx => hl x (List.mem_append_right _ hx)) (fun x hx => hs x (List.mem_append_right _ hx)), rfl⟩

theorem post_true {H : Type} {enc : TypeId × Value → H} {f : Func} {s : ChangeSpec} {W W' : World} {args : Array Value} {ds : List (DataW H)} {before : List MemPlace} {io' : Io} (hk : Keep noM noIo io' W W')
    (hW : DataW.Whole enc Tryd.prog f.params.toList s.vars false W args.toList ds [] before) (hv : s.vars = []) (hr : f.resultTypes = #[4]) (ht : (f.params.toList.all fun t => Tryd.prog.readableRec t && decide (t < Tryd.prog.types.size)) = true) (hs : s.fn H ds = { results := [.lit (.bool true)], args := ds }) :
    s.post enc Tryd.prog f false true false false W args (.bool true) W' := by
  have hlt := hW.lt
  have hW' := hW
  obtain ⟨p, q, h1, h2, rfl, _, _⟩ := hW
  rw [hv] at h2
  obtain rfl : q = [] := h2
  simp only [List.append_nil] at hlt hW'
  refine ⟨ds, [], p, [], p, [], hW', ?_, ?_, ?_, kept_of hk _, fun h => nomatch h⟩
  · rw [List.append_nil, hs, hr]
    exact ChangeShapes.trodAll_mk1 (RowKit.shut_bool Tryd.underlying4 _)
  · rw [List.append_nil, hs]
    exact trods_stay hk _ ht h1 hlt fun x hx => by simpa using hlt x hx
  · rw [List.append_nil, hs, hv]
    exact rfl

end Ev
end Go.Proofs.YtidnikjkpbmhhaaDoor
/- How a law's contract becomes its statement. -/
set_option linter.unusedVariables false
set_option linter.unusedSimpArgs false
set_option maxRecDepth 4000
namespace Go.Proofs.YtidnikjkpbmhhaaDoor
namespace Ev
open Go.ChangeShapes Go.WideShapes Go.ChangeAt Go.RowKit

theorem own : ownKnob Tryd.prog.godebug = none := by kernel_rfl
theorem door_met (os : Os) (args : Array Value) : laidMetH Tryd.prog laidAll ((World.doorLaid Tryd.prog 24 os).forCall (fun _ _ => 0) ⟨#[], args, []⟩).memory :=
  laidMetH_of_parts3 (fuel := 8) (laidMet_of_run' 8 (by kernel_rfl) (by kernel_rfl)) (by kernel_rfl) (by kernel_rfl)

def zFilm : Value := .agg #[.slice none 0 0, .int .i64 0, .int .i64 0, .int .i64 0, .int .i64 0, .int .i64 0]
def zInts (n : Nat) : Value := .agg (Array.replicate n (.int .i64 0))

theorem film_bound {H : Type} {d : DataW H} {f : Fi} (h : ∃ d0 d1 d2 d3, d = .agg [d0, d1, d2, d3] ∧ ((d0 = .nil ∧ f.1 = []) ∨ ∃ es rs, d0 = .slice es rs ∧ es.length = f.1.length)) (hw : ∀ n ∈ d.weights Tryd.prog 26, n ≤ reachBytes) : chkOK f = true := by
  obtain ⟨d0, d1, d2, d3, rfl, h⟩ := h
  unfold chkOK lenOK
  refine Nat.ble_eq_true_of_le ?_
  rcases h with ⟨_, h⟩ | ⟨es, rs, rfl, h⟩
  · rw [h]
    simp
  · have hb : Tryd.prog.bytesOf 66 = 48 := by kernel_rfl
    have := hw ((es.length + rs.length) * 48) (by
      simp only [DataW.weights, Tryd.underlying26, DataW.weightsEach, Tryd.underlying22, hb, List.map_cons]
      simp)
    have h2 : reachBytes = 140737488351232 := rfl
    rw [h2] at this
    omega

theorem vr_film {W : World} {f : Fi} {v : Value} (h : CRel noV W tRF f v.cells.toList) (ha : ∃ cs, v = .agg cs) : VR TRr (baseCx noV noIo) W (enc tRF f) v := by
  obtain ⟨cs, rfl⟩ := ha
  obtain ⟨h1, h2⟩ := enc_rel (io := noIo) (TR := TRr) h (baseCx noV noIo) rfl
  refine .inr ⟨cs.toList, ?_, h1, rfl⟩
  rw [h2]
  exact CRel.length h
theorem vr_arr {W : World} {n : Nat} {l : List Int} {v : Value} (h : CRel noV W (.arr n .int) l v.cells.toList) (ha : ∃ cs, v = .agg cs) : VR TRr (baseCx noV noIo) W (enc (.arr n .int) l) v := by
  obtain ⟨cs, rfl⟩ := ha
  obtain ⟨h1, h2⟩ := enc_rel (io := noIo) (TR := TRr) h (baseCx noV noIo) rfl
  refine .inr ⟨cs.toList, ?_, h1, rfl⟩
  rw [h2]
  exact CRel.length h

theorem agg_of {W : World} {base : Nat} {t : TypeId} {v : Value} {fs : Array Field} (ht : Tryd.prog.underlying t = some (.struct fs)) (h : Value.okWide Tryd.prog W .any base t v) : ∃ cs, v = .agg cs := by
  unfold Value.okWide at h
  rw [ht] at h
  obtain ⟨cs, h, _⟩ := h
  exact ⟨cs, h⟩
theorem agg_ofA {W : World} {base : Nat} {t n e : Nat} {v : Value} (ht : Tryd.prog.underlying t = some (.array n e)) (h : Value.okWide Tryd.prog W .any base t v) : ∃ cs, v = .agg cs := by
  unfold Value.okWide at h
  rw [ht] at h
  obtain ⟨cs, h, _⟩ := h
  exact ⟨cs, h⟩

theorem vr_list {W : World} {base : Nat} {l : List Int} {v : Value} (h : CRel noV W tInts l v.cells.toList) (hv : Value.okWide Tryd.prog W .any base 27 v) : VR TRr (baseCx noV noIo) W (enc tInts l) v := by
  have hc : v.cells = #[v] := by
    unfold Value.okWide at hv
    rw [Tryd.underlying27] at hv
    simp only [Cell.okWide, Tryd.underlying27, Cell.ok] at hv
    cases v <;> first
      | rfl
      | simp_all
  rw [hc] at h
  obtain ⟨h1, h2⟩ := enc_rel (io := noIo) (TR := TRr) h (baseCx noV noIo) rfl
  exact .inr ⟨[v], rfl, h1, rfl⟩
theorem vr_num {W : World} {base : Nat} {k : Int} {v : Value} (h : v.cells.toList = [.int .i64 k]) (hv : Value.okWide Tryd.prog W .any base 3 v) : VR TRr (baseCx noV noIo) W (enc .int k) v := by
  have hc : v = .int .i64 k := by
    unfold Value.okWide at hv
    rw [Tryd.underlying3] at hv
    simp only [Cell.okWide, Tryd.underlying3, Cell.ok] at hv
    cases v <;> first
      | (simp [Value.cells] at h; rw [h.1, h.2])
      | simp_all
  rw [hc]
  exact vr_int (E := Bs.env) k
theorem list_bound {H : Type} {d : DataW H} {l : List Int} (h : (d = .nil ∧ l = []) ∨ ∃ es rs, d = .slice es rs ∧ es.length = l.length) (hw : ∀ n ∈ d.weights Tryd.prog 27, n ≤ reachBytes) : lenOK l = true := by
  unfold lenOK
  refine Nat.ble_eq_true_of_le ?_
  rcases h with ⟨_, h⟩ | ⟨es, rs, rfl, h⟩
  · rw [h]
    simp
  · have hb : Tryd.prog.bytesOf 3 = 8 := by kernel_rfl
    have := hw ((es.length + rs.length) * 8) (by
      simp only [DataW.weights, Tryd.underlying27, hb]
      simp)
    have h2 : reachBytes = 140737488351232 := rfl
    rw [h2] at this
    omega

/-- What a contract gives. -/
theorem law_calls {f : Nat} {g : List AV → Option (Bool × AV)} (k : Good f g) {W : World} {args : List AV} {vs : List Value} (hL : laidMetH Tryd.prog laidAll W) (hr : RelV TRr (baseCx noV noIo) W args vs) (hg : g args = some (true, .bool true)) :
    Calls Tryd.prog f vs.toArray W fun e W' => e = .returned (.bool true) ∧ ∃ io', Keep noM noIo io' W W' := by
  refine Calls.mono (k.1 noV noIo W args vs (.bool true) (gl_of_laid hL) hr hg) ?_
  rintro e W' ⟨v, io', rfl, hv, hk, _⟩
  exact ⟨by rw [hv.bool_inv (E := Bs.env)], io', hk⟩

end Ev
end Go.Proofs.YtidnikjkpbmhhaaDoor
/- What the statements share, in plain words. -/
namespace Go.Proofs.YtidnikjkpbmhhaaDoor
namespace Ev

def turnedB : Bool := true
def soundB (x : Fi) : Bool := checkB x
def sumI0 (l : List Int) : Int := sumI l 0
def endsB (_ : Fi) (_ : List Int) : Bool := true
def endsOK (x : Fi) (_ : List Int) : Bool := chkOK x
def pickOK2 (l : List Int) (_ : Int) : Bool := lenOK l
def tornB (_ : Fi) (_ _ : List Int) (_ : Int) : Bool := true
def tornOK (x : Fi) (_ l : List Int) (_ : Int) : Bool := chkOK x && lenOK l

end Ev
end Go.Proofs.YtidnikjkpbmhhaaDoor
/- What the statements share, as the evaluator walks it. -/
set_option linter.unusedVariables false
set_option maxRecDepth 4000
namespace Go.Proofs.YtidnikjkpbmhhaaDoor
namespace Ev

noncomputable def g43 : List AV → Option (Bool × AV)
  | [a0] =>
    match dec tRF a0 with
    | some x0 => some ((chkOK x0), enc .bool (soundB x0))
    | _ => none
  | _ => none
noncomputable def g48 : List AV → Option (Bool × AV)
  | [a0, a1] =>
    match dec .int a0, dec .int a1 with
    | some x0, some x1 => some (true, enc .int (turnI x0 x1))
    | _, _ => none
  | _ => none
noncomputable def X43 : Ctx := { T := TT, G := GG, C := [(18, g18), (55, g55), (70, g70)], L := [(3, [0, 2, 5, 6, 7, 8, 9, 10, 11, 12, 13, 14, 15, 16, 17, 18, 19, 20, 21, 22, 23, 24, 25, 26, 27, 28, 29, 30, 31, 32, 33, 34, 35, 36, 37, 38, 39, 40, 41, 42, 43, 44, 45, 46, 47, 48, 49, 50, 51, 52, 53, 54, 55, 56, 57, 58, 59, 60, 61, 62, 63, 64, 65, 66, 67], [])] }
noncomputable def f43_s0 (a0 : ((List ((Int × Int) × (Int × Int) × (Int × Int))) × (Int × Int) × (Int × Int) × Int)) (k0 : Bool → Int → Option (AV)) (v0_0 : Bool) (v0_1 : Int) : Option (AV) :=
  bif v0_0 then
    bif (decide (v0_1 < (a0.1.length : Int))) then
      bif decide (0 ≤ v0_1) && decide (v0_1 < (a0.1.length : Int)) then
        bif (legal ((a0.1.getD v0_1.toNat (((0 : Int), (0 : Int)), ((0 : Int), (0 : Int)), ((0 : Int), (0 : Int)))).1) (0 : Int) (99 : Int)) then
          bif (legal ((a0.1.getD v0_1.toNat (((0 : Int), (0 : Int)), ((0 : Int), (0 : Int)), ((0 : Int), (0 : Int)))).2.1) (0 : Int) (99 : Int)) then
            bif (decide ((((a0.1.getD v0_1.toNat (((0 : Int), (0 : Int)), ((0 : Int), (0 : Int)), ((0 : Int), (0 : Int)))).1).1) ≤ (((a0.1.getD v0_1.toNat (((0 : Int), (0 : Int)), ((0 : Int), (0 : Int)), ((0 : Int), (0 : Int)))).2.1).2))) then
              k0 (legal ((a0.1.getD v0_1.toNat (((0 : Int), (0 : Int)), ((0 : Int), (0 : Int)), ((0 : Int), (0 : Int)))).2.2) (1 : Int) (1200 : Int)) (w64 (v0_1 + (1 : Int)))
            else
              k0 false (w64 (v0_1 + (1 : Int)))
          else
            k0 false (w64 (v0_1 + (1 : Int)))
        else
          k0 false (w64 (v0_1 + (1 : Int)))
      else
        none
    else
      some (.bool v0_0)
  else
    some (.bool v0_0)

noncomputable def f43_s (a0 : ((List ((Int × Int) × (Int × Int) × (Int × Int))) × (Int × Int) × (Int × Int) × Int)) (k0 : Bool → Int → Option (AV)) : Option (AV) :=
  bif (chkOK a0) then
    bif (decide ((checkI a0) = (0 : Int))) then
      bif (amid (a0.1.length : Int) (1 : Int) (6 : Int)) then
        bif (legal a0.2.1 (1 : Int) (20 : Int)) then
          bif (legal a0.2.2.1 (0 : Int) (50 : Int)) then
            k0 (amid a0.2.2.2 (1 : Int) (6000 : Int)) (0 : Int)
          else
            k0 false (0 : Int)
        else
          k0 false (0 : Int)
      else
        k0 false (0 : Int)
    else
      k0 false (0 : Int)
  else
    none

noncomputable def f43_R0 (a0 : ((List ((Int × Int) × (Int × Int) × (Int × Int))) × (Int × Int) × (Int × Int) × Int)) (N : Nat) (n : Nat) (v0_0 : Bool) (v0_1 : Int) : Option (AV) :=
  loopN (evC X43 N (sub [(1, 0), (1, 0), (0, 0), (1, 0), (0, 0), (0, 0)] (bodyOf Tryd.f43))) (keepOf X43.L (sub [(1, 0), (1, 0), (0, 0), (1, 0), (0, 0), (0, 0)] (bodyOf Tryd.f43))) n ⟨[.poison, .ref 1 [], .poison, .bool v0_0, .int v0_1, .poison, .poison, .poison, .poison, .poison, .poison, .poison, .poison, .poison, .poison, .poison, .poison, .poison, .poison, .poison, .poison, .poison, .poison, .poison, .poison, .poison, .poison, .poison, .poison, .poison, .poison, .poison, .poison, .poison, .poison, .poison, .poison, .poison, .poison, .poison, .poison, .poison, .poison, .poison, .poison, .poison, .poison, .poison, .poison, .poison, .poison, .poison, .poison, .poison, .poison, .poison, .poison, .poison, .poison, .poison, .poison, .poison, .poison, .poison, .poison, .poison, .poison, .poison], [.none, .box (enc tRF a0), .none, .none, .none, .none, .none, .none, .none, .none, .none, .none, .none, .none, .none, .none, .none, .none, .none, .none, .none, .none, .none, .none, .none, .none, .none, .none, .none, .none, .none, .none, .none, .none, .none, .none, .none, .none, .none, .none, .none, .none, .none, .none, .none, .none, .none, .none, .none, .none, .none, .none, .none, .none, .none, .none, .none, .none, .none, .none, .none, .none, .none, .none, .none, .none, .none, .none]⟩ (ctxK X43 N [(1, 0), (1, 0), (0, 0), (1, 0), (0, 0)] (bodyOf Tryd.f43) (finK X43 Tryd.f43))

theorem f43_e0 (a0 : ((List ((Int × Int) × (Int × Int) × (Int × Int))) × (Int × Int) × (Int × Int) × Int)) (N : Nat) (n : Nat) (v0_0 : Bool) (v0_1 : Int) : f43_R0 a0 N (n + 1) v0_0 v0_1 = f43_s0 a0 (f43_R0 a0 N n) v0_0 v0_1 := by kernel_rfl

noncomputable def f43_L0 (a0 : ((List ((Int × Int) × (Int × Int) × (Int × Int))) × (Int × Int) × (Int × Int) × Int)) (N : Nat) : Nat → Bool → Int → Option (AV)
  | 0, _, _ => none
  | n + 1, v0_0, v0_1 => f43_s0 a0 (f43_L0 a0 N n) v0_0 v0_1

theorem f43_q0 (a0 : ((List ((Int × Int) × (Int × Int) × (Int × Int))) × (Int × Int) × (Int × Int) × Int)) (N : Nat) : ∀ n : Nat, f43_R0 a0 N n = f43_L0 a0 N n
  | 0 => by
    funext v0_0
    funext v0_1
    rfl
  | n + 1 => by
    funext v0_0
    funext v0_1
    rw [f43_e0]
    simp only [f43_q0 a0 N n]
    rfl

noncomputable def f43_T (a0 : ((List ((Int × Int) × (Int × Int) × (Int × Int))) × (Int × Int) × (Int × Int) × Int)) (N : Nat) : Option (AV) := f43_s a0 (f43_L0 a0 N N)

theorem f43_ev (a0 : ((List ((Int × Int) × (Int × Int) × (Int × Int))) × (Int × Int) × (Int × Int) × Int)) (N : Nat) : evF X43 N Tryd.f43 [enc tRF a0] = f43_T a0 N := by
  have h : evF X43 N Tryd.f43 [enc tRF a0] = f43_s a0 (f43_R0 a0 N N) := by kernel_rfl
  rw [h, f43_q0]
  rfl
noncomputable def X48 : Ctx := { T := TT, G := GG, C := [], L := [] }
noncomputable def f48_s (a0 : Int) (a1 : Int) : Option (AV) :=
  bif (decide (a1 < (1 : Int))) then
    some (.int (0 : Int))
  else
    bif !decide (a1 = 0) then
      bif (decide ((a0.tmod a1) < (0 : Int))) then
        some (.int (w64 ((a0.tmod a1) + a1)))
      else
        some (.int (a0.tmod a1))
    else
      none

noncomputable def f48_T (a0 : Int) (a1 : Int) : Option (AV) := f48_s a0 a1

theorem f48_ev (a0 : Int) (a1 : Int) (N : Nat) : evF X48 N Tryd.f48 [enc .int a0, enc .int a1] = f48_T a0 a1 := by
  have h : evF X48 N Tryd.f48 [enc .int a0, enc .int a1] = f48_s a0 a1 := by kernel_rfl
  rw [h]
  rfl

end Ev
end Go.Proofs.YtidnikjkpbmhhaaDoor
/- What the statements share: what the walks come to. -/
set_option linter.unusedVariables false
set_option linter.unusedSimpArgs false
set_option maxRecDepth 4000
namespace Go.Proofs.YtidnikjkpbmhhaaDoor
namespace Ev

theorem f43_loop (x : Fi) (hx : chkOK x = true) (N : Nat) : ∀ (m i : Nat) (b : Bool), i + m = x.1.length → f43_L0 x N (m + 1) b i = some (.bool (b && (x.1.drop i).all okReel))
  | 0, i, b, h => by
    have e : f43_L0 x N (0 + 1) b i = f43_s0 x (f43_L0 x N 0) b i := rfl
    rw [e]
    unfold f43_s0
    have h1 : decide ((i : Int) < (x.1.length : Int)) = false := by simp; omega
    rw [h1, List.drop_eq_nil_of_le (by omega)]
    cases b <;> rfl
  | m + 1, i, b, h => by
    have e : f43_L0 x N (m + 1 + 1) b i = f43_s0 x (f43_L0 x N (m + 1)) b i := rfl
    rw [e]
    have hlt : i < x.1.length := by omega
    unfold f43_s0
    have h1 : decide ((i : Int) < (x.1.length : Int)) = true := by simp; omega
    have h2 : decide (0 ≤ (i : Int)) = true := by simp
    have hg : x.1.getD (i : Int).toNat (((0 : Int), (0 : Int)), ((0 : Int), (0 : Int)), ((0 : Int), (0 : Int))) = x.1[i] := by simp [List.getD, hlt]
    rw [hg, h1, h2, w64_succ hlt (len_lt hx), List.drop_eq_getElem_cons hlt]
    simp only [f43_loop x hx N m (i + 1) _ (by omega), List.all_cons, okReel]
    cases b <;> cases legal x.1[i].1 0 99 <;> cases legal x.1[i].2.1 0 99 <;> cases decide (x.1[i].1.1 ≤ x.1[i].2.1.2) <;> cases legal x.1[i].2.2 1 1200 <;> rfl

theorem f43_sp (x0 : Fi) (hp : chkOK x0 = true) : ∃ (N : Nat) (r0 : AV), f43_T x0 N = some r0 ∧ wkAV r0 = enc .bool (soundB x0) := by
  refine ⟨x0.1.length + 1, .bool (soundB x0), ?_, rfl⟩
  unfold f43_T f43_s
  have h := fun b => f43_loop x0 hp (x0.1.length + 1) x0.1.length 0 b (by omega)
  have h2 : ∀ b, f43_L0 x0 (x0.1.length + 1) (x0.1.length + 1) b 0 = some (.bool (b && (x0.1.drop 0).all okReel)) := h
  have hd : ∀ b, decide (chkV b = 0) = b := fun b => by cases b <;> rfl
  rw [hp, checkI_eq, hd]
  simp only [h2, List.drop_zero, soundB, checkB]
  cases amid (x0.1.length : Int) 1 6 <;> cases legal x0.2.1 1 20 <;> cases legal x0.2.2.1 0 50 <;> cases amid x0.2.2.2 1 6000 <;> cases x0.1.all okReel <;> rfl

theorem f48_sp (x0 : Int) (x1 : Int) : ∃ (N : Nat) (r0 : AV), f48_T x0 x1 = some r0 ∧ wkAV r0 = enc .int (turnI x0 x1) := by
  refine ⟨0, .int (turnI x0 x1), ?_, rfl⟩
  unfold f48_T f48_s turnI
  by_cases h1 : x1 < 1
  · simp [h1]
  · have h2 : ¬ x1 = 0 := by omega
    by_cases h3 : x0.tmod x1 < 0
    · simp [h1, h2, h3]
    · simp [h1, h2, h3]

theorem turn_range {n m : Int} (h : 1 ≤ m) (h2 : m < 4611686018427387904) : 0 ≤ turnI n m ∧ turnI n m < m := by
  have h3 : n.tmod m < m := Int.tmod_lt_of_pos n (by omega)
  have h4 : -m < n.tmod m := by
    rcases Int.le_total 0 n with h | h
    · have := Int.tmod_nonneg m h
      omega
    · have h5 : (-n).tmod m < m := Int.tmod_lt_of_pos (-n) (by omega)
      rw [Int.neg_tmod] at h5
      omega
  unfold turnI
  rw [if_neg (by omega)]
  split
  · rw [w64_small (by omega) (by omega)]
    omega
  · omega

end Ev
end Go.Proofs.YtidnikjkpbmhhaaDoor
/- The contracts of what the statements share. -/
set_option linter.unusedVariables false
set_option maxRecDepth 4000
namespace Go.Proofs.YtidnikjkpbmhhaaDoor
namespace Ev

theorem k43 : Good 43 g43 := ⟨ctr_ofN (B := Bs) (X := X43) (ctxOK rfl rfl rfl rfl rfl rfl (AllC.cons k18 (AllC.cons k55 (AllC.cons k70 AllC.nil)))) Tryd.func43 (fun args r h => by
  unfold g43 at h
  split at h
  · rename_i a0
    split at h
    · rename_i x0 h0
      simp only [Option.some.injEq, Prod.mk.injEq] at h
      obtain ⟨hp, rfl⟩ := h
      obtain ⟨N, r0, q1, q2⟩ := f43_sp x0 hp
      refine ⟨N, r0, ?_, q2⟩
      simp only [wkL, wk_dec h0]
      exact (f43_ev x0 N).trans q1
    · cases h
  · cases h), Tryd.f43, Tryd.func43, by kernel_rfl, by kernel_rfl⟩
theorem k48 : Good 48 g48 := ⟨ctr_ofN (B := Bs) (X := X48) (ctxOK rfl rfl rfl rfl rfl rfl AllC.nil) Tryd.func48 (fun args r h => by
  unfold g48 at h
  split at h
  · rename_i a0 a1
    split at h
    · rename_i x0 x1 h0 h1
      simp only [Option.some.injEq, Prod.mk.injEq] at h
      obtain ⟨hp, rfl⟩ := h
      obtain ⟨N, r0, q1, q2⟩ := f48_sp x0 x1
      refine ⟨N, r0, ?_, q2⟩
      simp only [wkL, wk_dec h0, wk_dec h1]
      exact (f48_ev x0 x1 N).trans q1
    · cases h
  · cases h), Tryd.f48, Tryd.func48, by kernel_rfl, by kernel_rfl⟩

end Ev
end Go.Proofs.YtidnikjkpbmhhaaDoor
