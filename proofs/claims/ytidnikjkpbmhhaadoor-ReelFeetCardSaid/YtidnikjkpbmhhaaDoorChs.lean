/- The search for strange reels: the function that names itself keeps its word. -/
import Derived.Test.YtidnikjkpbmhhaaDoorCha
set_option linter.unusedVariables false
set_option linter.unusedSimpArgs false
namespace Go.Proofs.YtidnikjkpbmhhaaDoor
namespace Ev

noncomputable def gCh : Nat → List AV → (t : Ty) → t.den → List AV → Option (Bool × AV × List AV)
  | 0 => fun _ _ _ _ => none
  | n + 1 => fun _ t d args =>
    match castD tCh t d with
    | some (x, y, z) => (match evT (X79 (gCh n)) 10 Tryd.f79 (wkL args ++ [.cref (.agg [enc tRF x, .tok 0 tRF y]) [], .cref (enc tRF z) [], .cref (.tok 4 tCh (x, y, z)) []]) with | some (r, items) => some (true, wkAV r, items) | none => none)
    | none => none

theorem ctxT {X : Ctx} {g : List AV → (t : Ty) → t.den → List AV → Option (Bool × AV × List AV)} (hT : X.T = TT) (hG : X.G = GG) (hK : X.K = [(4, g)]) (hI : X.I = [(90, itO)] ∨ X.I = []) (hk : X.mkm = none) (hu : X.up = none) (hC : AllC X.C) (hg : TCtr Bs.env 4 g) : CtxOK Bs.env X where
  T := by rw [hT]; exact chkAll_ok (B := Bs) rfl chkTT
  G := hG
  C := fun f g h => hC f g h
  M := mixed
  K := fun i g h => by
    rw [hK] at h
    simp only [findA] at h
    split at h
    · rename_i e
      cases h
      subst e
      exact hg
    · cases h
  I := fun f it h => by
    rcases hI with hI | hI
    · rw [hI] at h
      simp only [findA] at h
      split at h
      · rename_i e
        cases h
        subst e
        exact ⟨itO_good, Tryd.f90, Tryd.func90, by kernel_rfl, by kernel_rfl⟩
      · cases h
    · rw [hI] at h
      cases h
  mkm := fun d h => by rw [hk] at h; cases h
  up := fun u h => by rw [hu] at h; cases h

theorem cell_one {V : Nat → Nat → Prop} {W : World} {a : Addr} {v : Value} (h : oneAt V W a v) : Cells V W a [v] := fun i u hi => by
  cases i with
  | zero =>
    cases hi
    rw [add_zero]
    exact ⟨h.1, by simpa using h.2⟩
  | succ i => simp at hi

theorem ch_caps {V : Nat → Nat → Prop} {io : Io} {W : World} {x y z : tRF.den} {fa xa ca : Addr} {xv : Value} (hf : filmAt V io W x y fa) (hz : ∃ cs, CRel V W tRF z cs ∧ Cells V W xa cs) (ho : oneAt V W ca xv) (ht : TRr 4 tCh (x, y, z) V io W xv) :
    RelV TRr (baseCx V io) W [.cref (.agg [enc tRF x, .tok 0 tRF y]) [], .cref (enc tRF z) [], .cref (.tok 4 tCh (x, y, z)) []] [.pointer (some fa), .pointer (some xa), .pointer (some ca)] := by
  obtain ⟨cs, m, f1, f2, f3⟩ := hf
  obtain ⟨ds, z1, z2⟩ := hz
  simp only [RelV]
  refine ⟨_, _, rfl, .inr ⟨[.pointer (some fa)], rfl, ?_, rfl⟩, _, _, rfl, .inr ⟨[.pointer (some xa)], rfl, ?_, rfl⟩, _, _, rfl, .inr ⟨[.pointer (some ca)], rfl, ?_, rfl⟩, rfl⟩
  · simp only [Rel, RelL]
    obtain ⟨g1, g2⟩ := enc_rel (io := io) (TR := TRr) f1 (baseCx V io) rfl
    refine ⟨fa, cs ++ [m], ⟨cs, [m], rfl, by rw [CRel.length f1, g2], g1, [m], [], rfl, rfl, ⟨m, rfl, f3⟩, rfl⟩, f2, (fun _ h => nomatch h), by simp [offP, add_zero]⟩
  · simp only [Rel]
    obtain ⟨g1, g2⟩ := enc_rel (io := io) (TR := TRr) z1 (baseCx V io) rfl
    exact ⟨xa, ds, g1, z2, (fun _ h => nomatch h), by simp [offP, add_zero]⟩
  · simp only [Rel]
    exact ⟨ca, _, ⟨_, rfl, ht⟩, cell_one ho, (fun _ h => nomatch h), by simp [offP, add_zero]⟩

theorem ch_ctr : ∀ n : Nat, TCtr Bs.env 4 (gCh n)
  | 0 => by
    intro V io W tr t d xv args vs r items hb hn hM hJ ht hr hg
    cases hg
  | n + 1 => by
    intro V io W tr t d xv args vs r items hb hn hM hJ ht hr hg
    simp only [gCh] at hg
    split at hg
    · rename_i x y z hD
      split at hg
      · rename_i r0 items0 h0
        simp only [Option.some.injEq, Prod.mk.injEq, true_and] at hg
        obtain ⟨rfl, rfl⟩ := hg
        have e1 := castD_eq hD
        cases e1
        have ht' : TRr 4 tCh (x, y, z) V io W xv := ht
        have ht2 := ht'
        obtain ⟨x', y', z', e2, fa, xa, ca, hv, hfa, hxa, hca⟩ := ht2
        cases e2
        subst hv
        refine .inl ⟨_, [], [.pointer (some fa), .pointer (some xa), .pointer (some ca)], Tryd.f79, rfl, Tryd.func79, by kernel_rfl, by kernel_rfl, ?_⟩
        have hX : CtxOK Bs.env (X79 (gCh n)) := ctxT rfl rfl rfl (.inl rfl) rfl rfl (AllC.cons sk71 AllC.nil) (ch_ctr n)
        have hrel : RelV TRr (baseCx V io) W (wkL args ++ [.cref (.agg [enc tRF x, .tok 0 tRF y]) [], .cref (enc tRF z) [], .cref (.tok 4 tCh (x, y, z)) []]) (vs ++ [.pointer (some fa), .pointer (some xa), .pointer (some ca)]) :=
          relV_append (wkV_rel hr) (ch_caps hfa hxa hca ht')
        have := tctr_of (E := Bs.env) (tr := tr) (X := X79 (gCh n)) hX Tryd.func79 h0 hb hn hM hJ hrel
        refine Calls.mono this ?_
        rintro e W' ⟨v, rfl, io', q1, q2, q3, q4⟩
        exact ⟨v, rfl, io', vr_wk q1, q2, q3, q4⟩
      · cases hg
    · cases hg

noncomputable def sg28 : List AV → Option (Bool × AV) := selfZ (X28 (gCh 7)) 10 chFrz 5 Tryd.f28
theorem sk28 : Good 28 sg28 := ⟨ctr_selfZ (B := Bs) (ctxT rfl rfl rfl (.inr rfl) rfl rfl (AllC.cons k62 (AllC.cons sk72 AllC.nil)) (ch_ctr 7)) chFrz_ok Tryd.func28, Tryd.f28, Tryd.func28, by kernel_rfl, by kernel_rfl⟩

noncomputable def filmD : Fi := ([((10, 12), (20, 20), (900, 900)), ((1, 1), (9, 11), (950, 1000)), ((20, 22), (20, 30), (800, 820)), ((20, 31), (20, 40), (700, 700))], (6, 8), (1, 3), 2000)
noncomputable def mixedD : Fi := ([((10, 12), (20, 20), (900, 900)), ((1, 1), (5, 6), (950, 1000)), ((20, 22), (20, 30), (800, 820)), ((20, 31), (20, 40), (700, 700))], (6, 8), (1, 3), 2000)
theorem c28 : sg28 [enc tRF mixedD] = some (true, .tup [enc tInts ([1] : List Int), .int 0]) := by kernel_rfl

end Ev
end Go.Proofs.YtidnikjkpbmhhaaDoor
