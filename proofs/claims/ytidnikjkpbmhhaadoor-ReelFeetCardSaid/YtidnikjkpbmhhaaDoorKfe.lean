/- The contracts of reels, feet and showings. -/
import Derived.Test.YtidnikjkpbmhhaaDoorOpn
set_option linter.unusedVariables false
set_option maxRecDepth 4000
namespace Go.Proofs.YtidnikjkpbmhhaaDoor
namespace Ev

theorem k77 : Good 77 g77 := ⟨ctr_ofN (B := Bs) (X := X77) (ctxOK rfl rfl rfl rfl rfl rfl AllC.nil) Tryd.func77 (fun args r h => by
  unfold g77 at h
  split at h
  · simp only [Option.some.injEq, Prod.mk.injEq, true_and] at h
    obtain ⟨N, r0, q1, q2⟩ := f77_sp
    exact ⟨N, r0, (f77_ev N).trans q1, q2.trans h⟩
  · cases h), Tryd.f77, Tryd.func77, by kernel_rfl, by kernel_rfl⟩
theorem k88 : Good 88 g88 := ⟨ctr_ofN (B := Bs) (X := X88) (ctxOK rfl rfl rfl rfl rfl rfl (AllC.cons k97 AllC.nil)) Tryd.func88 (fun args r h => by
  unfold g88 at h
  split at h
  · rename_i a0 t0 d0 a1 a2
    split at h
    · rename_i x0 y0 x1 x2 h0 k0 h1 h2
      simp only [Option.some.injEq, Prod.mk.injEq] at h
      obtain ⟨hp, rfl⟩ := h
      simp only [Bool.and_eq_true, decide_eq_true_eq] at hp
      obtain ⟨e0, hp⟩ := hp
      subst e0
      obtain ⟨N, r0, q1, q2⟩ := f88_sp x0 x1 x2 hp
      refine ⟨N, r0, ?_, q2⟩
      simp only [wkL, wk_film h0 k0, wk_dec h1, wk_dec h2]
      exact (f88_ev x0 x1 x2 N).trans q1
    · cases h
  · cases h), Tryd.f88, Tryd.func88, by kernel_rfl, by kernel_rfl⟩
theorem k53 : Good 53 g53 := ⟨ctr_ofN (B := Bs) (X := X53) (ctxOK rfl rfl rfl rfl rfl rfl AllC.nil) Tryd.func53 (fun args r h => by
  unfold g53 at h
  split at h
  · rename_i a0 a1
    split at h
    · rename_i x0 x1 h0 h1
      simp only [Option.some.injEq, Prod.mk.injEq] at h
      obtain ⟨hp, rfl⟩ := h
      obtain ⟨N, r0, q1, q2⟩ := f53_sp x0 x1
      refine ⟨N, r0, ?_, q2⟩
      simp only [wkL, wk_dec h0, wk_dec h1]
      exact (f53_ev x0 x1 N).trans q1
    · cases h
  · cases h), Tryd.f53, Tryd.func53, by kernel_rfl, by kernel_rfl⟩
theorem k55 : Good 55 g55 := ⟨ctr_ofN (B := Bs) (X := X55) (ctxOK rfl rfl rfl rfl rfl rfl AllC.nil) Tryd.func55 (fun args r h => by
  unfold g55 at h
  split at h
  · rename_i a0 a1 a2
    split at h
    · rename_i x0 x1 x2 h0 h1 h2
      simp only [Option.some.injEq, Prod.mk.injEq] at h
      obtain ⟨hp, rfl⟩ := h
      obtain ⟨N, r0, q1, q2⟩ := f55_sp x0 x1 x2
      refine ⟨N, r0, ?_, q2⟩
      simp only [wkL, wk_dec h0, wk_dec h1, wk_dec h2]
      exact (f55_ev x0 x1 x2 N).trans q1
    · cases h
  · cases h), Tryd.f55, Tryd.func55, by kernel_rfl, by kernel_rfl⟩
theorem k56 : Good 56 g56 := ⟨ctr_ofN (B := Bs) (X := X56) (ctxOK rfl rfl rfl rfl rfl rfl (AllC.cons k55 AllC.nil)) Tryd.func56 (fun args r h => by
  unfold g56 at h
  split at h
  · rename_i a0 a1
    split at h
    · rename_i x0 x1 h0 h1
      simp only [Option.some.injEq, Prod.mk.injEq] at h
      obtain ⟨hp, rfl⟩ := h
      obtain ⟨N, r0, q1, q2⟩ := f56_sp x0 x1
      refine ⟨N, r0, ?_, q2⟩
      simp only [wkL, wk_dec h0, wk_dec h1]
      exact (f56_ev x0 x1 N).trans q1
    · cases h
  · cases h), Tryd.f56, Tryd.func56, by kernel_rfl, by kernel_rfl⟩
theorem k58 : Good 58 g58 := ⟨ctr_ofN (B := Bs) (X := X58) (ctxOK rfl rfl rfl rfl rfl rfl AllC.nil) Tryd.func58 (fun args r h => by
  unfold g58 at h
  split at h
  · rename_i a0
    split at h
    · rename_i x0 h0
      simp only [Option.some.injEq, Prod.mk.injEq] at h
      obtain ⟨hp, rfl⟩ := h
      obtain ⟨N, r0, q1, q2⟩ := f58_sp x0
      refine ⟨N, r0, ?_, q2⟩
      simp only [wkL, wk_dec h0]
      exact (f58_ev x0 N).trans q1
    · cases h
  · cases h), Tryd.f58, Tryd.func58, by kernel_rfl, by kernel_rfl⟩
theorem k68 : Good 68 g68 := ⟨ctr_ofN (B := Bs) (X := X68) (ctxOK rfl rfl rfl rfl rfl rfl AllC.nil) Tryd.func68 (fun args r h => by
  unfold g68 at h
  split at h
  · rename_i a0 a1 a2
    split at h
    · rename_i x0 x1 x2 h0 h1 h2
      simp only [Option.some.injEq, Prod.mk.injEq] at h
      obtain ⟨hp, rfl⟩ := h
      obtain ⟨N, r0, q1, q2⟩ := f68_sp x0 x1 x2
      refine ⟨N, r0, ?_, q2⟩
      simp only [wkL, wk_dec h0, wk_dec h1, wk_dec h2]
      exact (f68_ev x0 x1 x2 N).trans q1
    · cases h
  · cases h), Tryd.f68, Tryd.func68, by kernel_rfl, by kernel_rfl⟩
theorem k69 : Good 69 g69 := ⟨ctr_ofN (B := Bs) (X := X69) (ctxOK rfl rfl rfl rfl rfl rfl AllC.nil) Tryd.func69 (fun args r h => by
  unfold g69 at h
  split at h
  · rename_i a0 a1 a2
    split at h
    · rename_i x0 x1 x2 h0 h1 h2
      simp only [Option.some.injEq, Prod.mk.injEq] at h
      obtain ⟨hp, rfl⟩ := h
      obtain ⟨N, r0, q1, q2⟩ := f69_sp x0 x1 x2
      refine ⟨N, r0, ?_, q2⟩
      simp only [wkL, wk_dec h0, wk_dec h1, wk_dec h2]
      exact (f69_ev x0 x1 x2 N).trans q1
    · cases h
  · cases h), Tryd.f69, Tryd.func69, by kernel_rfl, by kernel_rfl⟩
theorem k70 : Good 70 g70 := ⟨ctr_ofN (B := Bs) (X := X70) (ctxOK rfl rfl rfl rfl rfl rfl AllC.nil) Tryd.func70 (fun args r h => by
  unfold g70 at h
  split at h
  · rename_i a0 a1 a2
    split at h
    · rename_i x0 x1 x2 h0 h1 h2
      simp only [Option.some.injEq, Prod.mk.injEq] at h
      obtain ⟨hp, rfl⟩ := h
      obtain ⟨N, r0, q1, q2⟩ := f70_sp x0 x1 x2
      refine ⟨N, r0, ?_, q2⟩
      simp only [wkL, wk_dec h0, wk_dec h1, wk_dec h2]
      exact (f70_ev x0 x1 x2 N).trans q1
    · cases h
  · cases h), Tryd.f70, Tryd.func70, by kernel_rfl, by kernel_rfl⟩
theorem k117 : Good 117 g117 := ⟨ctr_ofN (B := Bs) (X := X117) (ctxOK rfl rfl rfl rfl rfl rfl AllC.nil) Tryd.func117 (fun args r h => by
  unfold g117 at h
  split at h
  · rename_i a0 t0 d0 a1 a2
    split at h
    · rename_i x0 y0 x1 x2 h0 k0 h1 h2
      simp only [Option.some.injEq, Prod.mk.injEq] at h
      obtain ⟨hp, rfl⟩ := h
      simp only [Bool.and_eq_true, decide_eq_true_eq] at hp
      obtain ⟨e0, hp⟩ := hp
      subst e0
      obtain ⟨N, r0, q1, q2⟩ := f117_sp x0 x1 x2 hp
      refine ⟨N, r0, ?_, q2⟩
      simp only [wkL, wk_film h0 k0, wk_dec h1, wk_dec h2]
      exact (f117_ev x0 x1 x2 N).trans q1
    · cases h
  · cases h), Tryd.f117, Tryd.func117, by kernel_rfl, by kernel_rfl⟩
theorem k119 : Good 119 g119 := ⟨ctr_ofN (B := Bs) (X := X119) (ctxOK rfl rfl rfl rfl rfl rfl AllC.nil) Tryd.func119 (fun args r h => by
  unfold g119 at h
  split at h
  · rename_i a0 t0 d0 a1 a2
    split at h
    · rename_i x0 y0 x1 x2 h0 k0 h1 h2
      simp only [Option.some.injEq, Prod.mk.injEq] at h
      obtain ⟨hp, rfl⟩ := h
      simp only [Bool.and_eq_true, decide_eq_true_eq] at hp
      obtain ⟨e0, hp⟩ := hp
      subst e0
      obtain ⟨N, r0, q1, q2⟩ := f119_sp x0 x1 x2 hp
      refine ⟨N, r0, ?_, q2⟩
      simp only [wkL, wk_film h0 k0, wk_dec h1, wk_dec h2]
      exact (f119_ev x0 x1 x2 N).trans q1
    · cases h
  · cases h), Tryd.f119, Tryd.func119, by kernel_rfl, by kernel_rfl⟩
theorem k80 : Good 80 g80 := ⟨ctr_ofN (B := Bs) (X := X80) (ctxOK rfl rfl rfl rfl rfl rfl (AllC.cons k117 (AllC.cons k119 AllC.nil))) Tryd.func80 (fun args r h => by
  unfold g80 at h
  split at h
  · rename_i a0 t0 d0 a1 a2
    split at h
    · rename_i x0 y0 x1 x2 h0 k0 h1 h2
      simp only [Option.some.injEq, Prod.mk.injEq] at h
      obtain ⟨hp, rfl⟩ := h
      simp only [Bool.and_eq_true, decide_eq_true_eq] at hp
      obtain ⟨e0, hp⟩ := hp
      subst e0
      obtain ⟨N, r0, q1, q2⟩ := f80_sp x0 x1 x2 hp
      refine ⟨N, r0, ?_, q2⟩
      simp only [wkL, wk_film h0 k0, wk_dec h1, wk_dec h2]
      exact (f80_ev x0 x1 x2 N).trans q1
    · cases h
  · cases h), Tryd.f80, Tryd.func80, by kernel_rfl, by kernel_rfl⟩
theorem k81 : Good 81 g81 := ⟨ctr_ofN (B := Bs) (X := X81) (ctxOK rfl rfl rfl rfl rfl rfl (AllC.cons k53 AllC.nil)) Tryd.func81 (fun args r h => by
  unfold g81 at h
  split at h
  · rename_i a0 a1 a2
    split at h
    · rename_i x0 x1 x2 h0 h1 h2
      simp only [Option.some.injEq, Prod.mk.injEq] at h
      obtain ⟨hp, rfl⟩ := h
      obtain ⟨N, r0, q1, q2⟩ := f81_sp x0 x1 x2 hp
      refine ⟨N, r0, ?_, q2⟩
      simp only [wkL, wk_dec h0, wk_dec h1, wk_dec h2]
      exact (f81_ev x0 x1 x2 N).trans q1
    · cases h
  · cases h), Tryd.f81, Tryd.func81, by kernel_rfl, by kernel_rfl⟩
theorem k18 : Good 18 g18 := ⟨ctr_ofN (B := Bs) (X := X18) (ctxOK rfl rfl rfl rfl rfl rfl (AllC.cons k68 (AllC.cons k69 AllC.nil))) Tryd.func18 (fun args r h => by
  unfold g18 at h
  split at h
  · rename_i a0
    split at h
    · rename_i x0 h0
      simp only [Option.some.injEq, Prod.mk.injEq] at h
      obtain ⟨hp, rfl⟩ := h
      obtain ⟨N, r0, q1, q2⟩ := f18_sp x0 hp
      refine ⟨N, r0, ?_, q2⟩
      simp only [wkL, wk_dec h0]
      exact (f18_ev x0 N).trans q1
    · cases h
  · cases h), Tryd.f18, Tryd.func18, by kernel_rfl, by kernel_rfl⟩
theorem k19 : Good 19 g19 := ⟨ctr_ofN (B := Bs) (X := X19) (ctxOK rfl rfl rfl rfl rfl rfl (AllC.cons k55 (AllC.cons k70 AllC.nil))) Tryd.func19 (fun args r h => by
  unfold g19 at h
  split at h
  · rename_i a0
    split at h
    · rename_i x0 h0
      simp only [Option.some.injEq, Prod.mk.injEq] at h
      obtain ⟨hp, rfl⟩ := h
      obtain ⟨N, r0, q1, q2⟩ := f19_sp x0 hp
      refine ⟨N, r0, ?_, q2⟩
      simp only [wkL, wk_dec h0]
      exact (f19_ev x0 N).trans q1
    · cases h
  · cases h), Tryd.f19, Tryd.func19, by kernel_rfl, by kernel_rfl⟩
theorem k62 : Good 62 g62 := ⟨ctr_ofN (B := Bs) (X := X62) (ctxOK rfl rfl rfl rfl rfl rfl (AllC.cons k18 (AllC.cons k86 AllC.nil))) Tryd.func62 (fun args r h => by
  unfold g62 at h
  split at h
  · rename_i a0 a1
    split at h
    · rename_i x0 x1 h0 h1
      simp only [Option.some.injEq, Prod.mk.injEq] at h
      obtain ⟨hp, rfl⟩ := h
      obtain ⟨N, r0, q1, q2⟩ := f62_sp x0 x1 hp
      refine ⟨N, r0, ?_, q2⟩
      simp only [wkL, wk_dec h0, wk_dec h1]
      exact (f62_ev x0 x1 N).trans q1
    · cases h
  · cases h), Tryd.f62, Tryd.func62, by kernel_rfl, by kernel_rfl⟩
theorem k65 : Good 65 g65 := ⟨ctr_ofN (B := Bs) (X := X65) (ctxOK rfl rfl rfl rfl rfl rfl (AllC.cons k19 AllC.nil)) Tryd.func65 (fun args r h => by
  unfold g65 at h
  split at h
  · rename_i a0 a1
    split at h
    · rename_i x0 x1 h0 h1
      simp only [Option.some.injEq, Prod.mk.injEq] at h
      obtain ⟨hp, rfl⟩ := h
      obtain ⟨N, r0, q1, q2⟩ := f65_sp x0 x1 hp
      refine ⟨N, r0, ?_, q2⟩
      simp only [wkL, wk_dec h0, wk_dec h1]
      exact (f65_ev x0 x1 N).trans q1
    · cases h
  · cases h), Tryd.f65, Tryd.func65, by kernel_rfl, by kernel_rfl⟩
theorem k78 : Good 78 g78 := ⟨ctr_ofN (B := Bs) (X := X78) (ctxOK rfl rfl rfl rfl rfl rfl (AllC.cons k55 AllC.nil)) Tryd.func78 (fun args r h => by
  unfold g78 at h
  split at h
  · rename_i a0 a1
    split at h
    · rename_i x0 x1 h0 h1
      simp only [Option.some.injEq, Prod.mk.injEq] at h
      obtain ⟨hp, rfl⟩ := h
      obtain ⟨N, r0, q1, q2⟩ := f78_sp x0 x1
      refine ⟨N, r0, ?_, q2⟩
      simp only [wkL, wk_dec h0, wk_dec h1]
      exact (f78_ev x0 x1 N).trans q1
    · cases h
  · cases h), Tryd.f78, Tryd.func78, by kernel_rfl, by kernel_rfl⟩
theorem k30 : Good 30 g30 := ⟨ctr_ofN (B := Bs) (X := X30) (ctxOK rfl rfl rfl rfl rfl rfl (AllC.cons k62 (AllC.cons k68 (AllC.cons k80 AllC.nil)))) Tryd.func30 (fun args r h => by
  unfold g30 at h
  split at h
  · rename_i a0 a1 a2
    split at h
    · rename_i x0 x1 x2 h0 h1 h2
      simp only [Option.some.injEq, Prod.mk.injEq] at h
      obtain ⟨hp, rfl⟩ := h
      obtain ⟨N, r0, q1, q2⟩ := f30_sp x0 x1 x2 hp
      refine ⟨N, r0, ?_, q2⟩
      simp only [wkL, wk_dec h0, wk_dec h1, wk_dec h2]
      exact (f30_ev x0 x1 x2 N).trans q1
    · cases h
  · cases h), Tryd.f30, Tryd.func30, by kernel_rfl, by kernel_rfl⟩
theorem k31 : Good 31 g31 := ⟨ctr_ofN (B := Bs) (X := X31) (ctxOK rfl rfl rfl rfl rfl rfl (AllC.cons k55 (AllC.cons k65 (AllC.cons k78 (AllC.cons k81 AllC.nil))))) Tryd.func31 (fun args r h => by
  unfold g31 at h
  split at h
  · rename_i a0 a1 a2
    split at h
    · rename_i x0 x1 x2 h0 h1 h2
      simp only [Option.some.injEq, Prod.mk.injEq] at h
      obtain ⟨hp, rfl⟩ := h
      obtain ⟨N, r0, q1, q2⟩ := f31_sp x0 x1 x2 hp
      refine ⟨N, r0, ?_, q2⟩
      simp only [wkL, wk_dec h0, wk_dec h1, wk_dec h2]
      exact (f31_ev x0 x1 x2 N).trans q1
    · cases h
  · cases h), Tryd.f31, Tryd.func31, by kernel_rfl, by kernel_rfl⟩
theorem k32 : Good 32 g32 := ⟨ctr_ofN (B := Bs) (X := X32) (ctxOK rfl rfl rfl rfl rfl rfl (AllC.cons k62 (AllC.cons k68 (AllC.cons k80 AllC.nil)))) Tryd.func32 (fun args r h => by
  unfold g32 at h
  split at h
  · rename_i a0 a1 a2
    split at h
    · rename_i x0 x1 x2 h0 h1 h2
      simp only [Option.some.injEq, Prod.mk.injEq] at h
      obtain ⟨hp, rfl⟩ := h
      obtain ⟨N, r0, q1, q2⟩ := f32_sp x0 x1 x2 hp
      refine ⟨N, r0, ?_, q2⟩
      simp only [wkL, wk_dec h0, wk_dec h1, wk_dec h2]
      exact (f32_ev x0 x1 x2 N).trans q1
    · cases h
  · cases h), Tryd.f32, Tryd.func32, by kernel_rfl, by kernel_rfl⟩
theorem k33 : Good 33 g33 := ⟨ctr_ofN (B := Bs) (X := X33) (ctxOK rfl rfl rfl rfl rfl rfl (AllC.cons k55 (AllC.cons k65 (AllC.cons k78 (AllC.cons k81 AllC.nil))))) Tryd.func33 (fun args r h => by
  unfold g33 at h
  split at h
  · rename_i a0 a1 a2
    split at h
    · rename_i x0 x1 x2 h0 h1 h2
      simp only [Option.some.injEq, Prod.mk.injEq] at h
      obtain ⟨hp, rfl⟩ := h
      obtain ⟨N, r0, q1, q2⟩ := f33_sp x0 x1 x2 hp
      refine ⟨N, r0, ?_, q2⟩
      simp only [wkL, wk_dec h0, wk_dec h1, wk_dec h2]
      exact (f33_ev x0 x1 x2 N).trans q1
    · cases h
  · cases h), Tryd.f33, Tryd.func33, by kernel_rfl, by kernel_rfl⟩
theorem k34 : Good 34 g34 := ⟨ctr_ofN (B := Bs) (X := X34) (ctxOK rfl rfl rfl rfl rfl rfl (AllC.cons k62 (AllC.cons k68 (AllC.cons k80 AllC.nil)))) Tryd.func34 (fun args r h => by
  unfold g34 at h
  split at h
  · rename_i a0 a1 a2
    split at h
    · rename_i x0 x1 x2 h0 h1 h2
      simp only [Option.some.injEq, Prod.mk.injEq] at h
      obtain ⟨hp, rfl⟩ := h
      obtain ⟨N, r0, q1, q2⟩ := f34_sp x0 x1 x2 hp
      refine ⟨N, r0, ?_, q2⟩
      simp only [wkL, wk_dec h0, wk_dec h1, wk_dec h2]
      exact (f34_ev x0 x1 x2 N).trans q1
    · cases h
  · cases h), Tryd.f34, Tryd.func34, by kernel_rfl, by kernel_rfl⟩
theorem k35 : Good 35 g35 := ⟨ctr_ofN (B := Bs) (X := X35) (ctxOK rfl rfl rfl rfl rfl rfl (AllC.cons k53 (AllC.cons k55 (AllC.cons k56 (AllC.cons k65 (AllC.cons k78 (AllC.cons k81 AllC.nil))))))) Tryd.func35 (fun args r h => by
  unfold g35 at h
  split at h
  · rename_i a0 a1 a2
    split at h
    · rename_i x0 x1 x2 h0 h1 h2
      simp only [Option.some.injEq, Prod.mk.injEq] at h
      obtain ⟨hp, rfl⟩ := h
      obtain ⟨N, r0, q1, q2⟩ := f35_sp x0 x1 x2 hp
      refine ⟨N, r0, ?_, q2⟩
      simp only [wkL, wk_dec h0, wk_dec h1, wk_dec h2]
      exact (f35_ev x0 x1 x2 N).trans q1
    · cases h
  · cases h), Tryd.f35, Tryd.func35, by kernel_rfl, by kernel_rfl⟩

end Ev
end Go.Proofs.YtidnikjkpbmhhaaDoor
