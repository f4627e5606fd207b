/- ReelFeet returns true for every film and all numbers, and leaves them as they were: where the package variables hold what its text lays. -/
import Derived.Test.YtidnikjkpbmhhaaDoorTop
import Derived.Test.YtidnikjkpbmhhaaDoorLfe
set_option linter.unusedVariables false
set_option linter.unusedSimpArgs false
set_option maxRecDepth 4000
namespace Go.Proofs.YtidnikjkpbmhhaaDoor
namespace Ev
open Go.ChangeShapes Go.WideShapes Go.ChangeAt Go.RowKit

theorem feet_contract (H : Type) (enc' : TypeId × Value → H) (W : World) (base : Nat) (args : Array Value) (ds gs : List (DataW H)) (before : List MemPlace)
    (hval : ∀ (j : Nat) t v, Tryd.f5.params[j]? = some t → args[j]? = some v → Value.okWide Tryd.prog W .any base t v)
    (hW : DataW.Whole enc' Tryd.prog Tryd.f5.params.toList Rows.reelFeetSpec.vars false W args.toList ds gs before)
    (hw : (DataW.weightsEach Tryd.prog (Tryd.f5.params.toList ++ (OpenSpec.ofChange Rows.reelFeetSpec).bare.plain.varTypes Tryd.prog) (ds ++ gs)).all (· ≤ reachBytes) = true) (hL : laidMetH Tryd.prog laidAll W) :
    Calls Tryd.prog 5 args W fun e W' => ∃ v, e = .returned v ∧ Rows.reelFeetSpec.post enc' Tryd.prog Tryd.f5 false true false false W args v W' := by
  have hW' := hW
  obtain ⟨p, q, hA0, hV, rfl, hfz, hnd⟩ := hW
  have hA : DataW.TrodAll enc' Tryd.prog W 0 (fun _ => true) true Tryd.f5.params.toList args.toList ds p := hA0
  rw [Tryd.params5] at hA hval
  obtain ⟨v0, vs0, d0, ds0, p0, q0, hargs, rfl, rfl, h0, r0⟩ := trodAll_cons hA
  obtain ⟨v1, vs1, d1, ds1, p1, q1, rfl, rfl, rfl, h1, r1⟩ := trodAll_cons r0
  obtain ⟨rfl, rfl, rfl⟩ := trodAll_nil r1
  obtain rfl : args = #[v0, v1] := by cases args; simp_all
  obtain ⟨rfl, rfl⟩ := trodVars_none hV
  have hvt : (OpenSpec.ofChange Rows.reelFeetSpec).bare.plain.varTypes Tryd.prog = [] := by kernel_rfl
  rw [Tryd.params5, hvt] at hw
  obtain ⟨n0, h0⟩ := h0
  obtain ⟨x0, e0, hd0⟩ := rd_film h0
  have hx0 : chkOK x0 = true := film_bound hd0 fun n hn => by
    have := List.all_eq_true.1 hw n (by
      simp only [List.append_nil, DataW.weightsEach, List.mem_append]
      exact .inl hn)
    simpa using this
  obtain ⟨n1, h1⟩ := h1
  obtain ⟨x1, e1⟩ := rd_ints Tryd.underlying41 (by kernel_rfl) h1
  have hx1 : x1.length = 3 := e1.1
  have hrel : RelV TRr (baseCx noV noIo) W [enc tRF x0, enc (.arr 3 .int) x1] [v0, v1] := by
    simp only [RelV]
    exact ⟨v0, _, rfl, vr_film e0 (agg_of Tryd.underlying26 (hval 0 _ v0 rfl rfl)), ⟨v1, _, rfl, vr_arr e1 (agg_ofA Tryd.underlying41 (hval 1 _ v1 rfl rfl)), rfl⟩⟩
  have hg : g5 [enc tRF x0, enc (.arr 3 .int) x1] = some (true, .bool true) := by
    have g0 : dec tRF (enc tRF x0) = some x0 := by kernel_rfl
    have g1 : dec (.arr 3 .int) (enc (.arr 3 .int) x1) = some x1 := by kernel_rfl
    unfold g5
    simp only [g0, g1]
    have : feetOK x0 x1 = true := hx0
    rw [this]
    rfl
  refine Calls.mono (law_calls k5 hL hrel hg) ?_
  rintro e W' ⟨rfl, io', hk⟩
  exact ⟨_, rfl, post_true hk hW' rfl (by kernel_rfl) (by kernel_rfl) rfl⟩

theorem feet_reads (os : Os) {H : Type} (enc : TypeId × Value → H) : ∃ places, DataW.whole enc Tryd.prog ((World.doorLaid Tryd.prog 24 os).forCall (fun _ _ => 0) ⟨#[], #[zFilm, zInts 3], []⟩).memory Tryd.f5.params.toList Rows.reelFeetSpec.vars false (#[zFilm, zInts 3] : Array Value).toList 8 = some ([.agg [.nil, .agg [.lit (.int .i64 0), .lit (.int .i64 0)], .agg [.lit (.int .i64 0), .lit (.int .i64 0)], .lit (.int .i64 0)], .agg [.lit (.int .i64 0), .lit (.int .i64 0), .lit (.int .i64 0)]], [], places) :=
  ⟨[], by kernel_rfl⟩

set_option maxRecDepth 100000 in
theorem feet_lifted (os : Os) (started : os.Started) (H : Type) (enc : TypeId × Value → H) (F : Stop.Interp) :
    ReturnsInHanded {} Tryd.checked os 5 .any ((OpenSpec.ofChange Rows.reelFeetSpec).preRow enc Tryd.prog Tryd.f5 Rows.reelFeetRow.domain false Rows.reelFeetRow.laid) (((OpenSpec.ofChange Rows.reelFeetSpec).at F).post enc Tryd.prog Tryd.f5 false true false false) := by
  obtain ⟨places, hx⟩ := feet_reads os enc
  refine returnsInHanded_of_row (C := Tryd.checked) (s := OpenSpec.ofChange Rows.reelFeetSpec) own started (by kernel_rfl) Tryd.func5
    (witness_row_at (enc := enc) (C := Tryd.checked) false (World.doorLaid Tryd.prog 24 os) #[zFilm, zInts 3] rfl (by kernel_rfl) (by kernel_rfl) (by kernel_rfl)
      (OpenSpec.preRow_of_cond 8 hx (by kernel_rfl) (fun k hk => by cases hk) (by kernel_rfl) (door_met os _))) ?_
  intro W base args ds gs before hval hW _ _ hw hL _ _
  exact feet_contract H enc W base args ds gs before hval hW hw hL

theorem feet_said : Rows.ReelFeetSaid :=
  OpenClaim.holds_of_cond 5 Tryd.f5 rfl rfl rfl rfl rfl rfl rfl ⟨rfl, rfl, rfl, rfl, rfl⟩ rfl rfl rfl rfl rfl (by kernel_rfl) Tryd.func5 (by kernel_rfl)
    (of_decide_eq_true (by kernel_rfl)) (by unfold Func.isWrapper; first | (rw [if_pos (by decide +kernel)]; kernel_rfl) | (rw [if_neg (by decide +kernel)]; exact ⟨rfl, rfl⟩))
    (fun os started H enc _ F => by rw [OpenClaim.pre_eq_preRow]; exact feet_lifted os started H enc F)

theorem feet_plain (f : FuncId) (fn : Func) (hf : Tryd.pinned.checked.prog.funcNamed "bioscope/bioscopelaw01.ReelFeet" = some f) (hfn : Tryd.pinned.checked.prog.funcs[f]? = some fn) :
    false = Tryd.pinned.checked.prog.looks [] ∧ ∀ (j : Nat) t, fn.params[j]? = some t → Tryd.pinned.checked.prog.wantsStandIn t = false := by
  obtain rfl : f = 5 := Option.some.inj ((show Tryd.prog.funcNamed "bioscope/bioscopelaw01.ReelFeet" = some 5 by kernel_rfl).symm.trans hf) |>.symm
  obtain rfl : fn = Tryd.f5 := (Option.some.inj (Tryd.func5.symm.trans hfn)).symm
  refine ⟨by kernel_rfl, fun j t ht => ?_⟩
  have hall : (Tryd.f5.params.toList.all fun u => !Tryd.prog.wantsStandIn u) = true := by kernel_rfl
  have hm : t ∈ Tryd.f5.params.toList := by simpa using Array.mem_of_getElem? ht
  have h2 : Tryd.prog.wantsStandIn t = false := by simpa using List.all_eq_true.1 hall t hm
  exact h2

end Ev

/-- The statement. -/
theorem reelFeet_holds : Rows.ReelFeetCardSaid :=
  Claim7.holds_tied_plain_at .later [] _ _ _ _ Ev.feet_said (fun _ h => by cases h) (by kernel_rfl) (fun _ h => by cases h) reelFeet_row_tie rfl ⟨rfl, rfl⟩ (by kernel_rfl) rfl Ev.feet_plain (by kernel_rfl)
end Go.Proofs.YtidnikjkpbmhhaaDoor
