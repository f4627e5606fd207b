/- How a law's contract becomes its statement. -/
import Derived.Test.YtidnikjkpbmhhaaDoorCards
import Derived.Test.YtidnikjkpbmhhaaDoorTie
import Derived.Test.YtidnikjkpbmhhaaDoorGlb
import Derived.Test.YtidnikjkpbmhhaaDoorTrn
set_option linter.unusedVariables false
set_option linter.unusedSimpArgs false
set_option maxRecDepth 4000
namespace Go.Proofs.YtidnikjkpbmhhaaDoor
namespace Ev
open Go.ChangeShapes Go.WideShapes Go.ChangeAt Go.RowKit

theorem own : ownKnob Tryd.prog.godebug = none := by kernel_rfl
theorem door_met (os : Os) (args : Array Value) : laidMetH Tryd.prog laidAll ((World.doorLaid Tryd.prog 24 os).forCall (fun _ _ => 0) ⟨#[], args, []⟩).memory :=
  laidMetH_of_parts3 (fuel := 8) (laidMet_of_run' 8 (by kernel_rfl) (by kernel_rfl)) (by kernel_rfl) (by kernel_rfl)

def zFilm : Value := .agg #[.slice none 0 0, .int .i64 0, .int .i64 0, .int .i64 0, .int .i64 0, .int .i64 0]
def zInts (n : Nat) : Value := .agg (Array.replicate n (.int .i64 0))

theorem film_bound {H : Type} {d : DataW H} {f : Fi} (h : ∃ d0 d1 d2 d3, d = .agg [d0, d1, d2, d3] ∧ ((d0 = .nil ∧ f.1 = []) ∨ ∃ es rs, d0 = .slice es rs ∧ es.length = f.1.length)) (hw : ∀ n ∈ d.weights Tryd.prog 26, n ≤ reachBytes) : chkOK f = true := by
  obtain ⟨d0, d1, d2, d3, rfl, h⟩ := h
  unfold chkOK lenOK
  refine Nat.ble_eq_true_of_le ?_
  rcases h with ⟨_, h⟩ | ⟨es, rs, rfl, h⟩
  · rw [h]
    simp
  · have hb : Tryd.prog.bytesOf 66 = 48 := by kernel_rfl
    have := hw ((es.length + rs.length) * 48) (by
      simp only [DataW.weights, Tryd.underlying26, DataW.weightsEach, Tryd.underlying22, hb, List.map_cons]
      simp)
    have h2 : reachBytes = 140737488351232 := rfl
    rw [h2] at this
    omega

theorem vr_film {W : World} {f : Fi} {v : Value} (h : CRel noV W tRF f v.cells.toList) (ha : ∃ cs, v = .agg cs) : VR TRr (baseCx noV noIo) W (enc tRF f) v := by
  obtain ⟨cs, rfl⟩ := ha
  obtain ⟨h1, h2⟩ := enc_rel (io := noIo) (TR := TRr) h (baseCx noV noIo) rfl
  refine .inr ⟨cs.toList, ?_, h1, rfl⟩
  rw [h2]
  exact CRel.length h
theorem vr_arr {W : World} {n : Nat} {l : List Int} {v : Value} (h : CRel noV W (.arr n .int) l v.cells.toList) (ha : ∃ cs, v = .agg cs) : VR TRr (baseCx noV noIo) W (enc (.arr n .int) l) v := by
  obtain ⟨cs, rfl⟩ := ha
  obtain ⟨h1, h2⟩ := enc_rel (io := noIo) (TR := TRr) h (baseCx noV noIo) rfl
  refine .inr ⟨cs.toList, ?_, h1, rfl⟩
  rw [h2]
  exact CRel.length h

theorem agg_of {W : World} {base : Nat} {t : TypeId} {v : Value} {fs : Array Field} (ht : Tryd.prog.underlying t = some (.struct fs)) (h : Value.okWide Tryd.prog W .any base t v) : ∃ cs, v = .agg cs := by
  unfold Value.okWide at h
  rw [ht] at h
  obtain ⟨cs, h, _⟩ := h
  exact ⟨cs, h⟩
theorem agg_ofA {W : World} {base : Nat} {t n e : Nat} {v : Value} (ht : Tryd.prog.underlying t = some (.array n e)) (h : Value.okWide Tryd.prog W .any base t v) : ∃ cs, v = .agg cs := by
  unfold Value.okWide at h
  rw [ht] at h
  obtain ⟨cs, h, _⟩ := h
  exact ⟨cs, h⟩

theorem vr_list {W : World} {base : Nat} {l : List Int} {v : Value} (h : CRel noV W tInts l v.cells.toList) (hv : Value.okWide Tryd.prog W .any base 27 v) : VR TRr (baseCx noV noIo) W (enc tInts l) v := by
  have hc : v.cells = #[v] := by
    unfold Value.okWide at hv
    rw [Tryd.underlying27] at hv
    simp only [Cell.okWide, Tryd.underlying27, Cell.ok] at hv
    cases v <;> first
      | rfl
      | simp_all
  rw [hc] at h
  obtain ⟨h1, h2⟩ := enc_rel (io := noIo) (TR := TRr) h (baseCx noV noIo) rfl
  exact .inr ⟨[v], rfl, h1, rfl⟩
theorem vr_num {W : World} {base : Nat} {k : Int} {v : Value} (h : v.cells.toList = [.int .i64 k]) (hv : Value.okWide Tryd.prog W .any base 3 v) : VR TRr (baseCx noV noIo) W (enc .int k) v := by
  have hc : v = .int .i64 k := by
    unfold Value.okWide at hv
    rw [Tryd.underlying3] at hv
    simp only [Cell.okWide, Tryd.underlying3, Cell.ok] at hv
    cases v <;> first
      | (simp [Value.cells] at h; rw [h.1, h.2])
      | simp_all
  rw [hc]
  exact vr_int (E := Bs.env) k
theorem list_bound {H : Type} {d : DataW H} {l : List Int} (h : (d = .nil ∧ l = []) ∨ ∃ es rs, d = .slice es rs ∧ es.length = l.length) (hw : ∀ n ∈ d.weights Tryd.prog 27, n ≤ reachBytes) : lenOK l = true := by
  unfold lenOK
  refine Nat.ble_eq_true_of_le ?_
  rcases h with ⟨_, h⟩ | ⟨es, rs, rfl, h⟩
  · rw [h]
    simp
  · have hb : Tryd.prog.bytesOf 3 = 8 := by kernel_rfl
    have := hw ((es.length + rs.length) * 8) (by
      simp only [DataW.weights, Tryd.underlying27, hb]
      simp)
    have h2 : reachBytes = 140737488351232 := rfl
    rw [h2] at this
    omega

/-- What a contract gives. -/
theorem law_calls {f : Nat} {g : List AV → Option (Bool × AV)} (k : Good f g) {W : World} {args : List AV} {vs : List Value} (hL : laidMetH Tryd.prog laidAll W) (hr : RelV TRr (baseCx noV noIo) W args vs) (hg : g args = some (true, .bool true)) :
    Calls Tryd.prog f vs.toArray W fun e W' => e = .returned (.bool true) ∧ ∃ io', Keep noM noIo io' W W' := by
  refine Calls.mono (k.1 noV noIo W args vs (.bool true) (gl_of_laid hL) hr hg) ?_
  rintro e W' ⟨v, io', rfl, hv, hk, _⟩
  exact ⟨by rw [hv.bool_inv (E := Bs.env)], io', hk⟩

end Ev
end Go.Proofs.YtidnikjkpbmhhaaDoor
