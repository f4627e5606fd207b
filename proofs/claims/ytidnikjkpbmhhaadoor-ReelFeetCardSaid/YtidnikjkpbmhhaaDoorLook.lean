/- A walk that looks something up in a memo: both outcomes. -/
import Derived.Test.YtidnikjkpbmhhaaDoorCon
set_option linter.unusedVariables false
set_option linter.unusedSimpArgs false
namespace Go.Proofs.YtidnikjkpbmhhaaDoor
namespace Ev

variable {E : Env} {V0 : Nat → Nat → Prop} {io0 : Io} {W0 : World} {C : Cx} {s s' s1 s2 : St} {a : Act} {W : World} {X : Ctx} {o : Oper}

/-- In the order of the text, up to a place. -/
theorem wpOps_stepsK (hX : CtxOK E X) (ro : Option Nat) {ops : Array Oper} {Q : Exit → Act → World → Prop} {rest : List Nat} : ∀ (l : List Oper) (k : Nat) (s s' : St) (C : Cx) (a : Act) (W : World), (∀ j, j < l.length → l[j]? = ops[k + j]?) → steps X ops.toList l s = some s' → Sim E V0 io0 W0 C s a W →
    (∀ C' a' W', Sim E V0 io0 W0 C' s' a' W' → wpOpsIn (Fr ro) 0 E.P ops Q rest a' W') → wpOpsIn (Fr ro) 0 E.P ops Q (List.range' k l.length ++ rest) a W
  | [], k, s, s', C, a, W, hl, h, S, hn => by
    simp only [steps] at h
    cases h
    simpa using hn _ _ _ S
  | o :: l, k, s, s', C, a, W, hl, h, S, hn => by
    simp only [steps] at h
    split at h
    · rename_i s1 hs1
      have h0 : ops[k]? = some o := by simpa using (hl 0 (by simp)).symm
      simp only [List.length_cons, List.range'_succ, List.cons_append]
      rw [wpOpsIn_cons]
      refine wpOp_of_step (st1_ok hX hs1) S h0 ro fun C' a' W' S' hf => ?_
      exact wpOps_stepsK hX ro l (k + 1) s1 s' C' a' W' (fun j hj => by have := hl (j + 1) (by simpa using hj); simpa [Nat.add_assoc, Nat.add_comm 1 j] using this) h S' hn
    · cases h

/-- A region with one operation that is walked by hand. -/
theorem region_cut (hX : CtxOK E X) (ro : Option Nat) {ops : Array Oper} {id n : Nat} {o : Oper} {Q : Exit → Act → World → Prop} (hn : ops[n]? = some o) (hg : o.guard = none) (h : steps X ops.toList (ops.toList.take n) s = some s1) (S : Sim E V0 io0 W0 C s a W)
    (hop : ∀ C' a' W', Sim E V0 io0 W0 C' s1 a' W' → ∃ v C2 W2, (execOp a'.eval o).run E.P W' = .ok (.value v) W2 ∧ Sim E V0 io0 W0 C2 s1 a' W2 ∧ ∃ x : AV, VR E.TR C2 W2 x v ∧ ∃ s2, steps X ops.toList (ops.toList.drop (n + 1)) (s1.put o.dst x) = some s2 ∧ ∀ C3 a3 W3, Sim E V0 io0 W0 C3 s2 a3 W3 → Q .normal a3 W3) :
    (Code.region id ops false).wpIn (Fr ro) 0 E.P Q a W := by
  refine wpIn_region ?_
  have hlt := (Array.getElem?_eq_some_iff.1 hn).1
  have hsplit : List.range ops.size = List.range' 0 (ops.toList.take n).length ++ (n :: List.range' (n + 1) (ops.toList.drop (n + 1)).length) := by
    rw [List.range_eq_range']
    have e1 : (ops.toList.take n).length = n := by simp; omega
    have e2 : (ops.toList.drop (n + 1)).length = ops.size - (n + 1) := by simp
    rw [e1, e2, show n :: List.range' (n + 1) (ops.size - (n + 1)) = List.range' n (ops.size - n) by
      rw [show ops.size - n = (ops.size - (n + 1)) + 1 by omega, List.range'_succ]]
    have := List.range'_append_1 (s := 0) (m := n) (n := ops.size - n)
    simp only [Nat.zero_add] at this
    rw [this]
    congr 1
    omega
  rw [hsplit]
  refine wpOps_stepsK hX ro _ 0 s s1 C a W (fun j hj => ?_) h S fun C' a' W' S' => ?_
  · have : j < n := by simp at hj; omega
    simp [List.getElem?_take, this]
  · rw [wpOpsIn_cons]
    unfold wpOpIn
    simp only [hn]
    have hw : Region.wanted o (yielded ops a'.tmps) = true := by simp [Region.wanted, hg]
    rw [if_pos hw]
    obtain ⟨v, C2, W2, hr, S2, x, hv, s2, h2, hq⟩ := hop C' a' W' S'
    refine ⟨fun _ _ => trivial, ?_⟩
    rw [semAt_fr _ hr (fun _ h => nomatch h), hr, Oper.uponIn_value]
    have := wpOps_stepsK hX ro (rest := []) (Q := Q) (ops := ops) (ops.toList.drop (n + 1)) (n + 1) (s1.put o.dst x) s2 C2 (a'.put o.dst v) W2 (fun j hj => by simp) h2 (S2.put o.dst hv) fun C3 a3 W3 S3 => hq C3 a3 W3 S3
    simpa using this

end Ev
end Go.Proofs.YtidnikjkpbmhhaaDoor
