/- The spools of a film: one round, all rounds, the contract. -/
import Derived.Test.YtidnikjkpbmhhaaDoorSpl
set_option linter.unusedVariables false
set_option linter.unusedSimpArgs false
set_option maxRecDepth 4000
namespace Go.Proofs.YtidnikjkpbmhhaaDoor
namespace Ev

theorem r10 {V : Nat → Nat → Prop} {io1 : Io} {W1 : World} {v3 v13 v8 : Value} {out : List Int} (hout : out.length ≤ 1000) {x : Fi} {l : List Int} {n i room w : Int} {C : Cx} {a : Act} {W : World} (S : Sim Bs.env V io1 W1 C (md x l n i room w) a W) (hz : a.tmps.size = 51) (h3 : a.tmps[3]? = some v3) (h13 : a.tmps[13]? = some v13) (h8 : a.tmps[8]? = some v8) (ho : OwnI W1.heap.size C W v8 out)
    {Q : Exit → Act → World → Prop} (hQ : ∀ C' a' W', Sim Bs.env V io1 W1 C' (dend x l n i room w) a' W' → a'.tmps.size = 51 → a'.tmps[3]? = some v3 → a'.tmps[13]? = some v13 → ∀ v, a'.tmps[8]? = some v → OwnI W1.heap.size C' W' v (out ++ [0]) → Q .normal a' W') : cz10.wpIn (Fr none) 0 Tryd.prog Q a W := by
  rw [cz10_eq]
  refine wpIn_region_any mixed ?_
  have S' := (S.keep (Keep.drew C.io W) (IoOK.drew S.iok)).2
  have h88 : dops.size = 8 := by kernel_rfl
  refine collectG_ok (JD V io1 W1 v3 v13 out) (fun i listed s s1 h a W hJ K hK => dstep hout (Q := Q) i listed s s1 h a W hJ K hK) _ _ _ _ (dend_eq x l n i room w) _ _ ?_ ?_
  · refine ⟨_, S', fun k y h => List.eq_of_mem_replicate (List.mem_of_getElem? (show (List.replicate 51 Ob.none)[k]? = some y from h)), by simp [h88], hz, h3, h13, fun _ => ⟨v8, h8, ho, fun h => ?_, by simp [h88]⟩, fun h => ?_⟩
    · simp [h88] at h
    · simp [h88] at h
  · intro s' hs' listed' a' W' hf hJ
    have := List.eq_of_mem_replicate hs'
    subst this
    obtain ⟨C', S2, hs, hsz, g1, g2, g3, hA, hB⟩ := hJ
    unfold dfin at hf
    cases h2 : listed'[2]?.getD false with
    | false =>
      obtain ⟨v, q1, q2, q3, q4⟩ := hA h2
      rw [hf] at q4
      cases q4
    | true =>
      obtain ⟨v, q1, q2, q3⟩ := hB h2
      exact hQ C' a' W' S2 g1 g2 g3 v (q3 hf) q2

theorem op_of {ops : Array Oper} {k : Nat} {op : Op} {dst : Option Nat} {g : Option (Nat × Bool)} (h : (ops[k]?).map (fun o => (o.op, o.dst, o.guard)) = some (op, dst, g)) : ∃ o, ops[k]? = some o ∧ o.op = op ∧ o.dst = dst ∧ o.guard = g := by
  cases hq : ops[k]? with
  | none => rw [hq] at h; cases h
  | some o =>
    rw [hq] at h
    simp only [Option.map_some, Option.some.injEq, Prod.mk.injEq] at h
    exact ⟨o, rfl, h.1, h.2.1, h.2.2⟩

noncomputable def iops : Array Oper := opsOf cz11
theorem cz11_eq : cz11 = .region 11 iops false := by kernel_rfl
theorem iops_size : iops.size = 9 := by kernel_rfl
theorem iops_0 : (iops[0]?).map (fun o => (o.op, o.dst, o.guard)) = some (.move (.tmp 8), some 38, none) := by kernel_rfl
theorem iops_1 : (iops[1]?).map (fun o => (o.op, o.dst, o.guard)) = some (.move (.tmp 8), some 39, none) := by kernel_rfl
theorem iops_2 : (iops[2]?).map (fun o => (o.op, o.dst, o.guard)) = some (.call { callee := .builtin .len, args := #[.tmp 39], argTypes := #[27] }, some 40, none) := by kernel_rfl
theorem iops_3 : (iops[3]?).map (fun o => (o.op, o.dst, o.guard)) = some (.binOp .sub 3 (.tmp 40) (.const (.int .i64 1)) 3, some 41, none) := by kernel_rfl
theorem iops_4 : (iops[4]?).map (fun o => (o.op, o.dst, o.guard)) = some (.indexAddr 27 (.tmp 38) (.tmp 41), some 42, none) := by kernel_rfl
theorem iops_5 : (iops[5]?).map (fun o => (o.op, o.dst, o.guard)) = some (.load 3 (.tmp 42), some 43, none) := by kernel_rfl
theorem iops_6 : (iops[6]?).map (fun o => (o.op, o.dst, o.guard)) = some (.binOp .add 3 (.tmp 43) (.const (.int .i64 1)) 3, some 44, none) := by kernel_rfl
theorem iops_7 : (iops[7]?).map (fun o => (o.op, o.dst, o.guard)) = some (.indexAddr 27 (.tmp 38) (.tmp 41), some 45, none) := by kernel_rfl
theorem iops_8 : (iops[8]?).map (fun o => (o.op, o.dst, o.guard)) = some (.store 3 (.tmp 45) (.tmp 44), none, none) := by kernel_rfl

theorem incLast_len {l : List Int} (h : l ≠ []) : (incLast l).length = l.length := by
  have := List.length_pos_iff.2 h
  simp [incLast]
  omega
theorem incLast_get {l : List Int} (h : l ≠ []) {i : Nat} {x : Int} (hx : (incLast l)[i]? = some x) : (i < l.length - 1 ∧ l[i]? = some x) ∨ (i = l.length - 1 ∧ x = w64 (l.getLastD 0 + 1)) := by
  unfold incLast at hx
  rw [List.getElem?_append] at hx
  split at hx
  · rename_i hi
    rw [List.length_dropLast] at hi
    rw [List.getElem?_dropLast, if_pos hi] at hx
    exact .inl ⟨hi, hx⟩
  · rename_i hi
    rw [List.length_dropLast] at hi hx
    have e : i - (l.length - 1) = 0 := by
      rcases Nat.eq_zero_or_pos (i - (l.length - 1)) with h | h
      · exact h
      · rw [List.getElem?_eq_none (by simp; omega)] at hx
        cases hx
    rw [e] at hx
    simp only [List.getElem?_cons_zero, Option.some.injEq] at hx
    exact .inr ⟨by omega, hx.symm⟩
theorem last_get {l : List Int} (h : l ≠ []) : l[l.length - 1]? = some (l.getLastD 0) := by
  rw [List.getLastD_eq_getLast?, ← List.getLast?_eq_getElem?]
  cases hq : l.getLast? with
  | none => simp at hq; exact absurd hq h
  | some y => rfl

theorem r11 {V : Nat → Nat → Prop} {io1 : Io} {W1 : World} {v8 : Value} {out : List Int} (hout : out.length ≤ 2000) (hne : out ≠ []) {s : St} {C : Cx} {a : Act} {W : World} (S : Sim Bs.env V io1 W1 C s a W) (hs : AllNone s) (hz : a.tmps.size = 51) (h8 : a.tmps[8]? = some v8) (ho : OwnI W1.heap.size C W v8 out)
    {Q : Exit → Act → World → Prop} (hQ : ∀ s' a' W', Sim Bs.env V io1 W1 C s' a' W' → AllNone s' → a'.tmps.size = 51 → (∀ k, k < 38 → a'.tmps[k]? = a.tmps[k]?) → OwnI W1.heap.size C W' v8 (incLast out) → Q .normal a' W') : cz11.wpIn (Fr none) 0 Tryd.prog Q a W := by
  have hm := List.length_pos_iff.2 hne
  rcases ho with ⟨_, h⟩ | ⟨b, cs, ty, rfl, h2, h3, h4, h5, h6⟩
  · exact absurd h hne
  obtain ⟨o0, k0, p0, d0, e0⟩ := op_of iops_0
  obtain ⟨o1, k1, p1, d1, e1⟩ := op_of iops_1
  obtain ⟨o2, k2, p2, d2, e2⟩ := op_of iops_2
  obtain ⟨o3, k3, p3, d3, e3⟩ := op_of iops_3
  obtain ⟨o4, k4, p4, d4, e4⟩ := op_of iops_4
  obtain ⟨o5, k5, p5, d5, e5⟩ := op_of iops_5
  obtain ⟨o6, k6, p6, d6, e6⟩ := op_of iops_6
  obtain ⟨o7, k7, p7, d7, e7⟩ := op_of iops_7
  obtain ⟨o8, k8, p8, d8, e8⟩ := op_of iops_8
  obtain ⟨inf, zv, i1, i2, i3, i4, i5, i6⟩ := elInt
  have hti : TiOK Bs 3 ti3 := chkTi_ok rfl chk3
  have hadd : (⟨b, 0, none⟩ : Addr).add (((out.length : Int) - 1).toNat * 1) = ⟨b, out.length - 1, none⟩ := by
    have : ((out.length : Int) - 1).toNat * 1 = out.length - 1 := by omega
    rw [this]
    unfold Addr.add
    split <;> simp_all
  have hcell : W.cell? ⟨b, out.length - 1, none⟩ = some (.int .i64 (out.getLastD 0)) := by
    unfold World.cell?
    simp only [h3]
    simpa using h5 _ _ (last_get hne)
  have hw : w64 ((out.length : Int) - 1) = (out.length : Int) - 1 := w64_small (by omega) (by omega)
  rw [cz11_eq]
  refine wpIn_region ?_
  rw [iops_size, show List.range 9 = [0, 1, 2, 3, 4, 5, 6, 7, 8] from rfl]
  rw [wpOpsIn_cons]
  refine hand_value k0 e0 (v := .slice (some ⟨b, 0, none⟩) out.length cs.size) (W' := W) (by unfold execOp; rw [p0, ← eval_tmp h8]; rfl) ?_
  rw [d0]
  generalize ha1 : a.put (some 38) (.slice (some ⟨b, 0, none⟩) out.length cs.size) = a1
  have S1 : Sim Bs.env V io1 W1 C (s.put (some 38) .poison) a1 W := by rw [← ha1]; exact S.put _ (vr_poison _)
  have z1 : a1.tmps.size = 51 := by rw [← ha1, put_size]; exact hz
  have f1 : a1.tmps[38]? = some (.slice (some ⟨b, 0, none⟩) out.length cs.size) := by rw [← ha1]; exact put_same _ _ _ (by omega)
  have g1 : ∀ k, k < 38 → a1.tmps[k]? = a.tmps[k]? := fun k hk => by rw [← ha1, put_other _ _ (by omega)]
  rw [wpOpsIn_cons]
  refine hand_value k1 e1 (v := .slice (some ⟨b, 0, none⟩) out.length cs.size) (W' := W) (by unfold execOp; rw [p1, ← eval_tmp ((g1 8 (by omega)).trans h8)]; rfl) ?_
  rw [d1]
  generalize ha2 : a1.put (some 39) (.slice (some ⟨b, 0, none⟩) out.length cs.size) = a2
  have S2 : Sim Bs.env V io1 W1 C ((s.put (some 38) .poison).put (some 39) .poison) a2 W := by rw [← ha2]; exact S1.put _ (vr_poison _)
  have z2 : a2.tmps.size = 51 := by rw [← ha2, put_size]; exact z1
  have f2 : a2.tmps[39]? = some (.slice (some ⟨b, 0, none⟩) out.length cs.size) := by rw [← ha2]; exact put_same _ _ _ (by omega)
  have g2 : ∀ k, k < 39 → a2.tmps[k]? = a1.tmps[k]? := fun k hk => by rw [← ha2, put_other _ _ (by omega)]
  rw [wpOpsIn_cons]
  refine hand_value k2 e2 (v := .int .i64 out.length) (W' := W) ?_ ?_
  · unfold execOp
    rw [p2]
    simp only [Sem.run_bind, resolve, Sem.run_pure, Result.andThen_ok, invoke, builtin]
    simp [Builtin.len_, run_underlying i6, eval_tmp f2, goInt]
  rw [d2]
  generalize ha3 : a2.put (some 40) (.int .i64 out.length) = a3
  have S3 : Sim Bs.env V io1 W1 C (((s.put (some 38) .poison).put (some 39) .poison).put (some 40) .poison) a3 W := by rw [← ha3]; exact S2.put _ (vr_poison _)
  have z3 : a3.tmps.size = 51 := by rw [← ha3, put_size]; exact z2
  have f3 : a3.tmps[40]? = some (.int .i64 out.length) := by rw [← ha3]; exact put_same _ _ _ (by omega)
  have g3 : ∀ k, k < 40 → a3.tmps[k]? = a2.tmps[k]? := fun k hk => by rw [← ha3, put_other _ _ (by omega)]
  rw [wpOpsIn_cons]
  refine hand_value k3 e3 (v := .int .i64 ((out.length : Int) - 1)) (W' := W) ?_ ?_
  · unfold execOp
    rw [p3]
    refine run_v ?_
    rw [eval_tmp f3, show a3.eval (.const (.int .i64 1)) = .int .i64 1 from rfl]
    have : (do eqGuard .sub 3 (.tmp 40) (.const (.int .i64 1)) (.int .i64 out.length) (.int .i64 1); binOp .sub 3 (.int .i64 out.length) (.int .i64 1) : Sem Value).run Tryd.prog W = .ok (.int .i64 (w64 ((out.length : Int) - 1))) W := rfl
    rw [this, hw]
  rw [d3]
  generalize ha4 : a3.put (some 41) (.int .i64 ((out.length : Int) - 1)) = a4
  have S4 : Sim Bs.env V io1 W1 C ((((s.put (some 38) .poison).put (some 39) .poison).put (some 40) .poison).put (some 41) .poison) a4 W := by rw [← ha4]; exact S3.put _ (vr_poison _)
  have z4 : a4.tmps.size = 51 := by rw [← ha4, put_size]; exact z3
  have f4 : a4.tmps[41]? = some (.int .i64 ((out.length : Int) - 1)) := by rw [← ha4]; exact put_same _ _ _ (by omega)
  have g4 : ∀ k, k < 41 → a4.tmps[k]? = a3.tmps[k]? := fun k hk => by rw [← ha4, put_other _ _ (by omega)]
  have c38 : a4.tmps[38]? = some (.slice (some ⟨b, 0, none⟩) out.length cs.size) := by rw [g4 _ (by omega), g3 _ (by omega), g2 _ (by omega)]; exact f1
  rw [wpOpsIn_cons]
  refine hand_value k4 e4 (v := .pointer (some ⟨b, out.length - 1, none⟩)) (W' := W) ?_ ?_
  · unfold execOp
    rw [p4]
    refine run_v ?_
    rw [eval_tmp c38, eval_tmp f4, ← hadd]
    simp [Instr.indexAt, asIntOf, run_underlying i6, run_sizeOf' (E := Bs.env) i1, i3, show (0 : Int) ≤ (out.length : Int) - 1 by omega, show (out.length : Int) - 1 < out.length by omega]
    intro h
    omega
  rw [d4]
  generalize ha5 : a4.put (some 42) (.pointer (some ⟨b, out.length - 1, none⟩)) = a5
  have S5 : Sim Bs.env V io1 W1 C (((((s.put (some 38) .poison).put (some 39) .poison).put (some 40) .poison).put (some 41) .poison).put (some 42) .poison) a5 W := by rw [← ha5]; exact S4.put _ (vr_poison _)
  have z5 : a5.tmps.size = 51 := by rw [← ha5, put_size]; exact z4
  have f5 : a5.tmps[42]? = some (.pointer (some ⟨b, out.length - 1, none⟩)) := by rw [← ha5]; exact put_same _ _ _ (by omega)
  have g5 : ∀ k, k < 42 → a5.tmps[k]? = a4.tmps[k]? := fun k hk => by rw [← ha5, put_other _ _ (by omega)]
  rw [wpOpsIn_cons]
  refine hand_value k5 e5 (v := .int .i64 (out.getLastD 0)) (W' := W) ?_ ?_
  · unfold execOp
    rw [p5]
    refine run_v ?_
    rw [eval_tmp f5]
    simp only [Instr.loadAt, Instr.sureAddr, Sem.run_bind, Sem.run_pure, Result.andThen_ok]
    exact run_loadVar' (E := Bs.env) hti (v := .int (out.getLastD 0)) (cs := [.int .i64 (out.getLastD 0)]) rfl rfl rfl (fun j u hu => by
      cases j with
      | zero => cases hu; rw [add_zero]; exact hcell
      | succ j => simp at hu) (fun _ => rfl)
  rw [d5]
  generalize ha6 : a5.put (some 43) (.int .i64 (out.getLastD 0)) = a6
  have S6 : Sim Bs.env V io1 W1 C ((((((s.put (some 38) .poison).put (some 39) .poison).put (some 40) .poison).put (some 41) .poison).put (some 42) .poison).put (some 43) .poison) a6 W := by rw [← ha6]; exact S5.put _ (vr_poison _)
  have z6 : a6.tmps.size = 51 := by rw [← ha6, put_size]; exact z5
  have f6 : a6.tmps[43]? = some (.int .i64 (out.getLastD 0)) := by rw [← ha6]; exact put_same _ _ _ (by omega)
  have g6 : ∀ k, k < 43 → a6.tmps[k]? = a5.tmps[k]? := fun k hk => by rw [← ha6, put_other _ _ (by omega)]
  rw [wpOpsIn_cons]
  refine hand_value k6 e6 (v := .int .i64 (w64 (out.getLastD 0 + 1))) (W' := W) ?_ ?_
  · unfold execOp
    rw [p6]
    refine run_v ?_
    rw [eval_tmp f6, show a6.eval (.const (.int .i64 1)) = .int .i64 1 from rfl]
    rfl
  rw [d6]
  generalize ha7 : a6.put (some 44) (.int .i64 (w64 (out.getLastD 0 + 1))) = a7
  have S7 : Sim Bs.env V io1 W1 C (((((((s.put (some 38) .poison).put (some 39) .poison).put (some 40) .poison).put (some 41) .poison).put (some 42) .poison).put (some 43) .poison).put (some 44) .poison) a7 W := by rw [← ha7]; exact S6.put _ (vr_poison _)
  have z7 : a7.tmps.size = 51 := by rw [← ha7, put_size]; exact z6
  have f7 : a7.tmps[44]? = some (.int .i64 (w64 (out.getLastD 0 + 1))) := by rw [← ha7]; exact put_same _ _ _ (by omega)
  have g7 : ∀ k, k < 44 → a7.tmps[k]? = a6.tmps[k]? := fun k hk => by rw [← ha7, put_other _ _ (by omega)]
  have c38' : a7.tmps[38]? = some (.slice (some ⟨b, 0, none⟩) out.length cs.size) := by rw [g7 _ (by omega), g6 _ (by omega), g5 _ (by omega)]; exact c38
  have c41 : a7.tmps[41]? = some (.int .i64 ((out.length : Int) - 1)) := by rw [g7 _ (by omega), g6 _ (by omega), g5 _ (by omega)]; exact f4
  rw [wpOpsIn_cons]
  refine hand_value k7 e7 (v := .pointer (some ⟨b, out.length - 1, none⟩)) (W' := W) ?_ ?_
  · unfold execOp
    rw [p7]
    refine run_v ?_
    rw [eval_tmp c38', eval_tmp c41, ← hadd]
    simp [Instr.indexAt, asIntOf, run_underlying i6, run_sizeOf' (E := Bs.env) i1, i3, show (0 : Int) ≤ (out.length : Int) - 1 by omega, show (out.length : Int) - 1 < out.length by omega]
    intro h
    omega
  rw [d7]
  generalize ha8 : a7.put (some 45) (.pointer (some ⟨b, out.length - 1, none⟩)) = a8
  have S8 : Sim Bs.env V io1 W1 C ((((((((s.put (some 38) .poison).put (some 39) .poison).put (some 40) .poison).put (some 41) .poison).put (some 42) .poison).put (some 43) .poison).put (some 44) .poison).put (some 45) .poison) a8 W := by rw [← ha8]; exact S7.put _ (vr_poison _)
  have z8 : a8.tmps.size = 51 := by rw [← ha8, put_size]; exact z7
  have f8 : a8.tmps[45]? = some (.pointer (some ⟨b, out.length - 1, none⟩)) := by rw [← ha8]; exact put_same _ _ _ (by omega)
  have g8 : ∀ k, k < 45 → a8.tmps[k]? = a7.tmps[k]? := fun k hk => by rw [← ha8, put_other _ _ (by omega)]
  have c44 : a8.tmps[44]? = some (.int .i64 (w64 (out.getLastD 0 + 1))) := by rw [g8 _ (by omega)]; exact f7
  have hst := run_storeVar' (E := Bs.env) (C := C) (W := W) hti (u := .int (w64 (out.getLastD 0 + 1))) (ds := [.int .i64 (w64 (out.getLastD 0 + 1))]) (b := b) (off := out.length - 1) rfl (by simp [Rel]) rfl h3 (by simp; omega)
  rw [wpOpsIn_cons]
  refine hand_skip k8 e8 (W' := W.setRow b (cs.toList.take (out.length - 1) ++ [Value.int .i64 (w64 (out.getLastD 0 + 1))] ++ cs.toList.drop (out.length - 1 + 1)).toArray) ?_ ?_
  · unfold execOp
    rw [p8]
    simp only [Instr.storeAt, eval_tmp f8, eval_tmp c44, Instr.sureAddr, Sem.run_bind, Sem.run_pure, Result.andThen_ok]
    have hst' : (storeVar 3 ⟨b, out.length - 1, none⟩ (.int .i64 (w64 (out.getLastD 0 + 1)))).run Tryd.prog W = .ok () (W.setRow b (cs.toList.take (out.length - 1) ++ [Value.int .i64 (w64 (out.getLastD 0 + 1))] ++ cs.toList.drop (out.length - 1 + 1)).toArray) := hst
    rw [hst']
    rfl
  rw [d8]
  have hsA : AllNone ((((((((s.put (some 38) .poison).put (some 39) .poison).put (some 40) .poison).put (some 41) .poison).put (some 42) .poison).put (some 43) .poison).put (some 44) .poison).put (some 45) .poison) := hs
  have S9 := S8.volWrite hsA (cs' := (cs.toList.take (out.length - 1) ++ [Value.int .i64 (w64 (out.getLastD 0 + 1))] ++ cs.toList.drop (out.length - 1 + 1)).toArray) h2 h3 h6
  refine hQ _ a8 _ S9 hsA z8 (fun k hk => by rw [g8 _ (by omega), g7 _ (by omega), g6 _ (by omega), g5 _ (by omega), g4 _ (by omega), g3 _ (by omega), g2 _ (by omega), g1 _ hk]) (.inr ⟨b, _, ty, ?_, h2, setRow_heap W b cs _ ty _ h3, ?_, fun i y hy => ?_, h6⟩)
  · rw [incLast_len hne]
    congr 1
    simp
    omega
  · rw [incLast_len hne]
    simp
    omega
  · rw [List.getElem?_toArray, List.append_assoc, List.getElem?_append]
    rcases incLast_get hne hy with ⟨q1, q2⟩ | ⟨q1, q2⟩
    · rw [if_pos (by simp; omega), List.getElem?_take, if_pos q1]
      simpa using h5 i y q2
    · rw [if_neg (by simp; omega)]
      have : i - (cs.toList.take (out.length - 1)).length = 0 := by simp; omega
      rw [this, q2]
      rfl


/-! One round, and all. -/
theorem findA_mem : ∀ {m : List (Nat × AV)} {k : Nat} {v : AV}, findA m k = some v → (k, v) ∈ m
  | [], k, v, h => by cases h
  | (j, u) :: m, k, v, h => by
    simp only [findA] at h
    split at h
    · rename_i e
      cases h
      subst e
      exact List.mem_cons_self ..
    · exact List.mem_cons_of_mem _ (findA_mem h)

section
variable {V : Nat → Nat → Prop} {io1 : Io} {W1 : World} {v3 v13 : Value} {x : Fi} {l : List Int} {n : Int}

/-- What stands at a loop's head. -/
structure Head (V : Nat → Nat → Prop) (io1 : Io) (W1 : World) (v3 v13 : Value) (x : Fi) (l : List Int) (n : Int) (i room : Int) (out : List Int) (a : Act) (W : World) : Prop where
  sz : a.tmps.size = 51
  h3 : a.tmps[3]? = some v3
  h13 : a.tmps[13]? = some v13
  own : ∃ io v8, a.tmps[8]? = some v8 ∧ OwnI W1.heap.size (vCx V W1 W io) W v8 out ∧ Sim Bs.env V io1 W1 (vCx V W1 W io) (hd x l n i room) a W

theorem head_of (hb : BaseOK Bs V io1 W1) (hv3 : VR TRr (baseCx V io1) W1 (.cref (filmV x) []) v3) (hv13 : VR TRr (baseCx V io1) W1 (enc tInts l) v13) {s : St} {C : Cx} {a : Act} {W : World} (S : Sim Bs.env V io1 W1 C s a W) (hz : a.tmps.size = 51) {i room : Int} {out : List Int} {v8 : Value}
    (h2 : a.tmps[2]? = some (.int .i64 n)) (h3 : a.tmps[3]? = some v3) (h8 : a.tmps[8]? = some v8) (h9 : a.tmps[9]? = some (.int .i64 room)) (h13 : a.tmps[13]? = some v13) (h14 : a.tmps[14]? = some (.int .i64 l.length)) (h15 : a.tmps[15]? = some (.int .i64 i)) (ho : OwnI W1.heap.size C W v8 out) : Head V io1 W1 v3 v13 x l n i room out a W := by
  refine ⟨hz, h3, h13, C.io, v8, h8, ho.reV rfl, ?_⟩
  refine frm_sim hb S hz _ fun k v hk => ?_
  have hm := findA_mem hk
  simp only [List.mem_cons, Prod.mk.injEq, List.not_mem_nil, or_false] at hm
  rcases hm with ⟨rfl, rfl⟩ | ⟨rfl, rfl⟩ | ⟨rfl, rfl⟩ | ⟨rfl, rfl⟩ | ⟨rfl, rfl⟩ | ⟨rfl, rfl⟩
  · exact ⟨_, h2, fun _ => vr_int (E := Bs.env) _⟩
  · exact ⟨_, h3, fun hle => hv3.mono Bs.hT hle⟩
  · exact ⟨_, h9, fun _ => vr_int (E := Bs.env) _⟩
  · exact ⟨_, h13, fun hle => hv13.mono Bs.hT hle⟩
  · exact ⟨_, h14, fun _ => vr_int (E := Bs.env) _⟩
  · exact ⟨_, h15, fun _ => vr_int (E := Bs.env) _⟩

theorem mid_of (hb : BaseOK Bs V io1 W1) (hv3 : VR TRr (baseCx V io1) W1 (.cref (filmV x) []) v3) (hv13 : VR TRr (baseCx V io1) W1 (enc tInts l) v13) {s : St} {C : Cx} {a : Act} {W : World} (S : Sim Bs.env V io1 W1 C s a W) (hz : a.tmps.size = 51) {i room w : Int}
    (h2 : a.tmps[2]? = some (.int .i64 n)) (h3 : a.tmps[3]? = some v3) (h9 : a.tmps[9]? = some (.int .i64 room)) (h12 : a.tmps[12]? = some (.int .i64 w)) (h13 : a.tmps[13]? = some v13) (h14 : a.tmps[14]? = some (.int .i64 l.length)) (h15 : a.tmps[15]? = some (.int .i64 i)) : Sim Bs.env V io1 W1 (vCx V W1 W C.io) (md x l n i room w) a W := by
  refine frm_sim hb S hz _ fun k v hk => ?_
  have hm := findA_mem hk
  simp only [List.mem_cons, Prod.mk.injEq, List.not_mem_nil, or_false] at hm
  rcases hm with ⟨rfl, rfl⟩ | ⟨rfl, rfl⟩ | ⟨rfl, rfl⟩ | ⟨rfl, rfl⟩ | ⟨rfl, rfl⟩ | ⟨rfl, rfl⟩ | ⟨rfl, rfl⟩
  · exact ⟨_, h2, fun _ => vr_int (E := Bs.env) _⟩
  · exact ⟨_, h3, fun hle => hv3.mono Bs.hT hle⟩
  · exact ⟨_, h9, fun _ => vr_int (E := Bs.env) _⟩
  · exact ⟨_, h12, fun _ => vr_int (E := Bs.env) _⟩
  · exact ⟨_, h13, fun hle => hv13.mono Bs.hT hle⟩
  · exact ⟨_, h14, fun _ => vr_int (E := Bs.env) _⟩
  · exact ⟨_, h15, fun _ => vr_int (E := Bs.env) _⟩

noncomputable def u12 (x : Fi) (l : List Int) (n i room w : Int) : St := run1 cz12 (md x l n i room w)
theorem u12_eq (x : Fi) (l : List Int) (n i room w : Int) : evC X96 0 cz12 (md x l n i room w) cap = some (.norm, u12 x l n i room w) := by kernel_rfl
theorem u12_n (x : Fi) (l : List Int) (n i room w : Int) : noneB (u12 x l n i room w) = true := by kernel_rfl
noncomputable def u13 (x : Fi) (l : List Int) (n i room w : Int) : St := run1 cz13 (u12 x l n i room w)
theorem u13_eq (x : Fi) (l : List Int) (n i room w : Int) : evC X96 0 cz13 (u12 x l n i room w) cap = some (.norm, u13 x l n i room w) := by kernel_rfl
theorem u13_2 (x : Fi) (l : List Int) (n i room w : Int) : (u13 x l n i room w).tmps[2]? = some (.int n) := by kernel_rfl
theorem u13_9 (x : Fi) (l : List Int) (n i room w : Int) : (u13 x l n i room w).tmps[9]? = some (.int (w64 (room - w))) := by kernel_rfl
theorem u13_14 (x : Fi) (l : List Int) (n i room w : Int) : (u13 x l n i room w).tmps[14]? = some (.int l.length) := by kernel_rfl
theorem u13_15 (x : Fi) (l : List Int) (n i room w : Int) : (u13 x l n i room w).tmps[15]? = some (.int (w64 (i + 1))) := by kernel_rfl
theorem md_n (x : Fi) (l : List Int) (n i room w : Int) : noneB (md x l n i room w) = true := by kernel_rfl
theorem hd_n (x : Fi) (l : List Int) (n i room : Int) : noneB (hd x l n i room) = true := by kernel_rfl
theorem dend_2 (x : Fi) (l : List Int) (n i room w : Int) : (dend x l n i room w).tmps[2]? = some (.int n) := by kernel_rfl
theorem dend_9 (x : Fi) (l : List Int) (n i room w : Int) : (dend x l n i room w).tmps[9]? = some (.int x.2.2.2) := by kernel_rfl
theorem dend_12 (x : Fi) (l : List Int) (n i room w : Int) : (dend x l n i room w).tmps[12]? = some (.int w) := by kernel_rfl
theorem dend_14 (x : Fi) (l : List Int) (n i room w : Int) : (dend x l n i room w).tmps[14]? = some (.int l.length) := by kernel_rfl
theorem dend_15 (x : Fi) (l : List Int) (n i room w : Int) : (dend x l n i room w).tmps[15]? = some (.int i) := by kernel_rfl
theorem dend_n (x : Fi) (l : List Int) (n i room w : Int) : noneB (dend x l n i room w) = true := by kernel_rfl
theorem k4_ (k : Nat) (h : k = 3 ∨ k = 8 ∨ k = 13) : memN (dsts cz4) k = false ∧ memN (dsts cz5) k = false ∧ memN (dsts cz6) k = false ∧ memN (dsts cz7) k = false ∧ memN (dsts cz9) k = false ∧ memN (dsts cz12) k = false ∧ memN (dsts cz13) k = false := by
  rcases h with rfl | rfl | rfl
  · have : (memN (dsts cz4) 3 || memN (dsts cz5) 3 || memN (dsts cz6) 3 || memN (dsts cz7) 3 || memN (dsts cz9) 3 || memN (dsts cz12) 3 || memN (dsts cz13) 3) = false := by kernel_rfl
    simpa [Bool.or_eq_false_iff, and_assoc] using this
  · have : (memN (dsts cz4) 8 || memN (dsts cz5) 8 || memN (dsts cz6) 8 || memN (dsts cz7) 8 || memN (dsts cz9) 8 || memN (dsts cz12) 8 || memN (dsts cz13) 8) = false := by kernel_rfl
    simpa [Bool.or_eq_false_iff, and_assoc] using this
  · have : (memN (dsts cz4) 13 || memN (dsts cz5) 13 || memN (dsts cz6) 13 || memN (dsts cz7) 13 || memN (dsts cz9) 13 || memN (dsts cz12) 13 || memN (dsts cz13) 13) = false := by kernel_rfl
    simpa [Bool.or_eq_false_iff, and_assoc] using this

/-- Behind the list's growth: one more reel on the last spool, and on. -/
theorem tail_round (hb : BaseOK Bs V io1 W1) (hv3 : VR TRr (baseCx V io1) W1 (.cref (filmV x) []) v3) (hv13 : VR TRr (baseCx V io1) W1 (enc tInts l) v13) {i room w : Int} {out : List Int} (hout : out.length ≤ 2000) (hne : out ≠ []) {s : St} {C : Cx} {a : Act} {W : World} (S : Sim Bs.env V io1 W1 C s a W) (hs : AllNone s) (hz : a.tmps.size = 51)
    (h2 : a.tmps[2]? = some (.int .i64 n)) (h3 : a.tmps[3]? = some v3) {v8 : Value} (h8 : a.tmps[8]? = some v8) (ho : OwnI W1.heap.size C W v8 out) (h9 : a.tmps[9]? = some (.int .i64 room)) (h12 : a.tmps[12]? = some (.int .i64 w)) (h13 : a.tmps[13]? = some v13) (h14 : a.tmps[14]? = some (.int .i64 l.length)) (h15 : a.tmps[15]? = some (.int .i64 i))
    {Qb Qe : Exit → Act → World → Prop} (hQe : ∀ a W, cz13.wpIn (Fr none) 0 Tryd.prog Qb a W → Qe .normal a W) (hQ : ∀ a W, Head V io1 W1 v3 v13 x l n (w64 (i + 1)) (w64 (room - w)) (incLast out) a W → Qb .normal a W) : (Code.seq cz11 cz12).wpIn (Fr none) 0 Tryd.prog Qe a W := by
  refine wpIn_seq (r11 hout hne S hs hz h8 ho fun s' a1 W2 S1 hs1 z1 g1 o1 => ?_)
  have c := fun (k : Nat) (h : k < 38) => g1 k h
  have S2 := mid_of hb hv3 hv13 S1 z1 (x := x) (l := l) (n := n) (i := i) (room := room) (w := w) ((c 2 (by omega)).trans h2) ((c 3 (by omega)).trans h3) ((c 9 (by omega)).trans h9) ((c 12 (by omega)).trans h12) ((c 13 (by omega)).trans h13) ((c 14 (by omega)).trans h14) ((c 15 (by omega)).trans h15)
  have o2 : OwnI W1.heap.size (vCx V W1 W2 C.io) W2 v8 (incLast out) := o1.reV rfl
  refine piece (E := Bs.env) ctx96 0 (u12_eq x l n i room w) S2 fun C3 a3 W3 S3 f3 => ?_
  have o3 := o2.step S2 (noneB_ok (md_n ..)) f3
  refine hQe a3 W3 ?_
  refine piece (E := Bs.env) ctx96 0 (u13_eq x l n i room w) S3 fun C4 a4 W4 S4 f4 => ?_
  have o4 := o3.step S3 (noneB_ok (u12_n ..)) f4
  have q := fun k h => (k4_ k h)
  have k3 := f4.keep (q 3 (.inl rfl)).2.2.2.2.2.2 (f3.keep (q 3 (.inl rfl)).2.2.2.2.2.1 ((c 3 (by omega)).trans h3))
  have k8 := f4.keep (q 8 (.inr (.inl rfl))).2.2.2.2.2.2 (f3.keep (q 8 (.inr (.inl rfl))).2.2.2.2.2.1 ((c 8 (by omega)).trans h8))
  have k13 := f4.keep (q 13 (.inr (.inr rfl))).2.2.2.2.2.2 (f3.keep (q 13 (.inr (.inr rfl))).2.2.2.2.2.1 ((c 13 (by omega)).trans h13))
  exact hQ a4 W4 (head_of hb hv3 hv13 S4 (f4.sz.trans (f3.sz.trans z1)) (S4.intAt (u13_2 ..)) k3 k8 (S4.intAt (u13_9 ..)) k13 (S4.intAt (u13_14 ..)) (S4.intAt (u13_15 ..)) o4)

theorem most_nonneg (x : Fi) (k n : Int) : 0 ≤ mostI x k n := by
  unfold mostI maxI
  split <;> omega

theorem spools_rounds (hb : BaseOK Bs V io1 W1) (hv3 : VR TRr (baseCx V io1) W1 (.cref (filmV x) []) v3) (hv13 : VR TRr (baseCx V io1) W1 (enc tInts l) v13) (hok : spoolsOK x l n = true) {R : List Int × Bool} {Q : Exit → Act → World → Prop}
    (hdone : ∀ i room a W, R.2 = true → Head V io1 W1 v3 v13 x l n i room R.1 a W → Q (.exit 0) a W) (hfail : R = ([], false) → ∀ s C a W, Sim Bs.env V io1 W1 C s a W → finK X96 Tryd.f96 .ret s = some (.tup [.sl .int ⟨true, true, none⟩ [], .bool false]) → Q .ret a W) : ∀ (m i : Nat) (room : Int) (out : List Int) (a : Act) (W : World), i + m = l.length → Head V io1 W1 v3 v13 x l n i room out a W → (out = [] → room = -1) → out.length ≤ i → spGo x n (l.drop i) out room = R →
    Code.roundsIn (Fr none) 0 Tryd.prog czL Q (m + 1) a W := by
  simp only [spoolsOK, Bool.and_eq_true, decide_eq_true_eq] at hok
  obtain ⟨hlen, hall⟩ := hok
  intro m
  induction m with
  | zero =>
    intro i room out a W hi hH hr ho hR
    rw [roundsIn_succ]
    obtain ⟨io, v8, h8, own, S⟩ := hH.own
    refine wpIn_seq ?_
    refine piece (E := Bs.env) ctx96 0 (t4_eq x l n i room) S fun C1 a1 W2 S1 f1 => ?_
    have hc := S1.get 16
    rw [t4_c] at hc
    have hf : decide ((i : Int) < l.length) = false := by simp; omega
    rw [hf] at hc
    have hcv : a1.eval (.tmp 16) = .bool false := hc.bool_inv
    refine wpIn_seq (wpIn_cond_false hcv (wpIn_exit ?_))
    have hnil : l.drop i = [] := List.drop_eq_nil_of_le (by omega)
    rw [hnil] at hR
    have hR1 : R.1 = out := by rw [← hR]; rfl
    have hR2 : R.2 = true := by rw [← hR]; rfl
    have own1 := own.step S (noneB_ok (hd_n ..)) f1
    have q := fun k h => (k4_ k h)
    refine hdone i room a1 W2 hR2 (hR1 ▸ head_of hb hv3 hv13 S1 (f1.sz.trans hH.sz) ?_ (f1.keep (q 3 (.inl rfl)).1 hH.h3) (f1.keep (q 8 (.inr (.inl rfl))).1 h8) ?_ (f1.keep (q 13 (.inr (.inr rfl))).1 hH.h13) ?_ ?_ own1)
    · exact S1.intAt (show (t4 x l n i room).tmps[2]? = some (.int n) by kernel_rfl)
    · exact S1.intAt (show (t4 x l n i room).tmps[9]? = some (.int room) by kernel_rfl)
    · exact S1.intAt (show (t4 x l n i room).tmps[14]? = some (.int l.length) by kernel_rfl)
    · exact S1.intAt (show (t4 x l n i room).tmps[15]? = some (.int i) by kernel_rfl)
  | succ m ih =>
    intro i room out a W hi hH hr ho hR
    rw [roundsIn_succ]
    obtain ⟨io, v8, h8, own, S⟩ := hH.own
    have hlt : i < l.length := by omega
    have hk : kAt l i = l[i] := by simp [kAt, List.getD, hlt]
    have hin : inReels x (kAt l i) = true := by
      rw [hk]
      exact List.all_eq_true.1 hall _ (List.getElem_mem hlt)
    rw [List.drop_eq_getElem_cons hlt, ← hk, spGo] at hR
    have q := fun k h => (k4_ k h)
    refine wpIn_seq ?_
    refine piece (E := Bs.env) ctx96 0 (t4_eq x l n i room) S fun C1 a1 W2 S1 f1 => ?_
    have own1 := own.step S (noneB_ok (hd_n ..)) f1
    have hc := S1.get 16
    rw [t4_c] at hc
    have hf : decide ((i : Int) < l.length) = true := by simp; omega
    rw [hf] at hc
    refine wpIn_seq (wpIn_cond_true (show a1.eval (.tmp 16) = .bool true from hc.bool_inv) (wpIn_skip ?_))
    refine wpIn_seq (wpIn_block ?_)
    refine wpIn_seq ?_
    have h5 : evC X96 0 cz5 (t4 x l n i room) cap = some (.norm, t5 x l n i room) := by
      rw [t5_eq, hf]
      simp
    refine piece (E := Bs.env) ctx96 0 h5 S1 fun C2 a2 W3 S2 f2 => ?_
    have own2 := own1.step S1 (noneB_ok (t4_n ..)) f2
    have h6 : evC X96 0 cz6 (t5 x l n i room) cap = some (.norm, t6 x l n i room) := by
      rw [t6_eq, show inReels3 x (kAt l i) n = true from hin]
      simp
    refine wpIn_seq ?_
    refine piece (E := Bs.env) ctx96 0 h6 S2 fun C3 a3 W4 S3 f3 => ?_
    have own3 := own2.step S2 (noneB_ok (t5_n ..)) f3
    refine wpIn_seq (wpIn_seq ?_)
    refine piece (E := Bs.env) ctx96 0 (t7_eq x l n i room) S3 fun C4 a4 W5 S4 f4 => ?_
    have own4 := own3.step S3 (noneB_ok (t6_n ..)) f4
    have hc2 := S4.get 28
    rw [t7_c] at hc2
    by_cases c1 : x.2.2.2 < mostI x (kAt l i) n
    · rw [decide_eq_true c1] at hc2
      rw [if_pos c1] at hR
      refine wpIn_cond_true (show a4.eval (.tmp 28) = .bool true from hc2.bool_inv) ?_
      refine piece (E := Bs.env) ctx96 0 (t8_eq x l n i room) S4 fun C5 a5 W6 S5 f5 => ?_
      exact hfail hR.symm _ _ _ _ S5 (t8_f ..)
    · rw [decide_eq_false c1] at hc2
      rw [if_neg c1] at hR
      refine wpIn_cond_false (show a4.eval (.tmp 28) = .bool false from hc2.bool_inv) (wpIn_skip ?_)
      refine wpIn_seq (wpIn_seq ?_)
      refine piece (E := Bs.env) ctx96 0 (t9_eq x l n i room) S4 fun C5 a5 W6 S5 f5 => ?_
      have own5 := own4.step S4 (noneB_ok (t7_n ..)) f5
      have k3 := f5.keep (q 3 (.inl rfl)).2.2.2.2.1 (f4.keep (q 3 (.inl rfl)).2.2.2.1 (f3.keep (q 3 (.inl rfl)).2.2.1 (f2.keep (q 3 (.inl rfl)).2.1 (f1.keep (q 3 (.inl rfl)).1 hH.h3))))
      have k8 := f5.keep (q 8 (.inr (.inl rfl))).2.2.2.2.1 (f4.keep (q 8 (.inr (.inl rfl))).2.2.2.1 (f3.keep (q 8 (.inr (.inl rfl))).2.2.1 (f2.keep (q 8 (.inr (.inl rfl))).2.1 (f1.keep (q 8 (.inr (.inl rfl))).1 h8))))
      have k13 := f5.keep (q 13 (.inr (.inr rfl))).2.2.2.2.1 (f4.keep (q 13 (.inr (.inr rfl))).2.2.2.1 (f3.keep (q 13 (.inr (.inr rfl))).2.2.1 (f2.keep (q 13 (.inr (.inr rfl))).2.1 (f1.keep (q 13 (.inr (.inr rfl))).1 hH.h13))))
      have z5 : a5.tmps.size = 51 := f5.sz.trans (f4.sz.trans (f3.sz.trans (f2.sz.trans (f1.sz.trans hH.sz))))
      have hw1 : w64 ((i : Int) + 1) = ((i + 1 : Nat) : Int) := w64_succ (n := l.length) hlt (by omega)
      have hc3 := S5.get 31
      rw [t9_c] at hc3
      by_cases c2 : room < mostI x (kAt l i) n
      · rw [decide_eq_true c2] at hc3
        rw [if_pos c2] at hR
        refine wpIn_cond_true (show a5.eval (.tmp 31) = .bool true from hc3.bool_inv) ?_
        have SM := mid_of hb hv3 hv13 S5 z5 (x := x) (l := l) (n := n) (i := i) (room := room) (w := mostI x (kAt l i) n) (S5.intAt (t9_2 ..)) k3 (S5.intAt (t9_9 ..)) (S5.intAt (t9_12 ..)) k13 (S5.intAt (t9_14 ..)) (S5.intAt (t9_15 ..))
        refine r10 (by omega) SM z5 k3 k13 k8 (own5.reV rfl) fun C6 a6 W7 S6 z6 j3 j13 v9 j8 own6 => ?_
        refine tail_round hb hv3 hv13 (i := i) (room := x.2.2.2) (w := mostI x (kAt l i) n) (out := out ++ [0]) (by simp; omega) (by simp) S6 (noneB_ok (dend_n ..)) z6 (S6.intAt (dend_2 ..)) j3 j8 own6 (S6.intAt (dend_9 ..)) (S6.intAt (dend_12 ..)) j13 (S6.intAt (dend_14 ..)) (S6.intAt (dend_15 ..)) (fun a W h => h) fun a7 W8 hH7 => ?_
        rw [hw1] at hH7
        exact ih (i + 1) _ _ a7 W8 (by omega) hH7 (fun h => by have := congrArg List.length h; rw [incLast_len (by simp)] at this; simp at this) (by rw [incLast_len (by simp)]; simp; omega) hR
      · rw [decide_eq_false c2] at hc3
        rw [if_neg c2] at hR
        have hne : out ≠ [] := fun h => by
          have := hr h
          have := most_nonneg x (kAt l i) n
          omega
        refine wpIn_cond_false (show a5.eval (.tmp 31) = .bool false from hc3.bool_inv) (wpIn_skip ?_)
        refine tail_round hb hv3 hv13 (i := i) (room := room) (w := mostI x (kAt l i) n) (out := out) (by omega) hne S5 (noneB_ok (t9_n ..)) z5 (S5.intAt (t9_2 ..)) k3 k8 own5 (S5.intAt (t9_9 ..)) (S5.intAt (t9_12 ..)) k13 (S5.intAt (t9_14 ..)) (S5.intAt (t9_15 ..)) (fun a W h => h) fun a7 W8 hH7 => ?_
        rw [hw1] at hH7
        exact ih (i + 1) _ _ a7 W8 (by omega) hH7 (fun h => by have := congrArg List.length h; rw [incLast_len hne] at this; exact absurd (List.eq_nil_of_length_eq_zero this) hne) (by rw [incLast_len hne]; omega) hR
end

end Ev
end Go.Proofs.YtidnikjkpbmhhaaDoor
