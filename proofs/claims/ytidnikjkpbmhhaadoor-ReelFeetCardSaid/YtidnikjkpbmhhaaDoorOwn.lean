/- A slice of numbers that a function makes and writes itself: walked by hand beside the evaluator, which knows nothing of it. -/
import Derived.Test.YtidnikjkpbmhhaaDoorChs
set_option linter.unusedVariables false
set_option linter.unusedSimpArgs false
namespace Go.Proofs.YtidnikjkpbmhhaaDoor
namespace Ev

variable {B : Base} {V0 : Nat → Nat → Prop} {io0 : Io} {W0 : World} {C C' : Cx} {s s' s1 : St} {a a' : Act} {W W' : World} {X : Ctx}

def AllNone (s : St) : Prop := ∀ (k : Nat) (x : Ob), s.objs[k]? = some x → x = Ob.none
def noneB (s : St) : Bool := s.objs.all fun | .none => true | _ => false
theorem noneB_ok (h : noneB s = true) : AllNone s := fun k x hx => by
  have := List.all_eq_true.1 h x (List.mem_of_getElem? hx)
  cases x <;> simp_all

theorem plain_mine (S : Sim B.env V0 io0 W0 C s a W) (hs : AllNone s) (b : Nat) : ¬ mine noM C b := fun h => by
  rcases h with h | ⟨k, h⟩ | ⟨k, v, lo, hi, h, _⟩
  · exact h
  · obtain ⟨v, hv⟩ := S.bxn k b h
    exact nomatch hs k _ hv
  · exact nomatch hs k _ ((S.ln k v true).1 h)

/-- A slice of our own: nobody else knows its cells. -/
def OwnI (n0 : Nat) (C : Cx) (W : World) (v : Value) (l : List Int) : Prop :=
  (v = .slice none 0 0 ∧ l = []) ∨ ∃ b cs ty, v = .slice (some ⟨b, 0, none⟩) l.length cs.size ∧ n0 ≤ b ∧ W.heap[b]? = some (.cells cs ty (0, 0)) ∧ l.length ≤ cs.size ∧ (∀ (i : Nat) (x : Int), l[i]? = some x → cs[i]? = some (.int .i64 x)) ∧ ∀ o, C.V b o

theorem OwnI.step {n0 : Nat} {v : Value} {l : List Int} {D : Nat → Prop} (h : OwnI n0 C W v l) (S : Sim B.env V0 io0 W0 C s a W) (hs : AllNone s) (hf : Fm noM D a a' C C' W W') : OwnI n0 C' W' v l := by
  rcases h with h | ⟨b, cs, ty, h1, h2, h3, h4, h5, h6⟩
  · exact .inl h
  · have hlt := (Array.getElem?_eq_some_iff.1 h3).1
    refine .inr ⟨b, cs, ty, h1, h2, (hf.kx.kp.block b hlt (Cell.io_none S.iok h3 (fun _ _ h => nomatch h)) (plain_mine S hs b)).trans h3, h4, h5, fun o => ?_⟩
    rcases hf.kx.vo b o hlt (h6 o) with h | ⟨k0, v0, lo, hi, h, _⟩
    · exact h
    · exact nomatch hs k0 _ ((S.ln k0 v0 true).1 h)

/-- The world goes on, in cells that nobody knows. -/
theorem Sim.goes (S : Sim B.env V0 io0 W0 C s a W) (hs : AllNone s) {V' : Nat → Nat → Prop} (hst : Stab C.V V' W W') (hz : W.heap.size ≤ W'.heap.size) (hio : IoOK B.MI C.io W') (hk : Keep noM io0 C.io W0 W') (hV : ∀ b o, C.V b o → V' b o)
    (hVn : ∀ b o, V' b o → V0 b o ∨ (W0.heap.size ≤ b ∧ b < W'.heap.size)) (hdf : ∀ r x, W0.heap.size ≤ r → W.heap[r]? = some (Obj.deferred x) → W'.heap[r]? = some (Obj.deferred x)) : Sim B.env V0 io0 W0 { C with V := V' } s a W' := by
  have hle : CxLe C { C with V := V' } W W' := ⟨hst, fun _ _ h => h, fun k cu al h => ⟨cu, al, h, Nat.le_refl _, fun h _ => ⟨h, rfl⟩⟩, fun _ _ => rfl, hz⟩
  refine ⟨S.len, fun t x hx => ?_, S.df.imp fun r h1 h2 => hdf r _ h1 h2, (fun k v h => nomatch hs k _ h), S.bxn, S.inj, fun k b o h => hV b o (S.bxV k b o h), S.ln, fun k v b lo hi o h => ?_, S.tld, hVn, fun b o h => hV b o (S.V0V b o h), hio, fun g v h => ?_, hk, S.old0, S.n0, S.hM, fun k x y tr h1 h2 => trivial⟩
  · obtain ⟨v, h1, h2⟩ := S.tm t x hx
    exact ⟨v, h1, h2.mono B.hT hle⟩
  · exact nomatch hs k _ ((S.ln k v true).1 h)
  · exact Rel.mono B.hT (C := baseCx C.V C.io) (C' := baseCx V' C.io) ⟨hst, (fun _ _ h => by cases h), (fun _ _ _ h => by cases h), fun _ _ => rfl, hz⟩ (S.gl g v h)

theorem Sim.volWrite (S : Sim B.env V0 io0 W0 C s a W) (hs : AllNone s) {b : Nat} {cs cs' : Array Value} {ty : TypeId} (hb : W0.heap.size ≤ b) (hc : W.heap[b]? = some (.cells cs ty (0, 0))) (hV : ∀ o, C.V b o) : Sim B.env V0 io0 W0 C s a (W.setRow b cs') := by
  have hoth : ∀ j, j ≠ b → (W.setRow b cs').heap[j]? = W.heap[j]? := fun j hj => setRow_other W b j _ hj
  have hsize : (W.setRow b cs').heap.size = W.heap.size := by simp
  have hws : Wst W0.heap.size W (W.setRow b cs') := Wst.of_block hb (fun x e => by rw [hc] at e; cases e) rfl rfl rfl hsize hoth
  refine S.goes hs (V' := C.V) ⟨fun x v hx hv => ?_, fun _ _ _ h => h⟩ (by rw [hsize]; exact Nat.le_refl _) (fun b1 t d h => ?_) (S.kp.step hws) (fun _ _ h => h) (fun b o h => by rw [hsize]; exact S.Vn b o h) fun r x _ h => hws.dfr r x h
  · exact (cell_of_block (hoth x.block fun e => hv (e ▸ hV _))).trans hx
  · obtain ⟨es, ck, h1, h2⟩ := S.iok b1 t d h
    exact ⟨es, ck, (hoth b1 fun e => by rw [e, hc] at h1; cases h1).trans h1, h2⟩

theorem Sim.volAlloc (S : Sim B.env V0 io0 W0 C s a W) (hs : AllNone s) {W1 : World} (h1 : W1 = W ∨ W1 = W.drew) (o : Obj) : Sim B.env V0 io0 W0 { C with V := fun b o => C.V b o ∨ b = W.heap.size } s a (W1.alloc o) := by
  have hh : W1.heap = W.heap := by rcases h1 with rfl | rfl <;> rfl
  have hold : ∀ (b : Nat) (x : Obj), W.heap[b]? = some x → (W1.alloc o).heap[b]? = some x := fun b x h => heap_alloc_old' W1 o (by rw [hh]; exact h)
  have hsz : (W1.alloc o).heap.size = W.heap.size + 1 := by simp [hh]
  refine S.goes hs ⟨fun x v hx _ => ?_, fun b o hb h => h.resolve_right (by omega)⟩ (by omega) (fun b t d h => ?_) ?_ (fun _ _ h => .inl h) (fun b o h => ?_) fun r x _ h => hold r _ h
  · obtain ⟨cs, ty, fr, g1, _⟩ := cells_of_cell hx
    exact (cell_of_block ((hold _ _ g1).trans g1.symm)).trans hx
  · obtain ⟨es, ck, g1, g2⟩ := S.iok b t d h
    exact ⟨es, ck, hold _ _ g1, g2⟩
  · refine ⟨?_, ?_, ?_, by rw [hsz]; exact Nat.le_succ_of_le S.kp.size, fun b hb hi hm => ?_, S.kp.io⟩
    · rcases h1 with rfl | rfl <;> exact S.kp.os
    · rcases h1 with rfl | rfl <;> exact S.kp.tape
    · rcases h1 with rfl | rfl <;> exact S.kp.output
    · have := S.kp.block b hb hi hm
      rw [← this]
      have hlt : b < W.heap.size := Nat.lt_of_lt_of_le hb S.kp.size
      exact (hold b _ (Array.getElem?_eq_getElem hlt)).trans (Array.getElem?_eq_getElem hlt).symm
  · rw [hsz]
    rcases h with h | h
    · exact (S.Vn b o h).imp id fun h => ⟨h.1, by omega⟩
    · have := S.kp.size
      exact .inr ⟨by omega, by omega⟩

theorem grow_cell {l : List Int} {cs : Array Value} {x : Int} {olds : List Value} (hlen : olds.length = l.length) (ho : ∀ (i : Nat) (x : Int), l[i]? = some x → olds[i]? = some (.int .i64 x)) (zs : Array Value) :
    ∀ (i : Nat) (y : Int), (l ++ [x])[i]? = some y → (olds.toArray ++ #[Value.int .i64 x] ++ zs)[i]? = some (.int .i64 y) := fun i y hy => by
  rw [Array.append_assoc, Array.getElem?_append]
  rw [List.getElem?_append] at hy
  split at hy
  · rename_i h
    rw [if_pos (by simpa [hlen] using h)]
    simpa using ho i y hy
  · rename_i h
    rw [if_neg (by simpa [hlen] using h)]
    have e : i - l.length = 0 := by
      rcases Nat.eq_zero_or_pos (i - l.length) with h | h
      · exact h
      · rw [List.getElem?_eq_none (by simp; omega)] at hy
        cases hy
    rw [e] at hy
    simp only [List.getElem?_cons_zero, Option.some.injEq] at hy
    subst hy
    have : i - olds.toArray.size = 0 := by simpa [hlen] using e
    rw [this, Array.getElem?_append_left (by simp)]
    rfl

/-- One number more. -/
theorem own_append (S : Sim B.env V0 io0 W0 C s a W) (hs : AllNone s) {n0 : Nat} (hn0 : W0.heap.size = n0) {t e ty0 : Nat} {inf : TypeInfo} {zv : Value} (hu : B.P.underlying t = some (.slice e)) (hi : B.P.info? e = some inf) (hz : inf.zero = some zv) (hsz : inf.size = 1) (hby : inf.bytes = 8) (hzc : zv.cells.size = 1) {v : Value} {l : List Int} (ho : OwnI n0 C W v l) {ad : Addr} {c : Nat} {x : Int} (hx : W.cell? ad = some (.int .i64 x)) (hr : (l.length + 1) * 8 ≤ 70368744177664) :
    ∃ v' W' V', (Builtin.append_ #[t, t] ty0 #[v, .slice (some ad) 1 c]).run B.P W = .ok v' W' ∧ Sim B.env V0 io0 W0 { C with V := V' } s a W' ∧ OwnI n0 { C with V := V' } W' v' (l ++ [x]) := by
  have hnews : ∀ (j : Nat) (v : Value), [Value.int .i64 x][j]? = some v → W.cell? (ad.add j) = some v := fun j v hv => by
    cases j with
    | zero => cases hv; rw [add_zero]; exact hx
    | succ j => simp at hv
  rcases ho with ⟨rfl, rfl⟩ | ⟨b, cs, ty, rfl, h2, h3, h4, h5, h6⟩
  · have hrun := run_append_nil (P := B.P) W t ty0 e inf zv hu hi hz ad 1 c [Value.int .i64 x] (by rw [hsz]; rfl) hnews (by omega) (by omega) (by rw [hby]; omega)
    have hcap := grownCap_ge W 1 0 e
    have S' := S.volAlloc hs (.inr rfl) (.cells (#[Value.int .i64 x] ++ Builtin.zeroCells zv.cells (grownCap W 1 0 e - 1)) e)
    refine ⟨_, _, _, hrun, S', .inr ⟨W.heap.size, #[Value.int .i64 x] ++ Builtin.zeroCells zv.cells (grownCap W 1 0 e - 1), e, ?_, by have := S.kp.size; omega, heap_alloc_new' W.drew _, by simp, fun i y hy => ?_, fun o => .inr rfl⟩⟩
    · congr 1
      simp [size_zeroCells, hzc]
      omega
    · have := grow_cell (l := []) (cs := #[]) (x := x) (olds := []) rfl (fun i x h => by simp at h) (Builtin.zeroCells zv.cells (grownCap W 1 0 e - 1)) i y hy
      simpa using this
  · have hlt := (Array.getElem?_eq_some_iff.1 h3).1
    have hold : ∀ (j : Nat) (u : Value), (cs.toList.take l.length)[j]? = some u → W.cell? ((⟨b, 0, none⟩ : Addr).add j) = some u := fun j u hu => by
      rw [List.getElem?_take] at hu
      split at hu
      · have e : (⟨b, 0, none⟩ : Addr).add j = ⟨b, j, none⟩ := by unfold Addr.add; split <;> simp_all
        rw [e]
        unfold World.cell?
        simp only [h3]
        simpa using hu
      · cases hu
    by_cases hroom : l.length + 1 ≤ cs.size
    · have hrun := run_append_room' (P := B.P) W t ty0 e inf hu hi b l.length cs.size cs ty h3 ad 1 c [Value.int .i64 x] (by rw [hsz]; rfl) hnews (fun u hu => by simp at hu; subst hu; rfl) hroom (by rw [hsz]; simpa using hroom)
      rw [hsz] at hrun
      refine ⟨_, _, C.V, hrun, S.volWrite hs (by omega) h3 h6, .inr ⟨b, _, ty, ?_, h2, setRow_heap W b cs _ ty _ h3, ?_, fun i y hy => ?_, h6⟩⟩
      · congr 1
        · simp
        · simp; omega
      · simp; omega
      · simp only [Nat.mul_one, List.length_cons, List.length_nil, Nat.zero_add, List.getElem?_toArray]
        rw [List.getElem?_append] at hy
        rw [List.append_assoc, List.getElem?_append]
        split at hy
        · rename_i h
          rw [if_pos (by simp; omega), List.getElem?_take, if_pos h]
          simpa using h5 i y hy
        · rename_i h
          rw [if_neg (by simp; omega)]
          have e0 : i - l.length = 0 := by
            rcases Nat.eq_zero_or_pos (i - l.length) with h | h
            · exact h
            · rw [List.getElem?_eq_none (by simp; omega)] at hy
              cases hy
          rw [e0] at hy
          simp only [List.getElem?_cons_zero, Option.some.injEq] at hy
          subst hy
          have : i - (cs.toList.take l.length).length = 0 := by simp; omega
          rw [this]
          rfl
    · have hrun := run_append_grow (P := B.P) W t ty0 e inf zv hu hi hz ⟨b, 0, none⟩ l.length cs.size (cs.toList.take l.length) (by rw [hsz]; simp; omega) hold ad 1 c [Value.int .i64 x] (by rw [hsz]; rfl) hnews (by omega) (by omega)
        (growslice_fits (by omega) (by rw [hby]; omega))
      have hcap := grownCap_ge W (l.length + 1) cs.size e
      have S' := S.volAlloc hs (.inr rfl) (.cells ((cs.toList.take l.length).toArray ++ #[Value.int .i64 x] ++ Builtin.zeroCells zv.cells (grownCap W (l.length + 1) cs.size e - (l.length + 1))) e)
      have hln : (cs.toList.take l.length).length = l.length := by simp; omega
      refine ⟨_, _, _, hrun, S', .inr ⟨W.heap.size, (cs.toList.take l.length).toArray ++ #[Value.int .i64 x] ++ Builtin.zeroCells zv.cells (grownCap W (l.length + 1) cs.size e - (l.length + 1)), e, ?_, by have := S.kp.size; omega, heap_alloc_new' W.drew _, ?_, fun i y hy => ?_, fun o => .inr rfl⟩⟩
      · congr 1
        · simp
        · simp [size_zeroCells, hzc]
          omega
      · simp
        omega
      · exact grow_cell (cs := cs) hln (fun i x h => by
          have hi := (List.getElem?_eq_some_iff.1 h).1
          rw [List.getElem?_take, if_pos hi]
          simpa using h5 i x h) _ i y hy

end Ev
end Go.Proofs.YtidnikjkpbmhhaaDoor
