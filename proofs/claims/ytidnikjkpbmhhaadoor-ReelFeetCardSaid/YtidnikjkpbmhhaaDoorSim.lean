/- The bond between an abstract state and the machine's. -/
import Derived.Test.YtidnikjkpbmhhaaDoorRel
import Derived.Calls
import Derived.Orders
set_option linter.unusedVariables false
namespace Go.Proofs.YtidnikjkpbmhhaaDoor
namespace Ev

/-- Old blocks stand, but for memos, and for those that others may turn. -/
structure Keep (M : Nat → Prop) (io io' : Io) (W W' : World) : Prop where
  os : W'.os = W.os
  tape : W'.tape = W.tape
  output : W'.output = W.output
  size : W.heap.size ≤ W'.heap.size
  block : ∀ b, b < W.heap.size → io b = none → ¬ M b → W'.heap[b]? = W.heap[b]?
  io : ioLe W.heap.size io io'

def noM : Nat → Prop := fun _ => False

theorem Keep.refl (M : Nat → Prop) (io : Io) (W : World) : Keep M io io W W := ⟨rfl, rfl, rfl, Nat.le_refl _, fun _ _ _ _ => rfl, fun _ _ => rfl⟩
theorem Keep.trans {M : Nat → Prop} {io io1 io2 : Io} {W W1 W2 : World} (h : Keep M io io1 W W1) (k : Keep M io1 io2 W1 W2) : Keep M io io2 W W2 :=
  ⟨k.os.trans h.os, k.tape.trans h.tape, k.output.trans h.output, Nat.le_trans h.size k.size,
    fun b hb hi hm => (k.block b (Nat.lt_of_lt_of_le hb h.size) ((h.io b hb).trans hi) hm).trans (h.block b hb hi hm),
    fun b hb => (k.io b (Nat.lt_of_lt_of_le hb h.size)).trans (h.io b hb)⟩
theorem Keep.of_noM {M : Nat → Prop} {io io' : Io} {W W' : World} (h : Keep noM io io' W W') : Keep M io io' W W' :=
  ⟨h.os, h.tape, h.output, h.size, fun b hb hi _ => h.block b hb hi fun e => e, h.io⟩

def IoOK (MI : (t : Ty) → t.den → Array MapEntry → Prop) (io : Io) (W : World) : Prop := ∀ b t d, io b = some ⟨t, d⟩ → ∃ es ck, W.heap[b]? = some (.map es ck) ∧ MI t d es

/-- A step of ours, seen by others: blocks below n stand, but for memos. -/
structure Ab (n : Nat) (V V' : Nat → Nat → Prop) (io io' : Io) (W W' : World) : Prop where
  os : W'.os = W.os
  tape : W'.tape = W.tape
  output : W'.output = W.output
  size : W.heap.size ≤ W'.heap.size
  old : ∀ b, b < n → io b = none → W'.heap[b]? = W.heap[b]?
  st : Stab V V' W W'
  io : ioLe W.heap.size io io'
  more : ∀ b o, b < n → V b o → V' b o
  lt : ∀ b o, V' b o → b < W'.heap.size

structure Base where
  P : Program
  TR : TokRel
  hT : TokOK TR
  MI : (t : Ty) → t.den → Array MapEntry → Prop
  GL : List (Nat × AV)

/-- The blocks that others may turn, and what they say of the world once they have been told some things. -/
structure Env extends Base where
  M : Nat → Prop
  n0 : Nat
  J : List AV → (Nat → Nat → Prop) → Io → World → Prop
  hJ : ∀ tr V V' io io' W W', J tr V io W → Ab n0 V V' io io' W W' → IoOK MI io' W' → J tr V' io' W'

/-- Nobody else is told anything. -/
def Base.env (B : Base) : Env := { B with M := noM, n0 := 0, J := fun _ _ _ _ => True, hJ := fun _ _ _ _ _ _ _ _ _ _ => trivial }

def baseCx (V : Nat → Nat → Prop) (io : Io) : Cx := ⟨V, fun _ => none, fun _ => none, fun _ => (0, 0, 0), io⟩

structure BaseOK (E : Base) (V : Nat → Nat → Prop) (io : Io) (W : World) : Prop where
  old : ∀ b o, V b o → b < W.heap.size
  iok : IoOK E.MI io W
  gl : ∀ g v, findA E.GL g = some v → Rel E.TR (baseCx V io) W (.cref v []) [.pointer (some ⟨g, 0, none⟩)]

/-- A callee's word: for arguments that read so, it returns what the function says; no cell that lay has turned. -/
def Ctr (E : Base) (f : Nat) (g : List AV → Option (Bool × AV)) : Prop :=
  ∀ V io W args vs r, BaseOK E V io W → RelV E.TR (baseCx V io) W args vs → g args = some (true, r) →
    Calls E.P f vs.toArray W fun e W' => ∃ v io', e = .returned v ∧ VR E.TR (baseCx V io') W' r v ∧ Keep noM io io' W W' ∧ IoOK E.MI io' W'

/-- The marks that an activation leaves with. -/
def markOf (r : Nat) : Deferred := { target := .collected r, args := #[] }
def DfOK (W0 W : World) (ds : List Deferred) : Prop := ∃ rs : List Nat, ds = rs.map markOf ∧ rs.Nodup ∧ ∀ r ∈ rs, W.heap[r]? = some (.deferred (some [])) ∧ W0.heap.size ≤ r
theorem DfOK.nil (W0 W : World) : DfOK W0 W [] := ⟨[], rfl, List.nodup_nil, fun _ h => nomatch h⟩
theorem DfOK.imp {W0 W W' : World} {ds : List Deferred} (h : DfOK W0 W ds) (hi : ∀ r, W0.heap.size ≤ r → W.heap[r]? = some (.deferred (some [])) → W'.heap[r]? = some (.deferred (some []))) : DfOK W0 W' ds := by
  obtain ⟨rs, h1, h2, h3⟩ := h
  exact ⟨rs, h1, h2, fun r hr => ⟨hi r (h3 r hr).2 (h3 r hr).1, (h3 r hr).2⟩⟩

structure Sim (E : Env) (V0 : Nat → Nat → Prop) (io0 : Io) (W0 : World) (C : Cx) (s : St) (a : Act) (W : World) : Prop where
  len : a.tmps.size = s.tmps.length
  tm : ∀ (t : Nat) (x : AV), s.tmps[t]? = some x → ∃ v, a.tmps[t]? = some v ∧ VR E.TR C W x v
  df : DfOK W0 W a.defers
  bx : ∀ (k : Nat) (v : AV), s.objs[k]? = some (.box v) → ∃ b cs ty, C.box k = some b ∧ W.heap[b]? = some (.cells cs ty (0, 0)) ∧ cs.toList.length = v.size ∧ Rel E.TR C W v cs.toList ∧ W0.heap.size ≤ b
  bxn : ∀ (k b : Nat), C.box k = some b → ∃ v, s.objs[k]? = some (.box v)
  inj : ∀ k k' b, C.box k = some b → C.box k' = some b → k = k'
  bxV : ∀ k b o, C.box k = some b → C.V b o
  ln : ∀ (k v : Nat) (al : Bool), C.lv k = some (v, al) ↔ s.objs[k]? = some (.lin v al)
  tl : ∀ k v b lo hi o, C.lv k = some (v, true) → C.tl k = (b, lo, hi) → lo ≤ o → o < hi →
    C.V b o ∧ W0.heap.size ≤ b ∧ (∀ k', C.box k' ≠ some b) ∧ ∃ cs ty, W.heap[b]? = some (.cells cs ty (0, 0)) ∧ hi ≤ cs.size
  tld : ∀ k k' v v' b lo hi lo' hi' o, C.lv k = some (v, true) → C.lv k' = some (v', true) → k ≠ k' → C.tl k = (b, lo, hi) → C.tl k' = (b, lo', hi') →
    lo ≤ o → o < hi → lo' ≤ o → o < hi' → False
  Vn : ∀ b o, C.V b o → V0 b o ∨ (W0.heap.size ≤ b ∧ b < W.heap.size)
  V0V : ∀ b o, V0 b o → C.V b o
  iok : IoOK E.MI C.io W
  gl : ∀ g v, findA E.GL g = some v → Rel E.TR (baseCx C.V C.io) W (.cref v []) [.pointer (some ⟨g, 0, none⟩)]
  kp : Keep E.M io0 C.io W0 W
  old0 : ∀ b o, V0 b o → b < W0.heap.size
  n0 : E.n0 ≤ W0.heap.size
  hM : ∀ b, E.M b → b < E.n0 ∧ ∀ o, V0 b o
  gh : ∀ (k x y : Nat) (tr : List AV), k + 1 = s.objs.length → s.objs[k]? = some (.map x y tr) → E.J tr C.V C.io W

variable {E : Env} {V0 : Nat → Nat → Prop} {io0 : Io} {W0 : World} {C : Cx} {s : St} {a : Act} {W : World}

theorem Sim.base (S : Sim E V0 io0 W0 C s a W) : BaseOK E.toBase C.V C.io W :=
  ⟨fun b o h => by
    rcases S.Vn b o h with h | h
    · exact Nat.lt_of_lt_of_le (S.old0 b o h) S.kp.size
    · exact h.2, S.iok, S.gl⟩

/-- A base context's words hold in any that has its cells and memos. -/
theorem CxLe.ofBase {V : Nat → Nat → Prop} {io : Io} {W : World} (C : Cx) (hV : C.V = V) (hio : C.io = io) : CxLe (baseCx V io) C W W := by
  subst hV hio
  exact ⟨⟨fun _ _ h _ => h, fun _ _ _ h => h⟩, (fun _ _ h => by cases h), (fun _ _ _ h => by cases h), fun _ _ => rfl, Nat.le_refl _⟩

theorem mkV_one {v : AV} {x : Value} (h : isAg v = false) : mkV v [x] = x := by simp [mkV, h]
theorem mkV_agg {v : AV} {cs : List Value} (h : isAg v = true) : mkV v cs = .agg cs.toArray := by simp [mkV, h]

theorem Sim.get (S : Sim E V0 io0 W0 C s a W) (k : Nat) : VR E.TR C W (s.get k) (a.tmps.getD k undef) := by
  unfold St.get
  by_cases h : k < s.tmps.length
  · obtain ⟨v, hv, hr⟩ := S.tm k _ (List.getElem?_eq_getElem h)
    have h1 : s.tmps.getD k .undef = s.tmps[k] := by simp [List.getD, List.getElem?_eq_getElem h]
    have h2 : a.tmps.getD k undef = v := by simp [Array.getD_eq_getD_getElem?, hv]
    rw [h1, h2]
    exact hr
  · have h1 : s.tmps.getD k .undef = .undef := by simp [List.getD, List.getElem?_eq_none (Nat.le_of_not_lt h)]
    have h2 : a.tmps.getD k undef = undef := by simp [Array.getD_eq_getD_getElem?, Array.getElem?_eq_none (by rw [S.len]; exact Nat.le_of_not_lt h)]
    rw [h1, h2]
    exact .inr ⟨[undef], by simp [AV.size], by simp [Rel], by simp [mkV, isAg]⟩

/-- A slot is written. -/
theorem Sim.put (S : Sim E V0 io0 W0 C s a W) (d : Option Nat) {x : AV} {v : Value} (h : VR E.TR C W x v) : Sim E V0 io0 W0 C (s.put d x) (a.put d v) W := by
  cases d with
  | none => exact S
  | some d =>
    refine { S with len := ?_, tm := ?_, df := ?_, bx := S.bx, bxn := S.bxn, ln := S.ln, gh := S.gh }
    · simpa [Act.put, St.put] using S.len
    · intro t y hy
      simp only [St.put, List.getElem?_set] at hy
      simp only [Act.put, Array.getElem?_setIfInBounds]
      by_cases e : d = t
      · subst e
        simp only [if_true] at hy ⊢
        by_cases hd : d < s.tmps.length
        · rw [if_pos hd] at hy
          cases hy
          exact ⟨v, by rw [if_pos (by rw [S.len]; exact hd)], h⟩
        · rw [if_neg hd] at hy
          cases hy
      · rw [if_neg e] at hy ⊢
        exact S.tm t y hy
    · exact S.df

theorem Cell.io_none {MI : (t : Ty) → t.den → Array MapEntry → Prop} {io : Io} {W : World} (h : IoOK MI io W) {b : Nat} {x : Obj} (hb : W.heap[b]? = some x) (hx : ∀ es ck, x ≠ .map es ck) : io b = none := by
  cases hi : io b with
  | none => rfl
  | some x =>
    obtain ⟨t, d⟩ := x
    obtain ⟨es, ck, h1, _⟩ := h b t d hi
    rw [hb] at h1
    cases h1
    exact absurd rfl (hx _ _)

theorem cells_of_cell {W : World} {a : Addr} {v : Value} (h : W.cell? a = some v) : ∃ cs ty fr, W.heap[a.block]? = some (.cells cs ty fr) ∧ a.spot.isSome = false ∧ cs[a.off]? = some v := by
  unfold World.cell? at h
  split at h
  · rename_i cs ty fr heq
    split at h
    · cases h
    · rename_i hs
      exact ⟨cs, ty, fr, heq, by simpa using hs, h⟩
  · cases h

theorem cell_of_block {W W' : World} {a : Addr} (h : W'.heap[a.block]? = W.heap[a.block]?) : W'.cell? a = W.cell? a := by
  unfold World.cell?
  rw [h]

/-- A step of ours: blocks below n stand, and so does what defers are taken from. -/
structure Wst (n : Nat) (W W' : World) : Prop where
  os : W'.os = W.os
  tape : W'.tape = W.tape
  output : W'.output = W.output
  size : W.heap.size ≤ W'.heap.size
  old : ∀ b, b < n → b < W.heap.size → W'.heap[b]? = W.heap[b]?
  dfr : ∀ (r : Nat) (x : Option (List Deferred)), W.heap[r]? = some (Obj.deferred x) → W'.heap[r]? = some (Obj.deferred x)

theorem Wst.refl (n : Nat) (W : World) : Wst n W W := ⟨rfl, rfl, rfl, Nat.le_refl _, fun _ _ _ => rfl, fun _ _ h => h⟩
theorem Wst.trans {n : Nat} {W W1 W2 : World} (h : Wst n W W1) (k : Wst n W1 W2) : Wst n W W2 :=
  ⟨k.os.trans h.os, k.tape.trans h.tape, k.output.trans h.output, Nat.le_trans h.size k.size,
    fun b hb hs => (k.old b hb (Nat.lt_of_lt_of_le hs h.size)).trans (h.old b hb hs), fun r x hr => k.dfr r x (h.dfr r x hr)⟩
theorem Wst.drew (n : Nat) (W : World) : Wst n W W.drew := ⟨rfl, rfl, rfl, Nat.le_refl _, fun _ _ _ => rfl, fun _ _ h => h⟩

theorem heap_alloc_old' (W : World) (o : Obj) {b : Nat} {x : Obj} (h : W.heap[b]? = some x) : (W.alloc o).heap[b]? = some x := by
  have hb := (Array.getElem?_eq_some_iff.1 h).1
  show (W.heap.push o)[b]? = _
  rw [Array.getElem?_push, if_neg (by omega)]
  exact h
theorem heap_alloc_new' (W : World) (o : Obj) : (W.alloc o).heap[W.heap.size]? = some o := by
  show (W.heap.push o)[W.heap.size]? = _
  simp
theorem Wst.alloc (n : Nat) (W : World) (o : Obj) : Wst n W (W.alloc o) :=
  ⟨rfl, rfl, rfl, by simp, fun b hb hs => by
    show (W.heap.push o)[b]? = _
    rw [Array.getElem?_push, if_neg (by omega)], fun r x h => heap_alloc_old' W o h⟩
theorem Wst.of_block {n : Nat} {W W' : World} {b : Nat} (hb : n ≤ b) (hd : ∀ x, W.heap[b]? ≠ some (Obj.deferred x)) (h1 : W'.os = W.os) (h2 : W'.tape = W.tape) (h3 : W'.output = W.output) (h4 : W'.heap.size = W.heap.size)
    (h5 : ∀ j : Nat, j ≠ b → W'.heap[j]? = W.heap[j]?) : Wst n W W' :=
  ⟨h1, h2, h3, by omega, fun j hj _ => h5 j (by omega), fun r x hr => (h5 r (fun e => by subst e; exact hd x hr)).trans hr⟩

theorem Keep.step {M : Nat → Prop} {io0 io : Io} {W0 W W' : World} (h : Keep M io0 io W0 W) (k : Wst W0.heap.size W W') : Keep M io0 io W0 W' :=
  ⟨k.os.trans h.os, k.tape.trans h.tape, k.output.trans h.output, Nat.le_trans h.size k.size, fun b hb hi hm => (k.old b hb (Nat.lt_of_lt_of_le hb h.size)).trans (h.block b hb hi hm), h.io⟩

theorem Sim.dfs (S : Sim E V0 io0 W0 C s a W) {n : Nat} {W' : World} (k : Wst n W W') : DfOK W0 W' a.defers := by
  exact S.df.imp fun r _ h => k.dfr r _ h

theorem Sim.ghs (S : Sim E V0 io0 W0 C s a W) {W' : World} {V' : Nat → Nat → Prop} (k : Wst W0.heap.size W W') (hst : Stab C.V V' W W') (hVn : ∀ b o, V' b o → V0 b o ∨ (W0.heap.size ≤ b ∧ b < W'.heap.size)) (hV0 : ∀ b o, V0 b o → V' b o) (hio : IoOK E.MI C.io W') {tr : List AV} (h : E.J tr C.V C.io W) : E.J tr V' C.io W' :=
  E.hJ _ _ _ _ _ _ _ h ⟨k.os, k.tape, k.output, k.size, fun b hb _ => k.old b (Nat.lt_of_lt_of_le hb S.n0) (Nat.lt_of_lt_of_le hb (Nat.le_trans S.n0 S.kp.size)), hst, fun _ _ => rfl,
    fun b o hb h => hV0 b o ((S.Vn b o h).resolve_right fun h => absurd h.1 (Nat.not_le_of_lt (Nat.lt_of_lt_of_le hb S.n0))),
    fun b o h => (hVn b o h).elim (fun h => Nat.lt_of_lt_of_le (S.old0 b o h) (Nat.le_trans S.kp.size k.size)) fun h => h.2⟩ hio

/-- Blocks that an activation may turn: others', its boxes', its slices' room. -/
def mine (M : Nat → Prop) (C : Cx) (b : Nat) : Prop := M b ∨ (∃ k, C.box k = some b) ∨ ∃ k v lo hi, C.lv k = some (v, true) ∧ C.tl k = (b, lo, hi) ∧ lo < hi

structure Kx (M : Nat → Prop) (C C' : Cx) (W W' : World) : Prop where
  kp : Keep (mine M C) C.io C'.io W W'
  bx : ∀ k b, C'.box k = some b → C.box k = some b ∨ W.heap.size ≤ b
  tl : ∀ k v b lo hi, C'.lv k = some (v, true) → C'.tl k = (b, lo, hi) → lo < hi → (∃ k0 v0 lo0 hi0, C.lv k0 = some (v0, true) ∧ C.tl k0 = (b, lo0, hi0) ∧ lo0 < hi0) ∨ W.heap.size ≤ b
  vo : ∀ b o, b < W.heap.size → C.V b o → C'.V b o ∨ ∃ k0 v0 lo0 hi0, C.lv k0 = some (v0, true) ∧ C.tl k0 = (b, lo0, hi0) ∧ lo0 < hi0

theorem Kx.refl (M : Nat → Prop) (C : Cx) (W : World) : Kx M C C W W := ⟨Keep.refl _ _ _, fun _ _ h => .inl h, fun k v b lo hi h1 h2 h3 => .inl ⟨k, v, lo, hi, h1, h2, h3⟩, fun _ _ _ h => .inl h⟩
theorem Keep.weak {M M' : Nat → Prop} {io io' : Io} {W W' : World} (h : Keep M io io' W W') (hM : ∀ b, b < W.heap.size → M b → M' b) : Keep M' io io' W W' := ⟨h.os, h.tape, h.output, h.size, fun b hb hi hm => h.block b hb hi fun e => hm (hM b hb e), h.io⟩
theorem Keep.trans' {M M' : Nat → Prop} {io io1 io2 : Io} {W W1 W2 : World} (h : Keep M io io1 W W1) (k : Keep M' io1 io2 W1 W2) (hM : ∀ b, b < W.heap.size → M' b → M b) : Keep M io io2 W W2 :=
  ⟨k.os.trans h.os, k.tape.trans h.tape, k.output.trans h.output, Nat.le_trans h.size k.size,
    fun b hb hi hm => (k.block b (Nat.lt_of_lt_of_le hb h.size) ((h.io b hb).trans hi) fun e => hm (hM b hb e)).trans (h.block b hb hi hm),
    fun b hb => (k.io b (Nat.lt_of_lt_of_le hb h.size)).trans (h.io b hb)⟩
theorem Kx.mine {M : Nat → Prop} {C C' : Cx} {W W' : World} (h : Kx M C C' W W') (b : Nat) (hb : b < W.heap.size) (hm : mine M C' b) : Ev.mine M C b := by
  rcases hm with hm | ⟨k, hk⟩ | ⟨k, v, lo, hi, h1, h2, h3⟩
  · exact .inl hm
  · exact .inr (.inl ⟨k, (h.bx k b hk).resolve_right (by omega)⟩)
  · exact .inr (.inr (by
      obtain ⟨k0, v0, lo0, hi0, g⟩ := (h.tl k v b lo hi h1 h2 h3).resolve_right (by omega)
      exact ⟨k0, v0, lo0, hi0, g⟩))
theorem Kx.trans {M : Nat → Prop} {C C1 C2 : Cx} {W W1 W2 : World} (h : Kx M C C1 W W1) (k : Kx M C1 C2 W1 W2) : Kx M C C2 W W2 :=
  ⟨h.kp.trans' k.kp h.mine, fun j b hj => by
    rcases k.bx j b hj with g | g
    · exact h.bx j b g
    · exact .inr (Nat.le_trans h.kp.size g), fun j v b lo hi h1 h2 h3 => by
    rcases k.tl j v b lo hi h1 h2 h3 with ⟨k0, v0, lo0, hi0, g1, g2, g3⟩ | g
    · exact h.tl k0 v0 b lo0 hi0 g1 g2 g3
    · exact .inr (Nat.le_trans h.kp.size g), fun b o hb hv => by
    rcases h.vo b o hb hv with g | g
    · rcases k.vo b o (Nat.lt_of_lt_of_le hb h.kp.size) g with g | ⟨k0, v0, lo0, hi0, g1, g2, g3⟩
      · exact .inl g
      · exact .inr ((h.tl k0 v0 b lo0 hi0 g1 g2 g3).resolve_right (by omega))
    · exact .inr g⟩

/-- What an activation has turned: of its own slots, no other than these; of blocks, its own. -/
structure Fm (M D : Nat → Prop) (a a' : Act) (C C' : Cx) (W W' : World) : Prop where
  sz : a'.tmps.size = a.tmps.size
  tm : ∀ k, ¬ D k → a'.tmps[k]? = a.tmps[k]?
  bx : ∀ k b, ¬ D k → C'.box k = some b → C.box k = some b
  lv : ∀ k v, ¬ D k → C'.lv k = some (v, true) → ∃ v0, C.lv k = some (v0, true) ∧ C'.tl k = C.tl k
  kx : Kx M C C' W W'

theorem Fm.refl (M D : Nat → Prop) (a : Act) (C : Cx) (W : World) : Fm M D a a C C W W := ⟨rfl, fun _ _ => rfl, fun _ _ _ h => h, fun _ v _ h => ⟨v, h, rfl⟩, Kx.refl _ _ _⟩
theorem Fm.trans {M D : Nat → Prop} {a a1 a2 : Act} {C C1 C2 : Cx} {W W1 W2 : World} (h : Fm M D a a1 C C1 W W1) (k : Fm M D a1 a2 C1 C2 W1 W2) : Fm M D a a2 C C2 W W2 :=
  ⟨k.sz.trans h.sz, fun j hj => (k.tm j hj).trans (h.tm j hj), fun j b hj hb => h.bx j b hj (k.bx j b hj hb), fun j v hj hv => by
    obtain ⟨v1, g1, g2⟩ := k.lv j v hj hv
    obtain ⟨v0, g3, g4⟩ := h.lv j v1 hj g1
    exact ⟨v0, g3, g2.trans g4⟩, h.kx.trans k.kx⟩
theorem Fm.mono {M D D' : Nat → Prop} {a a' : Act} {C C' : Cx} {W W' : World} (h : Fm M D a a' C C' W W') (hd : ∀ k, D k → D' k) : Fm M D' a a' C C' W W' :=
  ⟨h.sz, fun j hj => h.tm j fun e => hj (hd j e), fun j b hj => h.bx j b fun e => hj (hd j e), fun j v hj => h.lv j v fun e => hj (hd j e), h.kx⟩

/-- Objects but for one slot's: boxes were boxes, what is alive was alive. -/
def ObLe (d : Option Nat) (l l' : List Ob) : Prop := ∀ k, d ≠ some k → (∀ v, l'[k]? = some (Ob.box v) → ∃ u, l[k]? = some (Ob.box u)) ∧ ∀ v, l'[k]? = some (Ob.lin v true) → l[k]? = some (Ob.lin v true)

/-- What one operation turns: its own slot. -/
def FmA (d : Option Nat) (a a' : Act) : Prop := a'.tmps.size = a.tmps.size ∧ (∀ k, d ≠ some k → a'.tmps[k]? = a.tmps[k]?) ∧ a'.defers = a.defers

theorem fmA_put (d : Option Nat) (a : Act) (v : Value) : FmA d a (a.put d v) := by
  cases d with
  | none => exact ⟨rfl, fun _ _ => rfl, rfl⟩
  | some d =>
    refine ⟨by simp [Act.put], fun k hk => ?_, rfl⟩
    simp only [Act.put, Array.getElem?_setIfInBounds]
    rw [if_neg (fun e => hk (by rw [e]))]

theorem Fm.of (S : Sim E V0 io0 W0 C s a W) {C' : Cx} {s' : St} {a' : Act} {W' : World} (S' : Sim E V0 io0 W0 C' s' a' W') (hle : CxLe C C' W W') {d : Option Nat} (ho : ObLe d s.objs s'.objs) (ha : FmA d a a') (hk : Kx E.M C C' W W') : Fm E.M (fun k => d = some k) a a' C C' W W' :=
  ⟨ha.1, ha.2.1, fun k b hk hb => by
    obtain ⟨v, hv⟩ := S'.bxn k b hb
    obtain ⟨u, hu⟩ := (ho k hk).1 v hv
    obtain ⟨b0, _, _, h0, _⟩ := S.bx k u hu
    have := hle.box k b0 h0
    rw [hb] at this
    cases this
    exact h0, fun k v hk hv => by
    have h1 := (S.ln k v true).2 ((ho k hk).2 v ((S'.ln k v true).1 hv))
    obtain ⟨cu, al, g1, g2, g3⟩ := hle.lv k v true h1
    rw [hv] at g1
    cases g1
    exact ⟨v, h1, (g3 rfl rfl).2⟩, hk⟩

/-- The world goes on: others' blocks may have turned, and others may have been told something. -/
theorem Sim.keepM (S : Sim E V0 io0 W0 C s a W) {io' : Io} {W' : World} {objs' : List Ob} (hk : Keep E.M C.io io' W W') (hio : IoOK E.MI io' W') (hb : ∀ (k : Nat) (v : AV), objs'[k]? = some (Ob.box v) ↔ s.objs[k]? = some (Ob.box v))
    (hl : ∀ (k v : Nat) (al : Bool), objs'[k]? = some (Ob.lin v al) ↔ s.objs[k]? = some (Ob.lin v al)) (hg : ∀ (k x y : Nat) (tr : List AV), k + 1 = objs'.length → objs'[k]? = some (Ob.map x y tr) → E.J tr C.V io' W') :
    CxLe C { C with io := io' } W W' ∧ Sim E V0 io0 W0 { C with io := io' } ⟨s.tmps, objs'⟩ a W' := by
  have hnm : ∀ b, W0.heap.size ≤ b → ¬ E.M b := fun b hb hm => by
    have := (S.hM b hm).1
    have := S.n0
    omega
  have hst : Stab C.V C.V W W' := ⟨fun x v hx hv => by
    obtain ⟨cs, ty, fr, h1, _⟩ := cells_of_cell hx
    exact (cell_of_block (hk.block _ (Array.getElem?_eq_some_iff.1 h1).1 (Cell.io_none S.iok h1 (fun _ _ h => nomatch h)) fun hm => hv (S.V0V _ _ ((S.hM _ hm).2 _)))).trans hx, fun _ _ _ h => h⟩
  have hle : CxLe C { C with io := io' } W W' := ⟨hst, fun _ _ h => h, fun k cu al h => ⟨cu, al, h, Nat.le_refl _, fun h _ => ⟨h, rfl⟩⟩, hk.io, hk.size⟩
  refine ⟨hle, { S with tm := ?_, df := ?_, bx := ?_, bxn := ?_, ln := ?_, tl := ?_, Vn := ?_, iok := hio, gl := ?_, kp := S.kp.trans hk, gh := hg }⟩
  · intro t x hx
    obtain ⟨v, h1, h2⟩ := S.tm t x hx
    exact ⟨v, h1, h2.mono E.hT hle⟩
  · exact S.df.imp fun r h3 h2 => (hk.block r (Array.getElem?_eq_some_iff.1 h2).1 (Cell.io_none S.iok h2 (fun _ _ h => nomatch h)) (hnm r h3)).trans h2
  · intro k v hv
    obtain ⟨b, cs, ty, h1, h2, h3, h4, h5⟩ := S.bx k v ((hb k v).1 hv)
    exact ⟨b, cs, ty, h1, (hk.block b (Array.getElem?_eq_some_iff.1 h2).1 (Cell.io_none S.iok h2 (fun _ _ h => nomatch h)) (hnm b h5)).trans h2, h3, Rel.mono E.hT hle h4, h5⟩
  · intro k b h
    obtain ⟨v, hv⟩ := S.bxn k b h
    exact ⟨v, (hb k v).2 hv⟩
  · intro k v al
    exact (S.ln k v al).trans (hl k v al).symm
  · intro k v b lo hi o h1 h2 h3 h4
    obtain ⟨g1, g2, g3, cs, ty, g4, g5⟩ := S.tl k v b lo hi o h1 h2 h3 h4
    exact ⟨g1, g2, g3, cs, ty, (hk.block b (Array.getElem?_eq_some_iff.1 g4).1 (Cell.io_none S.iok g4 (fun _ _ h => nomatch h)) (hnm b g2)).trans g4, g5⟩
  · intro b o h
    exact (S.Vn b o h).imp id fun h => ⟨h.1, Nat.lt_of_lt_of_le h.2 hk.size⟩
  · intro g v h
    have := S.gl g v h
    exact Rel.mono E.hT (C := baseCx C.V C.io) (C' := baseCx C.V io') ⟨hst, (fun _ _ h => by cases h), (fun _ _ _ h => by cases h), hk.io, hk.size⟩ this

/-- The world goes on, and no block of this call's turns. -/
theorem Sim.keep (S : Sim E V0 io0 W0 C s a W) {io' : Io} {W' : World} (hk : Keep noM C.io io' W W') (hio : IoOK E.MI io' W') :
    CxLe C { C with io := io' } W W' ∧ Sim E V0 io0 W0 { C with io := io' } s a W' := by
  refine S.keepM (objs' := s.objs) hk.of_noM hio (fun _ _ => Iff.rfl) (fun _ _ _ => Iff.rfl) fun k x y tr hl h => ?_
  refine E.hJ _ _ _ _ _ _ _ (S.gh k x y tr hl h) ⟨hk.os, hk.tape, hk.output, hk.size, fun b hb hi => hk.block b (Nat.lt_of_lt_of_le hb (Nat.le_trans S.n0 S.kp.size)) hi fun e => e, ⟨fun x v hx _ => ?_, fun _ _ _ h => h⟩, hk.io, fun _ _ _ h => h, fun b o h => Nat.lt_of_lt_of_le (S.base.old b o h) hk.size⟩ hio
  obtain ⟨cs, ty, fr, h1, _⟩ := cells_of_cell hx
  exact (cell_of_block (hk.block _ (Array.getElem?_eq_some_iff.1 h1).1 (Cell.io_none S.iok h1 (fun _ _ h => nomatch h)) fun e => e)).trans hx

theorem Keep.drew (io : Io) (W : World) : Keep noM io io W W.drew := ⟨rfl, rfl, rfl, Nat.le_refl _, fun _ _ _ _ => rfl, fun _ _ => rfl⟩
theorem Keep.alloc (io : Io) (W : World) (o : Obj) : Keep noM io io W (W.alloc o) :=
  ⟨rfl, rfl, rfl, by simp, fun b hb _ _ => by
    show (W.heap.push o)[b]? = _
    rw [Array.getElem?_push, if_neg (by omega)], fun _ _ => rfl⟩

theorem IoOK.alloc {MI : (t : Ty) → t.den → Array MapEntry → Prop} {io : Io} {W : World} (h : IoOK MI io W) (o : Obj) : IoOK MI io (W.alloc o) := fun b t d hb => by
  obtain ⟨es, ck, h1, h2⟩ := h b t d hb
  exact ⟨es, ck, heap_alloc_old' W o h1, h2⟩
theorem IoOK.drew {MI : (t : Ty) → t.den → Array MapEntry → Prop} {io : Io} {W : World} (h : IoOK MI io W) : IoOK MI io W.drew := h

end Ev
end Go.Proofs.YtidnikjkpbmhhaaDoor
