/- What an abstract value says of the machine's values and cells, and that it goes on saying so while other cells turn. -/
import Derived.Test.YtidnikjkpbmhhaaDoorEv
import Derived.Laws.World
import Derived.Laws.Cells
import Derived.Laws.Rows
set_option linter.unusedVariables false
namespace Go.Proofs.YtidnikjkpbmhhaaDoor
namespace Ev

/-- Elements in cells, one behind the other. -/
def Flat {α : Type} (R : α → List Value → Prop) : List α → List Value → Prop
  | [], cs => cs = []
  | x :: xs, cs => ∃ c d, cs = c ++ d ∧ R x c ∧ Flat R xs d

/-- The cells from an address on hold these, and are none of those that may turn. -/
def Cells (V : Nat → Nat → Prop) (W : World) (a : Addr) (cs : List Value) : Prop :=
  ∀ i v, cs[i]? = some v → W.cell? (a.add i) = some v ∧ ¬ V a.block (a.off + i)

def Row {α : Type} (V : Nat → Nat → Prop) (W : World) (R : α → List Value → Prop) (sz : Nat) (A : Option Addr) (l : List α) : Prop :=
  ∀ j x, l[j]? = some x → ∃ a c, A = some a ∧ R x c ∧ c.length = sz ∧ Cells V W (a.add (j * sz)) c

def CRel (V : Nat → Nat → Prop) (W : World) : (t : Ty) → t.den → List Value → Prop
  | .int, n, cs => cs = [.int .i64 n]
  | .bool, b, cs => cs = [.bool b]
  | .last a, x, cs => CRel V W a x cs
  | .cons a b, x, cs => ∃ c d, cs = c ++ d ∧ CRel V W a x.1 c ∧ CRel V W b x.2 d
  | .slice t, l, cs => ∃ A c, cs = [.slice A l.length c] ∧ l.length ≤ c ∧ Row V W (fun x c => CRel V W t x c) t.size A l
  | .arr n t, xs, cs => xs.length = n ∧ Flat (fun x c => CRel V W t x c) xs cs

theorem Flat.length {α : Type} {R : α → List Value → Prop} {sz : Nat} (hR : ∀ x c, R x c → c.length = sz) : ∀ {xs : List α} {cs : List Value}, Flat R xs cs → cs.length = xs.length * sz
  | [], cs, h => by simp [show cs = [] from h]
  | x :: xs, cs, h => by
    obtain ⟨c, d, rfl, h1, h2⟩ := h
    simp [hR _ _ h1, Flat.length hR h2, Nat.add_mul, Nat.add_comm]

theorem CRel.length {V W} : ∀ {t : Ty} {x : t.den} {cs : List Value}, CRel V W t x cs → cs.length = t.size
  | .int, n, cs, h => by simp [show cs = _ from h, Ty.size]
  | .bool, n, cs, h => by simp [show cs = _ from h, Ty.size]
  | .last a, x, cs, h => CRel.length (t := a) h
  | .cons a b, x, cs, h => by
    obtain ⟨c, d, rfl, h1, h2⟩ := h
    simp [CRel.length h1, CRel.length h2, Ty.size]
  | .slice t, l, cs, h => by
    obtain ⟨A, c, rfl, _⟩ := h
    simp [Ty.size]
  | .arr n t, xs, cs, h => by
    rw [Flat.length (fun x c h => CRel.length (t := t) h) h.2, h.1]; rfl

/-- One world's cells stand in another, but for those that may turn. -/
structure Stab (V V' : Nat → Nat → Prop) (W W' : World) : Prop where
  cell : ∀ a v, W.cell? a = some v → ¬ V a.block a.off → W'.cell? a = some v
  vol : ∀ b o, b < W.heap.size → V' b o → V b o

theorem add_block (a : Addr) (n : Nat) : (a.add n).block = a.block := by unfold Addr.add; split <;> rfl
theorem add_off (a : Addr) (n : Nat) : (a.add n).off = a.off + n := by unfold Addr.add; split <;> simp_all
theorem add_add (a : Addr) (n m : Nat) : (a.add n).add m = a.add (n + m) := by
  unfold Addr.add
  by_cases h1 : n = 0 <;> by_cases h2 : m = 0 <;> simp [h1, h2, Nat.add_assoc]
theorem add_zero (a : Addr) : a.add 0 = a := by simp [Addr.add]

theorem Cells.mono {V V' W W' a cs} (hs : Stab V V' W W') (h : Cells V W a cs) : Cells V' W' a cs := by
  intro i v hi
  obtain ⟨h1, h2⟩ := h i v hi
  have hb := World.block_lt_of_cell? W (a.add i) h1
  rw [add_block] at hb
  exact ⟨hs.cell _ _ h1 (by rwa [add_block, add_off]), fun hv => h2 (hs.vol _ _ hb hv)⟩

theorem Flat.imp {α : Type} {R R' : α → List Value → Prop} (hR : ∀ x c, R x c → R' x c) : ∀ {xs : List α} {cs : List Value}, Flat R xs cs → Flat R' xs cs
  | [], _, h => h
  | _ :: _, _, ⟨c, d, e, h1, h2⟩ => ⟨c, d, e, hR _ _ h1, Flat.imp hR h2⟩

theorem CRel.mono {V V' W W'} (hs : Stab V V' W W') : ∀ {t : Ty} {x : t.den} {cs : List Value}, CRel V W t x cs → CRel V' W' t x cs
  | .int, _, _, h => h
  | .bool, _, _, h => h
  | .last a, x, cs, h => CRel.mono hs (t := a) h
  | .cons a b, x, cs, ⟨c, d, e, h1, h2⟩ => ⟨c, d, e, CRel.mono hs h1, CRel.mono hs h2⟩
  | .slice t, l, cs, ⟨A, c, e, h1, h2⟩ => ⟨A, c, e, h1, fun j x hj => by
      obtain ⟨a, c, h3, h4, h5, h6⟩ := h2 j x hj
      exact ⟨a, c, h3, CRel.mono hs (t := t) h4, h5, h6.mono hs⟩⟩
  | .arr n t, xs, cs, ⟨h1, h2⟩ => ⟨h1, Flat.imp (fun x c h => CRel.mono hs (t := t) h) h2⟩

/-- Where a memo's data stand: what a block that holds a map is a memo of. -/
abbrev Io := Nat → Option (Σ t : Ty, t.den)

/-- What a relation leans on: which cells may turn, where boxes lie, lineages (version, alive; block, from, to), memos; what tokens say. -/
structure Cx where
  V : Nat → Nat → Prop
  box : Nat → Option Nat
  lv : Nat → Option (Nat × Bool)
  tl : Nat → Nat × Nat × Nat
  io : Io

def Stp.off : Stp → Nat
  | .fld _ o => o
  | .idx i sz _ => i.toNat * sz
def offP : List Stp → Nat
  | [] => 0
  | x :: p => x.off + offP p
def Stp.ok : Stp → Prop
  | .fld _ _ => True
  | .idx i _ n => 0 ≤ i ∧ i < n
def okP (p : List Stp) : Prop := ∀ x ∈ p, x.ok

/-- What a token says of a value: 'TR token kind data volatile memos world value'. -/
abbrev TokRel := Nat → (t : Ty) → t.den → (Nat → Nat → Prop) → Io → World → Value → Prop

def ioLe (n : Nat) (io io' : Io) : Prop := ∀ b, b < n → io' b = io b
structure TokOK (TR : TokRel) : Prop where
  mono : ∀ i t d V V' io io' W W' v, Stab V V' W W' → ioLe W.heap.size io io' → W.heap.size ≤ W'.heap.size → TR i t d V io W v → TR i t d V' io' W' v
  one : ∀ i t d V io W v, TR i t d V io W v → v.oneCell' = true ∧ v.cells = #[v]

def mkV (v : AV) (cs : List Value) : Value := if isAg v = true then .agg cs.toArray else cs.headD undef

mutual
def Rel (TR : TokRel) (C : Cx) (W : World) : AV → List Value → Prop
  | .poison, cs => ∃ v, cs = [v]
  | .undef, cs => cs = [undef]
  | .int n, cs => cs = [.int .i64 n]
  | .bool b, cs => cs = [.bool b]
  | .agg l, cs => RelL TR C W l cs
  | .arr t n xs, cs => xs.length = n ∧ Flat (CRel C.V W t) xs cs
  | .sl t f l, cs => ∃ A c, cs = [.slice A l.length c] ∧ l.length ≤ c ∧ Row C.V W (CRel C.V W t) t.size A l ∧ (f.z = true → l = [] → A = none ∧ c = 0) ∧ (f.tg = true → c = l.length) ∧
      (∀ k v, f.ow = some (k, v) → ∃ cu al, C.lv k = some (cu, al) ∧ v ≤ cu ∧
        (al = true → v = cu → c = l.length ∨ ∃ b, A = some ⟨b, 0, none⟩ ∧ C.tl k = (b, l.length * t.size, c * t.size)))
  | .tup l, cs => ∃ vs, cs = [.tuple vs.toArray] ∧ RelV TR C W l vs
  | .ref k p, cs => ∃ b, C.box k = some b ∧ okP p ∧ cs = [.pointer (some ⟨b, offP p, none⟩)]
  | .cref v p, cs => ∃ a ds, Rel TR C W v ds ∧ Cells C.V W a ds ∧ okP p ∧ cs = [.pointer (some (a.add (offP p)))]
  | .fn f fst cap, cs => ∃ xs ys, cs = [.func (.func f) xs.toArray ys.toArray] ∧ RelV TR C W fst xs ∧ RelV TR C W cap ys
  | .map _, _ => False
  | .tok i t d, cs => ∃ v, cs = [v] ∧ TR i t d C.V C.io W v
def RelL (TR : TokRel) (C : Cx) (W : World) : List AV → List Value → Prop
  | [], cs => cs = []
  | v :: l, cs => ∃ c d, cs = c ++ d ∧ c.length = v.size ∧ Rel TR C W v c ∧ RelL TR C W l d
def RelV (TR : TokRel) (C : Cx) (W : World) : List AV → List Value → Prop
  | [], vs => vs = []
  | v :: l, vs => ∃ x r, vs = x :: r ∧ (v = .poison ∨ ∃ cs, cs.length = v.size ∧ Rel TR C W v cs ∧ x = mkV v cs) ∧ RelV TR C W l r
end

/-- A value in a slot. -/
def VR (TR : TokRel) (C : Cx) (W : World) (v : AV) (x : Value) : Prop := v = .poison ∨ ∃ cs, cs.length = v.size ∧ Rel TR C W v cs ∧ x = mkV v cs

/-- One context's words hold in another. -/
structure CxLe (C C' : Cx) (W W' : World) : Prop where
  st : Stab C.V C'.V W W'
  box : ∀ k b, C.box k = some b → C'.box k = some b
  lv : ∀ k cu al, C.lv k = some (cu, al) → ∃ cu' al', C'.lv k = some (cu', al') ∧ cu ≤ cu' ∧ (al' = true → cu' = cu → al = true ∧ C'.tl k = C.tl k)
  io : ioLe W.heap.size C.io C'.io
  size : W.heap.size ≤ W'.heap.size

mutual
theorem Rel.mono {TR} (hT : TokOK TR) {C C' W W'} (hc : CxLe C C' W W') : ∀ {v : AV} {cs : List Value}, Rel TR C W v cs → Rel TR C' W' v cs
  | .poison, cs, h => by simpa only [Rel] using h
  | .undef, cs, h => by simpa only [Rel] using h
  | .int n, cs, h => by simpa only [Rel] using h
  | .bool b, cs, h => by simpa only [Rel] using h
  | .agg l, cs, h => by
    simp only [Rel] at h ⊢
    exact RelL.mono hT hc h
  | .arr t n xs, cs, h => by
    simp only [Rel] at h ⊢
    exact ⟨h.1, Flat.imp (fun x c h => CRel.mono hc.st h) h.2⟩
  | .sl t f l, cs, h => by
    simp only [Rel] at h ⊢
    obtain ⟨A, c, e, h1, h2, h3, h4, h5⟩ := h
    refine ⟨A, c, e, h1, fun j x hj => ?_, h3, h4, fun k v hk => ?_⟩
    · obtain ⟨a, c, g1, g2, g3, g4⟩ := h2 j x hj
      exact ⟨a, c, g1, CRel.mono hc.st g2, g3, g4.mono hc.st⟩
    · obtain ⟨cu, al, g1, g2, g3⟩ := h5 k v hk
      obtain ⟨cu', al', g4, g5, g6⟩ := hc.lv k cu al g1
      refine ⟨cu', al', g4, Nat.le_trans g2 g5, fun ha hv => ?_⟩
      have : cu' = cu := by omega
      obtain ⟨ha', ht⟩ := g6 ha this
      rw [ht]
      exact g3 ha' (by omega)
  | .tup l, cs, h => by
    simp only [Rel] at h ⊢
    obtain ⟨vs, e, h⟩ := h
    exact ⟨vs, e, RelV.mono hT hc h⟩
  | .ref k p, cs, h => by
    simp only [Rel] at h ⊢
    obtain ⟨b, h1, h2, h3⟩ := h
    exact ⟨b, hc.box _ _ h1, h2, h3⟩
  | .cref v p, cs, h => by
    simp only [Rel] at h ⊢
    obtain ⟨a, ds, h1, h2, h3⟩ := h
    exact ⟨a, ds, Rel.mono hT hc h1, h2.mono hc.st, h3⟩
  | .fn f a b, cs, h => by
    simp only [Rel] at h ⊢
    obtain ⟨xs, ys, e, h1, h2⟩ := h
    exact ⟨xs, ys, e, RelV.mono hT hc h1, RelV.mono hT hc h2⟩
  | .map k, cs, h => by simp only [Rel] at h
  | .tok i t d, cs, h => by
    simp only [Rel] at h ⊢
    obtain ⟨v, e, h⟩ := h
    exact ⟨v, e, hT.mono _ _ _ _ _ _ _ _ _ _ hc.st hc.io hc.size h⟩
theorem RelL.mono {TR} (hT : TokOK TR) {C C' W W'} (hc : CxLe C C' W W') : ∀ {l : List AV} {cs : List Value}, RelL TR C W l cs → RelL TR C' W' l cs
  | [], cs, h => by simpa only [RelL] using h
  | v :: l, cs, h => by
    simp only [RelL] at h ⊢
    obtain ⟨c, d, e, hl, h1, h2⟩ := h
    exact ⟨c, d, e, hl, Rel.mono hT hc h1, RelL.mono hT hc h2⟩
theorem RelV.mono {TR} (hT : TokOK TR) {C C' W W'} (hc : CxLe C C' W W') : ∀ {l : List AV} {vs : List Value}, RelV TR C W l vs → RelV TR C' W' l vs
  | [], cs, h => by simpa only [RelV] using h
  | v :: l, cs, h => by
    simp only [RelV] at h ⊢
    obtain ⟨x, r, e, h1, h2⟩ := h
    exact ⟨x, r, e, h1.imp id (fun ⟨cs, g0, g1, g2⟩ => ⟨cs, g0, Rel.mono hT hc g1, g2⟩), RelV.mono hT hc h2⟩
end

theorem VR.mono {TR} (hT : TokOK TR) {C C' W W'} (hc : CxLe C C' W W') {v x} (h : VR TR C W v x) : VR TR C' W' v x :=
  h.imp id fun ⟨cs, g0, g1, g2⟩ => ⟨cs, g0, Rel.mono hT hc g1, g2⟩

theorem CxLe.refl (C : Cx) (W : World) : CxLe C C W W :=
  ⟨⟨fun _ _ h _ => h, fun _ _ _ h => h⟩, fun _ _ h => h, fun k cu al h => ⟨cu, al, h, Nat.le_refl _, fun h _ => ⟨h, rfl⟩⟩, fun _ _ => rfl, Nat.le_refl _⟩

end Ev
end Go.Proofs.YtidnikjkpbmhhaaDoor
