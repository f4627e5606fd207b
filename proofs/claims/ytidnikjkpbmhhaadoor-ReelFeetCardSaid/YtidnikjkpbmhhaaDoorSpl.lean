/- The spools of a film: walked by hand around the list that is written in place. -/
import Derived.Test.YtidnikjkpbmhhaaDoorSpc
set_option linter.unusedVariables false
set_option linter.unusedSimpArgs false
set_option maxRecDepth 4000
namespace Go.Proofs.YtidnikjkpbmhhaaDoor
namespace Ev

variable {B : Base} {V0 : Nat → Nat → Prop} {io0 : Io} {W0 : World} {C C' : Cx} {s s' s1 : St} {a a' : Act} {W W' : World} {X : Ctx}

/-! Frames. -/
def frm (N : Nat) (m : List (Nat × AV)) : St := ⟨(List.range N).map fun k => match findA m k with | some v => v | none => .poison, List.replicate N .none⟩
/-- All that is new may turn. -/
def vCx (V : Nat → Nat → Prop) (W0 W : World) (io : Io) : Cx := baseCx (fun b o => V b o ∨ (W0.heap.size ≤ b ∧ b < W.heap.size)) io

theorem vCx_le (hb : BaseOK B V0 io0 W0) (S : Sim B.env V0 io0 W0 C s a W) : CxLe (baseCx V0 io0) (vCx V0 W0 W C.io) W0 W :=
  ⟨⟨(S.le0 hb).st.cell, fun b o hb h => h.resolve_right fun h => absurd h.1 (Nat.not_le_of_lt hb)⟩, (fun _ _ h => by cases h), (fun _ _ _ h => by cases h), S.kp.io, S.kp.size⟩

theorem frm_get {N : Nat} {m : List (Nat × AV)} {t : Nat} {x : AV} (h : (frm N m).tmps[t]? = some x) : t < N ∧ (x = .poison ∨ findA m t = some x) := by
  have h' : ((List.range N).map fun k => match findA m k with | some v => v | none => AV.poison)[t]? = some x := h
  rw [List.getElem?_map] at h'
  rcases Nat.lt_or_ge t N with hlt | hge
  · rw [List.getElem?_range hlt] at h'
    simp only [Option.map_some, Option.some.injEq] at h'
    refine ⟨hlt, ?_⟩
    cases hf : findA m t with
    | none => rw [hf] at h'; exact .inl h'.symm
    | some v => rw [hf] at h'; exact .inr (by rw [← h'])
  · rw [List.getElem?_eq_none (by simpa using hge)] at h'
    cases h'

/-- A frame, told anew: old things hold, numbers are numbers. -/
theorem frm_sim (hb : BaseOK B V0 io0 W0) (S : Sim B.env V0 io0 W0 C s a W) {N : Nat} (hN : a.tmps.size = N) (m : List (Nat × AV)) (hm : ∀ k v, findA m k = some v → ∃ u, a.tmps[k]? = some u ∧ (CxLe (baseCx V0 io0) (vCx V0 W0 W C.io) W0 W → VR B.TR (vCx V0 W0 W C.io) W v u)) : Sim B.env V0 io0 W0 (vCx V0 W0 W C.io) (frm N m) a W := by
  have hle := vCx_le hb S
  have hno : AllNone (frm N m) := fun k x h => List.eq_of_mem_replicate (List.mem_of_getElem? (show (List.replicate N Ob.none)[k]? = some x from h))
  refine ⟨by rw [hN]; simp [frm], fun t x hx => ?_, S.df, fun k v h => ?_, (fun k b h => by cases h), (fun k k' b h => by cases h), (fun k b o h => by cases h), fun k v al => ⟨(fun h => by cases h), fun h => ?_⟩, (fun k v b lo hi o h => by cases h), (fun k k' v v' b lo hi lo' hi' o h => by cases h), fun b o h => ?_, fun b o h => .inl h, S.iok, fun g v h => ?_, S.kp, S.old0, S.n0, S.hM, fun k x y tr h1 h2 => trivial⟩
  · obtain ⟨hlt, h | h⟩ := frm_get hx
    · subst h
      have hlt' : t < a.tmps.size := by omega
      exact ⟨a.tmps[t], Array.getElem?_eq_getElem hlt', .inl rfl⟩
    · obtain ⟨u, h1, h2⟩ := hm t x h
      exact ⟨u, h1, h2 hle⟩
  · exact nomatch hno k _ h
  · exact nomatch hno k _ h
  · exact h
  · exact Rel.mono B.hT (C := baseCx V0 io0) (C' := baseCx _ C.io) ⟨hle.st, (fun _ _ h => by cases h), (fun _ _ _ h => by cases h), hle.io, hle.size⟩ (hb.gl g v h)

theorem OwnI.reV {n0 : Nat} {v : Value} {l : List Int} (h : OwnI n0 C W v l) {V : Nat → Nat → Prop} {io : Io} (hn : W0.heap.size = n0) : OwnI n0 (vCx V W0 W io) W v l := by
  rcases h with h | ⟨b, cs, ty, h1, h2, h3, h4, h5, h6⟩
  · exact .inl h
  · exact .inr ⟨b, cs, ty, h1, h2, h3, h4, h5, fun o => .inr ⟨by omega, (Array.getElem?_eq_some_iff.1 h3).1⟩⟩

theorem Sim.intAt {E : Env} (S : Sim E V0 io0 W0 C s a W) {k : Nat} {z : Int} (h : s.tmps[k]? = some (.int z)) : a.tmps[k]? = some (.int .i64 z) := by
  obtain ⟨v, h1, h2⟩ := S.tm k _ h
  rw [h1, h2.int_inv]

theorem memN_iff : ∀ {l : List Nat} {k : Nat}, memN l k = false → k ∉ l
  | [], k, _ => by simp
  | x :: l, k, h => by
    unfold memN at h
    split at h
    · cases h
    · rename_i e
      simp only [List.mem_cons, not_or]
      exact ⟨fun e' => e e'.symm, memN_iff h⟩

/-- What a piece leaves alone. -/
theorem Fm.keep {M : Nat → Prop} {z : List Nat} {k : Nat} {v : Value} (hf : Fm M (fun k => k ∈ z) a a' C C' W W') (hz : memN z k = false) (h : a.tmps[k]? = some v) : a'.tmps[k]? = some v := (hf.tm k (memN_iff hz)).trans h

/-- A region in the order of the text, with what is to be collected. -/
theorem pieceD {E : Env} (hX : CtxOK E X) {z : Code} {id : Nat} {ops : Array Oper} {V0 : Nat → Nat → Prop} {io0 : Io} {W0 : World} (hz : z = .region id ops false) (hg : (ops.toList.all fun o => o.guard.isNone) = true) (h : steps X ops.toList ops.toList s = some s') (S : Sim E V0 io0 W0 C s a W) {Q : Exit → Act → World → Prop}
    (hQ : ∀ C' a' W', Sim E V0 io0 W0 C' s' a' W' → a'.defers = a.defers → Q .normal a' W') : z.wpIn (Fr none) 0 E.P Q a W := by
  subst hz
  exact region_textD hX none (fun o ho => by simpa using List.all_eq_true.1 hg o ho) h S hQ

/-! What is answered. -/
def incLast (l : List Int) : List Int := l.dropLast ++ [w64 (l.getLastD 0 + 1)]
def spGo (x : Fi) (n : Int) : List Int → List Int → Int → List Int × Bool
  | [], out, _ => (out, true)
  | k :: r, out, room =>
    if x.2.2.2 < mostI x k n then ([], false)
    else if room < mostI x k n then spGo x n r (incLast (out ++ [0])) (w64 (x.2.2.2 - mostI x k n))
    else spGo x n r (incLast out) (w64 (room - mostI x k n))
def spoolsF (x : Fi) (l : List Int) (n : Int) : List Int × Bool := spGo x n l [] (-1)
def spoolsOK (x : Fi) (l : List Int) (_ : Int) : Bool := decide (l.length ≤ 1000) && l.all (inReels x)

abbrev filmV (x : Fi) : AV := .agg [enc tRF x, .tok 0 tRF x]
noncomputable def run1 (c : Code) (s : St) : St := ((evC X96 0 c s cap).getD (.norm, ⟨[], []⟩)).2
noncomputable def stp (z : Code) (s : St) : St := (steps X96 (opsOf z).toList (opsOf z).toList s).getD ⟨[], []⟩

noncomputable def sA (x : Fi) (l : List Int) (n : Int) : St := st0 Tryd.f96 [filmV x, enc tInts l, .int n]
noncomputable def sA0 (x : Fi) (l : List Int) (n : Int) : St := stp cz0 (sA x l n)
noncomputable def sA1 (x : Fi) (l : List Int) (n : Int) : St := stp cz1 (sA0 x l n)
noncomputable def sA2 (x : Fi) (l : List Int) (n : Int) : St := stp cz2 (sA1 x l n)
noncomputable def sA3 (x : Fi) (l : List Int) (n : Int) : St := stp cz3 (sA2 x l n)
theorem cz0r : cz0 = .region 0 (opsOf cz0) false := by kernel_rfl
theorem cz1r : cz1 = .region 1 (opsOf cz1) false := by kernel_rfl
theorem cz2r : cz2 = .region 2 (opsOf cz2) false := by kernel_rfl
theorem cz3r : cz3 = .region 3 (opsOf cz3) false := by kernel_rfl
theorem sA0_eq (x : Fi) (l : List Int) (n : Int) : steps X96 (opsOf cz0).toList (opsOf cz0).toList (sA x l n) = some (sA0 x l n) := by kernel_rfl
theorem sA1_eq (x : Fi) (l : List Int) (n : Int) : steps X96 (opsOf cz1).toList (opsOf cz1).toList (sA0 x l n) = some (sA1 x l n) := by kernel_rfl
theorem sA2_eq (x : Fi) (l : List Int) (n : Int) : steps X96 (opsOf cz2).toList (opsOf cz2).toList (sA1 x l n) = some (sA2 x l n) := by kernel_rfl
theorem sA3_eq (x : Fi) (l : List Int) (n : Int) : steps X96 (opsOf cz3).toList (opsOf cz3).toList (sA2 x l n) = some (sA3 x l n) := by kernel_rfl
noncomputable def sR (x : Fi) (l : List Int) (n : Int) : St := ⟨frL (sA3 x l n).objs (sA3 x l n).tmps, List.replicate 51 .none⟩
theorem sR_2 (x : Fi) (l : List Int) (n : Int) : (sR x l n).tmps[2]? = some (.int n) := by kernel_rfl
theorem sR_3 (x : Fi) (l : List Int) (n : Int) : (sR x l n).tmps[3]? = some (.cref (filmV x) []) := by kernel_rfl
theorem sR_8 (x : Fi) (l : List Int) (n : Int) : (sR x l n).tmps[8]? = some (.sl .int ⟨true, true, none⟩ []) := by kernel_rfl
theorem sR_9 (x : Fi) (l : List Int) (n : Int) : (sR x l n).tmps[9]? = some (.int (-1)) := by kernel_rfl
theorem sR_13 (x : Fi) (l : List Int) (n : Int) : (sR x l n).tmps[13]? = some (enc tInts l) := by kernel_rfl
theorem sR_14 (x : Fi) (l : List Int) (n : Int) : (sR x l n).tmps[14]? = some (.int l.length) := by kernel_rfl
theorem sR_15 (x : Fi) (l : List Int) (n : Int) : (sR x l n).tmps[15]? = some (.int 0) := by kernel_rfl
theorem sR_len (x : Fi) (l : List Int) (n : Int) : (sR x l n).tmps.length = 51 := by kernel_rfl

/-! One round. -/
noncomputable def hd (x : Fi) (l : List Int) (n i room : Int) : St := frm 51 [(2, .int n), (3, .cref (filmV x) []), (9, .int room), (13, enc tInts l), (14, .int l.length), (15, .int i)]
noncomputable def md (x : Fi) (l : List Int) (n i room w : Int) : St := frm 51 [(2, .int n), (3, .cref (filmV x) []), (9, .int room), (12, .int w), (13, enc tInts l), (14, .int l.length), (15, .int i)]
noncomputable def t4 (x : Fi) (l : List Int) (n i room : Int) : St := run1 cz4 (hd x l n i room)
theorem t4_eq (x : Fi) (l : List Int) (n i room : Int) : evC X96 0 cz4 (hd x l n i room) cap = some (.norm, t4 x l n i room) := by kernel_rfl
theorem t4_c (x : Fi) (l : List Int) (n i room : Int) : (t4 x l n i room).get 16 = .bool (decide (i < l.length)) := by kernel_rfl
theorem t4_n (x : Fi) (l : List Int) (n i room : Int) : noneB (t4 x l n i room) = true := by kernel_rfl
noncomputable def kAt (l : List Int) (i : Int) : Int := l.getD i.toNat (0 : Int)
noncomputable def t5 (x : Fi) (l : List Int) (n i room : Int) : St := (((t4 x l n i room).put (some 17) (.cref (.int (kAt l i)) [])).put (some 18) (.int (kAt l i))).put (some 11) (.int (kAt l i))
theorem t5_eq (x : Fi) (l : List Int) (n i room : Int) : evC X96 0 cz5 (t4 x l n i room) cap = bif decide (0 ≤ i) && decide (i < l.length) then some (.norm, t5 x l n i room) else none := by kernel_rfl
theorem t5_n (x : Fi) (l : List Int) (n i room : Int) : noneB (t5 x l n i room) = true := by kernel_rfl
noncomputable def t6 (x : Fi) (l : List Int) (n i room : Int) : St := ((((((t5 x l n i room).put (some 19) (filmV x)).put (some 20) (.int (kAt l i))).put (some 21) (.int n)).put (some 22) (enc tSpan (wornS x (kAt l i) n))).put (some 23) (.int (mostI x (kAt l i) n))).put (some 12) (.int (mostI x (kAt l i) n))
theorem t6_eq (x : Fi) (l : List Int) (n i room : Int) : evC X96 0 cz6 (t5 x l n i room) cap = bif decide (x = x) && inReels3 x (kAt l i) n then some (.norm, t6 x l n i room) else none := by kernel_rfl
theorem t6_n (x : Fi) (l : List Int) (n i room : Int) : noneB (t6 x l n i room) = true := by kernel_rfl
noncomputable def t7 (x : Fi) (l : List Int) (n i room : Int) : St := run1 cz7 (t6 x l n i room)
theorem t7_eq (x : Fi) (l : List Int) (n i room : Int) : evC X96 0 cz7 (t6 x l n i room) cap = some (.norm, t7 x l n i room) := by kernel_rfl
theorem t7_c (x : Fi) (l : List Int) (n i room : Int) : (t7 x l n i room).get 28 = .bool (decide (x.2.2.2 < mostI x (kAt l i) n)) := by kernel_rfl
theorem t7_n (x : Fi) (l : List Int) (n i room : Int) : noneB (t7 x l n i room) = true := by kernel_rfl
noncomputable def t8 (x : Fi) (l : List Int) (n i room : Int) : St := run1 cz8 (t7 x l n i room)
theorem t8_eq (x : Fi) (l : List Int) (n i room : Int) : evC X96 0 cz8 (t7 x l n i room) cap = some (.ret, t8 x l n i room) := by kernel_rfl
theorem t8_f (x : Fi) (l : List Int) (n i room : Int) : finK X96 Tryd.f96 .ret (t8 x l n i room) = some (.tup [.sl .int ⟨true, true, none⟩ [], .bool false]) := by kernel_rfl
noncomputable def t9 (x : Fi) (l : List Int) (n i room : Int) : St := run1 cz9 (t7 x l n i room)
theorem t9_eq (x : Fi) (l : List Int) (n i room : Int) : evC X96 0 cz9 (t7 x l n i room) cap = some (.norm, t9 x l n i room) := by kernel_rfl
theorem t9_c (x : Fi) (l : List Int) (n i room : Int) : (t9 x l n i room).get 31 = .bool (decide (room < mostI x (kAt l i) n)) := by kernel_rfl
theorem t9_n (x : Fi) (l : List Int) (n i room : Int) : noneB (t9 x l n i room) = true := by kernel_rfl
theorem t9_2 (x : Fi) (l : List Int) (n i room : Int) : (t9 x l n i room).tmps[2]? = some (.int n) := by kernel_rfl
theorem t9_9 (x : Fi) (l : List Int) (n i room : Int) : (t9 x l n i room).tmps[9]? = some (.int room) := by kernel_rfl
theorem t9_12 (x : Fi) (l : List Int) (n i room : Int) : (t9 x l n i room).tmps[12]? = some (.int (mostI x (kAt l i) n)) := by kernel_rfl
theorem t9_14 (x : Fi) (l : List Int) (n i room : Int) : (t9 x l n i room).tmps[14]? = some (.int l.length) := by kernel_rfl
theorem t9_15 (x : Fi) (l : List Int) (n i room : Int) : (t9 x l n i room).tmps[15]? = some (.int i) := by kernel_rfl
theorem t9_len (x : Fi) (l : List Int) (n i room : Int) : (t9 x l n i room).tmps.length = 51 := by kernel_rfl

/-! The drawn region: any order. -/
noncomputable def collectG (md : Region.Mode) (ops : Array Oper) (stp : Nat → Array Bool → St → Option St) (fin : Array Bool → Bool) : Nat → Array Bool → St → Option (List St)
  | 0, listed, s => (match Region.ready md ops listed with | [] => if fin listed = true then some [s] else none | _ => none)
  | fuel + 1, listed, s =>
    match Region.ready md ops listed with
    | [] => if fin listed = true then some [s] else none
    | i :: rs => (i :: rs).foldr (fun i acc =>
      match acc with
      | some L => (match stp i listed s with | some s1 => (match collectG md ops stp fin fuel (listed.setIfInBounds i true) s1 with | some M => some (M ++ L) | none => none) | none => none)
      | none => none) (some [])

theorem fold_collectG {md : Region.Mode} {ops : Array Oper} {stp : Nat → Array Bool → St → Option St} {fin : Array Bool → Bool} {fuel : Nat} {listed : Array Bool} {s : St} : ∀ (rs : List Nat) (L : List St), rs.foldr (fun i acc =>
      match acc with
      | some L => (match stp i listed s with | some s1 => (match collectG md ops stp fin fuel (listed.setIfInBounds i true) s1 with | some M => some (M ++ L) | none => none) | none => none)
      | none => none) (some []) = some L → ∀ i ∈ rs, ∃ s1 M, stp i listed s = some s1 ∧ collectG md ops stp fin fuel (listed.setIfInBounds i true) s1 = some M ∧ ∀ x ∈ M, x ∈ L
  | [], L, h, i, hi => by simp at hi
  | j :: rs, L, h, i, hi => by
    simp only [List.foldr_cons] at h
    split at h
    · rename_i L1 hL
      split at h
      · rename_i s1 hs
        split at h
        · rename_i M hM
          cases h
          rcases List.mem_cons.1 hi with rfl | hi
          · exact ⟨s1, M, hs, hM, fun x hx => List.mem_append_left _ hx⟩
          · obtain ⟨s1', M', q2, q3, q4⟩ := fold_collectG rs L1 hL i hi
            exact ⟨s1', M', q2, q3, fun x hx => List.mem_append_right _ (q4 x hx)⟩
        · cases h
      · cases h
    · cases h

theorem collectG_ok {P : Program} {ro : Option Nat} {md : Region.Mode} {ops : Array Oper} {stp : Nat → Array Bool → St → Option St} {fin : Array Bool → Bool} {Q : Exit → Act → World → Prop} (J : Array Bool → St → Act → World → Prop)
    (hstp : ∀ i listed s s1, stp i listed s = some s1 → ∀ a W, J listed s a W → ∀ K : Act → World → Prop, (∀ a' W', J (listed.setIfInBounds i true) s1 a' W' → K a' W') → wpOpIn (Fr ro) 0 P ops Q i K a W) : ∀ (fuel : Nat) (listed : Array Bool) (s : St) (L : List St), collectG md ops stp fin fuel listed s = some L → ∀ a W, J listed s a W →
    (∀ s' ∈ L, ∀ listed' a' W', fin listed' = true → J listed' s' a' W' → Q .normal a' W') → wpAnyIn (Fr ro) 0 P md ops Q fuel listed a W
  | 0, listed, s, L, hc, a, W, hJ, hQ => by
    unfold collectG at hc
    cases hr : Region.ready md ops listed with
    | nil =>
      rw [hr] at hc
      dsimp only at hc
      split at hc
      · rename_i hf
        cases hc
        exact ⟨hr, hQ s (List.mem_cons_self ..) listed a W hf hJ⟩
      · cases hc
    | cons j rs => rw [hr] at hc; cases hc
  | fuel + 1, listed, s, L, hc, a, W, hJ, hQ => by
    unfold collectG at hc
    cases hr : Region.ready md ops listed with
    | nil =>
      rw [hr] at hc
      dsimp only at hc
      split at hc
      · rename_i hf
        cases hc
        exact ⟨fun _ => hQ s (List.mem_cons_self ..) listed a W hf hJ, fun i hi => by rw [hr] at hi; simp at hi⟩
      · cases hc
    | cons j rs =>
      rw [hr] at hc
      refine ⟨(fun h0 => by rw [hr] at h0; cases h0), fun i hi => ?_⟩
      rw [hr] at hi
      obtain ⟨s1, M, q2, q3, q4⟩ := fold_collectG _ _ hc i hi
      exact hstp i listed s s1 q2 a W hJ _ fun a' W' hJ' => collectG_ok J hstp fuel _ s1 M q3 a' W' hJ' fun s' hs' => hQ s' (q4 s' hs')

noncomputable def dops : Array Oper := opsOf cz10
theorem cz10_eq : cz10 = .region 10 dops true := by kernel_rfl
theorem dops_0 : (dops[0]?).map (fun o => (o.op, o.dst, o.guard)) = some (.move (.tmp 8), some 32, none) := by kernel_rfl
theorem dops_2 : (dops[2]?).map (fun o => (o.op, o.dst, o.guard)) = some (.call { callee := .builtin .append, args := #[.tmp 32, .tmp 33], argTypes := #[27, 27] }, some 34, none) := by kernel_rfl
theorem dops_6 : (dops[6]?).map (fun o => (o.op, o.dst, o.guard)) = some (.assign (.tmp 34), some 8, none) := by kernel_rfl
def offB (d : Option Nat) : Bool := match d with | some d => decide (d ≠ 3) && (decide (d ≠ 8) && (decide (d ≠ 13) && (decide (d ≠ 32) && decide (d ≠ 34)))) | none => false
noncomputable def dstp (i : Nat) (listed : Array Bool) (s : St) : Option St :=
  if i = 0 then some (s.put (some 32) .poison)
  else if i = 2 then (if (listed[0]?.getD false && !(listed[2]?.getD false)) = true ∧ dec tInts (s.get 33) = some [(0 : Int)] then some (s.put (some 34) .poison) else none)
  else if i = 6 then (if listed[2]?.getD false = true then some (s.put (some 8) .poison) else none)
  else match dops[i]? with
    | some o => (match st1 X96 dops.toList s o with | some s1 => if (offB o.dst && noneB s1) = true then some s1 else none | none => none)
    | none => none
def dfin (listed : Array Bool) : Bool := listed[6]?.getD false
noncomputable def dend (x : Fi) (l : List Int) (n i room w : Int) : St := (((((((md x l n i room w).put (some 32) .poison).put (some 33) (.sl .int ⟨true, true, none⟩ [(0 : Int)])).put (some 34) .poison).put (some 35) (.cref (filmV x) [.fld 0 0])).put (some 36) (.cref (filmV x) [.fld 0 0, .fld 3 5])).put (some 37) (.int x.2.2.2)).put (some 9) (.int x.2.2.2)
theorem dend_eq (x : Fi) (l : List Int) (n i room w : Int) : collectG .any dops dstp dfin dops.size (Array.replicate dops.size false) (md x l n i room w) = some (List.replicate 70 (dend x l n i room w)) := by kernel_rfl

theorem put_same (a : Act) (d : Nat) (v : Value) (h : d < a.tmps.size) : (a.put (some d) v).tmps[d]? = some v := by
  simp only [Act.put, Array.getElem?_setIfInBounds]
  rw [if_pos trivial, if_pos h]
theorem put_other (a : Act) {d k : Nat} (v : Value) (h : d ≠ k) : (a.put (some d) v).tmps[k]? = a.tmps[k]? := by
  simp only [Act.put, Array.getElem?_setIfInBounds]
  rw [if_neg h]
theorem put_size (a : Act) (d : Option Nat) (v : Value) : (a.put d v).tmps.size = a.tmps.size := by
  cases d <;> simp [Act.put]
theorem eval_tmp {a : Act} {k : Nat} {v : Value} (h : a.tmps[k]? = some v) : a.eval (.tmp k) = v := by
  simp [Act.eval, Array.getD_eq_getD_getElem?, h]

theorem set_get {l : Array Bool} {i : Nat} (h : i < l.size) (j : Nat) : (l.setIfInBounds i true)[j]?.getD false = if i = j then true else l[j]?.getD false := by
  rw [Array.getElem?_setIfInBounds]
  by_cases e : i = j
  · subst e
    rw [if_pos rfl, if_pos h, if_pos rfl]
    rfl
  · rw [if_neg e, if_neg e]

def JD (V : Nat → Nat → Prop) (io1 : Io) (W1 : World) (v3 v13 : Value) (out : List Int) (listed : Array Bool) (s : St) (a : Act) (W : World) : Prop :=
  ∃ C, Sim Bs.env V io1 W1 C s a W ∧ AllNone s ∧ listed.size = 8 ∧ a.tmps.size = 51 ∧ a.tmps[3]? = some v3 ∧ a.tmps[13]? = some v13 ∧
    (listed[2]?.getD false = false → ∃ v, a.tmps[8]? = some v ∧ OwnI W1.heap.size C W v out ∧ (listed[0]?.getD false = true → a.tmps[32]? = some v) ∧ listed[6]?.getD false = false) ∧
    (listed[2]?.getD false = true → ∃ v, a.tmps[34]? = some v ∧ OwnI W1.heap.size C W v (out ++ [0]) ∧ (listed[6]?.getD false = true → a.tmps[8]? = some v))

theorem noneB_put {s : St} (h : AllNone s) (d : Option Nat) (v : AV) : AllNone (s.put d v) := by
  cases d <;> exact h

theorem elInt : ∃ inf zv, Tryd.prog.info? 3 = some inf ∧ inf.zero = some zv ∧ inf.size = 1 ∧ inf.bytes = 8 ∧ zv.cells.size = 1 ∧ Tryd.prog.underlying 27 = some (.slice 3) := by
  have hT : TblOK Bs TT := chkAll_ok (B := Bs) rfl chkTT
  obtain ⟨hu, hel⟩ := look_el (E := Bs.env) (X := X96) hT (show elOf X96.T 27 = some (.int, 3, 8) by kernel_rfl)
  obtain ⟨inf, zv, g1, g2, g3, g4, g5, g6⟩ := hel.ex
  exact ⟨inf, zv, g1, g4, g2, g3, g5, hu⟩

theorem dstep {V : Nat → Nat → Prop} {io1 : Io} {W1 : World} {v3 v13 : Value} {out : List Int} (hout : out.length ≤ 1000) {Q : Exit → Act → World → Prop} (i : Nat) (listed : Array Bool) (s s1 : St) (h : dstp i listed s = some s1) (a : Act) (W : World) (hJ : JD V io1 W1 v3 v13 out listed s a W) (K : Act → World → Prop) (hK : ∀ a' W', JD V io1 W1 v3 v13 out (listed.setIfInBounds i true) s1 a' W' → K a' W') : wpOpIn (Fr none) 0 Tryd.prog dops Q i K a W := by
  obtain ⟨C, S, hs, hz, hsz, h3, h13, hA, hB⟩ := hJ
  unfold dstp at h
  split at h
  · rename_i e
    subst e
    cases h
    have h0 := dops_0
    cases hq : dops[0]? with
    | none => rw [hq] at h0; cases h0
    | some o =>
      rw [hq] at h0
      simp only [Option.map_some, Option.some.injEq, Prod.mk.injEq] at h0
      obtain ⟨o1, o2, o3⟩ := h0
      refine hand_value hq o3 (v := a.eval (.tmp 8)) (W' := W) (by unfold execOp; rw [o1]; rfl) (hK _ _ ?_)
      rw [o2]
      refine ⟨C, S.put (some 32) (vr_poison _), noneB_put hs _ _, by simpa using hz, by rw [put_size]; exact hsz, by rw [put_other _ _ (by decide)]; exact h3, by rw [put_other _ _ (by decide)]; exact h13, fun hl => ?_, fun hl => ?_⟩
      · rw [set_get (by omega)] at hl
        obtain ⟨v, g1, g2, g3, g4⟩ := hA (by simpa using hl)
        refine ⟨v, by rw [put_other _ _ (by decide)]; exact g1, g2, fun _ => ?_, by rw [set_get (by omega)]; simpa using g4⟩
        rw [put_same _ _ _ (by omega), eval_tmp g1]
      · rw [set_get (by omega)] at hl
        obtain ⟨v, g1, g2, g3⟩ := hB (by simpa using hl)
        refine ⟨v, by rw [put_other _ _ (by decide)]; exact g1, g2, fun h6 => ?_⟩
        rw [set_get (by omega)] at h6
        rw [put_other _ _ (by decide)]
        exact g3 (by simpa using h6)
  · split at h
    · rename_i e
      subst e
      split at h
      · rename_i hc
        cases h
        obtain ⟨hl, hd⟩ := hc
        simp only [Bool.and_eq_true, Bool.not_eq_true'] at hl
        obtain ⟨v, g1, g2, g3, g4⟩ := hA hl.2
        have g3 := g3 hl.1
        have h0 := dops_2
        cases hq : dops[2]? with
        | none => rw [hq] at h0; cases h0
        | some o =>
          rw [hq] at h0
          simp only [Option.map_some, Option.some.injEq, Prod.mk.injEq] at h0
          obtain ⟨o1, o2, o3⟩ := h0
          have hv := vr_wk (S.get 33)
          rw [wk_dec hd] at hv
          obtain ⟨A, c, ev, hr⟩ := VR.sl_inv (E := Bs.env) (t := .int) (f := ⟨false, false, none⟩) (l := [(0 : Int)]) hv
          obtain ⟨q1, q2, _⟩ := rel_row (E := Bs.env) hr
          obtain ⟨ad, ds, e1, e2, e3, e4⟩ := q2 0 0 rfl
          have e2' : ds = [Value.int .i64 0] := e2
          subst e2'
          have hcell := (e4 0 _ rfl).1
          rw [add_zero] at hcell
          simp only [Nat.zero_mul, add_zero] at hcell
          obtain ⟨inf, zv, i1, i2, i3, i4, i5, i6⟩ := elInt
          obtain ⟨v', W', V', hrun, S', hown⟩ := own_append S hs rfl (t := 27) (e := 3) (ty0 := o.type) i6 i1 i2 i3 i4 i5 g2 hcell (by omega)
          refine hand_value hq o3 (v := v') (W' := W') (run_append_call (d := 34) o1 ?_) (hK _ _ ?_)
          · rw [eval_tmp g3, show a.eval (.tmp 33) = .slice (some ad) 1 c from by rw [← e1]; exact ev]
            exact hrun
          · rw [o2]
            refine ⟨_, S'.put (some 34) (vr_poison _), noneB_put hs _ _, by simpa using hz, by rw [put_size]; exact hsz, by rw [put_other _ _ (by decide)]; exact h3, by rw [put_other _ _ (by decide)]; exact h13, fun hl => ?_, fun hl => ?_⟩
            · rw [set_get (by omega)] at hl
              simp at hl
            · refine ⟨v', put_same _ _ _ (by omega), hown, fun h6 => ?_⟩
              rw [set_get (by omega)] at h6
              simp [g4] at h6
      · cases h
    · split at h
      · rename_i e
        subst e
        split at h
        · rename_i hl
          cases h
          obtain ⟨v, g1, g2, g3⟩ := hB hl
          have h0 := dops_6
          cases hq : dops[6]? with
          | none => rw [hq] at h0; cases h0
          | some o =>
            rw [hq] at h0
            simp only [Option.map_some, Option.some.injEq, Prod.mk.injEq] at h0
            obtain ⟨o1, o2, o3⟩ := h0
            refine hand_value hq o3 (v := a.eval (.tmp 34)) (W' := W) (by unfold execOp; rw [o1]; rfl) (hK _ _ ?_)
            rw [o2]
            refine ⟨C, S.put (some 8) (vr_poison _), noneB_put hs _ _, by simpa using hz, by rw [put_size]; exact hsz, by rw [put_other _ _ (by decide)]; exact h3, by rw [put_other _ _ (by decide)]; exact h13, fun hl2 => ?_, fun hl2 => ?_⟩
            · rw [set_get (by omega)] at hl2
              simp [hl] at hl2
            · refine ⟨v, by rw [put_other _ _ (by decide)]; exact g1, g2, fun _ => ?_⟩
              rw [put_same _ _ _ (by omega), eval_tmp g1]
        · cases h
      · rename_i n0 n2 n6
        split at h
        · rename_i o hq
          split at h
          · rename_i s2 hs2
            split at h
            · rename_i hc
              cases h
              simp only [Bool.and_eq_true] at hc
              obtain ⟨hoff, hn⟩ := hc
              refine wpOp_of_step (E := Bs.env) (st1_ok ctx96 hs2) S hq none fun C' a' W' S' hf => hK _ _ ?_
              have hk : ∀ k, k = 3 ∨ k = 8 ∨ k = 13 ∨ k = 32 ∨ k = 34 → a'.tmps[k]? = a.tmps[k]? := fun k hk => hf.tm k fun e => by
                simp only [e, offB, Bool.and_eq_true, decide_eq_true_eq] at hoff
                omega
              have hg : ∀ j, j = 0 ∨ j = 2 ∨ j = 6 → (listed.setIfInBounds i true)[j]?.getD false = listed[j]?.getD false := fun j hj => by
                have : i ≠ j := by omega
                rw [Array.getElem?_setIfInBounds, if_neg this]
              refine ⟨C', S', noneB_ok hn, by simpa using hz, hf.sz.trans hsz, (hk 3 (by omega)).trans h3, (hk 13 (by omega)).trans h13, fun hl => ?_, fun hl => ?_⟩
              · rw [hg 2 (by omega)] at hl
                obtain ⟨v, g1, g2, g3, g4⟩ := hA hl
                exact ⟨v, (hk 8 (by omega)).trans g1, g2.step S hs hf, fun h0 => (hk 32 (by omega)).trans (g3 (by rw [← hg 0 (by omega)]; exact h0)), by rw [hg 6 (by omega)]; exact g4⟩
              · rw [hg 2 (by omega)] at hl
                obtain ⟨v, g1, g2, g3⟩ := hB hl
                exact ⟨v, (hk 34 (by omega)).trans g1, g2.step S hs hf, fun h6 => (hk 8 (by omega)).trans (g3 (by rw [← hg 6 (by omega)]; exact h6))⟩
            · cases h
          · cases h
        · cases h

end Ev
end Go.Proofs.YtidnikjkpbmhhaaDoor
