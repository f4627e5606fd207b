/- What every proof of this seat leans on, part 3. -/
import Derived.Test.YtidnikjkpbmhhaaDoorBaseB
/- A film's memo: what is found in it, and what is noted. -/
set_option linter.unusedVariables false
set_option linter.unusedSimpArgs false
set_option maxRecDepth 4000
namespace Go.Proofs.YtidnikjkpbmhhaaDoor
namespace Ev

def spotV (k : Int) (s : Sp) : Value := .agg #[.int .i64 k, .int .i64 s.1, .int .i64 s.2]
def spanV (s : Sp) : Value := .agg #[.int .i64 s.1, .int .i64 s.2]

theorem equal_spot (k k' : Int) (s s' : Sp) (W : World) : (Op.equal 120 (spotV k s) (spotV k' s')).run Tryd.prog W = .ok (decide (k = k') && (decide (s.1 = s'.1) && (decide (s.2 = s'.2) && true))) W := by
  have h : TiOK Bs 120 ti120 := chkTi_ok rfl chk120
  exact (h.eq (by simp [ti120])).2 [.int .i64 k, .int .i64 s.1, .int .i64 s.2] [.int .i64 k', .int .i64 s'.1, .int .i64 s'.2] _ W rfl rfl rfl

theorem find_asking (k : Int) (s : Sp) (x : tRF.den) (W : World) : ∀ (es : List MapEntry) (i : Nat),
    (∀ e ∈ es, ∃ (k : Int) (s : Sp), 0 ≤ k ∧ k < x.1.length ∧ e.key = spotV k s ∧ e.val = spanV (lastF x (k, s))) →
    ∃ res, (Instr.findAsking 120 (spotV k s) es i).run Tryd.prog W = .ok res W ∧ (res = none ∨ ∃ j e, res = some (i + j, spanV (lastF x (k, s))) ∧ es[j]? = some e ∧ e.key = spotV k s)
  | [], i, _ => ⟨none, by simp [Instr.findAsking], .inl rfl⟩
  | e :: es, i, h => by
    obtain ⟨k', s', h0, h1, hk, hv⟩ := h e (List.mem_cons_self ..)
    have he := equal_spot k k' s s' W
    simp only [Instr.findAsking, Sem.run_bind, hk, he, Result.andThen_ok]
    by_cases hb : (decide (k = k') && (decide (s.1 = s'.1) && (decide (s.2 = s'.2) && true))) = true
    · rw [if_pos hb]
      simp only [Bool.and_eq_true, decide_eq_true_eq, and_true] at hb
      obtain ⟨h1', h2, h3⟩ := hb
      have h4 : s = s' := Prod.ext h2 h3
      subst h1' h4
      exact ⟨some (i, e.val), by simp only [Sem.run_pure], .inr ⟨0, e, by rw [hv, Nat.add_zero], by simp, hk⟩⟩
    · rw [if_neg hb]
      obtain ⟨res, q1, q2⟩ := find_asking k s x W es (i + 1) fun e he => h e (List.mem_cons_of_mem _ he)
      refine ⟨res, q1, q2.imp id ?_⟩
      rintro ⟨j, e', q3, q4, q5⟩
      exact ⟨j + 1, e', by rw [q3, show i + 1 + j = i + (j + 1) by omega], by simpa using q4, q5⟩

theorem find_key (k : Int) (s : Sp) (x : tRF.den) (W : World) (es : List MapEntry) (h : ∀ e ∈ es, ∃ (k : Int) (s : Sp), 0 ≤ k ∧ k < x.1.length ∧ e.key = spotV k s ∧ e.val = spanV (lastF x (k, s))) :
    ∃ res, (Instr.findKey 120 (spotV k s) es).run Tryd.prog W = .ok res W ∧ (res = none ∨ ∃ j e, res = some (j, spanV (lastF x (k, s))) ∧ es[j]? = some e ∧ e.key = spotV k s) := by
  have hu : ∃ fs, Tryd.prog.underlying 120 = some (.struct fs) := ⟨_, Tryd.underlying120⟩
  obtain ⟨fs, hu⟩ := hu
  unfold Instr.findKey
  simp only [Sem.run_bind, run_underlying hu, Result.andThen_ok]
  cases es with
  | nil => exact ⟨none, by simp [Instr.findNow], .inl rfl⟩
  | cons e es =>
    have : Instr.findNow (.struct fs) (spotV k s) (e :: es) 0 = none := by simp [Instr.findNow, Instr.sameNow]
    rw [this]
    obtain ⟨res, q1, q2⟩ := find_asking k s x W (e :: es) 0 h
    refine ⟨res, q1, q2.imp id ?_⟩
    rintro ⟨j, e', q3, q4, q5⟩
    exact ⟨j, e', by rw [q3, Nat.zero_add], q4, q5⟩

/-! A key is one. -/

theorem check_int (em : Bool) (n : Nat) (a : Int) (W : World) : (Instr.checkKey em (n + 1) 3 (.int .i64 a)).run Tryd.prog W = .ok () W := by
  simp [Instr.checkKey, run_underlying Tryd.underlying3]
theorem part_int {cs : List Value} {off : Nat} {a : Int} (h : cs[off]? = some (.int .i64 a)) (W : World) : (part 3 cs.toArray off).run Tryd.prog W = .ok (.int .i64 a) W := by
  obtain ⟨i3, hi3, hs3⟩ := (chkTi_ok (B := Bs) rfl chk3).sz
  have hs3 : i3.size = 1 := hs3
  have hlt := (List.getElem?_eq_some_iff.1 h).1
  have := part_run (P := Tryd.prog) (t := 3) (cs := cs) (off := off) Tryd.underlying3 hi3 (by omega) (fun _ => hs3) W
  rw [this, hs3]
  congr 1
  rw [List.drop_eq_getElem_cons hlt]
  have e : cs[off] = .int .i64 a := by simpa [List.getElem?_eq_getElem hlt] using h
  simp [valT, Tryd.underlying3, isAggD, e]
theorem check_span (em : Bool) (n : Nat) (s : Sp) (W : World) : (Instr.checkKey em (n + 2) 24 (spanV s)).run Tryd.prog W = .ok () W := by
  have p1 := part_int (cs := [.int .i64 s.1, .int .i64 s.2]) (off := 0) rfl W
  have p2 := part_int (cs := [.int .i64 s.1, .int .i64 s.2]) (off := 1) rfl W
  have c1 := check_int em n s.1 W
  have c2 := check_int em n s.2 W
  rw [show n + 2 = (n + 1) + 1 from rfl, Instr.checkKey]
  simp only [Sem.run_bind, run_underlying Tryd.underlying24, Result.andThen_ok, spanV]
  simp [← Array.forIn_toList, p1, p2, c1, c2]
theorem check_spot (em : Bool) (n : Nat) (k : Int) (s : Sp) (W : World) : (Instr.checkKey em (n + 3) 120 (spotV k s)).run Tryd.prog W = .ok () W := by
  have p1 := part_int (cs := [.int .i64 k, .int .i64 s.1, .int .i64 s.2]) (off := 0) rfl W
  obtain ⟨i, hi, hs⟩ := (chkTi_ok (B := Bs) rfl chk24).sz
  have hs : i.size = 2 := hs
  have p2 := part_run (P := Tryd.prog) (t := 24) (cs := [.int .i64 k, .int .i64 s.1, .int .i64 s.2]) (off := 1) Tryd.underlying24 hi (by simp [hs]) (fun h => nomatch h) W
  have e : valT Tryd.prog 24 (([.int .i64 k, .int .i64 s.1, .int .i64 s.2] : List Value).drop 1 |>.take i.size) = spanV s := by
    rw [hs]
    simp [valT, Tryd.underlying24, isAggD, spanV]
  rw [e] at p2
  have c1 := check_int em (n + 1) k W
  have c2 := check_span em n s W
  rw [show n + 3 = (n + 2) + 1 from rfl, Instr.checkKey]
  simp only [Sem.run_bind, run_underlying Tryd.underlying120, Result.andThen_ok, spotV]
  simp [← Array.forIn_toList, p1, p2, c1, c2]

theorem entries_of {x : tRF.den} {es : Array MapEntry} (h : MIr tRF x es) : ∀ e ∈ es.toList, ∃ (k : Int) (s : Sp), 0 ≤ k ∧ k < x.1.length ∧ e.key = spotV k s ∧ e.val = spanV (lastF x (k, s)) := by
  obtain ⟨x', e1, h⟩ := h
  cases e1
  exact h

theorem zero_span (W : World) : (zeroValue 24).run Tryd.prog W = .ok (spanV (0, 0)) W := by
  obtain ⟨inf, v, h1, h2, _, _, _, h3⟩ := (chkTi_ok (B := Bs) rfl chk24).zero _ rfl
  have h := run_zeroValue' (E := Bs.env) h1 h2 W
  obtain ⟨cs, _, h4, h5⟩ := h3 (baseCx (fun _ _ => True) fun _ => none) W
  simp only [Rel, RelL] at h4
  obtain ⟨c, d, rfl, _, rfl, c2, d2, rfl, _, rfl, rfl⟩ := h4
  rw [h5] at h
  exact h

/-- What is looked up in a film's memo: what was noted, or nothing. -/
theorem look_spot {b : Nat} {x : tRF.den} {es : Array MapEntry} {ck : Nat} {W : World} (hb : W.heap[b]? = some (.map es ck)) (hm : MIr tRF x es) (k : Int) (s : Sp) :
    ∃ (q : Sp) (ok : Bool), (Instr.lookup 80 (.map (some b)) (spotV k s) true).run Tryd.prog W = .ok (.tuple #[spanV q, .bool ok]) W ∧ (ok = true → q = lastF x (k, s)) ∧ (ok = false → q = (0, 0)) := by
  obtain ⟨res, h1, h2⟩ := find_key k s x W es.toList (entries_of hm)
  have hg : (getObj b).run Tryd.prog W = .ok (.map es ck) W := by simp [getObj, Sem.run, hb]
  have hc := check_spot es.isEmpty 9997 k s W
  have hz := zero_span W
  rcases h2 with rfl | ⟨j, e, rfl, _, _⟩
  · refine ⟨(0, 0), false, ?_, (fun h => nomatch h), fun _ => rfl⟩
    simp [Instr.lookup, run_underlying Tryd.underlying80, hg, hc, h1, hz]
  · refine ⟨_, true, ?_, fun _ => rfl, (fun h => nomatch h)⟩
    simp [Instr.lookup, run_underlying Tryd.underlying80, hg, hc, h1]


theorem same_bits (n : Nat) (k : Int) (s : Sp) : Instr.sameBits (n + 1) (spotV k s) (spotV k s) = true := by
  simp [Instr.sameBits, spotV]

/-- What is noted in a film's memo. -/
theorem note_spot {b : Nat} {x : tRF.den} {es : Array MapEntry} {ck : Nat} {W : World} (hb : W.heap[b]? = some (.map es ck)) (hm : MIr tRF x es) {k : Int} {s : Sp} (h0 : 0 ≤ k) (h1 : k < x.1.length) :
    ∃ es' ck', (Instr.mapUpdate 80 (.map (some b)) (spotV k s) (spanV (lastF x (k, s)))).run Tryd.prog W = .ok () (W.putObj b (.map es' ck')) ∧ MIr tRF x es' := by
  obtain ⟨res, q1, q2⟩ := find_key k s x W es.toList (entries_of hm)
  have hg : (getObj b).run Tryd.prog W = .ok (.map es ck) W := by simp [getObj, Sem.run, hb]
  have hs : ∀ o, (setObj b o).run Tryd.prog W = .ok () (W.putObj b o) := fun o => by simp [setObj, Sem.run, hb, World.putObj]
  have hc := check_spot false 9997 k s W
  have hall := entries_of hm
  rcases q2 with rfl | ⟨j, e, rfl, he, hk⟩
  · refine ⟨es.push { key := spotV k s, val := spanV (lastF x (k, s)), born := ck }, ck + 1, ?_, x, rfl, fun e he => ?_⟩
    · simp [Instr.mapUpdate, run_underlying Tryd.underlying80, hg, hc, q1, hs]
    · simp only [Array.toList_push, List.mem_append, List.mem_singleton] at he
      rcases he with he | rfl
      · exact hall e he
      · exact ⟨k, s, h0, h1, rfl, rfl⟩
  · have hst : (Instr.keyThatStays (((es[j]?).map (·.key)).getD (spotV k s)) (spotV k s)).run Tryd.prog W = .ok (spotV k s) W := by
      have : es[j]? = some e := by simpa using he
      rw [this]
      simp only [Option.map_some, Option.getD_some, hk]
      unfold Instr.keyThatStays
      rw [if_pos (same_bits 9999 k s)]
      simp
    refine ⟨es.modify j fun e => { e with key := spotV k s, val := spanV (lastF x (k, s)) }, ck, ?_, x, rfl, fun e' he' => ?_⟩
    · simp only [Instr.mapUpdate, run_underlying Tryd.underlying80, hg, hc, q1, hs, Sem.run_bind, Result.andThen_ok, hst]
    · obtain ⟨i, hi⟩ := List.mem_iff_getElem?.1 he'
      rw [Array.getElem?_toList, Array.getElem?_modify] at hi
      split at hi
      · cases hq : es[i]? with
        | none => rw [hq] at hi; cases hi
        | some e0 =>
          rw [hq] at hi
          simp only [Option.map_some, Option.some.injEq] at hi
          subst hi
          exact ⟨k, s, h0, h1, rfl, rfl⟩
      · exact hall e' (List.mem_of_getElem? (by simpa using hi))


/-- What may be noted: of a reel of the film, and a span, with which scenes it can end. -/
def upM : Nat × ((t : Ty) → t.den → AV → AV → Bool) := (80, fun t d k v =>
  match castD tRF t d, dec tSpot k, dec tSpan v with
  | some x, some p, some q => decide (0 ≤ p.1) && (decide (p.1 < (x.1.length : Int)) && decide (q = lastF x p))
  | _, _, _ => false)

theorem vr_spot {C : Cx} {W : World} {k : AV} {p : tSpot.den} {kv : Value} (hd : dec tSpot k = some p) (h : VR TRr C W k kv) : kv = spotV p.1 p.2 := by
  have hk := wk_dec hd
  rcases vr_wk h with h | ⟨cs, h1, h2, h3⟩
  · rw [hk] at h; cases h
  · rw [hk] at h2 h3
    simp only [enc, encT, Rel, RelL] at h2
    obtain ⟨c, d, rfl, _, rfl, c2, d2, rfl, _, ⟨c3, d3, rfl, _, rfl, c4, d4, rfl, _, rfl, rfl⟩, rfl⟩ := h2
    exact h3
theorem vr_span {C : Cx} {W : World} {k : AV} {p : tSpan.den} {kv : Value} (hd : dec tSpan k = some p) (h : VR TRr C W k kv) : kv = spanV p := by
  have hk := wk_dec hd
  rcases vr_wk h with h | ⟨cs, h1, h2, h3⟩
  · rw [hk] at h; cases h
  · rw [hk] at h2 h3
    simp only [enc, encT, Rel, RelL] at h2
    obtain ⟨c3, d3, rfl, _, rfl, c4, d4, rfl, _, rfl, rfl⟩ := h2
    exact h3

theorem upM_ok : ∀ V io W t d mv k v kv vv, BaseOK Bs V io W → TRr 0 t d V io W mv → VR TRr (baseCx V io) W k kv → VR TRr (baseCx V io) W v vv → upM.2 t d k v = true →
    ∃ W', (Instr.mapUpdate upM.1 mv kv vv).run Tryd.prog W = .ok () W' ∧ Keep noM io io W W' ∧ IoOK MIr io W' := by
  intro V io W t d mv k v kv vv hb ht hk hv hu
  simp only [upM] at hu
  split at hu
  · rename_i x p q h1 h2 h3
    simp only [Bool.and_eq_true, decide_eq_true_eq] at hu
    obtain ⟨u1, u2, rfl⟩ := hu
    have e1 := castD_eq h1
    cases e1
    rw [vr_spot h2 hk, vr_span h3 hv]
    have ht' : memoV io W ⟨tRF, x⟩ mv := ht
    rcases ht' with ⟨b, rfl, hlt, hio⟩ | ⟨_, e⟩
    · obtain ⟨es, ck, g1, g2⟩ := hb.iok b tRF x hio
      obtain ⟨es', ck', q1, q2⟩ := note_spot g1 g2 (k := p.1) (s := p.2) u1 u2
      refine ⟨_, q1, ⟨rfl, rfl, rfl, by simp, fun j _ hj _ => World.putObj_heap_other (fun e => by rw [e, hio] at hj; exact nomatch hj), fun _ _ => rfl⟩, fun b' t' d' hb' => ?_⟩
      by_cases e : b' = b
      · subst e
        rw [hio] at hb'
        cases hb'
        exact ⟨es', ck', World.putObj_heap_same hlt, q2⟩
      · obtain ⟨es2, ck2, k1, k2⟩ := hb.iok b' t' d' hb'
        exact ⟨es2, ck2, (World.putObj_heap_other e).trans k1, k2⟩
    · cases e
      have : (zRF.1.length : Int) = 0 := rfl
      exact absurd u2 (by rw [this]; exact Int.not_lt.2 u1)
  · cases hu

end Ev
end Go.Proofs.YtidnikjkpbmhhaaDoor
/- Functions that are walked by hand, in part: from one walk's end to the next one's start; cells of a block of ours are written. -/
set_option linter.unusedVariables false
namespace Go.Proofs.YtidnikjkpbmhhaaDoor
namespace Ev

variable {B : Base} {V0 : Nat → Nat → Prop} {io0 : Io} {W0 : World} {C : Cx} {s s' s1 : St} {a : Act} {W : World} {X : Ctx}

/-- What a walk by hand of the body answers, the call returns. -/
theorem ctr_hand {f : Nat} {fn : Func} {c : Code} (hf : B.P.funcs[f]? = some fn) (hc : fn.body = some c) {g : List AV → Option (Bool × AV)}
    (hg : ∀ args r, g args = some (true, r) → ∀ V io W vs a, a.defers = [] → BaseOK B V io W → RelV B.TR (baseCx V io) W (wkL args) vs → Sim B.env V io W (baseCx V io) (st0 fn (wkL args)) a W →
      ∃ X r0, CtxOK B.env X ∧ wkAV r0 = r ∧ ∀ Q : Exit → Act → World → Prop, (∀ e s, finK X fn e s = some r0 → ∀ W1 io1, Keep noM io io1 W W1 → ∀ C a' W', Sim B.env V io1 W1 C s a' W' → Q (toExit e) a' W') → c.wpIn (Fr none) 0 B.P Q a W) : Ctr B f g := by
  intro V io W args vs r hb hr h
  replace hr := wkV_rel hr
  have S0 := st0_sim (E := B.env) hb hr fn (Nat.zero_le _) fun b hm => hm.elim
  obtain ⟨X, r0, hX, hr0, hw⟩ := hg args r h V io W vs _ rfl hb hr S0
  refine calls_of_fr (ro := none) (callsIn_of_wp_marks (F := Fr none) hf hc trivial ?_)
  refine hw _ ?_
  intro e s he W1 io1 hk C a W' S
  have fin : resAV X fn s = some r0 → LeavesInM (Fr none) 0 B.P fn a.tmps (fun e W' => ∃ v io', e = .returned v ∧ VR B.TR (baseCx V io') W' r v ∧ Keep noM io io' W W' ∧ IoOK B.MI io' W') a.defers .returning W' := fun hr =>
    leave_ok S fun a' W'' ht S' => by
      obtain ⟨v, hv, hvr⟩ := resAV_ok hX S' hr
      exact ⟨v, hv, v, C.io, rfl, hr0 ▸ vr_wk hvr, hk.trans S'.kp, S'.iok⟩
  cases e with
  | norm => exact fin he
  | ret => exact fin he
  | exit j => cases he

/-- A contract, argument by argument. -/
theorem ctr_of_each {f : Nat} {g : List AV → Option (Bool × AV)} (h : ∀ args r, g args = some (true, r) → ∃ g', Ctr B f g' ∧ g' args = some (true, r)) : Ctr B f g := fun V io W args vs r hb hr hg => by
  obtain ⟨g', h1, h2⟩ := h args r hg
  exact h1 V io W args vs r hb hr h2

/-- No objects yet. -/
theorem sim_base {V : Nat → Nat → Prop} {io : Io} (hb : BaseOK B V io W) (hl : a.tmps.size = s.tmps.length) (ht : ∀ (t : Nat) (x : AV), s.tmps[t]? = some x → ∃ v, a.tmps[t]? = some v ∧ VR B.TR (baseCx V io) W x v) (hd : a.defers = []) (ho : ∀ (k : Nat) (x : Ob), s.objs[k]? = some x → x = Ob.none) : Sim B.env V io W (baseCx V io) s a W := by
  refine ⟨hl, ht, hd ▸ DfOK.nil _ _, ?_, ?_, ?_, ?_, ?_, ?_, ?_, fun b o h => .inl h, fun b o h => h, hb.iok, hb.gl, Keep.refl _ _ _, hb.old, Nat.zero_le _, (fun b hm => hm.elim), fun k x y tr _ h => nomatch ho k _ h⟩
  · intro k v h
    exact nomatch ho k _ h
  · intro k b h
    cases h
  · intro k k' b h
    cases h
  · intro k b o h
    cases h
  · intro k v al
    exact ⟨(fun h => nomatch h), fun h => nomatch ho k _ h⟩
  · intro k v b lo hi o h
    cases h
  · intro k k' v v' b lo hi lo' hi' o h
    cases h

theorem frL_get (obs : List Ob) : ∀ (l : List AV) (t : Nat), (frL obs l)[t]? = (l[t]?).map (frAV obs)
  | [], t => by simp [frL]
  | v :: l, 0 => by simp [frL]
  | v :: l, t + 1 => by simpa [frL] using frL_get obs l t
theorem frL_len (obs : List Ob) : ∀ l : List AV, (frL obs l).length = l.length
  | [] => rfl
  | v :: l => by simp only [frL, List.length_cons, frL_len obs l]

/-- A walk begins anew: boxes are memory like any other. -/
theorem Sim.rebase (S : Sim B.env V0 io0 W0 C s a W) (hd : a.defers = []) {m : Nat} : Sim B.env V0 C.io W (baseCx V0 C.io) ⟨frL s.objs s.tmps, List.replicate m .none⟩ a W ∧ BaseOK B V0 C.io W ∧ Keep noM io0 C.io W0 W := by
  have hb : BaseOK B V0 C.io W := ⟨fun b o h => Nat.lt_of_lt_of_le (S.old0 b o h) S.kp.size, S.iok, fun g v h => Rel.mono B.hT (CxLe.back S) (S.gl g v h)⟩
  refine ⟨sim_base hb (by rw [S.len]; exact (frL_len _ _).symm) (fun t x hx => ?_) hd fun k x h => List.eq_of_mem_replicate (List.mem_of_getElem? h), hb, S.kp⟩
  have hx' : (s.tmps[t]?).map (frAV s.objs) = some x := by rw [← frL_get]; exact hx
  cases hq : s.tmps[t]? with
  | none => rw [hq] at hx'; cases hx'
  | some y =>
    rw [hq] at hx'
    cases hx'
    obtain ⟨v, h1, h2⟩ := S.tm t y hq
    exact ⟨v, h1, vr_fr S h2⟩

/-- What held at the start holds. -/
theorem Sim.le0 (hb : BaseOK B V0 io0 W0) (S : Sim B.env V0 io0 W0 C s a W) : CxLe (baseCx V0 io0) C W0 W := by
  refine ⟨⟨fun x v hx hv => ?_, fun b o hb h => (S.Vn b o h).resolve_right fun h => absurd h.1 (Nat.not_le_of_lt hb)⟩, (fun _ _ h => by cases h), (fun _ _ _ h => by cases h), S.kp.io, S.kp.size⟩
  obtain ⟨cs, ty, fr, h1, _⟩ := cells_of_cell hx
  exact (cell_of_block (S.kp.block _ (Array.getElem?_eq_some_iff.1 h1).1 (Cell.io_none hb.iok h1 (fun _ _ h => nomatch h)) fun e => e)).trans hx

/-- A block of ours is written, and each slot is told anew. -/
theorem Sim.poke (hb0 : BaseOK B V0 io0 W0) (S : Sim B.env V0 io0 W0 C s a W) {b : Nat} {cs cs' : Array Value} {ty : TypeId} (hb : W0.heap.size ≤ b) (hc : W.heap[b]? = some (.cells cs ty (0, 0))) (hz : cs'.size = cs.size)
    {a' : Act} (hd : a'.defers = a.defers) (hl : a'.tmps.size = s'.tmps.length) (ho : s'.objs = s.objs) (hno : ∀ (k : Nat) (v : AV), s.objs[k]? = some (.box v) → ∀ ds, Rel B.TR C W v ds → Rel B.TR C (W.setRow b cs') v ds) (hnb : ∀ k, C.box k ≠ some b)
    (ht : CxLe (baseCx V0 io0) C W0 (W.setRow b cs') → ∀ (t : Nat) (x : AV), s'.tmps[t]? = some x → ∃ v, a'.tmps[t]? = some v ∧ VR B.TR C (W.setRow b cs') x v) :
    Sim B.env V0 io0 W0 C s' a' (W.setRow b cs') := by
  have hnew : (W.setRow b cs').heap[b]? = some (.cells cs' ty (0, 0)) := setRow_heap W b cs _ ty _ hc
  have hoth : ∀ j, j ≠ b → (W.setRow b cs').heap[j]? = W.heap[j]? := fun j hj => setRow_other W b j _ hj
  have hsize : (W.setRow b cs').heap.size = W.heap.size := by simp
  have hws : Wst W0.heap.size W (W.setRow b cs') := Wst.of_block hb (fun x e => by rw [hc] at e; cases e) rfl rfl rfl hsize hoth
  have hio' : IoOK B.MI C.io (W.setRow b cs') := fun b1 t d h => by
    obtain ⟨es, ck, h1, h2⟩ := S.iok b1 t d h
    exact ⟨es, ck, (hoth b1 fun e => by rw [e, hc] at h1; cases h1).trans h1, h2⟩
  have hle : CxLe (baseCx V0 io0) C W0 (W.setRow b cs') := by
    have h0 := S.le0 hb0
    refine ⟨⟨fun x v hx hv => ?_, h0.st.vol⟩, h0.box, h0.lv, h0.io, by rw [hsize]; exact h0.size⟩
    have hlt := World.block_lt_of_cell? W0 x hx
    exact (cell_of_block (hoth x.block (by omega))).trans (h0.st.cell x v hx hv)
  refine ⟨hl, ht hle, hd ▸ S.dfs hws, ?_, ?_, S.inj, S.bxV, ?_, ?_, S.tld, ?_, S.V0V, hio', ?_, S.kp.step hws, S.old0, S.n0, S.hM, ?_⟩
  · intro k v h
    rw [ho] at h
    obtain ⟨b1, ds, ty1, h1, h2, h3, h4, h5⟩ := S.bx k v h
    exact ⟨b1, ds, ty1, h1, (hoth b1 fun e => hnb k (e ▸ h1)).trans h2, h3, hno k v h _ h4, h5⟩
  · intro k b1 h
    rw [ho]
    exact S.bxn k b1 h
  · intro k v al
    rw [ho]
    exact S.ln k v al
  · intro k v b1 lo hi o h1 h2 h3 h4
    obtain ⟨g1, g2, g3, cs1, ty1, g4, g5⟩ := S.tl k v b1 lo hi o h1 h2 h3 h4
    refine ⟨g1, g2, g3, ?_⟩
    by_cases e : b1 = b
    · subst e
      rw [hc] at g4
      cases g4
      exact ⟨cs', ty, hnew, by rw [hz]; exact g5⟩
    · exact ⟨cs1, ty1, (hoth b1 e).trans g4, g5⟩
  · intro b1 o h
    exact (S.Vn b1 o h).imp id fun h => ⟨h.1, by rw [hsize]; exact h.2⟩
  · intro g v h
    exact Rel.mono B.hT (C := baseCx V0 io0) (C' := baseCx C.V C.io) ⟨hle.st, (fun _ _ h => by cases h), (fun _ _ _ h => by cases h), hle.io, hle.size⟩ (hb0.gl g v h)
  · intro k x y tr h1 h2
    trivial

/-- In the order of the text; what is to be collected stays. -/
theorem wpOps_stepsD {E : Env} {V0 : Nat → Nat → Prop} {io0 : Io} {W0 : World} (hX : CtxOK E X) (ro : Option Nat) {ops : Array Oper} {Q : Exit → Act → World → Prop} : ∀ (l : List Oper) (k : Nat) (s s' : St) (C : Cx) (a : Act) (W : World), (∀ o ∈ l, o.guard = none) → (∀ j, l[j]? = ops[k + j]?) → steps X ops.toList l s = some s' → Sim E V0 io0 W0 C s a W →
    (∀ C' a' W', Sim E V0 io0 W0 C' s' a' W' → a'.defers = a.defers → Q .normal a' W') → wpOpsIn (Fr ro) 0 E.P ops Q (List.range' k l.length) a W
  | [], k, s, s', C, a, W, hgd, hl, h, S, hn => by
    simp only [steps] at h
    cases h
    simp only [List.length_nil, List.range'_zero, wpOpsIn]
    exact hn _ _ _ S rfl
  | o :: l, k, s, s', C, a, W, hgd, hl, h, S, hn => by
    simp only [steps] at h
    split at h
    · rename_i s1 hs1
      have h0 : ops[k]? = some o := by simpa using (hl 0).symm
      simp only [List.length_cons, List.range'_succ]
      rw [wpOpsIn_cons]
      have hg := hgd o (List.mem_cons_self ..)
      have hw : Region.wanted o (yielded ops a.tmps) = true := by simp [Region.wanted, hg]
      unfold wpOpIn
      simp only [h0, hw, if_true]
      unfold st1 wantA at hs1
      rw [hg] at hs1
      dsimp only at hs1
      split at hs1
      · rename_i v obs hv
        cases hs1
        exact valA_ok hX S hv ro _ _ fun C' a' W' S' hle ha hk => wpOps_stepsD hX ro l (k + 1) _ s' C' a' W' (fun o ho => hgd o (List.mem_cons_of_mem _ ho)) (fun j => by have := hl (j + 1); simpa [Nat.add_assoc, Nat.add_comm 1 j] using this) h S' fun C2 a2 W2 S2 hd2 => hn C2 a2 W2 S2 (hd2.trans ha.2.2)
      · cases hs1
    · cases h

theorem region_textD {E : Env} {V0 : Nat → Nat → Prop} {io0 : Io} {W0 : World} (hX : CtxOK E X) (ro : Option Nat) {ops : Array Oper} {id : Nat} {s' : St} {Q : Exit → Act → World → Prop} (hgd : ∀ o ∈ ops.toList, o.guard = none) (h : steps X ops.toList ops.toList s = some s') (S : Sim E V0 io0 W0 C s a W) (hn : ∀ C' a' W', Sim E V0 io0 W0 C' s' a' W' → a'.defers = a.defers → Q .normal a' W') :
    (Code.region id ops false).wpIn (Fr ro) 0 E.P Q a W := by
  refine wpIn_region ?_
  have := wpOps_stepsD hX ro (Q := Q) ops.toList 0 s s' C a W hgd (by simp) h S hn
  rw [List.range_eq_range']
  simpa using this

/-! Walks by hand. -/
def cap (e : Ex) (s : St) : Option (Ex × St) := some (e, s)
/-- A piece of the code, as the evaluator walks it. -/
theorem piece {E : Env} {V0 : Nat → Nat → Prop} {io0 : Io} {W0 : World} (hX : CtxOK E X) (N : Nat) {c : Code} {e : Ex} (h : evC X N c s cap = some (e, s')) (S : Sim E V0 io0 W0 C s a W) {Q : Exit → Act → World → Prop}
    (hQ : ∀ C' a' W', Sim E V0 io0 W0 C' s' a' W' → Fm E.M (fun k => k ∈ dsts c) a a' C C' W W' → Q (toExit e) a' W') : c.wpIn (Fr none) 0 E.P Q a W :=
  evC_ok hX N c none (.inl rfl) (D := fun k => k ∈ dsts c) (fun _ h => h) cap (e, s') Q (fun e' s1 he C' a' W' S' hf => by
    cases he
    exact hQ C' a' W' S' hf) s C a W h S (Fm.refl _ _ _ _ _)

/-- In the order of the text, up to a place; what is turned. -/
theorem wpOps_stepsF {E : Env} {V0 : Nat → Nat → Prop} {io0 : Io} {W0 : World} (hX : CtxOK E X) (ro : Option Nat) {D : Nat → Prop} {a0 : Act} {C0 : Cx} {Wa : World} {ops : Array Oper} {Q : Exit → Act → World → Prop} {rest : List Nat} : ∀ (l : List Oper) (k : Nat) (s s' : St) (C : Cx) (a : Act) (W : World), (∀ j, j < l.length → l[j]? = ops[k + j]?) → steps X ops.toList l s = some s' → Sim E V0 io0 W0 C s a W → (∀ o ∈ l, ∀ k, o.dst = some k → D k) → Fm E.M D a0 a C0 C Wa W →
    (∀ C' a' W', Sim E V0 io0 W0 C' s' a' W' → Fm E.M D a0 a' C0 C' Wa W' → wpOpsIn (Fr ro) 0 E.P ops Q rest a' W') → wpOpsIn (Fr ro) 0 E.P ops Q (List.range' k l.length ++ rest) a W
  | [], k, s, s', C, a, W, hl, h, S, hD, hF, hn => by
    simp only [steps] at h
    cases h
    simpa using hn _ _ _ S hF
  | o :: l, k, s, s', C, a, W, hl, h, S, hD, hF, hn => by
    simp only [steps] at h
    split at h
    · rename_i s1 hs1
      have h0 : ops[k]? = some o := by simpa using (hl 0 (by simp)).symm
      simp only [List.length_cons, List.range'_succ, List.cons_append]
      rw [wpOpsIn_cons]
      refine wpOp_of_step (st1_ok hX hs1) S h0 ro fun C' a' W' S' hf => ?_
      exact wpOps_stepsF hX ro l (k + 1) s1 s' C' a' W' (fun j hj => by have := hl (j + 1) (by simpa using hj); simpa [Nat.add_assoc, Nat.add_comm 1 j] using this) h S' (fun o ho => hD o (List.mem_cons_of_mem _ ho)) (hF.trans (hf.mono (hD o (List.mem_cons_self ..)))) hn
    · cases h

theorem hand_value {P : Program} {ro : Option Nat} {ops : Array Oper} {i : Nat} {o : Oper} (hi : ops[i]? = some o) (hg : o.guard = none) {v : Value} {W' : World} (hr : (execOp a.eval o).run P W = .ok (.value v) W') {Q : Exit → Act → World → Prop} {K : Act → World → Prop} (hK : K (a.put o.dst v) W') : wpOpIn (Fr ro) 0 P ops Q i K a W := by
  unfold wpOpIn
  simp only [hi]
  have hw : Region.wanted o (yielded ops a.tmps) = true := by simp [Region.wanted, hg]
  rw [if_pos hw]
  refine ⟨fun _ _ => trivial, ?_⟩
  rw [semAt_fr _ hr (fun _ h => nomatch h), hr, Oper.uponIn_value]
  exact hK
theorem hand_skip {P : Program} {ro : Option Nat} {ops : Array Oper} {i : Nat} {o : Oper} (hi : ops[i]? = some o) (hg : o.guard = none) {W' : World} (hr : (execOp a.eval o).run P W = .ok .skip W') {Q : Exit → Act → World → Prop} {K : Act → World → Prop} (hK : K (a.put o.dst undef) W') : wpOpIn (Fr ro) 0 P ops Q i K a W := by
  unfold wpOpIn
  simp only [hi]
  have hw : Region.wanted o (yielded ops a.tmps) = true := by simp [Region.wanted, hg]
  rw [if_pos hw]
  refine ⟨fun _ _ => trivial, ?_⟩
  rw [semAt_fr _ hr (fun _ h => nomatch h), hr, Oper.uponIn_skip]
  exact hK

/-- All orders of a drawn region, up to one operation that all others stand before or behind. -/
noncomputable def collectH (X : Ctx) (md : Region.Mode) (ops : Array Oper) (h : Nat) : Nat → Array Bool → St → Option (List (Nat × Array Bool × St))
  | 0, _, _ => none
  | fuel + 1, listed, s =>
    if Region.ready md ops listed = [h] then some [(fuel + 1, listed, s)] else
    match Region.ready md ops listed with
    | [] => none
    | rs => rs.foldr (fun i acc =>
      match ops[i]?, acc with
      | some o, some L => (match st1 X ops.toList s o with | some s1 => (match collectH X md ops h fuel (listed.setIfInBounds i true) s1 with | some M => some (M ++ L) | none => none) | none => none)
      | _, _ => none) (some [])

theorem fold_collect {X : Ctx} {md : Region.Mode} {ops : Array Oper} {h fuel : Nat} {listed : Array Bool} {s : St} : ∀ (rs : List Nat) (L : List (Nat × Array Bool × St)), rs.foldr (fun i acc =>
      match ops[i]?, acc with
      | some o, some L => (match st1 X ops.toList s o with | some s1 => (match collectH X md ops h fuel (listed.setIfInBounds i true) s1 with | some M => some (M ++ L) | none => none) | none => none)
      | _, _ => none) (some []) = some L → ∀ i ∈ rs, ∃ o s1 M, ops[i]? = some o ∧ st1 X ops.toList s o = some s1 ∧ collectH X md ops h fuel (listed.setIfInBounds i true) s1 = some M ∧ ∀ x ∈ M, x ∈ L
  | [], L, h, i, hi => by simp at hi
  | j :: rs, L, h, i, hi => by
    simp only [List.foldr_cons] at h
    split at h
    · rename_i o L1 ho hL
      split at h
      · rename_i s1 hs
        split at h
        · rename_i M hM
          cases h
          rcases List.mem_cons.1 hi with rfl | hi
          · exact ⟨o, s1, M, ho, hs, hM, fun x hx => List.mem_append_left _ hx⟩
          · obtain ⟨o', s1', M', q1, q2, q3, q4⟩ := fold_collect rs L1 hL i hi
            exact ⟨o', s1', M', q1, q2, q3, fun x hx => List.mem_append_right _ (q4 x hx)⟩
        · cases h
      · cases h
    · cases h

theorem collect_ok {E : Env} {V0 : Nat → Nat → Prop} {io0 : Io} {W0 : World} (hX : CtxOK E X) (ro : Option Nat) {md : Region.Mode} {ops : Array Oper} {h : Nat} {Q : Exit → Act → World → Prop} {D : Nat → Prop} {a0 : Act} {C0 : Cx} {Wa : World} (hD : ∀ o ∈ ops.toList, ∀ k, o.dst = some k → D k) : ∀ (fuel : Nat) (listed : Array Bool) (s : St) (L : List (Nat × Array Bool × St)) (C : Cx) (a : Act) (W : World), collectH X md ops h fuel listed s = some L → Sim E V0 io0 W0 C s a W → Fm E.M D a0 a C0 C Wa W →
    (∀ x ∈ L, ∀ C' a' W', Sim E V0 io0 W0 C' x.2.2 a' W' → Fm E.M D a0 a' C0 C' Wa W' → wpAnyIn (Fr ro) 0 E.P md ops Q x.1 x.2.1 a' W') → wpAnyIn (Fr ro) 0 E.P md ops Q fuel listed a W
  | 0, listed, s, L, C, a, W, hc, S, hF, hQ => by cases hc
  | fuel + 1, listed, s, L, C, a, W, hc, S, hF, hQ => by
    unfold collectH at hc
    split at hc
    · cases hc
      exact hQ _ (List.mem_cons_self ..) C a W S hF
    · cases hr : Region.ready md ops listed with
      | nil => rw [hr] at hc; cases hc
      | cons j rs =>
        rw [hr] at hc
        refine ⟨(fun h0 => by rw [hr] at h0; cases h0), fun i hi => ?_⟩
        rw [hr] at hi
        obtain ⟨o, s1, M, q1, q2, q3, q4⟩ := fold_collect _ _ hc i hi
        refine wpOp_of_step (st1_ok hX q2) S q1 ro fun C' a' W' S' hf => ?_
        exact collect_ok hX ro hD fuel _ s1 M C' a' W' q3 S' (hF.trans (hf.mono (hD o (by have := Array.mem_of_getElem? q1; simpa using this)))) fun x hx => hQ x (q4 x hx)

/-! Contracts that are the evaluator's own answers. -/
noncomputable def selfG (X : Ctx) (N : Nat) (fn : Func) : List AV → Option (Bool × AV) := fun args => match evF X N fn (wkL args) with | some r => some (true, wkAV r) | none => none
noncomputable def selfZ (X : Ctx) (N : Nat) (z : Frz) (n : Nat) (fn : Func) : List AV → Option (Bool × AV) := fun args => match evTz X N z n fn (wkL args) with | some (r, _) => some (true, wkAV r) | none => none

theorem ctr_self (hX : CtxOK B.env X) {f N : Nat} {fn : Func} (hf : B.P.funcs[f]? = some fn) : Ctr B f (selfG X N fn) := ctr_ofN hX hf fun args r h => by
  unfold selfG at h
  split at h
  · rename_i r0 h0
    cases h
    exact ⟨N, r0, h0, rfl⟩
  · cases h

theorem ctr_selfZ (hX : CtxOK B.env X) {f N n : Nat} {fn : Func} {z : Frz} (hz : FrzOK B.TR z) (hf : B.P.funcs[f]? = some fn) : Ctr B f (selfZ X N z n fn) := by
  intro V io W args vs r hb hr h
  unfold selfZ at h
  split at h
  · rename_i r0 items h0
    cases h
    have := tctr_ofZ (E := B.env) (tr := []) hX hz hf h0 hb (Nat.zero_le _) (fun b hm => hm.elim) trivial (wkV_rel hr)
    refine Calls.mono this ?_
    rintro e W' ⟨v, rfl, io', q1, q2, q3, _⟩
    exact ⟨v, io', rfl, vr_wk q1, q2, q3⟩
  · cases h

end Ev
end Go.Proofs.YtidnikjkpbmhhaaDoor
/- What a reel can end with, as the evaluator walks it where the memo says nothing. -/
set_option linter.unusedVariables false
set_option maxRecDepth 4000
namespace Go.Proofs.YtidnikjkpbmhhaaDoor
namespace Ev

noncomputable def g97 : List AV → Option (Bool × AV)
  | [.agg [a0, .tok 0 t0 d0], a1] =>
    match dec tRF a0, castD tRF t0 d0, dec tSpot a1 with
    | some x0, some y0, some x1 => some (decide (x0 = y0) && ((lastOK x0 x1)), enc tSpan (lastF x0 x1))
    | _, _, _ => none
  | _ => none
noncomputable def lastT (x : Fi) (p : Int × Sp) : Option AV :=
  bif decide (0 ≤ p.1) && decide (p.1 < (x.1.length : Int)) then
    bif (decide ((if p.2.2 < (((x.1.getD p.1.toNat (((0 : Int), (0 : Int)), ((0 : Int), (0 : Int)), ((0 : Int), (0 : Int)))).1).2) then p.2.2 else (((x.1.getD p.1.toNat (((0 : Int), (0 : Int)), ((0 : Int), (0 : Int)), ((0 : Int), (0 : Int)))).1).2)) < (if (((x.1.getD p.1.toNat (((0 : Int), (0 : Int)), ((0 : Int), (0 : Int)), ((0 : Int), (0 : Int)))).1).1) < p.2.1 then p.2.1 else (((x.1.getD p.1.toNat (((0 : Int), (0 : Int)), ((0 : Int), (0 : Int)), ((0 : Int), (0 : Int)))).1).1)))) then
      bif decide (0 ≤ p.1) && (decide (p.1 < (x.1.length : Int)) && decide (((1 : Int), (0 : Int)) = lastF x p)) then
        some (.agg [.int (1 : Int), .int (0 : Int)])
      else
        none
    else
      bif (decide ((((x.1.getD p.1.toNat (((0 : Int), (0 : Int)), ((0 : Int), (0 : Int)), ((0 : Int), (0 : Int)))).2.1).2) < (if (((x.1.getD p.1.toNat (((0 : Int), (0 : Int)), ((0 : Int), (0 : Int)), ((0 : Int), (0 : Int)))).2.1).1) < (if (((x.1.getD p.1.toNat (((0 : Int), (0 : Int)), ((0 : Int), (0 : Int)), ((0 : Int), (0 : Int)))).1).1) < p.2.1 then p.2.1 else (((x.1.getD p.1.toNat (((0 : Int), (0 : Int)), ((0 : Int), (0 : Int)), ((0 : Int), (0 : Int)))).1).1)) then (if (((x.1.getD p.1.toNat (((0 : Int), (0 : Int)), ((0 : Int), (0 : Int)), ((0 : Int), (0 : Int)))).1).1) < p.2.1 then p.2.1 else (((x.1.getD p.1.toNat (((0 : Int), (0 : Int)), ((0 : Int), (0 : Int)), ((0 : Int), (0 : Int)))).1).1)) else (((x.1.getD p.1.toNat (((0 : Int), (0 : Int)), ((0 : Int), (0 : Int)), ((0 : Int), (0 : Int)))).2.1).1)))) then
        bif decide (0 ≤ p.1) && (decide (p.1 < (x.1.length : Int)) && decide (((1 : Int), (0 : Int)) = lastF x p)) then
          some (.agg [.int (1 : Int), .int (0 : Int)])
        else
          none
      else
        bif decide (0 ≤ p.1) && (decide (p.1 < (x.1.length : Int)) && decide (((if (((x.1.getD p.1.toNat (((0 : Int), (0 : Int)), ((0 : Int), (0 : Int)), ((0 : Int), (0 : Int)))).2.1).1) < (if (((x.1.getD p.1.toNat (((0 : Int), (0 : Int)), ((0 : Int), (0 : Int)), ((0 : Int), (0 : Int)))).1).1) < p.2.1 then p.2.1 else (((x.1.getD p.1.toNat (((0 : Int), (0 : Int)), ((0 : Int), (0 : Int)), ((0 : Int), (0 : Int)))).1).1)) then (if (((x.1.getD p.1.toNat (((0 : Int), (0 : Int)), ((0 : Int), (0 : Int)), ((0 : Int), (0 : Int)))).1).1) < p.2.1 then p.2.1 else (((x.1.getD p.1.toNat (((0 : Int), (0 : Int)), ((0 : Int), (0 : Int)), ((0 : Int), (0 : Int)))).1).1)) else (((x.1.getD p.1.toNat (((0 : Int), (0 : Int)), ((0 : Int), (0 : Int)), ((0 : Int), (0 : Int)))).2.1).1)), ((x.1.getD p.1.toNat (((0 : Int), (0 : Int)), ((0 : Int), (0 : Int)), ((0 : Int), (0 : Int)))).2.1).2) = lastF x p)) then
          some (.agg [.int (if (((x.1.getD p.1.toNat (((0 : Int), (0 : Int)), ((0 : Int), (0 : Int)), ((0 : Int), (0 : Int)))).2.1).1) < (if (((x.1.getD p.1.toNat (((0 : Int), (0 : Int)), ((0 : Int), (0 : Int)), ((0 : Int), (0 : Int)))).1).1) < p.2.1 then p.2.1 else (((x.1.getD p.1.toNat (((0 : Int), (0 : Int)), ((0 : Int), (0 : Int)), ((0 : Int), (0 : Int)))).1).1)) then (if (((x.1.getD p.1.toNat (((0 : Int), (0 : Int)), ((0 : Int), (0 : Int)), ((0 : Int), (0 : Int)))).1).1) < p.2.1 then p.2.1 else (((x.1.getD p.1.toNat (((0 : Int), (0 : Int)), ((0 : Int), (0 : Int)), ((0 : Int), (0 : Int)))).1).1)) else (((x.1.getD p.1.toNat (((0 : Int), (0 : Int)), ((0 : Int), (0 : Int)), ((0 : Int), (0 : Int)))).2.1).1)), .int (((x.1.getD p.1.toNat (((0 : Int), (0 : Int)), ((0 : Int), (0 : Int)), ((0 : Int), (0 : Int)))).2.1).2)])
        else
          none
  else
    none

end Ev
end Go.Proofs.YtidnikjkpbmhhaaDoor
/- The scenes that a reel can end with: what its memo says is what it would answer anew. -/
set_option linter.unusedVariables false
set_option linter.unusedSimpArgs false
set_option maxRecDepth 4000
namespace Go.Proofs.YtidnikjkpbmhhaaDoor
namespace Ev

def opsOf : Code → Array Oper
  | .region _ ops _ => ops
  | _ => #[]

noncomputable def q0 : Code := sub [(0, 0)] (bodyOf Tryd.f97)
noncomputable def q1 : Code := sub [(1, 0), (0, 0), (0, 0)] (bodyOf Tryd.f97)
noncomputable def q2 : Code := sub [(1, 0), (0, 0), (1, 0)] (bodyOf Tryd.f97)
noncomputable def q3 : Code := sub [(1, 0), (1, 0)] (bodyOf Tryd.f97)
noncomputable def lops : Array Oper := opsOf q1
theorem q1_eq : q1 = .region 1 lops false := by kernel_rfl
theorem last_body : Tryd.f97.body = some (.seq q0 (.seq (.seq q1 q2) q3)) := by kernel_rfl
theorem look_op : (lops[3]?).map (fun o => (o.op, o.dst, o.guard)) = some (.lookup 80 (.tmp 12) (.tmp 13) true, some 14, none) := by kernel_rfl

noncomputable def XL : Ctx := { T := TT, G := GG, C := [], L := [], up := some upM }
noncomputable def lst0 (x : Fi) (p : Int × Sp) : St := st0 Tryd.f97 [.agg [enc tRF x, .tok 0 tRF x], enc tSpot p]
def nrm : Ex → St → Option St
  | .norm, s => some s
  | _, _ => none
noncomputable def lst1 (x : Fi) (p : Int × Sp) : St := (evC XL 0 q0 (lst0 x p) nrm).getD ⟨[], []⟩
theorem lst1_eq (x : Fi) (p : Int × Sp) : evC XL 0 q0 (lst0 x p) nrm = some (lst1 x p) := by kernel_rfl
noncomputable def lst2 (x : Fi) (p : Int × Sp) : St := (steps XL lops.toList (lops.toList.take 3) (lst1 x p)).getD ⟨[], []⟩
theorem lst2_eq (x : Fi) (p : Int × Sp) : steps XL lops.toList (lops.toList.take 3) (lst1 x p) = some (lst2 x p) := by kernel_rfl
theorem lst2_m (x : Fi) (p : Int × Sp) : (lst2 x p).get 12 = .tok 0 tRF x := by kernel_rfl
theorem lst2_k (x : Fi) (p : Int × Sp) : (lst2 x p).get 13 = enc tSpot p := by kernel_rfl
noncomputable def lst3 (x : Fi) (p : Int × Sp) (q : Sp) (b : Bool) : St := (steps XL lops.toList (lops.toList.drop 4) ((lst2 x p).put (some 14) (.tup [enc tSpan q, .bool b]))).getD ⟨[], []⟩
theorem lst3_eq (x : Fi) (p : Int × Sp) (q : Sp) (b : Bool) : steps XL lops.toList (lops.toList.drop 4) ((lst2 x p).put (some 14) (.tup [enc tSpan q, .bool b])) = some (lst3 x p q b) := by kernel_rfl
noncomputable def lend (x : Fi) (p : Int × Sp) (q : Sp) (b : Bool) : Option AV := evC XL 0 q2 (lst3 x p q b) (seqK (evC XL 0 q3) (finK XL Tryd.f97))
theorem lend_hit (x : Fi) (p : Int × Sp) (q : Sp) : lend x p q true = some (enc tSpan q) := by kernel_rfl
theorem lend_miss (x : Fi) (p : Int × Sp) : lend x p (0, 0) false = lastT x p := by kernel_rfl

theorem lastT_eq (x : Fi) (p : Int × Sp) (h : inReels x p.1 = true) : lastT x p = some (enc tSpan (lastF x p)) := by
  simp only [inReels, Bool.and_eq_true, decide_eq_true_eq] at h
  obtain ⟨h0, h1⟩ := h
  have e : ∀ q : Sp, q = lastF x p → (decide (0 ≤ p.1) && (decide (p.1 < (x.1.length : Int)) && decide (q = lastF x p))) = true := fun q hq => by simp [h0, h1, hq]
  unfold lastT
  have e1 : (decide (0 ≤ p.1) && decide (p.1 < (x.1.length : Int))) = true := by simp [h0, h1]
  rw [e1, cond_true]
  generalize hr : x.1.getD p.1.toNat (((0 : Int), (0 : Int)), ((0 : Int), (0 : Int)), ((0 : Int), (0 : Int))) = r
  have hl : lastF x p = if minI r.1.2 p.2.2 < maxI r.1.1 p.2.1 ∨ r.2.1.2 < maxI r.2.1.1 (maxI r.1.1 p.2.1) then (1, 0) else (maxI r.2.1.1 (maxI r.1.1 p.2.1), r.2.1.2) := by rw [← hr]; rfl
  have f1 : (if p.2.2 < r.1.2 then p.2.2 else r.1.2) = minI r.1.2 p.2.2 := rfl
  have f2 : (if r.1.1 < p.2.1 then p.2.1 else r.1.1) = maxI r.1.1 p.2.1 := rfl
  simp only [f1, f2]
  have f3 : (if r.2.1.1 < maxI r.1.1 p.2.1 then maxI r.1.1 p.2.1 else r.2.1.1) = maxI r.2.1.1 (maxI r.1.1 p.2.1) := rfl
  simp only [f3]
  by_cases A : minI r.1.2 p.2.2 < maxI r.1.1 p.2.1
  · rw [decide_eq_true A, cond_true]
    have hq : ((1 : Int), (0 : Int)) = lastF x p := by rw [hl, if_pos (.inl A)]
    rw [e _ hq, cond_true, ← hq]
    rfl
  · rw [decide_eq_false A, cond_false]
    by_cases D : r.2.1.2 < maxI r.2.1.1 (maxI r.1.1 p.2.1)
    · rw [decide_eq_true D, cond_true]
      have hq : ((1 : Int), (0 : Int)) = lastF x p := by rw [hl, if_pos (.inr D)]
      rw [e _ hq, cond_true, ← hq]
      rfl
    · rw [decide_eq_false D, cond_false]
      have hq : (maxI r.2.1.1 (maxI r.1.1 p.2.1), r.2.1.2) = lastF x p := by rw [hl, if_neg (fun h => h.elim A D)]
      rw [e _ hq, cond_true, ← hq]
      rfl

theorem ctxU {X : Ctx} (hT : X.T = TT) (hG : X.G = GG) (hK : X.K = []) (hI : X.I = []) (hk : X.mkm = none) (hu : X.up = some upM) (hC : AllC X.C) : CtxOK Bs.env X where
  T := by rw [hT]; exact chkAll_ok (B := Bs) rfl chkTT
  G := hG
  C := fun f g h => hC f g h
  M := mixed
  K := fun i g h => by rw [hK] at h; cases h
  I := fun f it h => by rw [hI] at h; cases h
  mkm := fun d h => by rw [hk] at h; cases h
  up := fun u h => by
    rw [hu] at h
    cases h
    exact upM_ok

theorem ctxL : CtxOK Bs.env XL := ctxU rfl rfl rfl rfl rfl rfl AllC.nil

theorem k97 : Good 97 g97 := by
  refine ⟨ctr_hand (B := Bs) Tryd.func97 last_body fun args r hg V io W vs a hd hb hr S => ?_, Tryd.f97, Tryd.func97, by kernel_rfl, by kernel_rfl⟩
  unfold g97 at hg
  split at hg
  · rename_i a0 t0 d0 a1
    split at hg
    · rename_i x y p hx hy hp
      simp only [Option.some.injEq, Prod.mk.injEq, Bool.and_eq_true, decide_eq_true_eq] at hg
      obtain ⟨⟨e, hok⟩, rfl⟩ := hg
      subst e
      simp only [wkL, wk_film hx hy, wk_dec hp] at S hr
      refine ⟨XL, enc tSpan (lastF x p), ctxL, wk_enc _ _, fun Q hQ => ?_⟩
      refine wpIn_seq (evC_ok ctxL 0 q0 none (.inl rfl) (D := fun _ => True) (fun _ _ => trivial) nrm (lst1 x p) _ ?_ _ _ _ W (lst1_eq x p) S (Fm.refl _ _ _ _ _))
      intro e s' he C' a' W' S' _
      cases e with
      | norm =>
        cases he
        refine wpIn_seq (wpIn_seq ?_)
        rw [q1_eq]
        have hlo := look_op
        cases ho : lops[3]? with
        | none => rw [ho] at hlo; cases hlo
        | some o =>
          rw [ho] at hlo
          simp only [Option.map_some, Option.some.injEq, Prod.mk.injEq] at hlo
          obtain ⟨h1, h2, h3⟩ := hlo
          refine region_cut ctxL none ho h3 (lst2_eq x p) S' fun C2 a2 W2 S2 => ?_
          have hm := S2.get 12
          have hk := S2.get 13
          rw [lst2_m] at hm
          rw [lst2_k] at hk
          have hm' : TRr 0 tRF x C2.V C2.io W2 (a2.tmps.getD 12 undef) := by
            rcases hm with hm | ⟨cs, g1, g2, g3⟩
            · cases hm
            · simp only [Rel] at g2
              obtain ⟨v, rfl, g2⟩ := g2
              rw [g3]
              exact g2
          have hk' := vr_spot (k := enc tSpot p) (p := p) rfl hk
          have hin : inReels x p.1 = true := hok
          have hin2 := hin
          simp only [inReels, Bool.and_eq_true, decide_eq_true_eq] at hin2
          have hm2 : memoV C2.io W2 ⟨tRF, x⟩ (a2.tmps.getD 12 undef) := hm'
          rcases hm2 with ⟨b, e1, e2, e3⟩ | ⟨_, e⟩
          · obtain ⟨es, ck, g1, g2⟩ := S2.iok b tRF x e3
            obtain ⟨q, ok, hrun, c1, c2⟩ := look_spot g1 g2 p.1 p.2
            refine ⟨.tuple #[spanV q, .bool ok], C2, W2, ?_, S2, .tup [enc tSpan q, .bool ok], ?_, lst3 x p q ok, by rw [h2]; exact lst3_eq x p q ok, fun C3 a3 W3 S3 => ?_⟩
            · unfold execOp
              rw [h1]
              simp only [Act.eval, hk', e1]
              have : (Instr.lookup 80 (.map (some b)) (spotV p.1 p.2) true).run Tryd.prog W2 = .ok (.tuple #[spanV q, .bool ok]) W2 := hrun
              simp only [Sem.run_bind]
              rw [show Bs.env.P = Tryd.prog from rfl, this]
              rfl
            · refine .inr ⟨[.tuple #[spanV q, .bool ok]], rfl, ?_, rfl⟩
              simp only [Rel, RelV]
              refine ⟨_, rfl, _, _, rfl, .inr ⟨[.int .i64 q.1, .int .i64 q.2], rfl, ?_, rfl⟩, _, _, rfl, .inr ⟨[.bool ok], rfl, by simp [Rel], rfl⟩, rfl⟩
              simp only [enc, encT, Rel, RelL]
              exact ⟨[_], [_], rfl, rfl, rfl, [_], [], rfl, rfl, rfl, rfl⟩
            · have hend : lend x p q ok = some (enc tSpan (lastF x p)) := by
                cases ok with
                | true => rw [c1 rfl]; exact lend_hit x p _
                | false => rw [c2 rfl]; exact (lend_miss x p).trans (lastT_eq x p hin)
              refine evC_ok ctxL 0 q2 none (.inl rfl) (D := fun _ => True) (fun _ _ => trivial) (seqK (evC XL 0 q3) (finK XL Tryd.f97)) _ _ ?_ _ _ _ W3 hend S3 (Fm.refl _ _ _ _ _)
              intro e4 s4 he4 C4 a4 W4 S4 _
              cases e4 with
              | norm =>
                refine evC_ok ctxL 0 q3 none (.inl rfl) (D := fun _ => True) (fun _ _ => trivial) (finK XL Tryd.f97) _ _ ?_ _ _ _ W4 he4 S4 (Fm.refl _ _ _ _ _)
                intro e5 s5 he5 C5 a5 W5 S5 _
                exact hQ e5 s5 he5 W io (Keep.refl _ _ _) C5 a5 W5 S5
              | exit j => exact hQ (.exit j) s4 he4 W io (Keep.refl _ _ _) C4 a4 W4 S4
              | ret => exact hQ .ret s4 he4 W io (Keep.refl _ _ _) C4 a4 W4 S4
          · cases e
            have : (zRF.1.length : Int) = 0 := rfl
            omega
      | exit j => cases he
      | ret => cases he
    · cases hg
  · cases hg

end Ev
end Go.Proofs.YtidnikjkpbmhhaaDoor
/- What is answered of a reel's feet and showings, in plain words. -/
namespace Go.Proofs.YtidnikjkpbmhhaaDoor
namespace Ev

def openF (x : Fi) : Fi := x
def chkOK (x : Fi) : Bool := lenOK x.1
def askOK (x : Fi) (_ : Bool) : Bool := chkOK x
def chkOK3 (x : Fi) (_ _ : Int) : Bool := chkOK x
def WornI (x : Fi) (k n : Int) : Sp × Int :=
  (if askedI x (isReelB x k && amid n 0 999) = 0 then wornS x k n else z2, askedI x (isReelB x k && amid n 0 999))
/-- Rounds that are left, and what was found. -/
def shR (x : Fi) (k w : Int) : Nat → Nat → Int × Int → Int × Int
  | 0, _, s => s
  | m + 1, n, s => shR x k w m (n + 1) (if w ≤ leastI x k n then (n : Int) else s.1, if w ≤ mostI x k n then (n : Int) else s.2)
def ShowsI (x : Fi) (k w : Int) : Int × Int × Int :=
  if askedI x (isReelB x k && amid w 1 1200) = 0 then
    if (wornS x k 0).2 < w then (0, 0, 4) else ((shR x k w 1000 0 (-1, -1)).1, (shR x k w 1000 0 (-1, -1)).2, 0)
  else (0, 0, askedI x (isReelB x k && amid w 1 1200))
def seR (x : Fi) (k w : Int) : Nat → Nat → Int × Int → Int × Int
  | 0, _, s => s
  | m + 1, n, s => seR x k w m (n + 1) (if amid w (leastI x k n) (mostI x k n) = true then (if s.1 < 0 then (n : Int) else s.1, (n : Int)) else s)
def SeenI (x : Fi) (k w : Int) : Sp × Int :=
  if askedI x (isReelB x k && amid w 0 1200) = 0 then
    if (seR x k w 1000 0 (-1, -1)).1 < 0 then (z2, 4) else (seR x k w 1000 0 (-1, -1), 0)
  else (z2, askedI x (isReelB x k && amid w 0 1200))

end Ev
end Go.Proofs.YtidnikjkpbmhhaaDoor
/- Reels, feet and showings, as the evaluator walks them. -/
set_option linter.unusedVariables false
set_option maxRecDepth 4000
namespace Go.Proofs.YtidnikjkpbmhhaaDoor
namespace Ev

noncomputable def g53 : List AV → Option (Bool × AV)
  | [a0, a1] =>
    match dec .int a0, dec .int a1 with
    | some x0, some x1 => some (true, enc tSpan (mk2 x0 x1))
    | _, _ => none
  | _ => none
noncomputable def g55 : List AV → Option (Bool × AV)
  | [a0, a1, a2] =>
    match dec .int a0, dec .int a1, dec .int a2 with
    | some x0, some x1, some x2 => some (true, enc .bool (amid x0 x1 x2))
    | _, _, _ => none
  | _ => none
noncomputable def g56 : List AV → Option (Bool × AV)
  | [a0, a1] =>
    match dec tSpan a0, dec .int a1 with
    | some x0, some x1 => some (true, enc .bool (holds x0 x1))
    | _, _ => none
  | _ => none
noncomputable def g58 : List AV → Option (Bool × AV)
  | [a0] =>
    match dec tSpan a0 with
    | some x0 => some (true, enc .bool (emptyS x0))
    | _ => none
  | _ => none
noncomputable def g68 : List AV → Option (Bool × AV)
  | [a0, a1, a2] =>
    match dec .int a0, dec .int a1, dec .int a2 with
    | some x0, some x1, some x2 => some (true, enc .bool (amid x0 x1 x2))
    | _, _, _ => none
  | _ => none
noncomputable def g69 : List AV → Option (Bool × AV)
  | [a0, a1, a2] =>
    match dec tSpan a0, dec .int a1, dec .int a2 with
    | some x0, some x1, some x2 => some (true, enc .bool (legal x0 x1 x2))
    | _, _, _ => none
  | _ => none
noncomputable def g70 : List AV → Option (Bool × AV)
  | [a0, a1, a2] =>
    match dec tSpan a0, dec .int a1, dec .int a2 with
    | some x0, some x1, some x2 => some (true, enc .bool (legal x0 x1 x2))
    | _, _, _ => none
  | _ => none
noncomputable def g86 : List AV → Option (Bool × AV)
  | [a0] =>
    match dec tRF a0 with
    | some x0 => some (true, .agg [enc tRF (openF x0), .tok 0 tRF (openF x0)])
    | _ => none
  | _ => none
noncomputable def g117 : List AV → Option (Bool × AV)
  | [.agg [a0, .tok 0 t0 d0], a1, a2] =>
    match dec tRF a0, castD tRF t0 d0, dec .int a1, dec .int a2 with
    | some x0, some y0, some x1, some x2 => some (decide (x0 = y0) && ((inReels3 x0 x1 x2)), enc .int (leastI x0 x1 x2))
    | _, _, _, _ => none
  | _ => none
noncomputable def g119 : List AV → Option (Bool × AV)
  | [.agg [a0, .tok 0 t0 d0], a1, a2] =>
    match dec tRF a0, castD tRF t0 d0, dec .int a1, dec .int a2 with
    | some x0, some y0, some x1, some x2 => some (decide (x0 = y0) && ((inReels3 x0 x1 x2)), enc .int (mostI x0 x1 x2))
    | _, _, _, _ => none
  | _ => none
noncomputable def g80 : List AV → Option (Bool × AV)
  | [.agg [a0, .tok 0 t0 d0], a1, a2] =>
    match dec tRF a0, castD tRF t0 d0, dec .int a1, dec .int a2 with
    | some x0, some y0, some x1, some x2 => some (decide (x0 = y0) && ((inReels3 x0 x1 x2)), enc tSpan (wornS x0 x1 x2))
    | _, _, _, _ => none
  | _ => none
noncomputable def g81 : List AV → Option (Bool × AV)
  | [a0, a1, a2] =>
    match dec tRF a0, dec .int a1, dec .int a2 with
    | some x0, some x1, some x2 => some ((inReels3 x0 x1 x2), enc tSpan (wornS x0 x1 x2))
    | _, _, _ => none
  | _ => none
noncomputable def g18 : List AV → Option (Bool × AV)
  | [a0] =>
    match dec tRF a0 with
    | some x0 => some ((chkOK x0), enc .int (checkI x0))
    | _ => none
  | _ => none
noncomputable def g19 : List AV → Option (Bool × AV)
  | [a0] =>
    match dec tRF a0 with
    | some x0 => some ((chkOK x0), enc .int (checkI x0))
    | _ => none
  | _ => none
noncomputable def g62 : List AV → Option (Bool × AV)
  | [a0, a1] =>
    match dec tRF a0, dec .bool a1 with
    | some x0, some x1 => some ((askOK x0 x1), .tup [.agg [enc tRF ((askedF x0 x1).1), .tok 0 tRF ((askedF x0 x1).1)], enc .int ((askedF x0 x1).2)])
    | _, _ => none
  | _ => none
noncomputable def g65 : List AV → Option (Bool × AV)
  | [a0, a1] =>
    match dec tRF a0, dec .bool a1 with
    | some x0, some x1 => some ((askOK x0 x1), enc .int (askedI x0 x1))
    | _, _ => none
  | _ => none
noncomputable def g78 : List AV → Option (Bool × AV)
  | [a0, a1] =>
    match dec tRF a0, dec .int a1 with
    | some x0, some x1 => some (true, enc .bool (isReelB x0 x1))
    | _, _ => none
  | _ => none
noncomputable def g30 : List AV → Option (Bool × AV)
  | [a0, a1, a2] =>
    match dec tRF a0, dec .int a1, dec .int a2 with
    | some x0, some x1, some x2 => some ((chkOK3 x0 x1 x2), .tup [enc tSpan ((WornI x0 x1 x2).1), enc .int ((WornI x0 x1 x2).2)])
    | _, _, _ => none
  | _ => none
noncomputable def g31 : List AV → Option (Bool × AV)
  | [a0, a1, a2] =>
    match dec tRF a0, dec .int a1, dec .int a2 with
    | some x0, some x1, some x2 => some ((chkOK3 x0 x1 x2), .tup [enc tSpan ((WornI x0 x1 x2).1), enc .int ((WornI x0 x1 x2).2)])
    | _, _, _ => none
  | _ => none
noncomputable def g32 : List AV → Option (Bool × AV)
  | [a0, a1, a2] =>
    match dec tRF a0, dec .int a1, dec .int a2 with
    | some x0, some x1, some x2 => some ((chkOK3 x0 x1 x2), .tup [enc .int ((ShowsI x0 x1 x2).1), enc .int ((ShowsI x0 x1 x2).2.1), enc .int ((ShowsI x0 x1 x2).2.2)])
    | _, _, _ => none
  | _ => none
noncomputable def g33 : List AV → Option (Bool × AV)
  | [a0, a1, a2] =>
    match dec tRF a0, dec .int a1, dec .int a2 with
    | some x0, some x1, some x2 => some ((chkOK3 x0 x1 x2), .tup [enc .int ((ShowsI x0 x1 x2).1), enc .int ((ShowsI x0 x1 x2).2.1), enc .int ((ShowsI x0 x1 x2).2.2)])
    | _, _, _ => none
  | _ => none
noncomputable def g34 : List AV → Option (Bool × AV)
  | [a0, a1, a2] =>
    match dec tRF a0, dec .int a1, dec .int a2 with
    | some x0, some x1, some x2 => some ((chkOK3 x0 x1 x2), .tup [enc tSpan ((SeenI x0 x1 x2).1), enc .int ((SeenI x0 x1 x2).2)])
    | _, _, _ => none
  | _ => none
noncomputable def g35 : List AV → Option (Bool × AV)
  | [a0, a1, a2] =>
    match dec tRF a0, dec .int a1, dec .int a2 with
    | some x0, some x1, some x2 => some ((chkOK3 x0 x1 x2), .tup [enc tSpan ((SeenI x0 x1 x2).1), enc .int ((SeenI x0 x1 x2).2)])
    | _, _, _ => none
  | _ => none
noncomputable def X77 : Ctx := { T := TT, G := GG, C := [], L := [] }
noncomputable def f77_s : Option (AV) :=
  some (.arr .bool 6 (List.replicate 6 false))

noncomputable def f77_T : Option (AV) := f77_s

theorem f77_ev (N : Nat) : evF X77 N Tryd.f77 [] = f77_T := by
  have h : evF X77 N Tryd.f77 [] = f77_s := by kernel_rfl
  rw [h]
  rfl
noncomputable def X88 : Ctx := { T := TT, G := GG, C := [(97, g97)], L := [] }
noncomputable def f88_s (a0 : ((List ((Int × Int) × (Int × Int) × (Int × Int))) × (Int × Int) × (Int × Int) × Int)) (a1 : Int) (a2 : (Int × Int)) : Option (AV) :=
  bif decide (a0 = a0) && ((lastOK a0 (a1, (a2.1, (w64 (a2.2 + (1 : Int))))))) then
    some (.tup [enc tSpan (lastF a0 (a1, (a2.1, (w64 (a2.2 + (1 : Int)))))), .bool (!((decide ((lastF a0 (a1, (a2.1, (w64 (a2.2 + (1 : Int)))))).1 = (1 : Int))) && ((decide ((lastF a0 (a1, (a2.1, (w64 (a2.2 + (1 : Int)))))).2 = (0 : Int))) && true)))])
  else
    none

noncomputable def f88_T (a0 : ((List ((Int × Int) × (Int × Int) × (Int × Int))) × (Int × Int) × (Int × Int) × Int)) (a1 : Int) (a2 : (Int × Int)) : Option (AV) := f88_s a0 a1 a2

theorem f88_ev (a0 : ((List ((Int × Int) × (Int × Int) × (Int × Int))) × (Int × Int) × (Int × Int) × Int)) (a1 : Int) (a2 : (Int × Int)) (N : Nat) : evF X88 N Tryd.f88 [.agg [enc tRF a0, .tok 0 tRF a0], enc .int a1, enc tSpan a2] = f88_T a0 a1 a2 := by
  have h : evF X88 N Tryd.f88 [.agg [enc tRF a0, .tok 0 tRF a0], enc .int a1, enc tSpan a2] = f88_s a0 a1 a2 := by kernel_rfl
  rw [h]
  rfl
noncomputable def X53 : Ctx := { T := TT, G := GG, C := [], L := [] }
noncomputable def f53_s (a0 : Int) (a1 : Int) : Option (AV) :=
  some (.agg [.int a0, .int a1])

noncomputable def f53_T (a0 : Int) (a1 : Int) : Option (AV) := f53_s a0 a1

theorem f53_ev (a0 : Int) (a1 : Int) (N : Nat) : evF X53 N Tryd.f53 [enc .int a0, enc .int a1] = f53_T a0 a1 := by
  have h : evF X53 N Tryd.f53 [enc .int a0, enc .int a1] = f53_s a0 a1 := by kernel_rfl
  rw [h]
  rfl
noncomputable def X55 : Ctx := { T := TT, G := GG, C := [], L := [] }
noncomputable def f55_s (a0 : Int) (a1 : Int) (a2 : Int) : Option (AV) :=
  bif (decide (a1 ≤ a0)) then
    some (.bool (decide (a0 ≤ a2)))
  else
    some (.bool false)

noncomputable def f55_T (a0 : Int) (a1 : Int) (a2 : Int) : Option (AV) := f55_s a0 a1 a2

theorem f55_ev (a0 : Int) (a1 : Int) (a2 : Int) (N : Nat) : evF X55 N Tryd.f55 [enc .int a0, enc .int a1, enc .int a2] = f55_T a0 a1 a2 := by
  have h : evF X55 N Tryd.f55 [enc .int a0, enc .int a1, enc .int a2] = f55_s a0 a1 a2 := by kernel_rfl
  rw [h]
  rfl
noncomputable def X56 : Ctx := { T := TT, G := GG, C := [(55, g55)], L := [] }
noncomputable def f56_s (a0 : (Int × Int)) (a1 : Int) : Option (AV) :=
  some (.bool (amid a1 a0.1 a0.2))

noncomputable def f56_T (a0 : (Int × Int)) (a1 : Int) : Option (AV) := f56_s a0 a1

theorem f56_ev (a0 : (Int × Int)) (a1 : Int) (N : Nat) : evF X56 N Tryd.f56 [enc tSpan a0, enc .int a1] = f56_T a0 a1 := by
  have h : evF X56 N Tryd.f56 [enc tSpan a0, enc .int a1] = f56_s a0 a1 := by kernel_rfl
  rw [h]
  rfl
noncomputable def X58 : Ctx := { T := TT, G := GG, C := [], L := [] }
noncomputable def f58_s (a0 : (Int × Int)) : Option (AV) :=
  some (.bool (decide (a0.2 < a0.1)))

noncomputable def f58_T (a0 : (Int × Int)) : Option (AV) := f58_s a0

theorem f58_ev (a0 : (Int × Int)) (N : Nat) : evF X58 N Tryd.f58 [enc tSpan a0] = f58_T a0 := by
  have h : evF X58 N Tryd.f58 [enc tSpan a0] = f58_s a0 := by kernel_rfl
  rw [h]
  rfl
noncomputable def X68 : Ctx := { T := TT, G := GG, C := [], L := [] }
noncomputable def f68_s (a0 : Int) (a1 : Int) (a2 : Int) : Option (AV) :=
  bif (decide (a1 ≤ a0)) then
    some (.bool (decide (a0 ≤ a2)))
  else
    some (.bool false)

noncomputable def f68_T (a0 : Int) (a1 : Int) (a2 : Int) : Option (AV) := f68_s a0 a1 a2

theorem f68_ev (a0 : Int) (a1 : Int) (a2 : Int) (N : Nat) : evF X68 N Tryd.f68 [enc .int a0, enc .int a1, enc .int a2] = f68_T a0 a1 a2 := by
  have h : evF X68 N Tryd.f68 [enc .int a0, enc .int a1, enc .int a2] = f68_s a0 a1 a2 := by kernel_rfl
  rw [h]
  rfl
noncomputable def X69 : Ctx := { T := TT, G := GG, C := [], L := [] }
noncomputable def f69_s (a0 : (Int × Int)) (a1 : Int) (a2 : Int) : Option (AV) :=
  bif (decide (a1 ≤ a0.1)) then
    bif (decide (a0.1 ≤ a0.2)) then
      some (.bool (decide (a0.2 ≤ a2)))
    else
      some (.bool false)
  else
    some (.bool false)

noncomputable def f69_T (a0 : (Int × Int)) (a1 : Int) (a2 : Int) : Option (AV) := f69_s a0 a1 a2

theorem f69_ev (a0 : (Int × Int)) (a1 : Int) (a2 : Int) (N : Nat) : evF X69 N Tryd.f69 [enc tSpan a0, enc .int a1, enc .int a2] = f69_T a0 a1 a2 := by
  have h : evF X69 N Tryd.f69 [enc tSpan a0, enc .int a1, enc .int a2] = f69_s a0 a1 a2 := by kernel_rfl
  rw [h]
  rfl
noncomputable def X70 : Ctx := { T := TT, G := GG, C := [], L := [] }
noncomputable def f70_s (a0 : (Int × Int)) (a1 : Int) (a2 : Int) : Option (AV) :=
  bif (decide (a1 ≤ a0.1)) then
    bif (decide (a0.1 ≤ a0.2)) then
      some (.bool (decide (a0.2 ≤ a2)))
    else
      some (.bool false)
  else
    some (.bool false)

noncomputable def f70_T (a0 : (Int × Int)) (a1 : Int) (a2 : Int) : Option (AV) := f70_s a0 a1 a2

theorem f70_ev (a0 : (Int × Int)) (a1 : Int) (a2 : Int) (N : Nat) : evF X70 N Tryd.f70 [enc tSpan a0, enc .int a1, enc .int a2] = f70_T a0 a1 a2 := by
  have h : evF X70 N Tryd.f70 [enc tSpan a0, enc .int a1, enc .int a2] = f70_s a0 a1 a2 := by kernel_rfl
  rw [h]
  rfl
noncomputable def X86 (x : Fi) : Ctx := { T := TT, G := GG, C := [], L := [], mkm := some ⟨tRF, x⟩ }
theorem f86_ev (x : Fi) (N : Nat) : evF (X86 x) N Tryd.f86 [enc tRF x] = some (.agg [enc tRF x, .tok 0 tRF x]) := by kernel_rfl
noncomputable def X117 : Ctx := { T := TT, G := GG, C := [], L := [] }
noncomputable def f117_s (a0 : ((List ((Int × Int) × (Int × Int) × (Int × Int))) × (Int × Int) × (Int × Int) × Int)) (a1 : Int) (a2 : Int) : Option (AV) :=
  bif decide (0 ≤ a1) && decide (a1 < (a0.1.length : Int)) then
    some (.int (if (0 : Int) < (w64 ((((a0.1.getD a1.toNat (((0 : Int), (0 : Int)), ((0 : Int), (0 : Int)), ((0 : Int), (0 : Int)))).2.2).1) - (w64 (a2 * a0.2.2.1.2)))) then (w64 ((((a0.1.getD a1.toNat (((0 : Int), (0 : Int)), ((0 : Int), (0 : Int)), ((0 : Int), (0 : Int)))).2.2).1) - (w64 (a2 * a0.2.2.1.2)))) else (0 : Int)))
  else
    none

noncomputable def f117_T (a0 : ((List ((Int × Int) × (Int × Int) × (Int × Int))) × (Int × Int) × (Int × Int) × Int)) (a1 : Int) (a2 : Int) : Option (AV) := f117_s a0 a1 a2

theorem f117_ev (a0 : ((List ((Int × Int) × (Int × Int) × (Int × Int))) × (Int × Int) × (Int × Int) × Int)) (a1 : Int) (a2 : Int) (N : Nat) : evF X117 N Tryd.f117 [.agg [enc tRF a0, .tok 0 tRF a0], enc .int a1, enc .int a2] = f117_T a0 a1 a2 := by
  have h : evF X117 N Tryd.f117 [.agg [enc tRF a0, .tok 0 tRF a0], enc .int a1, enc .int a2] = f117_s a0 a1 a2 := by kernel_rfl
  rw [h]
  rfl
noncomputable def X119 : Ctx := { T := TT, G := GG, C := [], L := [] }
noncomputable def f119_s (a0 : ((List ((Int × Int) × (Int × Int) × (Int × Int))) × (Int × Int) × (Int × Int) × Int)) (a1 : Int) (a2 : Int) : Option (AV) :=
  bif decide (0 ≤ a1) && decide (a1 < (a0.1.length : Int)) then
    some (.int (if (0 : Int) < (w64 ((((a0.1.getD a1.toNat (((0 : Int), (0 : Int)), ((0 : Int), (0 : Int)), ((0 : Int), (0 : Int)))).2.2).2) - (w64 (a2 * a0.2.2.1.1)))) then (w64 ((((a0.1.getD a1.toNat (((0 : Int), (0 : Int)), ((0 : Int), (0 : Int)), ((0 : Int), (0 : Int)))).2.2).2) - (w64 (a2 * a0.2.2.1.1)))) else (0 : Int)))
  else
    none

noncomputable def f119_T (a0 : ((List ((Int × Int) × (Int × Int) × (Int × Int))) × (Int × Int) × (Int × Int) × Int)) (a1 : Int) (a2 : Int) : Option (AV) := f119_s a0 a1 a2

theorem f119_ev (a0 : ((List ((Int × Int) × (Int × Int) × (Int × Int))) × (Int × Int) × (Int × Int) × Int)) (a1 : Int) (a2 : Int) (N : Nat) : evF X119 N Tryd.f119 [.agg [enc tRF a0, .tok 0 tRF a0], enc .int a1, enc .int a2] = f119_T a0 a1 a2 := by
  have h : evF X119 N Tryd.f119 [.agg [enc tRF a0, .tok 0 tRF a0], enc .int a1, enc .int a2] = f119_s a0 a1 a2 := by kernel_rfl
  rw [h]
  rfl
noncomputable def X80 : Ctx := { T := TT, G := GG, C := [(117, g117), (119, g119)], L := [] }
noncomputable def f80_s (a0 : ((List ((Int × Int) × (Int × Int) × (Int × Int))) × (Int × Int) × (Int × Int) × Int)) (a1 : Int) (a2 : Int) : Option (AV) :=
  bif decide (0 ≤ (0 : Int)) && decide ((0 : Int) < 2) then
    bif decide (a0 = a0) && ((inReels3 a0 a1 a2)) then
      bif decide (0 ≤ (1 : Int)) && decide ((1 : Int) < 2) then
        bif decide (a0 = a0) && ((inReels3 a0 a1 a2)) then
          some (.agg [.int (leastI a0 a1 a2), .int (mostI a0 a1 a2)])
        else
          none
      else
        none
    else
      none
  else
    none

noncomputable def f80_T (a0 : ((List ((Int × Int) × (Int × Int) × (Int × Int))) × (Int × Int) × (Int × Int) × Int)) (a1 : Int) (a2 : Int) : Option (AV) := f80_s a0 a1 a2

theorem f80_ev (a0 : ((List ((Int × Int) × (Int × Int) × (Int × Int))) × (Int × Int) × (Int × Int) × Int)) (a1 : Int) (a2 : Int) (N : Nat) : evF X80 N Tryd.f80 [.agg [enc tRF a0, .tok 0 tRF a0], enc .int a1, enc .int a2] = f80_T a0 a1 a2 := by
  have h : evF X80 N Tryd.f80 [.agg [enc tRF a0, .tok 0 tRF a0], enc .int a1, enc .int a2] = f80_s a0 a1 a2 := by kernel_rfl
  rw [h]
  rfl
noncomputable def X81 : Ctx := { T := TT, G := GG, C := [(53, g53)], L := [] }
noncomputable def f81_s (a0 : ((List ((Int × Int) × (Int × Int) × (Int × Int))) × (Int × Int) × (Int × Int) × Int)) (a1 : Int) (a2 : Int) : Option (AV) :=
  bif decide (0 ≤ a1) && decide (a1 < (a0.1.length : Int)) then
    some (enc tSpan (mk2 (if (0 : Int) < (w64 ((((a0.1.getD a1.toNat (((0 : Int), (0 : Int)), ((0 : Int), (0 : Int)), ((0 : Int), (0 : Int)))).2.2).1) - (w64 (a2 * a0.2.2.1.2)))) then (w64 ((((a0.1.getD a1.toNat (((0 : Int), (0 : Int)), ((0 : Int), (0 : Int)), ((0 : Int), (0 : Int)))).2.2).1) - (w64 (a2 * a0.2.2.1.2)))) else (0 : Int)) (if (0 : Int) < (w64 ((((a0.1.getD a1.toNat (((0 : Int), (0 : Int)), ((0 : Int), (0 : Int)), ((0 : Int), (0 : Int)))).2.2).2) - (w64 (a2 * a0.2.2.1.1)))) then (w64 ((((a0.1.getD a1.toNat (((0 : Int), (0 : Int)), ((0 : Int), (0 : Int)), ((0 : Int), (0 : Int)))).2.2).2) - (w64 (a2 * a0.2.2.1.1)))) else (0 : Int))))
  else
    none

noncomputable def f81_T (a0 : ((List ((Int × Int) × (Int × Int) × (Int × Int))) × (Int × Int) × (Int × Int) × Int)) (a1 : Int) (a2 : Int) : Option (AV) := f81_s a0 a1 a2

theorem f81_ev (a0 : ((List ((Int × Int) × (Int × Int) × (Int × Int))) × (Int × Int) × (Int × Int) × Int)) (a1 : Int) (a2 : Int) (N : Nat) : evF X81 N Tryd.f81 [enc tRF a0, enc .int a1, enc .int a2] = f81_T a0 a1 a2 := by
  have h : evF X81 N Tryd.f81 [enc tRF a0, enc .int a1, enc .int a2] = f81_s a0 a1 a2 := by kernel_rfl
  rw [h]
  rfl
noncomputable def X18 : Ctx := { T := TT, G := GG, C := [(68, g68), (69, g69)], L := [(3, [0, 1, 2, 4, 5, 6, 7, 8, 9, 10, 11, 12, 13, 14, 15, 16, 17, 18, 19, 20, 21, 22, 23, 24, 25, 29, 30, 31, 32, 33, 34, 35, 36, 37, 38, 39, 40, 41, 42, 43, 44, 45, 46, 47, 48, 49, 50, 51, 52, 53, 54, 55, 56, 57, 58, 59], [26])] }
noncomputable def f18_s0 (a0 : ((List ((Int × Int) × (Int × Int) × (Int × Int))) × (Int × Int) × (Int × Int) × Int)) (k0 : Bool → Int → Option (AV)) (v0_0 : Bool) (v0_1 : Int) : Option (AV) :=
  bif (decide (v0_1 < (a0.1.length : Int))) then
    bif decide (0 ≤ v0_1) && decide (v0_1 < (a0.1.length : Int)) then
      bif v0_0 then
        bif (legal ((a0.1.getD v0_1.toNat (((0 : Int), (0 : Int)), ((0 : Int), (0 : Int)), ((0 : Int), (0 : Int)))).1) (0 : Int) (99 : Int)) then
          bif (legal ((a0.1.getD v0_1.toNat (((0 : Int), (0 : Int)), ((0 : Int), (0 : Int)), ((0 : Int), (0 : Int)))).2.1) (0 : Int) (99 : Int)) then
            bif (decide ((((a0.1.getD v0_1.toNat (((0 : Int), (0 : Int)), ((0 : Int), (0 : Int)), ((0 : Int), (0 : Int)))).1).1) ≤ (((a0.1.getD v0_1.toNat (((0 : Int), (0 : Int)), ((0 : Int), (0 : Int)), ((0 : Int), (0 : Int)))).2.1).2))) then
              k0 (legal ((a0.1.getD v0_1.toNat (((0 : Int), (0 : Int)), ((0 : Int), (0 : Int)), ((0 : Int), (0 : Int)))).2.2) (1 : Int) (1200 : Int)) (w64 (v0_1 + (1 : Int)))
            else
              k0 false (w64 (v0_1 + (1 : Int)))
          else
            k0 false (w64 (v0_1 + (1 : Int)))
        else
          k0 false (w64 (v0_1 + (1 : Int)))
      else
        k0 false (w64 (v0_1 + (1 : Int)))
    else
      none
  else
    bif (!v0_0) then
      some (.int (10 : Int))
    else
      some (.int (0 : Int))

noncomputable def f18_s (a0 : ((List ((Int × Int) × (Int × Int) × (Int × Int))) × (Int × Int) × (Int × Int) × Int)) (k0 : Bool → Int → Option (AV)) : Option (AV) :=
  bif (amid (a0.1.length : Int) (1 : Int) (6 : Int)) then
    bif (legal a0.2.1 (1 : Int) (20 : Int)) then
      bif (legal a0.2.2.1 (0 : Int) (50 : Int)) then
        k0 (amid a0.2.2.2 (1 : Int) (6000 : Int)) (0 : Int)
      else
        k0 false (0 : Int)
    else
      k0 false (0 : Int)
  else
    k0 false (0 : Int)

noncomputable def f18_R0 (a0 : ((List ((Int × Int) × (Int × Int) × (Int × Int))) × (Int × Int) × (Int × Int) × Int)) (N : Nat) (n : Nat) (v0_0 : Bool) (v0_1 : Int) : Option (AV) :=
  loopN (evC X18 N (sub [(1, 0), (1, 0), (0, 0), (1, 0), (0, 0), (0, 0)] (bodyOf Tryd.f18))) (keepOf X18.L (sub [(1, 0), (1, 0), (0, 0), (1, 0), (0, 0), (0, 0)] (bodyOf Tryd.f18))) n ⟨[.poison, .poison, .poison, .bool v0_0, .poison, .poison, .poison, .poison, .poison, .poison, .poison, .poison, .poison, .poison, .poison, .poison, .poison, .poison, .poison, .poison, .poison, .poison, .poison, .poison, .poison, .poison, .sl tReel ⟨false, false, none⟩ a0.1, .int (a0.1.length : Int), .int v0_1, .poison, .poison, .poison, .poison, .poison, .poison, .poison, .poison, .poison, .poison, .poison, .poison, .poison, .poison, .poison, .poison, .poison, .poison, .poison, .poison, .poison, .poison, .poison, .poison, .poison, .poison, .poison, .poison, .poison, .poison, .poison], [.none, .none, .none, .none, .none, .none, .none, .none, .none, .none, .none, .none, .none, .none, .none, .none, .none, .none, .none, .none, .none, .none, .none, .none, .none, .none, .none, .none, .none, .none, .none, .none, .none, .none, .none, .none, .none, .none, .none, .none, .none, .none, .none, .none, .none, .none, .none, .none, .none, .none, .none, .none, .none, .none, .none, .none, .none, .none, .none, .none]⟩ (ctxK X18 N [(1, 0), (1, 0), (0, 0), (1, 0), (0, 0)] (bodyOf Tryd.f18) (finK X18 Tryd.f18))

theorem f18_e0 (a0 : ((List ((Int × Int) × (Int × Int) × (Int × Int))) × (Int × Int) × (Int × Int) × Int)) (N : Nat) (n : Nat) (v0_0 : Bool) (v0_1 : Int) : f18_R0 a0 N (n + 1) v0_0 v0_1 = f18_s0 a0 (f18_R0 a0 N n) v0_0 v0_1 := by kernel_rfl

noncomputable def f18_L0 (a0 : ((List ((Int × Int) × (Int × Int) × (Int × Int))) × (Int × Int) × (Int × Int) × Int)) (N : Nat) : Nat → Bool → Int → Option (AV)
  | 0, _, _ => none
  | n + 1, v0_0, v0_1 => f18_s0 a0 (f18_L0 a0 N n) v0_0 v0_1

theorem f18_q0 (a0 : ((List ((Int × Int) × (Int × Int) × (Int × Int))) × (Int × Int) × (Int × Int) × Int)) (N : Nat) : ∀ n : Nat, f18_R0 a0 N n = f18_L0 a0 N n
  | 0 => by
    funext v0_0
    funext v0_1
    rfl
  | n + 1 => by
    funext v0_0
    funext v0_1
    rw [f18_e0]
    simp only [f18_q0 a0 N n]
    rfl

noncomputable def f18_T (a0 : ((List ((Int × Int) × (Int × Int) × (Int × Int))) × (Int × Int) × (Int × Int) × Int)) (N : Nat) : Option (AV) := f18_s a0 (f18_L0 a0 N N)

theorem f18_ev (a0 : ((List ((Int × Int) × (Int × Int) × (Int × Int))) × (Int × Int) × (Int × Int) × Int)) (N : Nat) : evF X18 N Tryd.f18 [enc tRF a0] = f18_T a0 N := by
  have h : evF X18 N Tryd.f18 [enc tRF a0] = f18_s a0 (f18_R0 a0 N N) := by kernel_rfl
  rw [h, f18_q0]
  rfl
noncomputable def X19 : Ctx := { T := TT, G := GG, C := [(55, g55), (70, g70)], L := [(3, [0, 2, 5, 6, 7, 8, 9, 10, 11, 12, 13, 14, 15, 16, 17, 18, 19, 20, 21, 22, 23, 24, 25, 26, 27, 28, 29, 30, 31, 32, 33, 34, 35, 36, 37, 38, 39, 40, 41, 42, 43, 44, 45, 46, 47, 48, 49, 50, 51, 52, 53, 54, 55, 56, 57, 58, 59, 60, 61, 62, 63], [])] }
noncomputable def f19_s0 (a0 : ((List ((Int × Int) × (Int × Int) × (Int × Int))) × (Int × Int) × (Int × Int) × Int)) (k0 : Bool → Int → Option (AV)) (v0_0 : Bool) (v0_1 : Int) : Option (AV) :=
  bif v0_0 then
    bif (decide (v0_1 < (a0.1.length : Int))) then
      bif decide (0 ≤ v0_1) && decide (v0_1 < (a0.1.length : Int)) then
        bif (legal ((a0.1.getD v0_1.toNat (((0 : Int), (0 : Int)), ((0 : Int), (0 : Int)), ((0 : Int), (0 : Int)))).1) (0 : Int) (99 : Int)) then
          bif (legal ((a0.1.getD v0_1.toNat (((0 : Int), (0 : Int)), ((0 : Int), (0 : Int)), ((0 : Int), (0 : Int)))).2.1) (0 : Int) (99 : Int)) then
            bif (decide ((((a0.1.getD v0_1.toNat (((0 : Int), (0 : Int)), ((0 : Int), (0 : Int)), ((0 : Int), (0 : Int)))).1).1) ≤ (((a0.1.getD v0_1.toNat (((0 : Int), (0 : Int)), ((0 : Int), (0 : Int)), ((0 : Int), (0 : Int)))).2.1).2))) then
              k0 (legal ((a0.1.getD v0_1.toNat (((0 : Int), (0 : Int)), ((0 : Int), (0 : Int)), ((0 : Int), (0 : Int)))).2.2) (1 : Int) (1200 : Int)) (w64 (v0_1 + (1 : Int)))
            else
              k0 false (w64 (v0_1 + (1 : Int)))
          else
            k0 false (w64 (v0_1 + (1 : Int)))
        else
          k0 false (w64 (v0_1 + (1 : Int)))
      else
        none
    else
      bif (!v0_0) then
        some (.int (10 : Int))
      else
        some (.int (0 : Int))
  else
    bif (!v0_0) then
      some (.int (10 : Int))
    else
      some (.int (0 : Int))

noncomputable def f19_s (a0 : ((List ((Int × Int) × (Int × Int) × (Int × Int))) × (Int × Int) × (Int × Int) × Int)) (k0 : Bool → Int → Option (AV)) : Option (AV) :=
  bif (amid (a0.1.length : Int) (1 : Int) (6 : Int)) then
    bif (legal a0.2.1 (1 : Int) (20 : Int)) then
      bif (legal a0.2.2.1 (0 : Int) (50 : Int)) then
        k0 (amid a0.2.2.2 (1 : Int) (6000 : Int)) (0 : Int)
      else
        k0 false (0 : Int)
    else
      k0 false (0 : Int)
  else
    k0 false (0 : Int)

noncomputable def f19_R0 (a0 : ((List ((Int × Int) × (Int × Int) × (Int × Int))) × (Int × Int) × (Int × Int) × Int)) (N : Nat) (n : Nat) (v0_0 : Bool) (v0_1 : Int) : Option (AV) :=
  loopN (evC X19 N (sub [(1, 0), (1, 0), (0, 0), (1, 0), (0, 0), (0, 0)] (bodyOf Tryd.f19))) (keepOf X19.L (sub [(1, 0), (1, 0), (0, 0), (1, 0), (0, 0), (0, 0)] (bodyOf Tryd.f19))) n ⟨[.poison, .ref 1 [], .poison, .bool v0_0, .int v0_1, .poison, .poison, .poison, .poison, .poison, .poison, .poison, .poison, .poison, .poison, .poison, .poison, .poison, .poison, .poison, .poison, .poison, .poison, .poison, .poison, .poison, .poison, .poison, .poison, .poison, .poison, .poison, .poison, .poison, .poison, .poison, .poison, .poison, .poison, .poison, .poison, .poison, .poison, .poison, .poison, .poison, .poison, .poison, .poison, .poison, .poison, .poison, .poison, .poison, .poison, .poison, .poison, .poison, .poison, .poison, .poison, .poison, .poison, .poison], [.none, .box (enc tRF a0), .none, .none, .none, .none, .none, .none, .none, .none, .none, .none, .none, .none, .none, .none, .none, .none, .none, .none, .none, .none, .none, .none, .none, .none, .none, .none, .none, .none, .none, .none, .none, .none, .none, .none, .none, .none, .none, .none, .none, .none, .none, .none, .none, .none, .none, .none, .none, .none, .none, .none, .none, .none, .none, .none, .none, .none, .none, .none, .none, .none, .none, .none]⟩ (ctxK X19 N [(1, 0), (1, 0), (0, 0), (1, 0), (0, 0)] (bodyOf Tryd.f19) (finK X19 Tryd.f19))

theorem f19_e0 (a0 : ((List ((Int × Int) × (Int × Int) × (Int × Int))) × (Int × Int) × (Int × Int) × Int)) (N : Nat) (n : Nat) (v0_0 : Bool) (v0_1 : Int) : f19_R0 a0 N (n + 1) v0_0 v0_1 = f19_s0 a0 (f19_R0 a0 N n) v0_0 v0_1 := by kernel_rfl

noncomputable def f19_L0 (a0 : ((List ((Int × Int) × (Int × Int) × (Int × Int))) × (Int × Int) × (Int × Int) × Int)) (N : Nat) : Nat → Bool → Int → Option (AV)
  | 0, _, _ => none
  | n + 1, v0_0, v0_1 => f19_s0 a0 (f19_L0 a0 N n) v0_0 v0_1

theorem f19_q0 (a0 : ((List ((Int × Int) × (Int × Int) × (Int × Int))) × (Int × Int) × (Int × Int) × Int)) (N : Nat) : ∀ n : Nat, f19_R0 a0 N n = f19_L0 a0 N n
  | 0 => by
    funext v0_0
    funext v0_1
    rfl
  | n + 1 => by
    funext v0_0
    funext v0_1
    rw [f19_e0]
    simp only [f19_q0 a0 N n]
    rfl

noncomputable def f19_T (a0 : ((List ((Int × Int) × (Int × Int) × (Int × Int))) × (Int × Int) × (Int × Int) × Int)) (N : Nat) : Option (AV) := f19_s a0 (f19_L0 a0 N N)

theorem f19_ev (a0 : ((List ((Int × Int) × (Int × Int) × (Int × Int))) × (Int × Int) × (Int × Int) × Int)) (N : Nat) : evF X19 N Tryd.f19 [enc tRF a0] = f19_T a0 N := by
  have h : evF X19 N Tryd.f19 [enc tRF a0] = f19_s a0 (f19_R0 a0 N N) := by kernel_rfl
  rw [h, f19_q0]
  rfl
noncomputable def X62 : Ctx := { T := TT, G := GG, C := [(18, g18), (86, g86)], L := [] }
noncomputable def f62_s (a0 : ((List ((Int × Int) × (Int × Int) × (Int × Int))) × (Int × Int) × (Int × Int) × Int)) (a1 : Bool) : Option (AV) :=
  bif (chkOK a0) then
    bif (!decide ((checkI a0) = (0 : Int))) then
      some (.tup [.agg [.agg [.sl tReel ⟨true, true, none⟩ ([] : List ((Int × Int) × (Int × Int) × (Int × Int))), .agg [.int (0 : Int), .int (0 : Int)], .agg [.int (0 : Int), .int (0 : Int)], .int (0 : Int)], .tok 0 tRF zRF], .int (checkI a0)])
    else
      bif (!a1) then
        some (.tup [.agg [.agg [.sl tReel ⟨true, true, none⟩ ([] : List ((Int × Int) × (Int × Int) × (Int × Int))), .agg [.int (0 : Int), .int (0 : Int)], .agg [.int (0 : Int), .int (0 : Int)], .int (0 : Int)], .tok 0 tRF zRF], .int (11 : Int)])
      else
        some (.tup [.agg [enc tRF (openF a0), .tok 0 tRF (openF a0)], .int (0 : Int)])
  else
    none

noncomputable def f62_T (a0 : ((List ((Int × Int) × (Int × Int) × (Int × Int))) × (Int × Int) × (Int × Int) × Int)) (a1 : Bool) : Option (AV) := f62_s a0 a1

theorem f62_ev (a0 : ((List ((Int × Int) × (Int × Int) × (Int × Int))) × (Int × Int) × (Int × Int) × Int)) (a1 : Bool) (N : Nat) : evF X62 N Tryd.f62 [enc tRF a0, enc .bool a1] = f62_T a0 a1 := by
  have h : evF X62 N Tryd.f62 [enc tRF a0, enc .bool a1] = f62_s a0 a1 := by kernel_rfl
  rw [h]
  rfl
noncomputable def X65 : Ctx := { T := TT, G := GG, C := [(19, g19)], L := [] }
noncomputable def f65_s (a0 : ((List ((Int × Int) × (Int × Int) × (Int × Int))) × (Int × Int) × (Int × Int) × Int)) (a1 : Bool) : Option (AV) :=
  bif (chkOK a0) then
    bif (!decide ((checkI a0) = (0 : Int))) then
      some (.int (checkI a0))
    else
      bif (!a1) then
        some (.int (11 : Int))
      else
        some (.int (0 : Int))
  else
    none

noncomputable def f65_T (a0 : ((List ((Int × Int) × (Int × Int) × (Int × Int))) × (Int × Int) × (Int × Int) × Int)) (a1 : Bool) : Option (AV) := f65_s a0 a1

theorem f65_ev (a0 : ((List ((Int × Int) × (Int × Int) × (Int × Int))) × (Int × Int) × (Int × Int) × Int)) (a1 : Bool) (N : Nat) : evF X65 N Tryd.f65 [enc tRF a0, enc .bool a1] = f65_T a0 a1 := by
  have h : evF X65 N Tryd.f65 [enc tRF a0, enc .bool a1] = f65_s a0 a1 := by kernel_rfl
  rw [h]
  rfl
noncomputable def X78 : Ctx := { T := TT, G := GG, C := [(55, g55)], L := [] }
noncomputable def f78_s (a0 : ((List ((Int × Int) × (Int × Int) × (Int × Int))) × (Int × Int) × (Int × Int) × Int)) (a1 : Int) : Option (AV) :=
  some (.bool (amid a1 (0 : Int) (w64 ((a0.1.length : Int) - (1 : Int)))))

noncomputable def f78_T (a0 : ((List ((Int × Int) × (Int × Int) × (Int × Int))) × (Int × Int) × (Int × Int) × Int)) (a1 : Int) : Option (AV) := f78_s a0 a1

theorem f78_ev (a0 : ((List ((Int × Int) × (Int × Int) × (Int × Int))) × (Int × Int) × (Int × Int) × Int)) (a1 : Int) (N : Nat) : evF X78 N Tryd.f78 [enc tRF a0, enc .int a1] = f78_T a0 a1 := by
  have h : evF X78 N Tryd.f78 [enc tRF a0, enc .int a1] = f78_s a0 a1 := by kernel_rfl
  rw [h]
  rfl
noncomputable def X30 : Ctx := { T := TT, G := GG, C := [(62, g62), (68, g68), (80, g80)], L := [] }
noncomputable def f30_s (a0 : ((List ((Int × Int) × (Int × Int) × (Int × Int))) × (Int × Int) × (Int × Int) × Int)) (a1 : Int) (a2 : Int) : Option (AV) :=
  bif (amid a1 (0 : Int) (w64 ((a0.1.length : Int) - (1 : Int)))) then
    bif (askOK a0 (amid a2 (0 : Int) (999 : Int))) then
      bif (!decide (((askedF a0 (amid a2 (0 : Int) (999 : Int))).2) = (0 : Int))) then
        some (.tup [.agg [.int (0 : Int), .int (0 : Int)], .int ((askedF a0 (amid a2 (0 : Int) (999 : Int))).2)])
      else
        bif decide (((askedF a0 (amid a2 (0 : Int) (999 : Int))).1) = ((askedF a0 (amid a2 (0 : Int) (999 : Int))).1)) && ((inReels3 ((askedF a0 (amid a2 (0 : Int) (999 : Int))).1) a1 a2)) then
          some (.tup [enc tSpan (wornS ((askedF a0 (amid a2 (0 : Int) (999 : Int))).1) a1 a2), .int (0 : Int)])
        else
          none
    else
      none
  else
    bif (askOK a0 false) then
      bif (!decide (((askedF a0 false).2) = (0 : Int))) then
        some (.tup [.agg [.int (0 : Int), .int (0 : Int)], .int ((askedF a0 false).2)])
      else
        bif decide (((askedF a0 false).1) = ((askedF a0 false).1)) && ((inReels3 ((askedF a0 false).1) a1 a2)) then
          some (.tup [enc tSpan (wornS ((askedF a0 false).1) a1 a2), .int (0 : Int)])
        else
          none
    else
      none

noncomputable def f30_T (a0 : ((List ((Int × Int) × (Int × Int) × (Int × Int))) × (Int × Int) × (Int × Int) × Int)) (a1 : Int) (a2 : Int) : Option (AV) := f30_s a0 a1 a2

theorem f30_ev (a0 : ((List ((Int × Int) × (Int × Int) × (Int × Int))) × (Int × Int) × (Int × Int) × Int)) (a1 : Int) (a2 : Int) (N : Nat) : evF X30 N Tryd.f30 [enc tRF a0, enc .int a1, enc .int a2] = f30_T a0 a1 a2 := by
  have h : evF X30 N Tryd.f30 [enc tRF a0, enc .int a1, enc .int a2] = f30_s a0 a1 a2 := by kernel_rfl
  rw [h]
  rfl
noncomputable def X31 : Ctx := { T := TT, G := GG, C := [(55, g55), (65, g65), (78, g78), (81, g81)], L := [] }
noncomputable def f31_s (a0 : ((List ((Int × Int) × (Int × Int) × (Int × Int))) × (Int × Int) × (Int × Int) × Int)) (a1 : Int) (a2 : Int) : Option (AV) :=
  bif (isReelB a0 a1) then
    bif (askOK a0 (amid a2 (0 : Int) (999 : Int))) then
      bif (!decide ((askedI a0 (amid a2 (0 : Int) (999 : Int))) = (0 : Int))) then
        some (.tup [.agg [.int (0 : Int), .int (0 : Int)], .int (askedI a0 (amid a2 (0 : Int) (999 : Int)))])
      else
        bif (inReels3 a0 a1 a2) then
          some (.tup [enc tSpan (wornS a0 a1 a2), .int (0 : Int)])
        else
          none
    else
      none
  else
    bif (askOK a0 false) then
      bif (!decide ((askedI a0 false) = (0 : Int))) then
        some (.tup [.agg [.int (0 : Int), .int (0 : Int)], .int (askedI a0 false)])
      else
        bif (inReels3 a0 a1 a2) then
          some (.tup [enc tSpan (wornS a0 a1 a2), .int (0 : Int)])
        else
          none
    else
      none

noncomputable def f31_T (a0 : ((List ((Int × Int) × (Int × Int) × (Int × Int))) × (Int × Int) × (Int × Int) × Int)) (a1 : Int) (a2 : Int) : Option (AV) := f31_s a0 a1 a2

theorem f31_ev (a0 : ((List ((Int × Int) × (Int × Int) × (Int × Int))) × (Int × Int) × (Int × Int) × Int)) (a1 : Int) (a2 : Int) (N : Nat) : evF X31 N Tryd.f31 [enc tRF a0, enc .int a1, enc .int a2] = f31_T a0 a1 a2 := by
  have h : evF X31 N Tryd.f31 [enc tRF a0, enc .int a1, enc .int a2] = f31_s a0 a1 a2 := by kernel_rfl
  rw [h]
  rfl
noncomputable def X32 : Ctx := { T := TT, G := GG, C := [(62, g62), (68, g68), (80, g80)], L := [(8, [0, 3, 4, 5, 8, 10, 11, 12, 13, 14, 15, 16, 17, 18, 19, 20, 21, 22, 23, 24, 25, 26, 27, 28, 29, 30, 31, 32, 33, 34, 35, 37, 38, 39, 40, 41, 42, 43, 44, 45, 46, 47, 48, 49, 50, 51, 52, 53, 54, 55], [])] }
noncomputable def f32_s0 (a0 : ((List ((Int × Int) × (Int × Int) × (Int × Int))) × (Int × Int) × (Int × Int) × Int)) (a1 : Int) (a2 : Int) (k0 : Int → Int → Int → ((List ((Int × Int) × (Int × Int) × (Int × Int))) × (Int × Int) × (Int × Int) × Int) → ((List ((Int × Int) × (Int × Int) × (Int × Int))) × (Int × Int) × (Int × Int) × Int) → Option (AV)) (v0_0 : Int) (v0_1 : Int) (v0_2 : Int) (v0_3 : ((List ((Int × Int) × (Int × Int) × (Int × Int))) × (Int × Int) × (Int × Int) × Int)) (v0_4 : ((List ((Int × Int) × (Int × Int) × (Int × Int))) × (Int × Int) × (Int × Int) × Int)) : Option (AV) :=
  bif (decide (v0_2 < (1000 : Int))) then
    bif decide (v0_3 = v0_4) && ((inReels3 v0_3 a1 v0_2)) then
      bif (decide (a2 ≤ ((wornS v0_3 a1 v0_2).1))) then
        bif (decide (a2 ≤ ((wornS v0_3 a1 v0_2).2))) then
          k0 v0_2 v0_2 (w64 (v0_2 + (1 : Int))) v0_3 v0_4
        else
          k0 v0_2 v0_1 (w64 (v0_2 + (1 : Int))) v0_3 v0_4
      else
        bif (decide (a2 ≤ ((wornS v0_3 a1 v0_2).2))) then
          k0 v0_0 v0_2 (w64 (v0_2 + (1 : Int))) v0_3 v0_4
        else
          k0 v0_0 v0_1 (w64 (v0_2 + (1 : Int))) v0_3 v0_4
    else
      none
  else
    some (.tup [.int v0_0, .int v0_1, .int (0 : Int)])

noncomputable def f32_s (a0 : ((List ((Int × Int) × (Int × Int) × (Int × Int))) × (Int × Int) × (Int × Int) × Int)) (a1 : Int) (a2 : Int) (k0 : Int → Int → Int → ((List ((Int × Int) × (Int × Int) × (Int × Int))) × (Int × Int) × (Int × Int) × Int) → ((List ((Int × Int) × (Int × Int) × (Int × Int))) × (Int × Int) × (Int × Int) × Int) → Option (AV)) : Option (AV) :=
  bif (amid a1 (0 : Int) (w64 ((a0.1.length : Int) - (1 : Int)))) then
    bif (askOK a0 (amid a2 (1 : Int) (1200 : Int))) then
      bif (!decide (((askedF a0 (amid a2 (1 : Int) (1200 : Int))).2) = (0 : Int))) then
        some (.tup [.int (0 : Int), .int (0 : Int), .int ((askedF a0 (amid a2 (1 : Int) (1200 : Int))).2)])
      else
        bif decide (((askedF a0 (amid a2 (1 : Int) (1200 : Int))).1) = ((askedF a0 (amid a2 (1 : Int) (1200 : Int))).1)) && ((inReels3 ((askedF a0 (amid a2 (1 : Int) (1200 : Int))).1) a1 (0 : Int))) then
          bif (decide (((wornS ((askedF a0 (amid a2 (1 : Int) (1200 : Int))).1) a1 (0 : Int)).2) < a2)) then
            some (.tup [.int (0 : Int), .int (0 : Int), .int (4 : Int)])
          else
            k0 (-1 : Int) (-1 : Int) (0 : Int) ((askedF a0 (amid a2 (1 : Int) (1200 : Int))).1) ((askedF a0 (amid a2 (1 : Int) (1200 : Int))).1)
        else
          none
    else
      none
  else
    bif (askOK a0 false) then
      bif (!decide (((askedF a0 false).2) = (0 : Int))) then
        some (.tup [.int (0 : Int), .int (0 : Int), .int ((askedF a0 false).2)])
      else
        bif decide (((askedF a0 false).1) = ((askedF a0 false).1)) && ((inReels3 ((askedF a0 false).1) a1 (0 : Int))) then
          bif (decide (((wornS ((askedF a0 false).1) a1 (0 : Int)).2) < a2)) then
            some (.tup [.int (0 : Int), .int (0 : Int), .int (4 : Int)])
          else
            k0 (-1 : Int) (-1 : Int) (0 : Int) ((askedF a0 false).1) ((askedF a0 false).1)
        else
          none
    else
      none

noncomputable def f32_R0 (a0 : ((List ((Int × Int) × (Int × Int) × (Int × Int))) × (Int × Int) × (Int × Int) × Int)) (a1 : Int) (a2 : Int) (N : Nat) (n : Nat) (v0_0 : Int) (v0_1 : Int) (v0_2 : Int) (v0_3 : ((List ((Int × Int) × (Int × Int) × (Int × Int))) × (Int × Int) × (Int × Int) × Int)) (v0_4 : ((List ((Int × Int) × (Int × Int) × (Int × Int))) × (Int × Int) × (Int × Int) × Int)) : Option (AV) :=
  loopN (evC X32 N (sub [(1, 0), (1, 0), (1, 0), (1, 0), (1, 0), (0, 0), (1, 0), (0, 0), (0, 0)] (bodyOf Tryd.f32))) (keepOf X32.L (sub [(1, 0), (1, 0), (1, 0), (1, 0), (1, 0), (0, 0), (1, 0), (0, 0), (0, 0)] (bodyOf Tryd.f32))) n ⟨[.poison, .int a1, .int a2, .poison, .poison, .poison, .int v0_0, .int v0_1, .poison, .ref 9 [], .poison, .poison, .poison, .poison, .poison, .poison, .poison, .poison, .poison, .poison, .poison, .poison, .poison, .poison, .poison, .poison, .poison, .poison, .poison, .poison, .poison, .poison, .poison, .poison, .poison, .poison, .int v0_2, .poison, .poison, .poison, .poison, .poison, .poison, .poison, .poison, .poison, .poison, .poison, .poison, .poison, .poison, .poison, .poison, .poison, .poison, .poison], [.none, .none, .none, .none, .none, .none, .none, .none, .none, .box (.agg [enc tRF v0_3, .tok 0 tRF v0_4]), .none, .none, .none, .none, .none, .none, .none, .none, .none, .none, .none, .none, .none, .none, .none, .none, .none, .none, .none, .none, .none, .none, .none, .none, .none, .none, .none, .none, .none, .none, .none, .none, .none, .none, .none, .none, .none, .none, .none, .none, .none, .none, .none, .none, .none, .none]⟩ (ctxK X32 N [(1, 0), (1, 0), (1, 0), (1, 0), (1, 0), (0, 0), (1, 0), (0, 0)] (bodyOf Tryd.f32) (finK X32 Tryd.f32))

theorem f32_e0 (a0 : ((List ((Int × Int) × (Int × Int) × (Int × Int))) × (Int × Int) × (Int × Int) × Int)) (a1 : Int) (a2 : Int) (N : Nat) (n : Nat) (v0_0 : Int) (v0_1 : Int) (v0_2 : Int) (v0_3 : ((List ((Int × Int) × (Int × Int) × (Int × Int))) × (Int × Int) × (Int × Int) × Int)) (v0_4 : ((List ((Int × Int) × (Int × Int) × (Int × Int))) × (Int × Int) × (Int × Int) × Int)) : f32_R0 a0 a1 a2 N (n + 1) v0_0 v0_1 v0_2 v0_3 v0_4 = f32_s0 a0 a1 a2 (f32_R0 a0 a1 a2 N n) v0_0 v0_1 v0_2 v0_3 v0_4 := by kernel_rfl

noncomputable def f32_L0 (a0 : ((List ((Int × Int) × (Int × Int) × (Int × Int))) × (Int × Int) × (Int × Int) × Int)) (a1 : Int) (a2 : Int) (N : Nat) : Nat → Int → Int → Int → ((List ((Int × Int) × (Int × Int) × (Int × Int))) × (Int × Int) × (Int × Int) × Int) → ((List ((Int × Int) × (Int × Int) × (Int × Int))) × (Int × Int) × (Int × Int) × Int) → Option (AV)
  | 0, _, _, _, _, _ => none
  | n + 1, v0_0, v0_1, v0_2, v0_3, v0_4 => f32_s0 a0 a1 a2 (f32_L0 a0 a1 a2 N n) v0_0 v0_1 v0_2 v0_3 v0_4

theorem f32_q0 (a0 : ((List ((Int × Int) × (Int × Int) × (Int × Int))) × (Int × Int) × (Int × Int) × Int)) (a1 : Int) (a2 : Int) (N : Nat) : ∀ n : Nat, f32_R0 a0 a1 a2 N n = f32_L0 a0 a1 a2 N n
  | 0 => by
    funext v0_0
    funext v0_1
    funext v0_2
    funext v0_3
    funext v0_4
    rfl
  | n + 1 => by
    funext v0_0
    funext v0_1
    funext v0_2
    funext v0_3
    funext v0_4
    rw [f32_e0]
    simp only [f32_q0 a0 a1 a2 N n]
    rfl

noncomputable def f32_T (a0 : ((List ((Int × Int) × (Int × Int) × (Int × Int))) × (Int × Int) × (Int × Int) × Int)) (a1 : Int) (a2 : Int) (N : Nat) : Option (AV) := f32_s a0 a1 a2 (f32_L0 a0 a1 a2 N N)

theorem f32_ev (a0 : ((List ((Int × Int) × (Int × Int) × (Int × Int))) × (Int × Int) × (Int × Int) × Int)) (a1 : Int) (a2 : Int) (N : Nat) : evF X32 N Tryd.f32 [enc tRF a0, enc .int a1, enc .int a2] = f32_T a0 a1 a2 N := by
  have h : evF X32 N Tryd.f32 [enc tRF a0, enc .int a1, enc .int a2] = f32_s a0 a1 a2 (f32_R0 a0 a1 a2 N N) := by kernel_rfl
  rw [h, f32_q0]
  rfl
noncomputable def X33 : Ctx := { T := TT, G := GG, C := [(55, g55), (65, g65), (78, g78), (81, g81)], L := [(6, [0, 4, 5, 6, 7, 8, 9, 13, 14, 15, 16, 17, 18, 19, 20, 21, 22, 23, 24, 25, 26, 27, 28, 29, 30, 31, 32, 33, 34, 35, 36, 37, 38, 39, 40, 41, 42, 43, 44, 45, 46, 47], [])] }
noncomputable def f33_s0 (a0 : ((List ((Int × Int) × (Int × Int) × (Int × Int))) × (Int × Int) × (Int × Int) × Int)) (a1 : Int) (a2 : Int) (k0 : Int → Int → Int → Option (AV)) (v0_0 : Int) (v0_1 : Int) (v0_2 : Int) : Option (AV) :=
  bif (decide (v0_2 ≤ (999 : Int))) then
    bif (inReels3 a0 a1 v0_2) then
      bif (decide (a2 ≤ ((wornS a0 a1 v0_2).1))) then
        bif (decide (a2 ≤ ((wornS a0 a1 v0_2).2))) then
          k0 v0_2 v0_2 (w64 (v0_2 + (1 : Int)))
        else
          k0 v0_2 v0_1 (w64 (v0_2 + (1 : Int)))
      else
        bif (decide (a2 ≤ ((wornS a0 a1 v0_2).2))) then
          k0 v0_0 v0_2 (w64 (v0_2 + (1 : Int)))
        else
          k0 v0_0 v0_1 (w64 (v0_2 + (1 : Int)))
    else
      none
  else
    bif (decide (v0_1 < (0 : Int))) then
      some (.tup [.int (0 : Int), .int (0 : Int), .int (4 : Int)])
    else
      some (.tup [.int v0_0, .int v0_1, .int (0 : Int)])

noncomputable def f33_s (a0 : ((List ((Int × Int) × (Int × Int) × (Int × Int))) × (Int × Int) × (Int × Int) × Int)) (a1 : Int) (a2 : Int) (k0 : Int → Int → Int → Option (AV)) : Option (AV) :=
  bif (isReelB a0 a1) then
    bif (askOK a0 (amid a2 (1 : Int) (1200 : Int))) then
      bif (!decide ((askedI a0 (amid a2 (1 : Int) (1200 : Int))) = (0 : Int))) then
        some (.tup [.int (0 : Int), .int (0 : Int), .int (askedI a0 (amid a2 (1 : Int) (1200 : Int)))])
      else
        k0 (-1 : Int) (-1 : Int) (0 : Int)
    else
      none
  else
    bif (askOK a0 false) then
      bif (!decide ((askedI a0 false) = (0 : Int))) then
        some (.tup [.int (0 : Int), .int (0 : Int), .int (askedI a0 false)])
      else
        k0 (-1 : Int) (-1 : Int) (0 : Int)
    else
      none

noncomputable def f33_R0 (a0 : ((List ((Int × Int) × (Int × Int) × (Int × Int))) × (Int × Int) × (Int × Int) × Int)) (a1 : Int) (a2 : Int) (N : Nat) (n : Nat) (v0_0 : Int) (v0_1 : Int) (v0_2 : Int) : Option (AV) :=
  loopN (evC X33 N (sub [(1, 0), (1, 0), (1, 0), (0, 0), (1, 0), (0, 0), (0, 0)] (bodyOf Tryd.f33))) (keepOf X33.L (sub [(1, 0), (1, 0), (1, 0), (0, 0), (1, 0), (0, 0), (0, 0)] (bodyOf Tryd.f33))) n ⟨[.poison, .int a1, .int a2, .ref 3 [], .poison, .poison, .poison, .poison, .poison, .poison, .int v0_0, .int v0_1, .int v0_2, .poison, .poison, .poison, .poison, .poison, .poison, .poison, .poison, .poison, .poison, .poison, .poison, .poison, .poison, .poison, .poison, .poison, .poison, .poison, .poison, .poison, .poison, .poison, .poison, .poison, .poison, .poison, .poison, .poison, .poison, .poison, .poison, .poison, .poison, .poison], [.none, .none, .none, .box (enc tRF a0), .none, .none, .none, .none, .none, .none, .none, .none, .none, .none, .none, .none, .none, .none, .none, .none, .none, .none, .none, .none, .none, .none, .none, .none, .none, .none, .none, .none, .none, .none, .none, .none, .none, .none, .none, .none, .none, .none, .none, .none, .none, .none, .none, .none]⟩ (ctxK X33 N [(1, 0), (1, 0), (1, 0), (0, 0), (1, 0), (0, 0)] (bodyOf Tryd.f33) (finK X33 Tryd.f33))

theorem f33_e0 (a0 : ((List ((Int × Int) × (Int × Int) × (Int × Int))) × (Int × Int) × (Int × Int) × Int)) (a1 : Int) (a2 : Int) (N : Nat) (n : Nat) (v0_0 : Int) (v0_1 : Int) (v0_2 : Int) : f33_R0 a0 a1 a2 N (n + 1) v0_0 v0_1 v0_2 = f33_s0 a0 a1 a2 (f33_R0 a0 a1 a2 N n) v0_0 v0_1 v0_2 := by kernel_rfl

noncomputable def f33_L0 (a0 : ((List ((Int × Int) × (Int × Int) × (Int × Int))) × (Int × Int) × (Int × Int) × Int)) (a1 : Int) (a2 : Int) (N : Nat) : Nat → Int → Int → Int → Option (AV)
  | 0, _, _, _ => none
  | n + 1, v0_0, v0_1, v0_2 => f33_s0 a0 a1 a2 (f33_L0 a0 a1 a2 N n) v0_0 v0_1 v0_2

theorem f33_q0 (a0 : ((List ((Int × Int) × (Int × Int) × (Int × Int))) × (Int × Int) × (Int × Int) × Int)) (a1 : Int) (a2 : Int) (N : Nat) : ∀ n : Nat, f33_R0 a0 a1 a2 N n = f33_L0 a0 a1 a2 N n
  | 0 => by
    funext v0_0
    funext v0_1
    funext v0_2
    rfl
  | n + 1 => by
    funext v0_0
    funext v0_1
    funext v0_2
    rw [f33_e0]
    simp only [f33_q0 a0 a1 a2 N n]
    rfl

noncomputable def f33_T (a0 : ((List ((Int × Int) × (Int × Int) × (Int × Int))) × (Int × Int) × (Int × Int) × Int)) (a1 : Int) (a2 : Int) (N : Nat) : Option (AV) := f33_s a0 a1 a2 (f33_L0 a0 a1 a2 N N)

theorem f33_ev (a0 : ((List ((Int × Int) × (Int × Int) × (Int × Int))) × (Int × Int) × (Int × Int) × Int)) (a1 : Int) (a2 : Int) (N : Nat) : evF X33 N Tryd.f33 [enc tRF a0, enc .int a1, enc .int a2] = f33_T a0 a1 a2 N := by
  have h : evF X33 N Tryd.f33 [enc tRF a0, enc .int a1, enc .int a2] = f33_s a0 a1 a2 (f33_R0 a0 a1 a2 N N) := by kernel_rfl
  rw [h, f33_q0]
  rfl
noncomputable def X34 : Ctx := { T := TT, G := GG, C := [(62, g62), (68, g68), (80, g80)], L := [(6, [0, 3, 4, 5, 7, 9, 11, 12, 13, 14, 15, 16, 17, 18, 19, 20, 21, 22, 23, 24, 25, 26, 27, 28, 29, 30, 31, 32, 34, 35, 36, 37, 38, 39, 40, 41, 42, 43, 44, 45, 46, 47, 48, 49, 50, 51, 52, 53, 54, 55, 56, 57, 58, 59], [])] }
noncomputable def f34_s0 (a0 : ((List ((Int × Int) × (Int × Int) × (Int × Int))) × (Int × Int) × (Int × Int) × Int)) (a1 : Int) (a2 : Int) (k0 : Int → ((List ((Int × Int) × (Int × Int) × (Int × Int))) × (Int × Int) × (Int × Int) × Int) → ((List ((Int × Int) × (Int × Int) × (Int × Int))) × (Int × Int) × (Int × Int) × Int) → Int → Int → Option (AV)) (v0_0 : Int) (v0_1 : ((List ((Int × Int) × (Int × Int) × (Int × Int))) × (Int × Int) × (Int × Int) × Int)) (v0_2 : ((List ((Int × Int) × (Int × Int) × (Int × Int))) × (Int × Int) × (Int × Int) × Int)) (v0_3 : Int) (v0_4 : Int) : Option (AV) :=
  bif (decide (v0_0 < (1000 : Int))) then
    bif decide (v0_1 = v0_2) && ((inReels3 v0_1 a1 v0_0)) then
      bif (!(amid a2 ((wornS v0_1 a1 v0_0).1) ((wornS v0_1 a1 v0_0).2))) then
        k0 (w64 (v0_0 + (1 : Int))) v0_1 v0_2 v0_3 v0_4
      else
        bif (decide (v0_3 < (0 : Int))) then
          k0 (w64 (v0_0 + (1 : Int))) v0_1 v0_2 v0_0 v0_0
        else
          k0 (w64 (v0_0 + (1 : Int))) v0_1 v0_2 v0_3 v0_0
    else
      none
  else
    bif (decide (v0_3 < (0 : Int))) then
      some (.tup [.agg [.int (0 : Int), .int (0 : Int)], .int (4 : Int)])
    else
      some (.tup [.agg [.int v0_3, .int v0_4], .int (0 : Int)])

noncomputable def f34_s (a0 : ((List ((Int × Int) × (Int × Int) × (Int × Int))) × (Int × Int) × (Int × Int) × Int)) (a1 : Int) (a2 : Int) (k0 : Int → ((List ((Int × Int) × (Int × Int) × (Int × Int))) × (Int × Int) × (Int × Int) × Int) → ((List ((Int × Int) × (Int × Int) × (Int × Int))) × (Int × Int) × (Int × Int) × Int) → Int → Int → Option (AV)) : Option (AV) :=
  bif (amid a1 (0 : Int) (w64 ((a0.1.length : Int) - (1 : Int)))) then
    bif (askOK a0 (amid a2 (0 : Int) (1200 : Int))) then
      bif (!decide (((askedF a0 (amid a2 (0 : Int) (1200 : Int))).2) = (0 : Int))) then
        some (.tup [.agg [.int (0 : Int), .int (0 : Int)], .int ((askedF a0 (amid a2 (0 : Int) (1200 : Int))).2)])
      else
        k0 (0 : Int) ((askedF a0 (amid a2 (0 : Int) (1200 : Int))).1) ((askedF a0 (amid a2 (0 : Int) (1200 : Int))).1) (-1 : Int) (-1 : Int)
    else
      none
  else
    bif (askOK a0 false) then
      bif (!decide (((askedF a0 false).2) = (0 : Int))) then
        some (.tup [.agg [.int (0 : Int), .int (0 : Int)], .int ((askedF a0 false).2)])
      else
        k0 (0 : Int) ((askedF a0 false).1) ((askedF a0 false).1) (-1 : Int) (-1 : Int)
    else
      none

noncomputable def f34_R0 (a0 : ((List ((Int × Int) × (Int × Int) × (Int × Int))) × (Int × Int) × (Int × Int) × Int)) (a1 : Int) (a2 : Int) (N : Nat) (n : Nat) (v0_0 : Int) (v0_1 : ((List ((Int × Int) × (Int × Int) × (Int × Int))) × (Int × Int) × (Int × Int) × Int)) (v0_2 : ((List ((Int × Int) × (Int × Int) × (Int × Int))) × (Int × Int) × (Int × Int) × Int)) (v0_3 : Int) (v0_4 : Int) : Option (AV) :=
  loopN (evC X34 N (sub [(1, 0), (1, 0), (1, 0), (1, 0), (0, 0), (1, 0), (0, 0), (0, 0)] (bodyOf Tryd.f34))) (keepOf X34.L (sub [(1, 0), (1, 0), (1, 0), (1, 0), (0, 0), (1, 0), (0, 0), (0, 0)] (bodyOf Tryd.f34))) n ⟨[.poison, .int a1, .int a2, .poison, .poison, .poison, .ref 6 [], .poison, .ref 8 [], .poison, .ref 10 [], .poison, .poison, .poison, .poison, .poison, .poison, .poison, .poison, .poison, .poison, .poison, .poison, .poison, .poison, .poison, .poison, .poison, .poison, .poison, .poison, .poison, .poison, .int v0_0, .poison, .poison, .poison, .poison, .poison, .poison, .poison, .poison, .poison, .poison, .poison, .poison, .poison, .poison, .poison, .poison, .poison, .poison, .poison, .poison, .poison, .poison, .poison, .poison, .poison, .poison], [.none, .none, .none, .none, .none, .none, .box (.agg [.int (0 : Int), .int (0 : Int)]), .none, .box (.agg [enc tRF v0_1, .tok 0 tRF v0_2]), .none, .box (.agg [.int v0_3, .int v0_4]), .none, .none, .none, .none, .none, .none, .none, .none, .none, .none, .none, .none, .none, .none, .none, .none, .none, .none, .none, .none, .none, .none, .none, .none, .none, .none, .none, .none, .none, .none, .none, .none, .none, .none, .none, .none, .none, .none, .none, .none, .none, .none, .none, .none, .none, .none, .none, .none, .none]⟩ (ctxK X34 N [(1, 0), (1, 0), (1, 0), (1, 0), (0, 0), (1, 0), (0, 0)] (bodyOf Tryd.f34) (finK X34 Tryd.f34))

theorem f34_e0 (a0 : ((List ((Int × Int) × (Int × Int) × (Int × Int))) × (Int × Int) × (Int × Int) × Int)) (a1 : Int) (a2 : Int) (N : Nat) (n : Nat) (v0_0 : Int) (v0_1 : ((List ((Int × Int) × (Int × Int) × (Int × Int))) × (Int × Int) × (Int × Int) × Int)) (v0_2 : ((List ((Int × Int) × (Int × Int) × (Int × Int))) × (Int × Int) × (Int × Int) × Int)) (v0_3 : Int) (v0_4 : Int) : f34_R0 a0 a1 a2 N (n + 1) v0_0 v0_1 v0_2 v0_3 v0_4 = f34_s0 a0 a1 a2 (f34_R0 a0 a1 a2 N n) v0_0 v0_1 v0_2 v0_3 v0_4 := by kernel_rfl

noncomputable def f34_L0 (a0 : ((List ((Int × Int) × (Int × Int) × (Int × Int))) × (Int × Int) × (Int × Int) × Int)) (a1 : Int) (a2 : Int) (N : Nat) : Nat → Int → ((List ((Int × Int) × (Int × Int) × (Int × Int))) × (Int × Int) × (Int × Int) × Int) → ((List ((Int × Int) × (Int × Int) × (Int × Int))) × (Int × Int) × (Int × Int) × Int) → Int → Int → Option (AV)
  | 0, _, _, _, _, _ => none
  | n + 1, v0_0, v0_1, v0_2, v0_3, v0_4 => f34_s0 a0 a1 a2 (f34_L0 a0 a1 a2 N n) v0_0 v0_1 v0_2 v0_3 v0_4

theorem f34_q0 (a0 : ((List ((Int × Int) × (Int × Int) × (Int × Int))) × (Int × Int) × (Int × Int) × Int)) (a1 : Int) (a2 : Int) (N : Nat) : ∀ n : Nat, f34_R0 a0 a1 a2 N n = f34_L0 a0 a1 a2 N n
  | 0 => by
    funext v0_0
    funext v0_1
    funext v0_2
    funext v0_3
    funext v0_4
    rfl
  | n + 1 => by
    funext v0_0
    funext v0_1
    funext v0_2
    funext v0_3
    funext v0_4
    rw [f34_e0]
    simp only [f34_q0 a0 a1 a2 N n]
    rfl

noncomputable def f34_T (a0 : ((List ((Int × Int) × (Int × Int) × (Int × Int))) × (Int × Int) × (Int × Int) × Int)) (a1 : Int) (a2 : Int) (N : Nat) : Option (AV) := f34_s a0 a1 a2 (f34_L0 a0 a1 a2 N N)

theorem f34_ev (a0 : ((List ((Int × Int) × (Int × Int) × (Int × Int))) × (Int × Int) × (Int × Int) × Int)) (a1 : Int) (a2 : Int) (N : Nat) : evF X34 N Tryd.f34 [enc tRF a0, enc .int a1, enc .int a2] = f34_T a0 a1 a2 N := by
  have h : evF X34 N Tryd.f34 [enc tRF a0, enc .int a1, enc .int a2] = f34_s a0 a1 a2 (f34_R0 a0 a1 a2 N N) := by kernel_rfl
  rw [h, f34_q0]
  rfl
noncomputable def X35 : Ctx := { T := TT, G := GG, C := [(53, g53), (55, g55), (56, g56), (65, g65), (78, g78), (81, g81)], L := [(6, [0, 4, 5, 7, 8, 11, 12, 13, 14, 15, 16, 17, 18, 19, 20, 21, 22, 23, 24, 25, 26, 27, 28, 29, 30, 31, 32, 33, 34, 35, 36, 37, 38, 39, 40, 41, 42, 43, 44, 45, 46], [])] }
noncomputable def f35_s0 (a0 : ((List ((Int × Int) × (Int × Int) × (Int × Int))) × (Int × Int) × (Int × Int) × Int)) (a1 : Int) (a2 : Int) (k0 : Int → Int → Int → Option (AV)) (v0_0 : Int) (v0_1 : Int) (v0_2 : Int) : Option (AV) :=
  bif (decide (v0_0 ≤ (999 : Int))) then
    bif (inReels3 a0 a1 v0_0) then
      bif (holds (wornS a0 a1 v0_0) a2) then
        bif (decide (v0_1 < (0 : Int))) then
          k0 (w64 (v0_0 + (1 : Int))) v0_0 v0_0
        else
          k0 (w64 (v0_0 + (1 : Int))) v0_1 v0_0
      else
        k0 (w64 (v0_0 + (1 : Int))) v0_1 v0_2
    else
      none
  else
    bif (decide (v0_1 < (0 : Int))) then
      some (.tup [.agg [.int (0 : Int), .int (0 : Int)], .int (4 : Int)])
    else
      some (.tup [.agg [.int v0_1, .int v0_2], .int (0 : Int)])

noncomputable def f35_s (a0 : ((List ((Int × Int) × (Int × Int) × (Int × Int))) × (Int × Int) × (Int × Int) × Int)) (a1 : Int) (a2 : Int) (k0 : Int → Int → Int → Option (AV)) : Option (AV) :=
  bif (isReelB a0 a1) then
    bif (askOK a0 (amid a2 (0 : Int) (1200 : Int))) then
      bif (!decide ((askedI a0 (amid a2 (0 : Int) (1200 : Int))) = (0 : Int))) then
        some (.tup [.agg [.int (0 : Int), .int (0 : Int)], .int (askedI a0 (amid a2 (0 : Int) (1200 : Int)))])
      else
        k0 (0 : Int) ((mk2 (-1 : Int) (-1 : Int)).1) ((mk2 (-1 : Int) (-1 : Int)).2)
    else
      none
  else
    bif (askOK a0 false) then
      bif (!decide ((askedI a0 false) = (0 : Int))) then
        some (.tup [.agg [.int (0 : Int), .int (0 : Int)], .int (askedI a0 false)])
      else
        k0 (0 : Int) ((mk2 (-1 : Int) (-1 : Int)).1) ((mk2 (-1 : Int) (-1 : Int)).2)
    else
      none

noncomputable def f35_R0 (a0 : ((List ((Int × Int) × (Int × Int) × (Int × Int))) × (Int × Int) × (Int × Int) × Int)) (a1 : Int) (a2 : Int) (N : Nat) (n : Nat) (v0_0 : Int) (v0_1 : Int) (v0_2 : Int) : Option (AV) :=
  loopN (evC X35 N (sub [(1, 0), (1, 0), (1, 0), (0, 0), (1, 0), (0, 0), (0, 0)] (bodyOf Tryd.f35))) (keepOf X35.L (sub [(1, 0), (1, 0), (1, 0), (0, 0), (1, 0), (0, 0), (0, 0)] (bodyOf Tryd.f35))) n ⟨[.poison, .int a1, .int a2, .ref 3 [], .poison, .poison, .ref 6 [], .poison, .poison, .ref 9 [], .int v0_0, .poison, .poison, .poison, .poison, .poison, .poison, .poison, .poison, .poison, .poison, .poison, .poison, .poison, .poison, .poison, .poison, .poison, .poison, .poison, .poison, .poison, .poison, .poison, .poison, .poison, .poison, .poison, .poison, .poison, .poison, .poison, .poison, .poison, .poison, .poison, .poison], [.none, .none, .none, .box (enc tRF a0), .none, .none, .box (.agg [.int (0 : Int), .int (0 : Int)]), .none, .none, .box (.agg [.int v0_1, .int v0_2]), .none, .none, .none, .none, .none, .none, .none, .none, .none, .none, .none, .none, .none, .none, .none, .none, .none, .none, .none, .none, .none, .none, .none, .none, .none, .none, .none, .none, .none, .none, .none, .none, .none, .none, .none, .none, .none]⟩ (ctxK X35 N [(1, 0), (1, 0), (1, 0), (0, 0), (1, 0), (0, 0)] (bodyOf Tryd.f35) (finK X35 Tryd.f35))

theorem f35_e0 (a0 : ((List ((Int × Int) × (Int × Int) × (Int × Int))) × (Int × Int) × (Int × Int) × Int)) (a1 : Int) (a2 : Int) (N : Nat) (n : Nat) (v0_0 : Int) (v0_1 : Int) (v0_2 : Int) : f35_R0 a0 a1 a2 N (n + 1) v0_0 v0_1 v0_2 = f35_s0 a0 a1 a2 (f35_R0 a0 a1 a2 N n) v0_0 v0_1 v0_2 := by kernel_rfl

noncomputable def f35_L0 (a0 : ((List ((Int × Int) × (Int × Int) × (Int × Int))) × (Int × Int) × (Int × Int) × Int)) (a1 : Int) (a2 : Int) (N : Nat) : Nat → Int → Int → Int → Option (AV)
  | 0, _, _, _ => none
  | n + 1, v0_0, v0_1, v0_2 => f35_s0 a0 a1 a2 (f35_L0 a0 a1 a2 N n) v0_0 v0_1 v0_2

theorem f35_q0 (a0 : ((List ((Int × Int) × (Int × Int) × (Int × Int))) × (Int × Int) × (Int × Int) × Int)) (a1 : Int) (a2 : Int) (N : Nat) : ∀ n : Nat, f35_R0 a0 a1 a2 N n = f35_L0 a0 a1 a2 N n
  | 0 => by
    funext v0_0
    funext v0_1
    funext v0_2
    rfl
  | n + 1 => by
    funext v0_0
    funext v0_1
    funext v0_2
    rw [f35_e0]
    simp only [f35_q0 a0 a1 a2 N n]
    rfl

noncomputable def f35_T (a0 : ((List ((Int × Int) × (Int × Int) × (Int × Int))) × (Int × Int) × (Int × Int) × Int)) (a1 : Int) (a2 : Int) (N : Nat) : Option (AV) := f35_s a0 a1 a2 (f35_L0 a0 a1 a2 N N)

theorem f35_ev (a0 : ((List ((Int × Int) × (Int × Int) × (Int × Int))) × (Int × Int) × (Int × Int) × Int)) (a1 : Int) (a2 : Int) (N : Nat) : evF X35 N Tryd.f35 [enc tRF a0, enc .int a1, enc .int a2] = f35_T a0 a1 a2 N := by
  have h : evF X35 N Tryd.f35 [enc tRF a0, enc .int a1, enc .int a2] = f35_s a0 a1 a2 (f35_R0 a0 a1 a2 N N) := by kernel_rfl
  rw [h, f35_q0]
  rfl

end Ev
end Go.Proofs.YtidnikjkpbmhhaaDoor
/- Reels, feet and showings: what the walks come to, in plain words. -/
set_option linter.unusedVariables false
set_option linter.unusedSimpArgs false
set_option maxRecDepth 4000
namespace Go.Proofs.YtidnikjkpbmhhaaDoor
namespace Ev

theorem f77_sp : ∃ (N : Nat) (r0 : AV), f77_T = some r0 ∧ wkAV r0 = enc tUsed unusedB := ⟨0, _, rfl, rfl⟩
theorem f88_sp (x0 : Fi) (x1 : Int) (x2 : (Int × Int)) (hp : followsOK x0 x1 x2 = true) : ∃ (N : Nat) (r0 : AV), f88_T x0 x1 x2 = some r0 ∧ wkAV r0 = .tup [enc tSpan ((followsF x0 x1 x2).1), enc .bool ((followsF x0 x1 x2).2)] := by
  have h : (decide (x0 = x0) && ((lastOK x0 (x1, (x2.1, (w64 (x2.2 + (1 : Int)))))))) = true := by simpa [lastOK, followsOK] using hp
  refine ⟨0, .tup [enc tSpan (lastF x0 (x1, (x2.1, (w64 (x2.2 + (1 : Int)))))), .bool _], by unfold f88_T f88_s; rw [h]; rfl, ?_⟩
  simp only [wkAV, wkL, wk_enc, followsF, Bool.and_true]
  rfl
theorem f53_sp (x0 : Int) (x1 : Int) : ∃ (N : Nat) (r0 : AV), f53_T x0 x1 = some r0 ∧ wkAV r0 = enc tSpan (mk2 x0 x1) := ⟨0, _, rfl, rfl⟩
theorem amid_tree (x0 x1 x2 : Int) : (bif (decide (x1 ≤ x0)) then some (AV.bool (decide (x0 ≤ x2))) else some (.bool false)) = some (.bool (amid x0 x1 x2)) := by
  unfold amid
  cases decide (x1 ≤ x0) <;> rfl
theorem legal_tree (x0 : Int × Int) (x1 x2 : Int) : (bif (decide (x1 ≤ x0.1)) then bif (decide (x0.1 ≤ x0.2)) then some (AV.bool (decide (x0.2 ≤ x2))) else some (.bool false) else some (.bool false)) = some (.bool (legal x0 x1 x2)) := by
  unfold legal
  cases decide (x1 ≤ x0.1) <;> cases decide (x0.1 ≤ x0.2) <;> rfl
theorem f55_sp (x0 : Int) (x1 : Int) (x2 : Int) : ∃ (N : Nat) (r0 : AV), f55_T x0 x1 x2 = some r0 ∧ wkAV r0 = enc .bool (amid x0 x1 x2) := ⟨0, .bool (amid x0 x1 x2), amid_tree x0 x1 x2, rfl⟩
theorem f56_sp (x0 : (Int × Int)) (x1 : Int) : ∃ (N : Nat) (r0 : AV), f56_T x0 x1 = some r0 ∧ wkAV r0 = enc .bool (holds x0 x1) := ⟨0, _, rfl, rfl⟩
theorem f58_sp (x0 : (Int × Int)) : ∃ (N : Nat) (r0 : AV), f58_T x0 = some r0 ∧ wkAV r0 = enc .bool (emptyS x0) := ⟨0, _, rfl, rfl⟩
theorem f68_sp (x0 : Int) (x1 : Int) (x2 : Int) : ∃ (N : Nat) (r0 : AV), f68_T x0 x1 x2 = some r0 ∧ wkAV r0 = enc .bool (amid x0 x1 x2) := ⟨0, .bool (amid x0 x1 x2), amid_tree x0 x1 x2, rfl⟩
theorem f69_sp (x0 : (Int × Int)) (x1 : Int) (x2 : Int) : ∃ (N : Nat) (r0 : AV), f69_T x0 x1 x2 = some r0 ∧ wkAV r0 = enc .bool (legal x0 x1 x2) := ⟨0, .bool (legal x0 x1 x2), legal_tree x0 x1 x2, rfl⟩
theorem f70_sp (x0 : (Int × Int)) (x1 : Int) (x2 : Int) : ∃ (N : Nat) (r0 : AV), f70_T x0 x1 x2 = some r0 ∧ wkAV r0 = enc .bool (legal x0 x1 x2) := ⟨0, .bool (legal x0 x1 x2), legal_tree x0 x1 x2, rfl⟩

theorem f117_sp (x0 : Fi) (x1 : Int) (x2 : Int) (hp : inReels3 x0 x1 x2 = true) : ∃ (N : Nat) (r0 : AV), f117_T x0 x1 x2 = some r0 ∧ wkAV r0 = enc .int (leastI x0 x1 x2) := by
  have h : (decide (0 ≤ x1) && decide (x1 < (x0.1.length : Int))) = true := hp
  exact ⟨0, .int (leastI x0 x1 x2), by unfold f117_T f117_s; rw [h]; rfl, rfl⟩
theorem f119_sp (x0 : Fi) (x1 : Int) (x2 : Int) (hp : inReels3 x0 x1 x2 = true) : ∃ (N : Nat) (r0 : AV), f119_T x0 x1 x2 = some r0 ∧ wkAV r0 = enc .int (mostI x0 x1 x2) := by
  have h : (decide (0 ≤ x1) && decide (x1 < (x0.1.length : Int))) = true := hp
  exact ⟨0, .int (mostI x0 x1 x2), by unfold f119_T f119_s; rw [h]; rfl, rfl⟩
theorem f80_sp (x0 : Fi) (x1 : Int) (x2 : Int) (hp : inReels3 x0 x1 x2 = true) : ∃ (N : Nat) (r0 : AV), f80_T x0 x1 x2 = some r0 ∧ wkAV r0 = enc tSpan (wornS x0 x1 x2) :=
  ⟨0, enc tSpan (wornS x0 x1 x2), by unfold f80_T f80_s; simp [hp, wornS, enc, encT], wk_enc _ _⟩
theorem f81_sp (x0 : Fi) (x1 : Int) (x2 : Int) (hp : inReels3 x0 x1 x2 = true) : ∃ (N : Nat) (r0 : AV), f81_T x0 x1 x2 = some r0 ∧ wkAV r0 = enc tSpan (wornS x0 x1 x2) := by
  have h : (decide (0 ≤ x1) && decide (x1 < (x0.1.length : Int))) = true := hp
  exact ⟨0, enc tSpan (wornS x0 x1 x2), by unfold f81_T f81_s; rw [h]; rfl, wk_enc _ _⟩

theorem len_lt {x : Fi} (hx : chkOK x = true) : x.1.length ≤ 70368744177664 := by
  unfold chkOK lenOK at hx
  exact Nat.le_of_ble_eq_true hx
theorem w64_succ {i n : Nat} (h : i < n) (hn : n ≤ 70368744177664) : w64 ((i : Int) + 1) = ((i + 1 : Nat) : Int) := by
  rw [w64_small (by omega) (by omega)]
  omega

def chkV (b : Bool) : Int := bif b then 0 else 10
theorem checkI_eq (x : Fi) : checkI x = chkV (checkB x) := by
  unfold checkI chkV
  cases checkB x <;> rfl

theorem f18_loop (x : Fi) (hx : chkOK x = true) (N : Nat) : ∀ (m i : Nat) (b : Bool), i + m = x.1.length → f18_L0 x N (m + 1) b i = some (.int (chkV (b && (x.1.drop i).all okReel)))
  | 0, i, b, h => by
    have e : f18_L0 x N (0 + 1) b i = f18_s0 x (f18_L0 x N 0) b i := rfl
    rw [e]
    unfold f18_s0
    have h1 : decide ((i : Int) < (x.1.length : Int)) = false := by simp; omega
    rw [h1, List.drop_eq_nil_of_le (by omega)]
    cases b <;> rfl
  | m + 1, i, b, h => by
    have e : f18_L0 x N (m + 1 + 1) b i = f18_s0 x (f18_L0 x N (m + 1)) b i := rfl
    rw [e]
    have hlt : i < x.1.length := by omega
    unfold f18_s0
    have h1 : decide ((i : Int) < (x.1.length : Int)) = true := by simp; omega
    have h2 : decide (0 ≤ (i : Int)) = true := by simp
    have hg : x.1.getD (i : Int).toNat (((0 : Int), (0 : Int)), ((0 : Int), (0 : Int)), ((0 : Int), (0 : Int))) = x.1[i] := by simp [List.getD, hlt]
    rw [hg, h1, h2, w64_succ hlt (len_lt hx), List.drop_eq_getElem_cons hlt]
    simp only [f18_loop x hx N m (i + 1) _ (by omega), List.all_cons, okReel]
    cases b <;> cases legal x.1[i].1 0 99 <;> cases legal x.1[i].2.1 0 99 <;> cases decide (x.1[i].1.1 ≤ x.1[i].2.1.2) <;> cases legal x.1[i].2.2 1 1200 <;> rfl

theorem f18_sp (x0 : Fi) (hp : chkOK x0 = true) : ∃ (N : Nat) (r0 : AV), f18_T x0 N = some r0 ∧ wkAV r0 = enc .int (checkI x0) := by
  refine ⟨x0.1.length + 1, .int (checkI x0), ?_, rfl⟩
  unfold f18_T f18_s
  have h := fun b => f18_loop x0 hp (x0.1.length + 1) x0.1.length 0 b (by omega)
  have h2 : ∀ b, f18_L0 x0 (x0.1.length + 1) (x0.1.length + 1) b 0 = some (.int (chkV (b && (x0.1.drop 0).all okReel))) := h
  simp only [h2, checkI_eq, checkB, List.drop_zero]
  cases amid (x0.1.length : Int) 1 6 <;> cases legal x0.2.1 1 20 <;> cases legal x0.2.2.1 0 50 <;> cases amid x0.2.2.2 1 6000 <;> cases x0.1.all okReel <;> rfl

theorem f19_loop (x : Fi) (hx : chkOK x = true) (N : Nat) : ∀ (m i : Nat) (b : Bool), i + m = x.1.length → f19_L0 x N (m + 1) b i = some (.int (chkV (b && (x.1.drop i).all okReel)))
  | 0, i, b, h => by
    have e : f19_L0 x N (0 + 1) b i = f19_s0 x (f19_L0 x N 0) b i := rfl
    rw [e]
    unfold f19_s0
    have h1 : decide ((i : Int) < (x.1.length : Int)) = false := by simp; omega
    rw [h1, List.drop_eq_nil_of_le (by omega)]
    cases b <;> rfl
  | m + 1, i, b, h => by
    have e : f19_L0 x N (m + 1 + 1) b i = f19_s0 x (f19_L0 x N (m + 1)) b i := rfl
    rw [e]
    have hlt : i < x.1.length := by omega
    unfold f19_s0
    have h1 : decide ((i : Int) < (x.1.length : Int)) = true := by simp; omega
    have h2 : decide (0 ≤ (i : Int)) = true := by simp
    have hg : x.1.getD (i : Int).toNat (((0 : Int), (0 : Int)), ((0 : Int), (0 : Int)), ((0 : Int), (0 : Int))) = x.1[i] := by simp [List.getD, hlt]
    rw [hg, h1, h2, w64_succ hlt (len_lt hx), List.drop_eq_getElem_cons hlt]
    simp only [f19_loop x hx N m (i + 1) _ (by omega), List.all_cons, okReel]
    cases b <;> cases legal x.1[i].1 0 99 <;> cases legal x.1[i].2.1 0 99 <;> cases decide (x.1[i].1.1 ≤ x.1[i].2.1.2) <;> cases legal x.1[i].2.2 1 1200 <;> rfl

theorem f19_sp (x0 : Fi) (hp : chkOK x0 = true) : ∃ (N : Nat) (r0 : AV), f19_T x0 N = some r0 ∧ wkAV r0 = enc .int (checkI x0) := by
  refine ⟨x0.1.length + 1, .int (checkI x0), ?_, rfl⟩
  unfold f19_T f19_s
  have h := fun b => f19_loop x0 hp (x0.1.length + 1) x0.1.length 0 b (by omega)
  have h2 : ∀ b, f19_L0 x0 (x0.1.length + 1) (x0.1.length + 1) b 0 = some (.int (chkV (b && (x0.1.drop 0).all okReel))) := h
  simp only [h2, checkI_eq, checkB, List.drop_zero]
  cases amid (x0.1.length : Int) 1 6 <;> cases legal x0.2.1 1 20 <;> cases legal x0.2.2.1 0 50 <;> cases amid x0.2.2.2 1 6000 <;> cases x0.1.all okReel <;> rfl

theorem f62_sp (x0 : Fi) (x1 : Bool) (hp : askOK x0 x1 = true) : ∃ (N : Nat) (r0 : AV), f62_T x0 x1 = some r0 ∧ wkAV r0 = .tup [.agg [enc tRF ((askedF x0 x1).1), .tok 0 tRF ((askedF x0 x1).1)], enc .int ((askedF x0 x1).2)] := by
  have h : chkOK x0 = true := hp
  unfold f62_T f62_s askedF askedI checkI
  rw [h]
  cases checkB x0 <;> cases x1
  · exact ⟨0, _, rfl, rfl⟩
  · exact ⟨0, _, rfl, rfl⟩
  · exact ⟨0, _, rfl, rfl⟩
  · refine ⟨0, _, rfl, ?_⟩
    simp only [wkAV, wkL, wk_enc]
    rfl
theorem f65_sp (x0 : Fi) (x1 : Bool) (hp : askOK x0 x1 = true) : ∃ (N : Nat) (r0 : AV), f65_T x0 x1 = some r0 ∧ wkAV r0 = enc .int (askedI x0 x1) := by
  have h : chkOK x0 = true := hp
  unfold f65_T f65_s askedI checkI
  rw [h]
  cases checkB x0 <;> cases x1 <;> exact ⟨0, _, rfl, rfl⟩
theorem f78_sp (x0 : Fi) (x1 : Int) : ∃ (N : Nat) (r0 : AV), f78_T x0 x1 = some r0 ∧ wkAV r0 = enc .bool (isReelB x0 x1) := ⟨0, _, rfl, rfl⟩

theorem asked_zero {x : Fi} {r : Bool} (h : askedI x r = 0) : checkB x = true ∧ r = true := by
  unfold askedI at h
  cases hc : checkB x <;> cases r <;> simp_all
theorem asked_true {x : Fi} (h : checkB x = true) : askedI x true = 0 := by simp [askedI, h]
theorem check_len {x : Fi} (h : checkB x = true) : 1 ≤ x.1.length ∧ x.1.length ≤ 6 := by
  simp only [checkB, amid, Bool.and_eq_true, decide_eq_true_eq] at h
  omega
theorem isReel_in {x : Fi} {k : Int} (h : checkB x = true) (hk : isReelB x k = true) : inReels x k = true := by
  have hl := check_len h
  simp only [isReelB, amid, Bool.and_eq_true, decide_eq_true_eq] at hk
  rw [w64_small (by omega) (by omega)] at hk
  simp only [inReels, Bool.and_eq_true, decide_eq_true_eq]
  omega

theorem f30_sp (x0 : Fi) (x1 : Int) (x2 : Int) (hp : chkOK3 x0 x1 x2 = true) : ∃ (N : Nat) (r0 : AV), f30_T x0 x1 x2 = some r0 ∧ wkAV r0 = .tup [enc tSpan ((WornI x0 x1 x2).1), enc .int ((WornI x0 x1 x2).2)] := by
  have h : ∀ r, askOK x0 r = true := fun _ => hp
  have e : f30_T x0 x1 x2 = (bif (!decide (((askedF x0 (isReelB x0 x1 && amid x2 0 999)).2) = (0 : Int))) then
        some (.tup [.agg [.int (0 : Int), .int (0 : Int)], .int ((askedF x0 (isReelB x0 x1 && amid x2 0 999)).2)])
      else
        bif decide (((askedF x0 (isReelB x0 x1 && amid x2 0 999)).1) = ((askedF x0 (isReelB x0 x1 && amid x2 0 999)).1)) && ((inReels3 ((askedF x0 (isReelB x0 x1 && amid x2 0 999)).1) x1 x2)) then
          some (.tup [enc tSpan (wornS ((askedF x0 (isReelB x0 x1 && amid x2 0 999)).1) x1 x2), .int (0 : Int)])
        else
          none) := by
    unfold f30_T f30_s
    simp only [h, cond_true]
    rw [show amid x1 (0 : Int) (w64 ((x0.1.length : Int) - (1 : Int))) = isReelB x0 x1 from rfl]
    cases isReelB x0 x1 <;> rfl
  rw [e]
  unfold WornI
  generalize hr : (isReelB x0 x1 && amid x2 0 999) = r
  by_cases h0 : askedI x0 r = 0
  · obtain ⟨hc, rfl⟩ := asked_zero h0
    rw [Bool.and_eq_true] at hr
    have hin : inReels3 x0 x1 x2 = true := isReel_in hc hr.1
    have e1 : (askedF x0 true) = (x0, 0) := by simp [askedF, h0]
    exact ⟨0, .tup [enc tSpan (wornS x0 x1 x2), .int 0], by simp [e1, hin], by simp [wkAV, wkL, wk_enc, wkT_enc, h0, enc]⟩
  · exact ⟨0, .tup [.agg [.int 0, .int 0], .int (askedI x0 r)], by simp [askedF, h0], by simp [wkAV, wkL, h0, enc, encT]⟩
theorem f31_sp (x0 : Fi) (x1 : Int) (x2 : Int) (hp : chkOK3 x0 x1 x2 = true) : ∃ (N : Nat) (r0 : AV), f31_T x0 x1 x2 = some r0 ∧ wkAV r0 = .tup [enc tSpan ((WornI x0 x1 x2).1), enc .int ((WornI x0 x1 x2).2)] := by
  have h : ∀ r, askOK x0 r = true := fun _ => hp
  have e : f31_T x0 x1 x2 = (bif (!decide (((askedI x0 (isReelB x0 x1 && amid x2 0 999))) = (0 : Int))) then
        some (.tup [.agg [.int (0 : Int), .int (0 : Int)], .int ((askedI x0 (isReelB x0 x1 && amid x2 0 999)))])
      else
        bif (inReels3 x0 x1 x2) then
          some (.tup [enc tSpan (wornS x0 x1 x2), .int (0 : Int)])
        else
          none) := by
    unfold f31_T f31_s
    simp only [h, cond_true]
    cases isReelB x0 x1 <;> rfl
  rw [e]
  unfold WornI
  generalize hr : (isReelB x0 x1 && amid x2 0 999) = r
  by_cases h0 : askedI x0 r = 0
  · obtain ⟨hc, rfl⟩ := asked_zero h0
    rw [Bool.and_eq_true] at hr
    have hin : inReels3 x0 x1 x2 = true := isReel_in hc hr.1
    exact ⟨0, .tup [enc tSpan (wornS x0 x1 x2), .int 0], by simp [h0, hin], by simp [wkAV, wkL, wk_enc, wkT_enc, h0, enc]⟩
  · exact ⟨0, .tup [.agg [.int 0, .int 0], .int (askedI x0 r)], by simp [h0], by simp [wkAV, wkL, h0, enc, encT]⟩

theorem f32_loop (x : Fi) (k w : Int) (hin : inReels x k = true) (N : Nat) : ∀ (m n : Nat) (s : Int × Int), n + m = 1000 → f32_L0 x k w N (m + 1) s.1 s.2 n x x = some (.tup [.int (shR x k w m n s).1, .int (shR x k w m n s).2, .int 0])
  | 0, n, s, h => by
    have e : f32_L0 x k w N (0 + 1) s.1 s.2 n x x = f32_s0 x k w (f32_L0 x k w N 0) s.1 s.2 n x x := rfl
    rw [e]
    unfold f32_s0
    have h1 : decide ((n : Int) < 1000) = false := by simp; omega
    rw [h1]
    rfl
  | m + 1, n, s, h => by
    have e : f32_L0 x k w N (m + 1 + 1) s.1 s.2 n x x = f32_s0 x k w (f32_L0 x k w N (m + 1)) s.1 s.2 n x x := rfl
    rw [e]
    unfold f32_s0
    have h1 : decide ((n : Int) < 1000) = true := by simp; omega
    have h2 : (decide (x = x) && inReels3 x k n) = true := by simpa [inReels3] using hin
    rw [h1, h2, w64_succ (n := 1000) (by omega) (by omega), shR, wornS]
    simp only [cond_true]
    have hl := fun s => f32_loop x k w hin N m (n + 1) s (by omega)
    by_cases c1 : w ≤ leastI x k n <;> by_cases c2 : w ≤ mostI x k n <;> simp only [c1, c2, decide_true, decide_false, cond_true, cond_false, if_true, if_false]
    · exact hl ((n : Int), (n : Int))
    · exact hl ((n : Int), s.2)
    · exact hl (s.1, (n : Int))
    · exact hl s
theorem f33_loop (x : Fi) (k w : Int) (hin : inReels x k = true) (N : Nat) : ∀ (m n : Nat) (s : Int × Int), n + m = 1000 → f33_L0 x k w N (m + 1) s.1 s.2 n = (bif decide ((shR x k w m n s).2 < 0) then some (.tup [.int 0, .int 0, .int 4]) else some (.tup [.int (shR x k w m n s).1, .int (shR x k w m n s).2, .int 0]))
  | 0, n, s, h => by
    have e : f33_L0 x k w N (0 + 1) s.1 s.2 n = f33_s0 x k w (f33_L0 x k w N 0) s.1 s.2 n := rfl
    rw [e]
    unfold f33_s0
    have h1 : decide ((n : Int) ≤ 999) = false := by simp; omega
    rw [h1]
    rfl
  | m + 1, n, s, h => by
    have e : f33_L0 x k w N (m + 1 + 1) s.1 s.2 n = f33_s0 x k w (f33_L0 x k w N (m + 1)) s.1 s.2 n := rfl
    rw [e]
    unfold f33_s0
    have h1 : decide ((n : Int) ≤ 999) = true := by simp; omega
    have h2 : inReels3 x k n = true := hin
    rw [h1, h2, w64_succ (n := 1000) (by omega) (by omega), shR, wornS]
    simp only [cond_true]
    have hl := fun s => f33_loop x k w hin N m (n + 1) s (by omega)
    by_cases c1 : w ≤ leastI x k n <;> by_cases c2 : w ≤ mostI x k n <;> simp only [c1, c2, decide_true, decide_false, cond_true, cond_false, if_true, if_false]
    · exact hl ((n : Int), (n : Int))
    · exact hl ((n : Int), s.2)
    · exact hl (s.1, (n : Int))
    · exact hl s

theorem reel_of {x : Fi} {k : Int} (hc : checkB x = true) (hin : inReels x k = true) : okReel (reelAt x k) = true := by
  simp only [inReels, Bool.and_eq_true, decide_eq_true_eq] at hin
  obtain ⟨h0, h1⟩ := hin
  have hall : x.1.all okReel = true := by
    simp only [checkB, Bool.and_eq_true] at hc
    exact hc.2.2.2.2
  rw [List.all_eq_true] at hall
  unfold reelAt
  have hlt : k.toNat < x.1.length := by omega
  have : x.1.getD k.toNat zR = x.1[k.toNat] := by simp [List.getD, hlt]
  rw [this]
  exact hall _ (List.getElem_mem hlt)
theorem most_mono {x : Fi} {k : Int} (hc : checkB x = true) (hin : inReels x k = true) {n : Nat} (hn : n ≤ 1000) : mostI x k n ≤ mostI x k 0 := by
  have hr := reel_of hc hin
  simp only [okReel, legal, Bool.and_eq_true, decide_eq_true_eq] at hr
  simp only [checkB, legal, Bool.and_eq_true, decide_eq_true_eq] at hc
  obtain ⟨_, _, _, h1, h2, h3⟩ := hr
  have ht := hc.2.2.1
  unfold mostI
  generalize (reelAt x k).2.2.2 = H at *
  generalize (reelAt x k).2.2.1 = L at *
  generalize x.2.2.1.1 = T at *
  have hT0 : 0 ≤ T := ht.1
  have hT1 : T ≤ 50 := by omega
  have e1 : (n : Int) * T ≤ 1000 * 50 := Int.mul_le_mul (by omega) hT1 hT0 (by omega)
  have e0 : 0 ≤ (n : Int) * T := Int.mul_nonneg (by omega) hT0
  rw [w64_small (n := (n : Int) * T) (by omega) (by omega), w64_small (n := H - (n : Int) * T) (by omega) (by omega)]
  rw [show (0 : Int) * T = 0 by omega, w64_small (n := 0) (by omega) (by omega), w64_small (n := H - 0) (by omega) (by omega)]
  unfold maxI
  split <;> split <;> omega

theorem shR_some (x : Fi) (k w : Int) : ∀ (m n : Nat) (s : Int × Int), 0 ≤ s.2 → 0 ≤ (shR x k w m n s).2
  | 0, n, s, h => h
  | m + 1, n, s, h => by
    rw [shR]
    refine shR_some x k w m (n + 1) _ ?_
    dsimp only
    split <;> omega
theorem shR_none {x : Fi} {k w : Int} (hc : checkB x = true) (hin : inReels x k = true) (hw : mostI x k 0 < w) : ∀ (m n : Nat) (s : Int × Int), n + m = 1000 → (shR x k w m n s).2 = s.2
  | 0, n, s, h => rfl
  | m + 1, n, s, h => by
    rw [shR, shR_none hc hin hw m (n + 1) _ (by omega)]
    have := most_mono hc hin (n := n) (by omega)
    dsimp only
    rw [if_neg (by omega)]

theorem shows_none {x : Fi} {k w : Int} (hc : checkB x = true) (hin : inReels x k = true) : (shR x k w 1000 0 (-1, -1)).2 < 0 ↔ mostI x k 0 < w := by
  constructor
  · intro h
    apply Classical.byContradiction
    intro hn
    have : 0 ≤ (shR x k w 1000 0 (-1, -1)).2 := by
      rw [show (1000 : Nat) = 999 + 1 from rfl, shR]
      refine shR_some x k w 999 1 _ ?_
      dsimp only
      rw [if_pos (by have := Int.not_lt.1 hn; simpa using this)]
      decide
    omega
  · intro h
    rw [shR_none hc hin h 1000 0 _ (by omega)]
    decide

theorem f32_sp (x0 : Fi) (x1 : Int) (x2 : Int) (hp : chkOK3 x0 x1 x2 = true) : ∃ (N : Nat) (r0 : AV), f32_T x0 x1 x2 N = some r0 ∧ wkAV r0 = .tup [enc .int ((ShowsI x0 x1 x2).1), enc .int ((ShowsI x0 x1 x2).2.1), enc .int ((ShowsI x0 x1 x2).2.2)] := by
  have h : ∀ r, askOK x0 r = true := fun _ => hp
  refine ⟨1001, ?_⟩
  have e : f32_T x0 x1 x2 1001 = (bif (!decide (((askedF x0 (isReelB x0 x1 && amid x2 1 1200)).2) = (0 : Int))) then
        some (.tup [.int (0 : Int), .int (0 : Int), .int ((askedF x0 (isReelB x0 x1 && amid x2 1 1200)).2)])
      else
        bif decide (((askedF x0 (isReelB x0 x1 && amid x2 1 1200)).1) = ((askedF x0 (isReelB x0 x1 && amid x2 1 1200)).1)) && ((inReels3 ((askedF x0 (isReelB x0 x1 && amid x2 1 1200)).1) x1 0)) then
          bif (decide (((wornS ((askedF x0 (isReelB x0 x1 && amid x2 1 1200)).1) x1 (0 : Int)).2) < x2)) then
            some (.tup [.int (0 : Int), .int (0 : Int), .int (4 : Int)])
          else
            f32_L0 x0 x1 x2 1001 1001 (-1 : Int) (-1 : Int) (0 : Int) ((askedF x0 (isReelB x0 x1 && amid x2 1 1200)).1) ((askedF x0 (isReelB x0 x1 && amid x2 1 1200)).1)
        else
          none) := by
    unfold f32_T f32_s
    simp only [h, cond_true]
    rw [show amid x1 (0 : Int) (w64 ((x0.1.length : Int) - (1 : Int))) = isReelB x0 x1 from rfl]
    cases isReelB x0 x1 <;> rfl
  rw [e]
  unfold ShowsI
  generalize hr : (isReelB x0 x1 && amid x2 1 1200) = r
  by_cases h0 : askedI x0 r = 0
  · obtain ⟨hc, rfl⟩ := asked_zero h0
    rw [Bool.and_eq_true] at hr
    have hin := isReel_in hc hr.1
    have hin3 : inReels3 x0 x1 0 = true := hin
    have e1 : (askedF x0 true) = (x0, 0) := by simp [askedF, h0]
    have hl := f32_loop x0 x1 x2 hin 1001 1000 0 (-1, -1) (by omega)
    have hl' : f32_L0 x0 x1 x2 1001 1001 (-1) (-1) 0 x0 x0 = _ := hl
    rw [e1, if_pos h0]
    simp only [decide_true, Bool.not_true, cond_false, hin3, Bool.and_true, cond_true, hl']
    by_cases hw : (wornS x0 x1 0).2 < x2
    · rw [if_pos hw, decide_eq_true hw]
      exact ⟨_, rfl, rfl⟩
    · rw [if_neg hw, decide_eq_false hw]
      exact ⟨_, rfl, rfl⟩
  · exact ⟨.tup [.int 0, .int 0, .int (askedI x0 r)], by simp [askedF, h0], by simp [wkAV, wkL, h0, enc]⟩
theorem f33_sp (x0 : Fi) (x1 : Int) (x2 : Int) (hp : chkOK3 x0 x1 x2 = true) : ∃ (N : Nat) (r0 : AV), f33_T x0 x1 x2 N = some r0 ∧ wkAV r0 = .tup [enc .int ((ShowsI x0 x1 x2).1), enc .int ((ShowsI x0 x1 x2).2.1), enc .int ((ShowsI x0 x1 x2).2.2)] := by
  have h : ∀ r, askOK x0 r = true := fun _ => hp
  refine ⟨1001, ?_⟩
  have e : f33_T x0 x1 x2 1001 = (bif (!decide (((askedI x0 (isReelB x0 x1 && amid x2 1 1200))) = (0 : Int))) then
        some (.tup [.int (0 : Int), .int (0 : Int), .int ((askedI x0 (isReelB x0 x1 && amid x2 1 1200)))])
      else f33_L0 x0 x1 x2 1001 1001 (-1 : Int) (-1 : Int) (0 : Int)) := by
    unfold f33_T f33_s
    simp only [h, cond_true]
    cases isReelB x0 x1 <;> rfl
  rw [e]
  unfold ShowsI
  generalize hr : (isReelB x0 x1 && amid x2 1 1200) = r
  by_cases h0 : askedI x0 r = 0
  · obtain ⟨hc, rfl⟩ := asked_zero h0
    rw [Bool.and_eq_true] at hr
    have hin := isReel_in hc hr.1
    have hl := f33_loop x0 x1 x2 hin 1001 1000 0 (-1, -1) (by omega)
    have hl' : f33_L0 x0 x1 x2 1001 1001 (-1) (-1) 0 = _ := hl
    rw [h0, if_pos rfl]
    simp only [decide_true, Bool.not_true, cond_false, hl']
    have hn := shows_none (w := x2) hc hin
    by_cases hw : (wornS x0 x1 0).2 < x2
    · rw [if_pos hw, decide_eq_true (hn.2 hw)]
      exact ⟨_, rfl, rfl⟩
    · rw [if_neg hw, decide_eq_false fun h => hw (hn.1 h)]
      exact ⟨_, rfl, rfl⟩
  · exact ⟨.tup [.int 0, .int 0, .int (askedI x0 r)], by simp [h0], by simp [wkAV, wkL, h0, enc]⟩

theorem f34_loop (x : Fi) (k w : Int) (hin : inReels x k = true) (N : Nat) : ∀ (m n : Nat) (s : Int × Int), n + m = 1000 → f34_L0 x k w N (m + 1) n x x s.1 s.2 = (bif decide ((seR x k w m n s).1 < 0) then some (.tup [.agg [.int 0, .int 0], .int 4]) else some (.tup [.agg [.int (seR x k w m n s).1, .int (seR x k w m n s).2], .int 0]))
  | 0, n, s, h => by
    have e : f34_L0 x k w N (0 + 1) n x x s.1 s.2 = f34_s0 x k w (f34_L0 x k w N 0) n x x s.1 s.2 := rfl
    rw [e]
    unfold f34_s0
    have h1 : decide ((n : Int) < 1000) = false := by simp; omega
    rw [h1]
    rfl
  | m + 1, n, s, h => by
    have e : f34_L0 x k w N (m + 1 + 1) n x x s.1 s.2 = f34_s0 x k w (f34_L0 x k w N (m + 1)) n x x s.1 s.2 := rfl
    rw [e]
    unfold f34_s0
    have h1 : decide ((n : Int) < 1000) = true := by simp; omega
    have h2 : (decide (x = x) && inReels3 x k n) = true := by simpa [inReels3] using hin
    rw [h1, h2, w64_succ (n := 1000) (by omega) (by omega), seR, wornS]
    simp only [cond_true]
    have hl := fun s => f34_loop x k w hin N m (n + 1) s (by omega)
    cases c1 : amid w (leastI x k n) (mostI x k n) <;> by_cases c2 : s.1 < 0 <;> simp only [c2, decide_true, decide_false, cond_true, cond_false, if_true, if_false, Bool.not_true, Bool.not_false, Bool.false_eq_true]
    · exact hl s
    · exact hl s
    · exact hl ((n : Int), (n : Int))
    · exact hl (s.1, (n : Int))
theorem f35_loop (x : Fi) (k w : Int) (hin : inReels x k = true) (N : Nat) : ∀ (m n : Nat) (s : Int × Int), n + m = 1000 → f35_L0 x k w N (m + 1) n s.1 s.2 = (bif decide ((seR x k w m n s).1 < 0) then some (.tup [.agg [.int 0, .int 0], .int 4]) else some (.tup [.agg [.int (seR x k w m n s).1, .int (seR x k w m n s).2], .int 0]))
  | 0, n, s, h => by
    have e : f35_L0 x k w N (0 + 1) n s.1 s.2 = f35_s0 x k w (f35_L0 x k w N 0) n s.1 s.2 := rfl
    rw [e]
    unfold f35_s0
    have h1 : decide ((n : Int) ≤ 999) = false := by simp; omega
    rw [h1]
    rfl
  | m + 1, n, s, h => by
    have e : f35_L0 x k w N (m + 1 + 1) n s.1 s.2 = f35_s0 x k w (f35_L0 x k w N (m + 1)) n s.1 s.2 := rfl
    rw [e]
    unfold f35_s0
    have h1 : decide ((n : Int) ≤ 999) = true := by simp; omega
    have h2 : inReels3 x k n = true := hin
    rw [h1, h2, w64_succ (n := 1000) (by omega) (by omega), seR, wornS]
    simp only [cond_true, holds]
    have hl := fun s => f35_loop x k w hin N m (n + 1) s (by omega)
    cases c1 : amid w (leastI x k n) (mostI x k n) <;> by_cases c2 : s.1 < 0 <;> simp only [c2, decide_true, decide_false, cond_true, cond_false, if_true, if_false, Bool.not_true, Bool.not_false, Bool.false_eq_true]
    · exact hl s
    · exact hl s
    · exact hl ((n : Int), (n : Int))
    · exact hl (s.1, (n : Int))
theorem f34_sp (x0 : Fi) (x1 : Int) (x2 : Int) (hp : chkOK3 x0 x1 x2 = true) : ∃ (N : Nat) (r0 : AV), f34_T x0 x1 x2 N = some r0 ∧ wkAV r0 = .tup [enc tSpan ((SeenI x0 x1 x2).1), enc .int ((SeenI x0 x1 x2).2)] := by
  have h : ∀ r, askOK x0 r = true := fun _ => hp
  refine ⟨1001, ?_⟩
  have e : f34_T x0 x1 x2 1001 = (bif (!decide (((askedF x0 (isReelB x0 x1 && amid x2 0 1200)).2) = (0 : Int))) then
        some (.tup [.agg [.int (0 : Int), .int (0 : Int)], .int ((askedF x0 (isReelB x0 x1 && amid x2 0 1200)).2)])
      else
        f34_L0 x0 x1 x2 1001 1001 (0 : Int) ((askedF x0 (isReelB x0 x1 && amid x2 0 1200)).1) ((askedF x0 (isReelB x0 x1 && amid x2 0 1200)).1) (-1) (-1)) := by
    unfold f34_T f34_s
    simp only [h, cond_true]
    rw [show amid x1 (0 : Int) (w64 ((x0.1.length : Int) - (1 : Int))) = isReelB x0 x1 from rfl]
    cases isReelB x0 x1 <;> rfl
  rw [e]
  unfold SeenI
  generalize hr : (isReelB x0 x1 && amid x2 0 1200) = r
  by_cases h0 : askedI x0 r = 0
  · obtain ⟨hc, rfl⟩ := asked_zero h0
    rw [Bool.and_eq_true] at hr
    have hin := isReel_in hc hr.1
    have e1 : (askedF x0 true) = (x0, 0) := by simp [askedF, h0]
    have hl := f34_loop x0 x1 x2 hin 1001 1000 0 (-1, -1) (by omega)
    have hl' : f34_L0 x0 x1 x2 1001 1001 0 x0 x0 (-1) (-1) = _ := hl
    rw [e1, if_pos h0]
    simp only [decide_true, Bool.not_true, cond_false, hl']
    by_cases hw : (seR x0 x1 x2 1000 0 (-1, -1)).1 < 0
    · rw [if_pos hw, decide_eq_true hw]
      exact ⟨_, rfl, rfl⟩
    · rw [if_neg hw, decide_eq_false hw]
      exact ⟨_, rfl, rfl⟩
  · exact ⟨.tup [.agg [.int 0, .int 0], .int (askedI x0 r)], by simp [askedF, h0], by simp [wkAV, wkL, h0, enc, encT]⟩
theorem f35_sp (x0 : Fi) (x1 : Int) (x2 : Int) (hp : chkOK3 x0 x1 x2 = true) : ∃ (N : Nat) (r0 : AV), f35_T x0 x1 x2 N = some r0 ∧ wkAV r0 = .tup [enc tSpan ((SeenI x0 x1 x2).1), enc .int ((SeenI x0 x1 x2).2)] := by
  have h : ∀ r, askOK x0 r = true := fun _ => hp
  refine ⟨1001, ?_⟩
  have e : f35_T x0 x1 x2 1001 = (bif (!decide (((askedI x0 (isReelB x0 x1 && amid x2 0 1200))) = (0 : Int))) then
        some (.tup [.agg [.int (0 : Int), .int (0 : Int)], .int ((askedI x0 (isReelB x0 x1 && amid x2 0 1200)))])
      else f35_L0 x0 x1 x2 1001 1001 (0 : Int) (-1 : Int) (-1 : Int)) := by
    unfold f35_T f35_s
    simp only [h, cond_true]
    cases isReelB x0 x1 <;> rfl
  rw [e]
  unfold SeenI
  generalize hr : (isReelB x0 x1 && amid x2 0 1200) = r
  by_cases h0 : askedI x0 r = 0
  · obtain ⟨hc, rfl⟩ := asked_zero h0
    rw [Bool.and_eq_true] at hr
    have hin := isReel_in hc hr.1
    have hl := f35_loop x0 x1 x2 hin 1001 1000 0 (-1, -1) (by omega)
    have hl' : f35_L0 x0 x1 x2 1001 1001 0 (-1) (-1) = _ := hl
    rw [h0, if_pos rfl]
    simp only [decide_true, Bool.not_true, cond_false, hl']
    by_cases hw : (seR x0 x1 x2 1000 0 (-1, -1)).1 < 0
    · rw [if_pos hw, decide_eq_true hw]
      exact ⟨_, rfl, rfl⟩
    · rw [if_neg hw, decide_eq_false hw]
      exact ⟨_, rfl, rfl⟩
  · exact ⟨.tup [.agg [.int 0, .int 0], .int (askedI x0 r)], by simp [h0], by simp [wkAV, wkL, h0, enc, encT]⟩

end Ev
end Go.Proofs.YtidnikjkpbmhhaaDoor
/- A film in the calculation is opened with an empty memo. -/
set_option linter.unusedVariables false
set_option maxRecDepth 4000
namespace Go.Proofs.YtidnikjkpbmhhaaDoor
namespace Ev

theorem ctxM (x : Fi) : CtxOK Bs.env (X86 x) where
  T := chkAll_ok (B := Bs) rfl chkTT
  G := rfl
  C := fun f g h => nomatch h
  M := mixed
  K := fun i g h => nomatch h
  I := fun f it h => nomatch h
  mkm := fun d h => by
    cases h
    exact ⟨⟨x, rfl, fun e he => by simp at he⟩, fun V io W b hb hlt => .inl ⟨b, rfl, hlt, hb⟩⟩
  up := fun u h => nomatch h

theorem k86 : Good 86 g86 := ⟨ctr_of_each (fun args r h => by
  unfold g86 at h
  split at h
  · rename_i a0
    split at h
    · rename_i x h0
      simp only [Option.some.injEq, Prod.mk.injEq, true_and] at h
      subst h
      refine ⟨selfG (X86 x) 0 Tryd.f86, ctr_self (ctxM x) Tryd.func86, ?_⟩
      unfold selfG
      simp only [wkL, wk_dec h0, f86_ev, wkAV, wk_enc]
      rfl
    · cases h
  · cases h), Tryd.f86, Tryd.func86, by kernel_rfl, by kernel_rfl⟩

end Ev
end Go.Proofs.YtidnikjkpbmhhaaDoor
/- The contracts of reels, feet and showings. -/
set_option linter.unusedVariables false
set_option maxRecDepth 4000
namespace Go.Proofs.YtidnikjkpbmhhaaDoor
namespace Ev

theorem k77 : Good 77 g77 := ⟨ctr_ofN (B := Bs) (X := X77) (ctxOK rfl rfl rfl rfl rfl rfl AllC.nil) Tryd.func77 (fun args r h => by
  unfold g77 at h
  split at h
  · simp only [Option.some.injEq, Prod.mk.injEq, true_and] at h
    obtain ⟨N, r0, q1, q2⟩ := f77_sp
    exact ⟨N, r0, (f77_ev N).trans q1, q2.trans h⟩
  · cases h), Tryd.f77, Tryd.func77, by kernel_rfl, by kernel_rfl⟩
theorem k88 : Good 88 g88 := ⟨ctr_ofN (B := Bs) (X := X88) (ctxOK rfl rfl rfl rfl rfl rfl (AllC.cons k97 AllC.nil)) Tryd.func88 (fun args r h => by
  unfold g88 at h
  split at h
  · rename_i a0 t0 d0 a1 a2
    split at h
    · rename_i x0 y0 x1 x2 h0 k0 h1 h2
      simp only [Option.some.injEq, Prod.mk.injEq] at h
      obtain ⟨hp, rfl⟩ := h
      simp only [Bool.and_eq_true, decide_eq_true_eq] at hp
      obtain ⟨e0, hp⟩ := hp
      subst e0
      obtain ⟨N, r0, q1, q2⟩ := f88_sp x0 x1 x2 hp
      refine ⟨N, r0, ?_, q2⟩
      simp only [wkL, wk_film h0 k0, wk_dec h1, wk_dec h2]
      exact (f88_ev x0 x1 x2 N).trans q1
    · cases h
  · cases h), Tryd.f88, Tryd.func88, by kernel_rfl, by kernel_rfl⟩
theorem k53 : Good 53 g53 := ⟨ctr_ofN (B := Bs) (X := X53) (ctxOK rfl rfl rfl rfl rfl rfl AllC.nil) Tryd.func53 (fun args r h => by
  unfold g53 at h
  split at h
  · rename_i a0 a1
    split at h
    · rename_i x0 x1 h0 h1
      simp only [Option.some.injEq, Prod.mk.injEq] at h
      obtain ⟨hp, rfl⟩ := h
      obtain ⟨N, r0, q1, q2⟩ := f53_sp x0 x1
      refine ⟨N, r0, ?_, q2⟩
      simp only [wkL, wk_dec h0, wk_dec h1]
      exact (f53_ev x0 x1 N).trans q1
    · cases h
  · cases h), Tryd.f53, Tryd.func53, by kernel_rfl, by kernel_rfl⟩
theorem k55 : Good 55 g55 := ⟨ctr_ofN (B := Bs) (X := X55) (ctxOK rfl rfl rfl rfl rfl rfl AllC.nil) Tryd.func55 (fun args r h => by
  unfold g55 at h
  split at h
  · rename_i a0 a1 a2
    split at h
    · rename_i x0 x1 x2 h0 h1 h2
      simp only [Option.some.injEq, Prod.mk.injEq] at h
      obtain ⟨hp, rfl⟩ := h
      obtain ⟨N, r0, q1, q2⟩ := f55_sp x0 x1 x2
      refine ⟨N, r0, ?_, q2⟩
      simp only [wkL, wk_dec h0, wk_dec h1, wk_dec h2]
      exact (f55_ev x0 x1 x2 N).trans q1
    · cases h
  · cases h), Tryd.f55, Tryd.func55, by kernel_rfl, by kernel_rfl⟩
theorem k56 : Good 56 g56 := ⟨ctr_ofN (B := Bs) (X := X56) (ctxOK rfl rfl rfl rfl rfl rfl (AllC.cons k55 AllC.nil)) Tryd.func56 (fun args r h => by
  unfold g56 at h
  split at h
  · rename_i a0 a1
    split at h
    · rename_i x0 x1 h0 h1
      simp only [Option.some.injEq, Prod.mk.injEq] at h
      obtain ⟨hp, rfl⟩ := h
      obtain ⟨N, r0, q1, q2⟩ := f56_sp x0 x1
      refine ⟨N, r0, ?_, q2⟩
      simp only [wkL, wk_dec h0, wk_dec h1]
      exact (f56_ev x0 x1 N).trans q1
    · cases h
  · cases h), Tryd.f56, Tryd.func56, by kernel_rfl, by kernel_rfl⟩
theorem k58 : Good 58 g58 := ⟨ctr_ofN (B := Bs) (X := X58) (ctxOK rfl rfl rfl rfl rfl rfl AllC.nil) Tryd.func58 (fun args r h => by
  unfold g58 at h
  split at h
  · rename_i a0
    split at h
    · rename_i x0 h0
      simp only [Option.some.injEq, Prod.mk.injEq] at h
      obtain ⟨hp, rfl⟩ := h
      obtain ⟨N, r0, q1, q2⟩ := f58_sp x0
      refine ⟨N, r0, ?_, q2⟩
      simp only [wkL, wk_dec h0]
      exact (f58_ev x0 N).trans q1
    · cases h
  · cases h), Tryd.f58, Tryd.func58, by kernel_rfl, by kernel_rfl⟩
theorem k68 : Good 68 g68 := ⟨ctr_ofN (B := Bs) (X := X68) (ctxOK rfl rfl rfl rfl rfl rfl AllC.nil) Tryd.func68 (fun args r h => by
  unfold g68 at h
  split at h
  · rename_i a0 a1 a2
    split at h
    · rename_i x0 x1 x2 h0 h1 h2
      simp only [Option.some.injEq, Prod.mk.injEq] at h
      obtain ⟨hp, rfl⟩ := h
      obtain ⟨N, r0, q1, q2⟩ := f68_sp x0 x1 x2
      refine ⟨N, r0, ?_, q2⟩
      simp only [wkL, wk_dec h0, wk_dec h1, wk_dec h2]
      exact (f68_ev x0 x1 x2 N).trans q1
    · cases h
  · cases h), Tryd.f68, Tryd.func68, by kernel_rfl, by kernel_rfl⟩
theorem k69 : Good 69 g69 := ⟨ctr_ofN (B := Bs) (X := X69) (ctxOK rfl rfl rfl rfl rfl rfl AllC.nil) Tryd.func69 (fun args r h => by
  unfold g69 at h
  split at h
  · rename_i a0 a1 a2
    split at h
    · rename_i x0 x1 x2 h0 h1 h2
      simp only [Option.some.injEq, Prod.mk.injEq] at h
      obtain ⟨hp, rfl⟩ := h
      obtain ⟨N, r0, q1, q2⟩ := f69_sp x0 x1 x2
      refine ⟨N, r0, ?_, q2⟩
      simp only [wkL, wk_dec h0, wk_dec h1, wk_dec h2]
      exact (f69_ev x0 x1 x2 N).trans q1
    · cases h
  · cases h), Tryd.f69, Tryd.func69, by kernel_rfl, by kernel_rfl⟩
theorem k70 : Good 70 g70 := ⟨ctr_ofN (B := Bs) (X := X70) (ctxOK rfl rfl rfl rfl rfl rfl AllC.nil) Tryd.func70 (fun args r h => by
  unfold g70 at h
  split at h
  · rename_i a0 a1 a2
    split at h
    · rename_i x0 x1 x2 h0 h1 h2
      simp only [Option.some.injEq, Prod.mk.injEq] at h
      obtain ⟨hp, rfl⟩ := h
      obtain ⟨N, r0, q1, q2⟩ := f70_sp x0 x1 x2
      refine ⟨N, r0, ?_, q2⟩
      simp only [wkL, wk_dec h0, wk_dec h1, wk_dec h2]
      exact (f70_ev x0 x1 x2 N).trans q1
    · cases h
  · cases h), Tryd.f70, Tryd.func70, by kernel_rfl, by kernel_rfl⟩
theorem k117 : Good 117 g117 := ⟨ctr_ofN (B := Bs) (X := X117) (ctxOK rfl rfl rfl rfl rfl rfl AllC.nil) Tryd.func117 (fun args r h => by
  unfold g117 at h
  split at h
  · rename_i a0 t0 d0 a1 a2
    split at h
    · rename_i x0 y0 x1 x2 h0 k0 h1 h2
      simp only [Option.some.injEq, Prod.mk.injEq] at h
      obtain ⟨hp, rfl⟩ := h
      simp only [Bool.and_eq_true, decide_eq_true_eq] at hp
      obtain ⟨e0, hp⟩ := hp
      subst e0
      obtain ⟨N, r0, q1, q2⟩ := f117_sp x0 x1 x2 hp
      refine ⟨N, r0, ?_, q2⟩
      simp only [wkL, wk_film h0 k0, wk_dec h1, wk_dec h2]
      exact (f117_ev x0 x1 x2 N).trans q1
    · cases h
  · cases h), Tryd.f117, Tryd.func117, by kernel_rfl, by kernel_rfl⟩
theorem k119 : Good 119 g119 := ⟨ctr_ofN (B := Bs) (X := X119) (ctxOK rfl rfl rfl rfl rfl rfl AllC.nil) Tryd.func119 (fun args r h => by
  unfold g119 at h
  split at h
  · rename_i a0 t0 d0 a1 a2
    split at h
    · rename_i x0 y0 x1 x2 h0 k0 h1 h2
      simp only [Option.some.injEq, Prod.mk.injEq] at h
      obtain ⟨hp, rfl⟩ := h
      simp only [Bool.and_eq_true, decide_eq_true_eq] at hp
      obtain ⟨e0, hp⟩ := hp
      subst e0
      obtain ⟨N, r0, q1, q2⟩ := f119_sp x0 x1 x2 hp
      refine ⟨N, r0, ?_, q2⟩
      simp only [wkL, wk_film h0 k0, wk_dec h1, wk_dec h2]
      exact (f119_ev x0 x1 x2 N).trans q1
    · cases h
  · cases h), Tryd.f119, Tryd.func119, by kernel_rfl, by kernel_rfl⟩
theorem k80 : Good 80 g80 := ⟨ctr_ofN (B := Bs) (X := X80) (ctxOK rfl rfl rfl rfl rfl rfl (AllC.cons k117 (AllC.cons k119 AllC.nil))) Tryd.func80 (fun args r h => by
  unfold g80 at h
  split at h
  · rename_i a0 t0 d0 a1 a2
    split at h
    · rename_i x0 y0 x1 x2 h0 k0 h1 h2
      simp only [Option.some.injEq, Prod.mk.injEq] at h
      obtain ⟨hp, rfl⟩ := h
      simp only [Bool.and_eq_true, decide_eq_true_eq] at hp
      obtain ⟨e0, hp⟩ := hp
      subst e0
      obtain ⟨N, r0, q1, q2⟩ := f80_sp x0 x1 x2 hp
      refine ⟨N, r0, ?_, q2⟩
      simp only [wkL, wk_film h0 k0, wk_dec h1, wk_dec h2]
      exact (f80_ev x0 x1 x2 N).trans q1
    · cases h
  · cases h), Tryd.f80, Tryd.func80, by kernel_rfl, by kernel_rfl⟩
theorem k81 : Good 81 g81 := ⟨ctr_ofN (B := Bs) (X := X81) (ctxOK rfl rfl rfl rfl rfl rfl (AllC.cons k53 AllC.nil)) Tryd.func81 (fun args r h => by
  unfold g81 at h
  split at h
  · rename_i a0 a1 a2
    split at h
    · rename_i x0 x1 x2 h0 h1 h2
      simp only [Option.some.injEq, Prod.mk.injEq] at h
      obtain ⟨hp, rfl⟩ := h
      obtain ⟨N, r0, q1, q2⟩ := f81_sp x0 x1 x2 hp
      refine ⟨N, r0, ?_, q2⟩
      simp only [wkL, wk_dec h0, wk_dec h1, wk_dec h2]
      exact (f81_ev x0 x1 x2 N).trans q1
    · cases h
  · cases h), Tryd.f81, Tryd.func81, by kernel_rfl, by kernel_rfl⟩
theorem k18 : Good 18 g18 := ⟨ctr_ofN (B := Bs) (X := X18) (ctxOK rfl rfl rfl rfl rfl rfl (AllC.cons k68 (AllC.cons k69 AllC.nil))) Tryd.func18 (fun args r h => by
  unfold g18 at h
  split at h
  · rename_i a0
    split at h
    · rename_i x0 h0
      simp only [Option.some.injEq, Prod.mk.injEq] at h
      obtain ⟨hp, rfl⟩ := h
      obtain ⟨N, r0, q1, q2⟩ := f18_sp x0 hp
      refine ⟨N, r0, ?_, q2⟩
      simp only [wkL, wk_dec h0]
      exact (f18_ev x0 N).trans q1
    · cases h
  · cases h), Tryd.f18, Tryd.func18, by kernel_rfl, by kernel_rfl⟩
theorem k19 : Good 19 g19 := ⟨ctr_ofN (B := Bs) (X := X19) (ctxOK rfl rfl rfl rfl rfl rfl (AllC.cons k55 (AllC.cons k70 AllC.nil))) Tryd.func19 (fun args r h => by
  unfold g19 at h
  split at h
  · rename_i a0
    split at h
    · rename_i x0 h0
      simp only [Option.some.injEq, Prod.mk.injEq] at h
      obtain ⟨hp, rfl⟩ := h
      obtain ⟨N, r0, q1, q2⟩ := f19_sp x0 hp
      refine ⟨N, r0, ?_, q2⟩
      simp only [wkL, wk_dec h0]
      exact (f19_ev x0 N).trans q1
    · cases h
  · cases h), Tryd.f19, Tryd.func19, by kernel_rfl, by kernel_rfl⟩
theorem k62 : Good 62 g62 := ⟨ctr_ofN (B := Bs) (X := X62) (ctxOK rfl rfl rfl rfl rfl rfl (AllC.cons k18 (AllC.cons k86 AllC.nil))) Tryd.func62 (fun args r h => by
  unfold g62 at h
  split at h
  · rename_i a0 a1
    split at h
    · rename_i x0 x1 h0 h1
      simp only [Option.some.injEq, Prod.mk.injEq] at h
      obtain ⟨hp, rfl⟩ := h
      obtain ⟨N, r0, q1, q2⟩ := f62_sp x0 x1 hp
      refine ⟨N, r0, ?_, q2⟩
      simp only [wkL, wk_dec h0, wk_dec h1]
      exact (f62_ev x0 x1 N).trans q1
    · cases h
  · cases h), Tryd.f62, Tryd.func62, by kernel_rfl, by kernel_rfl⟩
theorem k65 : Good 65 g65 := ⟨ctr_ofN (B := Bs) (X := X65) (ctxOK rfl rfl rfl rfl rfl rfl (AllC.cons k19 AllC.nil)) Tryd.func65 (fun args r h => by
  unfold g65 at h
  split at h
  · rename_i a0 a1
    split at h
    · rename_i x0 x1 h0 h1
      simp only [Option.some.injEq, Prod.mk.injEq] at h
      obtain ⟨hp, rfl⟩ := h
      obtain ⟨N, r0, q1, q2⟩ := f65_sp x0 x1 hp
      refine ⟨N, r0, ?_, q2⟩
      simp only [wkL, wk_dec h0, wk_dec h1]
      exact (f65_ev x0 x1 N).trans q1
    · cases h
  · cases h), Tryd.f65, Tryd.func65, by kernel_rfl, by kernel_rfl⟩
theorem k78 : Good 78 g78 := ⟨ctr_ofN (B := Bs) (X := X78) (ctxOK rfl rfl rfl rfl rfl rfl (AllC.cons k55 AllC.nil)) Tryd.func78 (fun args r h => by
  unfold g78 at h
  split at h
  · rename_i a0 a1
    split at h
    · rename_i x0 x1 h0 h1
      simp only [Option.some.injEq, Prod.mk.injEq] at h
      obtain ⟨hp, rfl⟩ := h
      obtain ⟨N, r0, q1, q2⟩ := f78_sp x0 x1
      refine ⟨N, r0, ?_, q2⟩
      simp only [wkL, wk_dec h0, wk_dec h1]
      exact (f78_ev x0 x1 N).trans q1
    · cases h
  · cases h), Tryd.f78, Tryd.func78, by kernel_rfl, by kernel_rfl⟩
theorem k30 : Good 30 g30 := ⟨ctr_ofN (B := Bs) (X := X30) (ctxOK rfl rfl rfl rfl rfl rfl (AllC.cons k62 (AllC.cons k68 (AllC.cons k80 AllC.nil)))) Tryd.func30 (fun args r h => by
  unfold g30 at h
  split at h
  · rename_i a0 a1 a2
    split at h
    · rename_i x0 x1 x2 h0 h1 h2
      simp only [Option.some.injEq, Prod.mk.injEq] at h
      obtain ⟨hp, rfl⟩ := h
      obtain ⟨N, r0, q1, q2⟩ := f30_sp x0 x1 x2 hp
      refine ⟨N, r0, ?_, q2⟩
      simp only [wkL, wk_dec h0, wk_dec h1, wk_dec h2]
      exact (f30_ev x0 x1 x2 N).trans q1
    · cases h
  · cases h), Tryd.f30, Tryd.func30, by kernel_rfl, by kernel_rfl⟩
theorem k31 : Good 31 g31 := ⟨ctr_ofN (B := Bs) (X := X31) (ctxOK rfl rfl rfl rfl rfl rfl (AllC.cons k55 (AllC.cons k65 (AllC.cons k78 (AllC.cons k81 AllC.nil))))) Tryd.func31 (fun args r h => by
  unfold g31 at h
  split at h
  · rename_i a0 a1 a2
    split at h
    · rename_i x0 x1 x2 h0 h1 h2
      simp only [Option.some.injEq, Prod.mk.injEq] at h
      obtain ⟨hp, rfl⟩ := h
      obtain ⟨N, r0, q1, q2⟩ := f31_sp x0 x1 x2 hp
      refine ⟨N, r0, ?_, q2⟩
      simp only [wkL, wk_dec h0, wk_dec h1, wk_dec h2]
      exact (f31_ev x0 x1 x2 N).trans q1
    · cases h
  · cases h), Tryd.f31, Tryd.func31, by kernel_rfl, by kernel_rfl⟩
theorem k32 : Good 32 g32 := ⟨ctr_ofN (B := Bs) (X := X32) (ctxOK rfl rfl rfl rfl rfl rfl (AllC.cons k62 (AllC.cons k68 (AllC.cons k80 AllC.nil)))) Tryd.func32 (fun args r h => by
  unfold g32 at h
  split at h
  · rename_i a0 a1 a2
    split at h
    · rename_i x0 x1 x2 h0 h1 h2
      simp only [Option.some.injEq, Prod.mk.injEq] at h
      obtain ⟨hp, rfl⟩ := h
      obtain ⟨N, r0, q1, q2⟩ := f32_sp x0 x1 x2 hp
      refine ⟨N, r0, ?_, q2⟩
      simp only [wkL, wk_dec h0, wk_dec h1, wk_dec h2]
      exact (f32_ev x0 x1 x2 N).trans q1
    · cases h
  · cases h), Tryd.f32, Tryd.func32, by kernel_rfl, by kernel_rfl⟩
theorem k33 : Good 33 g33 := ⟨ctr_ofN (B := Bs) (X := X33) (ctxOK rfl rfl rfl rfl rfl rfl (AllC.cons k55 (AllC.cons k65 (AllC.cons k78 (AllC.cons k81 AllC.nil))))) Tryd.func33 (fun args r h => by
  unfold g33 at h
  split at h
  · rename_i a0 a1 a2
    split at h
    · rename_i x0 x1 x2 h0 h1 h2
      simp only [Option.some.injEq, Prod.mk.injEq] at h
      obtain ⟨hp, rfl⟩ := h
      obtain ⟨N, r0, q1, q2⟩ := f33_sp x0 x1 x2 hp
      refine ⟨N, r0, ?_, q2⟩
      simp only [wkL, wk_dec h0, wk_dec h1, wk_dec h2]
      exact (f33_ev x0 x1 x2 N).trans q1
    · cases h
  · cases h), Tryd.f33, Tryd.func33, by kernel_rfl, by kernel_rfl⟩
theorem k34 : Good 34 g34 := ⟨ctr_ofN (B := Bs) (X := X34) (ctxOK rfl rfl rfl rfl rfl rfl (AllC.cons k62 (AllC.cons k68 (AllC.cons k80 AllC.nil)))) Tryd.func34 (fun args r h => by
  unfold g34 at h
  split at h
  · rename_i a0 a1 a2
    split at h
    · rename_i x0 x1 x2 h0 h1 h2
      simp only [Option.some.injEq, Prod.mk.injEq] at h
      obtain ⟨hp, rfl⟩ := h
      obtain ⟨N, r0, q1, q2⟩ := f34_sp x0 x1 x2 hp
      refine ⟨N, r0, ?_, q2⟩
      simp only [wkL, wk_dec h0, wk_dec h1, wk_dec h2]
      exact (f34_ev x0 x1 x2 N).trans q1
    · cases h
  · cases h), Tryd.f34, Tryd.func34, by kernel_rfl, by kernel_rfl⟩
theorem k35 : Good 35 g35 := ⟨ctr_ofN (B := Bs) (X := X35) (ctxOK rfl rfl rfl rfl rfl rfl (AllC.cons k53 (AllC.cons k55 (AllC.cons k56 (AllC.cons k65 (AllC.cons k78 (AllC.cons k81 AllC.nil))))))) Tryd.func35 (fun args r h => by
  unfold g35 at h
  split at h
  · rename_i a0 a1 a2
    split at h
    · rename_i x0 x1 x2 h0 h1 h2
      simp only [Option.some.injEq, Prod.mk.injEq] at h
      obtain ⟨hp, rfl⟩ := h
      obtain ⟨N, r0, q1, q2⟩ := f35_sp x0 x1 x2 hp
      refine ⟨N, r0, ?_, q2⟩
      simp only [wkL, wk_dec h0, wk_dec h1, wk_dec h2]
      exact (f35_ev x0 x1 x2 N).trans q1
    · cases h
  · cases h), Tryd.f35, Tryd.func35, by kernel_rfl, by kernel_rfl⟩

end Ev
end Go.Proofs.YtidnikjkpbmhhaaDoor
/- The iterator of orders may be ranged over. -/
set_option linter.unusedVariables false
namespace Go.Proofs.YtidnikjkpbmhhaaDoor
namespace Ev

theorem itO_good : ICtr Bs 90 itO := itO_ok k77 k88
theorem ctxI {X : Ctx} (hT : X.T = TT) (hG : X.G = GG) (hK : X.K = []) (hI : X.I = [(90, itO)]) (hk : X.mkm = none) (hu : X.up = none) (hC : AllC X.C) : CtxOK Bs.env X where
  T := by rw [hT]; exact chkAll_ok (B := Bs) rfl chkTT
  G := hG
  C := fun f g h => hC f g h
  M := mixed
  K := fun i g h => by rw [hK] at h; cases h
  I := fun f it h => by
    rw [hI] at h
    simp only [findA] at h
    split at h
    · rename_i e
      cases h
      subst e
      exact ⟨itO_good, Tryd.f90, Tryd.func90, by kernel_rfl, by kernel_rfl⟩
    · cases h
  mkm := fun d h => by rw [hk] at h; cases h
  up := fun u h => by rw [hu] at h; cases h

end Ev
end Go.Proofs.YtidnikjkpbmhhaaDoor
/- Contracts that are the answers of the evaluator itself, for closed calls. -/
set_option linter.unusedVariables false
set_option maxRecDepth 4000
namespace Go.Proofs.YtidnikjkpbmhhaaDoor
namespace Ev

noncomputable def SX24 : Ctx := { T := TT, G := GG, C := [], L := [(3, [2, 3, 4, 7, 8, 9, 10, 11, 12, 13, 14, 15, 16, 17, 18, 19, 20, 21, 22, 23, 24, 25, 26, 27, 28, 29, 30], [0, 1])] }
noncomputable def sg24 : List AV → Option (Bool × AV) := selfG SX24 10 Tryd.f24
theorem sk24 : Good 24 sg24 := ⟨ctr_self (B := Bs) (ctxOK rfl rfl rfl rfl rfl rfl AllC.nil) Tryd.func24, Tryd.f24, Tryd.func24, by kernel_rfl, by kernel_rfl⟩
noncomputable def SX42 : Ctx := { T := TT, G := GG, C := [], L := [(3, [2, 3, 4, 7, 8, 9, 10, 11, 12, 13, 14, 15, 16, 17, 18, 19, 20, 21, 22, 23, 24, 25, 26, 27, 28, 29, 30], [0, 1])] }
noncomputable def sg42 : List AV → Option (Bool × AV) := selfG SX42 10 Tryd.f42
theorem sk42 : Good 42 sg42 := ⟨ctr_self (B := Bs) (ctxOK rfl rfl rfl rfl rfl rfl AllC.nil) Tryd.func42, Tryd.f42, Tryd.func42, by kernel_rfl, by kernel_rfl⟩
noncomputable def SX59 : Ctx := { T := TT, G := GG, C := [(53, g53)], L := [] }
noncomputable def sg59 : List AV → Option (Bool × AV) := selfG SX59 10 Tryd.f59
theorem sk59 : Good 59 sg59 := ⟨ctr_self (B := Bs) (ctxOK rfl rfl rfl rfl rfl rfl (AllC.cons k53 AllC.nil)) Tryd.func59, Tryd.f59, Tryd.func59, by kernel_rfl, by kernel_rfl⟩
noncomputable def SX76 : Ctx := { T := TT, G := GG, C := [], L := [(2, [2, 3, 4, 5, 6, 9, 10, 11, 12, 13, 14, 15, 16, 17, 18], [0])] }
noncomputable def sg76 : List AV → Option (Bool × AV) := selfG SX76 10 Tryd.f76
theorem sk76 : Good 76 sg76 := ⟨ctr_self (B := Bs) (ctxOK rfl rfl rfl rfl rfl rfl AllC.nil) Tryd.func76, Tryd.f76, Tryd.func76, by kernel_rfl, by kernel_rfl⟩
noncomputable def SX87 : Ctx := { T := TT, G := GG, C := [(76, sg76)], L := [] }
noncomputable def sg87 : List AV → Option (Bool × AV) := selfG SX87 10 Tryd.f87
theorem sk87 : Good 87 sg87 := ⟨ctr_self (B := Bs) (ctxOK rfl rfl rfl rfl rfl rfl (AllC.cons sk76 AllC.nil)) Tryd.func87, Tryd.f87, Tryd.func87, by kernel_rfl, by kernel_rfl⟩
noncomputable def SX63 : Ctx := { T := TT, G := GG, C := [(68, g68), (87, sg87)], L := [(2, [0, 3, 4, 5, 6, 10, 11, 12, 13, 14, 15, 16, 17, 18, 19, 20, 21, 22, 23, 24, 25, 26, 27, 28], [1, 7])] }
noncomputable def sg63 : List AV → Option (Bool × AV) := selfG SX63 10 Tryd.f63
theorem sk63 : Good 63 sg63 := ⟨ctr_self (B := Bs) (ctxOK rfl rfl rfl rfl rfl rfl (AllC.cons k68 (AllC.cons sk87 AllC.nil))) Tryd.func63, Tryd.f63, Tryd.func63, by kernel_rfl, by kernel_rfl⟩
noncomputable def SX64 : Ctx := { T := TT, G := GG, C := [(88, g88)], L := [(4, [0, 1, 2, 3, 4, 7, 8, 9, 10, 11, 12, 13, 17, 18, 19, 20, 21, 22, 23, 24, 25, 26, 27, 28, 29, 30], [14])] }
noncomputable def sg64 : List AV → Option (Bool × AV) := selfG SX64 10 Tryd.f64
theorem sk64 : Good 64 sg64 := ⟨ctr_self (B := Bs) (ctxOK rfl rfl rfl rfl rfl rfl (AllC.cons k88 AllC.nil)) Tryd.func64, Tryd.f64, Tryd.func64, by kernel_rfl, by kernel_rfl⟩
noncomputable def SX16 : Ctx := { T := TT, G := GG, C := [(62, g62), (63, sg63), (64, sg64)], L := [] }
noncomputable def sg16 : List AV → Option (Bool × AV) := selfG SX16 10 Tryd.f16
theorem sk16 : Good 16 sg16 := ⟨ctr_self (B := Bs) (ctxOK rfl rfl rfl rfl rfl rfl (AllC.cons k62 (AllC.cons sk63 (AllC.cons sk64 AllC.nil)))) Tryd.func16, Tryd.f16, Tryd.func16, by kernel_rfl, by kernel_rfl⟩
noncomputable def SX72 : Ctx := { T := TT, G := GG, C := [], L := [(3, [0, 1, 4, 5, 6, 7, 10, 11, 12, 13, 14, 15], [])] }
noncomputable def sg72 : List AV → Option (Bool × AV) := selfG SX72 10 Tryd.f72
theorem sk72 : Good 72 sg72 := ⟨ctr_self (B := Bs) (ctxOK rfl rfl rfl rfl rfl rfl AllC.nil) Tryd.func72, Tryd.f72, Tryd.func72, by kernel_rfl, by kernel_rfl⟩
noncomputable def SX75 : Ctx := { T := TT, G := GG, C := [], L := [] }
noncomputable def sg75 : List AV → Option (Bool × AV) := selfG SX75 10 Tryd.f75
theorem sk75 : Good 75 sg75 := ⟨ctr_self (B := Bs) (ctxOK rfl rfl rfl rfl rfl rfl AllC.nil) Tryd.func75, Tryd.f75, Tryd.func75, by kernel_rfl, by kernel_rfl⟩
noncomputable def SX99 : Ctx := { T := TT, G := GG, C := [], L := [(3, [0, 1, 2, 4, 5, 9, 10, 11, 12, 13, 14, 15, 16], [6])] }
noncomputable def sg99 : List AV → Option (Bool × AV) := selfG SX99 10 Tryd.f99
theorem sk99 : Good 99 sg99 := ⟨ctr_self (B := Bs) (ctxOK rfl rfl rfl rfl rfl rfl AllC.nil) Tryd.func99, Tryd.f99, Tryd.func99, by kernel_rfl, by kernel_rfl⟩
noncomputable def SX100 : Ctx := { T := TT, G := GG, C := [], L := [] }
noncomputable def sg100 : List AV → Option (Bool × AV) := selfG SX100 10 Tryd.f100
theorem sk100 : Good 100 sg100 := ⟨ctr_self (B := Bs) (ctxOK rfl rfl rfl rfl rfl rfl AllC.nil) Tryd.func100, Tryd.f100, Tryd.func100, by kernel_rfl, by kernel_rfl⟩
noncomputable def SX101 : Ctx := { T := TT, G := GG, C := [], L := [] }
noncomputable def sg101 : List AV → Option (Bool × AV) := selfG SX101 10 Tryd.f101
theorem sk101 : Good 101 sg101 := ⟨ctr_self (B := Bs) (ctxOK rfl rfl rfl rfl rfl rfl AllC.nil) Tryd.func101, Tryd.f101, Tryd.func101, by kernel_rfl, by kernel_rfl⟩
noncomputable def SX94 : Ctx := { T := TT, G := GG, C := [], L := [] }
noncomputable def sg94 : List AV → Option (Bool × AV) := selfG SX94 0 Tryd.f94
theorem sk94 : Good 94 sg94 := ⟨ctr_self (B := Bs) (ctxOK rfl rfl rfl rfl rfl rfl AllC.nil) Tryd.func94, Tryd.f94, Tryd.func94, by kernel_rfl, by kernel_rfl⟩
noncomputable def SX95 : Ctx := { T := TT, G := GG, C := [], L := [] }
noncomputable def sg95 : List AV → Option (Bool × AV) := selfG SX95 0 Tryd.f95
theorem sk95 : Good 95 sg95 := ⟨ctr_self (B := Bs) (ctxOK rfl rfl rfl rfl rfl rfl AllC.nil) Tryd.func95, Tryd.f95, Tryd.func95, by kernel_rfl, by kernel_rfl⟩
noncomputable def SX71 : Ctx := { T := TT, G := GG, C := [], L := [] }
noncomputable def sg71 : List AV → Option (Bool × AV) := selfG SX71 0 Tryd.f71
theorem sk71 : Good 71 sg71 := ⟨ctr_self (B := Bs) (ctxOK rfl rfl rfl rfl rfl rfl AllC.nil) Tryd.func71, Tryd.f71, Tryd.func71, by kernel_rfl, by kernel_rfl⟩
noncomputable def SX93 : Ctx := { T := TT, G := GG, C := [(80, g80), (99, sg99), (100, sg100), (101, sg101)], L := [(3, [0, 1, 3, 5, 6, 8, 10, 11, 15, 16, 17, 18, 19, 20, 21, 22, 23, 24, 25, 26, 27, 28, 29, 30, 31, 32, 33, 34, 35, 36, 37], [12])] }
noncomputable def sg93 : List AV → Option (Bool × AV) := selfG SX93 10 Tryd.f93
theorem sk93 : Good 93 sg93 := ⟨ctr_self (B := Bs) (ctxOK rfl rfl rfl rfl rfl rfl (AllC.cons k80 (AllC.cons sk99 (AllC.cons sk100 (AllC.cons sk101 AllC.nil))))) Tryd.func93, Tryd.f93, Tryd.func93, by kernel_rfl, by kernel_rfl⟩
noncomputable def SX82 : Ctx := { T := TT, G := GG, C := [(93, sg93), (94, sg94), (95, sg95)], L := [] }
noncomputable def sg82 : List AV → Option (Bool × AV) := selfG SX82 10 Tryd.f82
theorem sk82 : Good 82 sg82 := ⟨ctr_self (B := Bs) (ctxOK rfl rfl rfl rfl rfl rfl (AllC.cons sk93 (AllC.cons sk94 (AllC.cons sk95 AllC.nil)))) Tryd.func82, Tryd.f82, Tryd.func82, by kernel_rfl, by kernel_rfl⟩
noncomputable def SX36 : Ctx := { T := TT, G := GG, C := [(62, g62), (63, sg63), (68, g68), (82, sg82)], L := [] }
noncomputable def sg36 : List AV → Option (Bool × AV) := selfG SX36 10 Tryd.f36
theorem sk36 : Good 36 sg36 := ⟨ctr_self (B := Bs) (ctxOK rfl rfl rfl rfl rfl rfl (AllC.cons k62 (AllC.cons sk63 (AllC.cons k68 (AllC.cons sk82 AllC.nil))))) Tryd.func36, Tryd.f36, Tryd.func36, by kernel_rfl, by kernel_rfl⟩
noncomputable def SX20 : Ctx := { T := TT, G := GG, C := [(62, g62), (71, sg71), (72, sg72)], L := [(6, [19, 20, 21], [])], I := [(90, itO)], R := [(6, true)] }
noncomputable def sg20 : List AV → Option (Bool × AV) := selfG SX20 10 Tryd.f20
theorem sk20 : Good 20 sg20 := ⟨ctr_self (B := Bs) (ctxI rfl rfl rfl rfl rfl rfl (AllC.cons k62 (AllC.cons sk71 (AllC.cons sk72 AllC.nil)))) Tryd.func20, Tryd.f20, Tryd.func20, by kernel_rfl, by kernel_rfl⟩
noncomputable def SX22 : Ctx := { T := TT, G := GG, C := [(62, g62), (71, sg71), (72, sg72), (75, sg75)], L := [(6, [6, 19, 20, 21, 22, 23, 24, 25, 26], [])], I := [(90, itO)], R := [(6, false)] }
noncomputable def sg22 : List AV → Option (Bool × AV) := selfG SX22 10 Tryd.f22
theorem sk22 : Good 22 sg22 := ⟨ctr_self (B := Bs) (ctxI rfl rfl rfl rfl rfl rfl (AllC.cons k62 (AllC.cons sk71 (AllC.cons sk72 (AllC.cons sk75 AllC.nil))))) Tryd.func22, Tryd.f22, Tryd.func22, by kernel_rfl, by kernel_rfl⟩
noncomputable def SX26 : Ctx := { T := TT, G := GG, C := [(62, g62), (68, g68), (71, sg71), (72, sg72), (76, sg76), (77, g77)], L := [(12, [0, 1, 2, 3, 4, 5, 6, 7, 8, 9, 11, 12, 13, 14, 15, 16, 17, 18, 19, 20, 21, 22, 23, 24, 25, 26, 27, 28, 29, 30, 31, 32, 33, 34, 35, 36, 37, 38, 41, 42, 43, 44, 45, 46, 47, 48, 49, 50, 51, 52, 53, 54, 55], []), (7, [9, 31, 32, 33, 34, 35], [])], I := [(90, itO)], R := [(7, true)] }
noncomputable def sg26 : List AV → Option (Bool × AV) := selfG SX26 10 Tryd.f26
theorem sk26 : Good 26 sg26 := ⟨ctr_self (B := Bs) (ctxI rfl rfl rfl rfl rfl rfl (AllC.cons k62 (AllC.cons k68 (AllC.cons sk71 (AllC.cons sk72 (AllC.cons sk76 (AllC.cons k77 AllC.nil))))))) Tryd.func26, Tryd.f26, Tryd.func26, by kernel_rfl, by kernel_rfl⟩

end Ev
end Go.Proofs.YtidnikjkpbmhhaaDoor
/- The contexts of the search for strange reels. -/
set_option linter.unusedVariables false
set_option maxRecDepth 4000
namespace Go.Proofs.YtidnikjkpbmhhaaDoor
namespace Ev

noncomputable def X79 (g : List AV → (t : Ty) → t.den → List AV → Option (Bool × AV × List AV)) : Ctx := { T := TT, G := GG, C := [(71, sg71)], L := [(9, [0, 1, 3, 8, 11, 13, 14, 15, 16, 17, 18, 19, 20, 21, 22, 23, 24, 25, 26, 27, 28, 29, 30, 31, 32, 33, 34, 35, 36, 37, 38, 39, 40, 41, 42, 43, 44, 45, 46, 47, 48, 49, 50, 51, 52, 53, 54, 55, 56, 57, 58, 59, 60, 61, 62, 63], []), (3, [23, 24], [])], I := [(90, itO)], R := [(3, false)], K := [(4, g)] }
noncomputable def X28 (g : List AV → (t : Ty) → t.den → List AV → Option (Bool × AV × List AV)) : Ctx := { T := TT, G := GG, C := [(62, g62), (72, sg72)], L := [(7, [0, 1, 2, 3, 5, 7, 8, 9, 10, 11, 12, 13, 14, 15, 16, 17, 18, 19, 20, 23, 24, 25, 26, 27, 28, 29, 30, 31, 32, 33, 34, 35, 36, 37, 38, 39, 40], [])], K := [(4, g)] }

end Ev
end Go.Proofs.YtidnikjkpbmhhaaDoor
/- The search for strange reels: the function that names itself keeps its word. -/
set_option linter.unusedVariables false
set_option linter.unusedSimpArgs false
namespace Go.Proofs.YtidnikjkpbmhhaaDoor
namespace Ev

noncomputable def gCh : Nat → List AV → (t : Ty) → t.den → List AV → Option (Bool × AV × List AV)
  | 0 => fun _ _ _ _ => none
  | n + 1 => fun _ t d args =>
    match castD tCh t d with
    | some (x, y, z) => (match evT (X79 (gCh n)) 10 Tryd.f79 (wkL args ++ [.cref (.agg [enc tRF x, .tok 0 tRF y]) [], .cref (enc tRF z) [], .cref (.tok 4 tCh (x, y, z)) []]) with | some (r, items) => some (true, wkAV r, items) | none => none)
    | none => none

theorem ctxT {X : Ctx} {g : List AV → (t : Ty) → t.den → List AV → Option (Bool × AV × List AV)} (hT : X.T = TT) (hG : X.G = GG) (hK : X.K = [(4, g)]) (hI : X.I = [(90, itO)] ∨ X.I = []) (hk : X.mkm = none) (hu : X.up = none) (hC : AllC X.C) (hg : TCtr Bs.env 4 g) : CtxOK Bs.env X where
  T := by rw [hT]; exact chkAll_ok (B := Bs) rfl chkTT
  G := hG
  C := fun f g h => hC f g h
  M := mixed
  K := fun i g h => by
    rw [hK] at h
    simp only [findA] at h
    split at h
    · rename_i e
      cases h
      subst e
      exact hg
    · cases h
  I := fun f it h => by
    rcases hI with hI | hI
    · rw [hI] at h
      simp only [findA] at h
      split at h
      · rename_i e
        cases h
        subst e
        exact ⟨itO_good, Tryd.f90, Tryd.func90, by kernel_rfl, by kernel_rfl⟩
      · cases h
    · rw [hI] at h
      cases h
  mkm := fun d h => by rw [hk] at h; cases h
  up := fun u h => by rw [hu] at h; cases h

theorem cell_one {V : Nat → Nat → Prop} {W : World} {a : Addr} {v : Value} (h : oneAt V W a v) : Cells V W a [v] := fun i u hi => by
  cases i with
  | zero =>
    cases hi
    rw [add_zero]
    exact ⟨h.1, by simpa using h.2⟩
  | succ i => simp at hi

theorem ch_caps {V : Nat → Nat → Prop} {io : Io} {W : World} {x y z : tRF.den} {fa xa ca : Addr} {xv : Value} (hf : filmAt V io W x y fa) (hz : ∃ cs, CRel V W tRF z cs ∧ Cells V W xa cs) (ho : oneAt V W ca xv) (ht : TRr 4 tCh (x, y, z) V io W xv) :
    RelV TRr (baseCx V io) W [.cref (.agg [enc tRF x, .tok 0 tRF y]) [], .cref (enc tRF z) [], .cref (.tok 4 tCh (x, y, z)) []] [.pointer (some fa), .pointer (some xa), .pointer (some ca)] := by
  obtain ⟨cs, m, f1, f2, f3⟩ := hf
  obtain ⟨ds, z1, z2⟩ := hz
  simp only [RelV]
  refine ⟨_, _, rfl, .inr ⟨[.pointer (some fa)], rfl, ?_, rfl⟩, _, _, rfl, .inr ⟨[.pointer (some xa)], rfl, ?_, rfl⟩, _, _, rfl, .inr ⟨[.pointer (some ca)], rfl, ?_, rfl⟩, rfl⟩
  · simp only [Rel, RelL]
    obtain ⟨g1, g2⟩ := enc_rel (io := io) (TR := TRr) f1 (baseCx V io) rfl
    refine ⟨fa, cs ++ [m], ⟨cs, [m], rfl, by rw [CRel.length f1, g2], g1, [m], [], rfl, rfl, ⟨m, rfl, f3⟩, rfl⟩, f2, (fun _ h => nomatch h), by simp [offP, add_zero]⟩
  · simp only [Rel]
    obtain ⟨g1, g2⟩ := enc_rel (io := io) (TR := TRr) z1 (baseCx V io) rfl
    exact ⟨xa, ds, g1, z2, (fun _ h => nomatch h), by simp [offP, add_zero]⟩
  · simp only [Rel]
    exact ⟨ca, _, ⟨_, rfl, ht⟩, cell_one ho, (fun _ h => nomatch h), by simp [offP, add_zero]⟩

theorem ch_ctr : ∀ n : Nat, TCtr Bs.env 4 (gCh n)
  | 0 => by
    intro V io W tr t d xv args vs r items hb hn hM hJ ht hr hg
    cases hg
  | n + 1 => by
    intro V io W tr t d xv args vs r items hb hn hM hJ ht hr hg
    simp only [gCh] at hg
    split at hg
    · rename_i x y z hD
      split at hg
      · rename_i r0 items0 h0
        simp only [Option.some.injEq, Prod.mk.injEq, true_and] at hg
        obtain ⟨rfl, rfl⟩ := hg
        have e1 := castD_eq hD
        cases e1
        have ht' : TRr 4 tCh (x, y, z) V io W xv := ht
        have ht2 := ht'
        obtain ⟨x', y', z', e2, fa, xa, ca, hv, hfa, hxa, hca⟩ := ht2
        cases e2
        subst hv
        refine .inl ⟨_, [], [.pointer (some fa), .pointer (some xa), .pointer (some ca)], Tryd.f79, rfl, Tryd.func79, by kernel_rfl, by kernel_rfl, ?_⟩
        have hX : CtxOK Bs.env (X79 (gCh n)) := ctxT rfl rfl rfl (.inl rfl) rfl rfl (AllC.cons sk71 AllC.nil) (ch_ctr n)
        have hrel : RelV TRr (baseCx V io) W (wkL args ++ [.cref (.agg [enc tRF x, .tok 0 tRF y]) [], .cref (enc tRF z) [], .cref (.tok 4 tCh (x, y, z)) []]) (vs ++ [.pointer (some fa), .pointer (some xa), .pointer (some ca)]) :=
          relV_append (wkV_rel hr) (ch_caps hfa hxa hca ht')
        have := tctr_of (E := Bs.env) (tr := tr) (X := X79 (gCh n)) hX Tryd.func79 h0 hb hn hM hJ hrel
        refine Calls.mono this ?_
        rintro e W' ⟨v, rfl, io', q1, q2, q3, q4⟩
        exact ⟨v, rfl, io', vr_wk q1, q2, q3, q4⟩
      · cases hg
    · cases hg

noncomputable def sg28 : List AV → Option (Bool × AV) := selfZ (X28 (gCh 7)) 10 chFrz 5 Tryd.f28
theorem sk28 : Good 28 sg28 := ⟨ctr_selfZ (B := Bs) (ctxT rfl rfl rfl (.inr rfl) rfl rfl (AllC.cons k62 (AllC.cons sk72 AllC.nil)) (ch_ctr 7)) chFrz_ok Tryd.func28, Tryd.f28, Tryd.func28, by kernel_rfl, by kernel_rfl⟩

noncomputable def filmD : Fi := ([((10, 12), (20, 20), (900, 900)), ((1, 1), (9, 11), (950, 1000)), ((20, 22), (20, 30), (800, 820)), ((20, 31), (20, 40), (700, 700))], (6, 8), (1, 3), 2000)
noncomputable def mixedD : Fi := ([((10, 12), (20, 20), (900, 900)), ((1, 1), (5, 6), (950, 1000)), ((20, 22), (20, 30), (800, 820)), ((20, 31), (20, 40), (700, 700))], (6, 8), (1, 3), 2000)
theorem c28 : sg28 [enc tRF mixedD] = some (true, .tup [enc tInts ([1] : List Int), .int 0]) := by kernel_rfl

end Ev
end Go.Proofs.YtidnikjkpbmhhaaDoor
/- A slice of numbers that a function makes and writes itself: walked by hand beside the evaluator, which knows nothing of it. -/
set_option linter.unusedVariables false
set_option linter.unusedSimpArgs false
namespace Go.Proofs.YtidnikjkpbmhhaaDoor
namespace Ev

variable {B : Base} {V0 : Nat → Nat → Prop} {io0 : Io} {W0 : World} {C C' : Cx} {s s' s1 : St} {a a' : Act} {W W' : World} {X : Ctx}

def AllNone (s : St) : Prop := ∀ (k : Nat) (x : Ob), s.objs[k]? = some x → x = Ob.none
def noneB (s : St) : Bool := s.objs.all fun | .none => true | _ => false
theorem noneB_ok (h : noneB s = true) : AllNone s := fun k x hx => by
  have := List.all_eq_true.1 h x (List.mem_of_getElem? hx)
  cases x <;> simp_all

theorem plain_mine (S : Sim B.env V0 io0 W0 C s a W) (hs : AllNone s) (b : Nat) : ¬ mine noM C b := fun h => by
  rcases h with h | ⟨k, h⟩ | ⟨k, v, lo, hi, h, _⟩
  · exact h
  · obtain ⟨v, hv⟩ := S.bxn k b h
    exact nomatch hs k _ hv
  · exact nomatch hs k _ ((S.ln k v true).1 h)

/-- A slice of our own: nobody else knows its cells. -/
def OwnI (n0 : Nat) (C : Cx) (W : World) (v : Value) (l : List Int) : Prop :=
  (v = .slice none 0 0 ∧ l = []) ∨ ∃ b cs ty, v = .slice (some ⟨b, 0, none⟩) l.length cs.size ∧ n0 ≤ b ∧ W.heap[b]? = some (.cells cs ty (0, 0)) ∧ l.length ≤ cs.size ∧ (∀ (i : Nat) (x : Int), l[i]? = some x → cs[i]? = some (.int .i64 x)) ∧ ∀ o, C.V b o

theorem OwnI.step {n0 : Nat} {v : Value} {l : List Int} {D : Nat → Prop} (h : OwnI n0 C W v l) (S : Sim B.env V0 io0 W0 C s a W) (hs : AllNone s) (hf : Fm noM D a a' C C' W W') : OwnI n0 C' W' v l := by
  rcases h with h | ⟨b, cs, ty, h1, h2, h3, h4, h5, h6⟩
  · exact .inl h
  · have hlt := (Array.getElem?_eq_some_iff.1 h3).1
    refine .inr ⟨b, cs, ty, h1, h2, (hf.kx.kp.block b hlt (Cell.io_none S.iok h3 (fun _ _ h => nomatch h)) (plain_mine S hs b)).trans h3, h4, h5, fun o => ?_⟩
    rcases hf.kx.vo b o hlt (h6 o) with h | ⟨k0, v0, lo, hi, h, _⟩
    · exact h
    · exact nomatch hs k0 _ ((S.ln k0 v0 true).1 h)

/-- The world goes on, in cells that nobody knows. -/
theorem Sim.goes (S : Sim B.env V0 io0 W0 C s a W) (hs : AllNone s) {V' : Nat → Nat → Prop} (hst : Stab C.V V' W W') (hz : W.heap.size ≤ W'.heap.size) (hio : IoOK B.MI C.io W') (hk : Keep noM io0 C.io W0 W') (hV : ∀ b o, C.V b o → V' b o)
    (hVn : ∀ b o, V' b o → V0 b o ∨ (W0.heap.size ≤ b ∧ b < W'.heap.size)) (hdf : ∀ r x, W0.heap.size ≤ r → W.heap[r]? = some (Obj.deferred x) → W'.heap[r]? = some (Obj.deferred x)) : Sim B.env V0 io0 W0 { C with V := V' } s a W' := by
  have hle : CxLe C { C with V := V' } W W' := ⟨hst, fun _ _ h => h, fun k cu al h => ⟨cu, al, h, Nat.le_refl _, fun h _ => ⟨h, rfl⟩⟩, fun _ _ => rfl, hz⟩
  refine ⟨S.len, fun t x hx => ?_, S.df.imp fun r h1 h2 => hdf r _ h1 h2, (fun k v h => nomatch hs k _ h), S.bxn, S.inj, fun k b o h => hV b o (S.bxV k b o h), S.ln, fun k v b lo hi o h => ?_, S.tld, hVn, fun b o h => hV b o (S.V0V b o h), hio, fun g v h => ?_, hk, S.old0, S.n0, S.hM, fun k x y tr h1 h2 => trivial⟩
  · obtain ⟨v, h1, h2⟩ := S.tm t x hx
    exact ⟨v, h1, h2.mono B.hT hle⟩
  · exact nomatch hs k _ ((S.ln k v true).1 h)
  · exact Rel.mono B.hT (C := baseCx C.V C.io) (C' := baseCx V' C.io) ⟨hst, (fun _ _ h => by cases h), (fun _ _ _ h => by cases h), fun _ _ => rfl, hz⟩ (S.gl g v h)

theorem Sim.volWrite (S : Sim B.env V0 io0 W0 C s a W) (hs : AllNone s) {b : Nat} {cs cs' : Array Value} {ty : TypeId} (hb : W0.heap.size ≤ b) (hc : W.heap[b]? = some (.cells cs ty (0, 0))) (hV : ∀ o, C.V b o) : Sim B.env V0 io0 W0 C s a (W.setRow b cs') := by
  have hoth : ∀ j, j ≠ b → (W.setRow b cs').heap[j]? = W.heap[j]? := fun j hj => setRow_other W b j _ hj
  have hsize : (W.setRow b cs').heap.size = W.heap.size := by simp
  have hws : Wst W0.heap.size W (W.setRow b cs') := Wst.of_block hb (fun x e => by rw [hc] at e; cases e) rfl rfl rfl hsize hoth
  refine S.goes hs (V' := C.V) ⟨fun x v hx hv => ?_, fun _ _ _ h => h⟩ (by rw [hsize]; exact Nat.le_refl _) (fun b1 t d h => ?_) (S.kp.step hws) (fun _ _ h => h) (fun b o h => by rw [hsize]; exact S.Vn b o h) fun r x _ h => hws.dfr r x h
  · exact (cell_of_block (hoth x.block fun e => hv (e ▸ hV _))).trans hx
  · obtain ⟨es, ck, h1, h2⟩ := S.iok b1 t d h
    exact ⟨es, ck, (hoth b1 fun e => by rw [e, hc] at h1; cases h1).trans h1, h2⟩

theorem Sim.volAlloc (S : Sim B.env V0 io0 W0 C s a W) (hs : AllNone s) {W1 : World} (h1 : W1 = W ∨ W1 = W.drew) (o : Obj) : Sim B.env V0 io0 W0 { C with V := fun b o => C.V b o ∨ b = W.heap.size } s a (W1.alloc o) := by
  have hh : W1.heap = W.heap := by rcases h1 with rfl | rfl <;> rfl
  have hold : ∀ (b : Nat) (x : Obj), W.heap[b]? = some x → (W1.alloc o).heap[b]? = some x := fun b x h => heap_alloc_old' W1 o (by rw [hh]; exact h)
  have hsz : (W1.alloc o).heap.size = W.heap.size + 1 := by simp [hh]
  refine S.goes hs ⟨fun x v hx _ => ?_, fun b o hb h => h.resolve_right (by omega)⟩ (by omega) (fun b t d h => ?_) ?_ (fun _ _ h => .inl h) (fun b o h => ?_) fun r x _ h => hold r _ h
  · obtain ⟨cs, ty, fr, g1, _⟩ := cells_of_cell hx
    exact (cell_of_block ((hold _ _ g1).trans g1.symm)).trans hx
  · obtain ⟨es, ck, g1, g2⟩ := S.iok b t d h
    exact ⟨es, ck, hold _ _ g1, g2⟩
  · refine ⟨?_, ?_, ?_, by rw [hsz]; exact Nat.le_succ_of_le S.kp.size, fun b hb hi hm => ?_, S.kp.io⟩
    · rcases h1 with rfl | rfl <;> exact S.kp.os
    · rcases h1 with rfl | rfl <;> exact S.kp.tape
    · rcases h1 with rfl | rfl <;> exact S.kp.output
    · have := S.kp.block b hb hi hm
      rw [← this]
      have hlt : b < W.heap.size := Nat.lt_of_lt_of_le hb S.kp.size
      exact (hold b _ (Array.getElem?_eq_getElem hlt)).trans (Array.getElem?_eq_getElem hlt).symm
  · rw [hsz]
    rcases h with h | h
    · exact (S.Vn b o h).imp id fun h => ⟨h.1, by omega⟩
    · have := S.kp.size
      exact .inr ⟨by omega, by omega⟩

theorem grow_cell {l : List Int} {cs : Array Value} {x : Int} {olds : List Value} (hlen : olds.length = l.length) (ho : ∀ (i : Nat) (x : Int), l[i]? = some x → olds[i]? = some (.int .i64 x)) (zs : Array Value) :
    ∀ (i : Nat) (y : Int), (l ++ [x])[i]? = some y → (olds.toArray ++ #[Value.int .i64 x] ++ zs)[i]? = some (.int .i64 y) := fun i y hy => by
  rw [Array.append_assoc, Array.getElem?_append]
  rw [List.getElem?_append] at hy
  split at hy
  · rename_i h
    rw [if_pos (by simpa [hlen] using h)]
    simpa using ho i y hy
  · rename_i h
    rw [if_neg (by simpa [hlen] using h)]
    have e : i - l.length = 0 := by
      rcases Nat.eq_zero_or_pos (i - l.length) with h | h
      · exact h
      · rw [List.getElem?_eq_none (by simp; omega)] at hy
        cases hy
    rw [e] at hy
    simp only [List.getElem?_cons_zero, Option.some.injEq] at hy
    subst hy
    have : i - olds.toArray.size = 0 := by simpa [hlen] using e
    rw [this, Array.getElem?_append_left (by simp)]
    rfl

/-- One number more. -/
theorem own_append (S : Sim B.env V0 io0 W0 C s a W) (hs : AllNone s) {n0 : Nat} (hn0 : W0.heap.size = n0) {t e ty0 : Nat} {inf : TypeInfo} {zv : Value} (hu : B.P.underlying t = some (.slice e)) (hi : B.P.info? e = some inf) (hz : inf.zero = some zv) (hsz : inf.size = 1) (hby : inf.bytes = 8) (hzc : zv.cells.size = 1) {v : Value} {l : List Int} (ho : OwnI n0 C W v l) {ad : Addr} {c : Nat} {x : Int} (hx : W.cell? ad = some (.int .i64 x)) (hr : (l.length + 1) * 8 ≤ 70368744177664) :
    ∃ v' W' V', (Builtin.append_ #[t, t] ty0 #[v, .slice (some ad) 1 c]).run B.P W = .ok v' W' ∧ Sim B.env V0 io0 W0 { C with V := V' } s a W' ∧ OwnI n0 { C with V := V' } W' v' (l ++ [x]) := by
  have hnews : ∀ (j : Nat) (v : Value), [Value.int .i64 x][j]? = some v → W.cell? (ad.add j) = some v := fun j v hv => by
    cases j with
    | zero => cases hv; rw [add_zero]; exact hx
    | succ j => simp at hv
  rcases ho with ⟨rfl, rfl⟩ | ⟨b, cs, ty, rfl, h2, h3, h4, h5, h6⟩
  · have hrun := run_append_nil (P := B.P) W t ty0 e inf zv hu hi hz ad 1 c [Value.int .i64 x] (by rw [hsz]; rfl) hnews (by omega) (by omega) (by rw [hby]; omega)
    have hcap := grownCap_ge W 1 0 e
    have S' := S.volAlloc hs (.inr rfl) (.cells (#[Value.int .i64 x] ++ Builtin.zeroCells zv.cells (grownCap W 1 0 e - 1)) e)
    refine ⟨_, _, _, hrun, S', .inr ⟨W.heap.size, #[Value.int .i64 x] ++ Builtin.zeroCells zv.cells (grownCap W 1 0 e - 1), e, ?_, by have := S.kp.size; omega, heap_alloc_new' W.drew _, by simp, fun i y hy => ?_, fun o => .inr rfl⟩⟩
    · congr 1
      simp [size_zeroCells, hzc]
      omega
    · have := grow_cell (l := []) (cs := #[]) (x := x) (olds := []) rfl (fun i x h => by simp at h) (Builtin.zeroCells zv.cells (grownCap W 1 0 e - 1)) i y hy
      simpa using this
  · have hlt := (Array.getElem?_eq_some_iff.1 h3).1
    have hold : ∀ (j : Nat) (u : Value), (cs.toList.take l.length)[j]? = some u → W.cell? ((⟨b, 0, none⟩ : Addr).add j) = some u := fun j u hu => by
      rw [List.getElem?_take] at hu
      split at hu
      · have e : (⟨b, 0, none⟩ : Addr).add j = ⟨b, j, none⟩ := by unfold Addr.add; split <;> simp_all
        rw [e]
        unfold World.cell?
        simp only [h3]
        simpa using hu
      · cases hu
    by_cases hroom : l.length + 1 ≤ cs.size
    · have hrun := run_append_room' (P := B.P) W t ty0 e inf hu hi b l.length cs.size cs ty h3 ad 1 c [Value.int .i64 x] (by rw [hsz]; rfl) hnews (fun u hu => by simp at hu; subst hu; rfl) hroom (by rw [hsz]; simpa using hroom)
      rw [hsz] at hrun
      refine ⟨_, _, C.V, hrun, S.volWrite hs (by omega) h3 h6, .inr ⟨b, _, ty, ?_, h2, setRow_heap W b cs _ ty _ h3, ?_, fun i y hy => ?_, h6⟩⟩
      · congr 1
        · simp
        · simp; omega
      · simp; omega
      · simp only [Nat.mul_one, List.length_cons, List.length_nil, Nat.zero_add, List.getElem?_toArray]
        rw [List.getElem?_append] at hy
        rw [List.append_assoc, List.getElem?_append]
        split at hy
        · rename_i h
          rw [if_pos (by simp; omega), List.getElem?_take, if_pos h]
          simpa using h5 i y hy
        · rename_i h
          rw [if_neg (by simp; omega)]
          have e0 : i - l.length = 0 := by
            rcases Nat.eq_zero_or_pos (i - l.length) with h | h
            · exact h
            · rw [List.getElem?_eq_none (by simp; omega)] at hy
              cases hy
          rw [e0] at hy
          simp only [List.getElem?_cons_zero, Option.some.injEq] at hy
          subst hy
          have : i - (cs.toList.take l.length).length = 0 := by simp; omega
          rw [this]
          rfl
    · have hrun := run_append_grow (P := B.P) W t ty0 e inf zv hu hi hz ⟨b, 0, none⟩ l.length cs.size (cs.toList.take l.length) (by rw [hsz]; simp; omega) hold ad 1 c [Value.int .i64 x] (by rw [hsz]; rfl) hnews (by omega) (by omega)
        (growslice_fits (by omega) (by rw [hby]; omega))
      have hcap := grownCap_ge W (l.length + 1) cs.size e
      have S' := S.volAlloc hs (.inr rfl) (.cells ((cs.toList.take l.length).toArray ++ #[Value.int .i64 x] ++ Builtin.zeroCells zv.cells (grownCap W (l.length + 1) cs.size e - (l.length + 1))) e)
      have hln : (cs.toList.take l.length).length = l.length := by simp; omega
      refine ⟨_, _, _, hrun, S', .inr ⟨W.heap.size, (cs.toList.take l.length).toArray ++ #[Value.int .i64 x] ++ Builtin.zeroCells zv.cells (grownCap W (l.length + 1) cs.size e - (l.length + 1)), e, ?_, by have := S.kp.size; omega, heap_alloc_new' W.drew _, ?_, fun i y hy => ?_, fun o => .inr rfl⟩⟩
      · congr 1
        · simp
        · simp [size_zeroCells, hzc]
          omega
      · simp
        omega
      · exact grow_cell (cs := cs) hln (fun i x h => by
          have hi := (List.getElem?_eq_some_iff.1 h).1
          rw [List.getElem?_take, if_pos hi]
          simpa using h5 i x h) _ i y hy

end Ev
end Go.Proofs.YtidnikjkpbmhhaaDoor
/- The spools of a film: the code, piece by piece. -/
set_option linter.unusedVariables false
set_option maxRecDepth 4000
namespace Go.Proofs.YtidnikjkpbmhhaaDoor
namespace Ev

noncomputable def cz0 : Code := sub [(0, 0)] (bodyOf Tryd.f96)
noncomputable def cz1 : Code := sub [(1, 0), (0, 0)] (bodyOf Tryd.f96)
noncomputable def cz2 : Code := sub [(1, 0), (1, 0), (0, 0)] (bodyOf Tryd.f96)
noncomputable def cz3 : Code := sub [(1, 0), (1, 0), (1, 0), (0, 0), (0, 0)] (bodyOf Tryd.f96)
noncomputable def cz4 : Code := sub [(1, 0), (1, 0), (1, 0), (0, 0), (1, 0), (0, 0), (0, 0), (0, 0)] (bodyOf Tryd.f96)
noncomputable def cz13 : Code := sub [(1, 0), (1, 0), (1, 0), (0, 0), (1, 0), (0, 0), (0, 0), (1, 0), (1, 0), (1, 0)] (bodyOf Tryd.f96)
noncomputable def cz5 : Code := sub [(1, 0), (1, 0), (1, 0), (0, 0), (1, 0), (0, 0), (0, 0), (1, 0), (1, 0), (0, 0), (0, 0), (0, 0)] (bodyOf Tryd.f96)
noncomputable def cz6 : Code := sub [(1, 0), (1, 0), (1, 0), (0, 0), (1, 0), (0, 0), (0, 0), (1, 0), (1, 0), (0, 0), (0, 0), (1, 0), (0, 0)] (bodyOf Tryd.f96)
noncomputable def cz7 : Code := sub [(1, 0), (1, 0), (1, 0), (0, 0), (1, 0), (0, 0), (0, 0), (1, 0), (1, 0), (0, 0), (0, 0), (1, 0), (1, 0), (0, 0), (0, 0)] (bodyOf Tryd.f96)
noncomputable def cz8 : Code := sub [(1, 0), (1, 0), (1, 0), (0, 0), (1, 0), (0, 0), (0, 0), (1, 0), (1, 0), (0, 0), (0, 0), (1, 0), (1, 0), (0, 0), (1, 0), (0, 0)] (bodyOf Tryd.f96)
noncomputable def cz9 : Code := sub [(1, 0), (1, 0), (1, 0), (0, 0), (1, 0), (0, 0), (0, 0), (1, 0), (1, 0), (0, 0), (0, 0), (1, 0), (1, 0), (1, 0), (0, 0), (0, 0)] (bodyOf Tryd.f96)
noncomputable def cz10 : Code := sub [(1, 0), (1, 0), (1, 0), (0, 0), (1, 0), (0, 0), (0, 0), (1, 0), (1, 0), (0, 0), (0, 0), (1, 0), (1, 0), (1, 0), (0, 0), (1, 0), (0, 0)] (bodyOf Tryd.f96)
noncomputable def cz11 : Code := sub [(1, 0), (1, 0), (1, 0), (0, 0), (1, 0), (0, 0), (0, 0), (1, 0), (1, 0), (0, 0), (0, 0), (1, 0), (1, 0), (1, 0), (1, 0), (0, 0)] (bodyOf Tryd.f96)
noncomputable def cz12 : Code := sub [(1, 0), (1, 0), (1, 0), (0, 0), (1, 0), (0, 0), (0, 0), (1, 0), (1, 0), (0, 0), (0, 0), (1, 0), (1, 0), (1, 0), (1, 0), (1, 0)] (bodyOf Tryd.f96)
noncomputable def czE : Code := sub [(1, 0), (1, 0), (1, 0), (1, 0)] (bodyOf Tryd.f96)
noncomputable def czB : Code := .seq cz5 (.seq cz6 (.seq (.seq cz7 (.cond (.tmp 28) cz8 .skip)) (.seq (.seq cz9 (.cond (.tmp 31) cz10 .skip)) (.seq cz11 cz12))))
noncomputable def czL : Code := .seq cz4 (.seq (.cond (.tmp 16) .skip (.exit 0)) (.seq (.block 1 czB) cz13))
theorem spools_body : Tryd.f96.body = some (.seq cz0 (.seq cz1 (.seq cz2 (.seq (.seq cz3 (.block 0 (.loop czL))) czE)))) := by kernel_rfl
noncomputable def X96 : Ctx := { T := TT, G := GG, C := [(80, g80)], L := [] }
theorem ctx96 : CtxOK Bs.env X96 := ctxOK rfl rfl rfl rfl rfl rfl (AllC.cons k80 AllC.nil)

end Ev
end Go.Proofs.YtidnikjkpbmhhaaDoor
/- The spools of a film: walked by hand around the list that is written in place. -/
set_option linter.unusedVariables false
set_option linter.unusedSimpArgs false
set_option maxRecDepth 4000
namespace Go.Proofs.YtidnikjkpbmhhaaDoor
namespace Ev

variable {B : Base} {V0 : Nat → Nat → Prop} {io0 : Io} {W0 : World} {C C' : Cx} {s s' s1 : St} {a a' : Act} {W W' : World} {X : Ctx}

/-! Frames. -/
def frm (N : Nat) (m : List (Nat × AV)) : St := ⟨(List.range N).map fun k => match findA m k with | some v => v | none => .poison, List.replicate N .none⟩
/-- All that is new may turn. -/
def vCx (V : Nat → Nat → Prop) (W0 W : World) (io : Io) : Cx := baseCx (fun b o => V b o ∨ (W0.heap.size ≤ b ∧ b < W.heap.size)) io

theorem vCx_le (hb : BaseOK B V0 io0 W0) (S : Sim B.env V0 io0 W0 C s a W) : CxLe (baseCx V0 io0) (vCx V0 W0 W C.io) W0 W :=
  ⟨⟨(S.le0 hb).st.cell, fun b o hb h => h.resolve_right fun h => absurd h.1 (Nat.not_le_of_lt hb)⟩, (fun _ _ h => by cases h), (fun _ _ _ h => by cases h), S.kp.io, S.kp.size⟩

theorem frm_get {N : Nat} {m : List (Nat × AV)} {t : Nat} {x : AV} (h : (frm N m).tmps[t]? = some x) : t < N ∧ (x = .poison ∨ findA m t = some x) := by
  have h' : ((List.range N).map fun k => match findA m k with | some v => v | none => AV.poison)[t]? = some x := h
  rw [List.getElem?_map] at h'
  rcases Nat.lt_or_ge t N with hlt | hge
  · rw [List.getElem?_range hlt] at h'
    simp only [Option.map_some, Option.some.injEq] at h'
    refine ⟨hlt, ?_⟩
    cases hf : findA m t with
    | none => rw [hf] at h'; exact .inl h'.symm
    | some v => rw [hf] at h'; exact .inr (by rw [← h'])
  · rw [List.getElem?_eq_none (by simpa using hge)] at h'
    cases h'

/-- A frame, told anew: old things hold, numbers are numbers. -/
theorem frm_sim (hb : BaseOK B V0 io0 W0) (S : Sim B.env V0 io0 W0 C s a W) {N : Nat} (hN : a.tmps.size = N) (m : List (Nat × AV)) (hm : ∀ k v, findA m k = some v → ∃ u, a.tmps[k]? = some u ∧ (CxLe (baseCx V0 io0) (vCx V0 W0 W C.io) W0 W → VR B.TR (vCx V0 W0 W C.io) W v u)) : Sim B.env V0 io0 W0 (vCx V0 W0 W C.io) (frm N m) a W := by
  have hle := vCx_le hb S
  have hno : AllNone (frm N m) := fun k x h => List.eq_of_mem_replicate (List.mem_of_getElem? (show (List.replicate N Ob.none)[k]? = some x from h))
  refine ⟨by rw [hN]; simp [frm], fun t x hx => ?_, S.df, fun k v h => ?_, (fun k b h => by cases h), (fun k k' b h => by cases h), (fun k b o h => by cases h), fun k v al => ⟨(fun h => by cases h), fun h => ?_⟩, (fun k v b lo hi o h => by cases h), (fun k k' v v' b lo hi lo' hi' o h => by cases h), fun b o h => ?_, fun b o h => .inl h, S.iok, fun g v h => ?_, S.kp, S.old0, S.n0, S.hM, fun k x y tr h1 h2 => trivial⟩
  · obtain ⟨hlt, h | h⟩ := frm_get hx
    · subst h
      have hlt' : t < a.tmps.size := by omega
      exact ⟨a.tmps[t], Array.getElem?_eq_getElem hlt', .inl rfl⟩
    · obtain ⟨u, h1, h2⟩ := hm t x h
      exact ⟨u, h1, h2 hle⟩
  · exact nomatch hno k _ h
  · exact nomatch hno k _ h
  · exact h
  · exact Rel.mono B.hT (C := baseCx V0 io0) (C' := baseCx _ C.io) ⟨hle.st, (fun _ _ h => by cases h), (fun _ _ _ h => by cases h), hle.io, hle.size⟩ (hb.gl g v h)

theorem OwnI.reV {n0 : Nat} {v : Value} {l : List Int} (h : OwnI n0 C W v l) {V : Nat → Nat → Prop} {io : Io} (hn : W0.heap.size = n0) : OwnI n0 (vCx V W0 W io) W v l := by
  rcases h with h | ⟨b, cs, ty, h1, h2, h3, h4, h5, h6⟩
  · exact .inl h
  · exact .inr ⟨b, cs, ty, h1, h2, h3, h4, h5, fun o => .inr ⟨by omega, (Array.getElem?_eq_some_iff.1 h3).1⟩⟩

theorem Sim.intAt {E : Env} (S : Sim E V0 io0 W0 C s a W) {k : Nat} {z : Int} (h : s.tmps[k]? = some (.int z)) : a.tmps[k]? = some (.int .i64 z) := by
  obtain ⟨v, h1, h2⟩ := S.tm k _ h
  rw [h1, h2.int_inv]

theorem memN_iff : ∀ {l : List Nat} {k : Nat}, memN l k = false → k ∉ l
  | [], k, _ => by simp
  | x :: l, k, h => by
    unfold memN at h
    split at h
    · cases h
    · rename_i e
      simp only [List.mem_cons, not_or]
      exact ⟨fun e' => e e'.symm, memN_iff h⟩

/-- What a piece leaves alone. -/
theorem Fm.keep {M : Nat → Prop} {z : List Nat} {k : Nat} {v : Value} (hf : Fm M (fun k => k ∈ z) a a' C C' W W') (hz : memN z k = false) (h : a.tmps[k]? = some v) : a'.tmps[k]? = some v := (hf.tm k (memN_iff hz)).trans h

/-- A region in the order of the text, with what is to be collected. -/
theorem pieceD {E : Env} (hX : CtxOK E X) {z : Code} {id : Nat} {ops : Array Oper} {V0 : Nat → Nat → Prop} {io0 : Io} {W0 : World} (hz : z = .region id ops false) (hg : (ops.toList.all fun o => o.guard.isNone) = true) (h : steps X ops.toList ops.toList s = some s') (S : Sim E V0 io0 W0 C s a W) {Q : Exit → Act → World → Prop}
    (hQ : ∀ C' a' W', Sim E V0 io0 W0 C' s' a' W' → a'.defers = a.defers → Q .normal a' W') : z.wpIn (Fr none) 0 E.P Q a W := by
  subst hz
  exact region_textD hX none (fun o ho => by simpa using List.all_eq_true.1 hg o ho) h S hQ

/-! What is answered. -/
def incLast (l : List Int) : List Int := l.dropLast ++ [w64 (l.getLastD 0 + 1)]
def spGo (x : Fi) (n : Int) : List Int → List Int → Int → List Int × Bool
  | [], out, _ => (out, true)
  | k :: r, out, room =>
    if x.2.2.2 < mostI x k n then ([], false)
    else if room < mostI x k n then spGo x n r (incLast (out ++ [0])) (w64 (x.2.2.2 - mostI x k n))
    else spGo x n r (incLast out) (w64 (room - mostI x k n))
def spoolsF (x : Fi) (l : List Int) (n : Int) : List Int × Bool := spGo x n l [] (-1)
def spoolsOK (x : Fi) (l : List Int) (_ : Int) : Bool := decide (l.length ≤ 1000) && l.all (inReels x)

abbrev filmV (x : Fi) : AV := .agg [enc tRF x, .tok 0 tRF x]
noncomputable def run1 (c : Code) (s : St) : St := ((evC X96 0 c s cap).getD (.norm, ⟨[], []⟩)).2
noncomputable def stp (z : Code) (s : St) : St := (steps X96 (opsOf z).toList (opsOf z).toList s).getD ⟨[], []⟩

noncomputable def sA (x : Fi) (l : List Int) (n : Int) : St := st0 Tryd.f96 [filmV x, enc tInts l, .int n]
noncomputable def sA0 (x : Fi) (l : List Int) (n : Int) : St := stp cz0 (sA x l n)
noncomputable def sA1 (x : Fi) (l : List Int) (n : Int) : St := stp cz1 (sA0 x l n)
noncomputable def sA2 (x : Fi) (l : List Int) (n : Int) : St := stp cz2 (sA1 x l n)
noncomputable def sA3 (x : Fi) (l : List Int) (n : Int) : St := stp cz3 (sA2 x l n)
theorem cz0r : cz0 = .region 0 (opsOf cz0) false := by kernel_rfl
theorem cz1r : cz1 = .region 1 (opsOf cz1) false := by kernel_rfl
theorem cz2r : cz2 = .region 2 (opsOf cz2) false := by kernel_rfl
theorem cz3r : cz3 = .region 3 (opsOf cz3) false := by kernel_rfl
theorem sA0_eq (x : Fi) (l : List Int) (n : Int) : steps X96 (opsOf cz0).toList (opsOf cz0).toList (sA x l n) = some (sA0 x l n) := by kernel_rfl
theorem sA1_eq (x : Fi) (l : List Int) (n : Int) : steps X96 (opsOf cz1).toList (opsOf cz1).toList (sA0 x l n) = some (sA1 x l n) := by kernel_rfl
theorem sA2_eq (x : Fi) (l : List Int) (n : Int) : steps X96 (opsOf cz2).toList (opsOf cz2).toList (sA1 x l n) = some (sA2 x l n) := by kernel_rfl
theorem sA3_eq (x : Fi) (l : List Int) (n : Int) : steps X96 (opsOf cz3).toList (opsOf cz3).toList (sA2 x l n) = some (sA3 x l n) := by kernel_rfl
noncomputable def sR (x : Fi) (l : List Int) (n : Int) : St := ⟨frL (sA3 x l n).objs (sA3 x l n).tmps, List.replicate 51 .none⟩
theorem sR_2 (x : Fi) (l : List Int) (n : Int) : (sR x l n).tmps[2]? = some (.int n) := by kernel_rfl
theorem sR_3 (x : Fi) (l : List Int) (n : Int) : (sR x l n).tmps[3]? = some (.cref (filmV x) []) := by kernel_rfl
theorem sR_8 (x : Fi) (l : List Int) (n : Int) : (sR x l n).tmps[8]? = some (.sl .int ⟨true, true, none⟩ []) := by kernel_rfl
theorem sR_9 (x : Fi) (l : List Int) (n : Int) : (sR x l n).tmps[9]? = some (.int (-1)) := by kernel_rfl
theorem sR_13 (x : Fi) (l : List Int) (n : Int) : (sR x l n).tmps[13]? = some (enc tInts l) := by kernel_rfl
theorem sR_14 (x : Fi) (l : List Int) (n : Int) : (sR x l n).tmps[14]? = some (.int l.length) := by kernel_rfl
theorem sR_15 (x : Fi) (l : List Int) (n : Int) : (sR x l n).tmps[15]? = some (.int 0) := by kernel_rfl
theorem sR_len (x : Fi) (l : List Int) (n : Int) : (sR x l n).tmps.length = 51 := by kernel_rfl

/-! One round. -/
noncomputable def hd (x : Fi) (l : List Int) (n i room : Int) : St := frm 51 [(2, .int n), (3, .cref (filmV x) []), (9, .int room), (13, enc tInts l), (14, .int l.length), (15, .int i)]
noncomputable def md (x : Fi) (l : List Int) (n i room w : Int) : St := frm 51 [(2, .int n), (3, .cref (filmV x) []), (9, .int room), (12, .int w), (13, enc tInts l), (14, .int l.length), (15, .int i)]
noncomputable def t4 (x : Fi) (l : List Int) (n i room : Int) : St := run1 cz4 (hd x l n i room)
theorem t4_eq (x : Fi) (l : List Int) (n i room : Int) : evC X96 0 cz4 (hd x l n i room) cap = some (.norm, t4 x l n i room) := by kernel_rfl
theorem t4_c (x : Fi) (l : List Int) (n i room : Int) : (t4 x l n i room).get 16 = .bool (decide (i < l.length)) := by kernel_rfl
theorem t4_n (x : Fi) (l : List Int) (n i room : Int) : noneB (t4 x l n i room) = true := by kernel_rfl
noncomputable def kAt (l : List Int) (i : Int) : Int := l.getD i.toNat (0 : Int)
noncomputable def t5 (x : Fi) (l : List Int) (n i room : Int) : St := (((t4 x l n i room).put (some 17) (.cref (.int (kAt l i)) [])).put (some 18) (.int (kAt l i))).put (some 11) (.int (kAt l i))
theorem t5_eq (x : Fi) (l : List Int) (n i room : Int) : evC X96 0 cz5 (t4 x l n i room) cap = bif decide (0 ≤ i) && decide (i < l.length) then some (.norm, t5 x l n i room) else none := by kernel_rfl
theorem t5_n (x : Fi) (l : List Int) (n i room : Int) : noneB (t5 x l n i room) = true := by kernel_rfl
noncomputable def t6 (x : Fi) (l : List Int) (n i room : Int) : St := ((((((t5 x l n i room).put (some 19) (filmV x)).put (some 20) (.int (kAt l i))).put (some 21) (.int n)).put (some 22) (enc tSpan (wornS x (kAt l i) n))).put (some 23) (.int (mostI x (kAt l i) n))).put (some 12) (.int (mostI x (kAt l i) n))
theorem t6_eq (x : Fi) (l : List Int) (n i room : Int) : evC X96 0 cz6 (t5 x l n i room) cap = bif decide (x = x) && inReels3 x (kAt l i) n then some (.norm, t6 x l n i room) else none := by kernel_rfl
theorem t6_n (x : Fi) (l : List Int) (n i room : Int) : noneB (t6 x l n i room) = true := by kernel_rfl
noncomputable def t7 (x : Fi) (l : List Int) (n i room : Int) : St := run1 cz7 (t6 x l n i room)
theorem t7_eq (x : Fi) (l : List Int) (n i room : Int) : evC X96 0 cz7 (t6 x l n i room) cap = some (.norm, t7 x l n i room) := by kernel_rfl
theorem t7_c (x : Fi) (l : List Int) (n i room : Int) : (t7 x l n i room).get 28 = .bool (decide (x.2.2.2 < mostI x (kAt l i) n)) := by kernel_rfl
theorem t7_n (x : Fi) (l : List Int) (n i room : Int) : noneB (t7 x l n i room) = true := by kernel_rfl
noncomputable def t8 (x : Fi) (l : List Int) (n i room : Int) : St := run1 cz8 (t7 x l n i room)
theorem t8_eq (x : Fi) (l : List Int) (n i room : Int) : evC X96 0 cz8 (t7 x l n i room) cap = some (.ret, t8 x l n i room) := by kernel_rfl
theorem t8_f (x : Fi) (l : List Int) (n i room : Int) : finK X96 Tryd.f96 .ret (t8 x l n i room) = some (.tup [.sl .int ⟨true, true, none⟩ [], .bool false]) := by kernel_rfl
noncomputable def t9 (x : Fi) (l : List Int) (n i room : Int) : St := run1 cz9 (t7 x l n i room)
theorem t9_eq (x : Fi) (l : List Int) (n i room : Int) : evC X96 0 cz9 (t7 x l n i room) cap = some (.norm, t9 x l n i room) := by kernel_rfl
theorem t9_c (x : Fi) (l : List Int) (n i room : Int) : (t9 x l n i room).get 31 = .bool (decide (room < mostI x (kAt l i) n)) := by kernel_rfl
theorem t9_n (x : Fi) (l : List Int) (n i room : Int) : noneB (t9 x l n i room) = true := by kernel_rfl
theorem t9_2 (x : Fi) (l : List Int) (n i room : Int) : (t9 x l n i room).tmps[2]? = some (.int n) := by kernel_rfl
theorem t9_9 (x : Fi) (l : List Int) (n i room : Int) : (t9 x l n i room).tmps[9]? = some (.int room) := by kernel_rfl
theorem t9_12 (x : Fi) (l : List Int) (n i room : Int) : (t9 x l n i room).tmps[12]? = some (.int (mostI x (kAt l i) n)) := by kernel_rfl
theorem t9_14 (x : Fi) (l : List Int) (n i room : Int) : (t9 x l n i room).tmps[14]? = some (.int l.length) := by kernel_rfl
theorem t9_15 (x : Fi) (l : List Int) (n i room : Int) : (t9 x l n i room).tmps[15]? = some (.int i) := by kernel_rfl
theorem t9_len (x : Fi) (l : List Int) (n i room : Int) : (t9 x l n i room).tmps.length = 51 := by kernel_rfl

/-! The drawn region: any order. -/
noncomputable def collectG (md : Region.Mode) (ops : Array Oper) (stp : Nat → Array Bool → St → Option St) (fin : Array Bool → Bool) : Nat → Array Bool → St → Option (List St)
  | 0, listed, s => (match Region.ready md ops listed with | [] => if fin listed = true then some [s] else none | _ => none)
  | fuel + 1, listed, s =>
    match Region.ready md ops listed with
    | [] => if fin listed = true then some [s] else none
    | i :: rs => (i :: rs).foldr (fun i acc =>
      match acc with
      | some L => (match stp i listed s with | some s1 => (match collectG md ops stp fin fuel (listed.setIfInBounds i true) s1 with | some M => some (M ++ L) | none => none) | none => none)
      | none => none) (some [])

theorem fold_collectG {md : Region.Mode} {ops : Array Oper} {stp : Nat → Array Bool → St → Option St} {fin : Array Bool → Bool} {fuel : Nat} {listed : Array Bool} {s : St} : ∀ (rs : List Nat) (L : List St), rs.foldr (fun i acc =>
      match acc with
      | some L => (match stp i listed s with | some s1 => (match collectG md ops stp fin fuel (listed.setIfInBounds i true) s1 with | some M => some (M ++ L) | none => none) | none => none)
      | none => none) (some []) = some L → ∀ i ∈ rs, ∃ s1 M, stp i listed s = some s1 ∧ collectG md ops stp fin fuel (listed.setIfInBounds i true) s1 = some M ∧ ∀ x ∈ M, x ∈ L
  | [], L, h, i, hi => by simp at hi
  | j :: rs, L, h, i, hi => by
    simp only [List.foldr_cons] at h
    split at h
    · rename_i L1 hL
      split at h
      · rename_i s1 hs
        split at h
        · rename_i M hM
          cases h
          rcases List.mem_cons.1 hi with rfl | hi
          · exact ⟨s1, M, hs, hM, fun x hx => List.mem_append_left _ hx⟩
          · obtain ⟨s1', M', q2, q3, q4⟩ := fold_collectG rs L1 hL i hi
            exact ⟨s1', M', q2, q3, fun x hx => List.mem_append_right _ (q4 x hx)⟩
        · cases h
      · cases h
    · cases h

theorem collectG_ok {P : Program} {ro : Option Nat} {md : Region.Mode} {ops : Array Oper} {stp : Nat → Array Bool → St → Option St} {fin : Array Bool → Bool} {Q : Exit → Act → World → Prop} (J : Array Bool → St → Act → World → Prop)
    (hstp : ∀ i listed s s1, stp i listed s = some s1 → ∀ a W, J listed s a W → ∀ K : Act → World → Prop, (∀ a' W', J (listed.setIfInBounds i true) s1 a' W' → K a' W') → wpOpIn (Fr ro) 0 P ops Q i K a W) : ∀ (fuel : Nat) (listed : Array Bool) (s : St) (L : List St), collectG md ops stp fin fuel listed s = some L → ∀ a W, J listed s a W →
    (∀ s' ∈ L, ∀ listed' a' W', fin listed' = true → J listed' s' a' W' → Q .normal a' W') → wpAnyIn (Fr ro) 0 P md ops Q fuel listed a W
  | 0, listed, s, L, hc, a, W, hJ, hQ => by
    unfold collectG at hc
    cases hr : Region.ready md ops listed with
    | nil =>
      rw [hr] at hc
      dsimp only at hc
      split at hc
      · rename_i hf
        cases hc
        exact ⟨hr, hQ s (List.mem_cons_self ..) listed a W hf hJ⟩
      · cases hc
    | cons j rs => rw [hr] at hc; cases hc
  | fuel + 1, listed, s, L, hc, a, W, hJ, hQ => by
    unfold collectG at hc
    cases hr : Region.ready md ops listed with
    | nil =>
      rw [hr] at hc
      dsimp only at hc
      split at hc
      · rename_i hf
        cases hc
        exact ⟨fun _ => hQ s (List.mem_cons_self ..) listed a W hf hJ, fun i hi => by rw [hr] at hi; simp at hi⟩
      · cases hc
    | cons j rs =>
      rw [hr] at hc
      refine ⟨(fun h0 => by rw [hr] at h0; cases h0), fun i hi => ?_⟩
      rw [hr] at hi
      obtain ⟨s1, M, q2, q3, q4⟩ := fold_collectG _ _ hc i hi
      exact hstp i listed s s1 q2 a W hJ _ fun a' W' hJ' => collectG_ok J hstp fuel _ s1 M q3 a' W' hJ' fun s' hs' => hQ s' (q4 s' hs')

noncomputable def dops : Array Oper := opsOf cz10
theorem cz10_eq : cz10 = .region 10 dops true := by kernel_rfl
theorem dops_0 : (dops[0]?).map (fun o => (o.op, o.dst, o.guard)) = some (.move (.tmp 8), some 32, none) := by kernel_rfl
theorem dops_2 : (dops[2]?).map (fun o => (o.op, o.dst, o.guard)) = some (.call { callee := .builtin .append, args := #[.tmp 32, .tmp 33], argTypes := #[27, 27] }, some 34, none) := by kernel_rfl
theorem dops_6 : (dops[6]?).map (fun o => (o.op, o.dst, o.guard)) = some (.assign (.tmp 34), some 8, none) := by kernel_rfl
def offB (d : Option Nat) : Bool := match d with | some d => decide (d ≠ 3) && (decide (d ≠ 8) && (decide (d ≠ 13) && (decide (d ≠ 32) && decide (d ≠ 34)))) | none => false
noncomputable def dstp (i : Nat) (listed : Array Bool) (s : St) : Option St :=
  if i = 0 then some (s.put (some 32) .poison)
  else if i = 2 then (if (listed[0]?.getD false && !(listed[2]?.getD false)) = true ∧ dec tInts (s.get 33) = some [(0 : Int)] then some (s.put (some 34) .poison) else none)
  else if i = 6 then (if listed[2]?.getD false = true then some (s.put (some 8) .poison) else none)
  else match dops[i]? with
    | some o => (match st1 X96 dops.toList s o with | some s1 => if (offB o.dst && noneB s1) = true then some s1 else none | none => none)
    | none => none
def dfin (listed : Array Bool) : Bool := listed[6]?.getD false
noncomputable def dend (x : Fi) (l : List Int) (n i room w : Int) : St := (((((((md x l n i room w).put (some 32) .poison).put (some 33) (.sl .int ⟨true, true, none⟩ [(0 : Int)])).put (some 34) .poison).put (some 35) (.cref (filmV x) [.fld 0 0])).put (some 36) (.cref (filmV x) [.fld 0 0, .fld 3 5])).put (some 37) (.int x.2.2.2)).put (some 9) (.int x.2.2.2)
theorem dend_eq (x : Fi) (l : List Int) (n i room w : Int) : collectG .any dops dstp dfin dops.size (Array.replicate dops.size false) (md x l n i room w) = some (List.replicate 70 (dend x l n i room w)) := by kernel_rfl

theorem put_same (a : Act) (d : Nat) (v : Value) (h : d < a.tmps.size) : (a.put (some d) v).tmps[d]? = some v := by
  simp only [Act.put, Array.getElem?_setIfInBounds]
  rw [if_pos trivial, if_pos h]
theorem put_other (a : Act) {d k : Nat} (v : Value) (h : d ≠ k) : (a.put (some d) v).tmps[k]? = a.tmps[k]? := by
  simp only [Act.put, Array.getElem?_setIfInBounds]
  rw [if_neg h]
theorem put_size (a : Act) (d : Option Nat) (v : Value) : (a.put d v).tmps.size = a.tmps.size := by
  cases d <;> simp [Act.put]
theorem eval_tmp {a : Act} {k : Nat} {v : Value} (h : a.tmps[k]? = some v) : a.eval (.tmp k) = v := by
  simp [Act.eval, Array.getD_eq_getD_getElem?, h]

theorem set_get {l : Array Bool} {i : Nat} (h : i < l.size) (j : Nat) : (l.setIfInBounds i true)[j]?.getD false = if i = j then true else l[j]?.getD false := by
  rw [Array.getElem?_setIfInBounds]
  by_cases e : i = j
  · subst e
    rw [if_pos rfl, if_pos h, if_pos rfl]
    rfl
  · rw [if_neg e, if_neg e]

def JD (V : Nat → Nat → Prop) (io1 : Io) (W1 : World) (v3 v13 : Value) (out : List Int) (listed : Array Bool) (s : St) (a : Act) (W : World) : Prop :=
  ∃ C, Sim Bs.env V io1 W1 C s a W ∧ AllNone s ∧ listed.size = 8 ∧ a.tmps.size = 51 ∧ a.tmps[3]? = some v3 ∧ a.tmps[13]? = some v13 ∧
    (listed[2]?.getD false = false → ∃ v, a.tmps[8]? = some v ∧ OwnI W1.heap.size C W v out ∧ (listed[0]?.getD false = true → a.tmps[32]? = some v) ∧ listed[6]?.getD false = false) ∧
    (listed[2]?.getD false = true → ∃ v, a.tmps[34]? = some v ∧ OwnI W1.heap.size C W v (out ++ [0]) ∧ (listed[6]?.getD false = true → a.tmps[8]? = some v))

theorem noneB_put {s : St} (h : AllNone s) (d : Option Nat) (v : AV) : AllNone (s.put d v) := by
  cases d <;> exact h

theorem elInt : ∃ inf zv, Tryd.prog.info? 3 = some inf ∧ inf.zero = some zv ∧ inf.size = 1 ∧ inf.bytes = 8 ∧ zv.cells.size = 1 ∧ Tryd.prog.underlying 27 = some (.slice 3) := by
  have hT : TblOK Bs TT := chkAll_ok (B := Bs) rfl chkTT
  obtain ⟨hu, hel⟩ := look_el (E := Bs.env) (X := X96) hT (show elOf X96.T 27 = some (.int, 3, 8) by kernel_rfl)
  obtain ⟨inf, zv, g1, g2, g3, g4, g5, g6⟩ := hel.ex
  exact ⟨inf, zv, g1, g4, g2, g3, g5, hu⟩

theorem dstep {V : Nat → Nat → Prop} {io1 : Io} {W1 : World} {v3 v13 : Value} {out : List Int} (hout : out.length ≤ 1000) {Q : Exit → Act → World → Prop} (i : Nat) (listed : Array Bool) (s s1 : St) (h : dstp i listed s = some s1) (a : Act) (W : World) (hJ : JD V io1 W1 v3 v13 out listed s a W) (K : Act → World → Prop) (hK : ∀ a' W', JD V io1 W1 v3 v13 out (listed.setIfInBounds i true) s1 a' W' → K a' W') : wpOpIn (Fr none) 0 Tryd.prog dops Q i K a W := by
  obtain ⟨C, S, hs, hz, hsz, h3, h13, hA, hB⟩ := hJ
  unfold dstp at h
  split at h
  · rename_i e
    subst e
    cases h
    have h0 := dops_0
    cases hq : dops[0]? with
    | none => rw [hq] at h0; cases h0
    | some o =>
      rw [hq] at h0
      simp only [Option.map_some, Option.some.injEq, Prod.mk.injEq] at h0
      obtain ⟨o1, o2, o3⟩ := h0
      refine hand_value hq o3 (v := a.eval (.tmp 8)) (W' := W) (by unfold execOp; rw [o1]; rfl) (hK _ _ ?_)
      rw [o2]
      refine ⟨C, S.put (some 32) (vr_poison _), noneB_put hs _ _, by simpa using hz, by rw [put_size]; exact hsz, by rw [put_other _ _ (by decide)]; exact h3, by rw [put_other _ _ (by decide)]; exact h13, fun hl => ?_, fun hl => ?_⟩
      · rw [set_get (by omega)] at hl
        obtain ⟨v, g1, g2, g3, g4⟩ := hA (by simpa using hl)
        refine ⟨v, by rw [put_other _ _ (by decide)]; exact g1, g2, fun _ => ?_, by rw [set_get (by omega)]; simpa using g4⟩
        rw [put_same _ _ _ (by omega), eval_tmp g1]
      · rw [set_get (by omega)] at hl
        obtain ⟨v, g1, g2, g3⟩ := hB (by simpa using hl)
        refine ⟨v, by rw [put_other _ _ (by decide)]; exact g1, g2, fun h6 => ?_⟩
        rw [set_get (by omega)] at h6
        rw [put_other _ _ (by decide)]
        exact g3 (by simpa using h6)
  · split at h
    · rename_i e
      subst e
      split at h
      · rename_i hc
        cases h
        obtain ⟨hl, hd⟩ := hc
        simp only [Bool.and_eq_true, Bool.not_eq_true'] at hl
        obtain ⟨v, g1, g2, g3, g4⟩ := hA hl.2
        have g3 := g3 hl.1
        have h0 := dops_2
        cases hq : dops[2]? with
        | none => rw [hq] at h0; cases h0
        | some o =>
          rw [hq] at h0
          simp only [Option.map_some, Option.some.injEq, Prod.mk.injEq] at h0
          obtain ⟨o1, o2, o3⟩ := h0
          have hv := vr_wk (S.get 33)
          rw [wk_dec hd] at hv
          obtain ⟨A, c, ev, hr⟩ := VR.sl_inv (E := Bs.env) (t := .int) (f := ⟨false, false, none⟩) (l := [(0 : Int)]) hv
          obtain ⟨q1, q2, _⟩ := rel_row (E := Bs.env) hr
          obtain ⟨ad, ds, e1, e2, e3, e4⟩ := q2 0 0 rfl
          have e2' : ds = [Value.int .i64 0] := e2
          subst e2'
          have hcell := (e4 0 _ rfl).1
          rw [add_zero] at hcell
          simp only [Nat.zero_mul, add_zero] at hcell
          obtain ⟨inf, zv, i1, i2, i3, i4, i5, i6⟩ := elInt
          obtain ⟨v', W', V', hrun, S', hown⟩ := own_append S hs rfl (t := 27) (e := 3) (ty0 := o.type) i6 i1 i2 i3 i4 i5 g2 hcell (by omega)
          refine hand_value hq o3 (v := v') (W' := W') (run_append_call (d := 34) o1 ?_) (hK _ _ ?_)
          · rw [eval_tmp g3, show a.eval (.tmp 33) = .slice (some ad) 1 c from by rw [← e1]; exact ev]
            exact hrun
          · rw [o2]
            refine ⟨_, S'.put (some 34) (vr_poison _), noneB_put hs _ _, by simpa using hz, by rw [put_size]; exact hsz, by rw [put_other _ _ (by decide)]; exact h3, by rw [put_other _ _ (by decide)]; exact h13, fun hl => ?_, fun hl => ?_⟩
            · rw [set_get (by omega)] at hl
              simp at hl
            · refine ⟨v', put_same _ _ _ (by omega), hown, fun h6 => ?_⟩
              rw [set_get (by omega)] at h6
              simp [g4] at h6
      · cases h
    · split at h
      · rename_i e
        subst e
        split at h
        · rename_i hl
          cases h
          obtain ⟨v, g1, g2, g3⟩ := hB hl
          have h0 := dops_6
          cases hq : dops[6]? with
          | none => rw [hq] at h0; cases h0
          | some o =>
            rw [hq] at h0
            simp only [Option.map_some, Option.some.injEq, Prod.mk.injEq] at h0
            obtain ⟨o1, o2, o3⟩ := h0
            refine hand_value hq o3 (v := a.eval (.tmp 34)) (W' := W) (by unfold execOp; rw [o1]; rfl) (hK _ _ ?_)
            rw [o2]
            refine ⟨C, S.put (some 8) (vr_poison _), noneB_put hs _ _, by simpa using hz, by rw [put_size]; exact hsz, by rw [put_other _ _ (by decide)]; exact h3, by rw [put_other _ _ (by decide)]; exact h13, fun hl2 => ?_, fun hl2 => ?_⟩
            · rw [set_get (by omega)] at hl2
              simp [hl] at hl2
            · refine ⟨v, by rw [put_other _ _ (by decide)]; exact g1, g2, fun _ => ?_⟩
              rw [put_same _ _ _ (by omega), eval_tmp g1]
        · cases h
      · rename_i n0 n2 n6
        split at h
        · rename_i o hq
          split at h
          · rename_i s2 hs2
            split at h
            · rename_i hc
              cases h
              simp only [Bool.and_eq_true] at hc
              obtain ⟨hoff, hn⟩ := hc
              refine wpOp_of_step (E := Bs.env) (st1_ok ctx96 hs2) S hq none fun C' a' W' S' hf => hK _ _ ?_
              have hk : ∀ k, k = 3 ∨ k = 8 ∨ k = 13 ∨ k = 32 ∨ k = 34 → a'.tmps[k]? = a.tmps[k]? := fun k hk => hf.tm k fun e => by
                simp only [e, offB, Bool.and_eq_true, decide_eq_true_eq] at hoff
                omega
              have hg : ∀ j, j = 0 ∨ j = 2 ∨ j = 6 → (listed.setIfInBounds i true)[j]?.getD false = listed[j]?.getD false := fun j hj => by
                have : i ≠ j := by omega
                rw [Array.getElem?_setIfInBounds, if_neg this]
              refine ⟨C', S', noneB_ok hn, by simpa using hz, hf.sz.trans hsz, (hk 3 (by omega)).trans h3, (hk 13 (by omega)).trans h13, fun hl => ?_, fun hl => ?_⟩
              · rw [hg 2 (by omega)] at hl
                obtain ⟨v, g1, g2, g3, g4⟩ := hA hl
                exact ⟨v, (hk 8 (by omega)).trans g1, g2.step S hs hf, fun h0 => (hk 32 (by omega)).trans (g3 (by rw [← hg 0 (by omega)]; exact h0)), by rw [hg 6 (by omega)]; exact g4⟩
              · rw [hg 2 (by omega)] at hl
                obtain ⟨v, g1, g2, g3⟩ := hB hl
                exact ⟨v, (hk 34 (by omega)).trans g1, g2.step S hs hf, fun h6 => (hk 8 (by omega)).trans (g3 (by rw [← hg 6 (by omega)]; exact h6))⟩
            · cases h
          · cases h
        · cases h

end Ev
end Go.Proofs.YtidnikjkpbmhhaaDoor
/- The spools of a film: one round, all rounds, the contract. -/
set_option linter.unusedVariables false
set_option linter.unusedSimpArgs false
set_option maxRecDepth 4000
namespace Go.Proofs.YtidnikjkpbmhhaaDoor
namespace Ev

theorem r10 {V : Nat → Nat → Prop} {io1 : Io} {W1 : World} {v3 v13 v8 : Value} {out : List Int} (hout : out.length ≤ 1000) {x : Fi} {l : List Int} {n i room w : Int} {C : Cx} {a : Act} {W : World} (S : Sim Bs.env V io1 W1 C (md x l n i room w) a W) (hz : a.tmps.size = 51) (h3 : a.tmps[3]? = some v3) (h13 : a.tmps[13]? = some v13) (h8 : a.tmps[8]? = some v8) (ho : OwnI W1.heap.size C W v8 out)
    {Q : Exit → Act → World → Prop} (hQ : ∀ C' a' W', Sim Bs.env V io1 W1 C' (dend x l n i room w) a' W' → a'.tmps.size = 51 → a'.tmps[3]? = some v3 → a'.tmps[13]? = some v13 → ∀ v, a'.tmps[8]? = some v → OwnI W1.heap.size C' W' v (out ++ [0]) → Q .normal a' W') : cz10.wpIn (Fr none) 0 Tryd.prog Q a W := by
  rw [cz10_eq]
  refine wpIn_region_any mixed ?_
  have S' := (S.keep (Keep.drew C.io W) (IoOK.drew S.iok)).2
  have h88 : dops.size = 8 := by kernel_rfl
  refine collectG_ok (JD V io1 W1 v3 v13 out) (fun i listed s s1 h a W hJ K hK => dstep hout (Q := Q) i listed s s1 h a W hJ K hK) _ _ _ _ (dend_eq x l n i room w) _ _ ?_ ?_
  · refine ⟨_, S', fun k y h => List.eq_of_mem_replicate (List.mem_of_getElem? (show (List.replicate 51 Ob.none)[k]? = some y from h)), by simp [h88], hz, h3, h13, fun _ => ⟨v8, h8, ho, fun h => ?_, by simp [h88]⟩, fun h => ?_⟩
    · simp [h88] at h
    · simp [h88] at h
  · intro s' hs' listed' a' W' hf hJ
    have := List.eq_of_mem_replicate hs'
    subst this
    obtain ⟨C', S2, hs, hsz, g1, g2, g3, hA, hB⟩ := hJ
    unfold dfin at hf
    cases h2 : listed'[2]?.getD false with
    | false =>
      obtain ⟨v, q1, q2, q3, q4⟩ := hA h2
      rw [hf] at q4
      cases q4
    | true =>
      obtain ⟨v, q1, q2, q3⟩ := hB h2
      exact hQ C' a' W' S2 g1 g2 g3 v (q3 hf) q2

theorem op_of {ops : Array Oper} {k : Nat} {op : Op} {dst : Option Nat} {g : Option (Nat × Bool)} (h : (ops[k]?).map (fun o => (o.op, o.dst, o.guard)) = some (op, dst, g)) : ∃ o, ops[k]? = some o ∧ o.op = op ∧ o.dst = dst ∧ o.guard = g := by
  cases hq : ops[k]? with
  | none => rw [hq] at h; cases h
  | some o =>
    rw [hq] at h
    simp only [Option.map_some, Option.some.injEq, Prod.mk.injEq] at h
    exact ⟨o, rfl, h.1, h.2.1, h.2.2⟩

noncomputable def iops : Array Oper := opsOf cz11
theorem cz11_eq : cz11 = .region 11 iops false := by kernel_rfl
theorem iops_size : iops.size = 9 := by kernel_rfl
theorem iops_0 : (iops[0]?).map (fun o => (o.op, o.dst, o.guard)) = some (.move (.tmp 8), some 38, none) := by kernel_rfl
theorem iops_1 : (iops[1]?).map (fun o => (o.op, o.dst, o.guard)) = some (.move (.tmp 8), some 39, none) := by kernel_rfl
theorem iops_2 : (iops[2]?).map (fun o => (o.op, o.dst, o.guard)) = some (.call { callee := .builtin .len, args := #[.tmp 39], argTypes := #[27] }, some 40, none) := by kernel_rfl
theorem iops_3 : (iops[3]?).map (fun o => (o.op, o.dst, o.guard)) = some (.binOp .sub 3 (.tmp 40) (.const (.int .i64 1)) 3, some 41, none) := by kernel_rfl
theorem iops_4 : (iops[4]?).map (fun o => (o.op, o.dst, o.guard)) = some (.indexAddr 27 (.tmp 38) (.tmp 41), some 42, none) := by kernel_rfl
theorem iops_5 : (iops[5]?).map (fun o => (o.op, o.dst, o.guard)) = some (.load 3 (.tmp 42), some 43, none) := by kernel_rfl
theorem iops_6 : (iops[6]?).map (fun o => (o.op, o.dst, o.guard)) = some (.binOp .add 3 (.tmp 43) (.const (.int .i64 1)) 3, some 44, none) := by kernel_rfl
theorem iops_7 : (iops[7]?).map (fun o => (o.op, o.dst, o.guard)) = some (.indexAddr 27 (.tmp 38) (.tmp 41), some 45, none) := by kernel_rfl
theorem iops_8 : (iops[8]?).map (fun o => (o.op, o.dst, o.guard)) = some (.store 3 (.tmp 45) (.tmp 44), none, none) := by kernel_rfl

theorem incLast_len {l : List Int} (h : l ≠ []) : (incLast l).length = l.length := by
  have := List.length_pos_iff.2 h
  simp [incLast]
  omega
theorem incLast_get {l : List Int} (h : l ≠ []) {i : Nat} {x : Int} (hx : (incLast l)[i]? = some x) : (i < l.length - 1 ∧ l[i]? = some x) ∨ (i = l.length - 1 ∧ x = w64 (l.getLastD 0 + 1)) := by
  unfold incLast at hx
  rw [List.getElem?_append] at hx
  split at hx
  · rename_i hi
    rw [List.length_dropLast] at hi
    rw [List.getElem?_dropLast, if_pos hi] at hx
    exact .inl ⟨hi, hx⟩
  · rename_i hi
    rw [List.length_dropLast] at hi hx
    have e : i - (l.length - 1) = 0 := by
      rcases Nat.eq_zero_or_pos (i - (l.length - 1)) with h | h
      · exact h
      · rw [List.getElem?_eq_none (by simp; omega)] at hx
        cases hx
    rw [e] at hx
    simp only [List.getElem?_cons_zero, Option.some.injEq] at hx
    exact .inr ⟨by omega, hx.symm⟩
theorem last_get {l : List Int} (h : l ≠ []) : l[l.length - 1]? = some (l.getLastD 0) := by
  rw [List.getLastD_eq_getLast?, ← List.getLast?_eq_getElem?]
  cases hq : l.getLast? with
  | none => simp at hq; exact absurd hq h
  | some y => rfl

theorem r11 {V : Nat → Nat → Prop} {io1 : Io} {W1 : World} {v8 : Value} {out : List Int} (hout : out.length ≤ 2000) (hne : out ≠ []) {s : St} {C : Cx} {a : Act} {W : World} (S : Sim Bs.env V io1 W1 C s a W) (hs : AllNone s) (hz : a.tmps.size = 51) (h8 : a.tmps[8]? = some v8) (ho : OwnI W1.heap.size C W v8 out)
    {Q : Exit → Act → World → Prop} (hQ : ∀ s' a' W', Sim Bs.env V io1 W1 C s' a' W' → AllNone s' → a'.tmps.size = 51 → (∀ k, k < 38 → a'.tmps[k]? = a.tmps[k]?) → OwnI W1.heap.size C W' v8 (incLast out) → Q .normal a' W') : cz11.wpIn (Fr none) 0 Tryd.prog Q a W := by
  have hm := List.length_pos_iff.2 hne
  rcases ho with ⟨_, h⟩ | ⟨b, cs, ty, rfl, h2, h3, h4, h5, h6⟩
  · exact absurd h hne
  obtain ⟨o0, k0, p0, d0, e0⟩ := op_of iops_0
  obtain ⟨o1, k1, p1, d1, e1⟩ := op_of iops_1
  obtain ⟨o2, k2, p2, d2, e2⟩ := op_of iops_2
  obtain ⟨o3, k3, p3, d3, e3⟩ := op_of iops_3
  obtain ⟨o4, k4, p4, d4, e4⟩ := op_of iops_4
  obtain ⟨o5, k5, p5, d5, e5⟩ := op_of iops_5
  obtain ⟨o6, k6, p6, d6, e6⟩ := op_of iops_6
  obtain ⟨o7, k7, p7, d7, e7⟩ := op_of iops_7
  obtain ⟨o8, k8, p8, d8, e8⟩ := op_of iops_8
  obtain ⟨inf, zv, i1, i2, i3, i4, i5, i6⟩ := elInt
  have hti : TiOK Bs 3 ti3 := chkTi_ok rfl chk3
  have hadd : (⟨b, 0, none⟩ : Addr).add (((out.length : Int) - 1).toNat * 1) = ⟨b, out.length - 1, none⟩ := by
    have : ((out.length : Int) - 1).toNat * 1 = out.length - 1 := by omega
    rw [this]
    unfold Addr.add
    split <;> simp_all
  have hcell : W.cell? ⟨b, out.length - 1, none⟩ = some (.int .i64 (out.getLastD 0)) := by
    unfold World.cell?
    simp only [h3]
    simpa using h5 _ _ (last_get hne)
  have hw : w64 ((out.length : Int) - 1) = (out.length : Int) - 1 := w64_small (by omega) (by omega)
  rw [cz11_eq]
  refine wpIn_region ?_
  rw [iops_size, show List.range 9 = [0, 1, 2, 3, 4, 5, 6, 7, 8] from rfl]
  rw [wpOpsIn_cons]
  refine hand_value k0 e0 (v := .slice (some ⟨b, 0, none⟩) out.length cs.size) (W' := W) (by unfold execOp; rw [p0, ← eval_tmp h8]; rfl) ?_
  rw [d0]
  generalize ha1 : a.put (some 38) (.slice (some ⟨b, 0, none⟩) out.length cs.size) = a1
  have S1 : Sim Bs.env V io1 W1 C (s.put (some 38) .poison) a1 W := by rw [← ha1]; exact S.put _ (vr_poison _)
  have z1 : a1.tmps.size = 51 := by rw [← ha1, put_size]; exact hz
  have f1 : a1.tmps[38]? = some (.slice (some ⟨b, 0, none⟩) out.length cs.size) := by rw [← ha1]; exact put_same _ _ _ (by omega)
  have g1 : ∀ k, k < 38 → a1.tmps[k]? = a.tmps[k]? := fun k hk => by rw [← ha1, put_other _ _ (by omega)]
  rw [wpOpsIn_cons]
  refine hand_value k1 e1 (v := .slice (some ⟨b, 0, none⟩) out.length cs.size) (W' := W) (by unfold execOp; rw [p1, ← eval_tmp ((g1 8 (by omega)).trans h8)]; rfl) ?_
  rw [d1]
  generalize ha2 : a1.put (some 39) (.slice (some ⟨b, 0, none⟩) out.length cs.size) = a2
  have S2 : Sim Bs.env V io1 W1 C ((s.put (some 38) .poison).put (some 39) .poison) a2 W := by rw [← ha2]; exact S1.put _ (vr_poison _)
  have z2 : a2.tmps.size = 51 := by rw [← ha2, put_size]; exact z1
  have f2 : a2.tmps[39]? = some (.slice (some ⟨b, 0, none⟩) out.length cs.size) := by rw [← ha2]; exact put_same _ _ _ (by omega)
  have g2 : ∀ k, k < 39 → a2.tmps[k]? = a1.tmps[k]? := fun k hk => by rw [← ha2, put_other _ _ (by omega)]
  rw [wpOpsIn_cons]
  refine hand_value k2 e2 (v := .int .i64 out.length) (W' := W) ?_ ?_
  · unfold execOp
    rw [p2]
    simp only [Sem.run_bind, resolve, Sem.run_pure, Result.andThen_ok, invoke, builtin]
    simp [Builtin.len_, run_underlying i6, eval_tmp f2, goInt]
  rw [d2]
  generalize ha3 : a2.put (some 40) (.int .i64 out.length) = a3
  have S3 : Sim Bs.env V io1 W1 C (((s.put (some 38) .poison).put (some 39) .poison).put (some 40) .poison) a3 W := by rw [← ha3]; exact S2.put _ (vr_poison _)
  have z3 : a3.tmps.size = 51 := by rw [← ha3, put_size]; exact z2
  have f3 : a3.tmps[40]? = some (.int .i64 out.length) := by rw [← ha3]; exact put_same _ _ _ (by omega)
  have g3 : ∀ k, k < 40 → a3.tmps[k]? = a2.tmps[k]? := fun k hk => by rw [← ha3, put_other _ _ (by omega)]
  rw [wpOpsIn_cons]
  refine hand_value k3 e3 (v := .int .i64 ((out.length : Int) - 1)) (W' := W) ?_ ?_
  · unfold execOp
    rw [p3]
    refine run_v ?_
    rw [eval_tmp f3, show a3.eval (.const (.int .i64 1)) = .int .i64 1 from rfl]
    have : (do eqGuard .sub 3 (.tmp 40) (.const (.int .i64 1)) (.int .i64 out.length) (.int .i64 1); binOp .sub 3 (.int .i64 out.length) (.int .i64 1) : Sem Value).run Tryd.prog W = .ok (.int .i64 (w64 ((out.length : Int) - 1))) W := rfl
    rw [this, hw]
  rw [d3]
  generalize ha4 : a3.put (some 41) (.int .i64 ((out.length : Int) - 1)) = a4
  have S4 : Sim Bs.env V io1 W1 C ((((s.put (some 38) .poison).put (some 39) .poison).put (some 40) .poison).put (some 41) .poison) a4 W := by rw [← ha4]; exact S3.put _ (vr_poison _)
  have z4 : a4.tmps.size = 51 := by rw [← ha4, put_size]; exact z3
  have f4 : a4.tmps[41]? = some (.int .i64 ((out.length : Int) - 1)) := by rw [← ha4]; exact put_same _ _ _ (by omega)
  have g4 : ∀ k, k < 41 → a4.tmps[k]? = a3.tmps[k]? := fun k hk => by rw [← ha4, put_other _ _ (by omega)]
  have c38 : a4.tmps[38]? = some (.slice (some ⟨b, 0, none⟩) out.length cs.size) := by rw [g4 _ (by omega), g3 _ (by omega), g2 _ (by omega)]; exact f1
  rw [wpOpsIn_cons]
  refine hand_value k4 e4 (v := .pointer (some ⟨b, out.length - 1, none⟩)) (W' := W) ?_ ?_
  · unfold execOp
    rw [p4]
    refine run_v ?_
    rw [eval_tmp c38, eval_tmp f4, ← hadd]
    simp [Instr.indexAt, asIntOf, run_underlying i6, run_sizeOf' (E := Bs.env) i1, i3, show (0 : Int) ≤ (out.length : Int) - 1 by omega, show (out.length : Int) - 1 < out.length by omega]
    intro h
    omega
  rw [d4]
  generalize ha5 : a4.put (some 42) (.pointer (some ⟨b, out.length - 1, none⟩)) = a5
  have S5 : Sim Bs.env V io1 W1 C (((((s.put (some 38) .poison).put (some 39) .poison).put (some 40) .poison).put (some 41) .poison).put (some 42) .poison) a5 W := by rw [← ha5]; exact S4.put _ (vr_poison _)
  have z5 : a5.tmps.size = 51 := by rw [← ha5, put_size]; exact z4
  have f5 : a5.tmps[42]? = some (.pointer (some ⟨b, out.length - 1, none⟩)) := by rw [← ha5]; exact put_same _ _ _ (by omega)
  have g5 : ∀ k, k < 42 → a5.tmps[k]? = a4.tmps[k]? := fun k hk => by rw [← ha5, put_other _ _ (by omega)]
  rw [wpOpsIn_cons]
  refine hand_value k5 e5 (v := .int .i64 (out.getLastD 0)) (W' := W) ?_ ?_
  · unfold execOp
    rw [p5]
    refine run_v ?_
    rw [eval_tmp f5]
    simp only [Instr.loadAt, Instr.sureAddr, Sem.run_bind, Sem.run_pure, Result.andThen_ok]
    exact run_loadVar' (E := Bs.env) hti (v := .int (out.getLastD 0)) (cs := [.int .i64 (out.getLastD 0)]) rfl rfl rfl (fun j u hu => by
      cases j with
      | zero => cases hu; rw [add_zero]; exact hcell
      | succ j => simp at hu) (fun _ => rfl)
  rw [d5]
  generalize ha6 : a5.put (some 43) (.int .i64 (out.getLastD 0)) = a6
  have S6 : Sim Bs.env V io1 W1 C ((((((s.put (some 38) .poison).put (some 39) .poison).put (some 40) .poison).put (some 41) .poison).put (some 42) .poison).put (some 43) .poison) a6 W := by rw [← ha6]; exact S5.put _ (vr_poison _)
  have z6 : a6.tmps.size = 51 := by rw [← ha6, put_size]; exact z5
  have f6 : a6.tmps[43]? = some (.int .i64 (out.getLastD 0)) := by rw [← ha6]; exact put_same _ _ _ (by omega)
  have g6 : ∀ k, k < 43 → a6.tmps[k]? = a5.tmps[k]? := fun k hk => by rw [← ha6, put_other _ _ (by omega)]
  rw [wpOpsIn_cons]
  refine hand_value k6 e6 (v := .int .i64 (w64 (out.getLastD 0 + 1))) (W' := W) ?_ ?_
  · unfold execOp
    rw [p6]
    refine run_v ?_
    rw [eval_tmp f6, show a6.eval (.const (.int .i64 1)) = .int .i64 1 from rfl]
    rfl
  rw [d6]
  generalize ha7 : a6.put (some 44) (.int .i64 (w64 (out.getLastD 0 + 1))) = a7
  have S7 : Sim Bs.env V io1 W1 C (((((((s.put (some 38) .poison).put (some 39) .poison).put (some 40) .poison).put (some 41) .poison).put (some 42) .poison).put (some 43) .poison).put (some 44) .poison) a7 W := by rw [← ha7]; exact S6.put _ (vr_poison _)
  have z7 : a7.tmps.size = 51 := by rw [← ha7, put_size]; exact z6
  have f7 : a7.tmps[44]? = some (.int .i64 (w64 (out.getLastD 0 + 1))) := by rw [← ha7]; exact put_same _ _ _ (by omega)
  have g7 : ∀ k, k < 44 → a7.tmps[k]? = a6.tmps[k]? := fun k hk => by rw [← ha7, put_other _ _ (by omega)]
  have c38' : a7.tmps[38]? = some (.slice (some ⟨b, 0, none⟩) out.length cs.size) := by rw [g7 _ (by omega), g6 _ (by omega), g5 _ (by omega)]; exact c38
  have c41 : a7.tmps[41]? = some (.int .i64 ((out.length : Int) - 1)) := by rw [g7 _ (by omega), g6 _ (by omega), g5 _ (by omega)]; exact f4
  rw [wpOpsIn_cons]
  refine hand_value k7 e7 (v := .pointer (some ⟨b, out.length - 1, none⟩)) (W' := W) ?_ ?_
  · unfold execOp
    rw [p7]
    refine run_v ?_
    rw [eval_tmp c38', eval_tmp c41, ← hadd]
    simp [Instr.indexAt, asIntOf, run_underlying i6, run_sizeOf' (E := Bs.env) i1, i3, show (0 : Int) ≤ (out.length : Int) - 1 by omega, show (out.length : Int) - 1 < out.length by omega]
    intro h
    omega
  rw [d7]
  generalize ha8 : a7.put (some 45) (.pointer (some ⟨b, out.length - 1, none⟩)) = a8
  have S8 : Sim Bs.env V io1 W1 C ((((((((s.put (some 38) .poison).put (some 39) .poison).put (some 40) .poison).put (some 41) .poison).put (some 42) .poison).put (some 43) .poison).put (some 44) .poison).put (some 45) .poison) a8 W := by rw [← ha8]; exact S7.put _ (vr_poison _)
  have z8 : a8.tmps.size = 51 := by rw [← ha8, put_size]; exact z7
  have f8 : a8.tmps[45]? = some (.pointer (some ⟨b, out.length - 1, none⟩)) := by rw [← ha8]; exact put_same _ _ _ (by omega)
  have g8 : ∀ k, k < 45 → a8.tmps[k]? = a7.tmps[k]? := fun k hk => by rw [← ha8, put_other _ _ (by omega)]
  have c44 : a8.tmps[44]? = some (.int .i64 (w64 (out.getLastD 0 + 1))) := by rw [g8 _ (by omega)]; exact f7
  have hst := run_storeVar' (E := Bs.env) (C := C) (W := W) hti (u := .int (w64 (out.getLastD 0 + 1))) (ds := [.int .i64 (w64 (out.getLastD 0 + 1))]) (b := b) (off := out.length - 1) rfl (by simp [Rel]) rfl h3 (by simp; omega)
  rw [wpOpsIn_cons]
  refine hand_skip k8 e8 (W' := W.setRow b (cs.toList.take (out.length - 1) ++ [Value.int .i64 (w64 (out.getLastD 0 + 1))] ++ cs.toList.drop (out.length - 1 + 1)).toArray) ?_ ?_
  · unfold execOp
    rw [p8]
    simp only [Instr.storeAt, eval_tmp f8, eval_tmp c44, Instr.sureAddr, Sem.run_bind, Sem.run_pure, Result.andThen_ok]
    have hst' : (storeVar 3 ⟨b, out.length - 1, none⟩ (.int .i64 (w64 (out.getLastD 0 + 1)))).run Tryd.prog W = .ok () (W.setRow b (cs.toList.take (out.length - 1) ++ [Value.int .i64 (w64 (out.getLastD 0 + 1))] ++ cs.toList.drop (out.length - 1 + 1)).toArray) := hst
    rw [hst']
    rfl
  rw [d8]
  have hsA : AllNone ((((((((s.put (some 38) .poison).put (some 39) .poison).put (some 40) .poison).put (some 41) .poison).put (some 42) .poison).put (some 43) .poison).put (some 44) .poison).put (some 45) .poison) := hs
  have S9 := S8.volWrite hsA (cs' := (cs.toList.take (out.length - 1) ++ [Value.int .i64 (w64 (out.getLastD 0 + 1))] ++ cs.toList.drop (out.length - 1 + 1)).toArray) h2 h3 h6
  refine hQ _ a8 _ S9 hsA z8 (fun k hk => by rw [g8 _ (by omega), g7 _ (by omega), g6 _ (by omega), g5 _ (by omega), g4 _ (by omega), g3 _ (by omega), g2 _ (by omega), g1 _ hk]) (.inr ⟨b, _, ty, ?_, h2, setRow_heap W b cs _ ty _ h3, ?_, fun i y hy => ?_, h6⟩)
  · rw [incLast_len hne]
    congr 1
    simp
    omega
  · rw [incLast_len hne]
    simp
    omega
  · rw [List.getElem?_toArray, List.append_assoc, List.getElem?_append]
    rcases incLast_get hne hy with ⟨q1, q2⟩ | ⟨q1, q2⟩
    · rw [if_pos (by simp; omega), List.getElem?_take, if_pos q1]
      simpa using h5 i y q2
    · rw [if_neg (by simp; omega)]
      have : i - (cs.toList.take (out.length - 1)).length = 0 := by simp; omega
      rw [this, q2]
      rfl


/-! One round, and all. -/
theorem findA_mem : ∀ {m : List (Nat × AV)} {k : Nat} {v : AV}, findA m k = some v → (k, v) ∈ m
  | [], k, v, h => by cases h
  | (j, u) :: m, k, v, h => by
    simp only [findA] at h
    split at h
    · rename_i e
      cases h
      subst e
      exact List.mem_cons_self ..
    · exact List.mem_cons_of_mem _ (findA_mem h)

section
variable {V : Nat → Nat → Prop} {io1 : Io} {W1 : World} {v3 v13 : Value} {x : Fi} {l : List Int} {n : Int}

/-- What stands at a loop's head. -/
structure Head (V : Nat → Nat → Prop) (io1 : Io) (W1 : World) (v3 v13 : Value) (x : Fi) (l : List Int) (n : Int) (i room : Int) (out : List Int) (a : Act) (W : World) : Prop where
  sz : a.tmps.size = 51
  h3 : a.tmps[3]? = some v3
  h13 : a.tmps[13]? = some v13
  own : ∃ io v8, a.tmps[8]? = some v8 ∧ OwnI W1.heap.size (vCx V W1 W io) W v8 out ∧ Sim Bs.env V io1 W1 (vCx V W1 W io) (hd x l n i room) a W

theorem head_of (hb : BaseOK Bs V io1 W1) (hv3 : VR TRr (baseCx V io1) W1 (.cref (filmV x) []) v3) (hv13 : VR TRr (baseCx V io1) W1 (enc tInts l) v13) {s : St} {C : Cx} {a : Act} {W : World} (S : Sim Bs.env V io1 W1 C s a W) (hz : a.tmps.size = 51) {i room : Int} {out : List Int} {v8 : Value}
    (h2 : a.tmps[2]? = some (.int .i64 n)) (h3 : a.tmps[3]? = some v3) (h8 : a.tmps[8]? = some v8) (h9 : a.tmps[9]? = some (.int .i64 room)) (h13 : a.tmps[13]? = some v13) (h14 : a.tmps[14]? = some (.int .i64 l.length)) (h15 : a.tmps[15]? = some (.int .i64 i)) (ho : OwnI W1.heap.size C W v8 out) : Head V io1 W1 v3 v13 x l n i room out a W := by
  refine ⟨hz, h3, h13, C.io, v8, h8, ho.reV rfl, ?_⟩
  refine frm_sim hb S hz _ fun k v hk => ?_
  have hm := findA_mem hk
  simp only [List.mem_cons, Prod.mk.injEq, List.not_mem_nil, or_false] at hm
  rcases hm with ⟨rfl, rfl⟩ | ⟨rfl, rfl⟩ | ⟨rfl, rfl⟩ | ⟨rfl, rfl⟩ | ⟨rfl, rfl⟩ | ⟨rfl, rfl⟩
  · exact ⟨_, h2, fun _ => vr_int (E := Bs.env) _⟩
  · exact ⟨_, h3, fun hle => hv3.mono Bs.hT hle⟩
  · exact ⟨_, h9, fun _ => vr_int (E := Bs.env) _⟩
  · exact ⟨_, h13, fun hle => hv13.mono Bs.hT hle⟩
  · exact ⟨_, h14, fun _ => vr_int (E := Bs.env) _⟩
  · exact ⟨_, h15, fun _ => vr_int (E := Bs.env) _⟩

theorem mid_of (hb : BaseOK Bs V io1 W1) (hv3 : VR TRr (baseCx V io1) W1 (.cref (filmV x) []) v3) (hv13 : VR TRr (baseCx V io1) W1 (enc tInts l) v13) {s : St} {C : Cx} {a : Act} {W : World} (S : Sim Bs.env V io1 W1 C s a W) (hz : a.tmps.size = 51) {i room w : Int}
    (h2 : a.tmps[2]? = some (.int .i64 n)) (h3 : a.tmps[3]? = some v3) (h9 : a.tmps[9]? = some (.int .i64 room)) (h12 : a.tmps[12]? = some (.int .i64 w)) (h13 : a.tmps[13]? = some v13) (h14 : a.tmps[14]? = some (.int .i64 l.length)) (h15 : a.tmps[15]? = some (.int .i64 i)) : Sim Bs.env V io1 W1 (vCx V W1 W C.io) (md x l n i room w) a W := by
  refine frm_sim hb S hz _ fun k v hk => ?_
  have hm := findA_mem hk
  simp only [List.mem_cons, Prod.mk.injEq, List.not_mem_nil, or_false] at hm
  rcases hm with ⟨rfl, rfl⟩ | ⟨rfl, rfl⟩ | ⟨rfl, rfl⟩ | ⟨rfl, rfl⟩ | ⟨rfl, rfl⟩ | ⟨rfl, rfl⟩ | ⟨rfl, rfl⟩
  · exact ⟨_, h2, fun _ => vr_int (E := Bs.env) _⟩
  · exact ⟨_, h3, fun hle => hv3.mono Bs.hT hle⟩
  · exact ⟨_, h9, fun _ => vr_int (E := Bs.env) _⟩
  · exact ⟨_, h12, fun _ => vr_int (E := Bs.env) _⟩
  · exact ⟨_, h13, fun hle => hv13.mono Bs.hT hle⟩
  · exact ⟨_, h14, fun _ => vr_int (E := Bs.env) _⟩
  · exact ⟨_, h15, fun _ => vr_int (E := Bs.env) _⟩

noncomputable def u12 (x : Fi) (l : List Int) (n i room w : Int) : St := run1 cz12 (md x l n i room w)
theorem u12_eq (x : Fi) (l : List Int) (n i room w : Int) : evC X96 0 cz12 (md x l n i room w) cap = some (.norm, u12 x l n i room w) := by kernel_rfl
theorem u12_n (x : Fi) (l : List Int) (n i room w : Int) : noneB (u12 x l n i room w) = true := by kernel_rfl
noncomputable def u13 (x : Fi) (l : List Int) (n i room w : Int) : St := run1 cz13 (u12 x l n i room w)
theorem u13_eq (x : Fi) (l : List Int) (n i room w : Int) : evC X96 0 cz13 (u12 x l n i room w) cap = some (.norm, u13 x l n i room w) := by kernel_rfl
theorem u13_2 (x : Fi) (l : List Int) (n i room w : Int) : (u13 x l n i room w).tmps[2]? = some (.int n) := by kernel_rfl
theorem u13_9 (x : Fi) (l : List Int) (n i room w : Int) : (u13 x l n i room w).tmps[9]? = some (.int (w64 (room - w))) := by kernel_rfl
theorem u13_14 (x : Fi) (l : List Int) (n i room w : Int) : (u13 x l n i room w).tmps[14]? = some (.int l.length) := by kernel_rfl
theorem u13_15 (x : Fi) (l : List Int) (n i room w : Int) : (u13 x l n i room w).tmps[15]? = some (.int (w64 (i + 1))) := by kernel_rfl
theorem md_n (x : Fi) (l : List Int) (n i room w : Int) : noneB (md x l n i room w) = true := by kernel_rfl
theorem hd_n (x : Fi) (l : List Int) (n i room : Int) : noneB (hd x l n i room) = true := by kernel_rfl
theorem dend_2 (x : Fi) (l : List Int) (n i room w : Int) : (dend x l n i room w).tmps[2]? = some (.int n) := by kernel_rfl
theorem dend_9 (x : Fi) (l : List Int) (n i room w : Int) : (dend x l n i room w).tmps[9]? = some (.int x.2.2.2) := by kernel_rfl
theorem dend_12 (x : Fi) (l : List Int) (n i room w : Int) : (dend x l n i room w).tmps[12]? = some (.int w) := by kernel_rfl
theorem dend_14 (x : Fi) (l : List Int) (n i room w : Int) : (dend x l n i room w).tmps[14]? = some (.int l.length) := by kernel_rfl
theorem dend_15 (x : Fi) (l : List Int) (n i room w : Int) : (dend x l n i room w).tmps[15]? = some (.int i) := by kernel_rfl
theorem dend_n (x : Fi) (l : List Int) (n i room w : Int) : noneB (dend x l n i room w) = true := by kernel_rfl
theorem k4_ (k : Nat) (h : k = 3 ∨ k = 8 ∨ k = 13) : memN (dsts cz4) k = false ∧ memN (dsts cz5) k = false ∧ memN (dsts cz6) k = false ∧ memN (dsts cz7) k = false ∧ memN (dsts cz9) k = false ∧ memN (dsts cz12) k = false ∧ memN (dsts cz13) k = false := by
  rcases h with rfl | rfl | rfl
  · have : (memN (dsts cz4) 3 || memN (dsts cz5) 3 || memN (dsts cz6) 3 || memN (dsts cz7) 3 || memN (dsts cz9) 3 || memN (dsts cz12) 3 || memN (dsts cz13) 3) = false := by kernel_rfl
    simpa [Bool.or_eq_false_iff, and_assoc] using this
  · have : (memN (dsts cz4) 8 || memN (dsts cz5) 8 || memN (dsts cz6) 8 || memN (dsts cz7) 8 || memN (dsts cz9) 8 || memN (dsts cz12) 8 || memN (dsts cz13) 8) = false := by kernel_rfl
    simpa [Bool.or_eq_false_iff, and_assoc] using this
  · have : (memN (dsts cz4) 13 || memN (dsts cz5) 13 || memN (dsts cz6) 13 || memN (dsts cz7) 13 || memN (dsts cz9) 13 || memN (dsts cz12) 13 || memN (dsts cz13) 13) = false := by kernel_rfl
    simpa [Bool.or_eq_false_iff, and_assoc] using this

/-- Behind the list's growth: one more reel on the last spool, and on. -/
theorem tail_round (hb : BaseOK Bs V io1 W1) (hv3 : VR TRr (baseCx V io1) W1 (.cref (filmV x) []) v3) (hv13 : VR TRr (baseCx V io1) W1 (enc tInts l) v13) {i room w : Int} {out : List Int} (hout : out.length ≤ 2000) (hne : out ≠ []) {s : St} {C : Cx} {a : Act} {W : World} (S : Sim Bs.env V io1 W1 C s a W) (hs : AllNone s) (hz : a.tmps.size = 51)
    (h2 : a.tmps[2]? = some (.int .i64 n)) (h3 : a.tmps[3]? = some v3) {v8 : Value} (h8 : a.tmps[8]? = some v8) (ho : OwnI W1.heap.size C W v8 out) (h9 : a.tmps[9]? = some (.int .i64 room)) (h12 : a.tmps[12]? = some (.int .i64 w)) (h13 : a.tmps[13]? = some v13) (h14 : a.tmps[14]? = some (.int .i64 l.length)) (h15 : a.tmps[15]? = some (.int .i64 i))
    {Qb Qe : Exit → Act → World → Prop} (hQe : ∀ a W, cz13.wpIn (Fr none) 0 Tryd.prog Qb a W → Qe .normal a W) (hQ : ∀ a W, Head V io1 W1 v3 v13 x l n (w64 (i + 1)) (w64 (room - w)) (incLast out) a W → Qb .normal a W) : (Code.seq cz11 cz12).wpIn (Fr none) 0 Tryd.prog Qe a W := by
  refine wpIn_seq (r11 hout hne S hs hz h8 ho fun s' a1 W2 S1 hs1 z1 g1 o1 => ?_)
  have c := fun (k : Nat) (h : k < 38) => g1 k h
  have S2 := mid_of hb hv3 hv13 S1 z1 (x := x) (l := l) (n := n) (i := i) (room := room) (w := w) ((c 2 (by omega)).trans h2) ((c 3 (by omega)).trans h3) ((c 9 (by omega)).trans h9) ((c 12 (by omega)).trans h12) ((c 13 (by omega)).trans h13) ((c 14 (by omega)).trans h14) ((c 15 (by omega)).trans h15)
  have o2 : OwnI W1.heap.size (vCx V W1 W2 C.io) W2 v8 (incLast out) := o1.reV rfl
  refine piece (E := Bs.env) ctx96 0 (u12_eq x l n i room w) S2 fun C3 a3 W3 S3 f3 => ?_
  have o3 := o2.step S2 (noneB_ok (md_n ..)) f3
  refine hQe a3 W3 ?_
  refine piece (E := Bs.env) ctx96 0 (u13_eq x l n i room w) S3 fun C4 a4 W4 S4 f4 => ?_
  have o4 := o3.step S3 (noneB_ok (u12_n ..)) f4
  have q := fun k h => (k4_ k h)
  have k3 := f4.keep (q 3 (.inl rfl)).2.2.2.2.2.2 (f3.keep (q 3 (.inl rfl)).2.2.2.2.2.1 ((c 3 (by omega)).trans h3))
  have k8 := f4.keep (q 8 (.inr (.inl rfl))).2.2.2.2.2.2 (f3.keep (q 8 (.inr (.inl rfl))).2.2.2.2.2.1 ((c 8 (by omega)).trans h8))
  have k13 := f4.keep (q 13 (.inr (.inr rfl))).2.2.2.2.2.2 (f3.keep (q 13 (.inr (.inr rfl))).2.2.2.2.2.1 ((c 13 (by omega)).trans h13))
  exact hQ a4 W4 (head_of hb hv3 hv13 S4 (f4.sz.trans (f3.sz.trans z1)) (S4.intAt (u13_2 ..)) k3 k8 (S4.intAt (u13_9 ..)) k13 (S4.intAt (u13_14 ..)) (S4.intAt (u13_15 ..)) o4)

theorem most_nonneg (x : Fi) (k n : Int) : 0 ≤ mostI x k n := by
  unfold mostI maxI
  split <;> omega

theorem spools_rounds (hb : BaseOK Bs V io1 W1) (hv3 : VR TRr (baseCx V io1) W1 (.cref (filmV x) []) v3) (hv13 : VR TRr (baseCx V io1) W1 (enc tInts l) v13) (hok : spoolsOK x l n = true) {R : List Int × Bool} {Q : Exit → Act → World → Prop}
    (hdone : ∀ i room a W, R.2 = true → Head V io1 W1 v3 v13 x l n i room R.1 a W → Q (.exit 0) a W) (hfail : R = ([], false) → ∀ s C a W, Sim Bs.env V io1 W1 C s a W → finK X96 Tryd.f96 .ret s = some (.tup [.sl .int ⟨true, true, none⟩ [], .bool false]) → Q .ret a W) : ∀ (m i : Nat) (room : Int) (out : List Int) (a : Act) (W : World), i + m = l.length → Head V io1 W1 v3 v13 x l n i room out a W → (out = [] → room = -1) → out.length ≤ i → spGo x n (l.drop i) out room = R →
    Code.roundsIn (Fr none) 0 Tryd.prog czL Q (m + 1) a W := by
  simp only [spoolsOK, Bool.and_eq_true, decide_eq_true_eq] at hok
  obtain ⟨hlen, hall⟩ := hok
  intro m
  induction m with
  | zero =>
    intro i room out a W hi hH hr ho hR
    rw [roundsIn_succ]
    obtain ⟨io, v8, h8, own, S⟩ := hH.own
    refine wpIn_seq ?_
    refine piece (E := Bs.env) ctx96 0 (t4_eq x l n i room) S fun C1 a1 W2 S1 f1 => ?_
    have hc := S1.get 16
    rw [t4_c] at hc
    have hf : decide ((i : Int) < l.length) = false := by simp; omega
    rw [hf] at hc
    have hcv : a1.eval (.tmp 16) = .bool false := hc.bool_inv
    refine wpIn_seq (wpIn_cond_false hcv (wpIn_exit ?_))
    have hnil : l.drop i = [] := List.drop_eq_nil_of_le (by omega)
    rw [hnil] at hR
    have hR1 : R.1 = out := by rw [← hR]; rfl
    have hR2 : R.2 = true := by rw [← hR]; rfl
    have own1 := own.step S (noneB_ok (hd_n ..)) f1
    have q := fun k h => (k4_ k h)
    refine hdone i room a1 W2 hR2 (hR1 ▸ head_of hb hv3 hv13 S1 (f1.sz.trans hH.sz) ?_ (f1.keep (q 3 (.inl rfl)).1 hH.h3) (f1.keep (q 8 (.inr (.inl rfl))).1 h8) ?_ (f1.keep (q 13 (.inr (.inr rfl))).1 hH.h13) ?_ ?_ own1)
    · exact S1.intAt (show (t4 x l n i room).tmps[2]? = some (.int n) by kernel_rfl)
    · exact S1.intAt (show (t4 x l n i room).tmps[9]? = some (.int room) by kernel_rfl)
    · exact S1.intAt (show (t4 x l n i room).tmps[14]? = some (.int l.length) by kernel_rfl)
    · exact S1.intAt (show (t4 x l n i room).tmps[15]? = some (.int i) by kernel_rfl)
  | succ m ih =>
    intro i room out a W hi hH hr ho hR
    rw [roundsIn_succ]
    obtain ⟨io, v8, h8, own, S⟩ := hH.own
    have hlt : i < l.length := by omega
    have hk : kAt l i = l[i] := by simp [kAt, List.getD, hlt]
    have hin : inReels x (kAt l i) = true := by
      rw [hk]
      exact List.all_eq_true.1 hall _ (List.getElem_mem hlt)
    rw [List.drop_eq_getElem_cons hlt, ← hk, spGo] at hR
    have q := fun k h => (k4_ k h)
    refine wpIn_seq ?_
    refine piece (E := Bs.env) ctx96 0 (t4_eq x l n i room) S fun C1 a1 W2 S1 f1 => ?_
    have own1 := own.step S (noneB_ok (hd_n ..)) f1
    have hc := S1.get 16
    rw [t4_c] at hc
    have hf : decide ((i : Int) < l.length) = true := by simp; omega
    rw [hf] at hc
    refine wpIn_seq (wpIn_cond_true (show a1.eval (.tmp 16) = .bool true from hc.bool_inv) (wpIn_skip ?_))
    refine wpIn_seq (wpIn_block ?_)
    refine wpIn_seq ?_
    have h5 : evC X96 0 cz5 (t4 x l n i room) cap = some (.norm, t5 x l n i room) := by
      rw [t5_eq, hf]
      simp
    refine piece (E := Bs.env) ctx96 0 h5 S1 fun C2 a2 W3 S2 f2 => ?_
    have own2 := own1.step S1 (noneB_ok (t4_n ..)) f2
    have h6 : evC X96 0 cz6 (t5 x l n i room) cap = some (.norm, t6 x l n i room) := by
      rw [t6_eq, show inReels3 x (kAt l i) n = true from hin]
      simp
    refine wpIn_seq ?_
    refine piece (E := Bs.env) ctx96 0 h6 S2 fun C3 a3 W4 S3 f3 => ?_
    have own3 := own2.step S2 (noneB_ok (t5_n ..)) f3
    refine wpIn_seq (wpIn_seq ?_)
    refine piece (E := Bs.env) ctx96 0 (t7_eq x l n i room) S3 fun C4 a4 W5 S4 f4 => ?_
    have own4 := own3.step S3 (noneB_ok (t6_n ..)) f4
    have hc2 := S4.get 28
    rw [t7_c] at hc2
    by_cases c1 : x.2.2.2 < mostI x (kAt l i) n
    · rw [decide_eq_true c1] at hc2
      rw [if_pos c1] at hR
      refine wpIn_cond_true (show a4.eval (.tmp 28) = .bool true from hc2.bool_inv) ?_
      refine piece (E := Bs.env) ctx96 0 (t8_eq x l n i room) S4 fun C5 a5 W6 S5 f5 => ?_
      exact hfail hR.symm _ _ _ _ S5 (t8_f ..)
    · rw [decide_eq_false c1] at hc2
      rw [if_neg c1] at hR
      refine wpIn_cond_false (show a4.eval (.tmp 28) = .bool false from hc2.bool_inv) (wpIn_skip ?_)
      refine wpIn_seq (wpIn_seq ?_)
      refine piece (E := Bs.env) ctx96 0 (t9_eq x l n i room) S4 fun C5 a5 W6 S5 f5 => ?_
      have own5 := own4.step S4 (noneB_ok (t7_n ..)) f5
      have k3 := f5.keep (q 3 (.inl rfl)).2.2.2.2.1 (f4.keep (q 3 (.inl rfl)).2.2.2.1 (f3.keep (q 3 (.inl rfl)).2.2.1 (f2.keep (q 3 (.inl rfl)).2.1 (f1.keep (q 3 (.inl rfl)).1 hH.h3))))
      have k8 := f5.keep (q 8 (.inr (.inl rfl))).2.2.2.2.1 (f4.keep (q 8 (.inr (.inl rfl))).2.2.2.1 (f3.keep (q 8 (.inr (.inl rfl))).2.2.1 (f2.keep (q 8 (.inr (.inl rfl))).2.1 (f1.keep (q 8 (.inr (.inl rfl))).1 h8))))
      have k13 := f5.keep (q 13 (.inr (.inr rfl))).2.2.2.2.1 (f4.keep (q 13 (.inr (.inr rfl))).2.2.2.1 (f3.keep (q 13 (.inr (.inr rfl))).2.2.1 (f2.keep (q 13 (.inr (.inr rfl))).2.1 (f1.keep (q 13 (.inr (.inr rfl))).1 hH.h13))))
      have z5 : a5.tmps.size = 51 := f5.sz.trans (f4.sz.trans (f3.sz.trans (f2.sz.trans (f1.sz.trans hH.sz))))
      have hw1 : w64 ((i : Int) + 1) = ((i + 1 : Nat) : Int) := w64_succ (n := l.length) hlt (by omega)
      have hc3 := S5.get 31
      rw [t9_c] at hc3
      by_cases c2 : room < mostI x (kAt l i) n
      · rw [decide_eq_true c2] at hc3
        rw [if_pos c2] at hR
        refine wpIn_cond_true (show a5.eval (.tmp 31) = .bool true from hc3.bool_inv) ?_
        have SM := mid_of hb hv3 hv13 S5 z5 (x := x) (l := l) (n := n) (i := i) (room := room) (w := mostI x (kAt l i) n) (S5.intAt (t9_2 ..)) k3 (S5.intAt (t9_9 ..)) (S5.intAt (t9_12 ..)) k13 (S5.intAt (t9_14 ..)) (S5.intAt (t9_15 ..))
        refine r10 (by omega) SM z5 k3 k13 k8 (own5.reV rfl) fun C6 a6 W7 S6 z6 j3 j13 v9 j8 own6 => ?_
        refine tail_round hb hv3 hv13 (i := i) (room := x.2.2.2) (w := mostI x (kAt l i) n) (out := out ++ [0]) (by simp; omega) (by simp) S6 (noneB_ok (dend_n ..)) z6 (S6.intAt (dend_2 ..)) j3 j8 own6 (S6.intAt (dend_9 ..)) (S6.intAt (dend_12 ..)) j13 (S6.intAt (dend_14 ..)) (S6.intAt (dend_15 ..)) (fun a W h => h) fun a7 W8 hH7 => ?_
        rw [hw1] at hH7
        exact ih (i + 1) _ _ a7 W8 (by omega) hH7 (fun h => by have := congrArg List.length h; rw [incLast_len (by simp)] at this; simp at this) (by rw [incLast_len (by simp)]; simp; omega) hR
      · rw [decide_eq_false c2] at hc3
        rw [if_neg c2] at hR
        have hne : out ≠ [] := fun h => by
          have := hr h
          have := most_nonneg x (kAt l i) n
          omega
        refine wpIn_cond_false (show a5.eval (.tmp 31) = .bool false from hc3.bool_inv) (wpIn_skip ?_)
        refine tail_round hb hv3 hv13 (i := i) (room := room) (w := mostI x (kAt l i) n) (out := out) (by omega) hne S5 (noneB_ok (t9_n ..)) z5 (S5.intAt (t9_2 ..)) k3 k8 own5 (S5.intAt (t9_9 ..)) (S5.intAt (t9_12 ..)) k13 (S5.intAt (t9_14 ..)) (S5.intAt (t9_15 ..)) (fun a W h => h) fun a7 W8 hH7 => ?_
        rw [hw1] at hH7
        exact ih (i + 1) _ _ a7 W8 (by omega) hH7 (fun h => by have := congrArg List.length h; rw [incLast_len hne] at this; exact absurd (List.eq_nil_of_length_eq_zero this) hne) (by rw [incLast_len hne]; omega) hR
end

end Ev
end Go.Proofs.YtidnikjkpbmhhaaDoor
/- The spools of a film: the contract. -/
set_option linter.unusedVariables false
set_option linter.unusedSimpArgs false
set_option maxRecDepth 4000
namespace Go.Proofs.YtidnikjkpbmhhaaDoor
namespace Ev

noncomputable def g96 : List AV → Option (Bool × AV)
  | [.agg [a0, .tok 0 t0 d0], a1, a2] =>
    match dec tRF a0, castD tRF t0 d0, dec tInts a1, dec .int a2 with
    | some x0, some y0, some x1, some x2 => some (decide (x0 = y0) && ((spoolsOK x0 x1 x2)), .tup [enc tInts ((spoolsF x0 x1 x2).1), enc .bool ((spoolsF x0 x1 x2).2)])
    | _, _, _, _ => none
  | _ => none

/-- What stands behind the loop. -/
noncomputable def fE (x : Fi) (l : List Int) (n i room : Int) (out : List Int) : St := (hd x l n i room).put (some 8) (enc tInts out)
theorem fE_eq (x : Fi) (l : List Int) (n i room : Int) (out : List Int) : evC X96 0 czE (fE x l n i room out) (finK X96 Tryd.f96) = some (.tup [enc tInts out, .bool true]) := by kernel_rfl

theorem own_vr {V : Nat → Nat → Prop} {io : Io} {W1 W : World} {v : Value} {out : List Int} {C : Cx} (ho : OwnI W1.heap.size C W v out) (hV : ∀ b o, V b o → b < W1.heap.size) : VR TRr (baseCx V io) W (enc tInts out) v := by
  rcases ho with ⟨rfl, rfl⟩ | ⟨b, cs, ty, rfl, h2, h3, h4, h5, h6⟩
  · exact vr_sl (E := Bs.env) (C := baseCx V io) (t := .int) (f := ⟨false, false, none⟩) (l := ([] : List Int)) rfl (Nat.le_refl _) (fun j x h => by simp at h) (fun h => nomatch h) (fun h => nomatch h) rfl
  · refine vr_sl (E := Bs.env) (C := baseCx V io) (t := .int) (f := ⟨false, false, none⟩) (l := out) rfl h4 (fun j y hj => ?_) (fun h => nomatch h) (fun h => nomatch h) rfl
    refine ⟨_, [.int .i64 y], rfl, rfl, rfl, fun i u hu => ?_⟩
    cases i with
    | succ i => simp at hu
    | zero =>
      cases hu
      rw [add_zero]
      have e : (⟨b, 0, none⟩ : Addr).add (j * Ty.int.size) = ⟨b, j, none⟩ := by
        show (⟨b, 0, none⟩ : Addr).add (j * 1) = _
        unfold Addr.add
        split <;> simp_all
      rw [e]
      refine ⟨?_, fun hv => ?_⟩
      · unfold World.cell?
        simp only [h3]
        simpa using h5 j y hj
      · have h7 : b < W1.heap.size := hV _ _ hv
        omega

/-- The walk may start with other room. -/
theorem Sim.toBase {B : Base} {V0 : Nat → Nat → Prop} {io0 : Io} {W0 : World} {C : Cx} {s : St} {a : Act} {W : World} (S : Sim B.env V0 io0 W0 C s a W) : Sim B.env V0 io0 W0 (baseCx V0 C.io) ⟨frL s.objs s.tmps, List.replicate s.tmps.length .none⟩ a W := by
  have hno : AllNone (⟨frL s.objs s.tmps, List.replicate s.tmps.length .none⟩ : St) := fun k x h => List.eq_of_mem_replicate (List.mem_of_getElem? h)
  refine ⟨by rw [S.len]; exact (frL_len _ _).symm, fun t x hx => ?_, S.df, fun k v h => ?_, (fun k b h => by cases h), (fun k k' b h => by cases h), (fun k b o h => by cases h), fun k v al => ⟨(fun h => by cases h), fun h => ?_⟩, (fun k v b lo hi o h => by cases h), (fun k k' v v' b lo hi lo' hi' o h => by cases h), fun b o h => .inl h, fun b o h => h, S.iok, fun g v h => Rel.mono B.hT (CxLe.back S) (S.gl g v h), S.kp, S.old0, S.n0, S.hM, fun k x y tr h1 h2 => trivial⟩
  · have hx' : (s.tmps[t]?).map (frAV s.objs) = some x := by rw [← frL_get]; exact hx
    cases hq : s.tmps[t]? with
    | none => rw [hq] at hx'; cases hx'
    | some y =>
      rw [hq] at hx'
      cases hx'
      obtain ⟨v, h1, h2⟩ := S.tm t y hq
      exact ⟨v, h1, vr_fr S h2⟩
  · exact nomatch hno k _ h
  · exact nomatch hno k _ h

theorem hd_fr (x : Fi) (l : List Int) (n i room : Int) : (⟨frL (hd x l n i room).objs (hd x l n i room).tmps, List.replicate (hd x l n i room).tmps.length .none⟩ : St) = hd x l n i room := by kernel_rfl

/-- A slot is told anew. -/
theorem Sim.tell {B : Base} {V0 : Nat → Nat → Prop} {io0 : Io} {W0 : World} {C : Cx} {s : St} {a : Act} {W : World} (S : Sim B.env V0 io0 W0 C s a W) {k : Nat} {x : AV} {v : Value} (hv : a.tmps[k]? = some v) (h : VR B.TR C W x v) : Sim B.env V0 io0 W0 C (s.put (some k) x) a W := by
  have := S.put (some k) h
  have e : a.put (some k) v = a := by
    unfold Act.put
    dsimp only
    have hk := (Array.getElem?_eq_some_iff.1 hv)
    obtain ⟨h1, h2⟩ := hk
    rw [Array.setIfInBounds_def, dif_pos h1, ← h2, Array.set_getElem_self]
  rwa [e] at this

theorem k96 : Good 96 g96 := by
  refine ⟨ctr_hand (B := Bs) Tryd.func96 spools_body fun args r hg V io W vs a hd0 hb hr S => ?_, Tryd.f96, Tryd.func96, by kernel_rfl, by kernel_rfl⟩
  unfold g96 at hg
  split at hg
  · rename_i a0 t0 d0 a1 a2
    split at hg
    · rename_i x y l n hx hy hl hn
      simp only [Option.some.injEq, Prod.mk.injEq, Bool.and_eq_true, decide_eq_true_eq] at hg
      obtain ⟨⟨e, hok⟩, rfl⟩ := hg
      subst e
      simp only [wkL, wk_film hx hy, wk_dec hl, wk_dec hn] at S hr
      have hlen : l.length ≤ 1000 := by
        simp only [spoolsOK, Bool.and_eq_true, decide_eq_true_eq] at hok
        exact hok.1
      let R := spoolsF x l n
      have hR : spGo x n l [] (-1) = R := rfl
      have hR2 : R = ([], false) ∨ R.2 = true := by
        have key : ∀ (l : List Int) (out : List Int) (room : Int), spGo x n l out room = ([], false) ∨ (spGo x n l out room).2 = true := by
          intro l
          induction l with
          | nil => intro out room; exact .inr rfl
          | cons k r ih =>
            intro out room
            rw [spGo]
            split
            · exact .inl rfl
            · split
              · exact ih _ _
              · exact ih _ _
        exact key l [] (-1)
      refine ⟨X96, if R.2 = true then .tup [enc tInts R.1, .bool true] else .tup [.sl .int ⟨true, true, none⟩ [], .bool false], ctx96, ?_, fun Q hQ => ?_⟩
      · rcases hR2 with h | h
        · have e1 : spoolsF x l n = ([], false) := h
          rw [show R = ([], false) from h, e1]
          rfl
        · rw [if_pos h]
          have e2 : (spoolsF x l n).2 = true := h
          simp only [wkAV, wkL, wk_enc, enc, e2]
          rfl
      refine wpIn_seq (pieceD (E := Bs.env) ctx96 cz0r (by kernel_rfl) (sA0_eq x l n) S fun C0 a0 W0 S0 d0 => ?_)
      refine wpIn_seq (pieceD (E := Bs.env) ctx96 cz1r (by kernel_rfl) (sA1_eq x l n) S0 fun C1 a1 W1 S1 d1 => ?_)
      refine wpIn_seq (pieceD (E := Bs.env) ctx96 cz2r (by kernel_rfl) (sA2_eq x l n) S1 fun C2 a2 W2 S2 d2 => ?_)
      refine wpIn_seq (wpIn_seq (pieceD (E := Bs.env) ctx96 cz3r (by kernel_rfl) (sA3_eq x l n) S2 fun C3 a3 W3 S3 d3 => ?_))
      have hdef : a3.defers = [] := by rw [d3, d2, d1, d0, hd0]
      obtain ⟨SR, hb3, hk3⟩ := S3.rebase hdef (m := 51)
      have SR' : Sim Bs.env V C3.io W3 (baseCx V C3.io) (sR x l n) a3 W3 := SR
      obtain ⟨v3, g3, hv3⟩ := SR'.tm 3 _ (sR_3 x l n)
      obtain ⟨v13, g13, hv13⟩ := SR'.tm 13 _ (sR_13 x l n)
      obtain ⟨v8, g8, hv8⟩ := SR'.tm 8 _ (sR_8 x l n)
      have hv8' : v8 = .slice none 0 0 := by
        obtain ⟨A, c, ev, hrl⟩ := VR.sl_inv (E := Bs.env) (t := .int) (l := ([] : List Int)) hv8
        obtain ⟨_, _, q3, _⟩ := rel_row (E := Bs.env) (t := .int) (l := ([] : List Int)) hrl
        obtain ⟨rfl, rfl⟩ := q3 rfl rfl
        exact ev
      have hz : a3.tmps.size = 51 := by rw [SR'.len]; exact sR_len x l n
      have hH : Head V C3.io W3 v3 v13 x l n ((0 : Nat) : Int) (-1) [] a3 W3 := head_of hb3 hv3 hv13 SR' hz (SR'.intAt (sR_2 x l n)) g3 g8 (SR'.intAt (sR_9 x l n)) g13 (SR'.intAt (sR_14 x l n)) (SR'.intAt (sR_15 x l n)) (.inl ⟨hv8', rfl⟩)
      refine wpIn_block (wpIn_loop_rounds (l.length + 1) ?_)
      refine spools_rounds hb3 hv3 hv13 hok (R := R) (fun i room a W hr2 hH => ?_) (fun hf s C a W S hfin => ?_) l.length 0 (-1) [] a3 W3 (by omega) hH (fun _ => rfl) (by simp) hR
      · -- the loop is done
        obtain ⟨io4, v8, h8, own, S4⟩ := hH.own
        have S5 := S4.toBase
        rw [hd_fr] at S5
        have hv : VR TRr (baseCx V io4) W (enc tInts R.1) v8 := own_vr own hb3.old
        have S6 := S5.tell h8 hv
        refine evC_ok (E := Bs.env) ctx96 0 czE none (.inl rfl) (D := fun _ => True) (fun _ _ => trivial) (finK X96 Tryd.f96) _ _ ?_ _ _ _ W (fE_eq x l n i room R.1) S6 (Fm.refl _ _ _ _ _)
        intro e s' he C' a' W' S' _
        have := hQ e s' (by rw [if_pos hr2]; exact he) W3 C3.io hk3 C' a' W' S'
        exact this
      · have := hQ .ret s (by rw [hf]; exact hfin) W3 C3.io hk3 C a W S
        exact this
    · cases hg
  · cases hg

end Ev
end Go.Proofs.YtidnikjkpbmhhaaDoor
/- The film and the film mixed up: a slice's block is known, and one of its cells is written. -/
set_option linter.unusedVariables false
set_option linter.unusedSimpArgs false
set_option maxRecDepth 4000
namespace Go.Proofs.YtidnikjkpbmhhaaDoor
namespace Ev

variable {B : Base} {V0 : Nat → Nat → Prop} {io0 : Io} {W0 : World} {C : Cx} {s s' s1 : St} {a : Act} {W W' : World} {X : Ctx}

def NoLin (s : St) : Prop := ∀ (k v : Nat) (al : Bool), s.objs[k]? ≠ some (.lin v al)
def noLinB (s : St) : Bool := s.objs.all fun | .lin _ _ => false | _ => true
theorem noLinB_ok (h : noLinB s = true) : NoLin s := fun k v al hx => by
  have := List.all_eq_true.1 h _ (List.mem_of_getElem? hx)
  cases this

/-- A new block is taken as a box. -/
theorem Sim.adopt (S : Sim B.env V0 io0 W0 C s a W) (hln : NoLin s) {io' : Io} (hk : Keep noM C.io io' W W') (hio : IoOK B.MI io' W') {d b : Nat} {v : AV} {cs : Array Value} {ty : TypeId} (hd : s.objs[d]? = some .none) (hb : W.heap.size ≤ b) (hc : W'.heap[b]? = some (.cells cs ty (0, 0))) (hl : cs.toList.length = v.size) (hr : ∀ C, Rel B.TR C W' v cs.toList) :
    ∃ C', CxLe C C' W W' ∧ C'.box d = some b ∧ C'.io = io' ∧ Sim B.env V0 io0 W0 C' ⟨s.tmps, s.objs.set d (.box v)⟩ a W' := by
  let C' : Cx := { C with io := io', box := fun k => if k = d then some b else C.box k, V := fun b1 o => C.V b1 o ∨ b1 = b }
  have hbd : C.box d = none := by
    cases h : C.box d with
    | none => rfl
    | some b =>
      obtain ⟨u, hu⟩ := S.bxn d b h
      rw [hd] at hu
      cases hu
  have hold : ∀ (b1 : Nat) (c1 : Array Value) (t1 : TypeId) (f1 : Nat × Nat), W.heap[b1]? = some (.cells c1 t1 f1) → W'.heap[b1]? = some (.cells c1 t1 f1) := fun b1 c1 t1 f1 h =>
    (hk.block b1 (Array.getElem?_eq_some_iff.1 h).1 (Cell.io_none S.iok h (fun _ _ h => nomatch h)) fun e => e).trans h
  have hst : Stab C.V C'.V W W' := ⟨fun x u hx hv => by
    obtain ⟨c1, t1, f1, g1, _⟩ := cells_of_cell hx
    exact (cell_of_block ((hold _ _ _ _ g1).trans g1.symm)).trans hx, fun b1 o hb1 h => by
      rcases h with h | h
      · exact h
      · omega⟩
  have hle : CxLe C C' W W' := ⟨hst, fun k b1 h => by
      have : k ≠ d := fun e => by subst e; rw [hbd] at h; cases h
      simp only [C', if_neg this]; exact h, fun k cu al h => ⟨cu, al, h, Nat.le_refl _, fun h _ => ⟨h, rfl⟩⟩, hk.io, hk.size⟩
  have hlt : ∀ {k b : Nat}, C.box k = some b → b < W.heap.size := fun {k b} h => by
    obtain ⟨u, hu⟩ := S.bxn k b h
    obtain ⟨b1, c1, t1, g1, g2, _⟩ := S.bx k u hu
    rw [h] at g1
    cases g1
    exact (Array.getElem?_eq_some_iff.1 g2).1
  have hsz := S.kp.size
  have hsz' := hk.size
  have hbl : b < W'.heap.size := (Array.getElem?_eq_some_iff.1 hc).1
  have hset : ∀ (j : Nat) (o : Ob), (s.objs.set d (.box v))[j]? = some o → (j = d ∧ o = .box v) ∨ (j ≠ d ∧ s.objs[j]? = some o) := fun j o hj => by
    rw [List.getElem?_set] at hj
    by_cases e : d = j
    · subst e
      simp only [if_true] at hj
      split at hj
      · exact .inl ⟨rfl, by simpa using hj.symm⟩
      · cases hj
    · rw [if_neg e] at hj
      exact .inr ⟨fun h => e h.symm, hj⟩
  have hnl : ∀ k v, C.lv k ≠ some (v, true) := fun k v h => hln k v true ((S.ln k v true).1 h)
  refine ⟨C', hle, by simp [C'], rfl, ⟨S.len, fun t x hx => ?_, S.df.imp fun r h1 h2 => ?_, ?_, ?_, ?_, ?_, ?_, fun k v1 b1 lo hi o h => absurd h (hnl k v1), fun k k' v1 v1' b1 lo hi lo' hi' o h => absurd h (hnl k v1), ?_, fun b1 o h => .inl (S.V0V b1 o h), hio, ?_, S.kp.trans hk, S.old0, S.n0, S.hM, fun k x y tr h1 h2 => trivial⟩⟩
  · obtain ⟨u, g1, g2⟩ := S.tm t x hx
    exact ⟨u, g1, g2.mono B.hT hle⟩
  · exact (hk.block r (Array.getElem?_eq_some_iff.1 h2).1 (Cell.io_none S.iok h2 (fun _ _ h => nomatch h)) fun e => e).trans h2
  · intro j u hj
    rcases hset j _ hj with ⟨rfl, e⟩ | ⟨hne, hj⟩
    · cases e
      exact ⟨b, cs, ty, by simp [C'], hc, hl, hr _, by omega⟩
    · obtain ⟨b1, c1, t1, g1, g2, g3, g4, g5⟩ := S.bx j u hj
      exact ⟨b1, c1, t1, hle.box _ _ g1, hold _ _ _ _ g2, g3, Rel.mono B.hT hle g4, g5⟩
  · intro j b1 hj
    by_cases e : j = d
    · subst e
      exact ⟨v, by rw [List.getElem?_set, if_pos rfl, if_pos (List.getElem?_eq_some_iff.1 hd).1]⟩
    · simp only [C', if_neg e] at hj
      obtain ⟨u, hu⟩ := S.bxn j b1 hj
      exact ⟨u, by rw [List.getElem?_set, if_neg (fun h => e h.symm)]; exact hu⟩
  · intro j j' b1 h1 h2
    by_cases e : j = d <;> by_cases e' : j' = d
    · rw [e, e']
    · simp only [C', if_pos e, if_neg e'] at h1 h2
      have := hlt h2
      cases h1
      omega
    · simp only [C', if_neg e, if_pos e'] at h1 h2
      have := hlt h1
      cases h2
      omega
    · simp only [C', if_neg e, if_neg e'] at h1 h2
      exact S.inj _ _ _ h1 h2
  · intro j b1 o h
    by_cases e : j = d
    · simp only [C', if_pos e] at h
      cases h
      exact .inr rfl
    · simp only [C', if_neg e] at h
      exact .inl (S.bxV j b1 o h)
  · intro j v1 al
    show C.lv j = _ ↔ _
    rw [S.ln j v1 al]
    constructor
    · intro h
      exact absurd h (hln j v1 al)
    · intro h
      rcases hset j _ h with ⟨_, e⟩ | ⟨_, h⟩
      · cases e
      · exact h
  · intro b1 o h
    rcases h with h | h
    · exact (S.Vn b1 o h).imp id fun h => ⟨h.1, by omega⟩
    · exact .inr ⟨by omega, by omega⟩
  · intro g u h
    exact Rel.mono B.hT (C := baseCx C.V C.io) (C' := baseCx C'.V C'.io) ⟨hst, (fun _ _ h => by cases h), (fun _ _ _ h => by cases h), hk.io, hk.size⟩ (S.gl g u h)

/-- A slice literal, and where it stands. -/
theorem run_bs {E : Env} {V0 : Nat → Nat → Prop} {io0 : Io} {W0 : World} (hX : CtxOK E X) (S : Sim E V0 io0 W0 C s a W) {o : Oper} {t len e by_ : Nat} {te : Ty} {parts : Array (Nat × Operand)} {l : List te.den} (ho : o.op = .buildSlice t len parts) (he : elOf X.T t = some (te, e, by_))
    (h : decAll te 0 (parts.toList.map fun y => (y.1, evO X s e y.2)) = some l) (hl : l.length = len) (hl1 : len ≤ 1000) (hs1 : te.size ≤ 1000) (hlen : len ≠ 0) : ∃ ds, Flat (CRel C.V W te) l ds ∧ (execOp a.eval o).run E.P W = .ok (.value (.slice (some ⟨W.heap.size, 0, none⟩) len len)) (W.alloc (.cells ds.toArray e)) := by
  obtain ⟨hu, hel⟩ := look_el hX.T he
  obtain ⟨inf, zv, g1, g2, g3, g4, g5, g6⟩ := hel.ex
  have hpos := hel.pos
  have hprod : len * te.size ≤ 1000 * 1000 := Nat.mul_le_mul hl1 hs1
  let cells0 : Array Value := if len * te.size = 0 then (Array.range (len * te.size)).map ((#[] : Array Value)[· % (#[] : Array Value).size]!) else (Array.range (len * te.size)).map (zv.cells[· % zv.cells.size]!)
  have hc0 : cells0.size = len * te.size := by simp only [cells0]; split <;> simp
  obtain ⟨ds, r1, r2⟩ := decAll_rel (E := E) (C := C) (W := W) (pre := []) _ (parts.toList.map fun y => (y.1, a.eval y.2)) 0 l cells0 h (forall2_map _ _ _ fun x => ⟨rfl, S.evO hX _ _⟩) (by rw [hc0, hl]; simp)
  have hds := Flat.length (fun x c h => CRel.length h) r1
  have e1 : (cells0.toList.take (0 * te.size) ++ ds ++ cells0.toList.drop ((0 + l.length) * te.size)) = ds := by
    rw [List.drop_of_length_le (by simp [hc0, hl])]
    simp
  rw [e1] at r2
  refine ⟨ds, r1, ?_⟩
  unfold execOp
  rw [ho]
  refine run_v ?_
  have hpe : (parts.map fun (i, x) => (i, a.eval x)).toList = parts.toList.map fun y => (y.1, a.eval y.2) := by simp
  have hne : ¬ len * inf.size = 0 := by
    rw [g2]
    have := Nat.mul_pos (Nat.pos_of_ne_zero hlen) hpos
    omega
  refine run_buildSlice W t e len _ ds.toArray inf zv hu g1 g4 (by rw [g2]; omega) hne ?_
  rw [hpe, g2, ← r2]
  simp only [cells0]
  rw [if_neg (by rw [← g2]; exact hne)]

/-! Reels lie flat. -/
def sixR (r : Rl) : List Value := [.int .i64 r.1.1, .int .i64 r.1.2, .int .i64 r.2.1.1, .int .i64 r.2.1.2, .int .i64 r.2.2.1, .int .i64 r.2.2.2]
def flatR : List Rl → List Value
  | [] => []
  | r :: l => sixR r ++ flatR l
theorem crel_reel {V : Nat → Nat → Prop} {W : World} {r : Rl} {c : List Value} (h : CRel V W tReel r c) : c = sixR r := by
  simp only [CRel] at h
  obtain ⟨_, _, rfl, ⟨_, _, rfl, rfl, rfl⟩, _, _, rfl, ⟨_, _, rfl, rfl, rfl⟩, _, _, rfl, rfl, rfl⟩ := h
  rfl
theorem crel_reel' {V : Nat → Nat → Prop} {W : World} (r : Rl) : CRel V W tReel r (sixR r) := by
  simp only [CRel]
  exact ⟨[_, _], _, rfl, ⟨[_], [_], rfl, rfl, rfl⟩, [_, _], [_, _], rfl, ⟨[_], [_], rfl, rfl, rfl⟩, [_], [_], rfl, rfl, rfl⟩
theorem flat_reels {V : Nat → Nat → Prop} {W : World} : ∀ {l : List Rl} {cs : List Value}, Flat (CRel V W tReel) l cs → cs = flatR l
  | [], cs, h => h
  | r :: l, cs, ⟨c, d, e, h1, h2⟩ => by rw [e, crel_reel h1, flat_reels h2]; rfl
theorem flat_reels' {V : Nat → Nat → Prop} {W : World} : ∀ (l : List Rl), Flat (CRel V W tReel) l (flatR l)
  | [] => rfl
  | r :: l => ⟨_, _, rfl, crel_reel' r, flat_reels' l⟩

noncomputable def rfTok (x : Fi) (b : Nat) : AV := .agg [.tok 9 tAt ((b : Int), (4 : Int), (4 : Int)), enc tSpan x.2.1, enc tSpan x.2.2.1, .int x.2.2.2]
noncomputable def XM : Ctx := { T := TT, G := GG, C := [(53, g53)], L := [] }
theorem ctxMM : CtxOK Bs.env XM := ctxOK rfl rfl rfl rfl rfl rfl (AllC.cons k53 AllC.nil)

noncomputable def y0 : Code := sub [(0, 0)] (bodyOf Tryd.f59)
noncomputable def y1 : Code := sub [(1, 0), (0, 0)] (bodyOf Tryd.f59)
noncomputable def yops : Array Oper := opsOf y1
theorem y1_eq : y1 = .region 1 yops false := by kernel_rfl
theorem y_body : Tryd.f59.body = some (.seq y0 (.seq y1 .ret)) := by kernel_rfl
noncomputable def yparts : Array (Nat × Operand) := match yops[16]? with | some o => (match o.op with | .buildSlice _ _ p => p | _ => #[]) | none => #[]
theorem y_op : (yops[16]?).map (fun o => (o.op, o.dst, o.guard)) = some (.buildSlice 22 4 yparts, some 17, none) := by kernel_rfl
noncomputable def y_0 : St := ((evC XM 0 y0 (st0 Tryd.f59 []) cap).getD (.norm, ⟨[], []⟩)).2
theorem y_0eq : evC XM 0 y0 (st0 Tryd.f59 []) cap = some (.norm, y_0) := by kernel_rfl
noncomputable def y_1 : St := (steps XM yops.toList (yops.toList.take 16) y_0).getD ⟨[], []⟩
theorem y_1eq : steps XM yops.toList (yops.toList.take 16) y_0 = some y_1 := by kernel_rfl
theorem y_dec : decAll tReel 0 (yparts.toList.map fun y => (y.1, evO XM y_1 66 y.2)) = some filmD.1 := by kernel_rfl
theorem y_no : y_1.objs[17]? = some .none := by kernel_rfl
theorem y_lin : noLinB y_1 = true := by kernel_rfl
noncomputable def y_2 (b : Nat) : St := (⟨y_1.tmps, y_1.objs.set 17 (.box (.arr tReel 4 filmD.1))⟩ : St).put (some 17) (.tok 9 tAt ((b : Int), (4 : Int), (4 : Int)))
noncomputable def y_3 (b : Nat) : St := (steps XM yops.toList (yops.toList.drop 17) (y_2 b)).getD ⟨[], []⟩
theorem y_3eq (b : Nat) : steps XM yops.toList (yops.toList.drop 17) (y_2 b) = some (y_3 b) := by kernel_rfl
theorem y_fin (b : Nat) : resAV XM Tryd.f59 (y_3 b) = some (rfTok filmD b) := by kernel_rfl
theorem y_box (b : Nat) : (y_3 b).objs[17]? = some (.box (.arr tReel 4 filmD.1)) := by kernel_rfl
theorem y_size : yops.size = 21 := by kernel_rfl
theorem y_dst : ((yops.toList.drop 17).all fun o => match o.dst with | some d => !decide (d = 17) | none => true) = true := by kernel_rfl

theorem tok_at (C : Cx) (W : World) (b : Nat) : VR TRr C W (.tok 9 tAt ((b : Int), (4 : Int), (4 : Int))) (.slice (some ⟨b, 0, none⟩) 4 4) := by
  refine .inr ⟨[.slice (some ⟨b, 0, none⟩) 4 4], rfl, ?_, rfl⟩
  simp only [Rel]
  exact ⟨_, rfl, (b : Int), 4, 4, rfl, by simp⟩

theorem rfTok_any {C C' : Cx} {W W' : World} {x : Fi} {b : Nat} {v : Value} (h : VR TRr C W (rfTok x b) v) : VR TRr C' W' (rfTok x b) v := by
  rcases h with h | ⟨cs, q1, q2, q3⟩
  · cases h
  · refine .inr ⟨cs, q1, ?_, q3⟩
    simp only [rfTok, enc, encT, Rel, RelL] at q2 ⊢
    exact q2

/-- The film, and where its reels stand. -/
theorem call59 {V : Nat → Nat → Prop} {io : Io} {W : World} (hb : BaseOK Bs V io W) : Calls Tryd.prog 59 #[] W fun e W' => ∃ v io' b ty, e = .returned v ∧ VR TRr (baseCx V io') W' (rfTok filmD b) v ∧ Keep noM io io' W W' ∧ IoOK MIr io' W' ∧ W.heap.size ≤ b ∧ W'.heap[b]? = some (.cells (flatR filmD.1).toArray ty (0, 0)) := by
  have S0 := st0_sim (E := Bs.env) (args := []) (vs := []) hb (by simp [RelV]) Tryd.f59 (Nat.zero_le _) fun b hm => hm.elim
  refine calls_of_fr (ro := none) (callsIn_of_wp_marks (F := Fr none) Tryd.func59 y_body trivial ?_)
  refine wpIn_seq (piece (E := Bs.env) ctxMM 0 y_0eq S0 fun C1 a1 W1 S1 f1 => ?_)
  refine wpIn_seq ?_
  rw [y1_eq]
  refine wpIn_region ?_
  rw [y_size, show List.range 21 = List.range' 0 (yops.toList.take 16).length ++ (16 :: (List.range' 17 (yops.toList.drop 17).length ++ [])) from by
    have e1 : (yops.toList.take 16).length = 16 := by simp [y_size]
    have e2 : (yops.toList.drop 17).length = 4 := by simp [y_size]
    rw [e1, e2]
    rfl]
  refine wpOps_stepsF (E := Bs.env) ctxMM none (D := fun _ => True) _ 0 y_0 y_1 C1 a1 W1 (fun j hj => ?_) y_1eq S1 (fun _ _ _ _ => trivial) (Fm.refl _ _ _ _ _) fun C2 a2 W2 S2 f2 => ?_
  · have : j < 16 := by simp at hj; omega
    simp [List.getElem?_take, this]
  · obtain ⟨o, ho, p1, p2, p3⟩ := op_of y_op
    obtain ⟨ds, hflat, hrun⟩ := run_bs (E := Bs.env) ctxMM S2 p1 (te := tReel) (e := 66) (by_ := 48) (by kernel_rfl) y_dec rfl (by decide) (by decide) (by decide)
    have hds := flat_reels hflat
    subst hds
    rw [wpOpsIn_cons]
    refine hand_value ho p3 hrun ?_
    rw [p2]
    obtain ⟨C3, c1, c2, c3, S3⟩ := S2.adopt (noLinB_ok y_lin) (Keep.alloc C2.io W2 _) (S2.iok.alloc _) y_no (Nat.le_refl _) (cs := (flatR filmD.1).toArray) (ty := 66) (heap_alloc_new' W2 _) (v := .arr tReel 4 filmD.1) (by kernel_rfl) (fun C => by simp only [Rel]; exact ⟨rfl, flat_reels' _⟩)
    have S4 := S3.put (some 17) (tok_at C3 _ W2.heap.size)
    refine wpOps_stepsF (E := Bs.env) ctxMM none (D := fun k => k ≠ 17) _ 17 (y_2 W2.heap.size) (y_3 W2.heap.size) C3 _ _ (fun j hj => by simp) (y_3eq _) S4 (fun o ho k hk e => ?_) (Fm.refl _ _ _ _ _) fun C5 a5 W5 S5 f5 => ?_
    · have := List.all_eq_true.1 y_dst o ho
      rw [hk] at this
      simp [e] at this
    · show Exit.then _ _ .normal a5 W5
      refine wpIn_ret ?_
      refine leave_ok S5 fun a6 W6 ht S6 => ?_
      obtain ⟨v, hv, hvr⟩ := resAV_ok (E := Bs.env) ctxMM S6 (y_fin _)
      obtain ⟨b1, cs, ty, g1, g2, g3, g4, g5⟩ := S6.bx 17 _ (y_box _)
      have hb1 : b1 = W2.heap.size := by
        have := f5.bx 17 b1 (fun h => h rfl) g1
        rw [c2] at this
        cases this
        rfl
      subst hb1
      have hcs : cs = (flatR filmD.1).toArray := by
        simp only [Rel] at g4
        apply Array.ext'
        rw [flat_reels g4.2]
      subst hcs
      exact ⟨v, hv, v, C5.io, W2.heap.size, ty, rfl, hvr, S6.kp, S6.iok, g5, g2⟩


noncomputable def x0 : Code := sub [(0, 0)] (bodyOf Tryd.f60)
noncomputable def x1 : Code := sub [(1, 0), (0, 0)] (bodyOf Tryd.f60)
noncomputable def x2 : Code := sub [(1, 0), (1, 0), (0, 0)] (bodyOf Tryd.f60)
noncomputable def x3 : Code := sub [(1, 0), (1, 0), (1, 0), (0, 0)] (bodyOf Tryd.f60)
noncomputable def xo1 : Array Oper := opsOf x1
noncomputable def xo2 : Array Oper := opsOf x2
theorem x1_eq : x1 = .region 1 xo1 false := by kernel_rfl
theorem x2_eq : x2 = .region 2 xo2 true := by kernel_rfl
theorem x_body : Tryd.f60.body = some (.seq x0 (.seq x1 (.seq x2 (.seq x3 .ret)))) := by kernel_rfl
theorem x_call : (xo1[0]?).map (fun o => (o.op, o.dst, o.guard)) = some (.call { callee := .value (.func 59), args := #[], argTypes := #[] }, some 2, none) := by kernel_rfl
theorem x_idx : (xo2[3]?).map (fun o => (o.op, o.dst, o.guard)) = some (.indexAddr 22 (.tmp 4) (.const (.int .i64 1)), some 6, none) := by kernel_rfl
theorem x_size1 : xo1.size = 3 := by kernel_rfl
theorem x_size2 : xo2.size = 6 := by kernel_rfl
noncomputable def x_0 : St := ((evC XM 0 x0 (st0 Tryd.f60 []) cap).getD (.norm, ⟨[], []⟩)).2
theorem x_0eq : evC XM 0 x0 (st0 Tryd.f60 []) cap = some (.norm, x_0) := by kernel_rfl
theorem x_no : x_0.objs[2]? = some .none := by kernel_rfl
theorem x_lin : noLinB x_0 = true := by kernel_rfl
noncomputable def x_1 (b : Nat) : St := (⟨x_0.tmps, x_0.objs.set 2 (.box (.arr tReel 4 filmD.1))⟩ : St).put (some 2) (rfTok filmD b)
noncomputable def x_2 (b : Nat) : St := (steps XM xo1.toList (xo1.toList.drop 1) (x_1 b)).getD ⟨[], []⟩
theorem x_2eq (b : Nat) : steps XM xo1.toList (xo1.toList.drop 1) (x_1 b) = some (x_2 b) := by kernel_rfl
noncomputable def x_3 (b : Nat) : St := (((x_2 b).put (some 3) (.ref 1 [.fld 0 0])).put (some 4) (.tok 9 tAt ((b : Int), (4 : Int), (4 : Int)))).put (some 5) (enc tSpan (mk2 5 6))
theorem x_3eq (b : Nat) : collectH XM .any xo2 3 6 (Array.replicate 6 false) (x_2 b) = some [(3, #[true, true, true, false, false, false], x_3 b), (3, #[true, true, true, false, false, false], x_3 b), (3, #[true, true, true, false, false, false], x_3 b)] := by kernel_rfl
theorem x_4tok (b : Nat) : (x_3 b).tmps[4]? = some (.tok 9 tAt ((b : Int), (4 : Int), (4 : Int))) := by kernel_rfl
def not2 (d : Option Nat) : Bool := match d with | some d => !decide (d = 2) | none => true
noncomputable def xstp (i : Nat) (_ : Array Bool) (s : St) : Option St := match xo2[i]? with
  | some o => if not2 o.dst = true then st1 XM xo2.toList s o else none
  | none => none
noncomputable def x_4 (b : Nat) : St := (x_3 b).put (some 6) (.ref 2 [.idx 1 6 4])
noncomputable def x_5 (b : Nat) : St := ⟨((x_4 b).put (some 7) (.ref 2 [.idx 1 6 4, .fld 1 2])).tmps, (x_4 b).objs.set 2 (.box (.arr tReel 4 mixedD.1))⟩
theorem x_5eq (b : Nat) : collectG .any xo2 xstp (fun _ => true) 2 #[true, true, true, true, false, false] (x_4 b) = some [x_5 b] := by kernel_rfl
theorem x_ready : Region.ready .any xo2 #[true, true, true, false, false, false] = [3] := by kernel_rfl
noncomputable def x_6 (b : Nat) : St := ((evC XM 0 x3 (x_5 b) cap).getD (.norm, ⟨[], []⟩)).2
theorem x_6eq (b : Nat) : evC XM 0 x3 (x_5 b) cap = some (.norm, x_6 b) := by kernel_rfl
theorem x_6r (b : Nat) : (x_6 b).tmps[0]? = some (.ref 0 []) := by kernel_rfl
theorem x_6a (b : Nat) : (x_6 b).objs[0]? = some (.box (rfTok filmD b)) := by kernel_rfl
theorem x_6b (b : Nat) : (x_6 b).objs[2]? = some (.box (.arr tReel 4 mixedD.1)) := by kernel_rfl
theorem x_fin (b : Nat) : finK XM Tryd.f60 .ret ((⟨frL (x_6 b).objs (x_6 b).tmps, List.replicate (x_6 b).tmps.length .none⟩ : St).put (some 0) (.cref (enc tRF mixedD) [])) = some (enc tRF mixedD) := by kernel_rfl
theorem x_d1 : ((xo1.toList.drop 1).all fun o => match o.dst with | some d => !decide (d = 2) | none => true) = true := by kernel_rfl
theorem x_d2 : (xo2.toList.all fun o => match o.dst with | some d => !decide (d = 2) | none => true) = true := by kernel_rfl
theorem x_d3 : memN (dsts x3) 2 = false := by kernel_rfl

noncomputable def g60 : List AV → Option (Bool × AV)
  | [] => some (true, enc tRF mixedD)
  | _ => none

theorem k60 : Good 60 g60 := by
  refine ⟨ctr_hand (B := Bs) Tryd.func60 x_body fun args r hg V io W vs a hd0 hb hr S => ?_, Tryd.f60, Tryd.func60, by kernel_rfl, by kernel_rfl⟩
  unfold g60 at hg
  split at hg
  · cases hg
    refine ⟨XM, enc tRF mixedD, ctxMM, wk_enc _ _, fun Q hQ => ?_⟩
    refine wpIn_seq (piece (E := Bs.env) ctxMM 0 x_0eq S fun C1 a1 W1 S1 f1 => ?_)
    refine wpIn_seq ?_
    rw [x1_eq]
    refine wpIn_region ?_
    rw [x_size1, show List.range 3 = 0 :: (List.range' 1 (xo1.toList.drop 1).length ++ []) from by
      have e2 : (xo1.toList.drop 1).length = 2 := by simp [x_size1]
      rw [e2]
      rfl]
    obtain ⟨o, ho, p1, p2, p3⟩ := op_of x_call
    rw [wpOpsIn_cons]
    have hrun : (execOp a1.eval o).run Bs.P W1 = .ok (.enter 59 #[]) W1 := by
      unfold execOp
      rw [p1]
      have hfn := Tryd.func59
      have hbody : Tryd.f59.body.isNone = false := by kernel_rfl
      have hname : (Tryd.f59.name == "runtime.NumGoroutine") = false := by kernel_rfl
      have ev : a1.eval (.func 59) = .func (.func 59) #[] #[] := rfl
      have hfn' : Bs.P.funcs[59]? = some Tryd.f59 := hfn
      simp only [Sem.run_bind, resolve, ev, Deferred.ofValue, Sem.run_pure, Result.andThen_ok, invoke, callFunc, run_program, hfn', hbody, hname, Bool.false_eq_true, if_false]
      simp
    unfold wpOpIn
    simp only [ho]
    have hw : Region.wanted o (yielded xo1 a1.tmps) = true := by simp [Region.wanted, p3]
    rw [if_pos hw]
    refine ⟨fun _ _ => trivial, ?_⟩
    rw [semAt_fr _ hrun (fun _ h => nomatch h), hrun, Oper.uponIn_enter]
    refine ⟨(fun h => nomatch h), CallsIn.mono (callsIn_fr (call59 S1.base)) ?_⟩
    rintro e W2 ⟨v, io2, b, ty, rfl, hv, hk, hio, hbW, hcell⟩
    obtain ⟨C2, c1, c2, c3, S2⟩ := S1.adopt (noLinB_ok x_lin) hk hio x_no hbW hcell (v := .arr tReel 4 filmD.1) (by kernel_rfl) (fun C => by simp only [Rel]; exact ⟨rfl, flat_reels' _⟩)
    have hv2 : VR TRr C2 W2 (rfTok filmD b) v := rfTok_any hv
    have S3 := S2.put (some 2) hv2
    show wpOpsIn (Fr none) 0 Tryd.prog xo1 _ _ (a1.put o.dst v) W2
    rw [p2]
    refine wpOps_stepsF (E := Bs.env) ctxMM none (D := fun k => k ≠ 2) _ 1 (x_1 b) (x_2 b) C2 _ _ (fun j hj => by simp [Nat.add_comm]) (x_2eq b) S3 (fun o ho k hk e => ?_) (Fm.refl _ _ _ _ _) fun C4 a4 W4 S4 f4 => ?_
    · have := List.all_eq_true.1 x_d1 o ho
      rw [hk] at this
      simp [e] at this
    · refine wpIn_seq ?_
      have hbox4 : ∀ b', C4.box 2 = some b' → b' = b := fun b' h => by
        have := f4.bx 2 b' (fun h => h rfl) h
        rw [c2] at this
        cases this
        rfl
      rw [x2_eq]
      refine wpIn_region_any mixed ?_
      have S5 := (S4.keep (Keep.drew C4.io W4) (IoOK.drew S4.iok)).2
      rw [x_size2]
      refine collect_ok (E := Bs.env) ctxMM none (D := fun k => k ≠ 2) (fun o ho k hk e => ?_) 6 _ (x_2 b) _ _ _ _ (x_3eq b) S5 (Fm.refl _ _ _ _ _) fun y hy C6 a6 W6 S6 f6 => ?_
      · have := List.all_eq_true.1 x_d2 o ho
        rw [hk] at this
        simp [e] at this
      · have hy' : y = (3, #[true, true, true, false, false, false], x_3 b) := by
          simp only [List.mem_cons, List.not_mem_nil, or_false] at hy
          rcases hy with rfl | rfl | rfl <;> rfl
        subst hy'
        have hbox6 : ∀ b', C6.box 2 = some b' → b' = b := fun b' h => hbox4 b' (f6.bx 2 b' (fun h => h rfl) h)
        have hb6 : C6.box 2 = some b := by
          obtain ⟨b', _, _, h, _⟩ := S6.bx 2 (.arr tReel 4 filmD.1) (show (x_3 b).objs[2]? = _ by kernel_rfl)
          rw [h, hbox6 b' h]
        refine ⟨(fun h0 => by rw [x_ready] at h0; cases h0), fun i hi => ?_⟩
        rw [x_ready] at hi
        simp only [List.mem_singleton] at hi
        subst hi
        obtain ⟨o3, ho3, r1, r2, r3⟩ := op_of x_idx
        obtain ⟨v4, hv4, hr4⟩ := S6.tm 4 _ (x_4tok b)
        have e4 : v4 = .slice (some ⟨b, 0, none⟩) 4 4 := by
          rcases hr4 with h | ⟨cs, _, h, h2⟩
          · cases h
          · simp only [Rel] at h
            obtain ⟨v, rfl, b', n', c', he, rfl⟩ := h
            cases he
            simpa [mkV, isAg] using h2
        subst e4
        have hT : TblOK Bs TT := chkAll_ok (B := Bs) rfl chkTT
        obtain ⟨hu, hel⟩ := look_el (E := Bs.env) (X := XM) hT (show elOf XM.T 22 = some (tReel, 66, 48) by kernel_rfl)
        obtain ⟨inf, zv, g1, g2, _⟩ := hel.ex
        have g2' : inf.size = 6 := g2
        refine hand_value ho3 r3 (v := .pointer (some ⟨b, 6, none⟩)) (W' := W6) ?_ ?_
        · unfold execOp
          rw [r1]
          refine run_v ?_
          rw [eval_tmp hv4, show a6.eval (.const (.int .i64 1)) = .int .i64 1 from rfl]
          have hu' : Bs.env.P.underlying 22 = some (.slice 66) := hu
          have g1' : Bs.env.P.info? 66 = some inf := g1
          simp [Instr.indexAt, asIntOf, run_underlying hu', run_sizeOf' (E := Bs.env) g1', g2', Addr.add]
        · rw [r2]
          have S7 : Sim Bs.env V io W C6 (x_4 b) (a6.put (some 6) (.pointer (some ⟨b, 6, none⟩))) W6 := S6.put (some 6) (by
            refine .inr ⟨[.pointer (some ⟨b, 6, none⟩)], rfl, ?_, rfl⟩
            simp only [Rel]
            refine ⟨b, hb6, fun y hy => ?_, rfl⟩
            simp only [List.mem_singleton] at hy
            subst hy
            exact ⟨by decide, by decide⟩)
          refine collectG_ok (P := Tryd.prog) (ro := none) (stp := xstp) (fin := fun _ => true) (fun listed s a W' => ∃ C, Sim Bs.env V io W C s a W' ∧ ∀ b', C.box 2 = some b' → b' = b) (fun i listed s s1 h a W hJ K hK => ?_) 2 _ (x_4 b) _ (x_5eq b) _ _ ⟨C6, S7, hbox6⟩ fun s' hs' listed' a7 W7 _ hJ => ?_
          · obtain ⟨C8, S8, hb8⟩ := hJ
            unfold xstp at h
            split at h
            · rename_i o8 ho8
              split at h
              · rename_i hd8
                refine wpOp_of_step (E := Bs.env) (st1_ok ctxMM h) S8 ho8 none fun C9 a9 W9 S9 f9 => hK _ _ ⟨C9, S9, fun b' hb' => hb8 b' (f9.bx 2 b' (fun e => ?_) hb')⟩
                rw [e] at hd8
                simp [not2] at hd8
              · cases h
            · cases h
          · obtain ⟨C8, S8, hb8⟩ := hJ
            simp only [List.mem_singleton] at hs'
            subst hs'
            show Exit.then _ _ .normal a7 W7
            refine wpIn_seq (piece (E := Bs.env) ctxMM 0 (x_6eq b) S8 fun C9 a9 W9 S9 f9 => ?_)
            refine wpIn_ret ?_
            have hb9 : C9.box 2 = some b := by
              obtain ⟨b', _, _, h, _⟩ := S9.bx 2 _ (x_6b b)
              rw [h, hb8 b' (f9.bx 2 b' (memN_iff x_d3) h)]
            obtain ⟨b0, cs0, ty0, q1, q2, q3, q4, q5⟩ := S9.bx 0 _ (x_6a b)
            obtain ⟨b2, cs2, ty2, u1, u2, u3, u4, u5⟩ := S9.bx 2 _ (x_6b b)
            rw [hb9] at u1
            cases u1
            obtain ⟨v0, w1, w2⟩ := S9.tm 0 _ (x_6r b)
            obtain ⟨b0', w3, _, rfl⟩ := w2.ref_inv
            rw [q1] at w3
            cases w3
            have hcs2 : cs2.toList = flatR mixedD.1 := by
              simp only [Rel] at u4
              exact flat_reels u4.2
            have hVn : ∀ b1 o, W.heap.size ≤ b1 → ¬ V b1 o := fun b1 o h1 h2 => by
              have : b1 < W.heap.size := hb.old b1 o h2
              omega
            have hrel : Rel TRr (baseCx V C9.io) W9 (enc tRF mixedD) cs0.toList := by
              simp only [rfTok, Rel, RelL] at q4
              obtain ⟨c1, d1, e1, l1, ⟨v1, rfl, bb, nn, cc, he, rfl⟩, c2', d2, rfl, l2, r2', c3', d3, rfl, l3, r3', c4', d4, rfl, l4, rfl, rfl⟩ := q4
              cases he
              rw [e1]
              simp only [enc, encT, Rel, RelL] at r2' r3' ⊢
              refine ⟨_, _, rfl, rfl, ⟨_, 4, rfl, by decide, ?_, (fun h => nomatch h), (fun h => nomatch h), fun k v h => nomatch h⟩, _, _, rfl, l2, r2', _, _, rfl, l3, r3', _, _, rfl, rfl, rfl, rfl⟩
              exact row_of_flat (t := tReel) (ds := flatR mixedD.1) (flat_reels' _) u2 (fun i v hv => by rw [← hcs2] at hv; simpa using hv) (fun o _ => hVn _ _ u5)
            have S10 := S9.toBase
            have S11 := S10.tell (k := 0) (x := .cref (enc tRF mixedD) []) w1 (by
              refine .inr ⟨[.pointer (some ⟨b0, 0, none⟩)], rfl, ?_, rfl⟩
              simp only [Rel]
              refine ⟨⟨b0, 0, none⟩, cs0.toList, hrel, fun i v hv => ?_, (fun y hy => by simp at hy), by simp [offP, add_zero]⟩
              have e : (⟨b0, 0, none⟩ : Addr).add i = ⟨b0, i, none⟩ := by unfold Addr.add; split <;> simp_all
              rw [e]
              refine ⟨?_, hVn _ _ q5⟩
              unfold World.cell?
              simp only [q2]
              simpa using hv)
            exact hQ .ret _ (x_fin b) W io (Keep.refl _ _ _) _ a9 W9 S11
  · cases hg

end Ev
end Go.Proofs.YtidnikjkpbmhhaaDoor
