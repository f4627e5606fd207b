/- A film's memo: what is found in it, and what is noted. -/
import Derived.Test.YtidnikjkpbmhhaaDoorLook
set_option linter.unusedVariables false
set_option linter.unusedSimpArgs false
set_option maxRecDepth 4000
namespace Go.Proofs.YtidnikjkpbmhhaaDoor
namespace Ev

def spotV (k : Int) (s : Sp) : Value := .agg #[.int .i64 k, .int .i64 s.1, .int .i64 s.2]
def spanV (s : Sp) : Value := .agg #[.int .i64 s.1, .int .i64 s.2]

theorem equal_spot (k k' : Int) (s s' : Sp) (W : World) : (Op.equal 120 (spotV k s) (spotV k' s')).run Tryd.prog W = .ok (decide (k = k') && (decide (s.1 = s'.1) && (decide (s.2 = s'.2) && true))) W := by
  have h : TiOK Bs 120 ti120 := chkTi_ok rfl chk120
  exact (h.eq (by simp [ti120])).2 [.int .i64 k, .int .i64 s.1, .int .i64 s.2] [.int .i64 k', .int .i64 s'.1, .int .i64 s'.2] _ W rfl rfl rfl

theorem find_asking (k : Int) (s : Sp) (x : tRF.den) (W : World) : ∀ (es : List MapEntry) (i : Nat),
    (∀ e ∈ es, ∃ (k : Int) (s : Sp), 0 ≤ k ∧ k < x.1.length ∧ e.key = spotV k s ∧ e.val = spanV (lastF x (k, s))) →
    ∃ res, (Instr.findAsking 120 (spotV k s) es i).run Tryd.prog W = .ok res W ∧ (res = none ∨ ∃ j e, res = some (i + j, spanV (lastF x (k, s))) ∧ es[j]? = some e ∧ e.key = spotV k s)
  | [], i, _ => ⟨none, by simp [Instr.findAsking], .inl rfl⟩
  | e :: es, i, h => by
    obtain ⟨k', s', h0, h1, hk, hv⟩ := h e (List.mem_cons_self ..)
    have he := equal_spot k k' s s' W
    simp only [Instr.findAsking, Sem.run_bind, hk, he, Result.andThen_ok]
    by_cases hb : (decide (k = k') && (decide (s.1 = s'.1) && (decide (s.2 = s'.2) && true))) = true
    · rw [if_pos hb]
      simp only [Bool.and_eq_true, decide_eq_true_eq, and_true] at hb
      obtain ⟨h1', h2, h3⟩ := hb
      have h4 : s = s' := Prod.ext h2 h3
      subst h1' h4
      exact ⟨some (i, e.val), by simp only [Sem.run_pure], .inr ⟨0, e, by rw [hv, Nat.add_zero], by simp, hk⟩⟩
    · rw [if_neg hb]
      obtain ⟨res, q1, q2⟩ := find_asking k s x W es (i + 1) fun e he => h e (List.mem_cons_of_mem _ he)
      refine ⟨res, q1, q2.imp id ?_⟩
      rintro ⟨j, e', q3, q4, q5⟩
      exact ⟨j + 1, e', by rw [q3, show i + 1 + j = i + (j + 1) by omega], by simpa using q4, q5⟩

theorem find_key (k : Int) (s : Sp) (x : tRF.den) (W : World) (es : List MapEntry) (h : ∀ e ∈ es, ∃ (k : Int) (s : Sp), 0 ≤ k ∧ k < x.1.length ∧ e.key = spotV k s ∧ e.val = spanV (lastF x (k, s))) :
    ∃ res, (Instr.findKey 120 (spotV k s) es).run Tryd.prog W = .ok res W ∧ (res = none ∨ ∃ j e, res = some (j, spanV (lastF x (k, s))) ∧ es[j]? = some e ∧ e.key = spotV k s) := by
  have hu : ∃ fs, Tryd.prog.underlying 120 = some (.struct fs) := ⟨_, Tryd.underlying120⟩
  obtain ⟨fs, hu⟩ := hu
  unfold Instr.findKey
  simp only [Sem.run_bind, run_underlying hu, Result.andThen_ok]
  cases es with
  | nil => exact ⟨none, by simp [Instr.findNow], .inl rfl⟩
  | cons e es =>
    have : Instr.findNow (.struct fs) (spotV k s) (e :: es) 0 = none := by simp [Instr.findNow, Instr.sameNow]
    rw [this]
    obtain ⟨res, q1, q2⟩ := find_asking k s x W (e :: es) 0 h
    refine ⟨res, q1, q2.imp id ?_⟩
    rintro ⟨j, e', q3, q4, q5⟩
    exact ⟨j, e', by rw [q3, Nat.zero_add], q4, q5⟩

/-! A key is one. -/

theorem check_int (em : Bool) (n : Nat) (a : Int) (W : World) : (Instr.checkKey em (n + 1) 3 (.int .i64 a)).run Tryd.prog W = .ok () W := by
  simp [Instr.checkKey, run_underlying Tryd.underlying3]
theorem part_int {cs : List Value} {off : Nat} {a : Int} (h : cs[off]? = some (.int .i64 a)) (W : World) : (part 3 cs.toArray off).run Tryd.prog W = .ok (.int .i64 a) W := by
  obtain ⟨i3, hi3, hs3⟩ := (chkTi_ok (B := Bs) rfl chk3).sz
  have hs3 : i3.size = 1 := hs3
  have hlt := (List.getElem?_eq_some_iff.1 h).1
  have := part_run (P := Tryd.prog) (t := 3) (cs := cs) (off := off) Tryd.underlying3 hi3 (by omega) (fun _ => hs3) W
  rw [this, hs3]
  congr 1
  rw [List.drop_eq_getElem_cons hlt]
  have e : cs[off] = .int .i64 a := by simpa [List.getElem?_eq_getElem hlt] using h
  simp [valT, Tryd.underlying3, isAggD, e]
theorem check_span (em : Bool) (n : Nat) (s : Sp) (W : World) : (Instr.checkKey em (n + 2) 24 (spanV s)).run Tryd.prog W = .ok () W := by
  have p1 := part_int (cs := [.int .i64 s.1, .int .i64 s.2]) (off := 0) rfl W
  have p2 := part_int (cs := [.int .i64 s.1, .int .i64 s.2]) (off := 1) rfl W
  have c1 := check_int em n s.1 W
  have c2 := check_int em n s.2 W
  rw [show n + 2 = (n + 1) + 1 from rfl, Instr.checkKey]
  simp only [Sem.run_bind, run_underlying Tryd.underlying24, Result.andThen_ok, spanV]
  simp [← Array.forIn_toList, p1, p2, c1, c2]
theorem check_spot (em : Bool) (n : Nat) (k : Int) (s : Sp) (W : World) : (Instr.checkKey em (n + 3) 120 (spotV k s)).run Tryd.prog W = .ok () W := by
  have p1 := part_int (cs := [.int .i64 k, .int .i64 s.1, .int .i64 s.2]) (off := 0) rfl W
  obtain ⟨i, hi, hs⟩ := (chkTi_ok (B := Bs) rfl chk24).sz
  have hs : i.size = 2 := hs
  have p2 := part_run (P := Tryd.prog) (t := 24) (cs := [.int .i64 k, .int .i64 s.1, .int .i64 s.2]) (off := 1) Tryd.underlying24 hi (by simp [hs]) (fun h => nomatch h) W
  have e : valT Tryd.prog 24 (([.int .i64 k, .int .i64 s.1, .int .i64 s.2] : List Value).drop 1 |>.take i.size) = spanV s := by
    rw [hs]
    simp [valT, Tryd.underlying24, isAggD, spanV]
  rw [e] at p2
  have c1 := check_int em (n + 1) k W
  have c2 := check_span em n s W
  rw [show n + 3 = (n + 2) + 1 from rfl, Instr.checkKey]
  simp only [Sem.run_bind, run_underlying Tryd.underlying120, Result.andThen_ok, spotV]
  simp [← Array.forIn_toList, p1, p2, c1, c2]

theorem entries_of {x : tRF.den} {es : Array MapEntry} (h : MIr tRF x es) : ∀ e ∈ es.toList, ∃ (k : Int) (s : Sp), 0 ≤ k ∧ k < x.1.length ∧ e.key = spotV k s ∧ e.val = spanV (lastF x (k, s)) := by
  obtain ⟨x', e1, h⟩ := h
  cases e1
  exact h

theorem zero_span (W : World) : (zeroValue 24).run Tryd.prog W = .ok (spanV (0, 0)) W := by
  obtain ⟨inf, v, h1, h2, _, _, _, h3⟩ := (chkTi_ok (B := Bs) rfl chk24).zero _ rfl
  have h := run_zeroValue' (E := Bs.env) h1 h2 W
  obtain ⟨cs, _, h4, h5⟩ := h3 (baseCx (fun _ _ => True) fun _ => none) W
  simp only [Rel, RelL] at h4
  obtain ⟨c, d, rfl, _, rfl, c2, d2, rfl, _, rfl, rfl⟩ := h4
  rw [h5] at h
  exact h

/-- What is looked up in a film's memo: what was noted, or nothing. -/
theorem look_spot {b : Nat} {x : tRF.den} {es : Array MapEntry} {ck : Nat} {W : World} (hb : W.heap[b]? = some (.map es ck)) (hm : MIr tRF x es) (k : Int) (s : Sp) :
    ∃ (q : Sp) (ok : Bool), (Instr.lookup 80 (.map (some b)) (spotV k s) true).run Tryd.prog W = .ok (.tuple #[spanV q, .bool ok]) W ∧ (ok = true → q = lastF x (k, s)) ∧ (ok = false → q = (0, 0)) := by
  obtain ⟨res, h1, h2⟩ := find_key k s x W es.toList (entries_of hm)
  have hg : (getObj b).run Tryd.prog W = .ok (.map es ck) W := by simp [getObj, Sem.run, hb]
  have hc := check_spot es.isEmpty 9997 k s W
  have hz := zero_span W
  rcases h2 with rfl | ⟨j, e, rfl, _, _⟩
  · refine ⟨(0, 0), false, ?_, (fun h => nomatch h), fun _ => rfl⟩
    simp [Instr.lookup, run_underlying Tryd.underlying80, hg, hc, h1, hz]
  · refine ⟨_, true, ?_, fun _ => rfl, (fun h => nomatch h)⟩
    simp [Instr.lookup, run_underlying Tryd.underlying80, hg, hc, h1]


theorem same_bits (n : Nat) (k : Int) (s : Sp) : Instr.sameBits (n + 1) (spotV k s) (spotV k s) = true := by
  simp [Instr.sameBits, spotV]

/-- What is noted in a film's memo. -/
theorem note_spot {b : Nat} {x : tRF.den} {es : Array MapEntry} {ck : Nat} {W : World} (hb : W.heap[b]? = some (.map es ck)) (hm : MIr tRF x es) {k : Int} {s : Sp} (h0 : 0 ≤ k) (h1 : k < x.1.length) :
    ∃ es' ck', (Instr.mapUpdate 80 (.map (some b)) (spotV k s) (spanV (lastF x (k, s)))).run Tryd.prog W = .ok () (W.putObj b (.map es' ck')) ∧ MIr tRF x es' := by
  obtain ⟨res, q1, q2⟩ := find_key k s x W es.toList (entries_of hm)
  have hg : (getObj b).run Tryd.prog W = .ok (.map es ck) W := by simp [getObj, Sem.run, hb]
  have hs : ∀ o, (setObj b o).run Tryd.prog W = .ok () (W.putObj b o) := fun o => by simp [setObj, Sem.run, hb, World.putObj]
  have hc := check_spot false 9997 k s W
  have hall := entries_of hm
  rcases q2 with rfl | ⟨j, e, rfl, he, hk⟩
  · refine ⟨es.push { key := spotV k s, val := spanV (lastF x (k, s)), born := ck }, ck + 1, ?_, x, rfl, fun e he => ?_⟩
    · simp [Instr.mapUpdate, run_underlying Tryd.underlying80, hg, hc, q1, hs]
    · simp only [Array.toList_push, List.mem_append, List.mem_singleton] at he
      rcases he with he | rfl
      · exact hall e he
      · exact ⟨k, s, h0, h1, rfl, rfl⟩
  · have hst : (Instr.keyThatStays (((es[j]?).map (·.key)).getD (spotV k s)) (spotV k s)).run Tryd.prog W = .ok (spotV k s) W := by
      have : es[j]? = some e := by simpa using he
      rw [this]
      simp only [Option.map_some, Option.getD_some, hk]
      unfold Instr.keyThatStays
      rw [if_pos (same_bits 9999 k s)]
      simp
    refine ⟨es.modify j fun e => { e with key := spotV k s, val := spanV (lastF x (k, s)) }, ck, ?_, x, rfl, fun e' he' => ?_⟩
    · simp only [Instr.mapUpdate, run_underlying Tryd.underlying80, hg, hc, q1, hs, Sem.run_bind, Result.andThen_ok, hst]
    · obtain ⟨i, hi⟩ := List.mem_iff_getElem?.1 he'
      rw [Array.getElem?_toList, Array.getElem?_modify] at hi
      split at hi
      · cases hq : es[i]? with
        | none => rw [hq] at hi; cases hi
        | some e0 =>
          rw [hq] at hi
          simp only [Option.map_some, Option.some.injEq] at hi
          subst hi
          exact ⟨k, s, h0, h1, rfl, rfl⟩
      · exact hall e' (List.mem_of_getElem? (by simpa using hi))


/-- What may be noted: of a reel of the film, and a span, with which scenes it can end. -/
def upM : Nat × ((t : Ty) → t.den → AV → AV → Bool) := (80, fun t d k v =>
  match castD tRF t d, dec tSpot k, dec tSpan v with
  | some x, some p, some q => decide (0 ≤ p.1) && (decide (p.1 < (x.1.length : Int)) && decide (q = lastF x p))
  | _, _, _ => false)

theorem vr_spot {C : Cx} {W : World} {k : AV} {p : tSpot.den} {kv : Value} (hd : dec tSpot k = some p) (h : VR TRr C W k kv) : kv = spotV p.1 p.2 := by
  have hk := wk_dec hd
  rcases vr_wk h with h | ⟨cs, h1, h2, h3⟩
  · rw [hk] at h; cases h
  · rw [hk] at h2 h3
    simp only [enc, encT, Rel, RelL] at h2
    obtain ⟨c, d, rfl, _, rfl, c2, d2, rfl, _, ⟨c3, d3, rfl, _, rfl, c4, d4, rfl, _, rfl, rfl⟩, rfl⟩ := h2
    exact h3
theorem vr_span {C : Cx} {W : World} {k : AV} {p : tSpan.den} {kv : Value} (hd : dec tSpan k = some p) (h : VR TRr C W k kv) : kv = spanV p := by
  have hk := wk_dec hd
  rcases vr_wk h with h | ⟨cs, h1, h2, h3⟩
  · rw [hk] at h; cases h
  · rw [hk] at h2 h3
    simp only [enc, encT, Rel, RelL] at h2
    obtain ⟨c3, d3, rfl, _, rfl, c4, d4, rfl, _, rfl, rfl⟩ := h2
    exact h3

theorem upM_ok : ∀ V io W t d mv k v kv vv, BaseOK Bs V io W → TRr 0 t d V io W mv → VR TRr (baseCx V io) W k kv → VR TRr (baseCx V io) W v vv → upM.2 t d k v = true →
    ∃ W', (Instr.mapUpdate upM.1 mv kv vv).run Tryd.prog W = .ok () W' ∧ Keep noM io io W W' ∧ IoOK MIr io W' := by
  intro V io W t d mv k v kv vv hb ht hk hv hu
  simp only [upM] at hu
  split at hu
  · rename_i x p q h1 h2 h3
    simp only [Bool.and_eq_true, decide_eq_true_eq] at hu
    obtain ⟨u1, u2, rfl⟩ := hu
    have e1 := castD_eq h1
    cases e1
    rw [vr_spot h2 hk, vr_span h3 hv]
    have ht' : memoV io W ⟨tRF, x⟩ mv := ht
    rcases ht' with ⟨b, rfl, hlt, hio⟩ | ⟨_, e⟩
    · obtain ⟨es, ck, g1, g2⟩ := hb.iok b tRF x hio
      obtain ⟨es', ck', q1, q2⟩ := note_spot g1 g2 (k := p.1) (s := p.2) u1 u2
      refine ⟨_, q1, ⟨rfl, rfl, rfl, by simp, fun j _ hj _ => World.putObj_heap_other (fun e => by rw [e, hio] at hj; exact nomatch hj), fun _ _ => rfl⟩, fun b' t' d' hb' => ?_⟩
      by_cases e : b' = b
      · subst e
        rw [hio] at hb'
        cases hb'
        exact ⟨es', ck', World.putObj_heap_same hlt, q2⟩
      · obtain ⟨es2, ck2, k1, k2⟩ := hb.iok b' t' d' hb'
        exact ⟨es2, ck2, (World.putObj_heap_other e).trans k1, k2⟩
    · cases e
      have : (zRF.1.length : Int) = 0 := rfl
      exact absurd u2 (by rw [this]; exact Int.not_lt.2 u1)
  · cases hu

end Ev
end Go.Proofs.YtidnikjkpbmhhaaDoor
