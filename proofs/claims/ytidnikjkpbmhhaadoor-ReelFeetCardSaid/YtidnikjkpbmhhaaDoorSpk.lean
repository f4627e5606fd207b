/- The spools of a film: the contract. -/
import Derived.Test.YtidnikjkpbmhhaaDoorSpm
set_option linter.unusedVariables false
set_option linter.unusedSimpArgs false
set_option maxRecDepth 4000
namespace Go.Proofs.YtidnikjkpbmhhaaDoor
namespace Ev

noncomputable def g96 : List AV → Option (Bool × AV)
  | [.agg [a0, .tok 0 t0 d0], a1, a2] =>
    match dec tRF a0, castD tRF t0 d0, dec tInts a1, dec .int a2 with
    | some x0, some y0, some x1, some x2 => some (decide (x0 = y0) && ((spoolsOK x0 x1 x2)), .tup [enc tInts ((spoolsF x0 x1 x2).1), enc .bool ((spoolsF x0 x1 x2).2)])
    | _, _, _, _ => none
  | _ => none

/-- What stands behind the loop. -/
noncomputable def fE (x : Fi) (l : List Int) (n i room : Int) (out : List Int) : St := (hd x l n i room).put (some 8) (enc tInts out)
theorem fE_eq (x : Fi) (l : List Int) (n i room : Int) (out : List Int) : evC X96 0 czE (fE x l n i room out) (finK X96 Tryd.f96) = some (.tup [enc tInts out, .bool true]) := by kernel_rfl

theorem own_vr {V : Nat → Nat → Prop} {io : Io} {W1 W : World} {v : Value} {out : List Int} {C : Cx} (ho : OwnI W1.heap.size C W v out) (hV : ∀ b o, V b o → b < W1.heap.size) : VR TRr (baseCx V io) W (enc tInts out) v := by
  rcases ho with ⟨rfl, rfl⟩ | ⟨b, cs, ty, rfl, h2, h3, h4, h5, h6⟩
  · exact vr_sl (E := Bs.env) (C := baseCx V io) (t := .int) (f := ⟨false, false, none⟩) (l := ([] : List Int)) rfl (Nat.le_refl _) (fun j x h => by simp at h) (fun h => nomatch h) (fun h => nomatch h) rfl
  · refine vr_sl (E := Bs.env) (C := baseCx V io) (t := .int) (f := ⟨false, false, none⟩) (l := out) rfl h4 (fun j y hj => ?_) (fun h => nomatch h) (fun h => nomatch h) rfl
    refine ⟨_, [.int .i64 y], rfl, rfl, rfl, fun i u hu => ?_⟩
    cases i with
    | succ i => simp at hu
    | zero =>
      cases hu
      rw [add_zero]
      have e : (⟨b, 0, none⟩ : Addr).add (j * Ty.int.size) = ⟨b, j, none⟩ := by
        show (⟨b, 0, none⟩ : Addr).add (j * 1) = _
        unfold Addr.add
        split <;> simp_all
      rw [e]
      refine ⟨?_, fun hv => ?_⟩
      · unfold World.cell?
        simp only [h3]
        simpa using h5 j y hj
      · have h7 : b < W1.heap.size := hV _ _ hv
        omega

/-- The walk may start with other room. -/
theorem Sim.toBase {B : Base} {V0 : Nat → Nat → Prop} {io0 : Io} {W0 : World} {C : Cx} {s : St} {a : Act} {W : World} (S : Sim B.env V0 io0 W0 C s a W) : Sim B.env V0 io0 W0 (baseCx V0 C.io) ⟨frL s.objs s.tmps, List.replicate s.tmps.length .none⟩ a W := by
  have hno : AllNone (⟨frL s.objs s.tmps, List.replicate s.tmps.length .none⟩ : St) := fun k x h => List.eq_of_mem_replicate (List.mem_of_getElem? h)
  refine ⟨by rw [S.len]; exact (frL_len _ _).symm, fun t x hx => ?_, S.df, fun k v h => ?_, (fun k b h => by cases h), (fun k k' b h => by cases h), (fun k b o h => by cases h), fun k v al => ⟨(fun h => by cases h), fun h => ?_⟩, (fun k v b lo hi o h => by cases h), (fun k k' v v' b lo hi lo' hi' o h => by cases h), fun b o h => .inl h, fun b o h => h, S.iok, fun g v h => Rel.mono B.hT (CxLe.back S) (S.gl g v h), S.kp, S.old0, S.n0, S.hM, fun k x y tr h1 h2 => trivial⟩
  · have hx' : (s.tmps[t]?).map (frAV s.objs) = some x := by rw [← frL_get]; exact hx
    cases hq : s.tmps[t]? with
    | none => rw [hq] at hx'; cases hx'
    | some y =>
      rw [hq] at hx'
      cases hx'
      obtain ⟨v, h1, h2⟩ := S.tm t y hq
      exact ⟨v, h1, vr_fr S h2⟩
  · exact nomatch hno k _ h
  · exact nomatch hno k _ h

theorem hd_fr (x : Fi) (l : List Int) (n i room : Int) : (⟨frL (hd x l n i room).objs (hd x l n i room).tmps, List.replicate (hd x l n i room).tmps.length .none⟩ : St) = hd x l n i room := by kernel_rfl

/-- A slot is told anew. -/
theorem Sim.tell {B : Base} {V0 : Nat → Nat → Prop} {io0 : Io} {W0 : World} {C : Cx} {s : St} {a : Act} {W : World} (S : Sim B.env V0 io0 W0 C s a W) {k : Nat} {x : AV} {v : Value} (hv : a.tmps[k]? = some v) (h : VR B.TR C W x v) : Sim B.env V0 io0 W0 C (s.put (some k) x) a W := by
  have := S.put (some k) h
  have e : a.put (some k) v = a := by
    unfold Act.put
    dsimp only
    have hk := (Array.getElem?_eq_some_iff.1 hv)
    obtain ⟨h1, h2⟩ := hk
    rw [Array.setIfInBounds_def, dif_pos h1, ← h2, Array.set_getElem_self]
  rwa [e] at this

theorem k96 : Good 96 g96 := by
  refine ⟨ctr_hand (B := Bs) Tryd.func96 spools_body fun args r hg V io W vs a hd0 hb hr S => ?_, Tryd.f96, Tryd.func96, by kernel_rfl, by kernel_rfl⟩
  unfold g96 at hg
  split at hg
  · rename_i a0 t0 d0 a1 a2
    split at hg
    · rename_i x y l n hx hy hl hn
      simp only [Option.some.injEq, Prod.mk.injEq, Bool.and_eq_true, decide_eq_true_eq] at hg
      obtain ⟨⟨e, hok⟩, rfl⟩ := hg
      subst e
      simp only [wkL, wk_film hx hy, wk_dec hl, wk_dec hn] at S hr
      have hlen : l.length ≤ 1000 := by
        simp only [spoolsOK, Bool.and_eq_true, decide_eq_true_eq] at hok
        exact hok.1
      let R := spoolsF x l n
      have hR : spGo x n l [] (-1) = R := rfl
      have hR2 : R = ([], false) ∨ R.2 = true := by
        have key : ∀ (l : List Int) (out : List Int) (room : Int), spGo x n l out room = ([], false) ∨ (spGo x n l out room).2 = true := by
          intro l
          induction l with
          | nil => intro out room; exact .inr rfl
          | cons k r ih =>
            intro out room
            rw [spGo]
            split
            · exact .inl rfl
            · split
              · exact ih _ _
              · exact ih _ _
        exact key l [] (-1)
      refine ⟨X96, if R.2 = true then .tup [enc tInts R.1, .bool true] else .tup [.sl .int ⟨true, true, none⟩ [], .bool false], ctx96, ?_, fun Q hQ => ?_⟩
      · rcases hR2 with h | h
        · have e1 : spoolsF x l n = ([], false) := h
          rw [show R = ([], false) from h, e1]
          rfl
        · rw [if_pos h]
          have e2 : (spoolsF x l n).2 = true := h
          simp only [wkAV, wkL, wk_enc, enc, e2]
          rfl
      refine wpIn_seq (pieceD (E := Bs.env) ctx96 cz0r (by kernel_rfl) (sA0_eq x l n) S fun C0 a0 W0 S0 d0 => ?_)
      refine wpIn_seq (pieceD (E := Bs.env) ctx96 cz1r (by kernel_rfl) (sA1_eq x l n) S0 fun C1 a1 W1 S1 d1 => ?_)
      refine wpIn_seq (pieceD (E := Bs.env) ctx96 cz2r (by kernel_rfl) (sA2_eq x l n) S1 fun C2 a2 W2 S2 d2 => ?_)
      refine wpIn_seq (wpIn_seq (pieceD (E := Bs.env) ctx96 cz3r (by kernel_rfl) (sA3_eq x l n) S2 fun C3 a3 W3 S3 d3 => ?_))
      have hdef : a3.defers = [] := by rw [d3, d2, d1, d0, hd0]
      obtain ⟨SR, hb3, hk3⟩ := S3.rebase hdef (m := 51)
      have SR' : Sim Bs.env V C3.io W3 (baseCx V C3.io) (sR x l n) a3 W3 := SR
      obtain ⟨v3, g3, hv3⟩ := SR'.tm 3 _ (sR_3 x l n)
      obtain ⟨v13, g13, hv13⟩ := SR'.tm 13 _ (sR_13 x l n)
      obtain ⟨v8, g8, hv8⟩ := SR'.tm 8 _ (sR_8 x l n)
      have hv8' : v8 = .slice none 0 0 := by
        obtain ⟨A, c, ev, hrl⟩ := VR.sl_inv (E := Bs.env) (t := .int) (l := ([] : List Int)) hv8
        obtain ⟨_, _, q3, _⟩ := rel_row (E := Bs.env) (t := .int) (l := ([] : List Int)) hrl
        obtain ⟨rfl, rfl⟩ := q3 rfl rfl
        exact ev
      have hz : a3.tmps.size = 51 := by rw [SR'.len]; exact sR_len x l n
      have hH : Head V C3.io W3 v3 v13 x l n ((0 : Nat) : Int) (-1) [] a3 W3 := head_of hb3 hv3 hv13 SR' hz (SR'.intAt (sR_2 x l n)) g3 g8 (SR'.intAt (sR_9 x l n)) g13 (SR'.intAt (sR_14 x l n)) (SR'.intAt (sR_15 x l n)) (.inl ⟨hv8', rfl⟩)
      refine wpIn_block (wpIn_loop_rounds (l.length + 1) ?_)
      refine spools_rounds hb3 hv3 hv13 hok (R := R) (fun i room a W hr2 hH => ?_) (fun hf s C a W S hfin => ?_) l.length 0 (-1) [] a3 W3 (by omega) hH (fun _ => rfl) (by simp) hR
      · -- the loop is done
        obtain ⟨io4, v8, h8, own, S4⟩ := hH.own
        have S5 := S4.toBase
        rw [hd_fr] at S5
        have hv : VR TRr (baseCx V io4) W (enc tInts R.1) v8 := own_vr own hb3.old
        have S6 := S5.tell h8 hv
        refine evC_ok (E := Bs.env) ctx96 0 czE none (.inl rfl) (D := fun _ => True) (fun _ _ => trivial) (finK X96 Tryd.f96) _ _ ?_ _ _ _ W (fE_eq x l n i room R.1) S6 (Fm.refl _ _ _ _ _)
        intro e s' he C' a' W' S' _
        have := hQ e s' (by rw [if_pos hr2]; exact he) W3 C3.io hk3 C' a' W' S'
        exact this
      · have := hQ .ret s (by rw [hf]; exact hfin) W3 C3.io hk3 C a W S
        exact this
    · cases hg
  · cases hg

end Ev
end Go.Proofs.YtidnikjkpbmhhaaDoor
