/- The scenes that a reel can end with: what its memo says is what it would answer anew. -/
import Derived.Test.YtidnikjkpbmhhaaDoorMemo
import Derived.Test.YtidnikjkpbmhhaaDoorHand
import Derived.Test.YtidnikjkpbmhhaaDoorOnc
import Derived.Test.YtidnikjkpbmhhaaDoorLat
set_option linter.unusedVariables false
set_option linter.unusedSimpArgs false
set_option maxRecDepth 4000
namespace Go.Proofs.YtidnikjkpbmhhaaDoor
namespace Ev

def opsOf : Code → Array Oper
  | .region _ ops _ => ops
  | _ => #[]

noncomputable def q0 : Code := sub [(0, 0)] (bodyOf Tryd.f97)
noncomputable def q1 : Code := sub [(1, 0), (0, 0), (0, 0)] (bodyOf Tryd.f97)
noncomputable def q2 : Code := sub [(1, 0), (0, 0), (1, 0)] (bodyOf Tryd.f97)
noncomputable def q3 : Code := sub [(1, 0), (1, 0)] (bodyOf Tryd.f97)
noncomputable def lops : Array Oper := opsOf q1
theorem q1_eq : q1 = .region 1 lops false := by kernel_rfl
theorem last_body : Tryd.f97.body = some (.seq q0 (.seq (.seq q1 q2) q3)) := by kernel_rfl
theorem look_op : (lops[3]?).map (fun o => (o.op, o.dst, o.guard)) = some (.lookup 80 (.tmp 12) (.tmp 13) true, some 14, none) := by kernel_rfl

noncomputable def XL : Ctx := { T := TT, G := GG, C := [], L := [], up := some upM }
noncomputable def lst0 (x : Fi) (p : Int × Sp) : St := st0 Tryd.f97 [.agg [enc tRF x, .tok 0 tRF x], enc tSpot p]
def nrm : Ex → St → Option St
  | .norm, s => some s
  | _, _ => none
noncomputable def lst1 (x : Fi) (p : Int × Sp) : St := (evC XL 0 q0 (lst0 x p) nrm).getD ⟨[], []⟩
theorem lst1_eq (x : Fi) (p : Int × Sp) : evC XL 0 q0 (lst0 x p) nrm = some (lst1 x p) := by kernel_rfl
noncomputable def lst2 (x : Fi) (p : Int × Sp) : St := (steps XL lops.toList (lops.toList.take 3) (lst1 x p)).getD ⟨[], []⟩
theorem lst2_eq (x : Fi) (p : Int × Sp) : steps XL lops.toList (lops.toList.take 3) (lst1 x p) = some (lst2 x p) := by kernel_rfl
theorem lst2_m (x : Fi) (p : Int × Sp) : (lst2 x p).get 12 = .tok 0 tRF x := by kernel_rfl
theorem lst2_k (x : Fi) (p : Int × Sp) : (lst2 x p).get 13 = enc tSpot p := by kernel_rfl
noncomputable def lst3 (x : Fi) (p : Int × Sp) (q : Sp) (b : Bool) : St := (steps XL lops.toList (lops.toList.drop 4) ((lst2 x p).put (some 14) (.tup [enc tSpan q, .bool b]))).getD ⟨[], []⟩
theorem lst3_eq (x : Fi) (p : Int × Sp) (q : Sp) (b : Bool) : steps XL lops.toList (lops.toList.drop 4) ((lst2 x p).put (some 14) (.tup [enc tSpan q, .bool b])) = some (lst3 x p q b) := by kernel_rfl
noncomputable def lend (x : Fi) (p : Int × Sp) (q : Sp) (b : Bool) : Option AV := evC XL 0 q2 (lst3 x p q b) (seqK (evC XL 0 q3) (finK XL Tryd.f97))
theorem lend_hit (x : Fi) (p : Int × Sp) (q : Sp) : lend x p q true = some (enc tSpan q) := by kernel_rfl
theorem lend_miss (x : Fi) (p : Int × Sp) : lend x p (0, 0) false = lastT x p := by kernel_rfl

theorem lastT_eq (x : Fi) (p : Int × Sp) (h : inReels x p.1 = true) : lastT x p = some (enc tSpan (lastF x p)) := by
  simp only [inReels, Bool.and_eq_true, decide_eq_true_eq] at h
  obtain ⟨h0, h1⟩ := h
  have e : ∀ q : Sp, q = lastF x p → (decide (0 ≤ p.1) && (decide (p.1 < (x.1.length : Int)) && decide (q = lastF x p))) = true := fun q hq => by simp [h0, h1, hq]
  unfold lastT
  have e1 : (decide (0 ≤ p.1) && decide (p.1 < (x.1.length : Int))) = true := by simp [h0, h1]
  rw [e1, cond_true]
  generalize hr : x.1.getD p.1.toNat (((0 : Int), (0 : Int)), ((0 : Int), (0 : Int)), ((0 : Int), (0 : Int))) = r
  have hl : lastF x p = if minI r.1.2 p.2.2 < maxI r.1.1 p.2.1 ∨ r.2.1.2 < maxI r.2.1.1 (maxI r.1.1 p.2.1) then (1, 0) else (maxI r.2.1.1 (maxI r.1.1 p.2.1), r.2.1.2) := by rw [← hr]; rfl
  have f1 : (if p.2.2 < r.1.2 then p.2.2 else r.1.2) = minI r.1.2 p.2.2 := rfl
  have f2 : (if r.1.1 < p.2.1 then p.2.1 else r.1.1) = maxI r.1.1 p.2.1 := rfl
  simp only [f1, f2]
  have f3 : (if r.2.1.1 < maxI r.1.1 p.2.1 then maxI r.1.1 p.2.1 else r.2.1.1) = maxI r.2.1.1 (maxI r.1.1 p.2.1) := rfl
  simp only [f3]
  by_cases A : minI r.1.2 p.2.2 < maxI r.1.1 p.2.1
  · rw [decide_eq_true A, cond_true]
    have hq : ((1 : Int), (0 : Int)) = lastF x p := by rw [hl, if_pos (.inl A)]
    rw [e _ hq, cond_true, ← hq]
    rfl
  · rw [decide_eq_false A, cond_false]
    by_cases D : r.2.1.2 < maxI r.2.1.1 (maxI r.1.1 p.2.1)
    · rw [decide_eq_true D, cond_true]
      have hq : ((1 : Int), (0 : Int)) = lastF x p := by rw [hl, if_pos (.inr D)]
      rw [e _ hq, cond_true, ← hq]
      rfl
    · rw [decide_eq_false D, cond_false]
      have hq : (maxI r.2.1.1 (maxI r.1.1 p.2.1), r.2.1.2) = lastF x p := by rw [hl, if_neg (fun h => h.elim A D)]
      rw [e _ hq, cond_true, ← hq]
      rfl

theorem ctxU {X : Ctx} (hT : X.T = TT) (hG : X.G = GG) (hK : X.K = []) (hI : X.I = []) (hk : X.mkm = none) (hu : X.up = some upM) (hC : AllC X.C) : CtxOK Bs.env X where
  T := by rw [hT]; exact chkAll_ok (B := Bs) rfl chkTT
  G := hG
  C := fun f g h => hC f g h
  M := mixed
  K := fun i g h => by rw [hK] at h; cases h
  I := fun f it h => by rw [hI] at h; cases h
  mkm := fun d h => by rw [hk] at h; cases h
  up := fun u h => by
    rw [hu] at h
    cases h
    exact upM_ok

theorem ctxL : CtxOK Bs.env XL := ctxU rfl rfl rfl rfl rfl rfl AllC.nil

theorem k97 : Good 97 g97 := by
  refine ⟨ctr_hand (B := Bs) Tryd.func97 last_body fun args r hg V io W vs a hd hb hr S => ?_, Tryd.f97, Tryd.func97, by kernel_rfl, by kernel_rfl⟩
  unfold g97 at hg
  split at hg
  · rename_i a0 t0 d0 a1
    split at hg
    · rename_i x y p hx hy hp
      simp only [Option.some.injEq, Prod.mk.injEq, Bool.and_eq_true, decide_eq_true_eq] at hg
      obtain ⟨⟨e, hok⟩, rfl⟩ := hg
      subst e
      simp only [wkL, wk_film hx hy, wk_dec hp] at S hr
      refine ⟨XL, enc tSpan (lastF x p), ctxL, wk_enc _ _, fun Q hQ => ?_⟩
      refine wpIn_seq (evC_ok ctxL 0 q0 none (.inl rfl) (D := fun _ => True) (fun _ _ => trivial) nrm (lst1 x p) _ ?_ _ _ _ W (lst1_eq x p) S (Fm.refl _ _ _ _ _))
      intro e s' he C' a' W' S' _
      cases e with
      | norm =>
        cases he
        refine wpIn_seq (wpIn_seq ?_)
        rw [q1_eq]
        have hlo := look_op
        cases ho : lops[3]? with
        | none => rw [ho] at hlo; cases hlo
        | some o =>
          rw [ho] at hlo
          simp only [Option.map_some, Option.some.injEq, Prod.mk.injEq] at hlo
          obtain ⟨h1, h2, h3⟩ := hlo
          refine region_cut ctxL none ho h3 (lst2_eq x p) S' fun C2 a2 W2 S2 => ?_
          have hm := S2.get 12
          have hk := S2.get 13
          rw [lst2_m] at hm
          rw [lst2_k] at hk
          have hm' : TRr 0 tRF x C2.V C2.io W2 (a2.tmps.getD 12 undef) := by
            rcases hm with hm | ⟨cs, g1, g2, g3⟩
            · cases hm
            · simp only [Rel] at g2
              obtain ⟨v, rfl, g2⟩ := g2
              rw [g3]
              exact g2
          have hk' := vr_spot (k := enc tSpot p) (p := p) rfl hk
          have hin : inReels x p.1 = true := hok
          have hin2 := hin
          simp only [inReels, Bool.and_eq_true, decide_eq_true_eq] at hin2
          have hm2 : memoV C2.io W2 ⟨tRF, x⟩ (a2.tmps.getD 12 undef) := hm'
          rcases hm2 with ⟨b, e1, e2, e3⟩ | ⟨_, e⟩
          · obtain ⟨es, ck, g1, g2⟩ := S2.iok b tRF x e3
            obtain ⟨q, ok, hrun, c1, c2⟩ := look_spot g1 g2 p.1 p.2
            refine ⟨.tuple #[spanV q, .bool ok], C2, W2, ?_, S2, .tup [enc tSpan q, .bool ok], ?_, lst3 x p q ok, by rw [h2]; exact lst3_eq x p q ok, fun C3 a3 W3 S3 => ?_⟩
            · unfold execOp
              rw [h1]
              simp only [Act.eval, hk', e1]
              have : (Instr.lookup 80 (.map (some b)) (spotV p.1 p.2) true).run Tryd.prog W2 = .ok (.tuple #[spanV q, .bool ok]) W2 := hrun
              simp only [Sem.run_bind]
              rw [show Bs.env.P = Tryd.prog from rfl, this]
              rfl
            · refine .inr ⟨[.tuple #[spanV q, .bool ok]], rfl, ?_, rfl⟩
              simp only [Rel, RelV]
              refine ⟨_, rfl, _, _, rfl, .inr ⟨[.int .i64 q.1, .int .i64 q.2], rfl, ?_, rfl⟩, _, _, rfl, .inr ⟨[.bool ok], rfl, by simp [Rel], rfl⟩, rfl⟩
              simp only [enc, encT, Rel, RelL]
              exact ⟨[_], [_], rfl, rfl, rfl, [_], [], rfl, rfl, rfl, rfl⟩
            · have hend : lend x p q ok = some (enc tSpan (lastF x p)) := by
                cases ok with
                | true => rw [c1 rfl]; exact lend_hit x p _
                | false => rw [c2 rfl]; exact (lend_miss x p).trans (lastT_eq x p hin)
              refine evC_ok ctxL 0 q2 none (.inl rfl) (D := fun _ => True) (fun _ _ => trivial) (seqK (evC XL 0 q3) (finK XL Tryd.f97)) _ _ ?_ _ _ _ W3 hend S3 (Fm.refl _ _ _ _ _)
              intro e4 s4 he4 C4 a4 W4 S4 _
              cases e4 with
              | norm =>
                refine evC_ok ctxL 0 q3 none (.inl rfl) (D := fun _ => True) (fun _ _ => trivial) (finK XL Tryd.f97) _ _ ?_ _ _ _ W4 he4 S4 (Fm.refl _ _ _ _ _)
                intro e5 s5 he5 C5 a5 W5 S5 _
                exact hQ e5 s5 he5 W io (Keep.refl _ _ _) C5 a5 W5 S5
              | exit j => exact hQ (.exit j) s4 he4 W io (Keep.refl _ _ _) C4 a4 W4 S4
              | ret => exact hQ .ret s4 he4 W io (Keep.refl _ _ _) C4 a4 W4 S4
          · cases e
            have : (zRF.1.length : Int) = 0 := rfl
            omega
      | exit j => cases he
      | ret => cases he
    · cases hg
  · cases hg

end Ev
end Go.Proofs.YtidnikjkpbmhhaaDoor
