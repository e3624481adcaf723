/- What polygon.Place returns. -/
import Derived.Test.YteaccanhahmclaaPolyB
import Derived.Test.YteaccanhahmclaaFreshU
namespace Go.Proofs.Yteaccanhahmclaa
open Go.RowKit
namespace Poly
open Kit Plane
/-- An edge crosses the ray from a point to the east. -/
def cr (ya yb qy t : Int) : Bool := (decide (qy < ya) != decide (qy < yb)) && ((decide (ya < yb) && decide (0 < t)) || (decide (yb < ya) && decide (t < 0)))
/-- The point lies on one of the first k edges. -/
def plon (n : Nat) (X Y : Nat → Int) (qx qy : Int) : Nat → Bool
  | 0 => false
  | k + 1 => plon n X Y qx qy k || onB (X k) (Y k) (X (nx n k)) (Y (nx n k)) qx qy
/-- 1 if an odd number of the first k edges cross the ray, else -1. -/
def pin (n : Nat) (X Y : Nat → Int) (qx qy : Int) : Nat → Int
  | 0 => -1
  | k + 1 => if cr (Y k) (Y (nx n k)) qy (sgn (crs (X k) (Y k) (X (nx n k)) (Y (nx n k)) qx qy)) then - pin n X Y qx qy k else pin n X Y qx qy k
def place (n : Nat) (X Y : Nat → Int) (qx qy : Int) : Int := if plon n X Y qx qy n then 0 else pin n X Y qx qy n
theorem pin_bd (n : Nat) (X Y : Nat → Int) (qx qy : Int) : ∀ k, pin n X Y qx qy k = 1 ∨ pin n X Y qx qy k = -1
  | 0 => Or.inr rfl
  | k + 1 => by
    have h := pin_bd n X Y qx qy k
    show (if cr (Y k) (Y (nx n k)) qy (sgn (crs (X k) (Y k) (X (nx n k)) (Y (nx n k)) qx qy)) then - pin n X Y qx qy k else pin n X Y qx qy k) = 1 ∨ (if cr (Y k) (Y (nx n k)) qy (sgn (crs (X k) (Y k) (X (nx n k)) (Y (nx n k)) qx qy)) then - pin n X Y qx qy k else pin n X Y qx qy k) = -1
    cases cr (Y k) (Y (nx n k)) qy (sgn (crs (X k) (Y k) (X (nx n k)) (Y (nx n k)) qx qy)) <;> simp <;> omega
theorem on_next {n : Nat} {X Y : Nat → Int} {qx qy : Int} {k : Nat} (h1 : plon n X Y qx qy k = false) (h2 : onB (X k) (Y k) (X (nx n k)) (Y (nx n k)) qx qy = false) : plon n X Y qx qy (k + 1) = false := by
  show (plon n X Y qx qy k || _) = false
  rw [h1, h2]; rfl
theorem on_stop {n : Nat} {X Y : Nat → Int} {qx qy : Int} {k : Nat} (h2 : onB (X k) (Y k) (X (nx n k)) (Y (nx n k)) qx qy = true) : ∀ m, k < m → plon n X Y qx qy m = true
  | 0, h => by omega
  | m + 1, h => by
    show (plon n X Y qx qy m || _) = true
    rcases Nat.lt_or_ge k m with hl | hl
    · rw [on_stop h2 m hl]; rfl
    · rw [show m = k from by omega, h2, Bool.or_true]
set_option maxHeartbeats 4000000 in
theorem place_w (n cap b off : Nat) (X Y : Nat → Int) (qx qy : Int) (w : World) (h0 : 0 < n) (hc : n ≤ cap) (hm : cap ≤ 9223372036854775807) (HV : Hid (∀ k, k < n → E2 w b off k (X k) (Y k))) (HN : Hid (∀ k, k < n → NxC (.slice (some ⟨b, off, none⟩) n cap) n X Y k w)) (HG : Hid (∀ k, k < n → B9 (X k) ∧ B9 (Y k))) (HQ9 : Hid (B9 qx ∧ B9 qy)) :
    Calls Try.prog 113 #[.slice (some ⟨b, off, none⟩) n cap, .agg #[.int .i64 qx, .int .i64 qy]] w fun e w' => e = .returned (.int .i64 (place n X Y qx qy)) ∧ Below w.heap.size w w' := by
  go_enter Try.func113, Try.ntmps113
  have hQ := p2_new w 43 qx qy
  have hW := b_alloc (Below.refl w.heap.size w) (.cells #[.int .i64 qx, .int .i64 qy] 43)
  have HQ := Lib.hid hQ; have HW := Lib.hid hW; clear hQ hW
  go_wp2_with fail
  go_loopw [5, 12] (fun s i wr => ∃ k : Nat, k ≤ n ∧ plon n X Y qx qy k = false ∧ s = .int .i64 (pin n X Y qx qy k) ∧ i = .int .i64 k ∧ Below w.heap.size w wr ∧ P2 wr w.heap.size qx qy) (fun _ i _ => n - (intOf i).toNat)
  case atStart => exact ⟨0, Nat.zero_le _, rfl, rfl, rfl, HW.out, HQ.out⟩
  case round =>
    obtain ⟨k, hk, hon, rfl, rfl, hbl, hp⟩ := hrel
    have HON := Lib.hid hon; clear hon
    by_cases hlt : k < n
    · obtain ⟨c0, c1⟩ := e2_keep hbl (HV.out k hlt)
      have hl : (k : Int) < (n : Int) := by omega
      have NN : Hid (NxC (.slice (some ⟨b, off, none⟩) n cap) n X Y k wr) := Lib.hid fun w1 hb => HN.out k hlt w1 (b_next hbl hb)
      have hpb : -1 ≤ pin n X Y qx qy k ∧ pin n X Y qx qy k ≤ 1 := by rcases pin_bd n X Y qx qy k with h | h <;> rw [h] <;> decide
      have OO : Hid (OnC (X k) (Y k) (X (nx n k)) (Y (nx n k)) qx qy (onB (X k) (Y k) (X (nx n k)) (Y (nx n k)) qx qy)) := Lib.hid fun w => onC _ _ _ _ _ _ w ⟨(HG.out k hlt).1, (HG.out k hlt).2, (HG.out _ (nx_lt h0)).1, (HG.out _ (nx_lt h0)).2, HQ9.out.1, HQ9.out.2⟩
      have TT : Hid (TuC (X k) (Y k) (X (nx n k)) (Y (nx n k)) qx qy (sgn (crs (X k) (Y k) (X (nx n k)) (Y (nx n k)) qx qy))) := Lib.hid fun w => turn _ _ _ _ _ _ w rfl ⟨(HG.out k hlt).1, (HG.out k hlt).2, (HG.out _ (nx_lt h0)).1, (HG.out _ (nx_lt h0)).2, HQ9.out.1, HQ9.out.2⟩
      go_wp2_with fail
      refine fresh_region (by kernel_rfl) (by kernel_rfl) ?_
      apply Fq.r
      · intro wq hc hq
        (have q0 := keep hq c0; have q1 := keep hq c1; clear hc; go_simp; first | exact q2_value | exact q2_skip | (apply q2_enter; go_at_call 148; with_reducible exact NN.out _ (cls hq)))
      simp only [Act.put, List.setIfInBounds_toArray, List.set_cons_zero, List.set_cons_succ]
      apply Fq.r
      · intro wq hc hq
        (have q0 := keep hq c0; have q1 := keep hq c1; clear hc; go_simp; first | exact q2_value | exact q2_skip | (apply q2_enter; go_at_call 148; with_reducible exact NN.out _ (cls hq)))
      simp only [Act.put, List.setIfInBounds_toArray, List.set_cons_zero, List.set_cons_succ]
      apply Fq.r
      · intro wq hc hq
        (have q0 := keep hq c0; have q1 := keep hq c1; clear hc; go_simp; first | exact q2_value | exact q2_skip | (apply q2_enter; go_at_call 148; with_reducible exact NN.out _ (cls hq)))
      simp only [Act.put, List.setIfInBounds_toArray, List.set_cons_zero, List.set_cons_succ]
      apply Fq.r
      · intro wq hc hq
        (have q0 := keep hq c0; have q1 := keep hq c1; clear hc; go_simp; first | exact q2_value | exact q2_skip | (apply q2_enter; go_at_call 148; with_reducible exact NN.out _ (cls hq)))
      simp only [Act.put, List.setIfInBounds_toArray, List.set_cons_zero, List.set_cons_succ]
      apply Fq.r
      · intro wq hc hq
        (have q0 := keep hq c0; have q1 := keep hq c1; clear hc; go_simp; first | exact q2_value | exact q2_skip | (apply q2_enter; go_at_call 148; with_reducible exact NN.out _ (cls hq)))
      simp only [Act.put, List.setIfInBounds_toArray, List.set_cons_zero, List.set_cons_succ]
      apply Fq.r
      · intro wq hc hq
        (have q0 := keep hq c0; have q1 := keep hq c1; clear hc; go_simp; first | exact q2_value | exact q2_skip | (apply q2_enter; go_at_call 148; with_reducible exact NN.out _ (cls hq)))
      simp only [Act.put, List.setIfInBounds_toArray, List.set_cons_zero, List.set_cons_succ]
      apply Fq.r
      · intro wq hc hq
        (have q0 := keep hq c0; have q1 := keep hq c1; clear hc; go_simp; first | exact q2_value | exact q2_skip | (apply q2_enter; go_at_call 148; with_reducible exact NN.out _ (cls hq)))
      simp only [Act.put, List.setIfInBounds_toArray, List.set_cons_zero, List.set_cons_succ]
      refine Fq.al 7 43 #[.int .i64 0, .int .i64 0] rfl (by simp) (fun wq => by go_simp) ?_
      refine Fq.al 8 43 #[.int .i64 0, .int .i64 0] rfl (by simp) (fun wq => by go_simp) ?_
      refine Fq.st 7 #[.int .i64 (X k), .int .i64 (Y k)] 7 43 #[.int .i64 0, .int .i64 0] rfl rfl (fun wq bq hq => ⟨((wq.setCell ⟨bq, 0, none⟩ (.int .i64 (X k))).setCell ⟨bq, 1, none⟩ (.int .i64 (Y k))), ?_, blk_set (blk_set (hq) 0 (.int .i64 (X k))) 1 (.int .i64 (Y k)), only_set (only_set (only_refl _ _) 0 (.int .i64 (X k))) 1 (.int .i64 (Y k))⟩) ?_
      · (have c0 : wq.cell? ⟨bq, 0, none⟩ = some (.int .i64 0) := blk_cell hq 0; have f0 := blk_free hq 0; have c1 : wq.cell? ⟨bq, 1, none⟩ = some (.int .i64 0) := blk_cell hq 1; have f1 := blk_free hq 1; simp only [Act.put, List.setIfInBounds_toArray, List.set_cons_zero, List.set_cons_succ]; clear hq; go_simp)
      refine Fq.st 8 #[.int .i64 (X (nx n k)), .int .i64 (Y (nx n k))] 8 43 #[.int .i64 0, .int .i64 0] rfl rfl (fun wq bq hq => ⟨((wq.setCell ⟨bq, 0, none⟩ (.int .i64 (X (nx n k)))).setCell ⟨bq, 1, none⟩ (.int .i64 (Y (nx n k)))), ?_, blk_set (blk_set (hq) 0 (.int .i64 (X (nx n k)))) 1 (.int .i64 (Y (nx n k))), only_set (only_set (only_refl _ _) 0 (.int .i64 (X (nx n k)))) 1 (.int .i64 (Y (nx n k)))⟩) ?_
      · (have c0 : wq.cell? ⟨bq, 0, none⟩ = some (.int .i64 0) := blk_cell hq 0; have f0 := blk_free hq 0; have c1 : wq.cell? ⟨bq, 1, none⟩ = some (.int .i64 0) := blk_cell hq 1; have f1 := blk_free hq 1; simp only [Act.put, List.setIfInBounds_toArray, List.set_cons_zero, List.set_cons_succ]; clear hq; go_simp)
      refine Fq.nil ⟨by kernel_rfl, fun β w1 M => ?_⟩
      simp only [List.reverse_cons, List.reverse_nil, List.nil_append, List.cons_append, putAl, Act.put, List.setIfInBounds_toArray, List.set_cons_zero, List.set_cons_succ, Nat.reduceAdd]
      have z7 := blk_b2 (M.block 9 7 _ _ _ _ rfl rfl)
      have l7 := M.fresh 7 _ _ _ rfl
      have z8 := blk_b2 (M.block 10 8 _ _ _ _ rfl rfl)
      have l8 := M.fresh 8 _ _ _ rfl
      have m7_8 := made_ne M 7 8 rfl rfl (by decide)
      have hbw1 := M.below
      clear M
      generalize β 7 = p7 at *
      generalize β 8 = p8 at *
      replace hp := p2_keep hbw1 hp
      replace z7 := z7.1; replace z8 := z8.1
      cases hO : onB (X k) (Y k) (X (nx n k)) (Y (nx n k)) qx qy with
      | true =>
        rw [hO] at OO
        have HF : Hid (place n X Y qx qy = 0) := Lib.hid (by unfold place; rw [on_stop hO n hlt]; rfl)
        clear hO
        go_wp2_with fail
        refine (OO.out _).mono ?_; rintro e w2 ⟨rfl, h⟩
        have hb2 := b_next hbw1 h; clear h
        go_wp2_with fail
        go_ret
        exact ⟨ret1 HF.out.symm, b_next hbl hb2⟩
      | false =>
        rw [hO] at OO
        have HO : Hid (plon n X Y qx qy k = false ∧ onB (X k) (Y k) (X (nx n k)) (Y (nx n k)) qx qy = false) := Lib.hid ⟨HON.out, hO⟩
        clear hO
        generalize hTT : sgn (crs (X k) (Y k) (X (nx n k)) (Y (nx n k)) qx qy) = T at TT
        have HTT := Lib.hid hTT; clear hTT
        go_wp2_with fail
        refine (OO.out _).mono ?_; rintro e w2 ⟨rfl, h⟩
        replace hp := p2_keep h hp; replace z7 := p2_keep h z7; replace z8 := p2_keep h z8; have hb2 := b_next hbw1 h; clear h
        by_cases hA : qy < Y k
        · have DA := Lib.hid (decide_eq_true hA)
          by_cases hB : qy < Y (nx n k)
          · have DB := Lib.hid (decide_eq_true hB)
            have CRF : cr (Y k) (Y (nx n k)) qy (sgn (crs (X k) (Y k) (X (nx n k)) (Y (nx n k)) qx qy)) = false := by unfold cr; rw [DA.out, DB.out]; rfl
            have HS : Hid (plon n X Y qx qy (k + 1) = false ∧ pin n X Y qx qy (k + 1) = pin n X Y qx qy k) := Lib.hid ⟨on_next HO.out.1 HO.out.2, by show (if _ then _ else _) = _; rw [CRF]; rfl⟩
            clear CRF
            have dA := DA.out; have dB := DB.out
            go_wp2_with fail
            go_roundw
            case rel => first | exact ⟨k + 1, by omega, HS.out.1, by rw [HS.out.2], by go_num, b_next hbl hb2, hp⟩ | ((repeat apply Exists.intro); exact ⟨⟨k + 1, by omega, HS.out.1, by rw [HS.out.2], by go_num, b_next hbl hb2, hp⟩, rfl⟩)
            case measure => simp [intOf]; omega
          · have DB := Lib.hid (decide_eq_false hB)
            have hd : Y (nx n k) < Y k := by omega
            have hd' : ¬ Y k < Y (nx n k) := by omega
            have D1 := Lib.hid (decide_eq_true hd); have D2 := Lib.hid (decide_eq_false hd')
            have dA := DA.out; have dB := DB.out
            go_wp2_with fail
            refine (TT.out _).mono ?_; rintro e w3 ⟨rfl, h⟩
            replace hp := p2_keep h hp; have z7 := p2_keep h z7; have z8 := p2_keep h z8; have hb3 := b_next hb2 h; clear h
            by_cases hT : T < 0
            · have CRF : cr (Y k) (Y (nx n k)) qy T = true := by unfold cr; simp only [D1.out, D2.out, DA.out, DB.out, decide_eq_true hT]; rfl
              rw [← HTT.out] at CRF
              have HS : Hid (plon n X Y qx qy (k + 1) = false ∧ pin n X Y qx qy (k + 1) = - pin n X Y qx qy k) := Lib.hid ⟨on_next HO.out.1 HO.out.2, by show (if _ then _ else _) = _; rw [CRF]; rfl⟩
              clear CRF
              have dA := DA.out; have dB := DB.out
              go_wp2_with fail
              go_roundw
              case rel => first | exact ⟨k + 1, by omega, HS.out.1, by rw [HS.out.2], by go_num, b_next hbl hb3, hp⟩ | ((repeat apply Exists.intro); exact ⟨⟨k + 1, by omega, HS.out.1, by rw [HS.out.2], by go_num, b_next hbl hb3, hp⟩, rfl⟩)
              case measure => simp [intOf]; omega
            · have CRF : cr (Y k) (Y (nx n k)) qy T = false := by unfold cr; simp only [D1.out, D2.out, DA.out, DB.out, decide_eq_false hT]; rfl
              rw [← HTT.out] at CRF
              have HS : Hid (plon n X Y qx qy (k + 1) = false ∧ pin n X Y qx qy (k + 1) = pin n X Y qx qy k) := Lib.hid ⟨on_next HO.out.1 HO.out.2, by show (if _ then _ else _) = _; rw [CRF]; rfl⟩
              clear CRF
              have dA := DA.out; have dB := DB.out
              go_wp2_with fail
              go_roundw
              case rel => first | exact ⟨k + 1, by omega, HS.out.1, by rw [HS.out.2], by go_num, b_next hbl hb3, hp⟩ | ((repeat apply Exists.intro); exact ⟨⟨k + 1, by omega, HS.out.1, by rw [HS.out.2], by go_num, b_next hbl hb3, hp⟩, rfl⟩)
              case measure => simp [intOf]; omega
        · have DA := Lib.hid (decide_eq_false hA)
          by_cases hB : qy < Y (nx n k)
          · have DB := Lib.hid (decide_eq_true hB)
            have hd : Y k < Y (nx n k) := by omega
            have hd' : ¬ Y (nx n k) < Y k := by omega
            have D1 := Lib.hid (decide_eq_true hd); have D2 := Lib.hid (decide_eq_false hd')
            have dA := DA.out; have dB := DB.out
            go_wp2_with fail
            refine (TT.out _).mono ?_; rintro e w3 ⟨rfl, h⟩
            replace hp := p2_keep h hp; have z7 := p2_keep h z7; have z8 := p2_keep h z8; have hb3 := b_next hb2 h; clear h
            by_cases hT : 0 < T
            · have CRF : cr (Y k) (Y (nx n k)) qy T = true := by unfold cr; simp only [D1.out, D2.out, DA.out, DB.out, decide_eq_true hT]; rfl
              rw [← HTT.out] at CRF
              have HS : Hid (plon n X Y qx qy (k + 1) = false ∧ pin n X Y qx qy (k + 1) = - pin n X Y qx qy k) := Lib.hid ⟨on_next HO.out.1 HO.out.2, by show (if _ then _ else _) = _; rw [CRF]; rfl⟩
              clear CRF
              have dA := DA.out; have dB := DB.out
              go_wp2_with fail
              go_roundw
              case rel => first | exact ⟨k + 1, by omega, HS.out.1, by rw [HS.out.2], by go_num, b_next hbl hb3, hp⟩ | ((repeat apply Exists.intro); exact ⟨⟨k + 1, by omega, HS.out.1, by rw [HS.out.2], by go_num, b_next hbl hb3, hp⟩, rfl⟩)
              case measure => simp [intOf]; omega
            · have CRF : cr (Y k) (Y (nx n k)) qy T = false := by unfold cr; simp only [D1.out, D2.out, DA.out, DB.out, decide_eq_false hT]; rfl
              rw [← HTT.out] at CRF
              have HS : Hid (plon n X Y qx qy (k + 1) = false ∧ pin n X Y qx qy (k + 1) = pin n X Y qx qy k) := Lib.hid ⟨on_next HO.out.1 HO.out.2, by show (if _ then _ else _) = _; rw [CRF]; rfl⟩
              clear CRF
              have dA := DA.out; have dB := DB.out
              go_wp2_with fail
              go_roundw
              case rel => first | exact ⟨k + 1, by omega, HS.out.1, by rw [HS.out.2], by go_num, b_next hbl hb3, hp⟩ | ((repeat apply Exists.intro); exact ⟨⟨k + 1, by omega, HS.out.1, by rw [HS.out.2], by go_num, b_next hbl hb3, hp⟩, rfl⟩)
              case measure => simp [intOf]; omega
          · have DB := Lib.hid (decide_eq_false hB)
            have CRF : cr (Y k) (Y (nx n k)) qy (sgn (crs (X k) (Y k) (X (nx n k)) (Y (nx n k)) qx qy)) = false := by unfold cr; rw [DA.out, DB.out]; rfl
            have HS : Hid (plon n X Y qx qy (k + 1) = false ∧ pin n X Y qx qy (k + 1) = pin n X Y qx qy k) := Lib.hid ⟨on_next HO.out.1 HO.out.2, by show (if _ then _ else _) = _; rw [CRF]; rfl⟩
            clear CRF
            have dA := DA.out; have dB := DB.out
            go_wp2_with fail
            go_roundw
            case rel => first | exact ⟨k + 1, by omega, HS.out.1, by rw [HS.out.2], by go_num, b_next hbl hb2, hp⟩ | ((repeat apply Exists.intro); exact ⟨⟨k + 1, by omega, HS.out.1, by rw [HS.out.2], by go_num, b_next hbl hb2, hp⟩, rfl⟩)
            case measure => simp [intOf]; omega
    · have he : k = n := by omega
      have HE := Lib.hid he; clear he
      go_wp2_with fail
      go_ret
      exact ⟨ret1 (by unfold place; have := HON.out; rw [HE.out] at this; rw [this, HE.out]; rfl), hbl⟩
theorem placeC {v : Value} {n : Nat} {X Y : Nat → Int} {w : World} (hv : QV w v n X Y) (h0 : 0 < n) (hg : ∀ k, k < n → B9 (X k) ∧ B9 (Y k)) {qx qy : Int} (hq : B9 qx ∧ B9 qy) :
    Calls Try.prog 113 #[v, .agg #[.int .i64 qx, .int .i64 qy]] w fun e w' => e = .returned (.int .i64 (place n X Y qx qy)) ∧ Below w.heap.size w w' := by
  have hN := fun k (hk : k < n) => nextC hv hk
  rcases hv with ⟨h0', -⟩ | ⟨h0, b, off, cap, rfl, h1, h2, h3⟩
  · omega
  · exact place_w n cap b off X Y qx qy w h0 h1 (Nat.le_trans h2 (by decide)) (Lib.hid h3) (Lib.hid hN) (Lib.hid hg) (Lib.hid hq)
end Poly
end Go.Proofs.Yteaccanhahmclaa
