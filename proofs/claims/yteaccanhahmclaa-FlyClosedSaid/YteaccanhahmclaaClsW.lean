/- fly.Closed: walked. -/
import Derived.Test.YteaccanhahmclaaRvC
import Derived.Test.YteaccanhahmclaaFlyAtC
namespace Go.Proofs.Yteaccanhahmclaa
open Go.RowKit
namespace Cls
open Kit Plane Poly Chart Vol Route Path
/-- The segment of a time. -/
noncomputable def sg (T : Nat → Int) (n : Nat) (t : Int) : Nat := by
  classical
  exact if h : ∃ i, seg T n t i then Classical.choose h else 0
theorem seg_sg {T : Nat → Int} {n : Nat} {t : Int} (h0 : 0 < n) (h : T 0 ≤ t) : seg T n t (sg T n t) := by
  have hs := seg_ex h0 h
  unfold sg
  rw [dif_pos hs]
  exact Classical.choose_spec hs
section
variable (n : Nat) (T X Y H : Nat → Int)
noncomputable def px (t : Int) : Int := atx T X (sg T n t) t
noncomputable def py (t : Int) : Int := atx T Y (sg T n t) t
noncomputable def ph (t : Int) : Int := ath T H (sg T n t) t
/-- The position is in the volume, which is closed. -/
noncomputable def inV (d : Vd) (t : Int) : Bool := durB d.m d.F d.T t && decide (0 ≤ place d.n d.X d.Y (px n T X t) (py n T Y t) ∧ d.l ≤ ph n T H t ∧ ph n T H t < d.h)
end
theorem node_ok {n : Nat} {T X Y H : Nat → Int} {t : Int} (hp : pok T X Y H n) (h0 : T 0 ≤ t) (h1 : t ≤ T (n - 1)) : good (px n T X t) (py n T Y t) ∧ 0 ≤ ph n T H t ∧ ph n T H t ≤ 60000 := by
  have hn := hp.1
  obtain ⟨s1, s2, s3⟩ := seg_sg (T := T) (n := n) hn h0
  obtain ⟨-, -, hb, hi⟩ := hp
  unfold px py ph
  generalize sg T n t = i at *
  have bi := hb i s1
  rcases Nat.lt_or_ge (i + 1) n with hl | hl
  · have lt := s3 hl
    have bj := hb (i + 1) hl
    have tx := tw_bd (a := X i) (b := X (i + 1)) (n := t - T i) (d := T (i + 1) - T i) (by omega) (by omega) (by omega)
    have ty := tw_bd (a := Y i) (b := Y (i + 1)) (n := t - T i) (d := T (i + 1) - T i) (by omega) (by omega) (by omega)
    have th := quo_bd (d := H (i + 1) - H i) (n := t - T i) (N := T (i + 1) - T i) (by omega) (by omega) (by omega)
    have g1 := bi.2.2.1; have g2 := bj.2.2.1
    unfold good at g1 g2 ⊢
    unfold atx ath
    omega
  · have e : i = n - 1 := by omega
    have et : t = T i := by rw [e]; rw [e] at s2; omega
    rw [et, atx_at, atx_at, ath_at]
    exact ⟨bi.2.2.1, bi.2.2.2.1, bi.2.2.2.2⟩
theorem has_one {w : World} {v : Value} {n : Nat} {X Y : Nat → Int} {l h qx qy qh : Int} (hv : QV w v n X Y) (hp : pck n X Y = 0) (hb : 0 ≤ l ∧ h ≤ 60001 ∧ l < h) (g : good qx qy) (hh : 0 ≤ qh ∧ qh ≤ 60000) :
    Calls Try.prog 41 #[.agg #[v, .int .i64 l, .int .i64 h], .agg #[.int .i64 qx, .int .i64 qy], .int .i64 qh] w fun e w' => e = .returned (.tuple #[.bool (decide (0 ≤ place n X Y qx qy ∧ l ≤ qh ∧ qh < h)), .int .i64 0]) ∧ Below w.heap.size w w' := by
  have q := hasC hv l h qx qy qh
  have e : hasV (pck n X Y) l h qx qy qh (place n X Y qx qy) = (decide (0 ≤ place n X Y qx qy ∧ l ≤ qh ∧ qh < h), 0) := by
    have e0 : vck (pck n X Y) l h = 0 := by unfold vck; rw [if_neg (fun e => e hp), if_neg (by omega)]
    unfold hasV
    rw [if_neg (fun e => e e0), if_neg (by rw [goodB_iff.2 g]; decide), if_neg (by omega)]
  rw [e] at q; exact q
/-- What fly.Closed answers where path and volumes are permitted. -/
def ClR (n : Nat) (T X Y H : Nat → Int) (m : Nat) (D : Nat → Vd) (e : Ending) : Prop :=
  (e = .returned (.tuple #[.string ⟨#[]⟩, .int .i64 0, .int .i64 8]) ∧ ∀ t, T 0 ≤ t → t ≤ T (n - 1) → ∀ k, k < m → inV n T X Y H (D k) t = false) ∨
  ∃ (t : Int) (k : Nat), (T 0 ≤ t ∧ t ≤ T (n - 1)) ∧ k < m ∧ inV n T X Y H (D k) t = true ∧ (∀ t', T 0 ≤ t' → t' < t → ∀ k', k' < m → inV n T X Y H (D k') t' = false) ∧ e = .returned (.tuple #[.string (D k).N, .int .i64 t, .int .i64 0])
set_option maxRecDepth 100000 in
set_option maxHeartbeats 8000000 in
theorem closed_bad (v1 v2 : Value) (E : Int) (w : World) (hE1 : (E != 0) = true) (CK : Hid (∀ w1, Below w.heap.size w w1 → Calls Try.prog 88 #[v1] w1 fun e w' => e = .returned (.int .i64 E) ∧ Below w1.heap.size w1 w')) :
    Calls Try.prog 38 #[v1, v2] w fun e w' => e = .returned (.tuple #[.string ⟨#[]⟩, .int .i64 0, .int .i64 E]) ∧ Below w.heap.size w w' := by
  have hE0 : (E == 0) = false := by simpa using hE1
  go_enter Try.func38, Try.ntmps38
  go_wp2_with fail
  (with_reducible refine (CK.out _ (Below.refl _ _)).mono ?_); rintro e w1 ⟨rfl, hb⟩
  have W1 := Lib.hid hb; clear hb
  go_wp2_with fail
  refine bodyPost_ret (v := .tuple #[.string ⟨#[]⟩, .int .i64 0, .int .i64 E]) (by simp [results, Try.results38, go_sem]) rfl ⟨rfl, ?_⟩
  exact W1.out
set_option maxRecDepth 100000 in
set_option maxHeartbeats 8000000 in
theorem closed_bad2 (v1 v2 : Value) (E : Int) (w : World) (hE1 : (E != 0) = true) (CK : Hid (∀ w1, Below w.heap.size w w1 → Calls Try.prog 88 #[v1] w1 fun e w' => e = .returned (.int .i64 0) ∧ Below w1.heap.size w1 w')) (CV : Hid (∀ w1, Below w.heap.size w w1 → Calls Try.prog 89 #[v2] w1 fun e w' => e = .returned (.int .i64 E) ∧ Below w1.heap.size w1 w')) :
    Calls Try.prog 38 #[v1, v2] w fun e w' => e = .returned (.tuple #[.string ⟨#[]⟩, .int .i64 0, .int .i64 E]) ∧ Below w.heap.size w w' := by
  have hE0 : (E == 0) = false := by simpa using hE1
  go_enter Try.func38, Try.ntmps38
  go_wp2_with fail
  (with_reducible refine (CK.out _ (Below.refl _ _)).mono ?_); rintro e w1 ⟨rfl, hb⟩
  have W1 := Lib.hid hb; clear hb
  go_wp2_with fail
  (with_reducible refine (CV.out _ W1.out).mono ?_); rintro e w2 ⟨rfl, hb⟩
  have W2 := Lib.hid (b_next W1.out hb); clear hb
  go_wp2_with fail
  refine bodyPost_ret (v := .tuple #[.string ⟨#[]⟩, .int .i64 0, .int .i64 E]) (by simp [results, Try.results38, go_sem]) rfl ⟨rfl, ?_⟩
  exact W2.out
set_option maxRecDepth 100000 in
set_option maxHeartbeats 8000000 in
theorem closed_ok (b off n c : Nat) (B : Option Addr) (m d : Nat) (T X Y H : Nat → Int) (D : Nat → Vd) (w : World) (_hc1 : n ≤ c) (hc2 : c ≤ maxLen) (hm : m ≤ 16) (_hmd : m ≤ d) (hdm : d ≤ maxLen) (hn : 0 < n) (hn64 : n ≤ 64)
    (HP : Hid (pok T X Y H n)) (HF : Hid (PV w (.slice (some ⟨b, off, none⟩) n c) n T X Y H)) (HN : Hid (∀ k, k < n → N4 w b off k (T k) (X k) (Y k) (H k))) (HV : Hid (RV w (.slice B m d) m D))
    (HK : Hid (∀ k, k < m → pck (D k).n (D k).X (D k).Y = 0 ∧ (0 ≤ (D k).l ∧ (D k).h ≤ 60001 ∧ (D k).l < (D k).h) ∧ ckS (D k).m (D k).F (D k).T = 0))
    (CK : Hid (∀ w1, Below w.heap.size w w1 → Calls Try.prog 88 #[.slice (some ⟨b, off, none⟩) n c] w1 fun e w' => e = .returned (.int .i64 0) ∧ Below w1.heap.size w1 w')) (CV : Hid (∀ w1, Below w.heap.size w w1 → Calls Try.prog 89 #[.slice B m d] w1 fun e w' => e = .returned (.int .i64 0) ∧ Below w1.heap.size w1 w')) :
    Calls Try.prog 38 #[.slice (some ⟨b, off, none⟩) n c, .slice B m d] w fun e w' => ClR n T X Y H m D e ∧ Below w.heap.size w w' := by
  have hc9 : c ≤ 9223372036854775807 := Nat.le_trans hc2 (by decide)
  have hd9 : d ≤ 9223372036854775807 := Nat.le_trans hdm (by decide)
  obtain ⟨P, hP⟩ : ∃ P, P = n - 1 := ⟨_, rfl⟩
  have b0 := (HP.out.2.2.1 0 hn).1; have b1 := (HP.out.2.2.1 P (by omega)).2.1
  have hle := pok_le HP.out (Nat.zero_le P) (show P < n by omega)
  have N0 := Lib.hid ((HN.out 0 hn).1.1); have NP := Lib.hid ((HN.out P (by omega)).1.1)
  have hPn : (P : Int) < (n : Int) := by omega
  have hn0 : (0 : Int) < (n : Int) := by omega
  have hix : (n : Int) - 1 = (P : Int) := by omega
  have HIX := Lib.hid hix; clear hix
  have FIN : Hid (ClR n T X Y H m D = fun e => (e = .returned (.tuple #[.string ⟨#[]⟩, .int .i64 0, .int .i64 8]) ∧ ∀ t, T 0 ≤ t → t ≤ T P → ∀ k, k < m → inV n T X Y H (D k) t = false) ∨
    ∃ (t : Int) (k : Nat), (T 0 ≤ t ∧ t ≤ T P) ∧ k < m ∧ inV n T X Y H (D k) t = true ∧ (∀ t', T 0 ≤ t' → t' < t → ∀ k', k' < m → inV n T X Y H (D k') t' = false) ∧ e = .returned (.tuple #[.string (D k).N, .int .i64 t, .int .i64 0])) := Lib.hid (by rw [hP]; rfl)
  have ATC : Hid (∀ t, T 0 ≤ t → t ≤ T P → ∀ w1, Below w.heap.size w w1 → Calls Try.prog 90 #[.slice (some ⟨b, off, none⟩) n c, .int .i64 t] w1 fun e w' => e = .returned (.agg #[.int .i64 t, .int .i64 (px n T X t), .int .i64 (py n T Y t), .int .i64 (ph n T H t)]) ∧ Below w1.heap.size w1 w') := Lib.hid fun t h0 h1 w1 hb => atC_mk HF.out HP.out (seg_sg hn h0) (by rw [← hP]; exact h1) w1 hb
  have NOK : Hid (∀ t, T 0 ≤ t → t ≤ T P → good (px n T X t) (py n T Y t) ∧ 0 ≤ ph n T H t ∧ ph n T H t ≤ 60000) := Lib.hid fun t h0 h1 => node_ok HP.out h0 (by rw [← hP]; exact h1)
  obtain ⟨t0, ht0⟩ : ∃ t0, t0 = T 0 := ⟨_, rfl⟩
  obtain ⟨tl, htl⟩ : ∃ tl, tl = T P := ⟨_, rfl⟩
  rw [← ht0] at b0 hle N0 FIN ATC NOK
  rw [← htl] at b1 hle NP FIN ATC NOK
  clear ht0 htl hc2 hdm hP
  go_enter Try.func38, Try.ntmps38
  go_wp2_with fail
  (with_reducible refine (CK.out _ (Below.refl _ _)).mono ?_); rintro e w1 ⟨rfl, hb⟩
  have W1 := Lib.hid hb; clear hb
  go_wp2_with fail
  (with_reducible refine (CV.out _ W1.out).mono ?_); rintro e w2 ⟨rfl, hb⟩
  have W2 := Lib.hid (b_next W1.out hb); clear hb
  have n0 := keep W2.out N0.out
  rw [Nat.zero_mul, Nat.add_zero] at n0
  go_wp2_with fail
  clear n0
  go_loopw [9] (fun s wr => ∃ t : Int, t0 ≤ t ∧ t ≤ tl + 1 ∧ s = .int .i64 t ∧ (∀ t', t0 ≤ t' → t' < t → ∀ k', k' < m → inV n T X Y H (D k') t' = false) ∧ Below w.heap.size w wr) (fun s _ => (tl + 1 - intOf s).toNat)
  case atStart => exact ⟨t0, Int.le_refl _, by omega, rfl, fun t' h1 h2 => absurd h1 (by omega), W2.out⟩
  case round =>
    obtain ⟨t, hta, htb, rfl, hno, hbl⟩ := hrel
    have NO := Lib.hid hno; have WR := Lib.hid hbl; clear hno
    have np := keep hbl NP.out
    have hix := HIX.out
    by_cases hlt : t ≤ tl
    · have AC := Lib.hid (ATC.out t hta hlt wr hbl)
      have nok := NOK.out t hta hlt
      clear hbl
      go_wp2_with fail
      (with_reducible refine AC.out.mono ?_); rintro e w4 ⟨rfl, hb⟩
      have W4 := Lib.hid (b_next WR.out hb); clear hb np hix AC
      have BLK := Lib.hid (c4_new w4 68 t (px n T X t) (py n T Y t) (ph n T H t))
      have W5 := Lib.hid (b_alloc W4.out (.cells #[.int .i64 t, .int .i64 (px n T X t), .int .i64 (py n T Y t), .int .i64 (ph n T H t)] 68))
      have IVD : Hid (∀ k, inV n T X Y H (D k) t = (durB (D k).m (D k).F (D k).T t && decide (0 ≤ place (D k).n (D k).X (D k).Y (px n T X t) (py n T Y t) ∧ (D k).l ≤ ph n T H t ∧ ph n T H t < (D k).h))) := Lib.hid fun k => rfl
      generalize px n T X t = qx at *
      generalize py n T Y t = qy at *
      generalize ph n T H t = qh at *
      obtain ⟨bn, hbn⟩ : ∃ bn, bn = w4.heap.size := ⟨_, rfl⟩
      go_wp2_with fail
      rw [← hbn] at BLK ⊢
      clear hbn
      generalize w4.alloc (.cells #[.int .i64 t, .int .i64 qx, .int .i64 qy, .int .i64 qh] 68) = wb at *
      go_loopw [47] (fun s wi => ∃ k : Nat, k ≤ m ∧ s = .int .i64 k ∧ (∀ k', k' < k → inV n T X Y H (D k') t = false) ∧ Below wb.heap.size wb wi) (fun s _ => m - (intOf s).toNat)
      case atStart => exact ⟨0, Nat.zero_le _, rfl, fun k' h => absurd h (Nat.not_lt_zero k'), Below.refl _ _⟩
      case round =>
        obtain ⟨k, hk, rfl, hnk, hbl⟩ := hrel
        have NK := Lib.hid hnk; have BI := Lib.hid hbl; clear hnk
        have WI := Lib.hid (b_next W5.out hbl)
        by_cases hltk : k < m
        · have hl : (k : Int) < (m : Int) := by omega
          obtain ⟨vb, vo, c', e, hv1, hv2, h3⟩ := rv_at (rv_keep WI.out HV.out) (by omega)
          injection e with e1 _ e3
          subst e1 e3
          obtain ⟨va, vc, c5, qa, qc⟩ := h3 k hltk
          obtain ⟨A1, ca1, rfl, -⟩ := qv_slice qa
          obtain ⟨A2, ca2, rfl, -⟩ := qv_slice qc
          have WA := b_alloc (Below.refl wr.heap.size wr) (.cells #[.string (D k).N, .slice A1 (D k).n ca1, .int .i64 (D k).l, .int .i64 (D k).h, .slice A2 (D k).m ca2] 86)
          have NA := Lib.hid (v5_new wr 86 (D k).N (.slice A1 (D k).n ca1) (D k).l (D k).h (.slice A2 (D k).m ca2))
          have BA := Lib.hid (b_next hbl WA)
          have BK2 := Lib.hid (c4_keep (b_next hbl WA) BLK.out)
          have hkk := HK.out k hltk
          have DC := Lib.hid fun (w' : World) (hb : Below wr.heap.size wr w') => (by
            have q := durC (qv_keep hb qc) t
            rw [hkk.2.2] at q; exact q : Calls Try.prog 42 #[.slice A2 (D k).m ca2, .int .i64 t] w' fun e w'' => e = .returned (.tuple #[.bool (durB (D k).m (D k).F (D k).T t), .int .i64 0]) ∧ Below w'.heap.size w' w'')
          have HC := Lib.hid fun (w' : World) (hb : Below wr.heap.size wr w') => has_one (qv_keep hb qa) hkk.1 hkk.2.1 nok.1 nok.2
          have IV := Lib.hid (IVD.out k)
          have NEXT : Hid (inV n T X Y H (D k) t = false → ∀ k', k' < k + 1 → inV n T X Y H (D k') t = false) := Lib.hid fun h k' hk' => by
            rcases Nat.lt_or_ge k' k with hl | hl
            · exact NK.out k' hl
            · rw [show k' = k by omega]; exact h
          obtain ⟨x0, x1, x2, x3, x4⟩ := c5
          clear hbl h3 qa qc hkk
          obtain ⟨bq, hbq⟩ : ∃ bq, bq = wr.heap.size := ⟨_, rfl⟩
          have WAH := Lib.hid WA; clear WA
          go_wp2_with fail
          rw [← hbq] at NA ⊢
          clear x0 x1 x2 x3 x4 hbq
          obtain ⟨z0, z1, z2, z3, z4⟩ := NA.out
          go_wp2_with fail
          (with_reducible refine (DC.out _ WAH.out).mono ?_); rintro e w6 ⟨rfl, hb⟩
          have W6 := Lib.hid (b_next BA.out hb); have N6 := Lib.hid (v5_keep hb NA.out); have B6 := Lib.hid (c4_keep hb BK2.out); have A6 := Lib.hid (b_next WAH.out hb)
          clear hb z0 z1 z2 z3 z4
          cases hd : durB (D k).m (D k).F (D k).T t with
          | false =>
            have NX := Lib.hid (NEXT.out (by rw [IV.out, hd]; rfl))
            clear hd
            go_wp2_with fail
            go_roundw
            case rel => exact ⟨k + 1, by omega, by go_num, NX.out, W6.out⟩
            case measure => simp [intOf]; omega
          | true =>
            obtain ⟨z0, z1, z2, z3, z4⟩ := N6.out
            obtain ⟨⟨y0, y1⟩, y2, y3⟩ := B6.out
            have IV2 := Lib.hid (show inV n T X Y H (D k) t = decide (0 ≤ place (D k).n (D k).X (D k).Y qx qy ∧ (D k).l ≤ qh ∧ qh < (D k).h) by rw [IV.out, hd]; rfl)
            clear hd
            obtain ⟨BB, hBB⟩ : ∃ BB, BB = decide (0 ≤ place (D k).n (D k).X (D k).Y qx qy ∧ (D k).l ≤ qh ∧ qh < (D k).h) := ⟨_, rfl⟩
            rw [← hBB] at HC IV2
            clear hBB
            go_wp2_with fail
            (with_reducible refine (HC.out _ A6.out).mono ?_); rintro e w7 ⟨rfl, hb⟩
            have W7 := Lib.hid (b_next W6.out hb); have N7 := Lib.hid (v5_keep hb N6.out)
            clear hb z0 z1 z2 z3 z4 y0 y1 y2 y3
            cases BB with
            | false =>
              have NX := Lib.hid (NEXT.out IV2.out)
              go_wp2_with fail
              go_roundw
              case rel => exact ⟨k + 1, by omega, by go_num, NX.out, W7.out⟩
              case measure => simp [intOf]; omega
            | true =>
              have z0 := N7.out.c0
              go_wp2_with fail
              refine bodyPost_ret (v := .tuple #[.string (D k).N, .int .i64 t, .int .i64 0]) (by simp [results, Try.results38, go_sem]) rfl ⟨?_, b_next W5.out W7.out⟩
              rw [FIN.out]
              exact Or.inr ⟨t, k, ⟨hta, hlt⟩, hltk, IV2.out, NO.out, rfl⟩
        · have hkm : m = k := by omega
          subst hkm
          have NO2 : Hid (∀ t', t0 ≤ t' → t' < t + 1 → ∀ k', k' < m → inV n T X Y H (D k') t' = false) := Lib.hid fun t' h1 h2 k' hk' => by
            rcases Int.lt_or_le t' t with hl | hl
            · exact NO.out t' h1 hl k' hk'
            · rw [show t' = t by omega]; exact NK.out k' hk'
          have hlm : ¬ (m : Int) < (m : Int) := by omega
          clear hbl
          go_wp2_with fail
          go_roundw
          case rel => exact ⟨t + 1, by omega, by omega, rfl, NO2.out, WI.out⟩
          case measure => simp [intOf]; omega
    · clear hbl
      go_wp2_with fail
      refine bodyPost_ret (v := .tuple #[.string ⟨#[]⟩, .int .i64 0, .int .i64 8]) (by simp [results, Try.results38, go_sem]) rfl ⟨?_, WR.out⟩
      rw [FIN.out]
      exact Or.inl ⟨rfl, fun t' h1 h2 k' hk' => NO.out t' h1 (by omega) k' hk'⟩
end Cls
end Go.Proofs.Yteaccanhahmclaa
