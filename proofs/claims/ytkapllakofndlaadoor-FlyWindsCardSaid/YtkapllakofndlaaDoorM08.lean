/- Joined texts: WindC, FlyK, FlyP, FlyQ, FlyS. -/
import Derived.Test.YtkapllakofndlaaDoorM07
import Derived.Test.YtkapllakofndlaaDoorFlyI
namespace Go.Proofs.YtkapllakofndlaaDoor
open Go.RowKit
namespace Wind
open Kit
theorem wv_of {W : World} {v : Value} (h : Frame.Okc W (.sl [.int, .int, .int, .int, .int]) v) : ∃ n L H X Y E, WV W v n L H X Y E ∧ ∀ k, ((-9223372036854775808 ≤ L k ∧ L k ≤ 9223372036854775807) ∧ (-9223372036854775808 ≤ H k ∧ H k ≤ 9223372036854775807)) ∧ (-9223372036854775808 ≤ X k ∧ X k ≤ 9223372036854775807) ∧ (-9223372036854775808 ≤ Y k ∧ Y k ≤ 9223372036854775807) ∧ (-9223372036854775808 ≤ E k ∧ E k ≤ 9223372036854775807) := by
  rcases h.sl_inv with rfl | ⟨a, cap, rfl, hc⟩ | ⟨b, off, len, cap, cells, rfl, h0, h1, h2, hc, ho⟩
  · exact ⟨0, fun _ => 0, fun _ => 0, fun _ => 0, fun _ => 0, fun _ => 0, Or.inl ⟨rfl, Or.inl rfl⟩, fun _ => by simp⟩
  · exact ⟨0, fun _ => 0, fun _ => 0, fun _ => 0, fun _ => 0, fun _ => 0, Or.inl ⟨rfl, Or.inr ⟨a, cap, rfl, hc⟩⟩, fun _ => by simp⟩
  · have z : ∀ i, i < len → ∀ j (hj : j < 5), ∃ n : Int, cells i j = .int .i64 n ∧ -9223372036854775808 ≤ n ∧ n ≤ 9223372036854775807 := fun i hi j hj => by
      have hk := ho i hi j hj
      have hj' : j = 0 ∨ j = 1 ∨ j = 2 ∨ j = 3 ∨ j = 4 := by omega
      rcases hj' with rfl | rfl | rfl | rfl | rfl <;> exact hk.int_inv
    let g : Nat → Nat → Int := fun i j => if i < len ∧ j < 5 then match cells i j with | .int _ n => n | _ => 0 else 0
    have hg : ∀ i, i < len → ∀ j, j < 5 → W.cell? ⟨b, off + i * 5 + j, none⟩ = some (.int .i64 (g i j)) := fun i hi j hj => by
      obtain ⟨n, e, _⟩ := z i hi j hj
      have hcc := hc i hi j hj
      show W.cell? _ = some (.int .i64 (if i < len ∧ j < 5 then match cells i j with | .int _ n => n | _ => 0 else 0))
      rw [if_pos ⟨hi, hj⟩]
      rw [e] at hcc ⊢
      exact hcc
    have hgb : ∀ i j, -9223372036854775808 ≤ g i j ∧ g i j ≤ 9223372036854775807 := fun i j => by
      show -9223372036854775808 ≤ (if i < len ∧ j < 5 then match cells i j with | .int _ n => n | _ => 0 else 0) ∧ (if i < len ∧ j < 5 then match cells i j with | .int _ n => n | _ => 0 else 0) ≤ 9223372036854775807
      split
      · rename_i hh
        obtain ⟨n, e, hb⟩ := z i hh.1 j hh.2
        rw [e]
        exact hb
      · omega
    exact ⟨len, fun i => g i 0, fun i => g i 1, fun i => g i 2, fun i => g i 3, fun i => g i 4, Or.inr ⟨h0, b, off, cap, rfl, h1, h2, fun k hk => ⟨hg k hk 0 (by decide), hg k hk 1 (by decide), hg k hk 2 (by decide), hg k hk 3 (by decide), hg k hk 4 (by decide)⟩⟩, fun k => ⟨⟨hgb k 0, hgb k 1⟩, hgb k 2, hgb k 3, hgb k 4⟩⟩
theorem check_big (A : Option Addr) (n cap : Nat) (w : World) (hn : 16 < n) (_hc : n ≤ cap) (_hm : cap ≤ 9223372036854775807) : Calls Tryd.prog 39 #[.slice A n cap] w fun e w' => e = .returned (.int .i64 2) ∧ w = w' := by
  have h : (16 : Int) < (n : Int) := by omega
  go_enter Tryd.func39, Tryd.ntmps39
  go_wp2
  all_goals first | (exfalso; omega) | (go_ret; exact ⟨rfl, rfl⟩)
theorem check_none (A : Option Addr) (cap : Nat) (w : World) : Calls Tryd.prog 39 #[.slice A 0 cap] w fun e w' => e = .returned (.int .i64 0) ∧ Below w.heap.size w w' := by
  go_enter Tryd.func39, Tryd.ntmps39
  go_wp2_with fail
  go_loopw [11] (fun s wr => s = .int .i64 0 ∧ w = wr) (fun _ _ => 0)
  case atStart => exact ⟨rfl, rfl⟩
  case round =>
    obtain ⟨rfl, rfl⟩ := hrel
    go_wp2_with fail
    go_ret
    exact ⟨rfl, Below.refl _ _⟩
theorem checkC {v : Value} {n : Nat} {L H X Y E : Nat → Int} {w : World} (hv : WV w v n L H X Y E) : ∀ w1, Below w.heap.size w w1 → Calls Tryd.prog 39 #[v] w1 fun e w' => e = .returned (.int .i64 (wck L H X Y E n)) ∧ Below w1.heap.size w1 w' := fun w1 hb => by
  unfold wck
  rcases wv_keep hb hv with ⟨h0, hs⟩ | ⟨h0, b, off, cap, rfl, h1, h2, h3⟩
  · subst h0
    rw [if_neg (by decide)]
    rcases hs with rfl | ⟨a, cap, rfl, -⟩
    · exact check_none _ _ w1
    · exact check_none _ _ w1
  · by_cases hn : 16 < n
    · rw [if_pos hn]
      exact (check_big _ n cap w1 hn h1 (Nat.le_trans h2 (by decide))).mono fun _ _ ⟨he, hw⟩ => ⟨he, hw ▸ Below.refl _ _⟩
    · rw [if_neg hn]
      exact check_w n cap b off L H X Y E w1 h0 (by omega) h1 (Nat.le_trans h2 (by decide)) (Lib.hid h3)
end Wind
end Go.Proofs.YtkapllakofndlaaDoor
namespace Go.Proofs.YtkapllakofndlaaDoor
open Go.RowKit
namespace Fly
open Kit Plane Chart Route Kind
/-- Two fixes at one place. -/
def zat (X Y : Nat → Int) (j : Nat) : Int := if 0 < j ∧ X j = X (j - 1) ∧ Y j = Y (j - 1) then 10 else 0
/-- fly.check's error, told by those of its callees. -/
def fck (n : Nat) (X Y : Nat → Int) (E1 E2 E3 E4 sp h ceil slow fast : Int) : Int :=
  if n < 2 then 3 else if 62 < n then 2 else if E1 ≠ 0 then E1 else if E2 ≠ 0 then E2 else if E3 ≠ 0 then E3 else if ceil < h then 20 else if sp < slow ∨ fast < sp then 4 else if E4 ≠ 0 then E4 else ferr (zat X Y) n
set_option maxRecDepth 100000 in
set_option maxHeartbeats 8000000 in
theorem check_w (cl kd f t ks : ByteArray) (off sp h kw ceil climb desc slow fast : Int) (A2 A3 : Option Addr) (n2 c2 n3 c3 : Nat) (A : Option Addr) (n c : Nat) (N : Nat → ByteArray) (X Y : Nat → Int) (L E1 E2 E3 E4 E : Int) (w : World) (HE : Hid (E = fck n X Y E1 E2 E3 E4 sp h ceil slow fast)) (HV : Hid (FV w (.slice A n c) n N X Y))
    (RL : Hid (∀ w1, Below w.heap.size w w1 → Calls Tryd.prog 50 #[.slice A n c] w1 fun e w' => e = .returned (.tuple #[.int .i64 L, .int .i64 E1]) ∧ Below w1.heap.size w1 w')) (PC : Hid (∀ w1, Below w.heap.size w w1 → Calls Tryd.prog 51 #[Plan.plan cl kd f t off sp h (.slice A2 n2 c2)] w1 fun e w' => e = .returned (.int .i64 E2) ∧ Below w1.heap.size w1 w')) (KC : Hid (∀ w1, Below w.heap.size w w1 → Calls Tryd.prog 75 #[.agg #[.string ks, .int .i64 kw, .int .i64 ceil, .int .i64 climb, .int .i64 desc, .int .i64 slow, .int .i64 fast]] w1 fun e w' => e = .returned (.int .i64 E3) ∧ Below w1.heap.size w1 w')) (WC : Hid (∀ w1, Below w.heap.size w w1 → Calls Tryd.prog 39 #[.slice A3 n3 c3] w1 fun e w' => e = .returned (.int .i64 E4) ∧ Below w1.heap.size w1 w')) :
    Calls Tryd.prog 59 #[.slice A n c, Plan.plan cl kd f t off sp h (.slice A2 n2 c2), .agg #[.string ks, .int .i64 kw, .int .i64 ceil, .int .i64 climb, .int .i64 desc, .int .i64 slow, .int .i64 fast], .slice A3 n3 c3] w fun e w' => e = .returned (.int .i64 E) ∧ Below w.heap.size w w' := by
  have n8 := Plan.n8_new w 50 cl kd f t off sp h (.slice A2 n2 c2)
  have N0 : Hid (Plan.N8 ((w.alloc (.cells #[.string cl, .string kd, .string f, .string t, .int .i64 off, .int .i64 sp, .int .i64 h, .slice A2 n2 c2] 50)).alloc (.cells #[.string ks, .int .i64 kw, .int .i64 ceil, .int .i64 climb, .int .i64 desc, .int .i64 slow, .int .i64 fast] 56)) w.heap.size cl kd f t off sp h (.slice A2 n2 c2)) := Lib.hid (Plan.n8_keep (b_alloc (Below.refl _ _) _) n8)
  have k7 := k7_new (w.alloc (.cells #[.string cl, .string kd, .string f, .string t, .int .i64 off, .int .i64 sp, .int .i64 h, .slice A2 n2 c2] 50)) 56 ks kw ceil climb desc slow fast
  rw [World.size_alloc] at k7
  have K0 := Lib.hid k7
  have W0 := Lib.hid (b_alloc (b_alloc (Below.refl w.heap.size w) (.cells #[.string cl, .string kd, .string f, .string t, .int .i64 off, .int .i64 sp, .int .i64 h, .slice A2 n2 c2] 50)) (.cells #[.string ks, .int .i64 kw, .int .i64 ceil, .int .i64 climb, .int .i64 desc, .int .i64 slow, .int .i64 fast] 56))
  clear n8 k7
  by_cases h1 : n < 2
  · have e := HE.out
    unfold fck at e; rw [if_pos h1] at e
    subst e
    have g : (n : Int) < 2 := by omega
    go_enter Tryd.func59, Tryd.ntmps59
    go_wp2_with fail
    all_goals first | (exfalso; omega) | (go_ret; exact ⟨rfl, W0.out⟩)
  by_cases h2 : 62 < n
  · have e := HE.out
    unfold fck at e; rw [if_neg h1, if_pos h2] at e
    subst e
    have g : ¬ (n : Int) < 2 := by omega
    have g2 : (62 : Int) < (n : Int) := by omega
    go_enter Tryd.func59, Tryd.ntmps59
    go_wp2_with fail
    all_goals first | (exfalso; omega) | (go_ret; exact ⟨rfl, W0.out⟩)
  have g : ¬ (n : Int) < 2 := by omega
  have g2 : ¬ (62 : Int) < (n : Int) := by omega
  go_enter Tryd.func59, Tryd.ntmps59
  go_wp2_with fail
  (with_reducible refine (RL.out _ W0.out).mono ?_); rintro e w1 ⟨rfl, hb⟩
  have W1 := Lib.hid (b_next W0.out hb); have N1 := Lib.hid (Plan.n8_keep hb N0.out); have K1 := Lib.hid (k7_keep hb K0.out); clear hb
  by_cases z1 : E1 ≠ 0
  · have e := HE.out
    unfold fck at e; rw [if_neg h1, if_neg h2, if_pos z1] at e
    subst e
    have y1 : (E == 0) = false := by simpa using z1
    have y2 : (E != 0) = true := by simpa using z1
    clear z1
    go_wp2_with fail
    all_goals (go_ret; exact ⟨rfl, W1.out⟩)
  obtain rfl : E1 = 0 := Classical.not_not.1 z1
  clear z1
  obtain ⟨x0, x1, x2, x3, x4, x5, x6, x7⟩ := N1.out
  go_wp2_with fail
  (with_reducible refine (PC.out _ W1.out).mono ?_); rintro e w2 ⟨rfl, hb⟩
  have W2 := Lib.hid (b_next W1.out hb); have N2 := Lib.hid (Plan.n8_keep hb N1.out); have K2 := Lib.hid (k7_keep hb K1.out); clear hb x0 x1 x2 x3 x4 x5 x6 x7
  by_cases z2 : E2 ≠ 0
  · have e := HE.out
    unfold fck at e; rw [if_neg h1, if_neg h2, if_neg (by decide), if_pos z2] at e
    subst e
    have y1 : (E == 0) = false := by simpa using z2
    have y2 : (E != 0) = true := by simpa using z2
    clear z2
    go_wp2_with fail
    all_goals (go_ret; exact ⟨rfl, W2.out⟩)
  obtain rfl : E2 = 0 := Classical.not_not.1 z2
  clear z2
  obtain ⟨x0, x1, x2, x3, x4, x5, x6⟩ := K2.out
  go_wp2_with fail
  (with_reducible refine (KC.out _ W2.out).mono ?_); rintro e w3 ⟨rfl, hb⟩
  have W3 := Lib.hid (b_next W2.out hb); have N3 := Lib.hid (Plan.n8_keep hb N2.out); have K3 := Lib.hid (k7_keep hb K2.out); clear hb x0 x1 x2 x3 x4 x5 x6
  by_cases z3 : E3 ≠ 0
  · have e := HE.out
    unfold fck at e; rw [if_neg h1, if_neg h2, if_neg (by decide), if_neg (by decide), if_pos z3] at e
    subst e
    have y1 : (E == 0) = false := by simpa using z3
    have y2 : (E != 0) = true := by simpa using z3
    clear z3
    go_wp2_with fail
    all_goals (go_ret; exact ⟨rfl, W3.out⟩)
  obtain rfl : E3 = 0 := Classical.not_not.1 z3
  clear z3
  obtain ⟨x0, x1, x2, x3, x4, x5, x6⟩ := K3.out
  obtain ⟨y0, y1, y2, y3, y4, y5, y6, y7⟩ := N3.out
  by_cases h4 : ceil < h
  · have e := HE.out
    unfold fck at e; rw [if_neg h1, if_neg h2, if_neg (by decide), if_neg (by decide), if_neg (by decide), if_pos h4] at e
    subst e
    go_wp2_with fail
    all_goals first | (exfalso; omega) | (go_ret; exact ⟨rfl, W3.out⟩)
  by_cases h5 : sp < slow
  · have e := HE.out
    unfold fck at e; rw [if_neg h1, if_neg h2, if_neg (by decide), if_neg (by decide), if_neg (by decide), if_neg h4, if_pos (Or.inl h5)] at e
    subst e
    go_wp2_with fail
    all_goals first | (exfalso; omega) | (go_ret; exact ⟨rfl, W3.out⟩)
  by_cases h6 : fast < sp
  · have e := HE.out
    unfold fck at e; rw [if_neg h1, if_neg h2, if_neg (by decide), if_neg (by decide), if_neg (by decide), if_neg h4, if_pos (Or.inr h6)] at e
    subst e
    go_wp2_with fail
    all_goals first | (exfalso; omega) | (go_ret; exact ⟨rfl, W3.out⟩)
  have e := HE.out
  unfold fck at e; rw [if_neg h1, if_neg h2, if_neg (by decide), if_neg (by decide), if_neg (by decide), if_neg h4, if_neg (by omega)] at e
  clear HE
  have HE := Lib.hid e; clear e
  go_wp2_with fail
  all_goals try (exfalso; omega)
  (with_reducible refine (WC.out _ W3.out).mono ?_); rintro e w4 ⟨rfl, hb⟩
  have W4 := Lib.hid (b_next W3.out hb); clear hb x0 x1 x2 x3 x4 x5 x6 y0 y1 y2 y3 y4 y5 y6 y7
  by_cases z4 : E4 ≠ 0
  · have e := HE.out
    rw [if_pos z4] at e
    subst e
    have y1 : (E == 0) = false := by simpa using z4
    have y2 : (E != 0) = true := by simpa using z4
    clear z4
    go_wp2_with fail
    all_goals (go_ret; exact ⟨rfl, W4.out⟩)
  obtain rfl : E4 = 0 := Classical.not_not.1 z4
  clear z4
  have e := HE.out
  rw [if_neg (by decide)] at e
  clear HE
  have HE := Lib.hid e; clear e
  go_wp2_with fail
  go_loopw [14] (fun s wr => ∃ k : Nat, 1 ≤ k ∧ k ≤ n ∧ s = .int .i64 k ∧ (∀ j, j < k → zat X Y j = 0) ∧ Below w4.heap.size w4 wr) (fun s _ => n - (intOf s).toNat)
  case atStart => exact ⟨1, Nat.le_refl _, by omega, rfl, fun j hj => by unfold zat; rw [if_neg (by omega)], Below.refl _ _⟩
  case round =>
    obtain ⟨k, hk1, hk, rfl, hno, hbl⟩ := hrel
    have HN := Lib.hid hno; have WR := Lib.hid hbl; clear hno
    by_cases hlt : k < n
    · have hl : (k : Int) < (n : Int) := by omega
      obtain ⟨b, o, c', e, hc1, hc2, h3⟩ := fv_at (fv_keep (b_next W4.out hbl) HV.out) (by omega)
      injection e with e1 _ e3
      subst e1 e3
      have hc3 : c ≤ 9223372036854775807 := Nat.le_trans hc2 (by decide)
      obtain ⟨P, hP⟩ : ∃ P, P = k - 1 := ⟨_, rfl⟩
      obtain ⟨-, f1, f2⟩ := h3 k hlt
      obtain ⟨-, p1, p2⟩ := h3 P (by omega)
      have G1 := Lib.hid (And.intro f1 f2); have G2 := Lib.hid (And.intro p1 p2)
      have BAD : Hid (zat X Y k ≠ 0 → E = zat X Y k) := Lib.hid fun h => by rw [HE.out]; exact ferr_at HN.out h hlt
      have GO : Hid (zat X Y k = 0 → ∀ j, j < k + 1 → zat X Y j = 0) := Lib.hid fun h j hj => by
        rcases Nat.lt_or_ge j k with hl | hl
        · exact HN.out j hl
        · rw [show j = k from by omega]; exact h
      have HZ : Hid (zat X Y k = if 0 < k ∧ X k = X P ∧ Y k = Y P then 10 else 0) := Lib.hid (by unfold zat; rw [← hP])
      have bP : (P : Int) < (n : Int) := by omega
      have u1' : IntKind.i64.wrap ((k : Int) - 1) = (P : Int) := by rw [IntWalk.i64_in _ (by omega)]; omega
      have U := Lib.hid u1'
      clear hbl h3 f1 f2 p1 p2 hP u1'
      generalize X k = xk at *
      generalize Y k = yk at *
      generalize X P = xp at *
      generalize Y P = yp at *
      by_cases hx : xk = xp
      · subst hx
        by_cases hy : yk = yp
        · subst hy
          have e := BAD.out (by rw [HZ.out, if_pos ⟨by omega, rfl, rfl⟩]; decide)
          rw [HZ.out, if_pos ⟨by omega, rfl, rfl⟩] at e
          have HX := Lib.hid e; clear e BAD GO HZ
          have u1 := U.out
          go_wp2_with fail
          refine d_region (by kernel_rfl) (by kernel_rfl) ?_
          repeat
            first
              | (refine d_plain (by with_reducible rfl) ?_; apply Exists.intro; refine ⟨fun wq hc hq => ?_, ?_⟩)
              | (refine d_on (by with_reducible rfl) (by rfl) (by with_reducible rfl) ?_; apply Exists.intro; refine ⟨fun wq hc hq => ?_, ?_⟩)
              | (refine d_off (by with_reducible rfl) (by rfl) (by rfl) ?_)
              | (refine d_void (by with_reducible rfl) (by rfl) ?_)
            try any_goals
              (have q0 := keep (cls hq) G1.out.1; have q1 := keep (cls hq) G1.out.2; have q2 := keep (cls hq) G2.out.1; have q3 := keep (cls hq) G2.out.2; clear hc
               go_simp
               first
                 | rfl)
            simp only [Act.put, List.setIfInBounds_toArray, List.set_cons_zero, List.set_cons_succ]
          refine d_nil ?_
          intro w9 hbz
          clear u1
          go_wp2_with fail
          go_ret
          exact ⟨by rw [HX.out]; rfl, b_next W4.out (b_next WR.out hbz)⟩
        · have e := GO.out (by rw [HZ.out, if_neg (fun h => hy h.2.2)])
          have HN' := Lib.hid e; clear e BAD GO HZ
          have u1 := U.out
          go_wp2_with fail
          refine d_region (by kernel_rfl) (by kernel_rfl) ?_
          repeat
            first
              | (refine d_plain (by with_reducible rfl) ?_; apply Exists.intro; refine ⟨fun wq hc hq => ?_, ?_⟩)
              | (refine d_on (by with_reducible rfl) (by rfl) (by with_reducible rfl) ?_; apply Exists.intro; refine ⟨fun wq hc hq => ?_, ?_⟩)
              | (refine d_off (by with_reducible rfl) (by rfl) (by rfl) ?_)
              | (refine d_void (by with_reducible rfl) (by rfl) ?_)
            try any_goals
              (have q0 := keep (cls hq) G1.out.1; have q1 := keep (cls hq) G1.out.2; have q2 := keep (cls hq) G2.out.1; have q3 := keep (cls hq) G2.out.2; clear hc
               go_simp
               first
                 | rfl)
            simp only [Act.put, List.setIfInBounds_toArray, List.set_cons_zero, List.set_cons_succ]
          refine d_nil ?_
          intro w9 hbz
          clear u1
          go_wp2_with fail
          go_roundw
          case rel => exact ⟨k + 1, by omega, by omega, by go_num, HN'.out, b_next WR.out hbz⟩
          case measure => simp [intOf]; omega
      · have e := GO.out (by rw [HZ.out, if_neg (fun h => hx h.2.1)])
        have HN' := Lib.hid e; clear e BAD GO HZ
        have u1 := U.out
        go_wp2_with fail
        refine d_region (by kernel_rfl) (by kernel_rfl) ?_
        repeat
          first
            | (refine d_plain (by with_reducible rfl) ?_; apply Exists.intro; refine ⟨fun wq hc hq => ?_, ?_⟩)
            | (refine d_on (by with_reducible rfl) (by rfl) (by with_reducible rfl) ?_; apply Exists.intro; refine ⟨fun wq hc hq => ?_, ?_⟩)
            | (refine d_off (by with_reducible rfl) (by rfl) (by rfl) ?_)
            | (refine d_void (by with_reducible rfl) (by rfl) ?_)
          try any_goals
            (have q0 := keep (cls hq) G1.out.1; have q1 := keep (cls hq) G1.out.2; have q2 := keep (cls hq) G2.out.1; have q3 := keep (cls hq) G2.out.2; clear hc
             go_simp
             first
               | rfl)
          simp only [Act.put, List.setIfInBounds_toArray, List.set_cons_zero, List.set_cons_succ]
        refine d_nil ?_
        intro w9 hbz
        clear u1
        go_wp2_with fail
        go_roundw
        case rel => exact ⟨k + 1, by omega, by omega, by go_num, HN'.out, b_next WR.out hbz⟩
        case measure => simp [intOf]; omega
    · have hkn : k = n := by omega
      have e : E = 0 := by rw [HE.out]; exact ferr_zero fun j hj => HN.out j (by omega)
      have HX := Lib.hid e; clear e HN hbl
      go_wp2_with fail
      go_ret
      exact ⟨by rw [HX.out]; rfl, b_next W4.out WR.out⟩
theorem checkK {cl kd f t ks : ByteArray} {off sp h kw ceil climb desc slow fast : Int} {r ww v : Value} {n nr nw : Nat} {RT : Nat → ByteArray} {N : Nat → ByteArray} {X Y : Nat → Int} {WL WH WX WY WE : Nat → Int} {w : World} (hr : SV w r nr RT) (hv : FV w v n N X Y) (hw : Wind.WV w ww nw WL WH WX WY WE) : ∀ w1, Below w.heap.size w w1 →
    Calls Tryd.prog 59 #[v, Plan.plan cl kd f t off sp h r, .agg #[.string ks, .int .i64 kw, .int .i64 ceil, .int .i64 climb, .int .i64 desc, .int .i64 slow, .int .i64 fast], ww] w1 fun e w' => e = .returned (.int .i64 (fck n X Y (rlen n X Y).2 (Plan.planE cl kd f t off sp h nr RT) (kchk ks kw ceil climb desc slow fast) (Wind.wck WL WH WX WY WE nw) sp h ceil slow fast)) ∧ Below w1.heap.size w1 w' := fun w1 hb => by
  have RL := rlenC (fv_keep hb hv)
  have PC := Plan.checkC (c := cl) (k := kd) (f := f) (t := t) (off := off) (sp := sp) (h := h) (sv_keep hb hr)
  have WC := Wind.checkC (Wind.wv_keep hb hw)
  have hv1 := fv_keep hb hv
  obtain ⟨A, c, rfl⟩ := fv_slice hv
  obtain ⟨A2, c2, rfl⟩ := sv_slice hr
  have hws : ∃ A c, ww = .slice A nw c := by
    rcases hw with ⟨h0, rfl | ⟨a, cap, rfl, -⟩⟩ | ⟨h0, b, off, cap, rfl, -⟩
    · exact ⟨_, _, by rw [h0]⟩
    · exact ⟨_, _, by rw [h0]⟩
    · exact ⟨_, _, rfl⟩
  obtain ⟨A3, c3, rfl⟩ := hws
  exact check_w cl kd f t ks off sp h kw ceil climb desc slow fast A2 A3 nr c2 nw c3 A n c N X Y _ _ _ _ _ _ w1 (Lib.hid rfl) (Lib.hid hv1) (Lib.hid RL) (Lib.hid PC) (Lib.hid fun w2 _ => kindC ks kw ceil climb desc slow fast w2) (Lib.hid WC)
end Fly
end Go.Proofs.YtkapllakofndlaaDoor
namespace Go.Proofs.YtkapllakofndlaaDoor
open Go.RowKit
namespace Fly
open Kit Plane Num
abbrev Nd := Nat → Nat → Int
/-- When fix k is reached. -/
def tm (off : Int) (D : Nat → Int) : Nat → Int
  | 0 => off
  | k + 1 => tm off D k + max 1 (D (k + 1))
theorem tm_lt {off : Int} {D : Nat → Int} (k : Nat) : tm off D k < tm off D (k + 1) := by show tm off D k < tm off D k + max 1 (D (k + 1)); omega
theorem tm_ge {off : Int} {D : Nat → Int} : ∀ k, off ≤ tm off D k
  | 0 => Int.le_refl _
  | k + 1 => by have := tm_ge (off := off) (D := D) k; have := tm_lt (off := off) (D := D) k; omega
theorem tm_bd {off : Int} {D : Nat → Int} {n : Nat} (hD : ∀ k, k < n → D k ≤ 3000000) : ∀ k, k < n → tm off D k ≤ off + 3000000 * k
  | 0, _ => by show off ≤ _; omega
  | k + 1, hk => by
    have h1 := tm_bd (off := off) hD k (by omega)
    have h2 := hD (k + 1) hk
    show tm off D k + max 1 (D (k + 1)) ≤ _
    omega
/-- The fixes as nodes. -/
def nd0 (off : Int) (D X Y : Nat → Int) : Nd := fun k j => if j = 0 then tm off D k else if j = 1 then X k else if j = 2 then Y k else 0
/-- Where a time belongs. -/
def fx (f : Nd) (t : Int) : Nat → Nat
  | 0 => 0
  | k + 1 => if f k 0 < t then k + 1 else fx f t k
/-- Nodes as they ought to be, from off to en. -/
structure Ok (off en : Int) (n : Nat) (f : Nd) : Prop where
  two : 2 ≤ n
  first : f 0 0 = off
  last : f (n - 1) 0 = en
  inc : ∀ k, k + 1 < n → f k 0 < f (k + 1) 0
  good : ∀ k, k < n → good (f k 1) (f k 2)
  zero : ∀ k, k < n → f k 3 = 0
theorem Ok.lt {off en : Int} {n : Nat} {f : Nd} (o : Ok off en n f) {i : Nat} : ∀ {j : Nat}, i < j → j < n → f i 0 < f j 0
  | 0, h, _ => absurd h (Nat.not_lt_zero _)
  | j + 1, h, hj => by
    have h1 := o.inc j hj
    rcases Nat.lt_or_ge i j with hl | hl
    · have := o.lt (j := j) hl (by omega); omega
    · rw [show i = j by omega]; exact h1
theorem Ok.le {off en : Int} {n : Nat} {f : Nd} (o : Ok off en n f) {i j : Nat} (h : i ≤ j) (hj : j < n) : f i 0 ≤ f j 0 := by
  rcases Nat.lt_or_ge i j with hl | hl
  · exact Int.le_of_lt (o.lt hl hj)
  · rw [show i = j by omega]; exact Int.le_refl _
theorem fx_le (f : Nd) (t : Int) : ∀ n, fx f t n ≤ n
  | 0 => Nat.le_refl _
  | k + 1 => by
    show (if f k 0 < t then k + 1 else fx f t k) ≤ k + 1
    split
    · exact Nat.le_refl _
    · exact Nat.le_succ_of_le (fx_le f t k)
theorem fx_right (f : Nd) (t : Int) : ∀ n k, fx f t n ≤ k → k < n → t ≤ f k 0
  | 0, k, _, h => absurd h (Nat.not_lt_zero _)
  | n + 1, k, h, hk => by
    change (if f n 0 < t then n + 1 else fx f t n) ≤ k at h
    split at h
    · omega
    · rcases Nat.lt_or_ge k n with hl | hl
      · exact fx_right f t n k h hl
      · rw [show k = n by omega]; omega
theorem fx_at (f : Nd) (t : Int) : ∀ n, 0 < fx f t n → f (fx f t n - 1) 0 < t
  | 0, h => absurd h (Nat.not_lt_zero _)
  | n + 1, h => by
    change 0 < (if f n 0 < t then n + 1 else fx f t n) at h
    show f ((if f n 0 < t then n + 1 else fx f t n) - 1) 0 < t
    split at h
    · rename_i hl; rw [if_pos hl]; exact hl
    · rename_i hl; rw [if_neg hl]; exact fx_at f t n h
theorem fx_spec {off en t : Int} {n : Nat} {f : Nd} (o : Ok off en n f) (h1 : off < t) (h2 : t < en) : 0 < fx f t n ∧ fx f t n < n ∧ (∀ k, k < fx f t n → f k 0 < t) ∧ ∀ k, fx f t n ≤ k → k < n → t ≤ f k 0 := by
  have hp : 0 < fx f t n := by
    rcases Nat.eq_zero_or_pos (fx f t n) with h | h
    · have := fx_right f t n 0 (by omega) (by have := o.two; omega)
      rw [o.first] at this; omega
    · exact h
  have hl : fx f t n < n := by
    rcases Nat.lt_or_ge (fx f t n) n with h | h
    · exact h
    · have e : fx f t n = n := Nat.le_antisymm (fx_le f t n) h
      have := fx_at f t n hp
      rw [e, o.last] at this; omega
  refine ⟨hp, hl, fun k hk => ?_, fx_right f t n⟩
  have := fx_at f t n hp
  have := o.le (i := k) (j := fx f t n - 1) (by omega) (by omega)
  omega
/-- A node more, at time t, unless there is one. -/
def sN (t : Int) (n : Nat) (f : Nd) : Nat := if f (fx f t n) 0 = t then n else n + 1
def sF (t : Int) (n : Nat) (f : Nd) : Nd := if f (fx f t n) 0 = t then f else
  insR f (fx f t n) t (tw (f (fx f t n - 1) 1) (f (fx f t n) 1) (t - f (fx f t n - 1) 0) (f (fx f t n) 0 - f (fx f t n - 1) 0)) (tw (f (fx f t n - 1) 2) (f (fx f t n) 2) (t - f (fx f t n - 1) 0) (f (fx f t n) 0 - f (fx f t n - 1) 0)) 0
theorem insR_lo {f : Nd} {i k j : Nat} {t x y h : Int} (hk : k < i) : insR f i t x y h k j = f k j := by unfold insR; rw [if_pos hk]
theorem insR_eq {f : Nd} {i j : Nat} {t x y h : Int} : insR f i t x y h i j = if j = 0 then t else if j = 1 then x else if j = 2 then y else h := by unfold insR; rw [if_neg (Nat.lt_irrefl _), if_pos rfl]
theorem insR_hi {f : Nd} {i k j : Nat} {t x y h : Int} (hk : i < k) : insR f i t x y h k j = f (k - 1) j := by unfold insR; rw [if_neg (by omega), if_neg (by omega)]
theorem ok_ins {off en t x y : Int} {n i : Nat} {f : Nd} (o : Ok off en n f) (h0 : 0 < i) (hi : i < n) (hl : f (i - 1) 0 < t) (hr : t < f i 0) (hg : Plane.good x y) : Ok off en (n + 1) (insR f i t x y 0) := by
  refine ⟨by have := o.two; omega, ?_, ?_, fun k hk => ?_, fun k hk => ?_, fun k hk => ?_⟩
  · rw [insR_lo h0]; exact o.first
  · rw [Nat.add_sub_cancel, insR_hi hi]; exact o.last
  · rcases Nat.lt_trichotomy k i with h | h | h
    · rw [insR_lo h]
      rcases Nat.lt_or_ge (k + 1) i with h2 | h2
      · rw [insR_lo h2]; exact o.inc k (by omega)
      · have e : k + 1 = i := by omega
        rw [e, insR_eq, if_pos rfl, show k = i - 1 by omega]; exact hl
    · subst h
      rw [insR_eq, if_pos rfl, insR_hi (Nat.lt_succ_self _)]; exact hr
    · rw [insR_hi h, insR_hi (by omega)]
      have := o.inc (k - 1) (by omega)
      rw [show k - 1 + 1 = k + 1 - 1 by omega] at this; exact this
  · rcases Nat.lt_trichotomy k i with h | h | h
    · rw [insR_lo h, insR_lo h]; exact o.good k (by omega)
    · subst h; rw [insR_eq, insR_eq]; exact hg
    · rw [insR_hi h, insR_hi h]; exact o.good (k - 1) (by omega)
  · rcases Nat.lt_trichotomy k i with h | h | h
    · rw [insR_lo h]; exact o.zero k (by omega)
    · subst h; rw [insR_eq]; rfl
    · rw [insR_hi h]; exact o.zero (k - 1) (by omega)
theorem tw_good {ax ay bx by' n d : Int} (hd : 0 < d) (hn : 0 ≤ n) (hnd : n ≤ d) (ga : Plane.good ax ay) (gb : Plane.good bx by') : Plane.good (tw ax bx n d) (tw ay by' n d) := by
  have h1 := tw_bd (a := ax) (b := bx) hd hn hnd
  have h2 := tw_bd (a := ay) (b := by') hd hn hnd
  unfold Plane.good at *
  omega
theorem ok_step {off en t : Int} {n : Nat} {f : Nd} (o : Ok off en n f) (h1 : off < t) (h2 : t < en) : Ok off en (sN t n f) (sF t n f) ∧ sN t n f ≤ n + 1 ∧ n ≤ sN t n f := by
  obtain ⟨a, b, c, d⟩ := fx_spec o h1 h2
  unfold sN sF
  by_cases h : f (fx f t n) 0 = t
  · rw [if_pos h, if_pos h]; exact ⟨o, by omega, Nat.le_refl _⟩
  · rw [if_neg h, if_neg h]
    have e1 := c (fx f t n - 1) (by omega)
    have e2 := d (fx f t n) (Nat.le_refl _) b
    refine ⟨ok_ins o a b e1 (by omega) (tw_good (by omega) (by omega) (by omega) (o.good _ (by omega)) (o.good _ b)), Nat.le_refl _, by omega⟩
theorem ok_nd0 {off : Int} {D X Y : Nat → Int} {n : Nat} (h2 : 2 ≤ n) (hg : ∀ k, k < n → Plane.good (X k) (Y k)) : Ok off (tm off D (n - 1)) n (nd0 off D X Y) :=
  ⟨h2, rfl, rfl, fun k _ => tm_lt k, fun k hk => hg k hk, fun _ _ => rfl⟩
/-- The fixes lie on the nodes, in order. -/
def Emb (m : Nat) (X Y : Nat → Int) (n : Nat) (f : Nd) : Prop := ∃ e : Nat → Nat, (∀ a, a < m → e a < n ∧ f (e a) 1 = X a ∧ f (e a) 2 = Y a) ∧ ∀ a, a + 1 < m → e a < e (a + 1)
theorem emb_nd0 (off : Int) (D X Y : Nat → Int) (n : Nat) : Emb n X Y n (nd0 off D X Y) := ⟨fun a => a, fun _ h => ⟨h, rfl, rfl⟩, fun a _ => Nat.lt_succ_self a⟩
theorem emb_step {m : Nat} {X Y : Nat → Int} {n : Nat} {f : Nd} (h : Emb m X Y n f) (t : Int) : Emb m X Y (sN t n f) (sF t n f) := by
  unfold sN sF
  by_cases ht : f (fx f t n) 0 = t
  · rw [if_pos ht, if_pos ht]; exact h
  · rw [if_neg ht, if_neg ht]
    obtain ⟨e, h1, h2⟩ := h
    refine ⟨fun a => if e a < fx f t n then e a else e a + 1, fun a ha => ?_, fun a ha => ?_⟩
    · obtain ⟨g1, g2, g3⟩ := h1 a ha
      dsimp only
      by_cases hl : e a < fx f t n
      · rw [if_pos hl, insR_lo hl, insR_lo hl]; exact ⟨by omega, g2, g3⟩
      · rw [if_neg hl, insR_hi (by omega), insR_hi (by omega), Nat.add_sub_cancel]; exact ⟨by omega, g2, g3⟩
    · have := h2 a ha
      show (if e a < fx f t n then e a else e a + 1) < (if e (a + 1) < fx f t n then e (a + 1) else e (a + 1) + 1)
      split <;> split <;> omega
section
variable (off h climb desc : Int) (D X Y : Nat → Int) (n : Nat)
/-- When the flight ends; how long it is; the two times at which heights turn. -/
def fen : Int := tm off D (n - 1)
def ft1 : Int := off + du h climb
def ft2 : Int := off + (fen off D n - off - du h desc)
/-- The nodes after k of the two insertions. -/
def stN : Nat → Nat
  | 0 => n
  | 1 => sN (ft1 off h climb) n (nd0 off D X Y)
  | _ => sN (ft2 off h desc D n) (sN (ft1 off h climb) n (nd0 off D X Y)) (sF (ft1 off h climb) n (nd0 off D X Y))
def stF : Nat → Nd
  | 0 => nd0 off D X Y
  | 1 => sF (ft1 off h climb) n (nd0 off D X Y)
  | _ => sF (ft2 off h desc D n) (sN (ft1 off h climb) n (nd0 off D X Y)) (sF (ft1 off h climb) n (nd0 off D X Y))
/-- How many insertions there are. -/
def stK : Nat := if du h climb ≤ fen off D n - off - du h desc then 2 else 0
/-- The heights. -/
def fin (ceil tot : Int) (f : Nd) : Nd := fun k j => if j = 3 then (Kind.prof ceil climb desc h tot (f k 0 - off)).1 else f k j
end
end Fly
end Go.Proofs.YtkapllakofndlaaDoor
namespace Go.Proofs.YtkapllakofndlaaDoor
open Go.RowKit
namespace Fly
open Kit Plane Num
/-- How many fixes the first k nodes have passed. -/
def gr (X Y : Nat → Int) (m : Nat) (f : Nd) : Nat → Nat
  | 0 => 0
  | k + 1 => if gr X Y m f k < m ∧ f k 1 = X (gr X Y m f k) ∧ f k 2 = Y (gr X Y m f k) then gr X Y m f k + 1 else gr X Y m f k
section
variable {X Y : Nat → Int} {m : Nat} {f : Nd}
theorem gr_le : ∀ k, gr X Y m f k ≤ m
  | 0 => Nat.zero_le _
  | k + 1 => by
    have := gr_le k
    unfold gr
    split <;> omega
theorem gr_succ (k : Nat) : gr X Y m f k ≤ gr X Y m f (k + 1) := by
  show gr X Y m f k ≤ if gr X Y m f k < m ∧ f k 1 = X (gr X Y m f k) ∧ f k 2 = Y (gr X Y m f k) then gr X Y m f k + 1 else gr X Y m f k
  split <;> omega
theorem gr_mono {i : Nat} : ∀ {j : Nat}, i ≤ j → gr X Y m f i ≤ gr X Y m f j
  | 0, h => by rw [show i = 0 by omega]; exact Nat.le_refl _
  | j + 1, h => by
    rcases Nat.lt_or_ge i (j + 1) with hl | hl
    · exact Nat.le_trans (gr_mono (i := i) (j := j) (by omega)) (gr_succ j)
    · rw [show i = j + 1 by omega]; exact Nat.le_refl _
theorem gr_emb {e : Nat → Nat} (h1 : ∀ a, a < m → f (e a) 1 = X a ∧ f (e a) 2 = Y a) (h2 : ∀ a, a + 1 < m → e a < e (a + 1)) : ∀ a, a < m → a + 1 ≤ gr X Y m f (e a + 1)
  | 0, ha => by
    rcases Nat.eq_zero_or_pos (gr X Y m f (e 0)) with h | h
    · have : gr X Y m f (e 0 + 1) = gr X Y m f (e 0) + 1 := by
        show (if _ then _ else _) = _
        rw [if_pos ⟨by omega, by rw [h]; exact (h1 0 ha).1, by rw [h]; exact (h1 0 ha).2⟩]
      omega
    · exact Nat.le_trans h (gr_succ _)
  | a + 1, ha => by
    have hp := gr_emb h1 h2 a (by omega)
    have hm : gr X Y m f (e a + 1) ≤ gr X Y m f (e (a + 1)) := gr_mono (h2 a ha)
    rcases Nat.lt_or_ge (a + 1) (gr X Y m f (e (a + 1))) with h | h
    · exact Nat.le_trans h (gr_succ _)
    · have hq : gr X Y m f (e (a + 1)) = a + 1 := by omega
      have : gr X Y m f (e (a + 1) + 1) = gr X Y m f (e (a + 1)) + 1 := by
        show (if _ then _ else _) = _
        rw [if_pos ⟨by omega, by rw [hq]; exact (h1 (a + 1) ha).1, by rw [hq]; exact (h1 (a + 1) ha).2⟩]
      omega
theorem gr_all {n : Nat} (h : Emb m X Y n f) : gr X Y m f n = m := by
  obtain ⟨e, h1, h2⟩ := h
  rcases Nat.eq_zero_or_pos m with h0 | h0
  · have := gr_le (X := X) (Y := Y) (m := m) (f := f) n; omega
  · have hl := gr_emb (fun a ha => (h1 a ha).2) h2 (m - 1) (by omega)
    have h3 := (h1 (m - 1) (by omega)).1
    have h4 : gr X Y m f (e (m - 1) + 1) ≤ gr X Y m f n := gr_mono h3
    have h5 := gr_le (X := X) (Y := Y) (m := m) (f := f) n
    omega
theorem gr_congr {g : Nd} (h : ∀ k j, j < 3 → f k j = g k j) : ∀ k, gr X Y m f k = gr X Y m g k
  | 0 => rfl
  | k + 1 => by
    show (if _ then _ else _) = (if _ then _ else _)
    rw [gr_congr h k, h k 1 (by decide), h k 2 (by decide)]
end
section
variable {off h climb desc : Int} {D X Y : Nat → Int} {n : Nat}
/-- The nodes after all insertions. -/
theorem ok_st (h2 : 2 ≤ n) (hg : ∀ k, k < n → Plane.good (X k) (Y k)) (hu : 1 ≤ du h climb) (hd : 1 ≤ du h desc) : ∀ k, k ≤ stK off h climb desc D n →
    Ok off (fen off D n) (stN off h climb desc D X Y n k) (stF off h climb desc D X Y n k) ∧ stN off h climb desc D X Y n k ≤ n + k ∧ Emb n X Y (stN off h climb desc D X Y n k) (stF off h climb desc D X Y n k) := by
  intro k hk
  have o0 : Ok off (fen off D n) n (nd0 off D X Y) := ok_nd0 h2 hg
  have e0 : Emb n X Y n (nd0 off D X Y) := emb_nd0 off D X Y n
  unfold stK at hk
  rcases Nat.eq_zero_or_pos k with h0 | h0
  · subst h0; exact ⟨o0, Nat.le_refl _, e0⟩
  · split at hk
    · rename_i hfl
      have o1 := ok_step o0 (t := ft1 off h climb) (by unfold ft1; omega) (by unfold ft1; omega)
      have e1 := emb_step e0 (ft1 off h climb)
      rcases (show k = 1 ∨ k = 2 by omega) with rfl | rfl
      · exact ⟨o1.1, by have := o1.2.1; exact this, e1⟩
      · have o2 := ok_step o1.1 (t := ft2 off h desc D n) (by unfold ft2; omega) (by unfold ft2; omega)
        have e2 := emb_step e1 (ft2 off h desc D n)
        exact ⟨o2.1, Nat.le_trans o2.2.1 (by have := o1.2.1; omega), e2⟩
    · omega
end
/-- The flight is a path. -/
theorem fin_ok {off en h climb desc ceil : Int} {n : Nat} {f : Nd} (o : Ok off en n f) (h64 : n ≤ 64) (b0 : 0 ≤ off) (b1 : en ≤ 200000) (hh : 1 ≤ h ∧ h ≤ 60000 ∧ h ≤ ceil) (hc : 1 ≤ climb) (hd : 1 ≤ desc) :
    Path.pok (fun k => fin off h climb desc ceil (en - off) f k 0) (fun k => fin off h climb desc ceil (en - off) f k 1) (fun k => fin off h climb desc ceil (en - off) f k 2) (fun k => fin off h climb desc ceil (en - off) f k 3) n ∧
    (∀ k, k < n → fin off h climb desc ceil (en - off) f k 3 ≤ h) ∧ fin off h climb desc ceil (en - off) f 0 3 = 0 ∧ fin off h climb desc ceil (en - off) f (n - 1) 3 = 0 ∧ fin off h climb desc ceil (en - off) f 0 0 = off ∧ fin off h climb desc ceil (en - off) f (n - 1) 0 = en := by
  have e0 : ∀ k, fin off h climb desc ceil (en - off) f k 0 = f k 0 := fun k => if_neg (by decide)
  have e1 : ∀ k, fin off h climb desc ceil (en - off) f k 1 = f k 1 := fun k => if_neg (by decide)
  have e2 : ∀ k, fin off h climb desc ceil (en - off) f k 2 = f k 2 := fun k => if_neg (by decide)
  have e3 : ∀ k, fin off h climb desc ceil (en - off) f k 3 = (Kind.prof ceil climb desc h (en - off) (f k 0 - off)).1 := fun k => if_pos rfl
  have tb : ∀ k, k < n → off ≤ f k 0 ∧ f k 0 ≤ en := fun k hk => by
    have a := o.le (Nat.zero_le k) hk
    have b := o.le (i := k) (j := n - 1) (by omega) (by have := o.two; omega)
    rw [o.first] at a; rw [o.last] at b
    exact ⟨a, b⟩
  have pf : ∀ k, k < n → (Kind.prof ceil climb desc h (en - off) (f k 0 - off)).1 = min h (min (climb * (f k 0 - off)) (desc * (en - off - (f k 0 - off)))) := fun k hk => by
    have := tb k hk
    unfold Kind.prof
    rw [if_neg (by omega), if_neg (by omega)]
  have two := o.two
  have mulpos : ∀ a b : Int, 0 ≤ a → 0 ≤ b → 0 ≤ a * b := fun a b ha hb => Int.mul_nonneg ha hb
  have bd : ∀ k, k < n → 0 ≤ fin off h climb desc ceil (en - off) f k 3 ∧ fin off h climb desc ceil (en - off) f k 3 ≤ h := fun k hk => by
    have := tb k hk
    rw [e3, pf k hk]
    have a := mulpos climb (f k 0 - off) (by omega) (by omega)
    have b := mulpos desc (en - off - (f k 0 - off)) (by omega) (by omega)
    omega
  refine ⟨⟨by omega, h64, fun k hk => ?_, fun k hk => ?_⟩, fun k hk => (bd k hk).2, ?_, ?_, ?_, ?_⟩
  · have := tb k hk; have := bd k hk
    dsimp only
    rw [e0, e1, e2]
    exact ⟨by omega, by omega, o.good k hk, by omega, by omega⟩
  · dsimp only; rw [e0, e0]; exact o.inc k hk
  · rw [e3, pf 0 (by omega), o.first, Int.sub_self, Int.mul_zero]
    have b := mulpos desc (en - off - 0) (by omega) (by have := tb 0 (by omega); omega)
    omega
  · rw [e3, pf (n - 1) (by omega), o.last, Int.sub_self, Int.mul_zero]
    have b := mulpos climb (en - off) (by omega) (by have := tb 0 (by omega); omega)
    omega
  · rw [e0, o.first]
  · rw [e0, o.last]
end Fly
end Go.Proofs.YtkapllakofndlaaDoor
namespace Go.Proofs.YtkapllakofndlaaDoor
open Go.RowKit
namespace Fly
open Kit Plane Path
set_option maxHeartbeats 600000 in
theorem cmp (t x y h u : Int) (w : World) (ht : 0 ≤ t ∧ t ≤ 200000) (hu : -200000 ≤ u ∧ u ≤ 400000) :
    Calls Tryd.prog 61 #[.agg #[.int .i64 t, .int .i64 x, .int .i64 y, .int .i64 h], .int .i64 u] w fun e w' => e = .returned (.int .i64 (t - u)) ∧ Below w.heap.size w w' := by
  go_enter Tryd.func61, Tryd.ntmps61
  go_wp2_with fail
  go_ret
  exact ⟨ret1 rfl, b_alloc (Below.refl _ _) _⟩
set_option maxRecDepth 100000 in
set_option maxHeartbeats 2000000 in
theorem search_yes (n cap b off : Nat) (T X Y H : Nat → Int) (t : Int) (i : Nat) (w : World) (hi : i < n) (hn : n ≤ 64) (hc : n ≤ cap) (hm : cap ≤ 9223372036854775807) (HV : Hid (∀ k, k < n → N4 w b off k (T k) (X k) (Y k) (H k)))
    (HL : Hid (∀ k, k < i → T k < t)) (HR : Hid (∀ k, i ≤ k → k < n → t ≤ T k)) (HT : Hid (∀ k, k < n → 0 ≤ T k ∧ T k ≤ 200000)) (ht : -200000 ≤ t ∧ t ≤ 400000) (hf : T i = t) :
    Calls Tryd.prog 60 #[.slice (some ⟨b, off, none⟩) n cap, .int .i64 t, .func (.func 61) #[] #[]] w fun e w' => e = .returned (.tuple #[.int .i64 i, .bool true]) ∧ Below w.heap.size w w' := by
  have HFF := Lib.hid hf; clear hf
  go_enter Tryd.func60, Tryd.ntmps60
  go_wp2_with fail
  go_loopw [9, 10] (fun s u wr => ∃ lo hi : Nat, lo ≤ i ∧ i ≤ hi ∧ hi ≤ n ∧ s = .int .i64 lo ∧ u = .int .i64 hi ∧ Below w.heap.size w wr) (fun s u _ => (intOf u).toNat - (intOf s).toNat)
  case atStart => exact ⟨0, n, Nat.zero_le _, by omega, Nat.le_refl _, rfl, rfl, Below.refl _ _⟩
  case round =>
    obtain ⟨lo, hh, h1, h2, h3, rfl, rfl, hbl⟩ := hrel
    by_cases hlt : lo < hh
    · have hl : (lo : Int) < (hh : Int) := by omega
      obtain ⟨md, hmd⟩ : ∃ md, md = (lo + hh) / 2 := ⟨_, rfl⟩
      have hm1 : lo ≤ md ∧ md < hh := by omega
      obtain ⟨⟨c0, c1⟩, c2, c3⟩ := n4_keep hbl (HV.out md (by omega))
      have tb := HT.out md (by omega)
      have hmn : (md : Int) < (n : Int) := by omega
      have hmx : ((lo : Int) + (hh : Int)) / 2 = (md : Int) := by omega
      have HMD := Lib.hid hmd; clear hmd
      go_wp2_with fail
      refine (cmp _ _ _ _ _ _ tb ht).mono ?_; rintro e w1 ⟨rfl, h⟩
      have hb1 := b_next hbl h; clear h
      by_cases hcm : T md < t
      · have hmi : md < i := by
          rcases Nat.lt_or_ge md i with h | h
          · exact h
          · have := HR.out md h (by omega); omega
        have d1 : T md - t < 0 := by omega
        go_wp2_with fail
        go_roundw
        case rel => first | exact ⟨md + 1, hh, by omega, h2, h3, by go_num, rfl, hb1⟩ | ((repeat apply Exists.intro); exact ⟨⟨md + 1, hh, by omega, h2, h3, by go_num, rfl, hb1⟩, rfl⟩)
        case measure => simp [intOf]; omega
      · have hmi : i ≤ md := by
          rcases Nat.lt_or_ge md i with h | h
          · have := HL.out md h; omega
          · exact h
        have d1 : ¬ T md - t < 0 := by omega
        go_wp2_with fail
        go_roundw
        case rel => first | exact ⟨lo, md, h1, hmi, by omega, rfl, by go_num, hb1⟩ | ((repeat apply Exists.intro); exact ⟨⟨lo, md, h1, hmi, by omega, rfl, by go_num, hb1⟩, rfl⟩)
        case measure => simp [intOf]; omega
    · have e1 : lo = i := by omega
      subst e1
      obtain ⟨⟨c0, c1⟩, c2, c3⟩ := n4_keep hbl (HV.out lo hi)
      have tb := HT.out lo hi
      have hl : ¬ (lo : Int) < (hh : Int) := by omega
      have hln : (lo : Int) < (n : Int) := by omega
      go_wp2_with fail
      refine (cmp _ _ _ _ _ _ tb ht).mono ?_; rintro e w1 ⟨rfl, h⟩
      have hb1 := b_next hbl h; clear h
      have hf := HFF.out
      have hz : (T lo - t == 0) = true := by simp; omega
      go_wp2_with fail
      go_ret2
      exact ⟨by first | rfl | simp, hb1⟩
set_option maxRecDepth 100000 in
set_option maxHeartbeats 2000000 in
theorem search_no (n cap b off : Nat) (T X Y H : Nat → Int) (t : Int) (i : Nat) (w : World) (hi : i < n) (hn : n ≤ 64) (hc : n ≤ cap) (hm : cap ≤ 9223372036854775807) (HV : Hid (∀ k, k < n → N4 w b off k (T k) (X k) (Y k) (H k)))
    (HL : Hid (∀ k, k < i → T k < t)) (HR : Hid (∀ k, i ≤ k → k < n → t ≤ T k)) (HT : Hid (∀ k, k < n → 0 ≤ T k ∧ T k ≤ 200000)) (ht : -200000 ≤ t ∧ t ≤ 400000) (hf : ¬ T i = t) :
    Calls Tryd.prog 60 #[.slice (some ⟨b, off, none⟩) n cap, .int .i64 t, .func (.func 61) #[] #[]] w fun e w' => e = .returned (.tuple #[.int .i64 i, .bool false]) ∧ Below w.heap.size w w' := by
  have HFF := Lib.hid hf; clear hf
  go_enter Tryd.func60, Tryd.ntmps60
  go_wp2_with fail
  go_loopw [9, 10] (fun s u wr => ∃ lo hi : Nat, lo ≤ i ∧ i ≤ hi ∧ hi ≤ n ∧ s = .int .i64 lo ∧ u = .int .i64 hi ∧ Below w.heap.size w wr) (fun s u _ => (intOf u).toNat - (intOf s).toNat)
  case atStart => exact ⟨0, n, Nat.zero_le _, by omega, Nat.le_refl _, rfl, rfl, Below.refl _ _⟩
  case round =>
    obtain ⟨lo, hh, h1, h2, h3, rfl, rfl, hbl⟩ := hrel
    by_cases hlt : lo < hh
    · have hl : (lo : Int) < (hh : Int) := by omega
      obtain ⟨md, hmd⟩ : ∃ md, md = (lo + hh) / 2 := ⟨_, rfl⟩
      have hm1 : lo ≤ md ∧ md < hh := by omega
      obtain ⟨⟨c0, c1⟩, c2, c3⟩ := n4_keep hbl (HV.out md (by omega))
      have tb := HT.out md (by omega)
      have hmn : (md : Int) < (n : Int) := by omega
      have hmx : ((lo : Int) + (hh : Int)) / 2 = (md : Int) := by omega
      have HMD := Lib.hid hmd; clear hmd
      go_wp2_with fail
      refine (cmp _ _ _ _ _ _ tb ht).mono ?_; rintro e w1 ⟨rfl, h⟩
      have hb1 := b_next hbl h; clear h
      by_cases hcm : T md < t
      · have hmi : md < i := by
          rcases Nat.lt_or_ge md i with h | h
          · exact h
          · have := HR.out md h (by omega); omega
        have d1 : T md - t < 0 := by omega
        go_wp2_with fail
        go_roundw
        case rel => first | exact ⟨md + 1, hh, by omega, h2, h3, by go_num, rfl, hb1⟩ | ((repeat apply Exists.intro); exact ⟨⟨md + 1, hh, by omega, h2, h3, by go_num, rfl, hb1⟩, rfl⟩)
        case measure => simp [intOf]; omega
      · have hmi : i ≤ md := by
          rcases Nat.lt_or_ge md i with h | h
          · have := HL.out md h; omega
          · exact h
        have d1 : ¬ T md - t < 0 := by omega
        go_wp2_with fail
        go_roundw
        case rel => first | exact ⟨lo, md, h1, hmi, by omega, rfl, by go_num, hb1⟩ | ((repeat apply Exists.intro); exact ⟨⟨lo, md, h1, hmi, by omega, rfl, by go_num, hb1⟩, rfl⟩)
        case measure => simp [intOf]; omega
    · have e1 : lo = i := by omega
      subst e1
      obtain ⟨⟨c0, c1⟩, c2, c3⟩ := n4_keep hbl (HV.out lo hi)
      have tb := HT.out lo hi
      have hl : ¬ (lo : Int) < (hh : Int) := by omega
      have hln : (lo : Int) < (n : Int) := by omega
      go_wp2_with fail
      refine (cmp _ _ _ _ _ _ tb ht).mono ?_; rintro e w1 ⟨rfl, h⟩
      have hb1 := b_next hbl h; clear h
      have hf := HFF.out
      have hz : (T lo - t == 0) = false := by simp; omega
      go_wp2_with fail
      go_ret2
      exact ⟨by first | rfl | simp, hb1⟩
end Fly
end Go.Proofs.YtkapllakofndlaaDoor
