/- wind.Leg's contract; the fixed example of chapter 12. -/
import Derived.Test.YtkapllakofndlaaDoorWindL
import Derived.Test.YtkapllakofndlaaDoorWindP
namespace Go.Proofs.YtkapllakofndlaaDoor
open Go.RowKit
namespace Wind
open Kit Ang Num Plane
theorem wchk_all {L H X Y E : Nat → Int} : ∀ {n : Nat}, wchk L H X Y E n = 0 → ∀ i, i < n → werr L H X Y E i = 0
  | 0, _, i, hi => absurd hi (Nat.not_lt_zero _)
  | n + 1, h, i, hi => by
    have h0 : wchk L H X Y E n = 0 := by
      by_cases e : wchk L H X Y E n = 0
      · exact e
      · rw [wchk_stays e (n + 1) (by omega)] at h; exact h
    rcases Nat.lt_or_ge i n with hl | hl
    · exact wchk_all h0 i hl
    · rw [show i = n from by omega, ← wchk_step h0]; exact h
theorem werr_one {L H X Y E : Nat → Int} {i : Nat} (h : werr L H X Y E i = 0) : w1E (L i) (H i) (X i) (Y i) (E i) = 0 := by
  unfold w1E; unfold werr at h ⊢
  split at h
  · cases h
  · rename_i hn
    rw [if_neg hn, if_neg (by omega)]
theorem band_ok {L H X Y E : Nat → Int} {n : Nat} (h : wck L H X Y E n = 0) (i : Nat) : w1E (pickW L 0 i n) (pickW H 60001 i n) (pickW X 0 i n) (pickW Y 0 i n) (pickW E 0 i n) = 0 := by
  unfold pickW
  by_cases hi : i < n
  · simp only [if_pos hi]
    unfold wck at h
    split at h
    · cases h
    · exact werr_one (wchk_all h i hi)
  · simp only [if_neg hi]
    decide
theorem chk_two (x y : Int) : chk x y = 0 ∧ good x y ∨ chk x y = 4 ∧ ¬ good x y := by
  by_cases h : good x y
  · exact Or.inl ⟨chk_ok h, h⟩
  · exact Or.inr ⟨chk_bad h, h⟩
/-- wind.Leg's error. -/
def legE (L H X Y E : Nat → Int) (n : Nat) (sp h ax ay bx by' : Int) : Int := if wck L H X Y E n ≠ 0 then wck L H X Y E n else if (sp < 1 ∨ 400 < sp) ∨ h < 0 ∨ 60000 < h then 4 else if chk ax ay ≠ 0 then 4 else chk bx by'
theorem legE_ok {L H X Y E : Nat → Int} {n : Nat} {sp h ax ay bx by' : Int} (he : legE L H X Y E n sp h ax ay bx by' = 0) : wck L H X Y E n = 0 ∧ (1 ≤ sp ∧ sp ≤ 400) ∧ (0 ≤ h ∧ h ≤ 60000) ∧ good ax ay ∧ good bx by' := by
  unfold legE at he
  by_cases hz : wck L H X Y E n ≠ 0
  · rw [if_pos hz] at he; exact absurd he hz
  rw [if_neg hz] at he
  by_cases hr : (sp < 1 ∨ 400 < sp) ∨ h < 0 ∨ 60000 < h
  · rw [if_pos hr] at he; cases he
  rw [if_neg hr] at he
  rcases chk_two ax ay with ⟨ha, ga⟩ | ⟨ha, ga⟩
  · rw [if_neg (by rw [ha]; decide)] at he
    rcases chk_two bx by' with ⟨hb, gb⟩ | ⟨hb, gb⟩
    · exact ⟨Classical.not_not.1 hz, by omega, by omega, ga, gb⟩
    · rw [hb] at he; cases he
  · rw [if_pos (by rw [ha]; decide)] at he; cases he
theorem wv_slice {w : World} {v : Value} {n : Nat} {L H X Y E : Nat → Int} (hv : WV w v n L H X Y E) : ∃ A c, v = .slice A n c := by
  rcases hv with ⟨h0, rfl | ⟨a, cap, rfl, -⟩⟩ | ⟨h0, b, off, cap, rfl, -⟩
  · exact ⟨_, _, by rw [h0]⟩
  · exact ⟨_, _, by rw [h0]⟩
  · exact ⟨_, _, rfl⟩
section
variable {v : Value} {n : Nat} {L H X Y E : Nat → Int} {sp h ax ay bx by' : Int} {w : World}
theorem legC_bad (hv : WV w v n L H X Y E) (he : legE L H X Y E n sp h ax ay bx by' ≠ 0) :
    Calls Tryd.prog 23 #[v, .int .i64 sp, .int .i64 h, .agg #[.int .i64 ax, .int .i64 ay], .agg #[.int .i64 bx, .int .i64 by']] w fun e w' => e = .returned (.tuple #[.int .i64 0, .int .i64 0, .int .i64 (legE L H X Y E n sp h ax ay bx by')]) ∧ Below w.heap.size w w' := by
  have C := checkC hv
  obtain ⟨A, c, rfl⟩ := wv_slice hv
  unfold legE at *
  by_cases hz : wck L H X Y E n ≠ 0
  · rw [if_pos hz]
    exact leg_bad A n c sp h ax ay bx by' w _ (Lib.hid C) (by simpa using hz) (by simpa using hz)
  rw [if_neg hz] at he ⊢
  rw [Classical.not_not.1 hz] at C
  by_cases hr : (sp < 1 ∨ 400 < sp) ∨ h < 0 ∨ 60000 < h
  · rw [if_pos hr]; exact leg_range A n c sp h ax ay bx by' w (Lib.hid C) hr
  rw [if_neg hr] at he ⊢
  have KA := fun w1 => check ax ay w1
  have KB := fun w1 => check bx by' w1
  rcases chk_two ax ay with ⟨ha, ga⟩ | ⟨ha, ga⟩
  · rw [if_neg (by rw [ha]; decide)] at he ⊢
    rcases chk_two bx by' with ⟨hb, gb⟩ | ⟨hb, gb⟩
    · exact absurd hb he
    · rw [ha] at KA; rw [hb] at KB ⊢
      exact leg_b A n c sp h ax ay bx by' w (Lib.hid C) (by omega) (by omega) (Lib.hid KA) (Lib.hid KB)
  · rw [if_pos (by rw [ha]; decide)]
    rw [ha] at KA
    exact leg_a A n c sp h ax ay bx by' w (Lib.hid C) (by omega) (by omega) (Lib.hid KA)
theorem legC_same (hv : WV w v n L H X Y E) (he : legE L H X Y E n sp h ax ay bx by' = 0) (hx : bx = ax) (hy : by' = ay) :
    Calls Tryd.prog 23 #[v, .int .i64 sp, .int .i64 h, .agg #[.int .i64 ax, .int .i64 ay], .agg #[.int .i64 bx, .int .i64 by']] w fun e w' => e = .returned (.tuple #[.int .i64 0, .int .i64 0, .int .i64 0]) ∧ Below w.heap.size w w' := by
  have C := checkC hv
  obtain ⟨A, c, rfl⟩ := wv_slice hv
  obtain ⟨hz, hs, hh, ga, gb⟩ := legE_ok he
  rw [hz] at C
  have KA := fun w1 => check ax ay w1
  have KB := fun w1 => check bx by' w1
  rw [chk_ok ga] at KA
  rw [chk_ok gb] at KB
  exact leg_same A n c sp h ax ay bx by' w (Lib.hid C) hs hh (Lib.hid KA) (Lib.hid KB) hx hy
/-- The winds of a height. -/
def wX (L H X : Nat → Int) (n : Nat) (h : Int) : Int := pickW X 0 (fi L H h n) n
theorem legC_ok (T : Tabs w) (hv : WV w v n L H X Y E) (he : legE L H X Y E n sp h ax ay bx by' = 0) (hne : ¬ (bx = ax ∧ by' = ay)) {r : Int} (hr : OfV (bx - ax) (by' - ay) r) :
    Calls Tryd.prog 23 #[v, .int .i64 sp, .int .i64 h, .agg #[.int .i64 ax, .int .i64 ay], .agg #[.int .i64 bx, .int .i64 by']] w fun e w' => e = .returned (.tuple #[.int .i64 (root (sqr ax ay bx by') / ghi sp r (wX L H X n h) (wX L H Y n h) (wX L H E n h)), .int .i64 (du (dup (sqr ax ay bx by')) (glo sp r (wX L H X n h) (wX L H Y n h) (wX L H E n h))), .int .i64 0]) ∧ Below w.heap.size w w' := by
  have C := checkC hv
  have hAt : atE L H X Y E n h = 0 := by
    obtain ⟨hz, -, hh, -, -⟩ := legE_ok he
    unfold atE; rw [if_neg (fun e => e hz), if_neg (by omega)]
  have AT := fun w1 (hb : Below w.heap.size w w1) => atC_ok (wv_keep hb hv) hAt
  obtain ⟨A, c, rfl⟩ := wv_slice hv
  obtain ⟨hz, hs, hh, ga, gb⟩ := legE_ok he
  rw [hz] at C
  have KA := fun w1 => check ax ay w1
  have KB := fun w1 => check bx by' w1
  rw [chk_ok ga] at KA
  rw [chk_ok gb] at KB
  have hw := band_ok hz (fi L H h n)
  have GR := fun w1 (hb : Below w.heap.size w w1) => groundC sp r _ _ _ _ _ w1 (tabs_keep hb T) hw hs
  obtain ⟨-, bX, bY, bE⟩ := w1_ok hw
  have SB := fun w1 => sub bx by' ax ay w1
  have ga' := ga; have gb' := gb
  unfold good at ga' gb'
  have ux : wrap64 (bx - ax) = bx - ax := IntWalk.wrap64_in _ (by omega)
  have uy : wrap64 (by' - ay) = by' - ay := IntWalk.wrap64_in _ (by omega)
  rw [ux, uy] at SB
  have OF := fun w1 (hb : Below w.heap.size w w1) => of_ok (bx - ax) (by' - ay) r w1 (by unfold InR; omega) (by unfold InR; omega) (by omega) (Lib.hid (tabs_keep hb T)) (Lib.hid hr)
  have DS := fun w1 => distance ax ay bx by' w1 rfl (by omega)
  have gbd := ground_bds (hd := r) hs bX bY bE
  have hsq := sqr_near ga gb
  have hd := dup_le (sqr_nonneg ax ay bx by') hsq
  have hd0 := dup_spec (sqr_nonneg ax ay bx by')
  have DU := fun w1 => divUp (dup (sqr ax ay bx by')) (glo sp r (wX L H X n h) (wX L H Y n h) (wX L H E n h)) w1 (by omega) (by unfold wX; omega)
  have e0 : dde (dup (sqr ax ay bx by')) (glo sp r (wX L H X n h) (wX L H Y n h) (wX L H E n h)) = 0 := (dd_ok (by unfold wX; omega) (by omega)).2
  rw [e0] at DU
  have hrt := root_nonneg (sqr ax ay bx by')
  have bb : 1 ≤ ghi sp r (wX L H X n h) (wX L H Y n h) (wX L H E n h) ∧ ghi sp r (wX L H X n h) (wX L H Y n h) (wX L H E n h) ≤ 9223372036854775807 := by unfold wX; omega
  by_cases hx : ax = bx
  · subst hx
    exact leg_oky A n c sp h ax ay by' w _ _ _ _ _ (ax - ax) (by' - ay) r _ _ _ _ _ (Lib.hid C) hs hh (Lib.hid KA) (Lib.hid KB) (fun e => hne ⟨rfl, e.symm⟩) (Lib.hid SB) (Lib.hid OF) (Lib.hid AT) (Lib.hid GR) (Lib.hid DS) (Lib.hid DU) (by omega) bb
  · exact leg_okx A n c sp h ax ay bx by' w _ _ _ _ _ (bx - ax) (by' - ay) r _ _ _ _ _ (Lib.hid C) hs hh (Lib.hid KA) (Lib.hid KB) hx (Lib.hid SB) (Lib.hid OF) (Lib.hid AT) (Lib.hid GR) (Lib.hid DS) (Lib.hid DU) (by omega) bb
end
theorem works (w : World) (T : Tabs w) : Calls Tryd.prog 21 #[] w fun e w' => e = .returned (.bool true) ∧ Below w.heap.size w w' := by
  have s1 : glo 100 1024 20 0 0 = 120 ∧ ghi 100 1024 20 0 0 = 120 := by
    have e1 : sn 1024 = 16384 := by decide +kernel
    unfold glo ghi
    rw [gf_zero]
    have e2 : gc 1024 20 0 = 327680 := by unfold gc; rw [e1, Int.zero_mul]; decide
    rw [e2]; decide
  have G := fun w1 (hb : Below w.heap.size w w1) => groundC 100 1024 0 9 20 0 0 w1 (tabs_keep hb T) (by decide) (by decide)
  obtain ⟨r, hr⟩ := ofv_some (x := 250 - 0) (y := 0 - 0) (by decide)
  have K := fun w1 (hb : Below w.heap.size w w1) => legC_ok (v := .slice none 0 0) (n := 0) (L := fun _ => 0) (H := fun _ => 0) (X := fun _ => 0) (Y := fun _ => 0) (E := fun _ => 0) (sp := 100) (h := 500) (ax := 0) (ay := 0) (bx := 250) (by' := 0) (tabs_keep hb T) (Or.inl ⟨rfl, Or.inl rfl⟩) (by decide) (by decide) hr
  have e3 : wX (fun _ => 0) (fun _ => 0) (fun _ => 0) 0 500 = 0 := by decide
  rw [e3, (calm_law (by decide)).1, (calm_law (by decide)).2] at K
  have e6 : sqr 0 0 250 0 = 62500 := by decide
  have e7 : root 62500 = 250 := root_unique (by decide) (by decide) (by decide)
  have e4 : root (sqr 0 0 250 0) / 100 = 2 := by rw [e6, e7]; decide
  have e5 : du (dup (sqr 0 0 250 0)) 100 = 3 := by rw [e6]; unfold dup; rw [e7]; decide
  rw [e4, e5] at K
  unfold glo ghi at s1
  rw [s1.1, s1.2] at G
  have HG := Lib.hid G; have HK := Lib.hid K
  clear G K e3 e4 e5 e6 e7 s1 hr T
  go_enter Tryd.func21, Tryd.ntmps21
  go_wp2_with fail
  (with_reducible refine (HG.out _ (Below.refl _ _)).mono ?_); rintro e w1 ⟨rfl, hb⟩
  have W1 := Lib.hid hb; clear hb
  go_wp2_with fail
  (with_reducible refine (HK.out _ W1.out).mono ?_); rintro e w2 ⟨rfl, hb⟩
  have W2 := Lib.hid (b_next W1.out hb); clear hb
  go_wp2_with fail
  go_ret
  exact ⟨by first | rfl | exact retb rfl, W2.out⟩
end Wind
end Go.Proofs.YtkapllakofndlaaDoor
