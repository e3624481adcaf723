/- A part of a tube, and what is interpolated in it: plain laws. -/
import Derived.Test.YtampbjbalenckaaCutP
namespace Go.Proofs.Ytampbjbalenckaa
open Go.RowKit
namespace Tube
open Kit Plane
/-- The numbers of a part: a, then those of the nodes from lo on, then z. -/
def cutT (T : Nat → Int) (lo c : Nat) (a z : Int) (r : Nat) : Int := if r = 0 then a else if r < c then T (lo + r - 1) else z
/-- Nodes lo .. hi - 1 are those between the times. -/
structure CutAt (T : Nat → Int) (n : Nat) (a z : Int) (lo hi : Nat) : Prop where
  lon : lo ≤ n
  hin : hi ≤ n
  le : ∀ k, k < lo → T k ≤ a
  gt : ∀ k, lo ≤ k → k < n → a < T k
  lt : ∀ k, k < hi → T k < z
  ge : ∀ k, hi ≤ k → k < n → z ≤ T k
theorem split_ex {T : Nat → Int} : ∀ {n : Nat}, (∀ i j, i < j → j < n → T i < T j) → ∀ x, ∃ m, m ≤ n ∧ (∀ k, k < m → T k ≤ x) ∧ ∀ k, m ≤ k → k < n → x < T k := by
  intro n
  induction n with
  | zero => intro _ x; exact ⟨0, Nat.le_refl _, fun k h => absurd h (Nat.not_lt_zero k), fun k _ h => absurd h (Nat.not_lt_zero k)⟩
  | succ n ih =>
    intro hr x
    obtain ⟨m, h1, h2, h3⟩ := ih (fun i j hij hj => hr i j hij (by omega)) x
    by_cases hx : T n ≤ x
    · refine ⟨n + 1, Nat.le_refl _, fun k hk => ?_, fun k h h' => by omega⟩
      rcases Nat.lt_or_ge k n with hl | hl
      · have := hr k n hl (by omega); omega
      · rw [show k = n from by omega]; exact hx
    · refine ⟨m, by omega, h2, fun k h h' => ?_⟩
      rcases Nat.lt_or_ge k n with hl | hl
      · exact h3 k h hl
      · rw [show k = n from by omega]; omega
theorem cut_ex {T X Y H R B : Nat → Int} {n : Nat} (hp : tok T X Y H R B n) (a z : Int) : ∃ lo hi, CutAt T n a z lo hi := by
  obtain ⟨lo, h1, h2, h3⟩ := split_ex (n := n) (fun i j hij hj => tok_lt hp hij hj) a
  obtain ⟨hi, k1, k2, k3⟩ := split_ex (n := n) (fun i j hij hj => tok_lt hp hij hj) (z - 1)
  exact ⟨lo, hi, h1, k1, h2, h3, fun k hk => by have := k2 k hk; omega, fun k hk hkn => by have := k3 k hk hkn; omega⟩
theorem tseg_eq {T X Y H R B : Nat → Int} {n : Nat} (hp : tok T X Y H R B n) {t : Int} {i j : Nat} (hi : tseg T n t i) (hj : tseg T n t j) : i = j := by
  rcases Nat.lt_trichotomy i j with h | h | h
  · have := hi.2.2 (by have := hj.1; omega)
    have := tok_le hp (show i + 1 ≤ j by omega) hj.1
    have := hj.2.1; omega
  · exact h
  · have := hj.2.2 (by have := hi.1; omega)
    have := tok_le hp (show j + 1 ≤ i by omega) hi.1
    have := hi.2.1; omega
section
variable {T X Y H R B : Nat → Int} {n : Nat} {a z : Int} {lo hi : Nat}
/-- How many nodes the part has, but for the last one. -/
theorem cut_bds (hp : tok T X Y H R B n) (hc : CutAt T n a z lo hi) (h0 : T 0 ≤ a) (_haz : a ≤ z) (hz : z ≤ T (n - 1)) : 0 < lo ∧ hi < n ∧ (a < z → lo ≤ hi) ∧ (a = z → hi ≤ lo) := by
  have hn := hp.pos
  have h1 : 0 < lo := by
    rcases Nat.eq_zero_or_pos lo with h | h
    · have := hc.gt 0 (by omega) hn; omega
    · exact h
  have h2 : hi < n := by
    rcases Nat.lt_or_ge hi n with h | h
    · exact h
    · have := hc.lt (n - 1) (by omega); omega
  refine ⟨h1, h2, fun h => ?_, fun h => ?_⟩
  · rcases Nat.lt_or_ge hi lo with hl | hl
    · have := hc.le hi hl; have := hc.ge hi (Nat.le_refl _) h2; omega
    · exact hl
  · rcases Nat.lt_or_ge lo hi with hl | hl
    · have := hc.lt lo hl; have := hc.gt lo (Nat.le_refl _) (by omega); omega
    · exact hl
/-- The number of nodes of the part. -/
def cutN (a z : Int) (lo hi : Nat) : Nat := 1 + (hi - lo) + if a < z then 1 else 0
theorem cutT_zero (Z : Nat → Int) (lo c : Nat) (u v : Int) : cutT Z lo c u v 0 = u := if_pos rfl
theorem cutT_mid (Z : Nat → Int) {lo c r : Nat} (u v : Int) (h0 : 0 < r) (h : r < c) : cutT Z lo c u v r = Z (lo + r - 1) := by unfold cutT; rw [if_neg (by omega), if_pos h]
theorem cutT_end (Z : Nat → Int) {lo c r : Nat} (u v : Int) (h0 : 0 < r) (h : c ≤ r) : cutT Z lo c u v r = v := by unfold cutT; rw [if_neg (by omega), if_neg (by omega)]
/-- The times of the part. -/
theorem cut_time (hp : tok T X Y H R B n) (hc : CutAt T n a z lo hi) (h0 : T 0 ≤ a) (haz : a ≤ z) (hz : z ≤ T (n - 1)) {r : Nat} (hr : r < cutN a z lo hi) :
    a ≤ cutT T lo (1 + (hi - lo)) a z r ∧ cutT T lo (1 + (hi - lo)) a z r ≤ z ∧ (r + 1 < cutN a z lo hi → cutT T lo (1 + (hi - lo)) a z r < cutT T lo (1 + (hi - lo)) a z (r + 1)) := by
  obtain ⟨b1, b2, b3, b4⟩ := cut_bds hp hc h0 haz hz
  have hrN : r ≤ hi - lo + (if a < z then 1 else 0) := by unfold cutN at hr; omega
  by_cases hlt : a < z
  · have hle := b3 hlt
    have mid : ∀ r', 0 < r' → r' < 1 + (hi - lo) → a < T (lo + r' - 1) ∧ T (lo + r' - 1) < z := fun r' h1 h2 => ⟨hc.gt _ (by omega) (by omega), hc.lt _ (by omega)⟩
    rw [if_pos hlt] at hrN
    have hN : cutN a z lo hi = 1 + (hi - lo) + 1 := by unfold cutN; rw [if_pos hlt]
    have nxt : r + 1 < cutN a z lo hi → cutT T lo (1 + (hi - lo)) a z r < cutT T lo (1 + (hi - lo)) a z (r + 1) := by
      intro h
      rw [hN] at h
      rcases Nat.eq_zero_or_pos r with hr0 | hr0
      · subst hr0
        rw [cutT_zero]
        rcases Nat.lt_or_ge 1 (1 + (hi - lo)) with hl | hl
        · rw [Nat.zero_add, cutT_mid T a z (by omega) hl]; exact (mid 1 (by omega) hl).1
        · rw [cutT_end T a z (by omega) (by omega)]; exact hlt
      · rw [cutT_mid T a z hr0 (by omega)]
        rcases Nat.lt_or_ge (r + 1) (1 + (hi - lo)) with hl | hl
        · rw [cutT_mid T a z (by omega) hl, show lo + (r + 1) - 1 = lo + r - 1 + 1 from by omega]
          exact hp.rise _ (by omega)
        · rw [cutT_end T a z (by omega) hl]; exact (mid r hr0 (by omega)).2
    rcases Nat.eq_zero_or_pos r with hr0 | hr0
    · subst hr0; rw [cutT_zero] at nxt ⊢; exact ⟨Int.le_refl _, haz, nxt⟩
    · rcases Nat.lt_or_ge r (1 + (hi - lo)) with hl | hl
      · have m := mid r hr0 hl
        refine ⟨?_, ?_, nxt⟩
        · rw [cutT_mid T a z hr0 hl]; omega
        · rw [cutT_mid T a z hr0 hl]; omega
      · refine ⟨?_, ?_, nxt⟩
        · rw [cutT_end T a z hr0 hl]; exact haz
        · rw [cutT_end T a z hr0 hl]; exact Int.le_refl _
  · have := b4 (by omega)
    rw [if_neg hlt] at hrN
    have hr0 : r = 0 := by omega
    subst hr0
    rw [cutT_zero]
    refine ⟨Int.le_refl _, haz, fun h => ?_⟩
    unfold cutN at h
    rw [if_neg hlt] at h
    omega
/-- The part's segment and the tube's. J: what is interpolated. -/
theorem cut_seg (hp : tok T X Y H R B n) (hc : CutAt T n a z lo hi) (h0 : T 0 ≤ a) (haz : a ≤ z) (hz : z ≤ T (n - 1)) {t : Int} (_ha : a ≤ t) (htz : t ≤ z) {i r i0 i2 : Nat} (hti : tseg T n t i) (hi0 : tseg T n a i0) (hi2 : tseg T n z i2)
    (hr : tseg (cutT T lo (1 + (hi - lo)) a z) (cutN a z lo hi) t r) (Z : Nat → Int) (J : Nat → Int → Int) (J0 : ∀ k, k < n → J k (T k) = Z k) (J1 : ∀ k, k + 1 < n → J k (T (k + 1)) = Z (k + 1)) :
    (cutT T lo (1 + (hi - lo)) a z r = t ∧ cutT Z lo (1 + (hi - lo)) (J i0 a) (J i2 z) r = J i t) ∨
    (r + 1 < cutN a z lo hi ∧ i + 1 < n ∧ cutT T lo (1 + (hi - lo)) a z r < t ∧ t < cutT T lo (1 + (hi - lo)) a z (r + 1) ∧ T i ≤ cutT T lo (1 + (hi - lo)) a z r ∧ cutT T lo (1 + (hi - lo)) a z (r + 1) ≤ T (i + 1) ∧
      cutT Z lo (1 + (hi - lo)) (J i0 a) (J i2 z) r = J i (cutT T lo (1 + (hi - lo)) a z r) ∧ cutT Z lo (1 + (hi - lo)) (J i0 a) (J i2 z) (r + 1) = J i (cutT T lo (1 + (hi - lo)) a z (r + 1))) := by
  obtain ⟨b1, b2, b3, b4⟩ := cut_bds hp hc h0 haz hz
  obtain ⟨hrn, hrl, hrg⟩ := hr
  by_cases he : cutT T lo (1 + (hi - lo)) a z r = t
  · refine Or.inl ⟨he, ?_⟩
    rcases Nat.eq_zero_or_pos r with hr0 | hr0
    · subst hr0
      rw [cutT_zero] at he ⊢
      subst he
      rw [tseg_eq hp hti hi0]
    · rcases Nat.lt_or_ge r (1 + (hi - lo)) with hl | hl
      · rw [cutT_mid _ _ _ hr0 hl] at he ⊢
        have hk : lo + r - 1 < n := by omega
        have : i = lo + r - 1 := tseg_eq hp hti ⟨hk, by omega, fun h => by rw [← he]; exact hp.rise _ h⟩
        rw [this, ← he, J0 _ hk]
      · rw [cutT_end _ _ _ hr0 hl] at he ⊢
        subst he
        rw [tseg_eq hp hti hi2]
  · have hlt : cutT T lo (1 + (hi - lo)) a z r < t := by omega
    have haz' : a < z := by
      have := (cut_time hp hc h0 haz hz hrn).1; omega
    have hle := b3 haz'
    have hN : cutN a z lo hi = 1 + (hi - lo) + 1 := by unfold cutN; rw [if_pos haz']
    have hr1 : r + 1 < cutN a z lo hi := by
      rcases Nat.lt_or_ge (r + 1) (cutN a z lo hi) with h | h
      · exact h
      · have : r = 1 + (hi - lo) := by omega
        rw [cutT_end _ _ _ (by omega) (by omega)] at hlt
        omega
    have hgt := hrg hr1
    refine Or.inr ⟨hr1, ?_⟩
    have hrc : r < 1 + (hi - lo) := by omega
    -- the next time is at most that of node lo + r
    have nx : cutT T lo (1 + (hi - lo)) a z (r + 1) ≤ T (lo + r) := by
      rcases Nat.lt_or_ge (r + 1) (1 + (hi - lo)) with hl | hl
      · rw [cutT_mid _ _ _ (by omega) hl, show lo + (r + 1) - 1 = lo + r from by omega]; exact Int.le_refl _
      · rw [cutT_end _ _ _ (by omega) hl, show lo + r = hi from by omega]; exact hc.ge hi (Nat.le_refl _) b2
    have pv : T (lo + r - 1) ≤ cutT T lo (1 + (hi - lo)) a z r := by
      rcases Nat.eq_zero_or_pos r with hr0 | hr0
      · subst hr0; rw [cutT_zero]; exact hc.le _ (by omega)
      · rw [cutT_mid _ _ _ hr0 hrc]; exact Int.le_refl _
    have hin : lo + r - 1 + 1 < n := by omega
    have e1 : lo + r - 1 + 1 = lo + r := by omega
    have hie : i = lo + r - 1 := tseg_eq hp hti ⟨by omega, by omega, fun _ => by rw [e1]; omega⟩
    subst hie
    rw [e1]
    refine ⟨by omega, hlt, hgt, pv, nx, ?_, ?_⟩
    · rcases Nat.eq_zero_or_pos r with hr0 | hr0
      · subst hr0
        rw [cutT_zero, cutT_zero]
        have : i0 = lo + 0 - 1 := tseg_eq hp hi0 ⟨by omega, hc.le _ (by omega), fun h => hc.gt _ (by omega) h⟩
        rw [this]
      · rw [cutT_mid _ _ _ hr0 hrc, cutT_mid _ _ _ hr0 hrc, J0 _ (by omega)]
    · rcases Nat.lt_or_ge (r + 1) (1 + (hi - lo)) with hl | hl
      · rw [cutT_mid _ _ _ (by omega) hl, cutT_mid _ _ _ (by omega) hl, show lo + (r + 1) - 1 = lo + r - 1 + 1 from by omega, J1 _ hin]
      · rw [cutT_end _ _ _ (by omega) hl, cutT_end _ _ _ (by omega) hl]
        have hh : lo + r = hi := by omega
        have hzz := hc.ge hi (Nat.le_refl _) b2
        by_cases hq : T hi = z
        · have : i2 = hi := tseg_eq hp hi2 ⟨b2, by omega, fun h => by have := hp.rise hi h; omega⟩
          rw [this, ← hq, J0 _ b2]
          have q := J1 _ hin
          rw [show lo + r - 1 + 1 = hi from by omega] at q
          exact q.symm
        · have : i2 = lo + r - 1 := tseg_eq hp hi2 ⟨by omega, by omega, fun _ => by rw [e1, hh]; omega⟩
          rw [this]
theorem tx_end {T X : Nat → Int} {i : Nat} (h : T i < T (i + 1)) : tx T X i (T (i + 1)) = X (i + 1) := by unfold tx; rw [tw_all (by omega)]
theorem th_end {T X : Nat → Int} {i : Nat} (h : T i < T (i + 1)) : th T X i (T (i + 1)) = X (i + 1) := tx_end h
theorem tu_end {T X : Nat → Int} {i : Nat} (h : T i < T (i + 1)) : tu T X i (T (i + 1)) = X (i + 1) := by
  unfold tu up
  rw [← Int.neg_mul, Int.mul_ediv_cancel _ (by omega)]; omega
/-- Rounded down. -/
theorem cut_th (hp : tok T X Y H R B n) (hc : CutAt T n a z lo hi) (h0 : T 0 ≤ a) (haz : a ≤ z) (hz : z ≤ T (n - 1)) {t : Int} (ha : a ≤ t) (htz : t ≤ z) {i r i0 i2 : Nat} (hti : tseg T n t i) (hi0 : tseg T n a i0) (hi2 : tseg T n z i2)
    (hr : tseg (cutT T lo (1 + (hi - lo)) a z) (cutN a z lo hi) t r) (Z : Nat → Int) :
    (cutT T lo (1 + (hi - lo)) a z r = t → th (cutT T lo (1 + (hi - lo)) a z) (cutT Z lo (1 + (hi - lo)) (th T Z i0 a) (th T Z i2 z)) r t = th T Z i t) ∧
    th T Z i t - 1 ≤ th (cutT T lo (1 + (hi - lo)) a z) (cutT Z lo (1 + (hi - lo)) (th T Z i0 a) (th T Z i2 z)) r t ∧ th (cutT T lo (1 + (hi - lo)) a z) (cutT Z lo (1 + (hi - lo)) (th T Z i0 a) (th T Z i2 z)) r t ≤ th T Z i t := by
  rcases cut_seg hp hc h0 haz hz ha htz hti hi0 hi2 hr Z (th T Z) (fun k _ => th_at) (fun k hk => th_end (hp.rise k hk)) with ⟨h1, h2⟩ | ⟨h1, h2, h3, h4, h5, h6, h7, h8⟩
  · have e : th (cutT T lo (1 + (hi - lo)) a z) (cutT Z lo (1 + (hi - lo)) (th T Z i0 a) (th T Z i2 z)) r t = th T Z i t := by
      rw [← h2]
      have := th_at (T := cutT T lo (1 + (hi - lo)) a z) (H := cutT Z lo (1 + (hi - lo)) (th T Z i0 a) (th T Z i2 z)) (i := r)
      rw [h1] at this
      exact this
    rw [e]
    exact ⟨fun _ => rfl, by omega, by omega⟩
  · refine ⟨fun h => by omega, ?_⟩
    generalize hS : cutT T lo (1 + (hi - lo)) a z = S at *
    have hd := hp.rise i h2
    have := down2 (a := Z i) (b := Z (i + 1)) (D := T (i + 1) - T i) (u := S r - T i) (s := t - T i) (v := S (r + 1) - T i) (by omega) (by omega) (by omega)
    unfold th at h7 h8 ⊢
    rw [h7, h8]
    rw [show t - T i - (S r - T i) = t - S r from by omega, show S (r + 1) - T i - (S r - T i) = S (r + 1) - S r from by omega] at this
    exact this
theorem cut_tu (hp : tok T X Y H R B n) (hc : CutAt T n a z lo hi) (h0 : T 0 ≤ a) (haz : a ≤ z) (hz : z ≤ T (n - 1)) {t : Int} (ha : a ≤ t) (htz : t ≤ z) {i r i0 i2 : Nat} (hti : tseg T n t i) (hi0 : tseg T n a i0) (hi2 : tseg T n z i2)
    (hr : tseg (cutT T lo (1 + (hi - lo)) a z) (cutN a z lo hi) t r) (Z : Nat → Int) :
    (cutT T lo (1 + (hi - lo)) a z r = t → tu (cutT T lo (1 + (hi - lo)) a z) (cutT Z lo (1 + (hi - lo)) (tu T Z i0 a) (tu T Z i2 z)) r t = tu T Z i t) ∧
    tu T Z i t ≤ tu (cutT T lo (1 + (hi - lo)) a z) (cutT Z lo (1 + (hi - lo)) (tu T Z i0 a) (tu T Z i2 z)) r t ∧ tu (cutT T lo (1 + (hi - lo)) a z) (cutT Z lo (1 + (hi - lo)) (tu T Z i0 a) (tu T Z i2 z)) r t ≤ tu T Z i t + 1 := by
  rcases cut_seg hp hc h0 haz hz ha htz hti hi0 hi2 hr Z (tu T Z) (fun k _ => tu_at) (fun k hk => tu_end (hp.rise k hk)) with ⟨h1, h2⟩ | ⟨h1, h2, h3, h4, h5, h6, h7, h8⟩
  · have e : tu (cutT T lo (1 + (hi - lo)) a z) (cutT Z lo (1 + (hi - lo)) (tu T Z i0 a) (tu T Z i2 z)) r t = tu T Z i t := by
      rw [← h2]
      have := tu_at (T := cutT T lo (1 + (hi - lo)) a z) (R := cutT Z lo (1 + (hi - lo)) (tu T Z i0 a) (tu T Z i2 z)) (i := r)
      rw [h1] at this
      exact this
    rw [e]
    exact ⟨fun _ => rfl, by omega, by omega⟩
  · refine ⟨fun h => by omega, ?_⟩
    generalize hS : cutT T lo (1 + (hi - lo)) a z = S at *
    have hd := hp.rise i h2
    have := up2 (a := Z i) (b := Z (i + 1)) (D := T (i + 1) - T i) (u := S r - T i) (s := t - T i) (v := S (r + 1) - T i) (by omega) (by omega) (by omega)
    unfold tu at h7 h8 ⊢
    rw [h7, h8]
    rw [show t - T i - (S r - T i) = t - S r from by omega, show S (r + 1) - T i - (S r - T i) = S (r + 1) - S r from by omega] at this
    exact this
end
end Tube
end Go.Proofs.Ytampbjbalenckaa
