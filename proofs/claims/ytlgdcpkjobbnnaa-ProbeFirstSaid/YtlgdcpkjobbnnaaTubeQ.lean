/- tube.Has and tube.Of, whole. -/
import Derived.Test.YtlgdcpkjobbnnaaTubeO
namespace Go.Proofs.Ytlgdcpkjobbnnaa
open Go.RowKit
namespace Tube
open Kit Plane Path
/-- The bounds of an interpolated node. -/
theorem at_bds {n : Nat} {T X Y H R B : Nat → Int} (hp : tok T X Y H R B n) {t : Int} {i : Nat} (hs : tseg T n t i) (hl : t ≤ T (n - 1)) :
    good (tx T X i t) (tx T Y i t) ∧ (0 ≤ th T H i t ∧ th T H i t ≤ 60000) ∧ (0 ≤ tu T R i t ∧ tu T R i t ≤ 1000000) ∧ (0 ≤ tu T B i t ∧ tu T B i t ≤ 60000) := by
  have g0 := hp.point i hs.1
  have q0 := hp.nums i hs.1
  have hle := hs.2.1
  by_cases he : T i = t
  · subst he
    rw [tx_at, tx_at, th_at, tu_at, tu_at]
    exact ⟨g0, q0⟩
  · have hin : i + 1 < n := by
      rcases Nat.lt_or_ge (i + 1) n with h | h
      · exact h
      · have : i = n - 1 := by have := hs.1; omega
        subst this; omega
    have hlt := hs.2.2 hin
    have g1 := hp.point (i + 1) hin
    have q1 := hp.nums (i + 1) hin
    have hN : 0 < T (i + 1) - T i := by omega
    have d1 := quo_bd (d := H (i + 1) - H i) (n := t - T i) hN (by omega) (by omega)
    have d2 := up_bd (d := R (i + 1) - R i) (n := t - T i) hN (by omega) (by omega)
    have d3 := up_bd (d := B (i + 1) - B i) (n := t - T i) hN (by omega) (by omega)
    have x1 := tw_bd (a := X i) (b := X (i + 1)) (n := t - T i) hN (by omega) (by omega)
    have y1 := tw_bd (a := Y i) (b := Y (i + 1)) (n := t - T i) hN (by omega) (by omega)
    unfold good at g0 g1
    unfold good tx th tu
    omega
/-- tube.Has's error. -/
def hasE (T X Y H R B : Nat → Int) (n : Nat) (u qx qy hh : Int) : Int := if tatE T X Y H R B n u ≠ 0 then tatE T X Y H R B n u else if chk qx qy ≠ 0 ∨ hh < 0 ∨ 60000 < hh then 4 else 0
/-- tube.Has's answer, in the segment i. -/
def hasB (T X Y H R B : Nat → Int) (i : Nat) (u qx qy hh : Int) : Bool := inB (sqr (tx T X i u) (tx T Y i u) qx qy) (tu T R i u) && decide (max (th T H i u - hh) (hh - th T H i u) ≤ tu T B i u)
theorem chk_two (x y : Int) : chk x y = 0 ∨ chk x y = 4 := by unfold chk; split <;> simp
theorem good_of {x y : Int} (h : chk x y = 0) : good x y := by
  unfold chk at h; unfold good
  split at h <;> omega
theorem hasE_zero {T X Y H R B : Nat → Int} {n : Nat} {u qx qy hh : Int} (h : hasE T X Y H R B n u qx qy hh = 0) : tatE T X Y H R B n u = 0 ∧ chk qx qy = 0 ∧ 0 ≤ hh ∧ hh ≤ 60000 := by
  unfold hasE at h
  split at h
  · rename_i h1; exact absurd h h1
  · rename_i h1
    split at h
    · omega
    · exact ⟨Classical.not_not.1 h1, by omega, by omega, by omega⟩
/-- How much a tube has widened at node k. -/
def wid (T : Nat → Int) (g : Int) (k : Nat) : Int := up (g * (T k - T 0)) 60
theorem up_mono {a b d : Int} (hd : 0 < d) (h : a ≤ b) : up a d ≤ up b d := by
  unfold up
  have := Int.ediv_le_ediv hd (show -b ≤ -a by omega)
  omega
theorem up_nonneg {a d : Int} (hd : 0 < d) (h : 0 ≤ a) : 0 ≤ up a d := by
  have := up_mono hd h
  rw [show up 0 d = 0 from by unfold up; rw [Int.neg_zero, Int.zero_ediv]; rfl] at this
  exact this
/-- tube.Of's error. -/
def ofE (T X Y H : Nat → Int) (n : Nat) (r g d : Int) : Int := if pchk T X Y H n ≠ 0 then pchk T X Y H n else if r < 0 ∨ 1000000 < r ∨ g < 0 ∨ 1000000 < g ∨ d < 0 ∨ 60000 < d then 4 else if 1000000 < r + wid T g (n - 1) then 4 else 0
structure OfOk (T X Y H : Nat → Int) (n : Nat) (r g d : Int) : Prop where
  path : pok T X Y H n
  rad : 0 ≤ r ∧ r ≤ 1000000
  gro : 0 ≤ g ∧ g ≤ 1000000
  ban : 0 ≤ d ∧ d ≤ 60000
theorem wid_bd {T X Y H : Nat → Int} {n : Nat} {r g d : Int} (h : OfOk T X Y H n r g d) {k : Nat} (hk : k < n) : 0 ≤ T k ∧ T k ≤ 200000 ∧ 0 ≤ g * (T k - T 0) ∧ g * (T k - T 0) ≤ 200000000000 ∧ 0 ≤ wid T g k ∧ wid T g k ≤ 4000000000 ∧ wid T g k ≤ wid T g (n - 1) := by
  have t0 := h.path.2.2.1 0 h.path.1
  have tk := h.path.2.2.1 k hk
  have tn := h.path.2.2.1 (n - 1) (by omega)
  have l0 := pok_le h.path (Nat.zero_le k) hk
  have ln := pok_le h.path (show k ≤ n - 1 by omega) (show n - 1 < n by omega)
  have g0 := h.gro
  have m := Tube.mulb (x := g) (y := T k - T 0) (M := 1000000) (N := 200000) (by omega) (by omega)
  have m0 : 0 ≤ g * (T k - T 0) := Int.mul_nonneg g0.1 (by omega)
  have m1 : g * (T k - T 0) ≤ g * (T (n - 1) - T 0) := Int.mul_le_mul_of_nonneg_left (by omega) g0.1
  have u0 := up_nonneg (d := 60) (by omega) m0
  have u1 := up_mono (d := 60) (by omega) m1
  have u2 : up (g * (T k - T 0)) 60 ≤ 4000000000 := by
    unfold up
    omega
  unfold wid
  omega
theorem tv_row {w : World} {g n cap : Nat} {T X Y H : Nat → Int} {r d : Int} {wd : Nat → Int} (h0 : 0 < n) (hc : n ≤ cap) (hm : cap ≤ maxLen) (h : RowAt w g n 6 (ofF T X Y H r d wd)) : TV w (.slice (some ⟨g, 0, none⟩) n cap) n T X Y H (fun k => r + wd k) (fun _ => d) := by
  refine Or.inr ⟨h0, g, 0, cap, rfl, hc, hm, fun k hk => ?_⟩
  have c0 := h.cell k hk 0 (by omega); have c1 := h.cell k hk 1 (by omega); have c2 := h.cell k hk 2 (by omega); have c3 := h.cell k hk 3 (by omega); have c4 := h.cell k hk 4 (by omega); have c5 := h.cell k hk 5 (by omega)
  rw [Nat.add_zero] at c0
  unfold S6
  simp only [Nat.zero_add]
  exact ⟨⟨c0, c1, c2⟩, c3, c4, c5⟩
theorem ofE_zero {T X Y H : Nat → Int} {n : Nat} {r g d : Int} (h : ofE T X Y H n r g d = 0) : OfOk T X Y H n r g d ∧ r + wid T g (n - 1) ≤ 1000000 := by
  unfold ofE at h
  split at h
  · rename_i h1; exact absurd h h1
  · rename_i h1
    split at h
    · omega
    · split at h
      · omega
      · exact ⟨⟨(pchk_zero n).1 (Classical.not_not.1 h1), by omega, by omega, by omega⟩, by omega⟩
end Tube
end Go.Proofs.Ytlgdcpkjobbnnaa
