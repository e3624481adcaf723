/- tube.Has and tube.Of, whole. -/
import Derived.Test.YteaccanhahmclaaTubeO
namespace Go.Proofs.Yteaccanhahmclaa
open Go.RowKit
namespace Tube
open Kit Plane Path
/-- The bounds of an interpolated node. -/
theorem at_bds {n : Nat} {T X Y H R B : Nat → Int} (hp : tok T X Y H R B n) {t : Int} {i : Nat} (hs : tseg T n t i) (hl : t ≤ T (n - 1)) :
    good (tx T X i t) (tx T Y i t) ∧ (0 ≤ th T H i t ∧ th T H i t ≤ 60000) ∧ (0 ≤ tu T R i t ∧ tu T R i t ≤ 1000000) ∧ (0 ≤ tu T B i t ∧ tu T B i t ≤ 60000) := by
  have g0 := hp.point i hs.1
  have q0 := hp.nums i hs.1
  have hle := hs.2.1
  by_cases he : T i = t
  · subst he
    rw [tx_at, tx_at, th_at, tu_at, tu_at]
    exact ⟨g0, q0⟩
  · have hin : i + 1 < n := by
      rcases Nat.lt_or_ge (i + 1) n with h | h
      · exact h
      · have : i = n - 1 := by have := hs.1; omega
        subst this; omega
    have hlt := hs.2.2 hin
    have g1 := hp.point (i + 1) hin
    have q1 := hp.nums (i + 1) hin
    have hN : 0 < T (i + 1) - T i := by omega
    have d1 := quo_bd (d := H (i + 1) - H i) (n := t - T i) hN (by omega) (by omega)
    have d2 := up_bd (d := R (i + 1) - R i) (n := t - T i) hN (by omega) (by omega)
    have d3 := up_bd (d := B (i + 1) - B i) (n := t - T i) hN (by omega) (by omega)
    have x1 := tw_bd (a := X i) (b := X (i + 1)) (n := t - T i) hN (by omega) (by omega)
    have y1 := tw_bd (a := Y i) (b := Y (i + 1)) (n := t - T i) hN (by omega) (by omega)
    unfold good at g0 g1
    unfold good tx th tu
    omega
/-- tube.Has's error. -/
def hasE (T X Y H R B : Nat → Int) (n : Nat) (u qx qy hh : Int) : Int := if tatE T X Y H R B n u ≠ 0 then tatE T X Y H R B n u else if chk qx qy ≠ 0 ∨ hh < 0 ∨ 60000 < hh then 4 else 0
/-- tube.Has's answer, in the segment i. -/
def hasB (T X Y H R B : Nat → Int) (i : Nat) (u qx qy hh : Int) : Bool := inB (sqr (tx T X i u) (tx T Y i u) qx qy) (tu T R i u) && decide (max (th T H i u - hh) (hh - th T H i u) ≤ tu T B i u)
theorem chk_two (x y : Int) : chk x y = 0 ∨ chk x y = 4 := by unfold chk; split <;> simp
theorem good_of {x y : Int} (h : chk x y = 0) : good x y := by
  unfold chk at h; unfold good
  split at h <;> omega
theorem has_bad {v : Value} {n : Nat} {T X Y H R B : Nat → Int} {w : World} (hv : TV w v n T X Y H R B) {u qx qy hh : Int} (h : hasE T X Y H R B n u qx qy hh ≠ 0) :
    Calls Try.prog 79 #[v, .int .i64 u, .agg #[.int .i64 qx, .int .i64 qy], .int .i64 hh] w fun e w' => e = .returned (.tuple #[.bool false, .int .i64 (hasE T X Y H R B n u qx qy hh)]) ∧ Below w.heap.size w w' := by
  unfold hasE at h ⊢
  by_cases hE : tatE T X Y H R B n u ≠ 0
  · rw [if_pos hE]
    exact Has_bad v u qx qy hh _ w (Lib.hid fun w1 hb => tAt_bad (tv_keep hb hv) hE) (by simpa using hE) (by simpa using hE)
  · rw [if_neg hE] at h ⊢
    have hE := Classical.not_not.1 hE
    obtain ⟨hp, h0, h1, i, hs⟩ := tatE_zero hE
    have A := Lib.hid fun (w1 : World) (hb : Below w.heap.size w w1) => tAt_ok (tv_keep hb hv) hE hs
    by_cases hq : chk qx qy ≠ 0 ∨ hh < 0 ∨ 60000 < hh
    · rw [if_pos hq]
      rcases chk_two qx qy with hc | hc
      · have C : Chk qx qy 0 := fun w => by have := check qx qy w; rw [hc] at this; exact this
        exact Has_h v u qx qy hh _ _ _ _ _ _ w A (Lib.hid C) (by omega)
      · have C : Chk qx qy 4 := fun w => by have := check qx qy w; rw [hc] at this; exact this
        exact Has_pt v u qx qy hh _ _ _ _ _ _ w A (Lib.hid C)
    · rw [if_neg hq] at h; exact absurd rfl h
theorem hasE_zero {T X Y H R B : Nat → Int} {n : Nat} {u qx qy hh : Int} (h : hasE T X Y H R B n u qx qy hh = 0) : tatE T X Y H R B n u = 0 ∧ chk qx qy = 0 ∧ 0 ≤ hh ∧ hh ≤ 60000 := by
  unfold hasE at h
  split at h
  · rename_i h1; exact absurd h h1
  · rename_i h1
    split at h
    · omega
    · exact ⟨Classical.not_not.1 h1, by omega, by omega, by omega⟩
theorem has_ok {v : Value} {n : Nat} {T X Y H R B : Nat → Int} {w : World} (hv : TV w v n T X Y H R B) {u qx qy hh : Int} {i : Nat} (h : hasE T X Y H R B n u qx qy hh = 0) (hs : tseg T n u i) :
    Calls Try.prog 79 #[v, .int .i64 u, .agg #[.int .i64 qx, .int .i64 qy], .int .i64 hh] w fun e w' => e = .returned (.tuple #[.bool (hasB T X Y H R B i u qx qy hh), .int .i64 0]) ∧ Below w.heap.size w w' := by
  obtain ⟨hE, hc, h1, h2⟩ := hasE_zero h
  obtain ⟨hp, h3, h4, -⟩ := tatE_zero hE
  have bd := at_bds hp hs h4
  have C : Chk qx qy 0 := fun w => by have := check qx qy w; rw [hc] at this; exact this
  have gq := good_of hc
  have gp := bd.1
  unfold good at gq gp
  exact Has_ok v u qx qy hh _ _ _ _ _ _ _ w (Lib.hid fun w1 hb => tAt_ok (tv_keep hb hv) hE hs) (Lib.hid C) h1 h2 bd.2.1 (Lib.hid fun w => within _ _ _ _ _ w rfl (by omega))
/-- How much a tube has widened at node k. -/
def wid (T : Nat → Int) (g : Int) (k : Nat) : Int := up (g * (T k - T 0)) 60
theorem up_mono {a b d : Int} (hd : 0 < d) (h : a ≤ b) : up a d ≤ up b d := by
  unfold up
  have := Int.ediv_le_ediv hd (show -b ≤ -a by omega)
  omega
theorem up_nonneg {a d : Int} (hd : 0 < d) (h : 0 ≤ a) : 0 ≤ up a d := by
  have := up_mono hd h
  rw [show up 0 d = 0 from by unfold up; rw [Int.neg_zero, Int.zero_ediv]; rfl] at this
  exact this
/-- tube.Of's error. -/
def ofE (T X Y H : Nat → Int) (n : Nat) (r g d : Int) : Int := if pchk T X Y H n ≠ 0 then pchk T X Y H n else if r < 0 ∨ 1000000 < r ∨ g < 0 ∨ 1000000 < g ∨ d < 0 ∨ 60000 < d then 4 else if 1000000 < r + wid T g (n - 1) then 4 else 0
structure OfOk (T X Y H : Nat → Int) (n : Nat) (r g d : Int) : Prop where
  path : pok T X Y H n
  rad : 0 ≤ r ∧ r ≤ 1000000
  gro : 0 ≤ g ∧ g ≤ 1000000
  ban : 0 ≤ d ∧ d ≤ 60000
theorem wid_bd {T X Y H : Nat → Int} {n : Nat} {r g d : Int} (h : OfOk T X Y H n r g d) {k : Nat} (hk : k < n) : 0 ≤ T k ∧ T k ≤ 200000 ∧ 0 ≤ g * (T k - T 0) ∧ g * (T k - T 0) ≤ 200000000000 ∧ 0 ≤ wid T g k ∧ wid T g k ≤ 4000000000 ∧ wid T g k ≤ wid T g (n - 1) := by
  have t0 := h.path.2.2.1 0 h.path.1
  have tk := h.path.2.2.1 k hk
  have tn := h.path.2.2.1 (n - 1) (by omega)
  have l0 := pok_le h.path (Nat.zero_le k) hk
  have ln := pok_le h.path (show k ≤ n - 1 by omega) (show n - 1 < n by omega)
  have g0 := h.gro
  have m := Tube.mulb (x := g) (y := T k - T 0) (M := 1000000) (N := 200000) (by omega) (by omega)
  have m0 : 0 ≤ g * (T k - T 0) := Int.mul_nonneg g0.1 (by omega)
  have m1 : g * (T k - T 0) ≤ g * (T (n - 1) - T 0) := Int.mul_le_mul_of_nonneg_left (by omega) g0.1
  have u0 := up_nonneg (d := 60) (by omega) m0
  have u1 := up_mono (d := 60) (by omega) m1
  have u2 : up (g * (T k - T 0)) 60 ≤ 4000000000 := by
    unfold up
    omega
  unfold wid
  omega
theorem of_all {v : Value} {n : Nat} {T X Y H : Nat → Int} {w : World} (hv : PV w v n T X Y H) {r g d : Int} (h : OfOk T X Y H n r g d) :
    Calls Try.prog 78 #[v, .int .i64 r, .int .i64 g, .int .i64 d] w fun e w' =>
      ((e = .returned (.tuple #[.slice none 0 0, .int .i64 4]) ∧ ∃ k, k < n ∧ 1000000 < r + wid T g k) ∨ (∃ v, e = .returned (.tuple #[v, .int .i64 0]) ∧ Own w' w.heap.size 70 6 v n (ofF T X Y H r d (wid T g)) ∧ ∀ k, k < n → r + wid T g k ≤ 1000000)) ∧ Below w.heap.size w w' := by
  have C := Path.checkC hv
  rw [(pchk_zero n).2 h.path] at C
  rcases hv with ⟨h0, -⟩ | ⟨h0, b, off, cap, rfl, h1, h2, h3⟩
  · have := h.path.1; omega
  · refine Of_walk n cap b off T X Y H r g d (wid T g) w h0 h.path.2.1 h1 (Nat.le_trans h2 (by decide)) (Lib.hid C) (Lib.hid h3) h.rad h.gro h.ban (Lib.hid fun k hk w => ?_) (Lib.hid fun k hk => ?_)
    · have bd := wid_bd h hk
      have c := Num.divUp (g * (T k - T 0)) 60 w (by omega) (by omega)
      rw [(du_up (by omega)).1, (du_up (by omega)).2] at c
      refine c.mono fun e w' ⟨he, hw⟩ => ⟨he, ?_⟩
      subst hw; exact Below.refl _ _
    · have bd := wid_bd h hk; omega
theorem tv_row {w : World} {g n cap : Nat} {T X Y H : Nat → Int} {r d : Int} {wd : Nat → Int} (h0 : 0 < n) (hc : n ≤ cap) (hm : cap ≤ maxLen) (h : RowAt w g n 6 (ofF T X Y H r d wd)) : TV w (.slice (some ⟨g, 0, none⟩) n cap) n T X Y H (fun k => r + wd k) (fun _ => d) := by
  refine Or.inr ⟨h0, g, 0, cap, rfl, hc, hm, fun k hk => ?_⟩
  have c0 := h.cell k hk 0 (by omega); have c1 := h.cell k hk 1 (by omega); have c2 := h.cell k hk 2 (by omega); have c3 := h.cell k hk 3 (by omega); have c4 := h.cell k hk 4 (by omega); have c5 := h.cell k hk 5 (by omega)
  rw [Nat.add_zero] at c0
  unfold S6
  simp only [Nat.zero_add]
  exact ⟨⟨c0, c1, c2⟩, c3, c4, c5⟩
theorem ofE_zero {T X Y H : Nat → Int} {n : Nat} {r g d : Int} (h : ofE T X Y H n r g d = 0) : OfOk T X Y H n r g d ∧ r + wid T g (n - 1) ≤ 1000000 := by
  unfold ofE at h
  split at h
  · rename_i h1; exact absurd h h1
  · rename_i h1
    split at h
    · omega
    · split at h
      · omega
      · exact ⟨⟨(pchk_zero n).1 (Classical.not_not.1 h1), by omega, by omega, by omega⟩, by omega⟩
theorem of_ok {v : Value} {n : Nat} {T X Y H : Nat → Int} {w : World} (hv : PV w v n T X Y H) {r g d : Int} (h : ofE T X Y H n r g d = 0) :
    Calls Try.prog 78 #[v, .int .i64 r, .int .i64 g, .int .i64 d] w fun e w' => ∃ b cap, e = .returned (.tuple #[.slice (some ⟨b, 0, none⟩) n cap, .int .i64 0]) ∧ n ≤ cap ∧ cap ≤ maxLen ∧ RowAt w' b n 6 (ofF T X Y H r d (wid T g)) ∧ w.heap.size ≤ b ∧ Below w.heap.size w w' := by
  obtain ⟨ok, hw⟩ := ofE_zero h
  refine (of_all hv ok).mono ?_
  rintro e w' ⟨⟨-, k, hk, hx⟩ | ⟨v', rfl, ho, -⟩, hb⟩
  · have := wid_bd ok hk; omega
  · obtain ⟨b, cap, rfl, h1, h2, h3, h4, h5⟩ := own_row ho ok.path.1
    exact ⟨b, cap, rfl, h3, h4, h5, h1, hb⟩
theorem of_bad {v : Value} {n : Nat} {T X Y H : Nat → Int} {w : World} (hv : PV w v n T X Y H) {r g d : Int} (h : ofE T X Y H n r g d ≠ 0) :
    Calls Try.prog 78 #[v, .int .i64 r, .int .i64 g, .int .i64 d] w fun e w' => e = .returned (.tuple #[.slice none 0 0, .int .i64 (ofE T X Y H n r g d)]) ∧ Below w.heap.size w w' := by
  have C := Path.checkC hv
  unfold ofE at h ⊢
  by_cases hE : pchk T X Y H n ≠ 0
  · rw [if_pos hE]
    exact Of_bad v r g d _ w (Lib.hid C) (by simpa using hE) (by simpa using hE)
  · rw [if_neg hE] at h ⊢
    have hE := Classical.not_not.1 hE
    have hp := (pchk_zero n).1 hE
    rw [hE] at C
    by_cases hx : r < 0 ∨ 1000000 < r ∨ g < 0 ∨ 1000000 < g ∨ d < 0 ∨ 60000 < d
    · rw [if_pos hx]
      rcases hv with ⟨h0, -⟩ | ⟨h0, b, off, cap, rfl, h1, h2, h3⟩
      · have := hp.1; omega
      · exact Of_no n cap b off T X Y H r g d w h0 hp.2.1 h1 (Nat.le_trans h2 (by decide)) (Lib.hid C) hx
    · rw [if_neg hx] at h ⊢
      have ok : OfOk T X Y H n r g d := ⟨hp, by omega, by omega, by omega⟩
      by_cases hw : 1000000 < r + wid T g (n - 1)
      · rw [if_pos hw]
        refine (of_all hv ok).mono ?_
        rintro e w' ⟨⟨rfl, -⟩ | ⟨v', rfl, -, hx⟩, hb⟩
        · exact ⟨rfl, hb⟩
        · have := hx (n - 1) (by have := hp.1; omega); omega
      · rw [if_neg hw] at h; exact absurd rfl h
end Tube
end Go.Proofs.Yteaccanhahmclaa
