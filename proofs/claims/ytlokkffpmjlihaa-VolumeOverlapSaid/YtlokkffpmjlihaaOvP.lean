/- A part of a segment that starts off a border, crosses no edge and meets no vertex, has no point in common with the border: plain laws. -/
import Derived.Test.YtlokkffpmjlihaaOvA
namespace Go.Proofs.Ytlokkffpmjlihaa
namespace Over
open Plane Poly
/-- m lies strictly between a and b. -/
structure Mid (E T ax ay bx by' mx my : Int) : Prop where
  pos : 0 < T
  lt : T < E
  x : E * (mx - ax) = T * (bx - ax)
  y : E * (my - ay) = T * (by' - ay)
section
variable {E T ax ay bx by' mx my ux uy vx vy : Int}
theorem mid_f (h : Mid E T ax ay bx by' mx my) : E * crs ux uy vx vy mx my = (E - T) * crs ux uy vx vy ax ay + T * crs ux uy vx vy bx by' := by
  have h1 := h.x; have h2 := h.y
  unfold crs
  grind
theorem mid_g (h : Mid E T ax ay bx by' mx my) (zx zy : Int) : E * crs ax ay mx my zx zy = T * crs ax ay bx by' zx zy := by
  have h1 := h.x; have h2 := h.y
  unfold crs
  grind
theorem mid_on (h : Mid E T ax ay bx by' mx my) : crs ax ay bx by' mx my = 0 := by
  have h1 := h.x; have h2 := h.y; have h3 := h.pos; have h4 := h.lt
  have e : E * crs ax ay bx by' mx my = 0 := by unfold crs; grind
  rcases Int.mul_eq_zero.1 e with h | h
  · omega
  · exact h
/-- The same sign. -/
theorem sgn_same {E T p q : Int} (hE : 0 < E) (hT : 0 < T) (h : E * p = T * q) : (0 < p ↔ 0 < q) ∧ (p < 0 ↔ q < 0) := by
  have z1 : 0 < p → 0 < E * p := fun hp => Par.mp hE hp
  have z2 : 0 < q → 0 < T * q := fun hp => Par.mp hT hp
  have z3 : p < 0 → E * p < 0 := fun hp => by have := Par.mp hE (show 0 < -p by omega); rw [Int.mul_neg] at this; omega
  have z4 : q < 0 → T * q < 0 := fun hp => by have := Par.mp hT (show 0 < -q by omega); rw [Int.mul_neg] at this; omega
  have z5 : p = 0 → E * p = 0 := fun hp => by rw [hp, Int.mul_zero]
  have z6 : q = 0 → T * q = 0 := fun hp => by rw [hp, Int.mul_zero]
  omega
/-- A point of a segment, as a mean of its ends. -/
theorem on_mean (h : onB ux uy vx vy mx my = true) (hne : ¬ (ux = vx ∧ uy = vy)) : ∃ D K : Int, 0 < D ∧ 0 ≤ K ∧ K ≤ D ∧ D * (mx - ux) = K * (vx - ux) ∧ D * (my - uy) = K * (vy - uy) := by
  unfold onB btw at h
  rw [Bool.and_eq_true, decide_eq_true_eq, decide_eq_true_eq] at h
  obtain ⟨hc, hb⟩ := h
  unfold crs at hc
  rcases Int.lt_trichotomy ux vx with hx | hx | hx
  · exact ⟨vx - ux, mx - ux, by omega, by omega, by omega, Int.mul_comm _ _, by grind⟩
  · subst hx
    rcases Int.lt_trichotomy uy vy with hy | hy | hy
    · exact ⟨vy - uy, my - uy, by omega, by omega, by omega, by rw [show mx - ux = 0 from by omega, show ux - ux = 0 from by omega, Int.mul_zero, Int.mul_zero], Int.mul_comm _ _⟩
    · exact absurd ⟨rfl, hy⟩ hne
    · exact ⟨uy - vy, uy - my, by omega, by omega, by omega, by rw [show mx - ux = 0 from by omega, show ux - ux = 0 from by omega, Int.mul_zero, Int.mul_zero], by grind⟩
  · exact ⟨ux - vx, ux - mx, by omega, by omega, by omega, by grind, by grind⟩
theorem on_flip : onB ay ax by' bx my mx = onB ax ay bx by' mx my := by
  unfold onB btw
  congr 1
  · rw [decide_eq_decide]; unfold crs
    constructor
    · intro h; grind
    · intro h; grind
  · rw [decide_eq_decide]; omega
theorem col_y (h : crs ax ay bx by' mx my = 0) (hy : ay ≠ by') (hb : min ay by' ≤ my ∧ my ≤ max ay by') : onB ax ay bx by' mx my = true := by
  rcases Int.lt_or_gt_of_ne hy with h1 | h1
  · exact col_btw h h1 (by omega) (by omega)
  · rw [← J.on_swap]
    exact col_btw (by rw [J.crs_swap]; omega) h1 (by omega) (by omega)
theorem col_x (h : crs ax ay bx by' mx my = 0) (hx : ax ≠ bx) (hb : min ax bx ≤ mx ∧ mx ≤ max ax bx) : onB ax ay bx by' mx my = true := by
  rw [← on_flip]
  exact col_y (by unfold crs at *; grind) hx hb
/-- On one line: a point off a segment and one on it have an end of it between them. -/
theorem end_between (hne : ¬ (ux = vx ∧ uy = vy)) (ha : crs ux uy vx vy ax ay = 0) (hn : onB ux uy vx vy ax ay = false) (hm : onB ux uy vx vy mx my = true) : onB ax ay mx my ux uy = true ∨ onB ax ay mx my vx vy = true := by
  have hmm := hm
  unfold onB btw at hmm
  rw [Bool.and_eq_true, decide_eq_true_eq, decide_eq_true_eq] at hmm
  obtain ⟨hc, hb⟩ := hmm
  have cu : crs ax ay mx my ux uy = 0 := by
    unfold crs at *
    rcases Classical.em (ux = vx) with hx | hx
    · have hy : uy ≠ vy := fun h => hne ⟨hx, h⟩
      have e1 : (vy - uy) * (ax - ux) = 0 := by grind
      have e2 : (vy - uy) * (mx - ux) = 0 := by grind
      have q1 : ax - ux = 0 := by rcases Int.mul_eq_zero.1 e1 with h | h <;> omega
      have q2 : mx - ux = 0 := by rcases Int.mul_eq_zero.1 e2 with h | h <;> omega
      rw [show mx - ax = 0 from by omega, show ux - ax = 0 from by omega, Int.zero_mul, Int.mul_zero]; rfl
    · have e : (vx - ux) * ((mx - ax) * (uy - ay) - (my - ay) * (ux - ax)) = 0 := by grind
      rcases Int.mul_eq_zero.1 e with h | h
      · omega
      · exact h
  have cv : crs ax ay mx my vx vy = 0 := by
    unfold crs at *
    rcases Classical.em (ux = vx) with hx | hx
    · have hy : uy ≠ vy := fun h => hne ⟨hx, h⟩
      have e1 : (vy - uy) * (ax - ux) = 0 := by grind
      have e2 : (vy - uy) * (mx - ux) = 0 := by grind
      have q1 : ax - ux = 0 := by rcases Int.mul_eq_zero.1 e1 with h | h <;> omega
      have q2 : mx - ux = 0 := by rcases Int.mul_eq_zero.1 e2 with h | h <;> omega
      rw [show mx - ax = 0 from by omega, show vx - ax = 0 from by omega, Int.zero_mul, Int.mul_zero]; rfl
    · have e : (vx - ux) * ((mx - ax) * (vy - ay) - (my - ay) * (vx - ax)) = 0 := by grind
      rcases Int.mul_eq_zero.1 e with h | h
      · omega
      · exact h
  by_cases hx : ux = vx
  · have hy : uy ≠ vy := fun h => hne ⟨hx, h⟩
    have hout : ¬ (min uy vy ≤ ay ∧ ay ≤ max uy vy) := fun h => by rw [col_y ha hy h] at hn; cases hn
    by_cases hd : ay < min uy vy
    · by_cases hu : uy < vy
      · exact Or.inl (col_y cu (by omega) (by omega))
      · exact Or.inr (col_y cv (by omega) (by omega))
    · by_cases hu : uy < vy
      · exact Or.inr (col_y cv (by omega) (by omega))
      · exact Or.inl (col_y cu (by omega) (by omega))
  · have hout : ¬ (min ux vx ≤ ax ∧ ax ≤ max ux vx) := fun h => by rw [col_x ha hx h] at hn; cases hn
    by_cases hd : ax < min ux vx
    · by_cases hu : ux < vx
      · exact Or.inl (col_x cu (by omega) (by omega))
      · exact Or.inr (col_x cv (by omega) (by omega))
    · by_cases hu : ux < vx
      · exact Or.inr (col_x cv (by omega) (by omega))
      · exact Or.inl (col_x cu (by omega) (by omega))
/-- The part up to m has no point in common with the edge. -/
theorem part_free (h : Mid E T ax ay bx by' mx my) (hne : ¬ (ux = vx ∧ uy = vy)) (h1 : crossB ux uy vx vy ax ay bx by' = false) (h2 : onB ux uy vx vy ax ay = false) (h3 : onB ax ay mx my ux uy = false) (h4 : onB ax ay mx my vx vy = false) : commonB ux uy vx vy ax ay mx my = false := by
  have hp := h.pos; have hl := h.lt
  have N := fun hh => t_false h1 (crossB_iff.2 hh)
  have f := mid_f (ux := ux) (uy := uy) (vx := vx) (vy := vy) h
  have gu := sgn_same (by omega) hp (mid_g h ux uy)
  have gv := sgn_same (by omega) hp (mid_g h vx vy)
  have hc : crossB ux uy vx vy ax ay mx my = false := by
    cases hh : crossB ux uy vx vy ax ay mx my with
    | false => rfl
    | true =>
      exfalso
      obtain ⟨k1, k2⟩ := crossB_iff.1 hh
      have kb : (0 < crs ux uy vx vy ax ay ∧ crs ux uy vx vy bx by' < 0) ∨ (crs ux uy vx vy ax ay < 0 ∧ 0 < crs ux uy vx vy bx by') := by
        rcases k1 with ⟨a1, a2⟩ | ⟨a1, a2⟩
        · have p1 := Par.mp (show 0 < E - T by omega) a1
          have p2 := Par.mp (show 0 < E by omega) (show 0 < -crs ux uy vx vy mx my by omega)
          rw [Int.mul_neg] at p2
          exact Or.inl ⟨a1, Par.neg_of (b := T) (by rw [Int.mul_comm]; omega) (by omega)⟩
        · have p1 := Par.mp (show 0 < E - T by omega) (show 0 < -crs ux uy vx vy ax ay by omega)
          rw [Int.mul_neg] at p1
          have p2 := Par.mp (show 0 < E by omega) a2
          exact Or.inr ⟨a1, Par.pos_of (b := T) (by rw [Int.mul_comm]; omega) (by omega)⟩
      exact N ⟨kb, by omega⟩
  have hm : onB ux uy vx vy mx my = false := by
    cases hh : onB ux uy vx vy mx my with
    | false => rfl
    | true =>
      exfalso
      have hf0 : crs ux uy vx vy mx my = 0 := by
        unfold onB at hh
        rw [Bool.and_eq_true, decide_eq_true_eq] at hh
        exact hh.1
      rw [hf0, Int.mul_zero] at f
      by_cases ha : crs ux uy vx vy ax ay = 0
      · rcases end_between hne ha h2 hh with q | q
        · rw [q] at h3; cases h3
        · rw [q] at h4; cases h4
      · have kb : (0 < crs ux uy vx vy ax ay ∧ crs ux uy vx vy bx by' < 0) ∨ (crs ux uy vx vy ax ay < 0 ∧ 0 < crs ux uy vx vy bx by') := by
          rcases Int.lt_trichotomy (crs ux uy vx vy ax ay) 0 with q | q | q
          · have p1 := Par.mp (show 0 < E - T by omega) (show 0 < -crs ux uy vx vy ax ay by omega)
            rw [Int.mul_neg] at p1
            exact Or.inr ⟨q, Par.pos_of (b := T) (by rw [Int.mul_comm]; omega) (by omega)⟩
          · exact absurd q ha
          · have p1 := Par.mp (show 0 < E - T by omega) q
            exact Or.inl ⟨q, Par.neg_of (b := T) (by rw [Int.mul_comm]; omega) (by omega)⟩
        -- the edge's ends are not on both sides of the line
        have kn : ¬ ((0 < crs ax ay bx by' ux uy ∧ crs ax ay bx by' vx vy < 0) ∨ (crs ax ay bx by' ux uy < 0 ∧ 0 < crs ax ay bx by' vx vy)) := fun k => N ⟨kb, k⟩
        obtain ⟨D, K, d1, d2, d3, d4, d5⟩ := on_mean hh hne
        have g0 := mid_on h
        have ge : (D - K) * crs ax ay bx by' ux uy + K * crs ax ay bx by' vx vy = 0 := by
          have : D * crs ax ay bx by' mx my = (D - K) * crs ax ay bx by' ux uy + K * crs ax ay bx by' vx vy := by unfold crs; grind
          rw [g0, Int.mul_zero] at this; omega
        have r1 : crs ux uy vx vy ax ay * (by' - ay) = crs ax ay bx by' vx vy * (uy - ay) - crs ax ay bx by' ux uy * (vy - ay) := by unfold crs; grind
        have r2 : crs ux uy vx vy ax ay * (bx - ax) = crs ax ay bx by' vx vy * (ux - ax) - crs ax ay bx by' ux uy * (vx - ax) := by unfold crs; grind
        have hab : ¬ (ax = bx ∧ ay = by') := by
          rintro ⟨rfl, rfl⟩
          omega
        have endm : onB ax ay mx my mx my = true := by rw [← J.on_swap]; exact J.on_end mx my ax ay
        generalize hgu : crs ax ay bx by' ux uy = p at *
        generalize hgv : crs ax ay bx by' vx vy = q at *
        by_cases hp0 : p = 0
        · by_cases hq0 : q = 0
          · rw [hp0, hq0, Int.zero_mul, Int.zero_mul, Int.sub_zero] at r1 r2
            rcases Int.mul_eq_zero.1 r1 with k | k
            · exact ha k
            · rcases Int.mul_eq_zero.1 r2 with k' | k'
              · exact ha k'
              · exact hab ⟨by omega, by omega⟩
          · rw [hp0, Int.mul_zero, Int.zero_add] at ge
            have k0 : K = 0 := by rcases Int.mul_eq_zero.1 ge with k | k; exact k; exact absurd k hq0
            rw [k0, Int.zero_mul] at d4 d5
            have m1 : mx = ux := by rcases Int.mul_eq_zero.1 d4 with k | k <;> omega
            have m2 : my = uy := by rcases Int.mul_eq_zero.1 d5 with k | k <;> omega
            rw [← m1, ← m2, endm] at h3
            cases h3
        · by_cases hq0 : q = 0
          · rw [hq0, Int.mul_zero, Int.add_zero] at ge
            have k0 : D = K := by rcases Int.mul_eq_zero.1 ge with k | k; omega; exact absurd k hp0
            have d4' : D * (mx - vx) = 0 := by rw [← k0] at d4; have : D * (mx - vx) = D * (mx - ux) - D * (vx - ux) := by rw [← Int.mul_sub]; congr 1; omega
                                               omega
            have d5' : D * (my - vy) = 0 := by rw [← k0] at d5; have : D * (my - vy) = D * (my - uy) - D * (vy - uy) := by rw [← Int.mul_sub]; congr 1; omega
                                               omega
            have m1 : mx = vx := by rcases Int.mul_eq_zero.1 d4' with k | k <;> omega
            have m2 : my = vy := by rcases Int.mul_eq_zero.1 d5' with k | k <;> omega
            rw [← m1, ← m2, endm] at h4
            cases h4
          · rcases Int.lt_or_gt_of_ne hp0 with k | k
            · have kq : q < 0 := by omega
              have p1 := Par.mn (show 0 ≤ D - K by omega) (show 0 ≤ -p by omega)
              have p2 := Par.mn d2 (show 0 ≤ -q by omega)
              rw [Int.mul_neg] at p1 p2
              by_cases hK : K = 0
              · have p3 := Par.mp (show 0 < D - K by omega) (show 0 < -p by omega)
                rw [Int.mul_neg] at p3; omega
              · have p3 := Par.mp (show 0 < K by omega) (show 0 < -q by omega)
                rw [Int.mul_neg] at p3; omega
            · have kq : 0 < q := by omega
              have p1 := Par.mn (show 0 ≤ D - K by omega) (show 0 ≤ p by omega)
              have p2 := Par.mn d2 (show 0 ≤ q by omega)
              by_cases hK : K = 0
              · have p3 := Par.mp (show 0 < D - K by omega) k; omega
              · have p3 := Par.mp (show 0 < K by omega) kq; omega
  unfold commonB
  rw [hc, h2, hm, h3, h4]; rfl
theorem plon_in {n : Nat} {X Y : Nat → Int} {qx qy : Int} (h : place n X Y qx qy ≠ 0) {k : Nat} (hk : k < n) : onB (X k) (Y k) (X (nx n k)) (Y (nx n k)) qx qy = false := by
  cases hh : onB (X k) (Y k) (X (nx n k)) (Y (nx n k)) qx qy with
  | false => rfl
  | true =>
    exfalso
    unfold place at h
    rw [if_pos (on_stop hh n hk)] at h
    exact h rfl
/-- A segment that starts off the border, crosses no edge and meets no vertex up to m: m has the place of its start. -/
theorem place_part {n : Nat} {X Y : Nat → Int} (h : Mid E T ax ay bx by' mx my) (h0 : 0 < n) (hne : ∀ k, k < n → ¬ (X k = X (nx n k) ∧ Y k = Y (nx n k))) (ha : place n X Y ax ay ≠ 0) (hc : ∀ k, k < n → crossB (X k) (Y k) (X (nx n k)) (Y (nx n k)) ax ay bx by' = false) (hv : ∀ k, k < n → onB ax ay mx my (X k) (Y k) = false) : place n X Y mx my = place n X Y ax ay :=
  (place_par fun k hk => part_free h (hne k hk) (hc k hk) (plon_in ha hk) (hv k hk) (hv _ (nx_lt h0))).symm
end
end Over
end Go.Proofs.Ytlokkffpmjlihaa
