/- Free times of intervals: plain laws. -/
import Derived.Test.YtlokkffpmjlihaaVolF
namespace Go.Proofs.Ytlokkffpmjlihaa
namespace Vol
/-- Lists of intervals, one behind the other. -/
def sumL (L : List (Int × Int)) : Int := (L.map fun p => p.2 - p.1).sum
/-- How much of the intervals lies between a and b. -/
def occL (a b : Int) (L : List (Int × Int)) : Int := (L.map fun p => max 0 (min p.2 b - max p.1 a)).sum
theorem sumL_app (L M : List (Int × Int)) : sumL (L ++ M) = sumL L + sumL M := by unfold sumL; rw [List.map_append, List.sum_append]
theorem sumL_one (p : Int × Int) : sumL [p] = p.2 - p.1 := by unfold sumL; simp
theorem occL_app (a b : Int) (L M : List (Int × Int)) : occL a b (L ++ M) = occL a b L + occL a b M := by unfold occL; rw [List.map_append, List.sum_append]
theorem occL_one (a b : Int) (p : Int × Int) : occL a b [p] = max 0 (min p.2 b - max p.1 a) := by unfold occL; simp
/-- What holds after the first intervals P of a union. -/
structure FInv (a b : Int) (P L : List (Int × Int)) (t : Int) : Prop where
  ge : a ≤ t
  past : ∀ p, p ∈ P → p.2 ≤ t
  at_ : t = a ∨ ∃ p, p ∈ P ∧ p.2 = t
  sum : sumL L + occL a b P = min t b - a
  mem : ∀ τ, InL L τ ↔ (a ≤ τ ∧ τ < min t b) ∧ ¬ InL P τ
  ok : ∀ p, p ∈ L → a ≤ p.1 ∧ p.1 < p.2 ∧ p.2 ≤ b ∧ p.2 ≤ t
  ord : L.Pairwise fun p q => p.2 ≤ q.1
theorem inL_nil {τ : Int} : ¬ InL [] τ := fun ⟨_, hp, _⟩ => by cases hp
theorem finv_start {a b : Int} (h : a ≤ b) : FInv a b [] [] a := by
  refine ⟨Int.le_refl _, fun p hp => (by cases hp), Or.inl rfl, ?_, fun τ => ⟨fun h => absurd h inL_nil, fun h => ?_⟩, fun p hp => (by cases hp), List.Pairwise.nil⟩
  · show (0 : Int) + 0 = _; omega
  · omega
/-- One interval more, behind all others. -/
theorem finv_step {a b t x y : Int} {P L : List (Int × Int)} (hab : a ≤ b) (h : FInv a b P L t) (hxy : x ≤ y) (hgt : ∀ p, p ∈ P → p.2 < x) : FInv a b (P ++ [(x, y)]) (frS b (L, t) (x, y)).1 (frS b (L, t) (x, y)).2 := by
  have hge := h.ge
  have hcase : t = a ∨ t < x := by
    rcases h.at_ with h1 | ⟨p, hp, h1⟩
    · exact Or.inl h1
    · right; have := hgt p hp; omega
  have hsum := h.sum
  by_cases hc : t < min x b
  · rw [frS_yes hc]
    refine ⟨by dsimp only; omega, ?_, ?_, ?_, ?_, ?_, ?_⟩
    · intro p hp
      dsimp only
      rcases List.mem_append.1 hp with hp | hp
      · have := h.past p hp; omega
      · rw [List.mem_singleton] at hp; subst hp; dsimp only; omega
    · exact Or.inr ⟨(x, y), List.mem_append.2 (Or.inr (List.mem_singleton.2 rfl)), by dsimp only; omega⟩
    · rw [sumL_app, sumL_one, occL_app, occL_one]; dsimp only; omega
    · intro τ
      rw [inL_app, inL_app, inL_one, inL_one, h.mem τ]
      dsimp only
      have hn : ¬ InL P τ ∨ τ < t := by
        by_cases hp : InL P τ
        · obtain ⟨p, hp, h1, h2⟩ := hp
          have := h.past p hp
          right; omega
        · exact Or.inl hp
      constructor
      · rintro (⟨h1, h2⟩ | h1)
        · exact ⟨by omega, by rintro (h3 | h3); exact h2 h3; omega⟩
        · refine ⟨by omega, ?_⟩
          rintro (h3 | h3)
          · rcases hn with hn | hn
            · exact hn h3
            · omega
          · omega
      · rintro ⟨h1, h2⟩
        have h3 : ¬ InL P τ := fun h => h2 (Or.inl h)
        have h4 : ¬ (x ≤ τ ∧ τ < y) := fun h => h2 (Or.inr h)
        by_cases h5 : τ < min t b
        · exact Or.inl ⟨⟨h1.1, h5⟩, h3⟩
        · right; omega
    · intro p hp
      dsimp only at hp ⊢
      rcases List.mem_append.1 hp with hp | hp
      · have := h.ok p hp; omega
      · rw [List.mem_singleton] at hp; subst hp; dsimp only; omega
    · refine List.pairwise_append.2 ⟨h.ord, List.pairwise_singleton _ _, fun p hp q hq => ?_⟩
      rw [List.mem_singleton] at hq; subst hq
      exact (h.ok p hp).2.2.2
  · rw [frS_no hc]
    refine ⟨by dsimp only; omega, ?_, ?_, ?_, ?_, ?_, h.ord⟩
    · intro p hp
      dsimp only
      rcases List.mem_append.1 hp with hp | hp
      · have := h.past p hp; omega
      · rw [List.mem_singleton] at hp; subst hp; dsimp only; omega
    · by_cases hy : t ≤ y
      · exact Or.inr ⟨(x, y), List.mem_append.2 (Or.inr (List.mem_singleton.2 rfl)), by dsimp only; omega⟩
      · rcases h.at_ with h1 | ⟨p, hp, h1⟩
        · exact Or.inl (by dsimp only; omega)
        · exact Or.inr ⟨p, List.mem_append.2 (Or.inl hp), by dsimp only; omega⟩
    · rw [occL_app, occL_one]; dsimp only; omega
    · intro τ
      rw [inL_app, inL_one, h.mem τ]
      dsimp only
      constructor
      · rintro ⟨h1, h2⟩
        exact ⟨by omega, by rintro (h3 | h3); exact h2 h3; omega⟩
      · rintro ⟨h1, h2⟩
        have h3 : ¬ InL P τ := fun h => h2 (Or.inl h)
        have h4 : ¬ (x ≤ τ ∧ τ < y) := fun h => h2 (Or.inr h)
        exact ⟨by omega, h3⟩
    · intro p hp
      dsimp only
      have := h.ok p hp; omega
theorem rowsL_get {V : List (Int × Int)} {i : Nat} (h : i < V.length) : (rowsL V i 0, rowsL V i 1) = V[i] := by
  unfold rowsL
  rw [if_pos rfl, if_neg (by decide), List.getD_eq_getElem?_getD, List.getElem?_eq_getElem h]
  rfl
/-- What volume.Free's list is. -/
theorem fr_inv {a b : Int} {U : List (Int × Int)} (hab : a ≤ b) (hU : ∃ m, Good U m) : ∀ i, i ≤ U.length → FInv a b (U.take i) (frA (U ++ [(b, b)]) a b i).1 (frA (U ++ [(b, b)]) a b i).2
  | 0, _ => by rw [List.take_zero]; exact finv_start hab
  | i + 1, hi => by
    have h := fr_inv hab hU i (by omega)
    obtain ⟨m, hm⟩ := hU
    have hlt : i < U.length := by omega
    have hm1 := hm.ok U[i] (List.getElem_mem hlt)
    have hs : okS U[i].1 U[i].2 := hm1.1
    unfold okS at hs
    have e : (rowsL (U ++ [(b, b)]) i 0, rowsL (U ++ [(b, b)]) i 1) = (U[i].1, U[i].2) := by
      rw [rowsL_get (by rw [List.length_append]; omega), List.getElem_append_left hlt]
    show FInv a b (U.take (i + 1)) (frS b (frA (U ++ [(b, b)]) a b i) _).1 (frS b (frA (U ++ [(b, b)]) a b i) _).2
    rw [e, List.take_succ_eq_append_getElem hlt]
    refine finv_step (x := U[i].1) (y := U[i].2) hab h (by omega) (fun p hp => ?_)
    obtain ⟨j, hj, rfl⟩ := List.mem_iff_getElem.1 hp
    rw [List.length_take] at hj
    rw [List.getElem_take]
    exact List.pairwise_iff_getElem.1 hm.apart j i (by omega) hlt (by omega)
/-- All of it. -/
structure Fre (a b : Int) (U L : List (Int × Int)) : Prop where
  sum : sumL L + occL a b U = b - a
  mem : ∀ τ, InL L τ ↔ (a ≤ τ ∧ τ < b) ∧ ¬ InL U τ
  ok : ∀ p, p ∈ L → a ≤ p.1 ∧ p.1 < p.2 ∧ p.2 ≤ b
  ord : L.Pairwise fun p q => p.2 ≤ q.1
theorem fre_of {a b : Int} {U : List (Int × Int)} (hab : a ≤ b) (hU : ∃ m, Good U m) : Fre a b U (frA (U ++ [(b, b)]) a b (U.length + 1)).1 := by
  have h := fr_inv hab hU U.length (Nat.le_refl _)
  rw [List.take_length] at h
  have e : (rowsL (U ++ [(b, b)]) U.length 0, rowsL (U ++ [(b, b)]) U.length 1) = (b, b) := by
    rw [rowsL_last, rowsL_last]; rfl
  show Fre a b U (frS b (frA (U ++ [(b, b)]) a b U.length) _).1
  rw [e]
  rw [show frA (U ++ [(b, b)]) a b U.length = ((frA (U ++ [(b, b)]) a b U.length).1, (frA (U ++ [(b, b)]) a b U.length).2) from rfl]
  generalize (frA (U ++ [(b, b)]) a b U.length).2 = t at *
  generalize (frA (U ++ [(b, b)]) a b U.length).1 = L at *
  have hsum := h.sum
  have hge := h.ge
  by_cases hc : t < min b b
  · rw [frS_yes hc]
    refine ⟨?_, fun τ => ?_, fun p hp => ?_, ?_⟩
    · rw [sumL_app, sumL_one]; dsimp only; omega
    · rw [inL_app, inL_one, h.mem τ]
      dsimp only
      have hn : ¬ InL U τ ∨ τ < t := by
        by_cases hp : InL U τ
        · obtain ⟨p, hp, h1, h2⟩ := hp
          have := h.past p hp
          right; omega
        · exact Or.inl hp
      constructor
      · rintro (⟨h1, h2⟩ | h1)
        · exact ⟨by omega, h2⟩
        · refine ⟨by omega, fun h3 => ?_⟩
          rcases hn with hn | hn
          · exact hn h3
          · omega
      · rintro ⟨h1, h2⟩
        by_cases h5 : τ < min t b
        · exact Or.inl ⟨⟨h1.1, h5⟩, h2⟩
        · right; omega
    · rcases List.mem_append.1 hp with hp | hp
      · have := h.ok p hp; omega
      · rw [List.mem_singleton] at hp; subst hp; dsimp only; omega
    · refine List.pairwise_append.2 ⟨h.ord, List.pairwise_singleton _ _, fun p hp q hq => ?_⟩
      rw [List.mem_singleton] at hq; subst hq
      exact (h.ok p hp).2.2.2
  · rw [frS_no hc]
    refine ⟨by dsimp only; omega, fun τ => ?_, fun p hp => ?_, h.ord⟩
    · rw [h.mem τ]
      constructor
      · rintro ⟨h1, h2⟩; exact ⟨by omega, h2⟩
      · rintro ⟨h1, h2⟩; exact ⟨by omega, h2⟩
    · have := h.ok p hp; omega
end Vol
end Go.Proofs.Ytlokkffpmjlihaa
