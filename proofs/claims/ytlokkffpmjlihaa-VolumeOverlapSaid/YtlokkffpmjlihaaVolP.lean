/- Intervals of time that are joined: plain laws. -/
import Derived.Test.YtlokkffpmjlihaaVol
namespace Go.Proofs.Ytlokkffpmjlihaa
namespace Vol
/-- One more interval, from no earlier than all others. -/
def step (L : List (Int × Int)) (s : Int × Int) : List (Int × Int) :=
  match L.getLast? with
  | none => [s]
  | some p => if s.1 ≤ p.2 then L.dropLast ++ [(p.1, max p.2 s.2)] else L ++ [s]
def joinL (l : List (Int × Int)) : List (Int × Int) := l.foldl step []
theorem step_nil (s : Int × Int) : step [] s = [s] := rfl
theorem step_snoc (L : List (Int × Int)) (p s : Int × Int) : step (L ++ [p]) s = if s.1 ≤ p.2 then L ++ [(p.1, max p.2 s.2)] else L ++ [p] ++ [s] := by
  unfold step
  rw [List.getLast?_concat, List.dropLast_concat]
/-- A time is in one of them. -/
def InL (l : List (Int × Int)) (t : Int) : Prop := ∃ p, p ∈ l ∧ p.1 ≤ t ∧ t < p.2
theorem inL_app {l m : List (Int × Int)} {t : Int} : InL (l ++ m) t ↔ InL l t ∨ InL m t := by
  unfold InL
  constructor
  · rintro ⟨p, hp, h⟩
    rcases List.mem_append.1 hp with hp | hp
    · exact Or.inl ⟨p, hp, h⟩
    · exact Or.inr ⟨p, hp, h⟩
  · rintro (⟨p, hp, h⟩ | ⟨p, hp, h⟩)
    · exact ⟨p, List.mem_append.2 (Or.inl hp), h⟩
    · exact ⟨p, List.mem_append.2 (Or.inr hp), h⟩
theorem inL_one {p : Int × Int} {t : Int} : InL [p] t ↔ p.1 ≤ t ∧ t < p.2 := by
  unfold InL
  constructor
  · rintro ⟨q, hq, h⟩
    rw [List.mem_singleton] at hq
    rw [← hq]; exact h
  · intro h; exact ⟨p, List.mem_singleton.2 rfl, h⟩
/-- Apart, in order, permitted, and from no later than m. -/
structure Good (L : List (Int × Int)) (m : Int) : Prop where
  ok : ∀ p, p ∈ L → okS p.1 p.2 ∧ p.1 ≤ m
  apart : L.Pairwise fun p q => p.2 < q.1
theorem good_step {L : List (Int × Int)} {m : Int} {s : Int × Int} (h : Good L m) (hs : okS s.1 s.2) (hm : m ≤ s.1) : Good (step L s) s.1 ∧ ∀ t, InL (step L s) t ↔ InL L t ∨ (s.1 ≤ t ∧ t < s.2) := by
  rcases List.eq_nil_or_concat L with rfl | ⟨L0, p, rfl⟩
  · rw [step_nil]
    refine ⟨⟨fun p hp => ?_, List.pairwise_singleton _ _⟩, fun t => ?_⟩
    · rw [List.mem_singleton] at hp; subst hp; exact ⟨hs, Int.le_refl _⟩
    · rw [inL_one]
      exact ⟨Or.inr, fun h => by
        rcases h with ⟨p, hp, -⟩ | h
        · cases hp
        · exact h⟩
  · rw [List.concat_eq_append] at h ⊢
    rw [step_snoc]
    have hp := h.ok p (List.mem_append.2 (Or.inr (List.mem_singleton.2 rfl)))
    have hap := List.pairwise_append.1 h.apart
    unfold okS at hs
    have hp' := hp.1
    unfold okS at hp'
    by_cases hc : s.1 ≤ p.2
    · rw [if_pos hc]
      refine ⟨⟨fun q hq => ?_, List.pairwise_append.2 ⟨hap.1, List.pairwise_singleton _ _, fun a ha b hb => ?_⟩⟩, fun t => ?_⟩
      · rcases List.mem_append.1 hq with hq | hq
        · have := h.ok q (List.mem_append.2 (Or.inl hq))
          exact ⟨this.1, by omega⟩
        · rw [List.mem_singleton] at hq; subst hq
          refine ⟨?_, by have := hp.2; show p.1 ≤ s.1; omega⟩
          show 0 ≤ p.1 ∧ max p.2 s.2 ≤ 200000 ∧ p.1 < max p.2 s.2
          omega
      · rw [List.mem_singleton] at hb; subst hb
        exact hap.2.2 a ha p (List.mem_singleton.2 rfl)
      · rw [inL_app, inL_app, inL_one, inL_one]
        have := hp.2
        show InL L0 t ∨ (p.1 ≤ t ∧ t < max p.2 s.2) ↔ (InL L0 t ∨ p.1 ≤ t ∧ t < p.2) ∨ s.1 ≤ t ∧ t < s.2
        constructor
        · rintro (h1 | h1)
          · exact Or.inl (Or.inl h1)
          · by_cases h2 : t < p.2
            · exact Or.inl (Or.inr ⟨h1.1, h2⟩)
            · exact Or.inr (by omega)
        · rintro ((h1 | h1) | h1)
          · exact Or.inl h1
          · exact Or.inr (by omega)
          · exact Or.inr (by omega)
    · rw [if_neg hc]
      refine ⟨⟨fun q hq => ?_, List.pairwise_append.2 ⟨h.apart, List.pairwise_singleton _ _, fun a ha b hb => ?_⟩⟩, fun t => ?_⟩
      · rcases List.mem_append.1 hq with hq | hq
        · have := h.ok q hq
          exact ⟨this.1, by omega⟩
        · rw [List.mem_singleton] at hq; subst hq
          exact ⟨hs, Int.le_refl _⟩
      · rw [List.mem_singleton] at hb; subst hb
        rcases List.mem_append.1 ha with ha | ha
        · have := hap.2.2 a ha p (List.mem_singleton.2 rfl)
          omega
        · rw [List.mem_singleton] at ha; subst ha; omega
      · rw [inL_app (l := L0 ++ [p]), inL_one (p := s)]
theorem good_join {l : List (Int × Int)} : ∀ {L : List (Int × Int)} {m : Int}, Good L m → (∀ s, s ∈ l → okS s.1 s.2 ∧ m ≤ s.1) → l.Pairwise (fun p q => p.1 ≤ q.1) → (∃ m', Good (l.foldl step L) m') ∧ ∀ t, InL (l.foldl step L) t ↔ InL L t ∨ InL l t := by
  induction l with
  | nil =>
    intro L m h _ _
    refine ⟨⟨m, h⟩, fun t => ?_⟩
    exact ⟨Or.inl, fun h => by
      rcases h with h | ⟨p, hp, -⟩
      · exact h
      · cases hp⟩
  | cons s l ih =>
    intro L m h hs hp
    have h1 := good_step h (hs s (List.mem_cons_self ..)).1 (hs s (List.mem_cons_self ..)).2
    have hp' := List.pairwise_cons.1 hp
    have h2 := ih h1.1 (fun q hq => ⟨(hs q (List.mem_cons_of_mem _ hq)).1, hp'.1 q hq⟩) hp'.2
    refine ⟨h2.1, fun t => ?_⟩
    rw [List.foldl_cons, h2.2 t, h1.2 t, or_assoc]
    have : InL (s :: l) t ↔ (s.1 ≤ t ∧ t < s.2) ∨ InL l t := by
      rw [show s :: l = [s] ++ l from rfl, inL_app, inL_one]
    rw [this]
/-- What the join of intervals in order is. -/
theorem join_good {l : List (Int × Int)} (hs : ∀ s, s ∈ l → okS s.1 s.2) (hp : l.Pairwise fun p q => p.1 ≤ q.1) : (∃ m', Good (joinL l) m') ∧ ∀ t, InL (joinL l) t ↔ InL l t := by
  have h0 : Good [] 0 := ⟨fun p hp => (by cases hp), List.Pairwise.nil⟩
  have h := good_join h0 (fun s h => ⟨hs s h, (hs s h).1⟩) hp
  refine ⟨h.1, fun t => ?_⟩
  rw [show joinL l = l.foldl step [] from rfl, h.2 t]
  exact ⟨fun h => by
    rcases h with ⟨p, hp, -⟩ | h
    · cases hp
    · exact h, Or.inr⟩
theorem step_len (L : List (Int × Int)) (s : Int × Int) : (step L s).length ≤ L.length + 1 := by
  rcases List.eq_nil_or_concat L with rfl | ⟨L0, p, rfl⟩
  · exact Nat.le_refl _
  · rw [List.concat_eq_append, step_snoc]
    split <;> simp
theorem fold_len : ∀ (l L : List (Int × Int)), (l.foldl step L).length ≤ L.length + l.length
  | [], L => Nat.le_refl _
  | s :: l, L => by
    rw [List.foldl_cons]
    have h1 := fold_len l (step L s)
    have h2 := step_len L s
    simp only [List.length_cons]
    omega
theorem join_len (l : List (Int × Int)) : (joinL l).length ≤ l.length := by
  have := fold_len l []
  rw [List.length_nil, Nat.zero_add] at this
  exact this
end Vol
end Go.Proofs.Ytlokkffpmjlihaa
