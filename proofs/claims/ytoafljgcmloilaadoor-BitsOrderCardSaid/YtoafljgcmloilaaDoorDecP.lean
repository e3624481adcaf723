/- The arithmetic of a decimal's shift to the right, in plain Lean. -/
import Derived.Test.YtoafljgcmloilaaDoorDec
namespace Go.Proofs.YtoafljgcmloilaaDoor
namespace Dec
/-- Digit r of the first n ones. -/
def dg (d : Nat → Nat) (n r : Nat) : Nat := if r < n then d r - 48 else 0
/-- The number that the first r digits tell. -/
def pre (d : Nat → Nat) (n : Nat) : Nat → Nat
  | 0 => 0
  | r + 1 => pre d n r * 10 + dg d n r
/-- What is left behind i digits of the quotient. -/
def rem (k : Nat) (d : Nat → Nat) (n r0 : Nat) : Nat → Nat
  | 0 => pre d n r0
  | i + 1 => rem k d n r0 i % 2 ^ k * 10 + dg d n (r0 + i)
/-- Digits as they are: the first one is no zero. -/
structure Dgs (d : Nat → Nat) (n : Nat) : Prop where
  pos : 1 ≤ n
  most : n ≤ 20
  one : 49 ≤ d 0
  all : ∀ r, r < n → 48 ≤ d r ∧ d r ≤ 57
section
variable {d : Nat → Nat} {n k r0 : Nat}
theorem dg_le (h : Dgs d n) (r : Nat) : dg d n r ≤ 9 := by
  unfold dg
  split
  · have := (h.all r (by assumption)).2; omega
  · omega
theorem dg_out {r : Nat} (h : n ≤ r) : dg d n r = 0 := if_neg (by omega)
theorem dg_in {r : Nat} (h : r < n) : dg d n r = d r - 48 := if_pos h
theorem pre_ge (h : Dgs d n) : ∀ r, 10 ^ r ≤ pre d n (r + 1)
  | 0 => by
    show 10 ^ 0 ≤ 0 * 10 + dg d n 0
    rw [dg_in h.pos]
    have := h.one
    omega
  | r + 1 => by
    have := pre_ge h r
    show 10 ^ (r + 1) ≤ pre d n (r + 1) * 10 + dg d n (r + 1)
    rw [Nat.pow_succ]
    omega
theorem p60 (hk : k ≤ 60) : 2 ^ k ≤ 1152921504606846976 := Nat.le_trans (Nat.pow_le_pow_right (by decide) hk) (by decide)
theorem pre_len (h : Dgs d n) (hk : k ≤ 60) {r : Nat} (hr : pre d n r < 2 ^ k) : r ≤ 19 := by
  rcases Nat.lt_or_ge 19 r with g | g
  · have q := pre_ge h (r - 1)
    rw [show r - 1 + 1 = r by omega] at q
    have q2 : 10 ^ 19 ≤ 10 ^ (r - 1) := Nat.pow_le_pow_right (by decide) (by omega)
    have q3 := p60 hk
    have q4 : (10 : Nat) ^ 19 = 10000000000000000000 := by decide
    omega
  · exact g
theorem pre_next (h : Dgs d n) {r : Nat} (hr : pre d n r < 2 ^ k) : pre d n (r + 1) < 10 * 2 ^ k := by
  show pre d n r * 10 + dg d n r < _
  have := dg_le h r
  omega
theorem rem_lt (h : Dgs d n) (h0 : pre d n r0 < 10 * 2 ^ k) : ∀ i, rem k d n r0 i < 10 * 2 ^ k
  | 0 => h0
  | i + 1 => by
    show rem k d n r0 i % 2 ^ k * 10 + dg d n (r0 + i) < _
    have := dg_le h (r0 + i)
    have := Nat.mod_lt (rem k d n r0 i) (Nat.two_pow_pos k)
    omega
theorem rem_dvd {i1 : Nat} (hi : n ≤ r0 + i1) : ∀ c, c ≤ k → 2 ^ c ∣ rem k d n r0 (i1 + c)
  | 0, _ => by rw [Nat.pow_zero]; exact Nat.one_dvd _
  | c + 1, hc => by
    have ih := rem_dvd hi c (by omega)
    show 2 ^ (c + 1) ∣ rem k d n r0 (i1 + c) % 2 ^ k * 10 + dg d n (r0 + (i1 + c))
    rw [dg_out (by omega), Nat.add_zero]
    have q : 2 ^ c ∣ rem k d n r0 (i1 + c) % 2 ^ k := (Nat.dvd_mod_iff (Nat.pow_dvd_pow 2 (by omega))).2 ih
    rw [Nat.pow_succ]
    exact Nat.mul_dvd_mul q (by decide)
theorem rem_end {i1 : Nat} (hi : n ≤ r0 + i1) : ∀ c, rem k d n r0 (i1 + k + 1 + c) = 0
  | 0 => by
    have q := rem_dvd (k := k) (d := d) hi k (Nat.le_refl _)
    show rem k d n r0 (i1 + k) % 2 ^ k * 10 + dg d n (r0 + (i1 + k)) = 0
    rw [dg_out (by omega), Nat.mod_eq_zero_of_dvd q]
  | c + 1 => by
    have ih := rem_end hi c
    show rem k d n r0 (i1 + k + 1 + c) % 2 ^ k * 10 + dg d n (r0 + (i1 + k + 1 + c)) = 0
    rw [dg_out (by omega), ih]
    simp
theorem rem_most {i1 i : Nat} (hi : n ≤ r0 + i1) (h : rem k d n r0 i ≠ 0) : i ≤ i1 + k := by
  rcases Nat.lt_or_ge (i1 + k) i with g | g
  · obtain ⟨c, rfl⟩ : ∃ c, i = i1 + k + 1 + c := ⟨i - (i1 + k + 1), by omega⟩
    exact absurd (rem_end hi c) h
  · exact g
/-- Where the shift begins and ends. -/
structure Sh (k : Nat) (d : Nat → Nat) (n r0 W : Nat) : Prop where
  low : ∀ j, j < r0 → pre d n j < 2 ^ k
  top : 2 ^ k ≤ pre d n r0
  long : n - r0 ≤ W
  zero : rem k d n r0 W = 0
  some : ∀ i, n - r0 ≤ i → i < W → rem k d n r0 i ≠ 0
theorem Sh.same {r W r' W' : Nat} (h : Sh k d n r W) (h' : Sh k d n r' W') : r = r' ∧ W = W' := by
  have e : r = r' := by
    rcases Nat.lt_trichotomy r r' with g | g | g
    · have := h'.low r g; have := h.top; omega
    · exact g
    · have := h.low r' g; have := h'.top; omega
  subst e
  refine ⟨rfl, ?_⟩
  rcases Nat.lt_trichotomy W W' with g | g | g
  · exact absurd h.zero (h'.some W h.long g)
  · exact g
  · exact absurd h'.zero (h.some W' h'.long g)
/-- The quotient's digits, the first i ones being written. -/
def quo (k : Nat) (d : Nat → Nat) (n r0 i : Nat) : Nat → Nat := fun j => if j < i then 48 + rem k d n r0 j / 2 ^ k else d j
theorem quo_next {i : Nat} : upd (quo k d n r0 i) i (48 + rem k d n r0 i / 2 ^ k) = quo k d n r0 (i + 1) := by
  funext j
  unfold upd quo
  by_cases e : j = i
  · subst e; rw [if_pos rfl, if_pos (by omega)]
  · rw [if_neg e]
    by_cases g : j < i
    · rw [if_pos g, if_pos (by omega)]
    · rw [if_neg g, if_neg (by omega)]
theorem quo_zero : quo k d n r0 0 = d := by funext j; exact if_neg (by omega)
theorem quo_old {i j : Nat} (h : i ≤ j) : quo k d n r0 i j = d j := if_neg (by omega)
theorem quo_dig (h : Dgs d n) (h0 : pre d n r0 < 10 * 2 ^ k) (i : Nat) : rem k d n r0 i / 2 ^ k ≤ 9 := by
  have := rem_lt h h0 i
  have : rem k d n r0 i / 2 ^ k < 10 := Nat.div_lt_of_lt_mul (by omega)
  omega
end
end Dec
end Go.Proofs.YtoafljgcmloilaaDoor
