/- Numbers as text, in plain Lean: what is printed is read. -/
import Derived.Lib.ItoaMem
import Derived.Lib.Atoi
import Derived.Lib.AtoiTie
import Derived.WalkKit
namespace Go.Proofs.YtddlacjjanincaaDoor
namespace NumT
open Go.Lib
theorem digit_val {d : Nat} (h : d < 10) : digitVal (UInt8.ofNat (48 + d)) = some d := by
  have e : (UInt8.ofNat (48 + d)).toNat = 48 + d := by
    rw [UInt8.toNat_ofNat']; omega
  unfold digitVal
  rw [e, if_pos (by omega)]
  congr 1; omega
theorem dec_snoc (b : UInt8) : ∀ (l : List UInt8) (acc n d : Nat), decFrom acc l = some n → digitVal b = some d → decFrom acc (l ++ [b]) = some (n * 10 + d)
  | [], acc, n, d, h, hb => by
    have h : acc = n := by injection h
    subst h
    show (match digitVal b with | some d => decFrom (acc * 10 + d) [] | none => none) = _
    rw [hb]; rfl
  | a :: l, acc, n, d, h, hb => by
    have h : (match digitVal a with | some d => decFrom (acc * 10 + d) l | none => none) = some n := h
    show (match digitVal a with | some d => decFrom (acc * 10 + d) (l ++ [b]) | none => none) = _
    cases q : digitVal a with
    | none => rw [q] at h; cases h
    | some e =>
      rw [q] at h
      exact dec_snoc b l _ n d h hb
theorem dec_digits (u : Nat) : decFrom 0 (decDigits u) = some u := by
  induction u using Nat.strongRecOn with
  | _ u ih =>
    by_cases h : u < 10
    · rw [decDigits, dif_pos h]
      show (match digitVal (UInt8.ofNat (48 + u)) with | some d => decFrom (0 * 10 + d) [] | none => none) = _
      rw [digit_val h]
      show some (0 * 10 + u) = some u
      rw [Nat.zero_mul, Nat.zero_add]
    · rw [decDigits, dif_neg h]
      rw [dec_snoc _ _ 0 (u / 10) (u % 10) (ih (u / 10) (by omega)) (digit_val (by omega))]
      congr 1; omega
theorem digits_are (u : Nat) : ∀ b ∈ decDigits u, 48 ≤ b.toNat ∧ b.toNat ≤ 57 := by
  induction u using Nat.strongRecOn with
  | _ u ih =>
    intro b hb
    have one : ∀ d, d < 10 → (UInt8.ofNat (48 + d)).toNat = 48 + d := fun d h => by rw [UInt8.toNat_ofNat']; omega
    rw [decDigits] at hb
    split at hb
    · rename_i h
      rw [List.mem_singleton] at hb
      rw [hb, one u h]; omega
    · rcases List.mem_append.1 hb with q | q
      · exact ih (u / 10) (by omega) b q
      · rw [List.mem_singleton] at q
        rw [q, one _ (by omega)]; omega
theorem digits_ne (u : Nat) : ∃ b r, decDigits u = b :: r := by
  rw [decDigits]
  split
  · exact ⟨_, _, rfl⟩
  · cases h : decDigits (u / 10) with
    | nil => exact ⟨_, [], rfl⟩
    | cons b r => exact ⟨b, _, rfl⟩
theorem itoa_nat (u : Nat) : itoa (u : Int) = decDigits u := itoa_nonneg u
theorem atoi_itoa (u : Nat) : atoi (itoa (u : Int)) = some (u : Int) := by
  rw [itoa_nat]
  have q := dec_digits u
  have a := digits_are u
  obtain ⟨b, r, e⟩ := digits_ne u
  rw [e] at q a ⊢
  have hb := a b List.mem_cons_self
  have n45 : (b == 45) = false := by
    rw [beq_eq_false_iff_ne]; intro h; subst h; exact absurd hb.1 (by decide)
  have n43 : (b == 43) = false := by
    rw [beq_eq_false_iff_ne]; intro h; subst h; exact absurd hb.1 (by decide)
  show (if b == 45 then _ else if b == 43 then _ else (decNat (b :: r)).map fun (m : Nat) => (m : Int)) = _
  rw [n45, n43, if_neg (by decide), if_neg (by decide)]
  unfold decNat
  rw [List.isEmpty_cons, if_neg (by decide), q]
  rfl
theorem itoa_len {u k : Nat} (h : u < 10 ^ k) (hk : 1 ≤ k) : (itoa (u : Int)).length ≤ k := by
  rw [itoa_nat, decDigits_length]
  have key : ∀ k u : Nat, 1 ≤ k → u < 10 ^ k → nDigits u ≤ k := by
    intro k
    induction k with
    | zero => intro u h; omega
    | succ k ih =>
      intro u _ hu
      by_cases h : u < 10
      · rw [nDigits_small h]; omega
      · rw [nDigits_big h]
        rcases Nat.eq_zero_or_pos k with e | e
        · subst e; rw [Nat.pow_succ] at hu; omega
        · have := ih (u / 10) e (by rw [Nat.pow_succ] at hu; omega)
          omega
  exact key k u hk h
/-- What the program's number reads: a number of at most six digits as it is printed. -/
def numB (l : List UInt8) : Option Int :=
  match atoi l with
  | some n => if 0 ≤ n ∧ l.length ≤ 6 ∧ itoa n = l then some n else none
  | none => none
theorem numB_itoa {u : Nat} (h : u < 1000000) : numB (itoa (u : Int)) = some (u : Int) := by
  unfold numB
  rw [atoi_itoa]
  show (if _ then _ else _) = _
  rw [if_pos ⟨by omega, itoa_len (k := 6) (by omega) (by decide), rfl⟩]
theorem numB_some {l : List UInt8} {n : Int} (h : numB l = some n) : 0 ≤ n ∧ l.length ≤ 6 ∧ itoa n = l := by
  unfold numB at h
  cases q : atoi l with
  | none => rw [q] at h; cases h
  | some m =>
    rw [q] at h
    have h : (if 0 ≤ m ∧ l.length ≤ 6 ∧ itoa m = l then some m else none) = some n := h
    split at h
    · rename_i g
      injection h with h
      subst h; exact g
    · cases h
end NumT
end Go.Proofs.YtddlacjjanincaaDoor
