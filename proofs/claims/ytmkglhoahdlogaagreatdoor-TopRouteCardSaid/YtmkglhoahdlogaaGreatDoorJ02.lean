/- Joined texts: RowS, NumP, Num, PlaneP, Frame. -/
import Derived.Test.YtmkglhoahdlogaaGreatDoorJ01
import Derived.WalkKit
import Derived.Test.YtmkglhoahdlogaaGreatDoorProg
import Derived.WalkSpells
import Derived.WalkLawsBesides
import Derived.Lib.Hide
import Derived.Deep.QuietTactic
import Derived.BigQuiet
import Derived.Test.YtmkglhoahdlogaaGreatDoorRows
import Derived.ProofKit
import Derived.OpenShut
namespace Go.Proofs.YtmkglhoahdlogaaGreatDoor
open Go.RowKit
namespace Kit
theorem own_made {w : World} {base : Nat} {E : TypeId} {C n : Nat} {f : Nat → Nat → Int} (cs : Array Value) (hb : base ≤ w.heap.size) (hn : n ≤ maxLen) (h : cs.toList = rowL C f n) : Own (w.alloc (.cells cs E)) base E C (.slice (some ⟨w.heap.size, 0, none⟩) n n) n f := by
  have hs : cs.size = n * C := by rw [← Array.length_toList, h, rowL_len]
  exact ⟨rowL_len C f n, Or.inr ⟨w.heap.size, n, cs, rfl, hb, heap_alloc_new w _, Nat.le_refl _, hn, hs, by rw [h]; exact List.take_of_length_le (by rw [rowL_len]; exact Nat.le_refl _)⟩⟩
theorem own_congr {w : World} {base : Nat} {E : TypeId} {C n : Nat} {v : Value} {f f' : Nat → Nat → Int} (h : Own w base E C v n f) (e : ∀ i, i < n → ∀ j, j < C → f i j = f' i j) : Own w base E C v n f' := by
  show w.ownsRow base E C v n (rowL C f' n)
  rw [← rowL_congr e]; exact h
theorem rowL_upd {C : Nat} {f : Nat → Nat → Int} {n i j : Nat} (hi : i < n) (hj : j < C) (x : Int) : rowL C (upd f i j x) n = (rowL C f n).set (i * C + j) (.int .i64 x) := by
  have hlt : i * C + j < n * C := by
    have := Nat.mul_le_mul_right C (show i + 1 ≤ n by omega); rw [Nat.succ_mul] at this; omega
  refine List.ext_getElem? fun k => ?_
  rcases Nat.lt_or_ge k (n * C) with hk | hk
  · have hC : 0 < C := by omega
    have h1 : k / C < n := Nat.div_lt_of_lt_mul (by rw [Nat.mul_comm]; exact hk)
    have h2 : k % C < C := Nat.mod_lt _ hC
    have hk' : k / C * C + k % C = k := by rw [Nat.mul_comm]; exact Nat.div_add_mod k C
    have g1 := rowL_get (f := upd f i j x) h1 h2
    have g2 := rowL_get (f := f) h1 h2
    rw [hk'] at g1 g2
    rw [g1, List.getElem?_set]
    by_cases e : i * C + j = k
    · rw [if_pos e, if_pos (by rw [rowL_len]; exact hlt)]
      have q1 : k / C = i := by rw [← e, Nat.mul_comm, Nat.mul_add_div hC, Nat.div_eq_of_lt hj]; rfl
      have q2 : k % C = j := by rw [← e, Nat.mul_comm, Nat.mul_add_mod, Nat.mod_eq_of_lt hj]
      rw [q1, q2]; unfold upd; rw [if_pos ⟨rfl, rfl⟩]
    · rw [if_neg e, g2]
      unfold upd
      rw [if_neg]
      rintro ⟨q1, q2⟩
      rw [q1, q2] at hk'
      exact e hk'
  · rw [List.getElem?_eq_none (by rw [rowL_len]; exact hk), List.getElem?_eq_none (by rw [List.length_set, rowL_len]; exact hk)]
/-- A number turned in an own row. -/
theorem own_set {w : World} {base g cap : Nat} {E : TypeId} {C n : Nat} {f : Nat → Nat → Int} (h : Own w base E C (.slice (some ⟨g, 0, none⟩) n cap) n f) {i j : Nat} (hi : i < n) (hj : j < C) (x : Int) : Own (w.setCell ⟨g, i * C + j, none⟩ (.int .i64 x)) base E C (.slice (some ⟨g, 0, none⟩) n cap) n (upd f i j x) := by
  have hlt : i * C + j < n * C := by
    have := Nat.mul_le_mul_right C (show i + 1 ≤ n by omega); rw [Nat.succ_mul] at this; omega
  refine ⟨rowL_len C _ n, ?_⟩
  rcases h.2 with ⟨e, -⟩ | ⟨g', cap', cur, e, hb, hg, h1, h2, h3, h4⟩
  · cases e
  · injection e with e1 e2 e3
    injection e1 with e1
    injection e1 with e1 _
    subst e1 e3
    refine Or.inr ⟨g, cap, cur.setIfInBounds (i * C + j) (.int .i64 x), rfl, hb, ?_, h1, h2, by simpa using h3, ?_⟩
    · simp [World.setCell, Array.getElem?_modify, hg]
    · rw [Array.toList_setIfInBounds, List.take_set, h4, rowL_upd hi hj]
end Kit
end Go.Proofs.YtmkglhoahdlogaaGreatDoor
namespace Go.Proofs.YtmkglhoahdlogaaGreatDoor
open Go.RowKit
namespace Num
/-- The quotient, rounded down. -/
def fd (a b : Int) : Int := if 0 < b then a / b else (-a) / (-b)
theorem fd_pos {a b : Int} (h : 0 < b) : fd a b = a / b := if_pos h
theorem fd_neg {a b : Int} (h : b < 0) : fd a b = (-a) / (-b) := if_neg (by omega)
theorem ediv_unique {a b q : Int} (hb : 0 < b) (h1 : b * q ≤ a) (h2 : a < b * q + b) : a / b = q := by
  have e1 : q ≤ a / b := (Int.le_ediv_iff_mul_le hb).2 (by rw [Int.mul_comm]; exact h1)
  have e2 : a / b < q + 1 := (Int.ediv_lt_iff_lt_mul hb).2 (by rw [Int.add_mul, Int.one_mul, Int.mul_comm]; exact h2)
  omega
theorem fd_spec_pos {a b : Int} (h : 0 < b) : b * fd a b ≤ a ∧ a < b * fd a b + b := by
  rw [fd_pos h]
  have h1 := Int.mul_ediv_add_emod a b
  have h2 := Int.emod_nonneg a (by omega : b ≠ 0)
  have h3 := Int.emod_lt_of_pos a h
  generalize b * (a / b) = t at *
  omega
theorem fd_spec_neg {a b : Int} (h : b < 0) : a ≤ b * fd a b ∧ b * fd a b + b < a := by
  rw [fd_neg h]
  have h1 := Int.mul_ediv_add_emod (-a) (-b)
  have h2 := Int.emod_nonneg (-a) (by omega : -b ≠ 0)
  have h3 := Int.emod_lt_of_pos (-a) (by omega : 0 < -b)
  have e : b * (-a / -b) = -(-b * (-a / -b)) := by rw [Int.neg_mul]; omega
  rw [e]
  generalize -b * (-a / -b) = t at *
  omega
theorem fd_eq_pos {a b q : Int} (hb : 0 < b) (h1 : b * q ≤ a) (h2 : a < b * q + b) : fd a b = q := by
  rw [fd_pos hb]; exact ediv_unique hb h1 h2
theorem fd_eq_neg {a b q : Int} (hb : b < 0) (h1 : a ≤ b * q) (h2 : b * q + b < a) : fd a b = q := by
  rw [fd_neg hb]
  refine ediv_unique (by omega) ?_ ?_
  · rw [Int.neg_mul]; omega
  · rw [Int.neg_mul]; omega
/-- Truncated division, in facts that omega reads. -/
theorem tdiv_facts (a b : Int) (_hb : b ≠ 0) : b * a.tdiv b + a.tmod b = a ∧ (0 ≤ a → 0 ≤ a.tmod b) ∧ (a ≤ 0 → a.tmod b ≤ 0) ∧ (0 < b → a.tmod b < b ∧ -b < a.tmod b) ∧ (b < 0 → a.tmod b < -b ∧ b < a.tmod b) := by
  refine ⟨Int.mul_tdiv_add_tmod a b, fun h => Int.tmod_nonneg _ h, fun h => ?_, fun h => ?_, fun h => ?_⟩
  · have h1 := Int.tmod_nonneg b (show 0 ≤ -a by omega)
    rw [Int.neg_tmod] at h1
    omega
  · exact ⟨Int.tmod_lt_of_pos a h, by
      have := Int.tmod_lt_of_pos (-a) h
      rw [Int.neg_tmod] at this
      omega⟩
  · have h0 : 0 < -b := by omega
    have e : ∀ x : Int, x.tmod b = x.tmod (-b) := fun x => by rw [Int.tmod_neg]
    rw [e]
    exact ⟨Int.tmod_lt_of_pos a h0, by
      have := Int.tmod_lt_of_pos (-a) h0
      rw [Int.neg_tmod] at this
      omega⟩
/-- The quotient of the code, before its correction, is in range. -/
theorem tdiv_bd {a b : Int} (ha : -9223372036854775808 ≤ a ∧ a ≤ 9223372036854775807) (hb : b ≠ 0) (hx : ¬ (a = -9223372036854775808 ∧ b = -1)) :
    -9223372036854775808 ≤ a.tdiv b ∧ a.tdiv b ≤ 9223372036854775807 := by
  have h1 : (a.tdiv b).natAbs ≤ a.natAbs := by rw [Int.natAbs_tdiv]; exact Nat.div_le_self _ _
  refine ⟨by omega, ?_⟩
  by_cases h2 : a.tdiv b = 9223372036854775808
  · exfalso
    have h3 : a = -9223372036854775808 := by omega
    subst h3
    have h4 : b.natAbs = 1 := by
      have h5 := Int.natAbs_tdiv (-9223372036854775808) b
      rw [h2] at h5
      have h6 : (9223372036854775808 : Nat) = 9223372036854775808 / b.natAbs := h5
      by_cases h7 : b.natAbs = 0
      · omega
      · by_cases h8 : b.natAbs = 1
        · exact h8
        · have : 9223372036854775808 / b.natAbs < 9223372036854775808 := Nat.div_lt_self (by omega) (by omega)
          omega
    have h5 : b = 1 ∨ b = -1 := by omega
    rcases h5 with rfl | rfl
    · rw [Int.tdiv_one] at h2; omega
    · exact hx ⟨rfl, rfl⟩
  · omega
/-- DivDown's quotient and error. -/
def dd (a b : Int) : Int := if b = 0 then 0 else if a = -9223372036854775808 ∧ b = -1 then 0 else fd a b
def dde (a b : Int) : Int := if b = 0 then 10 else if a = -9223372036854775808 ∧ b = -1 then 2 else 0
theorem dd_ok {a b : Int} (h0 : b ≠ 0) (h1 : ¬ (a = -9223372036854775808 ∧ b = -1)) : dd a b = fd a b ∧ dde a b = 0 := by
  unfold dd dde; rw [if_neg h0, if_neg h1, if_neg h0, if_neg h1]; exact ⟨rfl, rfl⟩
theorem dd_zero {a b : Int} (h0 : b = 0) : dd a b = 0 ∧ dde a b = 10 := by
  unfold dd dde; rw [if_pos h0, if_pos h0]; exact ⟨rfl, rfl⟩
theorem dd_min {a b : Int} (h0 : a = -9223372036854775808) (h1 : b = -1) : dd a b = 0 ∧ dde a b = 2 := by
  unfold dd dde; rw [if_neg (by omega), if_pos ⟨h0, h1⟩, if_neg (by omega), if_pos ⟨h0, h1⟩]; exact ⟨rfl, rfl⟩
/-- No correction: the remainder is 0, or both signs are the same. -/
theorem fd_of_tdiv {a b : Int} (hb : b ≠ 0) (h : a.tmod b = 0 ∨ (a < 0 ↔ b < 0)) : fd a b = a.tdiv b := by
  obtain ⟨h1, h2, h3, h4, h5⟩ := tdiv_facts a b hb
  rcases Int.lt_or_gt_of_ne hb with hn | hp
  · refine fd_eq_neg hn ?_ ?_ <;> (generalize b * a.tdiv b = t at *; generalize a.tmod b = r at *; omega)
  · refine fd_eq_pos hp ?_ ?_ <;> (generalize b * a.tdiv b = t at *; generalize a.tmod b = r at *; omega)
theorem fd_of_tdiv_sub {a b : Int} (hb : b ≠ 0) (h : a.tmod b ≠ 0) (hs : ¬ (a < 0 ↔ b < 0)) : fd a b = a.tdiv b - 1 := by
  obtain ⟨h1, h2, h3, h4, h5⟩ := tdiv_facts a b hb
  rcases Int.lt_or_gt_of_ne hb with hn | hp
  · refine fd_eq_neg hn ?_ ?_ <;> (rw [Int.mul_sub, Int.mul_one]; generalize b * a.tdiv b = t at *; generalize a.tmod b = r at *; omega)
  · refine fd_eq_pos hp ?_ ?_ <;> (rw [Int.mul_sub, Int.mul_one]; generalize b * a.tdiv b = t at *; generalize a.tmod b = r at *; omega)
theorem fd_bd {a b : Int} (ha : -9223372036854775808 ≤ a ∧ a ≤ 9223372036854775807) (hb : b ≠ 0) (hx : ¬ (a = -9223372036854775808 ∧ b = -1)) :
    -9223372036854775808 ≤ fd a b ∧ fd a b ≤ 9223372036854775807 := by
  have h0 := tdiv_bd ha hb hx
  by_cases h : a.tmod b = 0 ∨ (a < 0 ↔ b < 0)
  · rw [fd_of_tdiv hb h]; exact h0
  · rw [fd_of_tdiv_sub hb (fun e => h (Or.inl e)) (fun e => h (Or.inr e))]
    have h1 : a.tdiv b ≠ -9223372036854775808 := by
      intro e
      have h2 := Int.natAbs_tdiv a b
      rw [e] at h2
      have h3 : (9223372036854775808 : Nat) = a.natAbs / b.natAbs := h2
      have h4 : a.natAbs / b.natAbs ≤ a.natAbs := Nat.div_le_self _ _
      have h5 : a = -9223372036854775808 := by omega
      subst h5
      have h6 : b.natAbs = 1 := by
        by_cases h7 : b.natAbs = 0
        · omega
        · by_cases h8 : b.natAbs = 1
          · exact h8
          · have h3' : (9223372036854775808 : Nat) = 9223372036854775808 / b.natAbs := h3
            have : 9223372036854775808 / b.natAbs < 9223372036854775808 := Nat.div_lt_self (by omega) (by omega)
            omega
      have h7 : b = 1 ∨ b = -1 := by omega
      rcases h7 with rfl | rfl
      · exact h (Or.inl (by rw [Int.tmod_one]))
      · exact hx ⟨rfl, rfl⟩
    omega
theorem dd_bd {a b : Int} (ha : -9223372036854775808 ≤ a ∧ a ≤ 9223372036854775807) : -9223372036854775808 ≤ dd a b ∧ dd a b ≤ 9223372036854775807 := by
  by_cases h0 : b = 0
  · rw [(dd_zero h0).1]; omega
  · by_cases h1 : a = -9223372036854775808 ∧ b = -1
    · rw [(dd_min h1.1 h1.2).1]; omega
    · rw [(dd_ok h0 h1).1]; exact fd_bd ha h0 h1
/-- DivUp's quotient. -/
def du (a b : Int) : Int := if b = 0 then 0 else if a = -9223372036854775808 ∧ b = -1 then 0 else if a.tmod b = 0 then fd a b else fd a b + 1
theorem du_ok {a b : Int} (h0 : b ≠ 0) (h1 : ¬ (a = -9223372036854775808 ∧ b = -1)) : du a b = if a.tmod b = 0 then fd a b else fd a b + 1 := by
  unfold du; rw [if_neg h0, if_neg h1]
theorem du_bad {a b : Int} (h : dde a b ≠ 0) : du a b = 0 := by
  unfold du dde at *
  split
  · rfl
  · rename_i h0
    rw [if_neg h0] at h
    split
    · rfl
    · rename_i h1; rw [if_neg h1] at h; exact absurd rfl h
theorem dde_cases (a b : Int) : dde a b = 0 ∧ b ≠ 0 ∧ ¬ (a = -9223372036854775808 ∧ b = -1) ∨ dde a b ≠ 0 ∧ (b = 0 ∨ a = -9223372036854775808 ∧ b = -1) := by
  unfold dde
  by_cases h0 : b = 0
  · rw [if_pos h0]; exact Or.inr ⟨by omega, Or.inl h0⟩
  · rw [if_neg h0]
    by_cases h1 : a = -9223372036854775808 ∧ b = -1
    · rw [if_pos h1]; exact Or.inr ⟨by omega, Or.inr h1⟩
    · rw [if_neg h1]; exact Or.inl ⟨rfl, h0, h1⟩
/-- Where there is a remainder, the quotient is not the greatest int. -/
theorem fd_lt_max {a b : Int} (ha : -9223372036854775808 ≤ a ∧ a ≤ 9223372036854775807) (hb : b ≠ 0) (h : a.tmod b ≠ 0) : fd a b < 9223372036854775807 := by
  have h0 := tdiv_bd ha hb (fun e => h (by rw [e.2, Int.tmod_neg, Int.tmod_one]))
  by_cases hs : a < 0 ↔ b < 0
  · rw [fd_of_tdiv hb (Or.inr hs)]
    have h1 : a.tdiv b ≠ 9223372036854775807 := by
      intro e
      have h2 := Int.natAbs_tdiv a b
      rw [e] at h2
      have h3 : (9223372036854775807 : Nat) = a.natAbs / b.natAbs := h2
      have h6 : b.natAbs = 1 := by
        by_cases h7 : b.natAbs = 0
        · omega
        · by_cases h8 : b.natAbs = 1
          · exact h8
          · have h9 : a.natAbs / b.natAbs ≤ a.natAbs / 2 := Nat.div_le_div_left (by omega) (by omega)
            omega
      have h7 : b = 1 ∨ b = -1 := by omega
      rcases h7 with rfl | rfl
      · exact h (by rw [Int.tmod_one])
      · exact h (by rw [Int.tmod_neg, Int.tmod_one])
    omega
  · rw [fd_of_tdiv_sub hb h hs]; omega
theorem du_bd {a b : Int} (ha : -9223372036854775808 ≤ a ∧ a ≤ 9223372036854775807) : -9223372036854775808 ≤ du a b ∧ du a b ≤ 9223372036854775807 := by
  rcases dde_cases a b with ⟨_, h0, h1⟩ | ⟨h, _⟩
  · rw [du_ok h0 h1]
    have h2 := fd_bd ha h0 h1
    by_cases h3 : a.tmod b = 0
    · rw [if_pos h3]; exact h2
    · rw [if_neg h3]
      have := fd_lt_max ha h0 h3
      omega
  · rw [du_bad h]; omega
/- The ways through DivDown. -/
section
variable {a b : Int} (ha : -9223372036854775808 ≤ a ∧ a ≤ 9223372036854775807) (h0 : b ≠ 0) (h1 : ¬ (a = -9223372036854775808 ∧ b = -1))
include ha h0 h1
theorem way_exact (h : a.tmod b = 0) : wrap64 (a.tdiv b) = dd a b ∧ 0 = dde a b := by
  have := tdiv_bd ha h0 h1
  rw [IntWalk.wrap64_in _ (by omega), (dd_ok h0 h1).1, (dd_ok h0 h1).2, fd_of_tdiv h0 (Or.inl h)]; exact ⟨rfl, rfl⟩
theorem way_less (h : ¬ a.tmod b = 0) (hs : (!decide (a < 0) == decide (b < 0)) = true) : wrap64 (wrap64 (a.tdiv b) - 1) = dd a b ∧ 0 = dde a b := by
  have := tdiv_bd ha h0 h1
  have h2 := fd_bd ha h0 h1
  have e : fd a b = a.tdiv b - 1 := fd_of_tdiv_sub h0 h (by
    intro e
    by_cases hn : a < 0 <;> simp [hn, e.symm] at hs)
  rw [IntWalk.wrap64_in (a.tdiv b) (by omega), IntWalk.wrap64_in _ (by omega), (dd_ok h0 h1).1, (dd_ok h0 h1).2, e]; exact ⟨rfl, rfl⟩
theorem way_same (_h : ¬ a.tmod b = 0) (hs : (a.tmod b != 0) = false ∨ (!decide (a < 0) == decide (b < 0)) = false) : wrap64 (a.tdiv b) = dd a b ∧ 0 = dde a b := by
  have := tdiv_bd ha h0 h1
  have e : fd a b = a.tdiv b := fd_of_tdiv h0 (by
    rcases hs with hs | hs
    · exact Or.inl (by simpa using hs)
    · right
      by_cases hn : a < 0 <;> by_cases hm : b < 0 <;> simp [hn, hm] at hs ⊢)
  rw [IntWalk.wrap64_in (a.tdiv b) (by omega), (dd_ok h0 h1).1, (dd_ok h0 h1).2, e]; exact ⟨rfl, rfl⟩
end
section
variable {b : Int} (h0 : b ≠ 0) (h1 : b ≠ -1)
include h0 h1
theorem min_exact (h : 9223372036854775808 % b = 0) : wrap64 (-Int.tdiv 9223372036854775808 b) = dd (-9223372036854775808) b ∧ 0 = dde (-9223372036854775808) b := by
  rw [← Int.neg_tdiv]
  exact way_exact (by omega) h0 (fun e => h1 e.2) (by rw [Int.neg_tmod, Int.tmod_eq_emod_of_nonneg (by omega), h]; rfl)
theorem min_less (h : ¬ 9223372036854775808 % b = 0) (hs : (!decide (b < 0)) = true) : wrap64 (wrap64 (-Int.tdiv 9223372036854775808 b) - 1) = dd (-9223372036854775808) b ∧ 0 = dde (-9223372036854775808) b := by
  rw [← Int.neg_tdiv]
  exact way_less (by omega) h0 (fun e => h1 e.2) (by rw [Int.neg_tmod, Int.tmod_eq_emod_of_nonneg (by omega)]; omega) (by by_cases hm : b < 0 <;> simp [hm] at hs ⊢)
theorem min_same (h : ¬ 9223372036854775808 % b = 0) (hs : (-(9223372036854775808 % b) != 0) = false ∨ (!decide (b < 0)) = false) : wrap64 (-Int.tdiv 9223372036854775808 b) = dd (-9223372036854775808) b ∧ 0 = dde (-9223372036854775808) b := by
  rw [← Int.neg_tdiv]
  refine way_same (by omega) h0 (fun e => h1 e.2) (by rw [Int.neg_tmod, Int.tmod_eq_emod_of_nonneg (by omega)]; omega) ?_
  right
  rcases hs with hs | hs
  · exfalso; exact h (by simpa using hs)
  · by_cases hm : b < 0 <;> simp [hm] at hs ⊢
end
/-- Between. -/
def btw (n low high : Int) : Int := if n < low ∨ high < low then low else if high < n then high else n
end Num
end Go.Proofs.YtmkglhoahdlogaaGreatDoor
namespace Go.Proofs.YtmkglhoahdlogaaGreatDoor
open Go.RowKit
namespace Num
theorem ret2 {a b c d : Int} (h1 : a = c) (h2 : b = d) : Ending.returned (.tuple #[.int .i64 a, .int .i64 b]) = .returned (.tuple #[.int .i64 c, .int .i64 d]) := by rw [h1, h2]
theorem ret1 {k : IntKind} {a c : Int} (h1 : a = c) : Ending.returned (.int k a) = .returned (.int k c) := by rw [h1]
set_option maxHeartbeats 400000 in
theorem divDown (a b : Int) (w : World) (ha : -9223372036854775808 ≤ a ∧ a ≤ 9223372036854775807) (hb : -9223372036854775808 ≤ b ∧ b ≤ 9223372036854775807) :
    Calls Tryz.prog 66 #[.int .i64 a, .int .i64 b] w fun e w' => e = .returned (.tuple #[.int .i64 (dd a b), .int .i64 (dde a b)]) ∧ w = w' := by
  by_cases h0 : b = 0
  · have h1 := dd_zero (a := a) h0
    have H := Lib.hid h1; clear h1
    subst h0
    go_enter Tryz.func66, Tryz.ntmps66
    go_wp2
    go_ret2
    exact ⟨ret2 H.out.1.symm H.out.2.symm, rfl⟩
  · by_cases h1 : a = -9223372036854775808 ∧ b = -1
    · have h2 := dd_min h1.1 h1.2
      have H := Lib.hid h2; clear h2
      obtain ⟨rfl, rfl⟩ := h1
      go_enter Tryz.func66, Tryz.ntmps66
      go_wp2
      go_ret2
      exact ⟨ret2 H.out.1.symm H.out.2.symm, rfl⟩
    · by_cases h2 : a = -9223372036854775808
      · have h3 : b ≠ -1 := fun e => h1 ⟨h2, e⟩
        subst h2
        have hb1 : (b == -1) = false := by rw [beq_eq_false_iff_ne]; exact h3
        clear h1
        go_enter Tryz.func66, Tryz.ntmps66
        go_wp2
        all_goals go_ret2
        · have q := min_exact h0 h3 (by assumption); exact ⟨ret2 q.1 q.2, rfl⟩
        · have q := min_less h0 h3 (by assumption) (And.right (by assumption)); exact ⟨ret2 q.1 q.2, rfl⟩
        · have q := min_same h0 h3 (by assumption) (by assumption); exact ⟨ret2 q.1 q.2, rfl⟩
      · have hb1 : (a == -9223372036854775808) = false := by rw [beq_eq_false_iff_ne]; exact h2
        have H1 := Lib.hid h1
        clear h1 h2
        go_enter Tryz.func66, Tryz.ntmps66
        go_wp2
        all_goals go_ret2
        · have q := way_exact ha h0 H1.out (by assumption); exact ⟨ret2 q.1 q.2, rfl⟩
        · have q := way_less ha h0 H1.out (by assumption) (And.right (by assumption)); exact ⟨ret2 q.1 q.2, rfl⟩
        · have q := way_same ha h0 H1.out (by assumption) (by assumption); exact ⟨ret2 q.1 q.2, rfl⟩
set_option maxHeartbeats 400000 in
theorem divUp (a b : Int) (w : World) (ha : -9223372036854775808 ≤ a ∧ a ≤ 9223372036854775807) (hb : -9223372036854775808 ≤ b ∧ b ≤ 9223372036854775807) :
    Calls Tryz.prog 57 #[.int .i64 a, .int .i64 b] w fun e w' => e = .returned (.tuple #[.int .i64 (du a b), .int .i64 (dde a b)]) ∧ w = w' := by
  have hq := dd_bd (b := b) ha
  rcases dde_cases a b with ⟨hE, h0, h1⟩ | ⟨hE, h1⟩
  · have hu := du_ok h0 h1
    have hdd := (dd_ok h0 h1).1
    have H1 := Lib.hid h1; have H2 := Lib.hid hu; have H3 := Lib.hid hdd
    have hEb : (dde a b == 0) = true := by rw [beq_iff_eq]; exact hE
    have H4 := Lib.hid hE
    clear h1 hu hE hdd
    by_cases hm : a.tmod b = 0
    · have hmb : (a.tmod b != 0) = false := by simpa using hm
      have H5 := Lib.hid hm; clear hm
      go_enter Tryz.func57, Tryz.ntmps57
      go_wp2_with (go_at_call 66; refine (divDown a b _ ha hb).mono ?_; rintro e w' ⟨rfl, rfl⟩)
      go_ret2
      exact ⟨ret2 (by rw [H2.out, if_pos H5.out, H3.out]) rfl, rfl⟩
    · have hmb : (a.tmod b != 0) = true := by simpa using hm
      have hlt := fd_lt_max ha h0 hm
      rw [← H3.out] at hlt
      have H5 := Lib.hid hm; clear hm
      go_enter Tryz.func57, Tryz.ntmps57
      go_wp2_with (go_at_call 66; refine (divDown a b _ ha hb).mono ?_; rintro e w' ⟨rfl, rfl⟩)
      go_ret2
      exact ⟨ret2 (by rw [H2.out, if_neg H5.out, H3.out]) rfl, rfl⟩
  · have hu := du_bad hE
    have hdd : dd a b = 0 := by
      rcases h1 with h | h
      · exact (dd_zero h).1
      · exact (dd_min h.1 h.2).1
    have hEb : (dde a b == 0) = false := by rw [beq_eq_false_iff_ne]; exact hE
    have H1 := Lib.hid h1; have H2 := Lib.hid hu; have H3 := Lib.hid hdd; have H4 := Lib.hid hE
    clear h1 hu hE hdd
    go_enter Tryz.func57, Tryz.ntmps57
    go_wp2_with (go_at_call 66; refine (divDown a b _ ha hb).mono ?_; rintro e w' ⟨rfl, rfl⟩)
    go_ret2
    exact ⟨ret2 (by rw [H2.out, H3.out]) rfl, rfl⟩
theorem u64_small {n : Int} (h : 0 ≤ n) (h1 : n ≤ 9223372036854775807) : n = (n.natAbs : Int) := by omega
theorem u64_neg {n : Int} (h : n < 0) (h1 : -9223372036854775808 ≤ n) : IntKind.u64.wrap (-IntKind.u64.wrap n) = (n.natAbs : Int) := by
  rw [IntKind.wrap_u64, IntKind.wrap_u64]; omega
theorem gcd_step (a b : Nat) (_h : b ≠ 0) : Nat.gcd b (a % b) = Nat.gcd a b := by
  rw [Nat.gcd_comm b, ← Nat.gcd_rec, Nat.gcd_comm]
end Num
end Go.Proofs.YtmkglhoahdlogaaGreatDoor
namespace Go.Proofs.YtmkglhoahdlogaaGreatDoor
open Go.RowKit
namespace Plane
theorem sq_nonneg (x : Int) : 0 ≤ x * x := by
  rcases Int.le_total 0 x with h | h
  · exact Int.mul_nonneg h h
  · have := Int.mul_nonneg (show 0 ≤ -x by omega) (show 0 ≤ -x by omega); rwa [Int.neg_mul_neg] at this
theorem mul_bd {x y M N : Int} (h : -M ≤ x ∧ x ≤ M) (k : -N ≤ y ∧ y ≤ N) : -(M * N) ≤ x * y ∧ x * y ≤ M * N := by
  have h1 : 0 ≤ (M - x) * (N + y) := Int.mul_nonneg (by omega) (by omega)
  have h2 : 0 ≤ (M + x) * (N - y) := Int.mul_nonneg (by omega) (by omega)
  have h3 : 0 ≤ (M - x) * (N - y) := Int.mul_nonneg (by omega) (by omega)
  have h4 : 0 ≤ (M + x) * (N + y) := Int.mul_nonneg (by omega) (by omega)
  have e1 : (M - x) * (N + y) = M * N + M * y - x * N - x * y := by grind
  have e2 : (M + x) * (N - y) = M * N - M * y + x * N - x * y := by grind
  have e3 : (M - x) * (N - y) = M * N - M * y - x * N + x * y := by grind
  have e4 : (M + x) * (N + y) = M * N + M * y + x * N + x * y := by grind
  rw [e1] at h1; rw [e2] at h2; rw [e3] at h3; rw [e4] at h4
  generalize M * N = a at *; generalize M * y = b at *; generalize x * N = c at *; generalize x * y = d at *
  omega
theorem sq_le_of {x M : Int} (h : -M ≤ x ∧ x ≤ M) : x * x ≤ M * M := (mul_bd h h).2
theorem sq_mono {x y : Int} (h0 : 0 ≤ x) (h : x ≤ y) : x * x ≤ y * y := Int.mul_le_mul h h h0 (by omega)
theorem le_of_sq {x y : Int} (h0 : 0 ≤ y) (h : x * x ≤ y * y) : x ≤ y := by
  rcases Int.lt_or_le y x with hlt | hge
  · exfalso
    have h1 : (y + 1) * (y + 1) ≤ x * x := sq_mono (by omega) (by omega)
    have h2 : (y + 1) * (y + 1) = y * y + 2 * y + 1 := by grind
    generalize y * y = a at *; generalize x * x = b at *; omega
  · exact hge
theorem lt_of_sq {x y : Int} (h0 : 0 ≤ y) (h : x * x < y * y) : x < y := by
  rcases Int.lt_or_le x y with hlt | hge
  · exact hlt
  · have := sq_mono h0 hge; generalize y * y = a at *; generalize x * x = b at *; omega
/-- The integer root. -/
def isq : Nat → Nat
  | 0 => 0
  | n + 1 => if (isq n + 1) * (isq n + 1) ≤ n + 1 then isq n + 1 else isq n
theorem isq_spec (n : Nat) : isq n * isq n ≤ n ∧ n < (isq n + 1) * (isq n + 1) := by
  induction n with
  | zero => exact ⟨Nat.le_refl 0, Nat.zero_lt_one⟩
  | succ n ih =>
    obtain ⟨h1, h2⟩ := ih
    unfold isq
    split
    · rename_i h
      refine ⟨h, ?_⟩
      have e : (isq n + 1 + 1) * (isq n + 1 + 1) = (isq n + 1) * (isq n + 1) + 2 * (isq n + 1) + 1 := by grind
      rw [e]; generalize (isq n + 1) * (isq n + 1) = t at *; omega
    · rename_i h
      refine ⟨by omega, by omega⟩
def root (n : Int) : Int := (isq n.toNat : Nat)
theorem root_spec {n : Int} (h : 0 ≤ n) : 0 ≤ root n ∧ root n * root n ≤ n ∧ n < (root n + 1) * (root n + 1) := by
  obtain ⟨h1, h2⟩ := isq_spec n.toNat
  unfold root
  refine ⟨by omega, ?_, ?_⟩
  · have : ((isq n.toNat * isq n.toNat : Nat) : Int) ≤ n := by omega
    simpa using this
  · have : n < (((isq n.toNat + 1) * (isq n.toNat + 1) : Nat) : Int) := by omega
    simpa using this
theorem root_unique {n r : Int} (h0 : 0 ≤ r) (h1 : r * r ≤ n) (h2 : n < (r + 1) * (r + 1)) : root n = r := by
  have hn : 0 ≤ n := by have := sq_nonneg r; omega
  obtain ⟨g0, g1, g2⟩ := root_spec hn
  have a1 : r < root n + 1 := lt_of_sq (by omega) (by generalize r * r = a at *; generalize (root n + 1) * (root n + 1) = b at *; omega)
  have a2 : root n < r + 1 := lt_of_sq (by omega) (by generalize root n * root n = a at *; generalize (r + 1) * (r + 1) = b at *; omega)
  omega
theorem root_le {n : Int} (h : n ≤ 9223372036854775807) : root n ≤ 3037000499 := by
  rcases Int.lt_or_le n 0 with hn | hn
  · have : root n = 0 := by unfold root; rw [Int.toNat_of_nonpos (by omega)]; rfl
    omega
  · obtain ⟨g0, g1, _⟩ := root_spec hn
    have : root n < 3037000500 := lt_of_sq (by omega) (by generalize root n * root n = a at *; omega)
    omega
theorem root_nonneg (n : Int) : 0 ≤ root n := by unfold root; omega
/-- The squared distance. -/
def sqr (ax ay bx by' : Int) : Int := (ax - bx) * (ax - bx) + (ay - by') * (ay - by')
theorem sqr_nonneg (ax ay bx by' : Int) : 0 ≤ sqr ax ay bx by' := by
  have := sq_nonneg (ax - bx); have := sq_nonneg (ay - by'); unfold sqr; omega
theorem sqr_wrap {ax ay bx by' M : Int} (hM : M = 1000000000) (h : (-M ≤ ax ∧ ax ≤ M) ∧ (-M ≤ ay ∧ ay ≤ M) ∧ (-M ≤ bx ∧ bx ≤ M) ∧ (-M ≤ by' ∧ by' ≤ M)) :
    wrap64 (wrap64 (wrap64 (ax - bx) * wrap64 (ax - bx)) + wrap64 (wrap64 (ay - by') * wrap64 (ay - by'))) = sqr ax ay bx by' ∧ sqr ax ay bx by' ≤ 8000000000000000000 := by
  subst hM
  have b1 := sq_le_of (x := ax - bx) (M := 2000000000) (by omega)
  have b2 := sq_le_of (x := ay - by') (M := 2000000000) (by omega)
  have c1 := sq_nonneg (ax - bx); have c2 := sq_nonneg (ay - by')
  rw [IntWalk.wrap64_in (ax - bx) (by omega), IntWalk.wrap64_in (ay - by') (by omega)]
  unfold sqr
  generalize (ax - bx) * (ax - bx) = p at *; generalize (ay - by') * (ay - by') = q at *
  rw [IntWalk.wrap64_in p (by omega), IntWalk.wrap64_in q (by omega), IntWalk.wrap64_in (p + q) (by omega)]
  exact ⟨rfl, by omega⟩
/-- Distance, rounded down and up. -/
def dlow (n : Int) : Int := root n
def dup (n : Int) : Int := if root n * root n < n then root n + 1 else root n
theorem dup_spec {n : Int} (h : 0 ≤ n) : 0 ≤ dup n ∧ n ≤ dup n * dup n ∧ (0 < n → (dup n - 1) * (dup n - 1) < n) := by
  obtain ⟨g0, g1, g2⟩ := root_spec h
  unfold dup
  by_cases hlt : root n * root n < n
  · rw [if_pos hlt]
    refine ⟨by omega, by omega, fun _ => ?_⟩
    rw [show root n + 1 - 1 = root n from by omega]; exact hlt
  · rw [if_neg hlt]
    refine ⟨g0, by omega, fun hp => ?_⟩
    have e : (root n - 1) * (root n - 1) = root n * root n - 2 * root n + 1 := by grind
    have hr : root n ≠ 0 := by intro hz; rw [hz] at hlt; omega
    rw [e]; generalize root n * root n = t at *; omega
theorem dup_le {n : Int} (h0 : 0 ≤ n) (h : n ≤ 8000000000000) : dup n ≤ 2828428 ∧ root n ≤ 2828428 := by
  obtain ⟨_, _, h3⟩ := dup_spec h0
  obtain ⟨_, g, _⟩ := root_spec h0
  have e1 : root n < 2828428 := lt_of_sq (by omega) (by generalize root n * root n = t at *; omega)
  have e2 : dup n - 1 < 2828428 := by
    by_cases hp : 0 < n
    · exact lt_of_sq (by omega) (by have := h3 hp; generalize (dup n - 1) * (dup n - 1) = t at *; omega)
    · have : n = 0 := by omega
      subst this
      unfold dup; split <;> omega
  omega
theorem dup_near (n : Int) : root n ≤ dup n ∧ dup n ≤ root n + 1 := by
  unfold dup; split <;> omega
/-- A point is permitted. -/
abbrev good (x y : Int) : Prop := -1000000 ≤ x ∧ x ≤ 1000000 ∧ -1000000 ≤ y ∧ y ≤ 1000000
theorem sqr_near {ax ay bx by' : Int} (ha : good ax ay) (hb : good bx by') : sqr ax ay bx by' ≤ 8000000000000 := by
  have b1 := sq_le_of (x := ax - bx) (M := 2000000) (by omega)
  have b2 := sq_le_of (x := ay - by') (M := 2000000) (by omega)
  unfold sqr; omega
/-- Check's error. -/
def chk (x y : Int) : Int := if x < -1000000 ∨ 1000000 < x ∨ y < -1000000 ∨ 1000000 < y then 4 else 0
theorem chk_ok {x y : Int} (h : good x y) : chk x y = 0 := by unfold good at h; unfold chk; rw [if_neg (by omega)]
theorem chk_bad {x y : Int} (h : ¬ good x y) : chk x y = 4 := by unfold good at h; unfold chk; rw [if_pos (by omega)]
/-- The cross product of b - a and c - a. -/
def crs (ax ay bx by' cx cy : Int) : Int := (bx - ax) * (cy - ay) - (by' - ay) * (cx - ax)
def sgn (n : Int) : Int := if 0 < n then 1 else if n < 0 then -1 else 0
/-- The cross product of b - a and c - a, as the machine has it. -/
def crsw (ax ay bx by' cx cy : Int) : Int := wrap64 (wrap64 (wrap64 (bx - ax) * wrap64 (cy - ay)) - wrap64 (wrap64 (by' - ay) * wrap64 (cx - ax)))
theorem crsw_eq {ax ay bx by' cx cy M : Int} (hM : M = 1000000000) (h : (-M ≤ ax ∧ ax ≤ M) ∧ (-M ≤ ay ∧ ay ≤ M) ∧ (-M ≤ bx ∧ bx ≤ M) ∧ (-M ≤ by' ∧ by' ≤ M) ∧ (-M ≤ cx ∧ cx ≤ M) ∧ (-M ≤ cy ∧ cy ≤ M)) :
    crsw ax ay bx by' cx cy = crs ax ay bx by' cx cy := by
  subst hM
  have b1 := mul_bd (x := bx - ax) (y := cy - ay) (M := 2000000000) (N := 2000000000) (by omega) (by omega)
  have b2 := mul_bd (x := by' - ay) (y := cx - ax) (M := 2000000000) (N := 2000000000) (by omega) (by omega)
  unfold crsw crs
  rw [IntWalk.wrap64_in (bx - ax) (by omega), IntWalk.wrap64_in (cy - ay) (by omega), IntWalk.wrap64_in (by' - ay) (by omega), IntWalk.wrap64_in (cx - ax) (by omega)]
  generalize (bx - ax) * (cy - ay) = p at *; generalize (by' - ay) * (cx - ax) = q at *
  rw [IntWalk.wrap64_in p (by omega), IntWalk.wrap64_in q (by omega), IntWalk.wrap64_in (p - q) (by omega)]
theorem sgn_pos {n : Int} (h : 0 < n) : sgn n = 1 := if_pos h
theorem sgn_neg {n : Int} (h : n < 0) : sgn n = -1 := by unfold sgn; rw [if_neg (by omega), if_pos h]
theorem sgn_zero {n : Int} (h : n = 0) : sgn n = 0 := by unfold sgn; rw [if_neg (by omega), if_neg (by omega)]
theorem sgn_opp (n : Int) : sgn (-n) = -sgn n := by
  rcases Int.lt_trichotomy n 0 with h | h | h
  · rw [sgn_neg h, sgn_pos (show 0 < -n by omega)]; rfl
  · subst h; rfl
  · rw [sgn_pos h, sgn_neg (show -n < 0 by omega)]
theorem sgn_bd (n : Int) : -1 ≤ sgn n ∧ sgn n ≤ 1 := by unfold sgn; split <;> (try split) <;> omega
/-- Within. -/
def inB (s d : Int) : Bool := decide (0 ≤ d ∧ d ≤ 8000000 ∧ s ≤ d * d)
/-- Good. -/
def goodB (x y : Int) : Bool := decide (-1000000 ≤ x ∧ x ≤ 1000000 ∧ -1000000 ≤ y ∧ y ≤ 1000000)
theorem goodB_iff {x y : Int} : goodB x y = true ↔ good x y := by unfold goodB good; rw [decide_eq_true_eq]
/-- Toward's error, where both points are given. -/
def twe (ax ay bx by' n d : Int) : Int := if d ≤ 0 then 10 else if 200000 < d ∨ n < 0 ∨ d < n ∨ ¬ good ax ay ∨ ¬ good bx by' then 4 else 0
/-- Toward's point, where there is no error. -/
def tw (a b n d : Int) : Int := a + (b - a) * n / d
theorem twe_ok {ax ay bx by' n d : Int} (h0 : 0 < d) (h1 : d ≤ 200000) (h2 : 0 ≤ n) (h3 : n ≤ d) (ga : good ax ay) (gb : good bx by') : twe ax ay bx by' n d = 0 := by
  unfold twe
  rw [if_neg (by omega), if_neg]
  intro h
  rcases h with h | h | h | h | h
  · omega
  · omega
  · omega
  · exact h ga
  · exact h gb
/-- The triangle's law on squares. -/
theorem tri_sq {px py qx qy u v : Int} (hu : 0 ≤ u) (hv : 0 ≤ v) (h1 : px * px + py * py ≤ u * u) (h2 : qx * qx + qy * qy ≤ v * v) : (px + qx) * (px + qx) + (py + qy) * (py + qy) ≤ (u + v) * (u + v) := by
  have hid : (px * qx + py * qy) * (px * qx + py * qy) + (px * qy - py * qx) * (px * qy - py * qx) = (px * px + py * py) * (qx * qx + qy * qy) := by grind
  have hs := sq_nonneg (px * qy - py * qx)
  have hp0 : 0 ≤ px * px + py * py := by have := sq_nonneg px; have := sq_nonneg py; omega
  have hq0 : 0 ≤ qx * qx + qy * qy := by have := sq_nonneg qx; have := sq_nonneg qy; omega
  have hm : (px * px + py * py) * (qx * qx + qy * qy) ≤ (u * u) * (v * v) := Int.mul_le_mul h1 h2 hq0 (sq_nonneg u)
  have he : (u * u) * (v * v) = (u * v) * (u * v) := by grind
  have hc : px * qx + py * qy ≤ u * v := by
    refine le_of_sq (Int.mul_nonneg hu hv) ?_
    generalize (px * qx + py * qy) * (px * qx + py * qy) = a at *
    generalize (px * qy - py * qx) * (px * qy - py * qx) = b at *
    omega
  have e1 : (px + qx) * (px + qx) + (py + qy) * (py + qy) = (px * px + py * py) + (qx * qx + qy * qy) + 2 * (px * qx + py * qy) := by grind
  have e2 : (u + v) * (u + v) = u * u + v * v + 2 * (u * v) := by grind
  rw [e1, e2]
  generalize px * px + py * py = a at *; generalize qx * qx + qy * qy = b at *; generalize px * qx + py * qy = c at *
  omega
/-- Two distances make a third one. -/
theorem triangle {px py qx qy u v x : Int} (hu : 0 ≤ u) (hv : 0 ≤ v) (h1 : px * px + py * py ≤ u * u) (h2 : qx * qx + qy * qy ≤ v * v) (hx : x * x ≤ (px + qx) * (px + qx) + (py + qy) * (py + qy)) : x ≤ u + v :=
  le_of_sq (by omega) (Int.le_trans hx (tri_sq hu hv h1 h2))
theorem tw_zero {a b d : Int} : tw a b 0 d = a := by unfold tw; rw [Int.mul_zero, Int.zero_ediv, Int.add_zero]
theorem tw_all {a b d : Int} (h : d ≠ 0) : tw a b d d = b := by unfold tw; rw [Int.mul_ediv_cancel _ h]; omega
/-- The point on the way lies between the ends. -/
theorem tw_bd {a b n d : Int} (hd : 0 < d) (hn : 0 ≤ n) (hnd : n ≤ d) : (a ≤ tw a b n d ∨ b ≤ tw a b n d) ∧ (tw a b n d ≤ a ∨ tw a b n d ≤ b) := by
  unfold tw
  rcases Int.le_total a b with h | h
  · have h1 : 0 ≤ (b - a) * n / d := Int.ediv_nonneg (Int.mul_nonneg (by omega) hn) (by omega)
    have h2 : (b - a) * n / d ≤ b - a := by
      have e := Int.mul_le_mul_of_nonneg_left hnd (show 0 ≤ b - a by omega)
      have := Int.ediv_le_ediv hd e
      rw [Int.mul_ediv_cancel _ (by omega)] at this; exact this
    omega
  · have h1 : (b - a) * n / d ≤ 0 := by
      have e : (b - a) * n ≤ 0 := by
        have := Int.mul_nonneg (show 0 ≤ a - b by omega) hn
        have e2 : (b - a) * n = -((a - b) * n) := by grind
        omega
      have := Int.ediv_le_ediv hd e
      rw [Int.zero_ediv] at this; exact this
    have h2 : b - a ≤ (b - a) * n / d := by
      have e : (b - a) * d ≤ (b - a) * n := by
        have := Int.mul_le_mul_of_nonneg_left hnd (show 0 ≤ a - b by omega)
        have e2 : (b - a) * n = -((a - b) * n) := by grind
        have e3 : (b - a) * d = -((a - b) * d) := by grind
        omega
      have := Int.ediv_le_ediv hd e
      rw [Int.mul_ediv_cancel _ (by omega)] at this; exact this
    omega
theorem way_end {W P E n d : Int} (hd : 0 < d) (hnd : n ≤ d) (q1 : d * E ≤ W * n) (q2 : W * n < d * E + d) (k1 : d * P ≤ n * (W + 1) + 2 * d) (k2 : n * W ≤ d * (P + 1) + 2 * d) : E - 4 ≤ P ∧ P ≤ E + 4 := by
  have e1 : n * (W + 1) = W * n + n := by grind
  have e2 : d * (P + 1) = d * P + d := by grind
  have e3 : n * W = W * n := Int.mul_comm _ _
  rw [e1] at k1; rw [e2, e3] at k2
  constructor
  · rcases Int.lt_or_le P (E - 4) with h | h
    · exfalso
      have := Int.mul_le_mul_of_nonneg_left (show P + 5 ≤ E by omega) (show 0 ≤ d by omega)
      have e : d * (P + 5) = d * P + 5 * d := by grind
      omega
    · exact h
  · rcases Int.lt_or_le (E + 4) P with h | h
    · exfalso
      have := Int.mul_le_mul_of_nonneg_left (show E + 5 ≤ P by omega) (show 0 ≤ d by omega)
      have e : d * (E + 5) = d * E + 5 * d := by grind
      omega
    · exact h
/-- The point on the way, its distance from the start, and the exact part. -/
theorem way {vx vy qx qy rx ry n d W P s : Int} (hd : 0 < d) (hn : 0 ≤ n) (_hnd : n ≤ d) (hW : 0 ≤ W) (hP : 0 ≤ P) (hs : s = vx * vx + vy * vy) (w1 : W * W ≤ s) (w2 : s < (W + 1) * (W + 1))
    (p1 : P * P ≤ qx * qx + qy * qy) (p2 : qx * qx + qy * qy < (P + 1) * (P + 1)) (ex : d * qx + rx = n * vx) (ey : d * qy + ry = n * vy) (rx0 : 0 ≤ rx) (rx1 : rx < d) (ry0 : 0 ≤ ry) (ry1 : ry < d) :
    d * P ≤ n * (W + 1) + 2 * d ∧ n * W ≤ d * (P + 1) + 2 * d := by
  have hr : rx * rx + ry * ry ≤ (2 * d) * (2 * d) := by
    have a := sq_mono rx0 (show rx ≤ d by omega)
    have b := sq_mono ry0 (show ry ≤ d by omega)
    have e : (2 * d) * (2 * d) = 4 * (d * d) := by grind
    have c := sq_nonneg d
    rw [e]; generalize d * d = t at *; omega
  constructor
  · refine triangle (px := n * vx) (py := n * vy) (qx := -rx) (qy := -ry) (Int.mul_nonneg hn (by omega)) (by omega) ?_ (by rw [Int.neg_mul_neg, Int.neg_mul_neg]; exact hr) ?_
    · have e1 : (n * vx) * (n * vx) + (n * vy) * (n * vy) = (n * n) * (vx * vx + vy * vy) := by grind
      have e2 : (n * (W + 1)) * (n * (W + 1)) = (n * n) * ((W + 1) * (W + 1)) := by grind
      rw [e1, e2, ← hs]
      exact Int.mul_le_mul_of_nonneg_left (by omega) (sq_nonneg n)
    · have e1 : n * vx + -rx = d * qx := by omega
      have e2 : n * vy + -ry = d * qy := by omega
      rw [e1, e2]
      have e3 : (d * qx) * (d * qx) + (d * qy) * (d * qy) = (d * d) * (qx * qx + qy * qy) := by grind
      have e4 : (d * P) * (d * P) = (d * d) * (P * P) := by grind
      rw [e3, e4]
      exact Int.mul_le_mul_of_nonneg_left p1 (sq_nonneg d)
  · refine triangle (px := d * qx) (py := d * qy) (qx := rx) (qy := ry) (Int.mul_nonneg (by omega) (by omega)) (by omega) ?_ hr ?_
    · have e1 : (d * qx) * (d * qx) + (d * qy) * (d * qy) = (d * d) * (qx * qx + qy * qy) := by grind
      have e2 : (d * (P + 1)) * (d * (P + 1)) = (d * d) * ((P + 1) * (P + 1)) := by grind
      rw [e1, e2]
      exact Int.mul_le_mul_of_nonneg_left (by omega) (sq_nonneg d)
    · rw [ex, ey]
      have e1 : (n * vx) * (n * vx) + (n * vy) * (n * vy) = (n * n) * (vx * vx + vy * vy) := by grind
      have e2 : (n * W) * (n * W) = (n * n) * (W * W) := by grind
      rw [e1, e2, ← hs]
      exact Int.mul_le_mul_of_nonneg_left w1 (sq_nonneg n)
end Plane
end Go.Proofs.YtmkglhoahdlogaaGreatDoor
namespace Go.Proofs.YtmkglhoahdlogaaGreatDoor
open Go.ChangeShapes Go.WideShapes Go.ChangeAt Go.RowKit

theorem Tryz.own : ownKnob Tryz.prog.godebug = none := by kernel_rfl
theorem Tryz.laidOut : laidOutB Tryz.prog = true := by kernel_rfl

namespace Frame
section
variable {H : Type} {enc : TypeId × Value → H} {P : Program}

theorem trodAll_below (hl : laidOutB P = true) {W W' : World} (hb : Below W.heap.size W W') :
    ∀ {ts : List TypeId} {vs : List Value} {ds : List (DataW H)} {ps : List MemPlace}, (ts.all fun t => P.readableRec t && decide (t < P.types.size)) = true →
      DataW.TrodAll enc P W 0 (fun _ => true) true ts vs ds ps → (∀ x ∈ ps, x.block < W.heap.size) →
      DataW.TrodAll enc P W' 0 (fun b => decide (b < W.heap.size)) true ts vs ds ps
  | [], _, _, _, _, h, _ => by
    obtain ⟨rfl, rfl, rfl⟩ := trodAll_nil h
    exact trodAll_mk0
  | t :: ts, _, _, _, hr, h, hlt => by
    obtain ⟨v, vs, d, ds, a, b, rfl, rfl, rfl, h1, h2⟩ := trodAll_cons h
    simp only [List.all_cons, Bool.and_eq_true, decide_eq_true_eq] at hr
    exact trodAll_cons_mk (Below.trod hl hr.1.1 hr.1.2 h1 hb (fun x hx => hlt x (List.mem_append_left _ hx)))
      (trodAll_below hl hb hr.2 h2 (fun x hx => hlt x (List.mem_append_right _ hx)))

/-- The lifted contract of a law: from its walk. -/
theorem lifted {C : Checked} {os : Os} {s : ChangeSpec} (f : FuncId) (fn : Func)
    (own : ownKnob C.prog.godebug = none) (started : os.Started) (noInit : C.prog.inits.idxOf? f = none) (hfn : C.prog.funcs[f]? = some fn)
    (hl : laidOutB C.prog = true) (hvars : s.vars = [])
    (hparams : (fn.params.toList.all fun t => C.prog.readableRec t && decide (t < C.prog.types.size)) = true)
    (tb : TypeId) (hres : fn.resultTypes = #[tb]) (hb : C.prog.underlying tb = some .bool)
    (hspec : ∀ ds : List (DataW H), ds.length = fn.params.size → s.fn H (ds ++ []) = { results := [.lit (.bool true)], args := ds })
    (witness : ∃ (w : World) (tape : Tape) (i : Input), w.os = os ∧ (w.forCall tape i).Shaped C.prog ∧ i.vars = [] ∧ Input.okWide C.prog (w.forCall tape i) .any w.heap.size f i ∧
      s.pre6 enc C.prog fn [] false (w.forCall tape i).memory i.args ∧ ({} : Assume).holds C.prog (lone (Frame.enter C.prog f i.args .normal) [] (w.forCall tape i)))
    (walk : ∀ (W : World) (base : Nat) (args : Array Value) (ds : List (DataW H)) (ps : List MemPlace),
      (∀ (j : Nat) t v, fn.params[j]? = some t → args[j]? = some v → Value.okWide C.prog W .any base t v) →
      DataW.TrodAll enc C.prog W 0 (fun _ => true) true fn.params.toList args.toList ds ps → (∀ x ∈ ps, x.block < W.heap.size) →
      Calls C.prog f args W fun e W' => e = .returned (.bool true) ∧ Below W.heap.size W W') :
    ReturnsInHanded {} C os f .any (s.pre6 enc C.prog fn [] false) (s.post enc C.prog fn false true false false) := by
  refine returnsInHanded_of_change own started noInit hfn witness ?_
  intro W base args ds gs before hval hW _ _
  have hWk := hW
  obtain ⟨p, q, hA, hV, rfl, _, _⟩ := hW
  rw [hvars] at hV
  obtain ⟨rfl, rfl⟩ := trodVars_none hV
  have hlt : ∀ x ∈ p ++ [], x.block < W.heap.size := fun x hx => hWk.lt x hx
  have hlen : ds.length = fn.params.size := by
    have h : ∀ {ts : List TypeId} {vs : List Value} {ds : List (DataW H)} {ps : List MemPlace}, DataW.TrodAll enc C.prog W 0 (fun _ => true) true ts vs ds ps → ds.length = ts.length := by
      intro ts
      induction ts with
      | nil => intro vs ds ps h; obtain ⟨_, rfl, _⟩ := trodAll_nil h; rfl
      | cons t ts ih => intro vs ds ps h; obtain ⟨_, _, _, _, _, _, _, rfl, _, _, h2⟩ := trodAll_cons h; simp [ih h2]
    simpa using h hA
  refine (walk W base args ds p hval hA (fun x hx => hlt x (by simpa using hx))).mono fun e W' ⟨he, hbl⟩ => ?_
  subst he
  have hp : p ++ [] = p := List.append_nil p
  refine ⟨_, rfl, ds, [], p ++ [], [], p, [], hWk, ?_, ?_, ?_, World.keptBut_mono (fun x hx => ⟨hx, Or.inr (Or.inl (by rw [← hp]; exact hx))⟩) (hbl.frame (· ∈ p ++ [])), fun h => by cases h⟩
  · rw [hspec ds hlen, hres]
    exact trodAll_cons_mk (shut_bool hb _) trodAll_mk0
  · rw [hspec ds hlen]
    exact trodAll_below hl hbl hparams hA (fun x hx => hlt x (by rw [hp]; exact hx))
  · rw [hspec ds hlen, hvars]
    exact rfl

/-- A cell of an integer type. -/
theorem cell_int {W : World} {base : Nat} {t : TypeId} {v : Value} {k : IntKind} (ht : P.underlying t = some (.int k)) (h : Cell.okWide P W .any base t v) : ∃ n : Int, v = .int k n ∧ (Lit.int k n).wf = true := by
  unfold Cell.okWide Cell.ok at h
  rw [ht] at h
  cases v <;> simp_all [Lit.wf, IntKind.has]

/-- An integer argument. -/
theorem arg_int {W : World} {base : Nat} {t : TypeId} {v : Value} {k : IntKind} (ht : P.underlying t = some (.int k)) (h : Value.okWide P W .any base t v) : ∃ n : Int, v = .int k n ∧ (Lit.int k n).wf = true := by
  unfold Value.okWide at h
  rw [ht] at h
  exact cell_int ht h

/-- A struct or array argument all of whose cells are int. -/
theorem arg_flat {W : World} {base : Nat} {t : TypeId} {v : Value} {ts : List TypeId} (fs : Array Field) (hs : P.underlying t = some (.struct fs)) (hts : P.cellTypes P.depth t = some ts) (hn : P.cellsOf t = ts.length)
    (hall : ∀ u ∈ ts, P.underlying u = some (.int .i64)) (h : Value.okWide P W .any base t v) :
    ∃ ns : List Int, v = .agg (ns.map (Value.int .i64)).toArray ∧ ns.length = ts.length ∧ ∀ n ∈ ns, (Lit.int .i64 n).wf = true := by
  unfold Value.okWide at h
  rw [hs] at h
  obtain ⟨cs, rfl, hsz, ts', hts', _, hc⟩ := h
  rw [hts] at hts'
  obtain rfl := Option.some.inj hts'
  obtain ⟨l⟩ := cs
  simp only [List.size_toArray] at hsz
  have hl : l.length = ts.length := by omega
  have hcell : ∀ i (hi : i < l.length), ∃ n : Int, l[i] = .int .i64 n ∧ (Lit.int .i64 n).wf = true := by
    intro i hi
    obtain ⟨u, hu, hok⟩ := hc i l[i] (by simp [hi])
    exact cell_int (hall u (List.mem_of_getElem? hu)) hok
  refine ⟨l.map fun v => match v with | .int _ n => n | _ => 0, ?_, by simpa using hl, ?_⟩
  · congr 1
    apply Array.ext
    · simp
    · intro i h1 h2
      obtain ⟨n, hn', _⟩ := hcell i (by simpa using h1)
      simp [hn']
  · intro n hn'
    obtain ⟨v, hv, rfl⟩ := List.mem_map.1 hn'
    obtain ⟨i, hi, rfl⟩ := List.mem_iff_getElem.1 hv
    obtain ⟨m, hm, hw⟩ := hcell i hi
    rw [hm]; exact hw

/-- A cell of a string type. -/
theorem cell_str {W : World} {base : Nat} {t : TypeId} {v : Value} (ht : P.underlying t = some .string) (h : Cell.okWide P W .any base t v) : ∃ s : ByteArray, v = .string s := by
  unfold Cell.okWide Cell.ok at h
  rw [ht] at h
  cases v <;> simp_all
/-- A struct argument: a string, then integers. -/
theorem arg_named {W : World} {base : Nat} {t : TypeId} {v : Value} {u0 : TypeId} {ts : List TypeId} (fs : Array Field) (hs : P.underlying t = some (.struct fs)) (hts : P.cellTypes P.depth t = some (u0 :: ts)) (hn : P.cellsOf t = (u0 :: ts).length)
    (h0 : P.underlying u0 = some .string) (hall : ∀ u ∈ ts, P.underlying u = some (.int .i64)) (h : Value.okWide P W .any base t v) :
    ∃ (s : ByteArray) (ns : List Int), v = .agg (.string s :: ns.map (Value.int .i64)).toArray ∧ ns.length = ts.length ∧ ∀ n ∈ ns, (Lit.int .i64 n).wf = true := by
  unfold Value.okWide at h
  rw [hs] at h
  obtain ⟨cs, rfl, hsz, ts', hts', _, hc⟩ := h
  rw [hts] at hts'
  obtain rfl := Option.some.inj hts'
  obtain ⟨l⟩ := cs
  simp only [List.size_toArray] at hsz
  match l, hsz, hc with
  | [], hsz, _ => rw [hn] at hsz; simp at hsz
  | c0 :: l, hsz, hc =>
    have hl : l.length = ts.length := by rw [hn] at hsz; simpa using hsz
    obtain ⟨u, hu, hok⟩ := hc 0 c0 (by simp)
    obtain rfl : u0 = u := by simpa using hu
    obtain ⟨s, rfl⟩ := cell_str h0 hok
    have hcell : ∀ i (hi : i < l.length), ∃ n : Int, l[i] = .int .i64 n ∧ (Lit.int .i64 n).wf = true := by
      intro i hi
      obtain ⟨u, hu, hok⟩ := hc (i + 1) l[i] (by simp [hi])
      have hmod : (i + 1) % (ts.length + 1) = i + 1 := Nat.mod_eq_of_lt (by omega)
      have hu' : ts[i]? = some u := by simpa [hmod] using hu
      exact cell_int (hall u (List.mem_of_getElem? hu')) hok
    refine ⟨s, l.map fun v => match v with | .int _ n => n | _ => 0, ?_, by simpa using hl, ?_⟩
    · congr 1
      apply Array.ext
      · simp
      · intro i h1 h2
        rcases i with _ | i
        · simp
        · obtain ⟨n, hn', _⟩ := hcell i (by simpa using h1)
          simp [hn']
    · intro n hn'
      obtain ⟨v, hv, rfl⟩ := List.mem_map.1 hn'
      obtain ⟨i, hi, rfl⟩ := List.mem_iff_getElem.1 hv
      obtain ⟨m, hm, hw⟩ := hcell i hi
      rw [hm]; exact hw

theorem list2 {α : Type} {l : List α} {ts : List TypeId} {u : TypeId} (h : l.length = (u :: ts).length) (ht : ts.length = 1 := by rfl) : ∃ a0 a1, l = [a0, a1] := by
  match l, h.trans (by simp [ht] : _ = 2) with
  | [a0, a1], _ => exact ⟨a0, a1, rfl⟩
theorem list3 {α : Type} {l : List α} {ts : List TypeId} {u : TypeId} (h : l.length = (u :: ts).length) (ht : ts.length = 2 := by rfl) : ∃ a0 a1 a2, l = [a0, a1, a2] := by
  match l, h.trans (by simp [ht] : _ = 3) with
  | [a0, a1, a2], _ => exact ⟨a0, a1, a2, rfl⟩
theorem list4 {α : Type} {l : List α} {ts : List TypeId} {u : TypeId} (h : l.length = (u :: ts).length) (ht : ts.length = 3 := by rfl) : ∃ a0 a1 a2 a3, l = [a0, a1, a2, a3] := by
  match l, h.trans (by simp [ht] : _ = 4) with
  | [a0, a1, a2, a3], _ => exact ⟨a0, a1, a2, a3, rfl⟩
theorem list5 {α : Type} {l : List α} {ts : List TypeId} {u : TypeId} (h : l.length = (u :: ts).length) (ht : ts.length = 4 := by rfl) : ∃ a0 a1 a2 a3 a4, l = [a0, a1, a2, a3, a4] := by
  match l, h.trans (by simp [ht] : _ = 5) with
  | [a0, a1, a2, a3, a4], _ => exact ⟨a0, a1, a2, a3, a4, rfl⟩
theorem list6 {α : Type} {l : List α} {ts : List TypeId} {u : TypeId} (h : l.length = (u :: ts).length) (ht : ts.length = 5 := by rfl) : ∃ a0 a1 a2 a3 a4 a5, l = [a0, a1, a2, a3, a4, a5] := by
  match l, h.trans (by simp [ht] : _ = 6) with
  | [a0, a1, a2, a3, a4, a5], _ => exact ⟨a0, a1, a2, a3, a4, a5, rfl⟩
theorem list7 {α : Type} {l : List α} {ts : List TypeId} {u : TypeId} (h : l.length = (u :: ts).length) (ht : ts.length = 6 := by rfl) : ∃ a0 a1 a2 a3 a4 a5 a6, l = [a0, a1, a2, a3, a4, a5, a6] := by
  match l, h.trans (by simp [ht] : _ = 7) with
  | [a0, a1, a2, a3, a4, a5, a6], _ => exact ⟨a0, a1, a2, a3, a4, a5, a6, rfl⟩
theorem list8 {α : Type} {l : List α} {ts : List TypeId} {u : TypeId} (h : l.length = (u :: ts).length) (ht : ts.length = 7 := by rfl) : ∃ a0 a1 a2 a3 a4 a5 a6 a7, l = [a0, a1, a2, a3, a4, a5, a6, a7] := by
  match l, h.trans (by simp [ht] : _ = 8) with
  | [a0, a1, a2, a3, a4, a5, a6, a7], _ => exact ⟨a0, a1, a2, a3, a4, a5, a6, a7, rfl⟩
theorem bd {n : Int} (h : (Lit.int .i64 n).wf = true) : -9223372036854775808 ≤ n ∧ n ≤ 9223372036854775807 := by
  simp only [Lit.wf, Bool.and_eq_true, decide_eq_true_eq] at h
  simpa [IntKind.min, IntKind.max, IntKind.signed, IntKind.bits] using h
theorem below_drewN {B : Nat} {a w : World} (h : Below B a w) (n : Nat) : Below B a (w.drewN n) := ⟨h.os, h.tape, h.output, h.size, h.block⟩
end
end Frame
end Go.Proofs.YtmkglhoahdlogaaGreatDoor
