/- route.Expand as a function: its errors and its names. Plain. -/
import Derived.Test.YteaccanhahmclaaExpA
import Derived.Test.YteaccanhahmclaaExpB
namespace Go.Proofs.Yteaccanhahmclaa
open Go.RowKit
namespace Route
open Kit Chart
section
variable (n : Nat) (N : Nat → ByteArray) (X Y : Nat → Int) (m : Nat) (M : Nat → ByteArray) (l : Nat → Nat) (S : Nat → Nat → ByteArray) (q : Nat) (I : Nat → ByteArray)
/-- What is wrong with item i alone. -/
def ierr (i : Nat) : Int := if fix N (I i) n < 0 ∧ (i = 0 ∨ i + 1 = q ∨ aw m M (I i) = false) then 6 else 0
/-- Two airways, one behind the other. -/
def cser (i : Nat) : Int := if 0 < i ∧ aw m M (I i) = true ∧ aw m M (I (i - 1)) = true then 3 else 0
/-- The airway of item i, and where the items beside it lie on it. -/
def ak (i : Nat) : Nat := (fix M (I i) m).toNat
def ia (i : Nat) : Int := fix (S (ak m M I i)) (I (i - 1)) (l (ak m M I i))
def ib (i : Nat) : Int := fix (S (ak m M I i)) (I (i + 1)) (l (ak m M I i))
def serr (i : Nat) : Int := if 0 < i ∧ aw m M (I i) = true ∧ (ia m M l S I i < 0 ∨ ib m M l S I i < 0) then 6 else 0
/-- What item i adds. -/
def seg (i : Nat) : List ByteArray :=
  if aw m M (I i) = true then (List.range (max (ia m M l S I i).toNat (ib m M l S I i).toNat - min (ia m M l S I i).toNat (ib m M l S I i).toNat)).map fun t => way (S (ak m M I i)) (ia m M l S I i).toNat (ib m M l S I i).toNat (t + 1)
  else if aw m M (I (i - 1)) = false then [I i] else []
/-- The names when k items behind the first one are done. -/
def nms : Nat → List ByteArray
  | 0 => [I 0]
  | k + 1 => nms k ++ seg m M l S I (k + 1)
/-- A name of a list. -/
abbrev nth (T : List ByteArray) (j : Nat) : ByteArray := T.getD j ⟨#[]⟩
/-- Two fixes at one place. -/
def zer (T : List ByteArray) (j : Nat) : Int := if 0 < j ∧ X (pos n N (nth T j)) = X (pos n N (nth T (j - 1))) ∧ Y (pos n N (nth T j)) = Y (pos n N (nth T (j - 1))) then 10 else 0
/-- route.Expand's error, the plan and the chart being right. -/
def expE : Int :=
  if ferr (ierr n N m M q I) q ≠ 0 then 6 else if ferr (cser m M I) q ≠ 0 then 3 else if ferr (serr m M l S I) q ≠ 0 then 6 else
  if ferr (zer n N X Y (nms m M l S I (q - 1))) (nms m M l S I (q - 1)).length ≠ 0 then 10 else if 62 < (nms m M l S I (q - 1)).length then 2 else 0
variable {n N X Y m M l S q I}
theorem ierr_ok {i : Nat} (h : ierr n N m M q I i = 0) : fix N (I i) n < 0 → i ≠ 0 ∧ i + 1 ≠ q ∧ aw m M (I i) = true := by
  unfold ierr at h
  intro hf
  split at h
  · cases h
  · rename_i hn
    refine ⟨fun e => hn ⟨hf, Or.inl e⟩, fun e => hn ⟨hf, Or.inr (Or.inl e)⟩, ?_⟩
    cases e : aw m M (I i) with
    | true => rfl
    | false => exact absurd ⟨hf, Or.inr (Or.inr e)⟩ hn
theorem aw_some {s : ByteArray} (h : aw m M s = true) : (fix M s m).toNat < m ∧ M (fix M s m).toNat = s ∧ fix M s m = ((fix M s m).toNat : Int) := by
  have h0 : 0 ≤ fix M s m := of_decide_eq_true h
  exact fix_some (N := M) (s := s) (n := m) (by omega)
/-- An airway's name is no fix's. -/
theorem aw_nofix (hE : cerr n N X Y m M l S = 0) {s : ByteArray} (h : aw m M s = true) : fix N s n < 0 := by
  obtain ⟨h1, h2, h3⟩ := aw_some h
  have := (aerr_len ((cerr_ok hE).2.2.2 _ h1)).2.1
  rw [h2] at this; exact this
theorem seg_len (hE : cerr n N X Y m M l S = 0) (i : Nat) : (seg m M l S I i).length ≤ 24 := by
  unfold seg
  by_cases h : aw m M (I i) = true
  · rw [if_pos h, List.length_map, List.length_range]
    obtain ⟨h1, -, -⟩ := aw_some h
    have hl := (aerr_len ((cerr_ok hE).2.2.2 _ h1)).2.2.2.2.1
    have a := fnd_bd (fun k => decide (S (ak m M I i) k = I (i - 1))) (l (ak m M I i))
    have b := fnd_bd (fun k => decide (S (ak m M I i) k = I (i + 1))) (l (ak m M I i))
    change -1 ≤ ia m M l S I i ∧ ia m M l S I i < _ at a
    change -1 ≤ ib m M l S I i ∧ ib m M l S I i < _ at b
    have e : l (ak m M I i) ≤ 24 := hl
    omega
  · rw [if_neg h]
    split <;> simp
theorem nms_len (hE : cerr n N X Y m M l S = 0) : ∀ k, 1 ≤ (nms m M l S I k).length ∧ (nms m M l S I k).length ≤ 1 + 24 * k
  | 0 => ⟨Nat.le_refl _, Nat.le_refl _⟩
  | k + 1 => by
    have h := nms_len hE k
    have g := seg_len (I := I) hE (k + 1)
    show 1 ≤ (nms m M l S I k ++ seg m M l S I (k + 1)).length ∧ (nms m M l S I k ++ seg m M l S I (k + 1)).length ≤ _
    rw [List.length_append]
    omega
/-- All names of the chart's. -/
def Fnd (n : Nat) (N : Nat → ByteArray) (T : List ByteArray) : Prop := ∀ s ∈ T, ¬ fix N s n < 0
theorem seg_fnd (hE : cerr n N X Y m M l S = 0) {i : Nat} (hi : ierr n N m M q I i = 0) (hs : serr m M l S I i = 0) (h0 : 0 < i) : Fnd n N (seg m M l S I i) := by
  unfold seg
  by_cases h : aw m M (I i) = true
  · rw [if_pos h]
    intro s hs'
    obtain ⟨t, ht, rfl⟩ := List.mem_map.1 hs'
    rw [List.mem_range] at ht
    obtain ⟨h1, -, -⟩ := aw_some h
    have ha := (aerr_len ((cerr_ok hE).2.2.2 _ h1)).2.2.2.2.2
    unfold serr at hs
    split at hs
    · cases hs
    · rename_i hn
      have hab : ¬ (ia m M l S I i < 0) ∧ ¬ (ib m M l S I i < 0) := ⟨fun e => hn ⟨h0, h, Or.inl e⟩, fun e => hn ⟨h0, h, Or.inr e⟩⟩
      have a := (fnd_bd (fun k => decide (S (ak m M I i) k = I (i - 1))) (l (ak m M I i))).2
      have b := (fnd_bd (fun k => decide (S (ak m M I i) k = I (i + 1))) (l (ak m M I i))).2
      change ia m M l S I i < _ at a
      change ib m M l S I i < _ at b
      have key : ∀ j, j < l (ak m M I i) → ¬ fix N (S (ak m M I i) j) n < 0 := fun j hj e => by
        have := ha j hj
        unfold nerr at this
        rw [if_pos (show fix N (S (fix M (I i) m).toNat j) n < 0 from e)] at this
        cases this
      unfold way
      split
      · exact key _ (by omega)
      · exact key _ (by omega)
  · rw [if_neg h]
    split
    · intro s hs'
      rw [List.mem_singleton] at hs'
      subst hs'
      intro e
      exact h (ierr_ok hi e).2.2
    · intro s hs'; cases hs'
theorem nms_fnd (hE : cerr n N X Y m M l S = 0) {r : Nat} (h1 : ferr (ierr n N m M q I) q = 0) (hs : ∀ j, j < r → serr m M l S I j = 0) (hq : 0 < q) (hr : r ≤ q) : ∀ k, k < r → Fnd n N (nms m M l S I k)
  | 0, _ => fun s hs' => by
    have e : s = I 0 := by simpa [nms] using hs'
    subst e
    intro e
    exact (ierr_ok (ferr_inv h1 0 hq) e).1 rfl
  | k + 1, hk => fun s hs' => by
    rcases List.mem_append.1 (show s ∈ nms m M l S I k ++ seg m M l S I (k + 1) from hs') with h | h
    · exact nms_fnd hE h1 hs hq hr k (by omega) s h
    · exact seg_fnd hE (ferr_inv h1 (k + 1) (by omega)) (hs (k + 1) hk) (by omega) s h
theorem nth_mem {T : List ByteArray} {j : Nat} (h : j < T.length) : nth T j ∈ T := by
  show T.getD j ⟨#[]⟩ ∈ T
  rw [List.getD_eq_getElem?_getD, List.getElem?_eq_getElem h]
  exact List.getElem_mem h
end
end Route
end Go.Proofs.Yteaccanhahmclaa
