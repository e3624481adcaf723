/- Rows of numbers: a slice that a call has made, told by a function of its places. -/
import Derived.Test.YtokioemmjfjhkaaKit2
import Derived.Laws.OwnMore
import Derived.Deep.AppendLies
import Derived.Maps.AppendAt
import Derived.WideShapes
import Derived.Lib.SliceRun
namespace Go.Proofs.Ytokioemmjfjhkaa
open Go.RowKit
namespace Kit
/-- n elements of C numbers each. -/
def rowL (C : Nat) (f : Nat → Nat → Int) : Nat → List Value
  | 0 => []
  | n + 1 => rowL C f n ++ (List.range C).map fun j => .int .i64 (f n j)
theorem rowL_len (C : Nat) (f : Nat → Nat → Int) : ∀ n, (rowL C f n).length = n * C
  | 0 => by simp [rowL]
  | n + 1 => by rw [rowL, List.length_append, rowL_len C f n]; simp [Nat.succ_mul]
theorem rowL_get {C : Nat} {f : Nat → Nat → Int} : ∀ {n i j : Nat}, i < n → j < C → (rowL C f n)[i * C + j]? = some (.int .i64 (f i j))
  | 0, _, _, h, _ => by omega
  | n + 1, i, j, h, hj => by
    rw [rowL]
    rcases Nat.lt_or_ge i n with hl | hl
    · rw [List.getElem?_append_left (by
        rw [rowL_len]
        have : i * C + C ≤ n * C := by have := Nat.mul_le_mul_right C (show i + 1 ≤ n by omega); rw [Nat.succ_mul] at this; exact this
        omega)]
      exact rowL_get hl hj
    · obtain rfl : i = n := by omega
      rw [List.getElem?_append_right (by rw [rowL_len]; omega), rowL_len, show i * C + j - i * C = j from by omega]
      simp [hj]
theorem rowL_at {C : Nat} {f : Nat → Nat → Int} {n k : Nat} {u : Value} (h : (rowL C f n)[k]? = some u) : k / C < n ∧ k % C < C ∧ u = .int .i64 (f (k / C) (k % C)) := by
  have hk : k < n * C := by
    have := (List.getElem?_eq_some_iff.1 h).1
    rwa [rowL_len] at this
  have hC : 0 < C := by
    rcases Nat.eq_zero_or_pos C with h0 | h0
    · subst h0; omega
    · exact h0
  have h1 : k / C < n := Nat.div_lt_of_lt_mul (by rw [Nat.mul_comm]; exact hk)
  have h2 : k % C < C := Nat.mod_lt _ hC
  have h3 := rowL_get (f := f) h1 h2
  rw [show k / C * C + k % C = k from by rw [Nat.mul_comm]; exact Nat.div_add_mod k C, h] at h3
  exact ⟨h1, h2, Option.some.inj h3⟩
theorem rowL_one {C : Nat} {f : Nat → Nat → Int} {n : Nat} : ∀ u ∈ rowL C f n, u.oneCell' = true := by
  intro u hu
  obtain ⟨k, hk⟩ := List.getElem?_of_mem hu
  rw [(rowL_at hk).2.2]; rfl
theorem rowL_congr {C : Nat} {f g : Nat → Nat → Int} : ∀ {n : Nat}, (∀ i, i < n → ∀ j, j < C → f i j = g i j) → rowL C f n = rowL C g n
  | 0, _ => rfl
  | n + 1, h => by
    rw [rowL, rowL, rowL_congr (n := n) (fun i hi j hj => h i (by omega) j hj)]
    congr 1
    apply List.map_congr_left
    intro j hj
    rw [h n (by omega) j (List.mem_range.1 hj)]
/-- The slice value v holds the rows, in memory from block base on. -/
abbrev Own (w : World) (base : Nat) (E : TypeId) (C : Nat) (v : Value) (n : Nat) (f : Nat → Nat → Int) : Prop := w.ownsRow base E C v n (rowL C f n)
/-- The rows of an own slice, cell by cell. -/
structure RowAt (w : World) (g n C : Nat) (f : Nat → Nat → Int) : Prop where
  cell : ∀ i, i < n → ∀ j, j < C → w.cell? ⟨g, i * C + j, none⟩ = some (.int .i64 (f i j))
  free : ∀ k, w.frozen? ⟨g, k, none⟩ = false
theorem own_row {w : World} {base : Nat} {E : TypeId} {C n : Nat} {v : Value} {f : Nat → Nat → Int} (h : Own w base E C v n f) (h0 : 0 < n) : ∃ g cap, v = .slice (some ⟨g, 0, none⟩) n cap ∧ base ≤ g ∧ g < w.heap.size ∧ n ≤ cap ∧ cap ≤ maxLen ∧ RowAt w g n C f := by
  have hh := h
  rcases h.2 with ⟨_, h1⟩ | ⟨g, cap, cur, hv, hb, hg, hnc, hcm, _⟩
  · omega
  · subst hv
    have hlt : g < w.heap.size := by
      rcases Nat.lt_or_ge g w.heap.size with hl | hl
      · exact hl
      · rw [Array.getElem?_eq_none hl] at hg; cases hg
    refine ⟨g, cap, rfl, hb, hlt, hnc, hcm, fun i hi j hj => ?_, fun k => hh.frozenAt k⟩
    have hlt : i * C + j < n * C := by
      have := Nat.mul_le_mul_right C (show i + 1 ≤ n by omega); rw [Nat.succ_mul] at this; omega
    rw [hh.cellAt _ hlt]
    exact rowL_get hi hj
theorem row_keep {w w1 : World} {g n C : Nat} {f : Nat → Nat → Int} (hb : Below w.heap.size w w1) (hg : g < w.heap.size) (h : RowAt w g n C f) : RowAt w1 g n C f :=
  ⟨fun i hi j hj => keep hb (h.cell i hi j hj), fun k => (hb.frozen (p := ⟨g, k, none⟩) hg).trans (h.free k)⟩
/-- One number turned. -/
def upd (f : Nat → Nat → Int) (i j : Nat) (x : Int) : Nat → Nat → Int := fun a b => if a = i ∧ b = j then x else f a b
theorem row_set {w : World} {g n C : Nat} {f : Nat → Nat → Int} (h : RowAt w g n C f) {i j : Nat} (hi : i < n) (hj : j < C) (x : Int) : RowAt (w.setCell ⟨g, i * C + j, none⟩ (.int .i64 x)) g n C (upd f i j x) := by
  refine ⟨fun a ha b hb => ?_, fun k => (World.frozen?_setCell _ _ _ _).trans (h.free k)⟩
  unfold upd
  by_cases e : a = i ∧ b = j
  · rw [if_pos e, e.1, e.2]
    exact cset _ (h.cell i hi j hj)
  · rw [if_neg e]
    refine cfar _ (fun he => e ?_) (h.cell a ha b hb)
    injection he with _ h2
    rcases Nat.lt_trichotomy a i with hl | hl | hl
    · have := Nat.mul_le_mul_right C (show a + 1 ≤ i by omega); rw [Nat.succ_mul] at this; omega
    · subst hl; omega
    · have := Nat.mul_le_mul_right C (show i + 1 ≤ a by omega); rw [Nat.succ_mul] at this; omega
/-- A source that reads as rows. -/
theorem src_rows {w : World} {b off n C : Nat} {f : Nat → Nat → Int} (h : ∀ i, i < n → ∀ j, j < C → w.cell? ⟨b, off + i * C + j, none⟩ = some (.int .i64 (f i j))) :
    ∀ j u, (rowL C f n)[j]? = some u → w.cell? ((⟨b, off, none⟩ : Addr).add j) = some u := by
  intro k u hk
  obtain ⟨h1, h2, rfl⟩ := rowL_at hk
  rw [Go.WideShapes.add_plain]
  have := h (k / C) h1 (k % C) h2
  rw [show off + k / C * C + k % C = off + k from by
    have := Nat.div_add_mod k C
    rw [Nat.mul_comm] at this
    omega] at this
  exact this
end Kit
end Go.Proofs.Ytokioemmjfjhkaa
