/- Rows of any cells: a slice that a call has made, told by a function of its places; it grows by append, one cell turned. -/
import Derived.Test.YtoafljgcmloilaaDoorKit2
import Derived.Laws.OwnMore
import Derived.Deep.AppendLies
import Derived.Maps.AppendAt
import Derived.WideShapes
import Derived.Lib.SliceRun
namespace Go.Proofs.YtoafljgcmloilaaDoor
open Go.RowKit
namespace Kit
/-- n elements of C cells each. -/
def rowG (C : Nat) (f : Nat → Nat → Value) : Nat → List Value
  | 0 => []
  | n + 1 => rowG C f n ++ (List.range C).map fun j => f n j
theorem rowG_len (C : Nat) (f : Nat → Nat → Value) : ∀ n, (rowG C f n).length = n * C
  | 0 => by simp [rowG]
  | n + 1 => by rw [rowG, List.length_append, rowG_len C f n]; simp [Nat.succ_mul]
theorem rowG_get {C : Nat} {f : Nat → Nat → Value} : ∀ {n i j : Nat}, i < n → j < C → (rowG C f n)[i * C + j]? = some (f i j)
  | 0, _, _, h, _ => by omega
  | n + 1, i, j, h, hj => by
    rw [rowG]
    rcases Nat.lt_or_ge i n with hl | hl
    · rw [List.getElem?_append_left (by
        rw [rowG_len]
        have : i * C + C ≤ n * C := by have := Nat.mul_le_mul_right C (show i + 1 ≤ n by omega); rw [Nat.succ_mul] at this; exact this
        omega)]
      exact rowG_get hl hj
    · obtain rfl : i = n := by omega
      rw [List.getElem?_append_right (by rw [rowG_len]; omega), rowG_len, show i * C + j - i * C = j from by omega]
      simp [hj]
theorem rowG_at {C : Nat} {f : Nat → Nat → Value} {n k : Nat} {u : Value} (h : (rowG C f n)[k]? = some u) : k / C < n ∧ k % C < C ∧ u = f (k / C) (k % C) := by
  have hk : k < n * C := by
    have := (List.getElem?_eq_some_iff.1 h).1
    rwa [rowG_len] at this
  have hC : 0 < C := by
    rcases Nat.eq_zero_or_pos C with h0 | h0
    · subst h0; omega
    · exact h0
  have h1 : k / C < n := Nat.div_lt_of_lt_mul (by rw [Nat.mul_comm]; exact hk)
  have h2 : k % C < C := Nat.mod_lt _ hC
  have h3 := rowG_get (f := f) h1 h2
  rw [show k / C * C + k % C = k from by rw [Nat.mul_comm]; exact Nat.div_add_mod k C, h] at h3
  exact ⟨h1, h2, Option.some.inj h3⟩
theorem rowG_one {C : Nat} {f : Nat → Nat → Value} {n : Nat} (h1 : ∀ i j, (f i j).oneCell' = true) : ∀ u ∈ rowG C f n, u.oneCell' = true := by
  intro u hu
  obtain ⟨k, hk⟩ := List.getElem?_of_mem hu
  rw [(rowG_at hk).2.2]; exact h1 _ _
theorem rowG_congr {C : Nat} {f g : Nat → Nat → Value} : ∀ {n : Nat}, (∀ i, i < n → ∀ j, j < C → f i j = g i j) → rowG C f n = rowG C g n
  | 0, _ => rfl
  | n + 1, h => by
    rw [rowG, rowG, rowG_congr (n := n) (fun i hi j hj => h i (by omega) j hj)]
    congr 1
    apply List.map_congr_left
    intro j hj
    rw [h n (by omega) j (List.mem_range.1 hj)]
/-- The slice value v holds the rows, in memory from block base on. -/
abbrev OwnG (w : World) (base : Nat) (E : TypeId) (C : Nat) (v : Value) (n : Nat) (f : Nat → Nat → Value) : Prop := w.ownsRow base E C v n (rowG C f n)
/-- The rows of an own slice, cell by cell. -/
structure GAt (w : World) (g n C : Nat) (f : Nat → Nat → Value) : Prop where
  cell : ∀ i, i < n → ∀ j, j < C → w.cell? ⟨g, i * C + j, none⟩ = some (f i j)
  free : ∀ k, w.frozen? ⟨g, k, none⟩ = false
theorem ownG_row {w : World} {base : Nat} {E : TypeId} {C n : Nat} {v : Value} {f : Nat → Nat → Value} (h : OwnG w base E C v n f) (h0 : 0 < n) : ∃ g cap, v = .slice (some ⟨g, 0, none⟩) n cap ∧ base ≤ g ∧ g < w.heap.size ∧ n ≤ cap ∧ cap ≤ maxLen ∧ GAt w g n C f := by
  have hh := h
  rcases h.2 with ⟨_, h1⟩ | ⟨g, cap, cur, hv, hb, hg, hnc, hcm, _⟩
  · omega
  · subst hv
    have hlt : g < w.heap.size := by
      rcases Nat.lt_or_ge g w.heap.size with hl | hl
      · exact hl
      · rw [Array.getElem?_eq_none hl] at hg; cases hg
    refine ⟨g, cap, rfl, hb, hlt, hnc, hcm, fun i hi j hj => ?_, fun k => hh.frozenAt k⟩
    have hlt : i * C + j < n * C := by
      have := Nat.mul_le_mul_right C (show i + 1 ≤ n by omega); rw [Nat.succ_mul] at this; omega
    rw [hh.cellAt _ hlt]
    exact rowG_get hi hj
theorem gat_keep {w w1 : World} {g n C : Nat} {f : Nat → Nat → Value} (hb : Below w.heap.size w w1) (hg : g < w.heap.size) (h : GAt w g n C f) : GAt w1 g n C f :=
  ⟨fun i hi j hj => keep hb (h.cell i hi j hj), fun k => (hb.frozen (p := ⟨g, k, none⟩) hg).trans (h.free k)⟩
/-- One number turned. -/
def updG (f : Nat → Nat → Value) (i j : Nat) (x : Value) : Nat → Nat → Value := fun a b => if a = i ∧ b = j then x else f a b
theorem gat_set {w : World} {g n C : Nat} {f : Nat → Nat → Value} (h : GAt w g n C f) {i j : Nat} (hi : i < n) (hj : j < C) (x : Value) : GAt (w.setCell ⟨g, i * C + j, none⟩ x) g n C (updG f i j x) := by
  refine ⟨fun a ha b hb => ?_, fun k => (World.frozen?_setCell _ _ _ _).trans (h.free k)⟩
  unfold updG
  by_cases e : a = i ∧ b = j
  · rw [if_pos e, e.1, e.2]
    exact cset _ (h.cell i hi j hj)
  · rw [if_neg e]
    refine cfar _ (fun he => e ?_) (h.cell a ha b hb)
    injection he with _ h2
    rcases Nat.lt_trichotomy a i with hl | hl | hl
    · have := Nat.mul_le_mul_right C (show a + 1 ≤ i by omega); rw [Nat.succ_mul] at this; omega
    · subst hl; omega
    · have := Nat.mul_le_mul_right C (show i + 1 ≤ a by omega); rw [Nat.succ_mul] at this; omega
/-- A source that reads as rows. -/
theorem src_G {w : World} {b off n C : Nat} {f : Nat → Nat → Value} (h : ∀ i, i < n → ∀ j, j < C → w.cell? ⟨b, off + i * C + j, none⟩ = some (f i j)) :
    ∀ j u, (rowG C f n)[j]? = some u → w.cell? ((⟨b, off, none⟩ : Addr).add j) = some u := by
  intro k u hk
  obtain ⟨h1, h2, rfl⟩ := rowG_at hk
  rw [Go.WideShapes.add_plain]
  have := h (k / C) h1 (k % C) h2
  rw [show off + k / C * C + k % C = off + k from by
    have := Nat.div_add_mod k C
    rw [Nat.mul_comm] at this
    omega] at this
  exact this
theorem ownG_keep {W w1 : World} {base : Nat} {E : TypeId} {C n : Nat} {v : Value} {f : Nat → Nat → Value} (hb : Below W.heap.size W w1) (h : OwnG W base E C v n f) : OwnG w1 base E C v n f := by
  refine ⟨h.1, ?_⟩
  rcases h.2 with hh | ⟨g, cap, cur, hv, h1, hg, h2⟩
  · exact Or.inl hh
  · have hlt : g < W.heap.size := by
      rcases Nat.lt_or_ge g W.heap.size with hl | hl
      · exact hl
      · rw [Array.getElem?_eq_none hl] at hg; cases hg
    exact Or.inr ⟨g, cap, cur, hv, h1, (hb.block g hlt).trans hg, h2⟩
theorem ownG_ge {W : World} {base : Nat} {E : TypeId} {C n : Nat} {v : Value} {f : Nat → Nat → Value} (h : OwnG W base E C v n f) : ∀ k, v.ownBlock = some k → base ≤ k := by
  intro k hk
  rcases h.2 with ⟨rfl, -⟩ | ⟨g, cap, cur, rfl, h1, -⟩
  · simp [Value.ownBlock] at hk
  · simp [Value.ownBlock] at hk; omega
theorem ownG_nil (w : World) (base : Nat) (E : TypeId) (C : Nat) (f : Nat → Nat → Value) : OwnG w base E C (.slice none 0 0) 0 f := ⟨by simp [rowG], Or.inl ⟨rfl, rfl⟩⟩
theorem growG_below {N : Nat} {W w w1 : World} {v : Value} {base : Nat} {E : TypeId} {C n : Nat} {f : Nat → Nat → Value} (hb : Below N W w) (h : OwnG w base E C v n f) (hg : w.grownBy w1 v.ownBlock) (hN : N ≤ base) (hs : N ≤ w.heap.size) : Below N W w1 :=
  hb.grown hg hs (fun k hk => Nat.le_trans hN (ownG_ge h k hk))
theorem ownG_made {w : World} {base : Nat} {E : TypeId} {C n : Nat} {f : Nat → Nat → Value} (cs : Array Value) (hb : base ≤ w.heap.size) (hn : n ≤ maxLen) (h : cs.toList = rowG C f n) : OwnG (w.alloc (.cells cs E)) base E C (.slice (some ⟨w.heap.size, 0, none⟩) n n) n f := by
  have hs : cs.size = n * C := by rw [← Array.length_toList, h, rowG_len]
  exact ⟨rowG_len C f n, Or.inr ⟨w.heap.size, n, cs, rfl, hb, heap_alloc_new w _, Nat.le_refl _, hn, hs, by rw [h]; exact List.take_of_length_le (by rw [rowG_len]; exact Nat.le_refl _)⟩⟩
theorem ownG_congr {w : World} {base : Nat} {E : TypeId} {C n : Nat} {v : Value} {f f' : Nat → Nat → Value} (h : OwnG w base E C v n f) (e : ∀ i, i < n → ∀ j, j < C → f i j = f' i j) : OwnG w base E C v n f' := by
  show w.ownsRow base E C v n (rowG C f' n)
  rw [← rowG_congr e]; exact h
theorem rowG_upd {C : Nat} {f : Nat → Nat → Value} {n i j : Nat} (hi : i < n) (hj : j < C) (x : Value) : rowG C (updG f i j x) n = (rowG C f n).set (i * C + j) x := by
  have hlt : i * C + j < n * C := by
    have := Nat.mul_le_mul_right C (show i + 1 ≤ n by omega); rw [Nat.succ_mul] at this; omega
  refine List.ext_getElem? fun k => ?_
  rcases Nat.lt_or_ge k (n * C) with hk | hk
  · have hC : 0 < C := by omega
    have h1 : k / C < n := Nat.div_lt_of_lt_mul (by rw [Nat.mul_comm]; exact hk)
    have h2 : k % C < C := Nat.mod_lt _ hC
    have hk' : k / C * C + k % C = k := by rw [Nat.mul_comm]; exact Nat.div_add_mod k C
    have g1 := rowG_get (f := updG f i j x) h1 h2
    have g2 := rowG_get (f := f) h1 h2
    rw [hk'] at g1 g2
    rw [g1, List.getElem?_set]
    by_cases e : i * C + j = k
    · rw [if_pos e, if_pos (by rw [rowG_len]; exact hlt)]
      have q1 : k / C = i := by rw [← e, Nat.mul_comm, Nat.mul_add_div hC, Nat.div_eq_of_lt hj]; rfl
      have q2 : k % C = j := by rw [← e, Nat.mul_comm, Nat.mul_add_mod, Nat.mod_eq_of_lt hj]
      rw [q1, q2]; unfold updG; rw [if_pos ⟨rfl, rfl⟩]
    · rw [if_neg e, g2]
      unfold updG
      rw [if_neg]
      rintro ⟨q1, q2⟩
      rw [q1, q2] at hk'
      exact e hk'
  · rw [List.getElem?_eq_none (by rw [rowG_len]; exact hk), List.getElem?_eq_none (by rw [List.length_set, rowG_len]; exact hk)]
/-- A number turned in an own row. -/
theorem ownG_set {w : World} {base g cap : Nat} {E : TypeId} {C n : Nat} {f : Nat → Nat → Value} (h : OwnG w base E C (.slice (some ⟨g, 0, none⟩) n cap) n f) {i j : Nat} (hi : i < n) (hj : j < C) (x : Value) : OwnG (w.setCell ⟨g, i * C + j, none⟩ x) base E C (.slice (some ⟨g, 0, none⟩) n cap) n (updG f i j x) := by
  have hlt : i * C + j < n * C := by
    have := Nat.mul_le_mul_right C (show i + 1 ≤ n by omega); rw [Nat.succ_mul] at this; omega
  refine ⟨rowG_len C _ n, ?_⟩
  rcases h.2 with ⟨e, -⟩ | ⟨g', cap', cur, e, hb, hg, h1, h2, h3, h4⟩
  · cases e
  · injection e with e1 e2 e3
    injection e1 with e1
    injection e1 with e1 _
    subst e1 e3
    refine Or.inr ⟨g, cap, cur.setIfInBounds (i * C + j) x, rfl, hb, ?_, h1, h2, by simpa using h3, ?_⟩
    · simp [World.setCell, Array.getElem?_modify, hg]
    · rw [Array.toList_setIfInBounds, List.take_set, h4, rowG_upd hi hj]
end Kit
end Go.Proofs.YtoafljgcmloilaaDoor
