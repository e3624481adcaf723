/- Intervals of time: slices.Clone and slices.SortFunc at them. -/
import Derived.Test.YtlokkffpmjlihaaVolQ
import Derived.Shelf.SlSortCmp.WholeK
import Derived.Shelf.Lay
import Derived.Ground.SlsfProg
namespace Go.Proofs.Ytlokkffpmjlihaa
open Go.Shelf Go.RowKit Go.Lib Go.Sort
shelf_lay_g SlLaysF0.n6 Slsf 6 at Try 63 as Try.sortSpans
namespace Vol
open Kit Plane Poly
def encS (x : Sp) : List Value := [.int .i64 x.fr, .int .i64 x.to]
/-- What cmp says of two intervals. -/
def cfS (x y : Sp) : Int := x.fr - y.fr
theorem cmp_w (f t g u : Int) (hx : okS f t) (hy : okS g u) (W : World) : Calls Try.prog 64 #[.agg #[.int .i64 f, .int .i64 t], .agg #[.int .i64 g, .int .i64 u]] W fun e w' => e = .returned (.int .i64 (f - g)) ∧ ∃ q os', w' = Go.Sort.grow (W.drewN q) os' := by
  unfold okS at hx hy
  obtain ⟨x1, x2, x3⟩ := hx
  obtain ⟨y1, y2, y3⟩ := hy
  go_enter Try.func64, Try.ntmps64
  go_wp2
  go_ret
  exact ⟨rfl, 0, _, by rw [Go.Sort.alloc_eq_grow, Go.Sort.alloc_eq_grow, Go.Sort.grow_grow]; rfl⟩
theorem cmpLays (blk off size : Nat) (w : World) : CmpLays Try.prog 64 #[] encS 2 cfS blk off size w :=
  fun _ _ _ _ x y => cmp_w x.fr x.to y.fr y.to x.ok y.ok _
theorem lt_iff (x y : Sp) : ltOf cfS x y = true ↔ x.fr < y.fr := by
  unfold ltOf cfS; rw [decide_eq_true_eq]; omega
theorem nlt_iff (x y : Sp) : ltOf cfS x y = false ↔ y.fr ≤ x.fr := by
  unfold ltOf cfS; rw [decide_eq_false_iff_not]; omega
theorem swo : Go.Sort.SWO (ltOf cfS) where
  irrefl x := (nlt_iff x x).2 (by omega)
  trans x y z h1 h2 := (lt_iff x z).2 (by have := (lt_iff x y).1 h1; have := (lt_iff y z).1 h2; omega)
  ntrans x y z h1 h2 := (nlt_iff x z).2 (by have := (nlt_iff x y).1 h1; have := (nlt_iff y z).1 h2; omega)
theorem sort_grown {w : World} {blk off m : Nat} {d : Array Sp} {os : Array Obj} : w.grownBy (sortWorldK encS 2 w blk off m d os) (some blk) := by
  refine ⟨rfl, rfl, rfl, by simp [sortWorldK, Go.Sort.grow, Go.Sort.putRowK, Go.Sort.putRow, Go.Sort.mapBlock, Go.Sort.ahead], fun i hi hne => ?_⟩
  have hb : i ≠ blk := fun h => hne (by rw [h])
  simp only [sortWorldK, Go.Sort.grow, Go.Sort.putRowK, Go.Sort.putRow, Go.Sort.mapBlock, Go.Sort.ahead]
  rw [Array.getElem?_append_left (by rw [Array.size_modify]; exact hi), Array.getElem?_modify, if_neg (fun h => hb h.symm)]
theorem flat_at (d : Array Sp) {i j : Nat} (hi : i < d.size) (hj : j < 2) : (Go.Sort.flatK encS 2 d)[i * 2 + j]! = .int .i64 (rowsD d i j) := by
  rw [Go.Sort.get_flatK _ _ _ _ (by omega), show (i * 2 + j) / 2 = i from by omega, show (i * 2 + j) % 2 = j from by omega]
  rcases (show j = 0 ∨ j = 1 from by omega) with rfl | rfl <;> rfl
theorem holds_of {w : World} {g : Nat} {d : Array Sp} (h : RowAt w g d.size 2 (rowsD d)) : Go.Sort.HoldsK encS 2 w g 0 d := by
  intro j hj
  rw [Go.Sort.size_flatK] at hj
  have h1 := h.cell (j / 2) (by omega) (j % 2) (by omega)
  have h2 := flat_at d (i := j / 2) (j := j % 2) (by omega) (by omega)
  rw [show j / 2 * 2 + j % 2 = j from by omega] at h1 h2
  rw [Nat.zero_add, h1, h2]
  exact ⟨rfl, h.free j⟩
theorem of_holds {w : World} {g : Nat} {d : Array Sp} (h : Go.Sort.HoldsK encS 2 w g 0 d) : ∀ i, i < d.size → E2 w g 0 i (rowsD d i 0) (rowsD d i 1) := by
  intro i hi
  have h1 := (h (i * 2 + 0) (by rw [Go.Sort.size_flatK]; omega)).1
  have h2 := (h (i * 2 + 1) (by rw [Go.Sort.size_flatK]; omega)).1
  rw [flat_at d hi (by omega)] at h1 h2
  rw [Nat.add_zero] at h1
  exact ⟨h1, by rw [Nat.add_assoc]; exact h2⟩
theorem sortC (g cap : Nat) (d : Array Sp) (w : World) (hr : RowAt w g d.size 2 (rowsD d)) (hg : g < w.heap.size) (hn : d.size ≤ 256) :
    Calls Try.prog 63 #[.slice (some ⟨g, 0, none⟩) d.size cap, .func (.func 64) #[] #[]] w fun e w' => e = .returned (.tuple #[]) ∧ ∃ d' : Array Sp, d'.size = d.size ∧ d'.toList.Perm d.toList ∧ (∀ i j, i < j → j < d'.size → d'[i]!.fr ≤ d'[j]!.fr) ∧ w.grownBy w' (some g) ∧ ∀ i, i < d'.size → E2 w' g 0 i (d'[i]!.fr) (d'[i]!.to) := by
  have eg : ∀ args w, (callFunc 64 args).run Try.prog w = .ok (.enter 64 args) w := enters_of Try.func64 (by kernel_rfl) rfl
  have hcon := AnyQ.slices_SortFunc Try.sortSpans 2 Try.isAgg66 Try.sizeOf66 encS (fun _ => rfl) (fun x v hv => by simp [encS] at hv; rcases hv with rfl | rfl <;> rfl) cfS swo 64 #[] g 0 cap d w eg (cmpLays g 0 d.size w) (holds_of hr) hg (by omega)
  refine hcon.mono ?_
  rintro e w' ⟨rfl, d', n, os, hp, hs, rfl⟩
  refine ⟨rfl, d', hp.1, ?_, fun i j h1 h2 => (nlt_iff _ _).1 (hs i j (Nat.zero_le _) h1 (by rw [← hp.1]; exact h2)), sort_grown, ?_⟩
  · have h3 := hp.2.2
    rw [Array.extract_size, ← hp.1, Array.extract_size] at h3
    exact h3
  · have h4 := holdsK_sortWorldK_c encS 2 w g 0 d d' n os (holds_of hr) hg hp.1
    exact fun i hi => of_holds h4 i hi
end Vol
end Go.Proofs.Ytlokkffpmjlihaa
