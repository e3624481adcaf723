/- volume.Union's contract, and the fixed example of chapter 8. -/
import Derived.Test.YtlokkffpmjlihaaVolU
import Derived.Test.YtlokkffpmjlihaaVolS
namespace Go.Proofs.Ytlokkffpmjlihaa
open Go.RowKit
namespace Vol
open Kit Plane Poly
/-- The intervals of a slice. -/
def arrD (n : Nat) (F T : Nat → Int) : Array Sp := (Array.range n).map fun i => toSp (F i) (T i)
theorem arrD_size (n : Nat) (F T : Nat → Int) : (arrD n F T).size = n := by unfold arrD; rw [Array.size_map, Array.size_range]
theorem arrD_at {n : Nat} {F T : Nat → Int} {i : Nat} (hi : i < n) : (arrD n F T)[i]! = toSp (F i) (T i) := by
  unfold arrD
  rw [getElem!_pos _ _ (by rw [Array.size_map, Array.size_range]; exact hi)]
  simp
theorem arrD_rows {n : Nat} {F T : Nat → Int} (ok : ∀ k, k < n → okS (F k) (T k)) {i j : Nat} (hi : i < n) : rowsD (arrD n F T) i j = if j = 0 then F i else T i := by
  unfold rowsD
  rw [arrD_at hi, toSp_fr (ok i hi), toSp_to (ok i hi)]
theorem clC {v : Value} {n : Nat} {F T : Nat → Int} {w : World} (hv : QV w v n F T) (h0 : 0 < n) (hn : n ≤ 256) (ok : ∀ k, k < n → okS (F k) (T k)) : ClC v (arrD n F T) w := fun w1 hb => by
  rcases qv_keep hb hv with ⟨rfl, -⟩ | ⟨-, b, off, cap, rfl, hc, hm, HV⟩
  · omega
  · refine (clone_spans n cap b off (rowsD (arrD n F T)) w1 h0 (by omega) hc (Lib.hid fun i hi j hj => ?_)).mono ?_
    · rw [arrD_rows ok hi]
      rcases (show j = 0 ∨ j = 1 from by omega) with rfl | rfl
      · exact (HV i hi).1
      · exact (HV i hi).2
    · rintro e w' ⟨q, rfl, ho, hbb⟩
      obtain ⟨g, c, rfl, h1, h2, h3, h4, h5⟩ := own_row ho h0
      rw [arrD_size]
      exact ⟨⟨g, c, rfl, h1, h2, h3, h4, h5⟩, hbb⟩
theorem soC (D : Array Sp) (hn : D.size ≤ 256) : SoC D := fun w1 g c hr hg => by
  refine (sortC g c D w1 hr hg hn).mono ?_
  rintro e w' ⟨rfl, d, h1, h2, h3, h4, h5⟩
  exact ⟨rfl, d, ⟨h1, h2, h3⟩, h4, h5⟩
theorem unionC {v : Value} {n : Nat} {F T : Nat → Int} {w : World} (hv : QV w v n F T) (h0 : 0 < n) (hk : ckS n F T = 0) :
    Calls Try.prog 25 #[v] w fun e w' => (∃ q, e = .returned (.tuple #[q, .int .i64 0]) ∧ ∃ d, Sorted (arrD n F T) d ∧ Own w' w.heap.size 66 2 q (joinL (listD d)).length (rowsL (joinL (listD d)))) ∧ Below w.heap.size w w' := by
  obtain ⟨hn, ok⟩ := ckS_ok hk
  have C := spansC hv
  rw [hk] at C
  have hs := arrD_size n F T
  exact union_walk v (arrD n F T) w (by omega) (Lib.hid C) (Lib.hid (clC hv h0 hn ok)) (Lib.hid (soC _ (by omega)))
/-- The three intervals of the example, in order. -/
theorem works_d {d : Array Sp} (h : Sorted (arrD 3 (fun i => if i = 0 then 3 else if i = 1 then 6 else 1) (fun i => if i = 0 then 6 else if i = 1 then 8 else 2)) d) : joinL (listD d) = [(1, 2), (3, 8)] := by
  obtain ⟨hs, hp, ha⟩ := h
  rw [arrD_size] at hs
  rw [show (arrD 3 (fun i => if i = 0 then 3 else if i = 1 then 6 else 1) (fun i => if i = 0 then 6 else if i = 1 then 8 else 2)).toList = [toSp 3 6, toSp 6 8, toSp 1 2] from by unfold arrD; rw [Array.toList_map, Array.toList_range]; rfl] at hp
  have key : ∀ (f : Sp → Int × Int), (d.toList.map f).Perm (([toSp 3 6, toSp 6 8, toSp 1 2] : List Sp).map f) := fun f => (hp.map f)
  have hl := key fun x => (x.fr, x.to)
  have e1 : (([toSp 3 6, toSp 6 8, toSp 1 2] : List Sp).map fun x => (x.fr, x.to)) = [(3, 6), (6, 8), (1, 2)] := by
    have o1 : okS 3 6 := by unfold okS; omega
    have o2 : okS 6 8 := by unfold okS; omega
    have o3 : okS 1 2 := by unfold okS; omega
    simp only [List.map_cons, List.map_nil, toSp_fr o1, toSp_to o1, toSp_fr o2, toSp_to o2, toSp_fr o3, toSp_to o3]
  rw [e1] at hl
  have e2 : listD d = d.toList.map fun x => (x.fr, x.to) := by
    unfold listD upTo
    refine List.ext_getElem? fun i => ?_
    rcases Nat.lt_or_ge i d.size with hi | hi
    · simp [hi]
    · simp [hi]
  obtain ⟨a, b, c, hd⟩ : ∃ a b c, d.toList = [a, b, c] := by
    have hlen : d.toList.length = 3 := by rw [Array.length_toList]; exact hs
    match d.toList, hlen with
    | [a, b, c], _ => exact ⟨a, b, c, rfl⟩
  have da : d = #[a, b, c] := by rw [← Array.toArray_toList (xs := d), hd]
  have h01 := ha 0 1 (by omega) (by omega)
  have h12 := ha 1 2 (by omega) (by omega)
  subst da
  rw [e2]
  clear key e1 e2 hp hs ha hd
  have h01' : a.fr ≤ b.fr := h01
  have h12' : b.fr ≤ c.fr := h12
  simp only [List.map_cons, List.map_nil] at hl ⊢
  generalize a.fr = a1 at *
  generalize b.fr = b1 at *
  generalize c.fr = c1 at *
  generalize a.to = a2 at *
  generalize b.to = b2 at *
  generalize c.to = c2 at *
  have m1 : (a1, a2) ∈ ([(3, 6), (6, 8), (1, 2)] : List (Int × Int)) := hl.subset (by simp)
  have m2 : (b1, b2) ∈ ([(3, 6), (6, 8), (1, 2)] : List (Int × Int)) := hl.subset (by simp)
  have m3 : (c1, c2) ∈ ([(3, 6), (6, 8), (1, 2)] : List (Int × Int)) := hl.subset (by simp)
  simp only [List.mem_cons, Prod.mk.injEq, List.not_mem_nil, or_false] at m1 m2 m3
  rcases m1 with ⟨rfl, rfl⟩ | ⟨rfl, rfl⟩ | ⟨rfl, rfl⟩ <;> rcases m2 with ⟨rfl, rfl⟩ | ⟨rfl, rfl⟩ | ⟨rfl, rfl⟩ <;> rcases m3 with ⟨rfl, rfl⟩ | ⟨rfl, rfl⟩ | ⟨rfl, rfl⟩ <;> first | (exfalso; omega) | (exfalso; revert hl; decide) | decide
def wF (i : Nat) : Int := if i = 0 then 3 else if i = 1 then 6 else 1
def wT (i : Nat) : Int := if i = 0 then 6 else if i = 1 then 8 else 2
theorem works_qv (w : World) (ty : TypeId) : QV (w.alloc (.cells #[.int .i64 3, .int .i64 6, .int .i64 6, .int .i64 8, .int .i64 1, .int .i64 2] ty)) (.slice (some ⟨w.heap.size, 0, none⟩) 3 3) 3 wF wT := by
  refine Or.inr ⟨by omega, w.heap.size, 0, 3, rfl, Nat.le_refl _, by decide, fun k hk => ?_⟩
  rcases (show k = 0 ∨ k = 1 ∨ k = 2 from by omega) with rfl | rfl | rfl <;> exact ⟨by simp [wF], by simp [wT]⟩
set_option maxHeartbeats 2000000 in
theorem volumeWorks (w : World) : Calls Try.prog 23 #[] w fun e w' => e = .returned (.bool true) ∧ Below w.heap.size w w' := by
  have U := Lib.hid (unionC (works_qv w 66) (by omega) (by decide +kernel : ckS 3 wF wT = 0))
  have HW := Lib.hid (b_alloc (Below.refl w.heap.size w) (.cells #[.int .i64 3, .int .i64 6, .int .i64 6, .int .i64 8, .int .i64 1, .int .i64 2] 66))
  go_enter Try.func23, Try.ntmps23
  go_wp2_with fail
  refine U.out.mono ?_; rintro e w1 ⟨⟨q, rfl, d, hd, ho⟩, hb⟩
  have W1 := Lib.hid (b_next HW.out hb); clear hb
  rw [works_d hd] at ho
  obtain ⟨g, c, rfl, -, -, h3, h4, hr⟩ := own_row ho (by decide)
  have r00 := hr.cell 0 (by decide) 0 (by omega); have r01 := hr.cell 0 (by decide) 1 (by omega); have r10 := hr.cell 1 (by decide) 0 (by omega); have r11 := hr.cell 1 (by decide) 1 (by omega)
  have k00 : w1.cell? ⟨g, 0, none⟩ = some (.int .i64 1) := r00
  have k01 : w1.cell? ⟨g, 1, none⟩ = some (.int .i64 2) := r01
  have k10 : w1.cell? ⟨g, 2, none⟩ = some (.int .i64 3) := r10
  have k11 : w1.cell? ⟨g, 3, none⟩ = some (.int .i64 8) := r11
  clear r00 r01 r10 r11 hr ho
  have h3' : 2 ≤ c := h3
  clear h3
  go_wp2_with fail
  all_goals (go_ret; exact ⟨by first | rfl | exact retb rfl, W1.out⟩)
end Vol
end Go.Proofs.Ytlokkffpmjlihaa
