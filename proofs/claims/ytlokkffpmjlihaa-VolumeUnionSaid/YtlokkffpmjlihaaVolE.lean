/- volume.Union's contract in one form, for no interval as well. -/
import Derived.Test.YtlokkffpmjlihaaVolV
import Derived.Shelf.SlSortCmp.NoneTotal
namespace Go.Proofs.Ytlokkffpmjlihaa
open Go.RowKit Go.Shelf
namespace Vol
open Kit Plane Poly
set_option maxHeartbeats 1000000 in
theorem clone_nil (w : World) :
    Calls Try.prog 62 #[.slice none 0 0] w fun e w' => (∃ A cap, e = .returned (.slice A 0 cap)) ∧ Below w.heap.size w w' := by
  have hnil := fun W : World => Lib.run_eql_slice_nil (P := Try.prog) W 49 66 none 0 0 0 0 Try.underlying49
  go_enter Try.func62, Try.ntmps62
  go_wp2_with fail
  all_goals (go_ret; exact ⟨⟨_, _, rfl⟩, Below.refl _ _⟩)
set_option maxRecDepth 100000 in
set_option maxHeartbeats 1000000 in
theorem clone_empty (a : Addr) (cap : Nat) (w : World) (_hc : cap ≤ maxLen) :
    Calls Try.prog 62 #[.slice (some a) 0 cap] w fun e w' => (∃ A cap, e = .returned (.slice A 0 cap)) ∧ Below w.heap.size w w' := by
  obtain ⟨i0, hi, hz0, hz1, hz2⟩ := info_parts info_spans
  have hnil := fun W : World => Lib.run_eql_slice_nil (P := Try.prog) W 49 66 (some a) 0 cap 0 0 Try.underlying49
  go_enter Try.func62, Try.ntmps62
  have hb0 := b_alloc (Below.refl w.heap.size w) (.cells #[] 66)
  have HB := Lib.hid hb0; clear hb0
  go_wp2_with (at_builtin; refine wpList_append_own_at _ rfl (.tmp 5) (.tmp 6) 49 rfl w.heap.size 66 i0 _ 2 16 Try.underlying49 hi hz0 hz1 hz2 rfl (by decide) (.slice (some ⟨w.heap.size, 0, none⟩) 0 0) 0 [] rfl (World.ownsRow_made w #[] 0 (Nat.le_refl _) (by decide) rfl) a 0 cap [] rfl rfl (fun j u h => by simp at h) (fun u h => by simp at h) (by unfold maxLen; omega) (by omega) (by simp) ?_; intro v1 w1 hown1 hg1 hnil1 hat1)
  go_ret
  obtain ⟨A, c, rfl, -⟩ := own_slice (f := fun _ _ => 0) (show Own w1 w.heap.size 66 2 v1 0 (fun _ _ => 0) from hown1)
  exact ⟨⟨A, c, rfl⟩, HB.out.grown hg1 HB.out.size (fun k hk => by simp [Value.ownBlock] at hk; omega)⟩
theorem clone0 {v : Value} {F T : Nat → Int} {w : World} (hv : QV w v 0 F T) :
    Calls Try.prog 62 #[v] w fun e w' => (∃ A cap, e = .returned (.slice A 0 cap)) ∧ Below w.heap.size w w' := by
  rcases hv with ⟨-, h⟩ | ⟨h0, -⟩
  · rcases h with rfl | ⟨a, cap, rfl, hc⟩
    · exact clone_nil w
    · exact clone_empty a cap w hc
  · omega
theorem sort0 (A : Option Addr) (cap : Nat) (f : Value) (w : World) : Calls Try.prog 63 #[.slice A 0 cap, f] w fun e w' => e = .returned (.tuple #[]) ∧ w' = w :=
  AnyF.slices_SortFunc_none Try.sortSpans A cap f w
set_option maxHeartbeats 1000000 in
theorem union_none (v : Value) (w : World) (C : Hid (CsC v 0 w)) (CL : Hid (∀ w1, Below w.heap.size w w1 → Calls Try.prog 62 #[v] w1 fun e w' => (∃ A cap, e = .returned (.slice A 0 cap)) ∧ Below w1.heap.size w1 w')) :
    Calls Try.prog 25 #[v] w fun e w' => e = .returned (.tuple #[.slice none 0 0, .int .i64 0]) ∧ Below w.heap.size w w' := by
  have hmf : ∀ fn first cap w, (Instr.makeFunc fn first cap).run Try.prog w = .ok (.func fn first cap) w := fun _ _ _ _ => rfl
  go_enter Try.func25, Try.ntmps25
  go_wp2_with fail
  (with_reducible refine (C.out _ (Below.refl _ _)).mono ?_); rintro e w1 ⟨rfl, hb⟩
  have W1 := Lib.hid hb; clear hb
  go_wp2_with fail
  (with_reducible refine (CL.out _ W1.out).mono ?_); rintro e w2 ⟨⟨A, cap, rfl⟩, hb⟩
  have W2 := Lib.hid (b_next W1.out hb); clear hb
  go_wp2_with fail
  (with_reducible refine (sort0 A cap _ w2).mono ?_); rintro e w3 ⟨rfl, rfl⟩
  go_wp2_with fail
  go_loopw [21, 6] (fun s q wr => s = .int .i64 0 ∧ q = .slice none 0 0 ∧ Below w.heap.size w wr) (fun _ _ _ => 0)
  case atStart => exact ⟨rfl, rfl, W2.out⟩
  case round =>
    obtain ⟨rfl, rfl, hbl⟩ := hrel
    go_wp2_with fail
    all_goals (go_ret2; exact ⟨rfl, hbl⟩)
/-- What the union is: apart, in order, and of the same times. -/
structure UOk (n : Nat) (F T : Nat → Int) (U : List (Int × Int)) : Prop where
  good : ∃ m, Good U m
  mem : ∀ t, InL U t ↔ ∃ k, k < n ∧ F k ≤ t ∧ t < T k
  len : U.length ≤ n
theorem uok_of {n : Nat} {F T : Nat → Int} {d : Array Sp} (ok : ∀ k, k < n → okS (F k) (T k)) (h : Sorted (arrD n F T) d) : UOk n F T (joinL (listD d)) := by
  obtain ⟨hs, hp, ha⟩ := h
  rw [arrD_size] at hs
  have hmem : ∀ p : Int × Int, p ∈ listD d ↔ ∃ i, i < d.size ∧ p = (d[i]!.fr, d[i]!.to) := by
    intro p
    unfold listD upTo
    rw [List.mem_map]
    exact ⟨fun ⟨i, hi, e⟩ => ⟨i, List.mem_range.1 hi, e.symm⟩, fun ⟨i, hi, e⟩ => ⟨i, List.mem_range.2 hi, e.symm⟩⟩
  have hl : (listD d).length = n := by unfold listD upTo; rw [List.length_map, List.length_range, hs]
  have hj := join_good (l := listD d) (fun s h => by
    obtain ⟨i, -, rfl⟩ := (hmem s).1 h
    exact d[i]!.ok) (by
    unfold listD upTo
    rw [List.pairwise_map]
    refine List.Pairwise.imp_of_mem (R := fun a b => a < b) (fun {a b} hma hmb hab => ?_) List.pairwise_lt_range
    exact ha a b hab (List.mem_range.1 hmb))
  refine ⟨hj.1, fun t => ?_, by have := join_len (listD d); omega⟩
  rw [hj.2 t]
  have hset : ∀ s : Sp, s ∈ d.toList ↔ ∃ k, k < n ∧ s = toSp (F k) (T k) := by
    intro s
    rw [hp.mem_iff]
    unfold arrD
    rw [Array.toList_map, Array.toList_range, List.mem_map]
    exact ⟨fun ⟨i, hi, e⟩ => ⟨i, List.mem_range.1 hi, e.symm⟩, fun ⟨i, hi, e⟩ => ⟨i, List.mem_range.2 hi, e.symm⟩⟩
  have hget : ∀ i, i < d.size → d[i]! ∈ d.toList := fun i hi => by
    rw [getElem!_pos d i hi]
    exact Array.mem_toList_iff.2 (Array.getElem_mem hi)
  constructor
  · rintro ⟨p, h1, h2⟩
    obtain ⟨i, hi, rfl⟩ := (hmem p).1 h1
    obtain ⟨k, hk, e⟩ := (hset _).1 (hget i hi)
    rw [e, toSp_fr (ok k hk), toSp_to (ok k hk)] at h2
    exact ⟨k, hk, h2⟩
  · rintro ⟨k, hk, h2⟩
    have h3 : toSp (F k) (T k) ∈ d.toList := (hset _).2 ⟨k, hk, rfl⟩
    obtain ⟨i, hi, e⟩ := List.mem_iff_getElem.1 h3
    rw [Array.length_toList] at hi
    refine ⟨(d[i]!.fr, d[i]!.to), (hmem _).2 ⟨i, hi, rfl⟩, ?_⟩
    rw [getElem!_pos d i hi, ← Array.getElem_toList hi, e, toSp_fr (ok k hk), toSp_to (ok k hk)]
    exact h2
theorem uok_nil {F T : Nat → Int} : UOk 0 F T [] := by
  refine ⟨⟨0, ⟨fun p hp => (by cases hp), List.Pairwise.nil⟩⟩, fun t => ⟨fun h => ?_, fun h => ?_⟩, Nat.le_refl _⟩
  · obtain ⟨p, hp, -⟩ := h; cases hp
  · obtain ⟨k, hk, -⟩ := h; exact absurd hk (Nat.not_lt_zero k)
abbrev UnC (v : Value) (n : Nat) (F T : Nat → Int) (w : World) : Prop := ∀ w1, Below w.heap.size w w1 → Calls Try.prog 25 #[v] w1 fun e w' => (∃ q U, e = .returned (.tuple #[q, .int .i64 0]) ∧ UOk n F T U ∧ Own w' w1.heap.size 66 2 q U.length (rowsL U)) ∧ Below w1.heap.size w1 w'
theorem unC {v : Value} {n : Nat} {F T : Nat → Int} {w : World} (hv : QV w v n F T) (hk : ckS n F T = 0) : UnC v n F T w := fun w1 hb => by
  have hv1 := qv_keep hb hv
  obtain ⟨hn, ok⟩ := ckS_ok hk
  rcases Nat.eq_zero_or_pos n with rfl | h0
  · have C := spansC hv1
    rw [hk] at C
    refine (union_none v w1 (Lib.hid C) (Lib.hid fun w2 h2 => clone0 (qv_keep h2 hv1))).mono ?_
    rintro e w' ⟨rfl, h⟩
    refine ⟨⟨_, [], rfl, uok_nil, own_nil _ _ _ _ _⟩, h⟩
  · refine (unionC hv1 h0 hk).mono ?_
    rintro e w' ⟨⟨q, rfl, d, hd, ho⟩, h⟩
    exact ⟨⟨q, _, rfl, uok_of ok hd, ho⟩, h⟩
end Vol
end Go.Proofs.Ytlokkffpmjlihaa
