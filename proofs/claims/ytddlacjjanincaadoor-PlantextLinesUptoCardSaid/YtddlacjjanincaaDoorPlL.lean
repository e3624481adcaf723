/- Where the lines of a text stand. -/
import Derived.Test.YtddlacjjanincaaDoorPlS
namespace Go.Proofs.YtddlacjjanincaaDoor
open Go.RowKit Go.Shelf
namespace Pt
open Kit Chart Route Plan Name
/-- Where a line begins. -/
def pos (Q : Nat → ByteArray) : Nat → Nat
  | 0 => 0
  | j + 1 => pos Q j + (Q j).size + 1
abbrev lq (Q : Nat → ByteArray) (j : Nat) : List (List UInt8) := (List.range j).map fun k => (Q k).data.toList
theorem flat_pos (Q : Nat → ByteArray) : ∀ j, (Spl.flat 10 (lq Q j)).length = pos Q j
  | 0 => rfl
  | j + 1 => by
    have e : lq Q (j + 1) = lq Q j ++ [(Q j).data.toList] := by simp [lq, List.range_succ]
    rw [e, Spl.flat_app, List.length_append, flat_pos Q j, Spl.flat_cons, Spl.flat_nil, List.length_append, size_raw]
    show pos Q j + ((Q j).size + 1) = pos Q j + (Q j).size + 1
    omega
theorem line_at {s : ByteArray} {m : Nat} {L Q : Nat → ByteArray} {z : ByteArray} (h : Lin s m L Q z) {j : Nat} (hj : j < m) : ∃ pre post, s.data.toList = pre ++ ((Q j).data.toList ++ 10 :: post) ∧ pre.length = pos Q j := by
  have e : lq Q m = lq Q j ++ ((Q j).data.toList :: (List.range (m - j - 1)).map fun k => (Q (j + 1 + k)).data.toList) := by
    have e1 : List.range m = List.range j ++ (j :: (List.range (m - j - 1)).map (j + 1 + ·)) := by
      have := List.range_add (n := j + 1) (m := m - j - 1)
      rw [show j + 1 + (m - j - 1) = m from by omega, List.range_succ, List.append_assoc] at this
      exact this
    unfold lq
    rw [e1, List.map_append, List.map_cons, List.map_map]; rfl
  refine ⟨Spl.flat 10 (lq Q j), Spl.flat 10 ((List.range (m - j - 1)).map fun k => (Q (j + 1 + k)).data.toList) ++ z.data.toList, ?_, flat_pos Q j⟩
  have t := h.text
  rw [show ((List.range m).map fun k => (Q k).data.toList) = lq Q m from rfl, e, Spl.flat_app, Spl.flat_cons] at t
  rw [t]; simp
structure LineAt (s : ByteArray) (p : Nat) (q : ByteArray) : Prop where
  lt : p + q.size < s.size
  ne : ∀ i, i < q.size → s.data[p + i]? ≠ some 10 ∧ ∃ b, s.data[p + i]? = some b
  nl : s.data[p + q.size]? = some 10
  cut : s.extract p (p + q.size) = q
theorem line_is {s : ByteArray} {m : Nat} {L Q : Nat → ByteArray} {z : ByteArray} (h : Lin s m L Q z) {j : Nat} (hj : j < m) : LineAt s (pos Q j) (Q j) := by
  obtain ⟨pre, post, e, hp⟩ := line_at h hj
  have hf := h.free j hj
  have ql : (Q j).data.toList.length = (Q j).size := size_raw _
  have sl : s.data.toList.length = s.size := size_raw _
  have g : ∀ i : Nat, s.data[i]? = s.data.toList[i]? := fun i => by rw [Array.getElem?_toList]
  refine ⟨?_, fun i hi => ?_, ?_, ba_eq ?_⟩
  · rw [← sl, e, List.length_append, List.length_append, hp, ql, List.length_cons]; omega
  · have e2 : s.data[pos Q j + i]? = (Q j).data.toList[i]? := by
      rw [g, e, List.getElem?_append_right (by omega), hp, show pos Q j + i - pos Q j = i from by omega, List.getElem?_append_left (by omega)]
    rw [e2, List.getElem?_eq_getElem (by omega)]
    exact ⟨fun q => hf (by injection q with q; rw [← q]; exact List.getElem_mem _), _, rfl⟩
  · rw [g, e, List.getElem?_append_right (by omega), hp, List.getElem?_append_right (by omega), show pos Q j + (Q j).size - pos Q j - (Q j).data.toList.length = 0 from by omega]
    rfl
  · rw [ByteArray.data_extract, Array.toList_extract, e, List.extract_eq_take_drop, ← hp, List.drop_left, show pre.length + (Q j).size - pre.length = (Q j).data.toList.length from by omega, List.take_left]
end Pt
end Go.Proofs.YtddlacjjanincaaDoor
