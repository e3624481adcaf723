/- A route of fixes alone: it is its own expansion. Plain. -/
import Derived.Test.YteaccanhahmclaaExpC
namespace Go.Proofs.Yteaccanhahmclaa
open Go.RowKit
namespace Route
open Kit Chart
theorem lst_self (T : List ByteArray) : lst T.length (nth T) = T := by
  refine List.ext_getElem? fun k => ?_
  unfold lst
  rcases Nat.lt_or_ge k T.length with hk | hk
  · rw [List.getElem?_map, List.getElem?_range hk, List.getElem?_eq_getElem hk]
    show some (T.getD k ⟨#[]⟩) = _
    rw [List.getD_eq_getElem?_getD, List.getElem?_eq_getElem hk]; rfl
  · rw [List.getElem?_eq_none (by simpa using hk), List.getElem?_eq_none hk]
theorem lst_snoc (n : Nat) (S : Nat → ByteArray) : lst (n + 1) S = lst n S ++ [S n] := by
  unfold lst; rw [List.range_succ, List.map_append]; rfl
theorem lst_congr {n : Nat} {S S' : Nat → ByteArray} (h : ∀ k, k < n → S k = S' k) : lst n S = lst n S' := by
  unfold lst
  exact List.map_congr_left fun k hk => h k (List.mem_range.1 hk)
/-- All names but the first and the last. -/
def mid (T : List ByteArray) : List ByteArray := lst (T.length - 2) fun j => nth T (j + 1)
theorem its_mid {f t : ByteArray} {T : List ByteArray} (hT : 2 ≤ T.length) (h0 : nth T 0 = f) (h1 : nth T (T.length - 1) = t) : its f t (mid T) = T := by
  rw [its_eq]
  refine List.ext_getElem? fun k => ?_
  have hm : (mid T).length = T.length - 2 := lst_len _ _
  have key : ∀ j, j < T.length → T[j]? = some (nth T j) := fun j hj => by
    show _ = some (T.getD j ⟨#[]⟩)
    rw [List.getD_eq_getElem?_getD, List.getElem?_eq_getElem hj]; rfl
  rcases Nat.eq_zero_or_pos k with hk | hk
  · subst hk
    rw [key 0 (by omega), h0]; rfl
  · rcases Nat.lt_or_ge k (T.length - 1) with hl | hl
    · rw [List.getElem?_append_left (by simp [hm]; omega), List.getElem?_append_right (by simp; omega), key k (by omega)]
      unfold mid lst
      rw [List.getElem?_map, List.getElem?_range (by simp; omega)]
      show some (nth T (k - 1 + 1)) = _
      rw [Nat.sub_add_cancel hk]
    · rcases Nat.lt_or_ge k T.length with hl2 | hl2
      · rw [List.getElem?_append_right (by simp [hm]; omega), key k hl2, show k = T.length - 1 by omega, h1]
        rw [List.length_append, hm, List.length_singleton, show T.length - 1 - (1 + (T.length - 2)) = 0 by omega]; rfl
      · rw [List.getElem?_eq_none (by simp [hm]; omega), List.getElem?_eq_none hl2]
section
variable {n : Nat} {N : Nat → ByteArray} {X Y : Nat → Int} {m : Nat} {M : Nat → ByteArray} {l : Nat → Nat} {S : Nat → Nat → ByteArray} {cl kd f t : ByteArray} {off sp h : Int} {nr : Nat} {RT : Nat → ByteArray}
theorem noaw (hE : cerr n N X Y m M l S = 0) {s : ByteArray} (h : ¬ fix N s n < 0) : aw m M s = false := by
  cases ha : aw m M s with
  | false => rfl
  | true => exact absurd (aw_nofix hE ha) h
theorem nms_plain {I : Nat → ByteArray} {q : Nat} (h : ∀ i, i < q → aw m M (I i) = false) : ∀ k, k < q → nms m M l S I k = lst (k + 1) I
  | 0, _ => rfl
  | k + 1, hk => by
    have e : seg m M l S I (k + 1) = [I (k + 1)] := by
      unfold seg; rw [if_neg (by rw [h _ hk]; decide), if_pos (show aw m M (I (k + 1 - 1)) = false from h k (by omega))]
    show nms m M l S I k ++ seg m M l S I (k + 1) = _
    rw [nms_plain h k (by omega), e, ← lst_snoc]
/-- The expanded route is a route. -/
theorem direct {R : List ByteArray} (o : RtOk n N X Y m M l S f t R) (hT : 2 ≤ (rts m M l S f t R).length) :
    RtOk n N X Y m M l S f t (mid (rts m M l S f t R)) ∧ rts m M l S f t (mid (rts m M l S f t R)) = rts m M l S f t R := by
  have hf := rts_fnd o
  have e := its_mid hT (rts_first R) (rts_last o)
  obtain ⟨T, hTe⟩ : ∃ T, T = rts m M l S f t R := ⟨_, rfl⟩
  have hm := o.moves; have hmo := o.most
  rw [← hTe] at e hf hT hm hmo ⊢
  have hfn : ∀ i, i < T.length → ¬ fix N (nth T i) n < 0 := fun i hi => hf _ (nth_mem hi)
  have haw : ∀ i, i < T.length → aw m M (nth T i) = false := fun i hi => noaw o.chart (hfn i hi)
  have hr : rts m M l S f t (mid T) = T := by
    unfold rts
    rw [e, nms_plain haw (T.length - 1) (by omega), Nat.sub_add_cancel (by omega)]
    exact lst_self T
  refine ⟨⟨o.chart, fun i hi => ?_, fun i hi => ?_, fun i hi => ?_, ?_, ?_⟩, hr⟩
  · rw [e] at hi ⊢
    unfold ierr; rw [if_neg (fun h => hfn i hi h.1)]
  · rw [e] at hi ⊢
    unfold cser; rw [if_neg (fun h => by rw [haw i hi] at h; cases h.2.1)]
  · rw [e] at hi ⊢
    unfold serr; rw [if_neg (fun h => by rw [haw i hi] at h; cases h.2.1)]
  · rw [hr]; exact hm
  · rw [hr]; exact hmo
/-- The plan of that route is right, too. -/
theorem direct_plan {R : List ByteArray} (h0 : Plan.planE cl kd f t off sp h nr RT = 0) (o : RtOk n N X Y m M l S f t R) (h20 : (rts m M l S f t R).length ≤ 20) :
    Plan.planE cl kd f t off sp h ((rts m M l S f t R).length - 2) (fun j => nth (rts m M l S f t R) (j + 1)) = 0 := by
  unfold Plan.planE at h0 ⊢
  split at h0
  · cases h0
  · rename_i a1
    rw [if_neg a1]
    split at h0
    · cases h0
    · rename_i a2
      rw [if_neg a2]
      split at h0
      · cases h0
      · rename_i a3
        rw [if_neg a3, if_neg (by omega), if_neg]
        rw [Int.not_le]
        have : Plan.bix (fun j => nth (rts m M l S f t R) (j + 1)) ((rts m M l S f t R).length - 2) = -1 := fnd_no fun k hk => by
          have hf := rts_fnd o _ (nth_mem (T := rts m M l S f t R) (j := k + 1) (by omega))
          obtain ⟨g1, g2, -⟩ := fix_some hf
          have hn := (fe_ok ((cerr_ok o.chart).2.2.1 _ g1)).1
          rw [g2] at hn
          rw [hn]; rfl
        omega
end
end Route
end Go.Proofs.Yteaccanhahmclaa
