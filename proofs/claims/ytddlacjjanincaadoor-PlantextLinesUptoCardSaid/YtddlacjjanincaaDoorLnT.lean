/- Texts cut behind a byte: lines, in plain Lean. -/
import Derived.Test.YtddlacjjanincaaDoorSpl
namespace Go.Proofs.YtddlacjjanincaaDoor
namespace Spl
/-- Each line with its end. -/
def flat (c : UInt8) (Q : List (List UInt8)) : List UInt8 := (Q.map fun x => x ++ [c]).flatten
theorem flat_nil (c : UInt8) : flat c [] = [] := rfl
theorem flat_cons (c : UInt8) (x : List UInt8) (Q : List (List UInt8)) : flat c (x :: Q) = x ++ c :: flat c Q := by simp [flat]
theorem flat_app (c : UInt8) (Q R : List (List UInt8)) : flat c (Q ++ R) = flat c Q ++ flat c R := by simp [flat]
/-- The pieces with the byte kept. -/
def aft (c : UInt8) : List (List UInt8) → List (List UInt8)
  | [] => []
  | [x] => [x]
  | x :: y :: t => (x ++ [c]) :: aft c (y :: t)
theorem aft_push {c b : UInt8} {x : List UInt8} {t : List (List UInt8)} {h : List UInt8} {r : List (List UInt8)} (e : aft c (x :: t) = h :: r) : aft c ((b :: x) :: t) = (b :: h) :: r := by
  cases t with
  | nil =>
    have e : [x] = h :: r := e
    injection e with e1 e2
    rw [← e1, ← e2]; rfl
  | cons y t =>
    have e : (x ++ [c]) :: aft c (y :: t) = h :: r := e
    injection e with e1 e2
    rw [← e1, ← e2]; rfl
theorem splitK_aft (c : UInt8) : ∀ s : List UInt8, Lib.splitK [c] 1 (s.count c) s = aft c (sp c s)
  | [] => rfl
  | b :: l => by
    have ih := splitK_aft c l
    by_cases e : b = c
    · subst e
      rw [List.count_cons_self, sp_hit]
      show (if Lib.index (b :: l) [b] == -1 then _ else _) = _
      have i0 : Lib.index (b :: l) [b] = 0 := by rw [Lib.index_one]; unfold Lib.indexByte; simp
      rw [i0, if_neg (by decide)]
      show (b :: l).take 1 :: Lib.splitK [b] 1 (l.count b) ((b :: l).drop 1) = _
      rw [List.drop_one, List.tail_cons, ih]
      obtain ⟨x, t, e2⟩ := sp_ne b l
      rw [e2]; rfl
    · rw [List.count_cons_of_ne e]
      obtain ⟨x, t, e2⟩ := sp_ne c l
      rw [sp_miss e e2]
      rw [e2] at ih
      cases k : l.count c with
      | zero =>
        rw [k] at ih
        have ih : [l] = aft c (x :: t) := ih
        rw [aft_push ih.symm]; rfl
      | succ n =>
        rw [k] at ih
        have hn : Lib.indexByte l c ≠ -1 := fun q => by have := index_none q; omega
        have hb : (b == c) = false := by simpa using e
        have hi : Lib.index (b :: l) [c] = Lib.indexByte l c + 1 := by
          rw [Lib.index_one]
          show (if b == c then _ else _) = _
          rw [hb, if_neg (by decide), if_neg (by simpa using hn)]
        have hge := Lib.indexByte_ge l c
        obtain ⟨i, hi2⟩ : ∃ i : Nat, Lib.indexByte l c = i := ⟨(Lib.indexByte l c).toNat, by omega⟩
        have u : Lib.splitK [c] 1 (n + 1) l = l.take (i + 1) :: Lib.splitK [c] 1 n (l.drop (i + 1)) := by
          show (if Lib.index l [c] == -1 then _ else _) = _
          rw [Lib.index_one, hi2, if_neg (by simp)]
          rfl
        rw [u] at ih
        rw [aft_push ih.symm]
        show (if Lib.index (b :: l) [c] == -1 then _ else _) = _
        rw [hi, hi2, if_neg (by simp; omega)]
        rw [show ((i : Int) + 1).toNat = i + 1 by omega]
        show (b :: l).take (i + 1 + 1) :: Lib.splitK [c] 1 n ((b :: l).drop (i + 1 + 1)) = _
        rw [List.take_succ_cons, List.drop_succ_cons]
theorem aft_app (c : UInt8) : ∀ (Q : List (List UInt8)) (z : List UInt8), aft c (Q ++ [z]) = (Q.map fun x => x ++ [c]) ++ [z]
  | [], z => rfl
  | [x], z => rfl
  | x :: y :: Q, z => by
    show (x ++ [c]) :: aft c ((y :: Q) ++ [z]) = _
    rw [aft_app c (y :: Q) z]; rfl
theorem sp_flat (c : UInt8) : ∀ (Q : List (List UInt8)) (z : List UInt8), (∀ x ∈ Q, c ∉ x) → c ∉ z → sp c (flat c Q ++ z) = Q ++ [z]
  | [], z, _, hz => sp_one hz
  | x :: Q, z, h, hz => by
    rw [flat_cons, List.append_assoc, List.cons_append, sp_app _ (h x List.mem_cons_self), sp_flat c Q z (fun y hy => h y (List.mem_cons_of_mem _ hy)) hz]
    rfl
theorem jn_flat (c : UInt8) : ∀ (Q : List (List UInt8)) (z : List UInt8), jn c (Q ++ [z]) = flat c Q ++ z
  | [], z => jn_one c z
  | x :: Q, z => by
    have ih := jn_flat c Q z
    rw [flat_cons, List.append_assoc, show (c :: flat c Q) ++ z = c :: (flat c Q ++ z) from rfl, ← ih]
    cases Q with
    | nil => exact jn_cons c x z []
    | cons y Q => exact jn_cons c x y (Q ++ [z])
/-- The lines of a text, and what stands behind the last end. -/
structure Lns (c : UInt8) (s : List UInt8) (Q : List (List UInt8)) (z : List UInt8) : Prop where
  eq : s = flat c Q ++ z
  free : ∀ x ∈ Q, c ∉ x
  rest : c ∉ z
theorem lns (c : UInt8) (s : List UInt8) : ∃ Q z, Lns c s Q z := by
  obtain ⟨x, t, e⟩ := sp_ne c s
  have hne : sp c s ≠ [] := by rw [e]; exact List.cons_ne_nil _ _
  have q := List.dropLast_concat_getLast hne
  have hf := sp_free c s
  refine ⟨(sp c s).dropLast, (sp c s).getLast hne, ?_, fun x hx => hf x (List.dropLast_subset _ hx), hf _ (List.getLast_mem hne)⟩
  rw [← jn_flat, q, jn_sp]
theorem Lns.sp {c : UInt8} {s : List UInt8} {Q : List (List UInt8)} {z : List UInt8} (h : Lns c s Q z) : Spl.sp c s = Q ++ [z] := by
  rw [h.eq]; exact sp_flat c Q z h.free h.rest
theorem Lns.inj {c : UInt8} {s : List UInt8} {Q Q' : List (List UInt8)} {z z' : List UInt8} (h : Lns c s Q z) (h' : Lns c s Q' z') : Q = Q' ∧ z = z' := by
  have e := h.sp.symm.trans h'.sp
  have := List.append_inj' e rfl
  exact ⟨this.1, by simpa using this.2⟩
theorem Lns.after {c : UInt8} {s : List UInt8} {Q : List (List UInt8)} {z : List UInt8} (h : Lns c s Q z) : Lib.splitK [c] 1 (s.count c) s = (Q.map fun x => x ++ [c]) ++ [z] := by
  rw [splitK_aft, h.sp, aft_app]
theorem free_count {c : UInt8} {x : List UInt8} (h : c ∉ x) : x.count c = 0 := List.count_eq_zero.2 h
theorem flat_count (c : UInt8) : ∀ (Q : List (List UInt8)), (∀ x ∈ Q, c ∉ x) → (flat c Q).count c = Q.length
  | [], _ => rfl
  | x :: Q, h => by
    rw [flat_cons, List.count_append, free_count (h x List.mem_cons_self), List.count_cons_self, flat_count c Q fun y hy => h y (List.mem_cons_of_mem _ hy), List.length_cons]
    omega
theorem Lns.count {c : UInt8} {s : List UInt8} {Q : List (List UInt8)} {z : List UInt8} (h : Lns c s Q z) : s.count c = Q.length := by
  rw [h.eq, List.count_append, flat_count c Q h.free, free_count h.rest]; rfl
/-- Behind the last end nothing stands exactly if the text is empty or ends so. -/
theorem Lns.ends {c : UInt8} {s : List UInt8} {Q : List (List UInt8)} {z : List UInt8} (h : Lns c s Q z) : z = [] ↔ (s = [] ∨ Lib.hasSuffix s [c] = true) := by
  have hs : Lib.hasSuffix s [c] = true ↔ ∃ l, s = l ++ [c] := by
    show List.isSuffixOf [c] s = true ↔ _
    rw [List.isSuffixOf_iff_suffix]
    exact ⟨fun ⟨l, hl⟩ => ⟨l, hl.symm⟩, fun ⟨l, hl⟩ => ⟨l, hl.symm⟩⟩
  rw [hs, h.eq]
  constructor
  · rintro rfl
    rcases List.eq_nil_or_concat Q with rfl | ⟨Q', x, rfl⟩
    · exact Or.inl rfl
    · refine Or.inr ⟨flat c Q' ++ x, ?_⟩
      rw [List.concat_eq_append, flat_app, flat_cons, flat_nil, List.append_nil, List.append_assoc]
  · rintro (e | ⟨l, hl⟩)
    · exact (List.append_eq_nil_iff.1 e).2
    · rcases List.eq_nil_or_concat z with rfl | ⟨z', b, rfl⟩
      · rfl
      · exfalso
        rw [List.concat_eq_append, ← List.append_assoc] at hl
        have := List.append_inj' hl rfl
        have hb : b = c := by simpa using this.2
        exact h.rest (by rw [List.concat_eq_append, hb]; exact List.mem_append_right _ List.mem_cons_self)
theorem trim_line (c : UInt8) (x : List UInt8) : Lib.trimSuffix (x ++ [c]) [c] = x := by
  have h : Lib.hasSuffix (x ++ [c]) [c] = true := by
    show List.isSuffixOf [c] (x ++ [c]) = true
    rw [List.isSuffixOf_iff_suffix]; exact ⟨x, rfl⟩
  unfold Lib.trimSuffix
  rw [if_pos h]
  simp
end Spl
end Go.Proofs.YtddlacjjanincaaDoor
