/- Texts cut at a byte and joined again, in plain Lean. -/
import Derived.Lib.SplitLaws
import Derived.Lib.IndexLaws
import Derived.Lib.IndexBytes
import Derived.Lib.Join
import Derived.WalkKit
namespace Go.Proofs.YtddlacjjanincaaDoor
namespace Spl
/-- The pieces between the bytes c. -/
def sp (c : UInt8) : List UInt8 → List (List UInt8)
  | [] => [[]]
  | b :: l => if b = c then [] :: sp c l else match sp c l with
    | [] => [[b]]
    | h :: t => (b :: h) :: t
theorem sp_ne (c : UInt8) : ∀ s, ∃ h t, sp c s = h :: t
  | [] => ⟨[], [], rfl⟩
  | b :: l => by
    unfold sp
    by_cases e : b = c
    · rw [if_pos e]; exact ⟨_, _, rfl⟩
    · rw [if_neg e]
      obtain ⟨h, t, e2⟩ := sp_ne c l
      rw [e2]; exact ⟨_, _, rfl⟩
theorem sp_hit (c : UInt8) (l : List UInt8) : sp c (c :: l) = [] :: sp c l := by
  show (if c = c then _ else _) = _
  rw [if_pos rfl]
theorem sp_miss {c b : UInt8} (h : b ≠ c) {l x : List UInt8} {t : List (List UInt8)} (e : sp c l = x :: t) : sp c (b :: l) = (b :: x) :: t := by
  show (if b = c then _ else match sp c l with | [] => [[b]] | h :: t => (b :: h) :: t) = _
  rw [if_neg h, e]
theorem index_none {l : List UInt8} {c : UInt8} (h : Lib.indexByte l c = -1) : l.count c = 0 := by
  rw [List.count_eq_zero]
  intro hm
  obtain ⟨i, hi, e⟩ := List.mem_iff_getElem.1 hm
  exact Lib.indexByte_none h i (by rw [List.getElem?_eq_getElem hi, e])
theorem splitK_sp (c : UInt8) : ∀ s : List UInt8, Lib.splitK [c] 0 (s.count c) s = sp c s
  | [] => rfl
  | b :: l => by
    have ih := splitK_sp c l
    by_cases e : b = c
    · subst e
      rw [List.count_cons_self, sp_hit]
      show (if Lib.index (b :: l) [b] == -1 then _ else _) = _
      have i0 : Lib.index (b :: l) [b] = 0 := by rw [Lib.index_one]; unfold Lib.indexByte; simp
      rw [i0, if_neg (by decide)]
      show (b :: l).take 0 :: Lib.splitK [b] 0 (l.count b) ((b :: l).drop 1) = _
      rw [List.take_zero, List.drop_one, List.tail_cons, ih]
    · rw [List.count_cons_of_ne e]
      obtain ⟨x, t, e2⟩ := sp_ne c l
      rw [sp_miss e e2]
      rw [e2] at ih
      cases k : l.count c with
      | zero =>
        rw [k] at ih
        have ih : [l] = x :: t := ih
        injection ih with h1 h2
        rw [← h1, ← h2]; rfl
      | succ n =>
        rw [k] at ih
        have hn : Lib.indexByte l c ≠ -1 := fun q => by have := index_none q; omega
        have hb : (b == c) = false := by simpa using e
        have hi : Lib.index (b :: l) [c] = Lib.indexByte l c + 1 := by
          rw [Lib.index_one]
          show (if b == c then _ else _) = _
          rw [hb, if_neg (by decide), if_neg (by simpa using hn)]
        have hge := Lib.indexByte_ge l c
        obtain ⟨i, hi2⟩ : ∃ i : Nat, Lib.indexByte l c = i := ⟨(Lib.indexByte l c).toNat, by omega⟩
        have u : Lib.splitK [c] 0 (n + 1) l = l.take i :: Lib.splitK [c] 0 n (l.drop (i + 1)) := by
          show (if Lib.index l [c] == -1 then _ else _) = _
          rw [Lib.index_one, hi2, if_neg (by simp)]
          rfl
        rw [u] at ih
        injection ih with h1 h2
        show (if Lib.index (b :: l) [c] == -1 then _ else _) = _
        rw [hi, hi2, if_neg (by simp; omega)]
        rw [show ((i : Int) + 1).toNat = i + 1 by omega]
        show (b :: l).take (i + 1 + 0) :: Lib.splitK [c] 0 n ((b :: l).drop (i + 1 + 1)) = _
        rw [Nat.add_zero, List.take_succ_cons, List.drop_succ_cons, h1, h2]
theorem split_sp (c : UInt8) (s : List UInt8) : Lib.split s [c] = sp c s := by
  unfold Lib.split
  rw [Lib.count_one, splitK_sp]
/-- Joined with c. -/
def jn (c : UInt8) (xs : List (List UInt8)) : List UInt8 := Lib.join xs [c]
theorem jn_one (c : UInt8) (x : List UInt8) : jn c [x] = x := Lib.join_one x [c]
theorem jn_cons (c : UInt8) (x y : List UInt8) (t : List (List UInt8)) : jn c (x :: y :: t) = x ++ c :: jn c (y :: t) := by
  unfold jn
  rw [Lib.join_cons, Lib.join_cons]
  simp [Lib.joinTail]
theorem jn_push (c b : UInt8) (x : List UInt8) (t : List (List UInt8)) : jn c ((b :: x) :: t) = b :: jn c (x :: t) := by
  cases t with
  | nil => rw [jn_one, jn_one]
  | cons y t => rw [jn_cons, jn_cons]; rfl
/-- What is cut and joined is the same. -/
theorem jn_sp (c : UInt8) : ∀ s, jn c (sp c s) = s
  | [] => jn_one c []
  | b :: l => by
    have ih := jn_sp c l
    obtain ⟨x, t, e⟩ := sp_ne c l
    rw [e] at ih
    by_cases h : b = c
    · subst h
      rw [sp_hit, e, jn_cons, ih]; rfl
    · rw [sp_miss h e, jn_push, ih]
theorem sp_free (c : UInt8) : ∀ s, ∀ x ∈ sp c s, c ∉ x
  | [], x, hx => by
    have e : x = [] := by simpa [sp] using hx
    rw [e]; exact List.not_mem_nil
  | b :: l, x, hx => by
    have ih := sp_free c l
    obtain ⟨y, t, e⟩ := sp_ne c l
    by_cases h : b = c
    · subst h
      rw [sp_hit] at hx
      rcases List.mem_cons.1 hx with q | q
      · rw [q]; exact List.not_mem_nil
      · exact ih x q
    · rw [sp_miss h e] at hx
      rcases List.mem_cons.1 hx with q | q
      · rw [q]
        intro hm
        rcases List.mem_cons.1 hm with r | r
        · exact h r.symm
        · exact ih y (by rw [e]; exact List.mem_cons_self) r
      · exact ih x (by rw [e]; exact List.mem_cons_of_mem _ q)
theorem sp_app {c : UInt8} : ∀ {x : List UInt8} (l : List UInt8), c ∉ x → sp c (x ++ c :: l) = x :: sp c l
  | [], l, _ => sp_hit c l
  | b :: x, l, h => by
    have hb : b ≠ c := fun e => h (by rw [e]; exact List.mem_cons_self)
    have ih := sp_app (x := x) l fun q => h (List.mem_cons_of_mem _ q)
    exact sp_miss hb ih
theorem sp_one {c : UInt8} : ∀ {x : List UInt8}, c ∉ x → sp c x = [x]
  | [], _ => rfl
  | b :: x, h => by
    have hb : b ≠ c := fun e => h (by rw [e]; exact List.mem_cons_self)
    exact sp_miss hb (sp_one fun q => h (List.mem_cons_of_mem _ q))
/-- What is joined and cut is the same, where no piece has the byte. -/
theorem sp_jn (c : UInt8) : ∀ (t : List (List UInt8)) (x : List UInt8), (∀ y ∈ x :: t, c ∉ y) → sp c (jn c (x :: t)) = x :: t
  | [], x, h => by rw [jn_one]; exact sp_one (h x List.mem_cons_self)
  | y :: t, x, h => by
    rw [jn_cons, sp_app _ (h x List.mem_cons_self), sp_jn c t y fun z hz => h z (List.mem_cons_of_mem _ hz)]
end Spl
end Go.Proofs.YtddlacjjanincaaDoor
