/- The neighbours of a fix in a chart, in plain Lean; sorted names without repetitions. -/
import Derived.Test.YtokioemmjfjhkaaChB
import Derived.Test.YtokioemmjfjhkaaChL
import Derived.Test.YtokioemmjfjhkaaChN
import Derived.Lib.RowBridge
import Derived.Sort.Walk0
namespace Go.Proofs.Ytokioemmjfjhkaa
namespace Lnk
open Chart
/-- The neighbours in one airway. -/
def nbA (S : Nat → ByteArray) (l : Nat) (s : ByteArray) : List ByteArray := if fix S s l < 0 then [] else (if 0 < fix S s l then [S ((fix S s l).toNat - 1)] else []) ++ (if fix S s l + 1 < l then [S ((fix S s l).toNat + 1)] else [])
/-- The neighbours in the first k airways. -/
def nbs (l : Nat → Nat) (S : Nat → Nat → ByteArray) (s : ByteArray) : Nat → List ByteArray
  | 0 => []
  | k + 1 => nbs l S s k ++ nbA (S k) (l k) s
theorem nbA_len (S : Nat → ByteArray) (l : Nat) (s : ByteArray) : (nbA S l s).length ≤ 2 := by
  unfold nbA
  split
  · simp
  · rw [List.length_append]
    split <;> split <;> simp
theorem nbs_len (l : Nat → Nat) (S : Nat → Nat → ByteArray) (s : ByteArray) : ∀ k, (nbs l S s k).length ≤ 2 * k
  | 0 => Nat.le_refl _
  | k + 1 => by
    have ih := nbs_len l S s k
    have := nbA_len (S k) (l k) s
    unfold nbs
    rw [List.length_append]; omega
/-- Two names stand side by side in an airway. -/
def Side (S : Nat → ByteArray) (l : Nat) (s t : ByteArray) : Prop := ∃ i, i + 1 < l ∧ ((S i = s ∧ S (i + 1) = t) ∨ (S i = t ∧ S (i + 1) = s))
theorem Side.symm {S : Nat → ByteArray} {l : Nat} {s t : ByteArray} (h : Side S l s t) : Side S l t s := by
  obtain ⟨i, h1, h2⟩ := h
  exact ⟨i, h1, h2.symm⟩
theorem nbA_mem {S : Nat → ByteArray} {l : Nat} {s t : ByteArray} (hd : ∀ i j, i < l → j < l → S i = S j → i = j) : t ∈ nbA S l s ↔ Side S l s t := by
  unfold nbA
  by_cases h : fix S s l < 0
  · rw [if_pos h]
    constructor
    · intro q; exact absurd q List.not_mem_nil
    · rintro ⟨i, h1, h2⟩
      have no := fnd_neg h
      rcases h2 with ⟨e, -⟩ | ⟨-, e⟩
      · have := no i (by omega)
        rw [decide_eq_false_iff_not] at this
        exact absurd e this
      · have := no (i + 1) h1
        rw [decide_eq_false_iff_not] at this
        exact absurd e this
  · rw [if_neg h]
    obtain ⟨k, h1, h2, h3, -⟩ := fnd_pos (show 0 ≤ fnd (fun k => decide (S k = s)) l from Int.not_lt.1 h)
    have h2 : fix S s l = k := h2
    have h3 : S k = s := of_decide_eq_true h3
    rw [h2, show ((k : Int)).toNat = k by omega]
    constructor
    · intro q
      rcases List.mem_append.1 q with q | q
      · by_cases c : 0 < (k : Int)
        · rw [if_pos c] at q
          rw [List.mem_singleton] at q
          exact ⟨k - 1, by omega, Or.inr ⟨q.symm, by rw [show k - 1 + 1 = k by omega]; exact h3⟩⟩
        · rw [if_neg c] at q; exact absurd q List.not_mem_nil
      · by_cases c : (k : Int) + 1 < l
        · rw [if_pos c] at q
          rw [List.mem_singleton] at q
          exact ⟨k, by omega, Or.inl ⟨h3, q.symm⟩⟩
        · rw [if_neg c] at q; exact absurd q List.not_mem_nil
    · rintro ⟨i, g1, g2⟩
      rcases g2 with ⟨e1, e2⟩ | ⟨e1, e2⟩
      · have := hd i k (by omega) h1 (by rw [e1, h3])
        subst this
        refine List.mem_append.2 (Or.inr ?_)
        rw [if_pos (by omega), List.mem_singleton]; exact e2.symm
      · have := hd (i + 1) k g1 h1 (by rw [e2, h3])
        subst this
        refine List.mem_append.2 (Or.inl ?_)
        rw [if_pos (by omega), List.mem_singleton]; exact e1.symm
theorem nbs_mem {l : Nat → Nat} {S : Nat → Nat → ByteArray} {s t : ByteArray} : ∀ {m : Nat}, (∀ a, a < m → ∀ i j, i < l a → j < l a → S a i = S a j → i = j) → (t ∈ nbs l S s m ↔ ∃ a, a < m ∧ Side (S a) (l a) s t)
  | 0, _ => ⟨fun q => absurd q List.not_mem_nil, fun ⟨a, h, _⟩ => absurd h (Nat.not_lt_zero a)⟩
  | m + 1, hd => by
    have ih := nbs_mem (s := s) (t := t) (m := m) fun a ha => hd a (by omega)
    have one := nbA_mem (s := s) (t := t) (hd m (by omega))
    show t ∈ nbs l S s m ++ nbA (S m) (l m) s ↔ _
    rw [List.mem_append, ih, one]
    constructor
    · rintro (⟨a, h1, h2⟩ | h)
      · exact ⟨a, by omega, h2⟩
      · exact ⟨m, by omega, h⟩
    · rintro ⟨a, h1, h2⟩
      by_cases e : a = m
      · subst e; exact Or.inr h2
      · exact Or.inl ⟨a, by omega, h2⟩
/-- Ascending, no name twice. -/
def Asc (L : List ByteArray) : Prop := L.Pairwise fun x y => Op.bytesLess x.toList y.toList = true
theorem ba_eq {x y : ByteArray} (h : x.data.toList = y.data.toList) : x = y := by
  obtain ⟨⟨a⟩⟩ := x
  obtain ⟨⟨b⟩⟩ := y
  have h : a = b := h
  rw [h]
/-- The names of a sorted list of bytes' lists, each once. -/
def uni (zs : List (List UInt8)) : List ByteArray := (Lib.compact zs).map fun u => ⟨u.toArray⟩
theorem kept_mem {zs : List (List UInt8)} {x : List UInt8} : x ∈ Lib.compact zs ↔ x ∈ zs := by
  unfold Lib.compact Lib.compactUpTo
  constructor
  · intro h
    obtain ⟨i, hi, e⟩ := List.mem_map.1 h
    have hi := List.mem_range.1 (List.mem_filter.1 hi).1
    rw [← e, getElem!_pos zs.toArray i (by simpa using hi)]
    simp
  · intro h
    obtain ⟨i, hi, e⟩ := List.mem_iff_getElem.1 h
    -- the first place at which it stands
    have first : ∀ n, n < zs.length → zs.toArray[n]! = x → ∃ j, j < zs.length ∧ zs.toArray[j]! = x ∧ Lib.keeps zs.toArray j = true := by
      intro n
      induction n with
      | zero => intro hn e; exact ⟨0, hn, e, by unfold Lib.keeps; exact decide_eq_true (Or.inl rfl)⟩
      | succ n ih =>
        intro hn e
        by_cases g : zs.toArray[n]! = x
        · exact ih (by omega) g
        · exact ⟨n + 1, hn, e, by unfold Lib.keeps; refine decide_eq_true (Or.inr ?_); rw [show n + 1 - 1 = n from rfl, e]; exact fun q => g q.symm⟩
    obtain ⟨j, h1, h2, h3⟩ := first i hi (by rw [getElem!_pos zs.toArray i (by simpa using hi)]; simpa using e)
    exact List.mem_map.2 ⟨j, List.mem_filter.2 ⟨List.mem_range.2 h1, h3⟩, h2⟩
theorem uni_mem {zs : List (List UInt8)} {x : ByteArray} : x ∈ uni zs ↔ x.data.toList ∈ zs := by
  unfold uni
  constructor
  · intro h
    obtain ⟨u, hu, e⟩ := List.mem_map.1 h
    rw [← e]; exact kept_mem.1 hu
  · intro h
    exact List.mem_map.2 ⟨_, kept_mem.2 h, ba_eq rfl⟩
theorem uni_asc {zs : List (List UInt8)} (h : zs.Pairwise fun x y => ¬ y < x) : Asc (uni zs) := by
  unfold Asc uni Lib.compact Lib.compactUpTo
  rw [List.pairwise_map, List.pairwise_map]
  have base : ((List.range zs.length).filter (Lib.keeps zs.toArray)).Pairwise (· < ·) := List.Pairwise.filter _ List.pairwise_lt_range
  refine (List.Pairwise.imp_of_mem ?_ base)
  intro i j hi hj hij
  have hjl := List.mem_range.1 (List.mem_filter.1 hj).1
  have hk := (List.mem_filter.1 hj).2
  have hkd : zs.toArray[j]! ≠ zs.toArray[j - 1]! := by
    unfold Lib.keeps at hk
    rcases of_decide_eq_true hk with q | q
    · omega
    · exact q
  have le : ∀ a b, a ≤ b → b < zs.length → ¬ zs.toArray[b]! < zs.toArray[a]! := fun a b hab hb => by
    have ha : a < zs.length := by omega
    rw [getElem!_pos zs.toArray a (by simpa using ha), getElem!_pos zs.toArray b (by simpa using hb)]
    simp only [List.getElem_toArray]
    by_cases e : a = b
    · subst e; exact List.lt_irrefl _
    · exact List.pairwise_iff_getElem.1 h a b ha hb (by omega)
  have l1 := le i (j - 1) (by omega) (by omega)
  have l2 := le (j - 1) j (by omega) hjl
  rw [ByteArray.toList_eq, ByteArray.toList_eq, bytesLess_eq]
  refine decide_eq_true ?_
  show zs.toArray[i]! < zs.toArray[j]!
  have t : zs.toArray[j - 1]! < zs.toArray[j]! := by
    rcases Classical.em (zs.toArray[j - 1]! < zs.toArray[j]!) with q | q
    · exact q
    · exact absurd (List.le_antisymm q l2).symm (fun e => hkd e.symm)
  exact List.lt_of_le_of_lt l1 t
theorem sort_pair (zs : List (List UInt8)) : (zs.mergeSort fun x y => decide (x ≤ y)).Pairwise fun x y => ¬ y < x := by
  have q := List.pairwise_mergeSort (le := fun x y : List UInt8 => decide (x ≤ y)) (fun a b c h1 h2 => decide_eq_true (List.le_trans (of_decide_eq_true h1) (of_decide_eq_true h2))) (fun a b => by
    rcases List.le_total a b with h | h
    · simp [h]
    · simp [h]) zs
  exact q.imp fun h => of_decide_eq_true h
/-- The links: what chart.Links returns. -/
def links (l : Nat → Nat) (S : Nat → Nat → ByteArray) (s : ByteArray) (m : Nat) : List ByteArray := uni (((nbs l S s m).map fun x => x.data.toList).mergeSort fun x y => decide (x ≤ y))
theorem links_asc (l : Nat → Nat) (S : Nat → Nat → ByteArray) (s : ByteArray) (m : Nat) : Asc (links l S s m) := uni_asc (sort_pair _)
theorem links_mem0 {l : Nat → Nat} {S : Nat → Nat → ByteArray} {s t : ByteArray} {m : Nat} : t ∈ links l S s m ↔ t ∈ nbs l S s m := by
  unfold links
  rw [uni_mem, List.mem_mergeSort, List.mem_map]
  constructor
  · rintro ⟨x, hx, e⟩
    rw [← ba_eq e]; exact hx
  · intro h; exact ⟨t, h, rfl⟩
/-- In a chart that passes no airway names a fix twice. -/
theorem names_once {n : Nat} {N : Nat → ByteArray} {X Y : Nat → Int} {m : Nat} {M : Nat → ByteArray} {l : Nat → Nat} {S : Nat → Nat → ByteArray} (h : cerr n N X Y m M l S = 0) : ∀ a, a < m → ∀ i j, i < l a → j < l a → S a i = S a j → i = j := by
  have one : ∀ a, a < m → ∀ i j, i < j → j < l a → S a i = S a j → False := fun a ha i j hij hj e => by
    have q := (aerr_len ((cerr_ok h).2.2.2 a ha)).2.2.2.2.2 j hj
    unfold nerr at q
    split at q
    · exact absurd q (by decide)
    · split at q
      · exact absurd q (by decide)
      · rename_i h2
        have no := fnd_neg (Int.not_le.1 h2) i hij
        rw [decide_eq_false_iff_not] at no
        exact no e
  intro a ha i j hi hj e
  rcases Nat.lt_trichotomy i j with q | q | q
  · exact (one a ha i j q hj e).elim
  · exact q
  · exact (one a ha j i q hi e.symm).elim
section
variable {n : Nat} {N : Nat → ByteArray} {X Y : Nat → Int} {m : Nat} {M : Nat → ByteArray} {l : Nat → Nat} {S : Nat → Nat → ByteArray}
theorem links_mem (h : cerr n N X Y m M l S = 0) {s t : ByteArray} : t ∈ links l S s m ↔ ∃ a, a < m ∧ Side (S a) (l a) s t := by
  rw [links_mem0, nbs_mem (names_once h)]
theorem links_symm (h : cerr n N X Y m M l S = 0) {s t : ByteArray} (q : t ∈ links l S s m) : s ∈ links l S t m := by
  rw [links_mem h] at *
  obtain ⟨a, h1, h2⟩ := q
  exact ⟨a, h1, h2.symm⟩
theorem links_ne (h : cerr n N X Y m M l S = 0) {s t : ByteArray} (q : t ∈ links l S s m) : t ≠ s := by
  rw [links_mem h] at q
  obtain ⟨a, h1, i, h2, h3⟩ := q
  intro e
  have := names_once h a h1 i (i + 1) (by omega) h2 (by rcases h3 with ⟨e1, e2⟩ | ⟨e1, e2⟩ <;> rw [e1, e2, e])
  omega
/-- A name of an airway is a fix. -/
theorem name_fix (h : cerr n N X Y m M l S = 0) {a i : Nat} (ha : a < m) (hi : i < l a) : 0 ≤ fix N (S a i) n := by
  have q := (aerr_len ((cerr_ok h).2.2.2 a ha)).2.2.2.2.2 i hi
  unfold nerr at q
  split at q
  · exact absurd q (by decide)
  · rename_i h1; exact Int.not_lt.1 h1
theorem links_fix (h : cerr n N X Y m M l S = 0) {s t : ByteArray} (q : t ∈ links l S s m) : 0 ≤ fix N t n := by
  rw [links_mem h] at q
  obtain ⟨a, h1, i, h2, h3⟩ := q
  rcases h3 with ⟨-, e⟩ | ⟨e, -⟩
  · rw [← e]; exact name_fix h h1 h2
  · rw [← e]; exact name_fix h h1 (by omega)
theorem links_len {s' : ByteArray} : (links l S s' m).length ≤ 2 * m := by
  unfold links uni
  rw [List.length_map]
  refine Nat.le_trans (Lib.compact_length_le _) ?_
  rw [List.length_mergeSort, List.length_map]
  exact nbs_len _ _ _ _
end
end Lnk
end Go.Proofs.Ytokioemmjfjhkaa
