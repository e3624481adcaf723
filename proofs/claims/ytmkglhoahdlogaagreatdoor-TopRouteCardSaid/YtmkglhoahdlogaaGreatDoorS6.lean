/- Joined texts: OwnS, LnkP, LnkS, LnkL. -/
import Derived.Test.YtmkglhoahdlogaaGreatDoorJ27
import Derived.Test.YtmkglhoahdlogaaGreatDoorJ08
import Derived.Test.YtmkglhoahdlogaaGreatDoorJ09
import Derived.Lib.RowBridge
import Derived.Sort.Walk0
import Derived.Shelf.Sort.Plain
import Derived.Shelf.Slices.Cells
import Derived.Shelf.Slices.CompactS
import Derived.Shelf.Slices.In.SortNone
import Derived.Shelf.Lay
namespace Go.Proofs.YtmkglhoahdlogaaGreatDoor
open Go.RowKit
namespace Own0
open Kit Chart Route
theorem vs_srow (L : List ByteArray) : vs L = srow (fun k => L.getD k ⟨#[]⟩) L.length := by
  apply List.ext_getElem?
  intro i
  rcases Nat.lt_or_ge i L.length with h | h
  · rw [srow_at h, List.getElem?_map, List.getElem?_eq_getElem h, List.getD_eq_getElem?_getD, List.getElem?_eq_getElem h]; rfl
  · rw [List.getElem?_eq_none (by rw [List.length_map]; exact h), List.getElem?_eq_none (by rw [srow_len]; exact h)]
/-- Cells of names that may be turned. -/
def Row (w : World) (g n : Nat) (S : Nat → ByteArray) : Prop := ∀ k, k < n → w.cell? ⟨g, k, none⟩ = some (.string (S k)) ∧ w.frozen? ⟨g, k, none⟩ = false
theorem row_of {w : World} {base : Nat} {E : TypeId} {v : Value} {L : List ByteArray} (h : w.ownsRow base E 1 v L.length (vs L)) (h0 : 0 < L.length) : ∃ g cap, v = .slice (some ⟨g, 0, none⟩) L.length cap ∧ base ≤ g ∧ g < w.heap.size ∧ L.length ≤ cap ∧ cap ≤ maxLen ∧ Row w g L.length (fun k => L.getD k ⟨#[]⟩) := by
  rw [vs_srow] at h
  obtain ⟨g, cap, e, h1, h2, h3, h4, h5⟩ := srow_of h h0
  exact ⟨g, cap, e, h1, h2, h3, h4, fun k hk => ⟨h5.cell k hk, h5.free k⟩⟩
theorem row_keep {w w1 : World} (hb : Below w.heap.size w w1) {g n : Nat} {S : Nat → ByteArray} (h : Row w g n S) : Row w1 g n S := fun k hk => ⟨keep hb (h k hk).1, keepF hb (h k hk).1 (h k hk).2⟩
theorem own_lt {w : World} {base : Nat} {E : TypeId} {C n : Nat} {v : Value} {xs : List Value} (h : w.ownsRow base E C v n xs) : ∀ b, v.ownBlock = some b → b < w.heap.size := by
  intro b hb
  rcases h.2 with ⟨rfl, -⟩ | ⟨g, cap, cur, rfl, -, hg, -⟩
  · cases hb
  · cases hb; exact (Array.getElem?_eq_some_iff.1 hg).1
theorem own_below {W w1 : World} {base : Nat} {E : TypeId} {C n : Nat} {v : Value} {xs : List Value} (hb : Below W.heap.size W w1) (h : W.ownsRow base E C v n xs) : w1.ownsRow base E C v n xs := by
  refine ⟨h.1, ?_⟩
  rcases h.2 with hh | ⟨g, cap, cur, hv, h1, hg, h2⟩
  · exact Or.inl hh
  · exact Or.inr ⟨g, cap, cur, hv, h1, (hb.block g (Array.getElem?_eq_some_iff.1 hg).1).trans hg, h2⟩
theorem own_slice0 {w : World} {base : Nat} {E : TypeId} {C n : Nat} {v : Value} {xs : List Value} (h : w.ownsRow base E C v n xs) : ∃ A cap, v = .slice A n cap := by
  rcases h.2 with ⟨rfl, rfl⟩ | ⟨g, cap, cur, rfl, -⟩
  · exact ⟨_, _, rfl⟩
  · exact ⟨_, _, rfl⟩
theorem own_ge0 {w : World} {base : Nat} {E : TypeId} {C n : Nat} {v : Value} {xs : List Value} (h : w.ownsRow base E C v n xs) : ∀ k, v.ownBlock = some k → base ≤ k := by
  intro k hk
  rcases h.2 with ⟨rfl, -⟩ | ⟨g, cap, cur, rfl, h1, -⟩
  · simp [Value.ownBlock] at hk
  · simp [Value.ownBlock] at hk; omega
theorem grow_b {N : Nat} {W w w1 : World} {v : Value} {base : Nat} {E : TypeId} {C n : Nat} {xs : List Value} (hb : Below N W w) (h : w.ownsRow base E C v n xs) (hg : w.grownBy w1 v.ownBlock) (hN : N ≤ base) (hs : N ≤ w.heap.size) : Below N W w1 :=
  hb.grown hg hs (fun k hk => Nat.le_trans hN (own_ge0 h k hk))
end Own0
end Go.Proofs.YtmkglhoahdlogaaGreatDoor
namespace Go.Proofs.YtmkglhoahdlogaaGreatDoor
namespace Lnk
open Chart
/-- The neighbours in one airway. -/
def nbA (S : Nat → ByteArray) (l : Nat) (s : ByteArray) : List ByteArray := if fix S s l < 0 then [] else (if 0 < fix S s l then [S ((fix S s l).toNat - 1)] else []) ++ (if fix S s l + 1 < l then [S ((fix S s l).toNat + 1)] else [])
/-- The neighbours in the first k airways. -/
def nbs (l : Nat → Nat) (S : Nat → Nat → ByteArray) (s : ByteArray) : Nat → List ByteArray
  | 0 => []
  | k + 1 => nbs l S s k ++ nbA (S k) (l k) s
theorem nbA_len (S : Nat → ByteArray) (l : Nat) (s : ByteArray) : (nbA S l s).length ≤ 2 := by
  unfold nbA
  split
  · simp
  · rw [List.length_append]
    split <;> split <;> simp
theorem nbs_len (l : Nat → Nat) (S : Nat → Nat → ByteArray) (s : ByteArray) : ∀ k, (nbs l S s k).length ≤ 2 * k
  | 0 => Nat.le_refl _
  | k + 1 => by
    have ih := nbs_len l S s k
    have := nbA_len (S k) (l k) s
    unfold nbs
    rw [List.length_append]; omega
/-- Two names stand side by side in an airway. -/
def Side (S : Nat → ByteArray) (l : Nat) (s t : ByteArray) : Prop := ∃ i, i + 1 < l ∧ ((S i = s ∧ S (i + 1) = t) ∨ (S i = t ∧ S (i + 1) = s))
theorem Side.symm {S : Nat → ByteArray} {l : Nat} {s t : ByteArray} (h : Side S l s t) : Side S l t s := by
  obtain ⟨i, h1, h2⟩ := h
  exact ⟨i, h1, h2.symm⟩
theorem nbA_mem {S : Nat → ByteArray} {l : Nat} {s t : ByteArray} (hd : ∀ i j, i < l → j < l → S i = S j → i = j) : t ∈ nbA S l s ↔ Side S l s t := by
  unfold nbA
  by_cases h : fix S s l < 0
  · rw [if_pos h]
    constructor
    · intro q; exact absurd q List.not_mem_nil
    · rintro ⟨i, h1, h2⟩
      have no := fnd_neg h
      rcases h2 with ⟨e, -⟩ | ⟨-, e⟩
      · have := no i (by omega)
        rw [decide_eq_false_iff_not] at this
        exact absurd e this
      · have := no (i + 1) h1
        rw [decide_eq_false_iff_not] at this
        exact absurd e this
  · rw [if_neg h]
    obtain ⟨k, h1, h2, h3, -⟩ := fnd_pos (show 0 ≤ fnd (fun k => decide (S k = s)) l from Int.not_lt.1 h)
    have h2 : fix S s l = k := h2
    have h3 : S k = s := of_decide_eq_true h3
    rw [h2, show ((k : Int)).toNat = k by omega]
    constructor
    · intro q
      rcases List.mem_append.1 q with q | q
      · by_cases c : 0 < (k : Int)
        · rw [if_pos c] at q
          rw [List.mem_singleton] at q
          exact ⟨k - 1, by omega, Or.inr ⟨q.symm, by rw [show k - 1 + 1 = k by omega]; exact h3⟩⟩
        · rw [if_neg c] at q; exact absurd q List.not_mem_nil
      · by_cases c : (k : Int) + 1 < l
        · rw [if_pos c] at q
          rw [List.mem_singleton] at q
          exact ⟨k, by omega, Or.inl ⟨h3, q.symm⟩⟩
        · rw [if_neg c] at q; exact absurd q List.not_mem_nil
    · rintro ⟨i, g1, g2⟩
      rcases g2 with ⟨e1, e2⟩ | ⟨e1, e2⟩
      · have := hd i k (by omega) h1 (by rw [e1, h3])
        subst this
        refine List.mem_append.2 (Or.inr ?_)
        rw [if_pos (by omega), List.mem_singleton]; exact e2.symm
      · have := hd (i + 1) k g1 h1 (by rw [e2, h3])
        subst this
        refine List.mem_append.2 (Or.inl ?_)
        rw [if_pos (by omega), List.mem_singleton]; exact e1.symm
theorem nbs_mem {l : Nat → Nat} {S : Nat → Nat → ByteArray} {s t : ByteArray} : ∀ {m : Nat}, (∀ a, a < m → ∀ i j, i < l a → j < l a → S a i = S a j → i = j) → (t ∈ nbs l S s m ↔ ∃ a, a < m ∧ Side (S a) (l a) s t)
  | 0, _ => ⟨fun q => absurd q List.not_mem_nil, fun ⟨a, h, _⟩ => absurd h (Nat.not_lt_zero a)⟩
  | m + 1, hd => by
    have ih := nbs_mem (s := s) (t := t) (m := m) fun a ha => hd a (by omega)
    have one := nbA_mem (s := s) (t := t) (hd m (by omega))
    show t ∈ nbs l S s m ++ nbA (S m) (l m) s ↔ _
    rw [List.mem_append, ih, one]
    constructor
    · rintro (⟨a, h1, h2⟩ | h)
      · exact ⟨a, by omega, h2⟩
      · exact ⟨m, by omega, h⟩
    · rintro ⟨a, h1, h2⟩
      by_cases e : a = m
      · subst e; exact Or.inr h2
      · exact Or.inl ⟨a, by omega, h2⟩
/-- Ascending, no name twice. -/
def Asc (L : List ByteArray) : Prop := L.Pairwise fun x y => Op.bytesLess x.toList y.toList = true
theorem ba_eq {x y : ByteArray} (h : x.data.toList = y.data.toList) : x = y := by
  obtain ⟨⟨a⟩⟩ := x
  obtain ⟨⟨b⟩⟩ := y
  have h : a = b := h
  rw [h]
/-- The names of a sorted list of bytes' lists, each once. -/
def uni (zs : List (List UInt8)) : List ByteArray := (Lib.compact zs).map fun u => ⟨u.toArray⟩
theorem kept_mem {zs : List (List UInt8)} {x : List UInt8} : x ∈ Lib.compact zs ↔ x ∈ zs := by
  unfold Lib.compact Lib.compactUpTo
  constructor
  · intro h
    obtain ⟨i, hi, e⟩ := List.mem_map.1 h
    have hi := List.mem_range.1 (List.mem_filter.1 hi).1
    rw [← e, getElem!_pos zs.toArray i (by simpa using hi)]
    simp
  · intro h
    obtain ⟨i, hi, e⟩ := List.mem_iff_getElem.1 h
    -- the first place at which it stands
    have first : ∀ n, n < zs.length → zs.toArray[n]! = x → ∃ j, j < zs.length ∧ zs.toArray[j]! = x ∧ Lib.keeps zs.toArray j = true := by
      intro n
      induction n with
      | zero => intro hn e; exact ⟨0, hn, e, by unfold Lib.keeps; exact decide_eq_true (Or.inl rfl)⟩
      | succ n ih =>
        intro hn e
        by_cases g : zs.toArray[n]! = x
        · exact ih (by omega) g
        · exact ⟨n + 1, hn, e, by unfold Lib.keeps; refine decide_eq_true (Or.inr ?_); rw [show n + 1 - 1 = n from rfl, e]; exact fun q => g q.symm⟩
    obtain ⟨j, h1, h2, h3⟩ := first i hi (by rw [getElem!_pos zs.toArray i (by simpa using hi)]; simpa using e)
    exact List.mem_map.2 ⟨j, List.mem_filter.2 ⟨List.mem_range.2 h1, h3⟩, h2⟩
theorem uni_mem {zs : List (List UInt8)} {x : ByteArray} : x ∈ uni zs ↔ x.data.toList ∈ zs := by
  unfold uni
  constructor
  · intro h
    obtain ⟨u, hu, e⟩ := List.mem_map.1 h
    rw [← e]; exact kept_mem.1 hu
  · intro h
    exact List.mem_map.2 ⟨_, kept_mem.2 h, ba_eq rfl⟩
theorem uni_asc {zs : List (List UInt8)} (h : zs.Pairwise fun x y => ¬ y < x) : Asc (uni zs) := by
  unfold Asc uni Lib.compact Lib.compactUpTo
  rw [List.pairwise_map, List.pairwise_map]
  have base : ((List.range zs.length).filter (Lib.keeps zs.toArray)).Pairwise (· < ·) := List.Pairwise.filter _ List.pairwise_lt_range
  refine (List.Pairwise.imp_of_mem ?_ base)
  intro i j hi hj hij
  have hjl := List.mem_range.1 (List.mem_filter.1 hj).1
  have hk := (List.mem_filter.1 hj).2
  have hkd : zs.toArray[j]! ≠ zs.toArray[j - 1]! := by
    unfold Lib.keeps at hk
    rcases of_decide_eq_true hk with q | q
    · omega
    · exact q
  have le : ∀ a b, a ≤ b → b < zs.length → ¬ zs.toArray[b]! < zs.toArray[a]! := fun a b hab hb => by
    have ha : a < zs.length := by omega
    rw [getElem!_pos zs.toArray a (by simpa using ha), getElem!_pos zs.toArray b (by simpa using hb)]
    simp only [List.getElem_toArray]
    by_cases e : a = b
    · subst e; exact List.lt_irrefl _
    · exact List.pairwise_iff_getElem.1 h a b ha hb (by omega)
  have l1 := le i (j - 1) (by omega) (by omega)
  have l2 := le (j - 1) j (by omega) hjl
  rw [ByteArray.toList_eq, ByteArray.toList_eq, bytesLess_eq]
  refine decide_eq_true ?_
  show zs.toArray[i]! < zs.toArray[j]!
  have t : zs.toArray[j - 1]! < zs.toArray[j]! := by
    rcases Classical.em (zs.toArray[j - 1]! < zs.toArray[j]!) with q | q
    · exact q
    · exact absurd (List.le_antisymm q l2).symm (fun e => hkd e.symm)
  exact List.lt_of_le_of_lt l1 t
theorem sort_pair (zs : List (List UInt8)) : (zs.mergeSort fun x y => decide (x ≤ y)).Pairwise fun x y => ¬ y < x := by
  have q := List.pairwise_mergeSort (le := fun x y : List UInt8 => decide (x ≤ y)) (fun a b c h1 h2 => decide_eq_true (List.le_trans (of_decide_eq_true h1) (of_decide_eq_true h2))) (fun a b => by
    rcases List.le_total a b with h | h
    · simp [h]
    · simp [h]) zs
  exact q.imp fun h => of_decide_eq_true h
/-- The links: what chart.Links returns. -/
def links (l : Nat → Nat) (S : Nat → Nat → ByteArray) (s : ByteArray) (m : Nat) : List ByteArray := uni (((nbs l S s m).map fun x => x.data.toList).mergeSort fun x y => decide (x ≤ y))
theorem links_asc (l : Nat → Nat) (S : Nat → Nat → ByteArray) (s : ByteArray) (m : Nat) : Asc (links l S s m) := uni_asc (sort_pair _)
theorem links_mem0 {l : Nat → Nat} {S : Nat → Nat → ByteArray} {s t : ByteArray} {m : Nat} : t ∈ links l S s m ↔ t ∈ nbs l S s m := by
  unfold links
  rw [uni_mem, List.mem_mergeSort, List.mem_map]
  constructor
  · rintro ⟨x, hx, e⟩
    rw [← ba_eq e]; exact hx
  · intro h; exact ⟨t, h, rfl⟩
/-- In a chart that passes no airway names a fix twice. -/
theorem names_once {n : Nat} {N : Nat → ByteArray} {X Y : Nat → Int} {m : Nat} {M : Nat → ByteArray} {l : Nat → Nat} {S : Nat → Nat → ByteArray} (h : cerr n N X Y m M l S = 0) : ∀ a, a < m → ∀ i j, i < l a → j < l a → S a i = S a j → i = j := by
  have one : ∀ a, a < m → ∀ i j, i < j → j < l a → S a i = S a j → False := fun a ha i j hij hj e => by
    have q := (aerr_len ((cerr_ok h).2.2.2 a ha)).2.2.2.2.2 j hj
    unfold nerr at q
    split at q
    · exact absurd q (by decide)
    · split at q
      · exact absurd q (by decide)
      · rename_i h2
        have no := fnd_neg (Int.not_le.1 h2) i hij
        rw [decide_eq_false_iff_not] at no
        exact no e
  intro a ha i j hi hj e
  rcases Nat.lt_trichotomy i j with q | q | q
  · exact (one a ha i j q hj e).elim
  · exact q
  · exact (one a ha j i q hi e.symm).elim
section
variable {n : Nat} {N : Nat → ByteArray} {X Y : Nat → Int} {m : Nat} {M : Nat → ByteArray} {l : Nat → Nat} {S : Nat → Nat → ByteArray}
theorem links_mem (h : cerr n N X Y m M l S = 0) {s t : ByteArray} : t ∈ links l S s m ↔ ∃ a, a < m ∧ Side (S a) (l a) s t := by
  rw [links_mem0, nbs_mem (names_once h)]
theorem links_symm (h : cerr n N X Y m M l S = 0) {s t : ByteArray} (q : t ∈ links l S s m) : s ∈ links l S t m := by
  rw [links_mem h] at *
  obtain ⟨a, h1, h2⟩ := q
  exact ⟨a, h1, h2.symm⟩
theorem links_ne (h : cerr n N X Y m M l S = 0) {s t : ByteArray} (q : t ∈ links l S s m) : t ≠ s := by
  rw [links_mem h] at q
  obtain ⟨a, h1, i, h2, h3⟩ := q
  intro e
  have := names_once h a h1 i (i + 1) (by omega) h2 (by rcases h3 with ⟨e1, e2⟩ | ⟨e1, e2⟩ <;> rw [e1, e2, e])
  omega
/-- A name of an airway is a fix. -/
theorem name_fix (h : cerr n N X Y m M l S = 0) {a i : Nat} (ha : a < m) (hi : i < l a) : 0 ≤ fix N (S a i) n := by
  have q := (aerr_len ((cerr_ok h).2.2.2 a ha)).2.2.2.2.2 i hi
  unfold nerr at q
  split at q
  · exact absurd q (by decide)
  · rename_i h1; exact Int.not_lt.1 h1
theorem links_fix (h : cerr n N X Y m M l S = 0) {s t : ByteArray} (q : t ∈ links l S s m) : 0 ≤ fix N t n := by
  rw [links_mem h] at q
  obtain ⟨a, h1, i, h2, h3⟩ := q
  rcases h3 with ⟨-, e⟩ | ⟨e, -⟩
  · rw [← e]; exact name_fix h h1 h2
  · rw [← e]; exact name_fix h h1 (by omega)
theorem links_len {s' : ByteArray} : (links l S s' m).length ≤ 2 * m := by
  unfold links uni
  rw [List.length_map]
  refine Nat.le_trans (Lib.compact_length_le _) ?_
  rw [List.length_mergeSort, List.length_map]
  exact nbs_len _ _ _ _
end
end Lnk
end Go.Proofs.YtmkglhoahdlogaaGreatDoor
namespace Go.Proofs.YtmkglhoahdlogaaGreatDoor
open Go.RowKit Go.Shelf
shelf_lay Lays.n190 Nm 190 at Tryz as sortLays
shelf_lay Lays.n194 Nm 194 at Tryz as compactLays
namespace Lnk
open Kit Chart Route
theorem vs_srow (L : List ByteArray) : vs L = srow (fun k => L.getD k ⟨#[]⟩) L.length := by
  apply List.ext_getElem?
  intro i
  rcases Nat.lt_or_ge i L.length with h | h
  · rw [srow_at h, List.getElem?_map, List.getElem?_eq_getElem h, List.getD_eq_getElem?_getD, List.getElem?_eq_getElem h]; rfl
  · rw [List.getElem?_eq_none (by rw [List.length_map]; exact h), List.getElem?_eq_none (by rw [srow_len]; exact h)]
theorem below_put {N : Nat} {w0 w : World} {g q : Nat} {d : Array (List UInt8)} {os : Array Obj} (h : Below N w0 w) (hN : N ≤ w0.heap.size) (hg : N ≤ g) : Below N w0 (Go.Sort.grow (Go.Sort.putRow encStr (Go.Sort.ahead w q) g 0 d) os) := by
  have hp : Below N w0 (Go.Sort.putRow encStr (Go.Sort.ahead w q) g 0 d) :=
    ⟨h.os, h.tape, h.output, by simpa [Go.Sort.putRow, Go.Sort.mapBlock, Go.Sort.ahead] using h.size, fun k hk => by
      rw [← h.block k hk]
      simp [Go.Sort.putRow, Go.Sort.mapBlock, Go.Sort.ahead, Array.getElem?_modify, show g ≠ k by omega]⟩
  refine ⟨hp.os, hp.tape, hp.output, ?_, fun k hk => ?_⟩
  · rw [Go.Sort.size_grow]; exact Nat.le_trans hp.size (Nat.le_add_right _ _)
  · rw [← hp.block k hk]
    exact Go.Sort.heap_grow_old _ _ (Nat.lt_of_lt_of_le hk (Nat.le_trans hN hp.size))
/-- Names sorted. -/
def srt (L : List ByteArray) : List (List UInt8) := (L.map fun x => x.data.toList).mergeSort fun x y => decide (x ≤ y)
theorem uni_nil : uni (srt []) = [] := by simp [srt, uni, Lib.compact, Lib.compactUpTo]
theorem srt_len (L : List ByteArray) : (srt L).length = L.length := by unfold srt; rw [List.length_mergeSort, List.length_map]
/-- Cells of names that may be turned. -/
def Row (w : World) (g n : Nat) (S : Nat → ByteArray) : Prop := ∀ k, k < n → w.cell? ⟨g, k, none⟩ = some (.string (S k)) ∧ w.frozen? ⟨g, k, none⟩ = false
def nth (zs : List (List UInt8)) (k : Nat) : ByteArray := ⟨(zs.getD k []).toArray⟩
theorem row_of {w : World} {base : Nat} {E : TypeId} {v : Value} {L : List ByteArray} (h : w.ownsRow base E 1 v L.length (vs L)) (h0 : 0 < L.length) : ∃ g cap, v = .slice (some ⟨g, 0, none⟩) L.length cap ∧ base ≤ g ∧ g < w.heap.size ∧ L.length ≤ cap ∧ cap ≤ maxLen ∧ Row w g L.length (fun k => L.getD k ⟨#[]⟩) := by
  rw [vs_srow] at h
  obtain ⟨g, cap, e, h1, h2, h3, h4, h5⟩ := srow_of h h0
  exact ⟨g, cap, e, h1, h2, h3, h4, fun k hk => ⟨h5.cell k hk, h5.free k⟩⟩
theorem row_keep {w w1 : World} (hb : Below w.heap.size w w1) {g n : Nat} {S : Nat → ByteArray} (h : Row w g n S) : Row w1 g n S := fun k hk => ⟨keep hb (h k hk).1, keepF hb (h k hk).1 (h k hk).2⟩
theorem sortC {w : World} {base : Nat} {E : TypeId} {v : Value} {L : List ByteArray} (h : w.ownsRow base E 1 v L.length (vs L)) (hn : L.length ≤ 1000000) :
    Calls Tryz.prog 23 #[v] w fun e w' => e = .returned (.tuple #[]) ∧ (0 < L.length → ∀ g cap, v = .slice (some ⟨g, 0, none⟩) L.length cap → Row w' g L.length (nth (srt L))) ∧ w.heap.size ≤ w'.heap.size ∧ ∀ N w0, N ≤ base → N ≤ w0.heap.size → Below N w0 w → Below N w0 w' := by
  rcases Nat.eq_zero_or_pos L.length with h0 | h0
  · have hq : ∃ A cap, v = .slice A 0 cap := by
      rw [h0] at h
      rcases h.2 with ⟨hv, -⟩ | ⟨g, cap, cur, hv, -⟩
      · exact ⟨none, 0, hv⟩
      · exact ⟨_, cap, hv⟩
    obtain ⟨A, cap, rfl⟩ := hq
    have hcon := Any.slices_Sort_string_none sortLays A cap w
    change Calls Tryz.prog 23 _ _ _ at hcon
    refine hcon.mono ?_
    rintro e w' ⟨rfl, rfl⟩
    exact ⟨rfl, fun h => absurd h (by omega), Nat.le_refl _, fun N w0 _ _ h => h⟩
  · obtain ⟨g, cap, rfl, hb, hg, h1, h2, hr⟩ := row_of h h0
    obtain ⟨zs, hzs⟩ : ∃ zs, zs = L.map fun x => x.data.toList := ⟨_, rfl⟩
    have hzl : zs.length = L.length := by rw [hzs, List.length_map]
    have hH : Go.Sort.Holds encStr w g 0 zs.toArray := by
      intro j hj
      have hj' : j < L.length := by rw [← hzl]; simpa using hj
      rw [Nat.zero_add]
      refine ⟨?_, (hr j hj').2⟩
      rw [(hr j hj').1, getElem!_pos zs.toArray j hj]
      subst hzs
      simp [encStr, hj']
    have hcon := Any.slices_Sort_string sortLays g 0 cap zs w hH hg (by omega)
    change Calls Tryz.prog 23 _ _ _ at hcon
    rw [hzl] at hcon
    refine hcon.mono ?_
    rintro e w' ⟨rfl, n, os, rfl⟩
    have hsz : (zs.mergeSort fun x y => decide (x ≤ y)).toArray.size = zs.toArray.size := by simp
    have hp := Go.Sort.holds_putRow encStr (Go.Sort.ahead w n) g 0 zs.toArray (zs.mergeSort fun x y => decide (x ≤ y)).toArray hH hsz
    have hgr := Go.Sort.holds_grow encStr _ os g 0 _ (by simpa [Go.Sort.putRow, Go.Sort.mapBlock, Go.Sort.ahead] using hg) hp
    refine ⟨rfl, fun _ g' cap' he k hk => ?_, ?_, fun N w0 h3 h4 h5 => below_put h5 h4 (Nat.le_trans h3 hb)⟩
    · injection he with e1
      injection e1 with e1
      injection e1 with e1 _
      subst e1
      have q := hgr k (by simp [hzl, hk])
      rw [Nat.zero_add] at q
      refine ⟨?_, q.2⟩
      rw [q.1, getElem!_pos _ k (by simp [hzl, hk])]
      have hk2 : k < (srt L).length := by rw [srt_len]; exact hk
      unfold nth
      rw [List.getD_eq_getElem?_getD, List.getElem?_eq_getElem hk2]
      subst hzs
      rfl
    · rw [Go.Sort.size_grow]
      simp [Go.Sort.putRow, Go.Sort.mapBlock, Go.Sort.ahead]
theorem below_sets {N g : Nat} {w0 : World} (hg : N ≤ g) : ∀ (vs : List Value) (o : Nat) (w : World), Below N w0 w → Below N w0 (w.setCells g o vs)
  | [], _, _, h => h
  | v :: vs, o, _, h => below_sets hg vs (o + 1) _ (h.setCell (p := ⟨g, o, none⟩) hg v)
theorem compactC {w : World} {base g cap : Nat} {L : List ByteArray} (h : Row w g L.length (nth (srt L))) (_h0 : 0 < L.length) (hn : L.length ≤ 1000000) (hc : L.length ≤ cap) (hm : cap ≤ maxLen) (hb : base ≤ g) :
    Calls Tryz.prog 24 #[.slice (some ⟨g, 0, none⟩) L.length cap] w fun e w' => (∃ v, e = .returned v ∧ SL w' v (uni (srt L))) ∧ ∀ N w0, N ≤ base → N ≤ w0.heap.size → Below N w0 w → Below N w0 w' := by
  have hcon := Any.slices_Compact_string_cells compactLays g 0 L.length cap (nth (srt L)) w (by omega) hc (fun i hi => by rw [Nat.zero_add]; exact (h i hi).1) (fun i hi => by rw [Nat.zero_add]; exact (h i hi).2)
  change Calls Tryz.prog 24 _ _ _ at hcon
  have hs : Lib.strsOf (nth (srt L)) L.length = srt L := by
    apply List.ext_getElem
    · rw [Lib.strsOf_length, srt_len]
    · intro i h1 h2
      simp [Lib.strsOf, nth, List.getD_eq_getElem?_getD, List.getElem?_eq_getElem h2]
  rw [hs] at hcon
  have hle := Lib.compact_length_le (srt L)
  rw [srt_len] at hle
  have hul : (uni (srt L)).length = (Lib.compact (srt L)).length := by unfold uni; rw [List.length_map]
  refine hcon.mono ?_
  rintro e w' ⟨rfl, q, rfl⟩
  refine ⟨⟨_, rfl, ?_⟩, fun N w0 h1 h2 h3 => below_sets (Nat.le_trans h1 hb) _ _ _ ⟨h3.os, h3.tape, h3.output, h3.size, h3.block⟩⟩
  rcases Nat.eq_zero_or_pos (Lib.compact (srt L)).length with h0 | h0
  · refine Or.inl ⟨by rw [hul, h0], Or.inr ⟨_, cap, by rw [h0], hm⟩⟩
  · refine Or.inr ⟨by rw [hul]; exact h0, g, 0, cap, by rw [hul], by rw [hul]; omega, hm, fun k hk => ?_⟩
    rw [hul] at hk
    have hlen : ((Lib.compact (srt L) ++ List.replicate (L.length - (Lib.compact (srt L)).length) []).map encStr).length = L.length := by simp; omega
    rw [World.cell?_setCells_in g _ 0 (w.drewN q) (fun t ht => by
      rw [hlen] at ht
      show (w.cell? ⟨g, 0 + t, none⟩).isSome = true
      rw [Nat.zero_add, (h t ht).1]; rfl) k (by rw [hlen]; omega)]
    rw [List.getElem_map, List.getElem_append_left hk]
    unfold uni
    show some (encStr (Lib.compact (srt L))[k]) = some (Value.string (((Lib.compact (srt L)).map fun u => (⟨u.toArray⟩ : ByteArray)).getD k ⟨#[]⟩))
    rw [List.getD_eq_getElem?_getD, List.getElem?_map, List.getElem?_eq_getElem hk]
    rfl
end Lnk
end Go.Proofs.YtmkglhoahdlogaaGreatDoor
namespace Go.Proofs.YtmkglhoahdlogaaGreatDoor
open Go.RowKit
namespace Lnk
open Kit Chart Route Plane Poly
abbrev LkC (c : Value) (s : ByteArray) (w : World) (q : Value) : Prop := Calls Tryz.prog 6 #[c, .string s] w fun e w' => e = .returned q ∧ Below w.heap.size w w'
theorem av_at {w : World} {v : Value} {m : Nat} {M : Nat → ByteArray} {l : Nat → Nat} {S : Nat → Nat → ByteArray} (h : AV w v m M l S) (h0 : 0 < m) : ∃ b off cap, v = .slice (some ⟨b, off, none⟩) m cap ∧ m ≤ cap ∧ cap ≤ maxLen ∧ ∀ k, k < m → A2 w b off k (M k) (l k) (S k) := by
  rcases h with ⟨h1, -⟩ | ⟨-, h⟩
  · omega
  · exact h
theorem own_lt {w : World} {base : Nat} {E : TypeId} {C n : Nat} {v : Value} {xs : List Value} (h : w.ownsRow base E C v n xs) : ∀ b, v.ownBlock = some b → b < w.heap.size := by
  intro b hb
  rcases h.2 with ⟨rfl, -⟩ | ⟨g, cap, cur, rfl, -, hg, -⟩
  · cases hb
  · cases hb; exact (Array.getElem?_eq_some_iff.1 hg).1
theorem own_below {W w1 : World} {base : Nat} {E : TypeId} {C n : Nat} {v : Value} {xs : List Value} (hb : Below W.heap.size W w1) (h : W.ownsRow base E C v n xs) : w1.ownsRow base E C v n xs := by
  refine ⟨h.1, ?_⟩
  rcases h.2 with hh | ⟨g, cap, cur, hv, h1, hg, h2⟩
  · exact Or.inl hh
  · exact Or.inr ⟨g, cap, cur, hv, h1, (hb.block g (Array.getElem?_eq_some_iff.1 hg).1).trans hg, h2⟩
theorem own_slice0 {w : World} {base : Nat} {E : TypeId} {C n : Nat} {v : Value} {xs : List Value} (h : w.ownsRow base E C v n xs) : ∃ A cap, v = .slice A n cap := by
  rcases h.2 with ⟨rfl, rfl⟩ | ⟨g, cap, cur, rfl, -⟩
  · exact ⟨_, _, rfl⟩
  · exact ⟨_, _, rfl⟩
theorem own_ge0 {w : World} {base : Nat} {E : TypeId} {C n : Nat} {v : Value} {xs : List Value} (h : w.ownsRow base E C v n xs) : ∀ k, v.ownBlock = some k → base ≤ k := by
  intro k hk
  rcases h.2 with ⟨rfl, -⟩ | ⟨g, cap, cur, rfl, h1, -⟩
  · simp [Value.ownBlock] at hk
  · simp [Value.ownBlock] at hk; omega
theorem grow_b {N : Nat} {W w w1 : World} {v : Value} {base : Nat} {E : TypeId} {C n : Nat} {xs : List Value} (hb : Below N W w) (h : w.ownsRow base E C v n xs) (hg : w.grownBy w1 v.ownBlock) (hN : N ≤ base) (hs : N ≤ w.heap.size) : Below N W w1 :=
  hb.grown hg hs (fun k hk => Nat.le_trans hN (own_ge0 h k hk))
set_option maxHeartbeats 1000000 in
theorem links_bad (fx aw : Value) (s : ByteArray) (E : Int) (w : World) (C : Hid (CcC (.agg #[fx, aw]) E w)) (_hE1 : (E == 0) = false) (hE2 : (E != 0) = true) : LkC (.agg #[fx, aw]) s w (.tuple #[.slice none 0 0, .int .i64 E]) := by
  have W0 := Lib.hid (b_alloc (Below.refl w.heap.size w) (.cells #[fx, aw] 28))
  have BX := Lib.hid (p2v_new w 28 fx aw)
  obtain ⟨x0, x1⟩ := BX.out
  go_enter Tryz.func6, Tryz.ntmps6
  go_wp2_with fail
  (with_reducible refine (C.out _ W0.out).mono ?_); rintro e w1 ⟨rfl, hb⟩
  have W1 := Lib.hid (b_next W0.out hb); clear hb
  go_wp2_with fail
  all_goals (go_ret2; exact ⟨rfl, W1.out⟩)
set_option maxHeartbeats 1000000 in
theorem links_none (fx aw : Value) (s : ByteArray) (i : Int) (w : World) (C : Hid (CcC (.agg #[fx, aw]) 0 w)) (IX : Hid (∀ w1, Below w.heap.size w w1 → Calls Tryz.prog 21 #[.agg #[fx, aw], .string s] w1 fun e w' => e = .returned (.int .i64 i) ∧ Below w1.heap.size w1 w')) (hi : i < 0) : LkC (.agg #[fx, aw]) s w (.tuple #[.slice none 0 0, .int .i64 6]) := by
  have W0 := Lib.hid (b_alloc (Below.refl w.heap.size w) (.cells #[fx, aw] 28))
  have BX := Lib.hid (p2v_new w 28 fx aw)
  obtain ⟨x0, x1⟩ := BX.out
  go_enter Tryz.func6, Tryz.ntmps6
  go_wp2_with fail
  (with_reducible refine (C.out _ W0.out).mono ?_); rintro e w1 ⟨rfl, hb⟩
  have W1 := Lib.hid (b_next W0.out hb); clear x0 x1; obtain ⟨x0, x1⟩ := p2v_keep hb BX.out; clear hb
  go_wp2_with fail
  (with_reducible refine (IX.out _ W1.out).mono ?_); rintro e w2 ⟨rfl, hb⟩
  have W2 := Lib.hid (b_next W1.out hb); clear hb
  go_wp2_with fail
  all_goals (go_ret2; exact ⟨rfl, W2.out⟩)
set_option maxRecDepth 100000 in
set_option maxHeartbeats 8000000 in
theorem links_ok (fx : Value) (B : Option Addr) (m ca : Nat) (M : Nat → ByteArray) (l : Nat → Nat) (S : Nat → Nat → ByteArray) (s : ByteArray) (i : Int) (w : World) (hm16 : m ≤ 16) (hl24 : Hid (∀ k, k < m → l k ≤ 24)) (HA : Hid (AV w (.slice B m ca) m M l S))
    (C : Hid (CcC (.agg #[fx, .slice B m ca]) 0 w)) (IX : Hid (∀ w1, Below w.heap.size w w1 → Calls Tryz.prog 21 #[.agg #[fx, .slice B m ca], .string s] w1 fun e w' => e = .returned (.int .i64 i) ∧ Below w1.heap.size w1 w')) (hi : 0 ≤ i) :
    Calls Tryz.prog 6 #[.agg #[fx, .slice B m ca], .string s] w fun e w' => (∃ v, e = .returned (.tuple #[v, .int .i64 0]) ∧ SL w' v (links l S s m)) ∧ Below w.heap.size w w' := by
  have W0 := Lib.hid (b_alloc (Below.refl w.heap.size w) (.cells #[fx, .slice B m ca] 28))
  have BX := Lib.hid (p2v_new w 28 fx (.slice B m ca))
  obtain ⟨x0, x1⟩ := BX.out
  have hi' : ¬ i < 0 := by omega
  obtain ⟨i0, hi1, hz0, hz1, hz2⟩ := info_parts info_str
  have IN := Lib.hid (And.intro hi1 (And.intro hz0 (And.intro hz1 hz2))); clear hi1 hz0 hz1 hz2
  have LQ : Hid (links l S s m = uni (srt (nbs l S s m))) := Lib.hid rfl
  obtain ⟨LL, hLL⟩ : ∃ LL, LL = links l S s m := ⟨_, rfl⟩
  rw [← hLL] at LQ ⊢
  clear hLL
  go_enter Tryz.func6, Tryz.ntmps6
  go_wp2_with fail
  (with_reducible refine (C.out _ W0.out).mono ?_); rintro e w1 ⟨rfl, hb⟩
  have W1 := Lib.hid (b_next W0.out hb); clear x0 x1; have BX1 := Lib.hid (p2v_keep hb BX.out); obtain ⟨x0, x1⟩ := BX1.out; clear hb
  go_wp2_with fail
  (with_reducible refine (IX.out _ W1.out).mono ?_); rintro e w2 ⟨rfl, hb⟩
  have W2 := Lib.hid (b_next W1.out hb); clear x0 x1; obtain ⟨x0, x1⟩ := p2v_keep hb BX1.out; clear hb
  go_wp2_with fail
  go_loopw [7, 23] (fun v t wr => ∃ k : Nat, k ≤ m ∧ t = .int .i64 k ∧ wr.ownsRow w.heap.size 9 1 v (nbs l S s k).length (vs (nbs l S s k)) ∧ Below w.heap.size w wr) (fun _ t _ => m - (intOf t).toNat)
  case atStart => exact ⟨0, Nat.zero_le _, rfl, ⟨rfl, Or.inl ⟨rfl, rfl⟩⟩, W2.out⟩
  case round =>
    obtain ⟨k, hk, rfl, hown, hbl⟩ := hrel
    have OW := Lib.hid hown; have WR := Lib.hid hbl
    obtain ⟨Ao, co, rfl⟩ := own_slice0 hown
    have LN := nbs_len l S s k
    clear hown
    by_cases hlt : k < m
    · have hl : (k : Int) < (m : Int) := by omega
      obtain ⟨b, off, c', e, hc1, hc2, h3⟩ := av_at HA.out (by omega)
      injection e with e1 _ e3
      subst e1 e3
      obtain ⟨ca0, u, ca1, hsv0⟩ := h3 k hlt
      obtain ⟨A1, c1, rfl⟩ := sv_slice hsv0
      have ca0 := keep hbl ca0; have ca1 := keep hbl ca1; have hsv := sv_keep hbl hsv0
      have SVW := Lib.hid hsv0; clear hsv0 hbl
      have hlk := hl24.out k hlt
      have NB : Hid (nbs l S s (k + 1) = nbs l S s k ++ nbA (S k) (l k) s) := Lib.hid rfl
      have WA := b_alloc (Below.refl wr.heap.size wr) (.cells #[.string (M k), .slice A1 (l k) c1] 65)
      have PB := Lib.hid (p2v_new wr 65 (.string (M k)) (.slice A1 (l k) c1))
      have SV1 := Lib.hid (sv_keep WA hsv)
      have OA := Lib.hid (own_below WA OW.out)
      have BA := Lib.hid (b_next WR.out WA)
      have OLT := Lib.hid (own_lt OW.out)
      have VB : Hid (∀ bn, bn = wr.heap.size → (Value.slice Ao (nbs l S s k).length co).ownBlock ≠ some bn) := Lib.hid fun bn hbn e => by have := OLT.out bn e; omega
      clear h3 hsv WA OW OLT
      obtain ⟨bn, hbn⟩ : ∃ bn, bn = wr.heap.size := ⟨_, rfl⟩
      have VB1 := Lib.hid (VB.out bn hbn); clear VB
      go_wp2_with fail
      rw [← hbn] at PB ⊢
      clear ca0 ca1 hbn
      generalize wr.alloc (.cells #[.string (M k), .slice A1 (l k) c1] 65) = wa at *
      generalize hLk : l k = Lk at *
      generalize hSk : S k = Sk at *
      clear hLk hSk
      obtain ⟨p0, p1⟩ := PB.out
      have IX1 := Lib.hid (sidxC SV1.out s)
      have bd : -1 ≤ fix Sk s Lk ∧ fix Sk s Lk < (Lk : Int) := fnd_bd _ _
      have NA : Hid (nbA Sk Lk s = if fix Sk s Lk < 0 then [] else (if 0 < fix Sk s Lk then [Sk ((fix Sk s Lk).toNat - 1)] else []) ++ (if fix Sk s Lk + 1 < Lk then [Sk ((fix Sk s Lk).toNat + 1)] else [])) := Lib.hid rfl
      generalize fix Sk s Lk = ix at *
      generalize nbA Sk Lk s = nA at *
      obtain ⟨nX, hnX⟩ : ∃ nX, nX = nbs l S s (k + 1) := ⟨_, rfl⟩
      rw [← hnX] at NB
      have HNX := Lib.hid hnX; clear hnX
      generalize nbs l S s k = nK at *
      go_wp2_with fail
      (with_reducible refine IX1.out.mono ?_); rintro e w3 ⟨rfl, hb⟩
      have B3 := Lib.hid (b_next BA.out hb); have O3 := Lib.hid (own_below hb OA.out); have PB3 := Lib.hid (p2v_keep hb PB.out); have SV3 := Lib.hid (sv_keep hb SV1.out)
      clear hb p0 p1
      obtain ⟨p0, p1⟩ := PB3.out
      by_cases hneg : ix < 0
      · have EX : Hid (nX = nK) := Lib.hid (by rw [NB.out, NA.out, if_pos hneg, List.append_nil])
        rw [← EX.out] at O3 ⊢
        go_wp2_with fail
        go_roundw
        case rel => exact ⟨k + 1, by omega, by go_num, by rw [← HNX.out]; exact O3.out, B3.out⟩
        case measure => simp [intOf]; omega
      · obtain ⟨j, rfl⟩ : ∃ j : Nat, ix = (j : Int) := ⟨ix.toNat, by omega⟩
        have hj : j < Lk := by omega
        have hjn : ¬ (j : Int) < 0 := by omega
        have hj0 : (0 : Int) ≤ (j : Int) := by omega
        have NA2 : Hid (nA = (if 0 < j then [Sk (j - 1)] else []) ++ (if j + 1 < Lk then [Sk (j + 1)] else [])) := Lib.hid (by
          rw [NA.out, if_neg hneg, show ((j : Int)).toNat = j from by omega]
          congr 1
          · by_cases q : 0 < j
            · rw [if_pos q, if_pos (by omega)]
            · rw [if_neg q, if_neg (by omega)]
          · by_cases q : j + 1 < Lk
            · rw [if_pos q, if_pos (by omega)]
            · rw [if_neg q, if_neg (by omega)])
        clear NA hneg
        obtain ⟨b2, off2, c2, e, hd1, hd2, hcs⟩ := sv_at SVW.out (by omega)
        injection e with e1 _ e3
        subst e1 e3
        have hd3 : c1 ≤ 9223372036854775807 := Nat.le_trans hd2 (by decide)
        have BLT : Hid (b2 < w.heap.size) := Lib.hid (lt_of_cell (hcs j hj))
        have CS := Lib.hid fun t (ht : t < Lk) => keep B3.out (hcs t ht); clear hcs
        by_cases h0 : 0 < j
        · have h0i : (0 : Int) < (j : Int) := by omega
          obtain ⟨P, hP⟩ : ∃ P, P = j - 1 := ⟨_, rfl⟩
          have cP := CS.out P (by omega)
          have u1 : IntKind.i64.wrap ((j : Int) - 1) = (P : Int) := by rw [IntWalk.i64_in _ (by omega)]; omega
          have u2 : ((j - 1 : Nat) : Int) = (P : Int) := by omega
          have u3 : (j : Int) - 1 = (P : Int) := by omega
          have hPL : (P : Int) < (Lk : Int) := by omega
          have U3 : Hid (j - 1 = P) := Lib.hid (by omega)
          have O4 := Lib.hid (own_below (b_alloc (Below.refl w3.heap.size w3) (.cells #[.string (Sk P)] 9)) O3.out)
          have NW := Lib.hid (cell_one_new w3 (.string (Sk P)) 9)
          have SZ : Hid (w.heap.size ≤ (w3.alloc (.cells #[.string (Sk P)] 9)).heap.size) := Lib.hid (b_next B3.out (b_alloc (Below.refl w3.heap.size w3) (.cells #[.string (Sk P)] 9))).size
          have B4 := Lib.hid (b_next B3.out (b_alloc (Below.refl w3.heap.size w3) (.cells #[.string (Sk P)] 9)))
          have P4 := Lib.hid (p2v_keep (b_alloc (Below.refl w3.heap.size w3) (.cells #[.string (Sk P)] 9)) PB3.out)
          have CS4 := Lib.hid fun t (ht : t < Lk) => keep (b_alloc (Below.refl w3.heap.size w3) (.cells #[.string (Sk P)] 9)) (CS.out t ht)
          clear hP
          go_wp2_with (at_builtin; refine wpList_append_own _ rfl (.tmp 35) (.tmp 42) 22 rfl w.heap.size 9 i0 _ 1 16 Tryz.underlying22 IN.out.1 IN.out.2.1 IN.out.2.2.1 IN.out.2.2.2 rfl (by decide) _ nK.length _ rfl O4.out ⟨w3.heap.size, 0, none⟩ 1 1 [.string (Sk P)] rfl rfl NW.out (by simp [Value.oneCell']) (by unfold maxLen; omega) (by omega) SZ.out ?_; intro v2 w6 ao' ag' an; have ao := Lib.hid ao'; have ag := Lib.hid ag'; clear an ao' ag'; refine Hid.out ?_)
          have B6 := Lib.hid (grow_b B4.out O4.out ag.out (Nat.le_refl _) SZ.out)
          have O6 : Hid (w6.ownsRow w.heap.size 9 1 v2 (nK ++ [Sk P]).length (vs (nK ++ [Sk P]))) := Lib.hid (by
            have q := ao.out
            rw [List.length_append]
            show w6.ownsRow _ _ _ _ _ ((nK ++ [Sk P]).map Value.string)
            rw [List.map_append]; exact q)
          have PB6 : Hid (P2V w6 bn (.string (M k)) (.slice (some ⟨b2, off2, none⟩) Lk c1)) := Lib.hid ⟨(ag.out.cell_far ⟨bn, 0, none⟩ (lt_of_cell P4.out.1) (fun e => VB1.out e.symm)).trans P4.out.1, (ag.out.cell_far ⟨bn, 1, none⟩ (lt_of_cell P4.out.2) (fun e => VB1.out e.symm)).trans P4.out.2⟩
          have CS6 : Hid (∀ t, t < Lk → w6.cell? ⟨b2, off2 + t, none⟩ = some (.string (Sk t))) := Lib.hid fun t ht => by
            have hlw : b2 < w.heap.size := BLT.out
            exact (B6.out.cell (p := ⟨b2, off2 + t, none⟩) hlw).trans ((B3.out.cell (p := ⟨b2, off2 + t, none⟩) hlw).symm.trans (CS.out t ht))
          obtain ⟨Av, cv, rfl⟩ := own_slice0 O6.out
          clear ao ag p0 p1 cP u1 u2 u3
          refine Lib.hid ?_
          obtain ⟨p0, p1⟩ := PB6.out
          by_cases h1 : j + 1 < Lk
          · have h1i : (j : Int) + 1 < (Lk : Int) := by omega
            have cJ := CS6.out (j + 1) h1
            have u4 : IntKind.i64.wrap ((j : Int) + 1) = ((j + 1 : Nat) : Int) := by rw [IntWalk.i64_in _ (by omega)]; omega
            have EX : Hid (nX = nK ++ [Sk P] ++ [Sk (j + 1)]) := Lib.hid (by rw [NB.out, NA2.out, if_pos h0, if_pos h1, U3.out, List.append_assoc])
            obtain ⟨J, hJ⟩ : ∃ J, J = j + 1 := ⟨_, rfl⟩
            rw [← hJ] at cJ EX u4
            have u5 : (j : Int) + 1 = (J : Int) := by omega
            have hJL : (J : Int) < (Lk : Int) := by omega
            generalize hT : nK ++ [Sk P] = T at *
            have LT : T.length ≤ 2 * k + 1 := by rw [← hT, List.length_append]; simp; omega
            clear hJ hT
            have O7 := Lib.hid (own_below (b_alloc (Below.refl w6.heap.size w6) (.cells #[.string (Sk J)] 9)) O6.out)
            have NW2 := Lib.hid (cell_one_new w6 (.string (Sk J)) 9)
            have B7 := Lib.hid (b_next B6.out (b_alloc (Below.refl w6.heap.size w6) (.cells #[.string (Sk J)] 9)))
            have SZ2 : Hid (w.heap.size ≤ (w6.alloc (.cells #[.string (Sk J)] 9)).heap.size) := Lib.hid B7.out.size
            go_wp2_with (at_builtin; refine wpList_append_own _ rfl (.tmp 50) (.tmp 57) 22 rfl w.heap.size 9 i0 _ 1 16 Tryz.underlying22 IN.out.1 IN.out.2.1 IN.out.2.2.1 IN.out.2.2.2 rfl (by decide) _ T.length _ rfl O7.out ⟨w6.heap.size, 0, none⟩ 1 1 [.string (Sk J)] rfl rfl NW2.out (by simp [Value.oneCell']) (by unfold maxLen; omega) (by omega) SZ2.out ?_; intro v3 w8 coo cgg cn; have co' := Lib.hid coo; have cg := Lib.hid cgg; clear cn coo cgg; refine Hid.out ?_)
            have B8 := Lib.hid (grow_b B7.out O7.out cg.out (Nat.le_refl _) SZ2.out)
            have O8 : Hid (w8.ownsRow w.heap.size 9 1 v3 nX.length (vs nX)) := Lib.hid (by
              have q := co'.out
              rw [EX.out, List.length_append]
              show w8.ownsRow _ _ _ _ _ ((T ++ [Sk J]).map Value.string)
              rw [List.map_append]; exact q)
            clear co' cg
            refine Lib.hid ?_
            go_wp2_with fail
            go_roundw
            case rel => exact ⟨k + 1, by omega, by go_num, by rw [← HNX.out]; exact O8.out, B8.out⟩
            case measure => simp [intOf]; omega
          · have h1i : ¬ (j : Int) + 1 < (Lk : Int) := by omega
            have EX : Hid (nX = nK ++ [Sk P]) := Lib.hid (by rw [NB.out, NA2.out, if_pos h0, if_neg h1, U3.out, List.append_nil])
            rw [← EX.out] at O6 ⊢
            go_wp2_with fail
            go_roundw
            case rel => exact ⟨k + 1, by omega, by go_num, by rw [← HNX.out]; exact O6.out, B6.out⟩
            case measure => simp [intOf]; omega
        · have h0i : ¬ (0 : Int) < (j : Int) := by omega
          by_cases h1 : j + 1 < Lk
          · have h1i : (j : Int) + 1 < (Lk : Int) := by omega
            have cJ := CS.out (j + 1) h1
            have u4 : IntKind.i64.wrap ((j : Int) + 1) = ((j + 1 : Nat) : Int) := by rw [IntWalk.i64_in _ (by omega)]; omega
            have EX : Hid (nX = nK ++ [Sk (j + 1)]) := Lib.hid (by rw [NB.out, NA2.out, if_neg h0, if_pos h1, List.nil_append])
            obtain ⟨J, hJ⟩ : ∃ J, J = j + 1 := ⟨_, rfl⟩
            rw [← hJ] at cJ EX u4
            have u5 : (j : Int) + 1 = (J : Int) := by omega
            have hJL : (J : Int) < (Lk : Int) := by omega
            clear hJ
            have O7 := Lib.hid (own_below (b_alloc (Below.refl w3.heap.size w3) (.cells #[.string (Sk J)] 9)) O3.out)
            have NW2 := Lib.hid (cell_one_new w3 (.string (Sk J)) 9)
            have B7 := Lib.hid (b_next B3.out (b_alloc (Below.refl w3.heap.size w3) (.cells #[.string (Sk J)] 9)))
            have SZ2 : Hid (w.heap.size ≤ (w3.alloc (.cells #[.string (Sk J)] 9)).heap.size) := Lib.hid B7.out.size
            go_wp2_with (at_builtin; refine wpList_append_own _ rfl (.tmp 50) (.tmp 57) 22 rfl w.heap.size 9 i0 _ 1 16 Tryz.underlying22 IN.out.1 IN.out.2.1 IN.out.2.2.1 IN.out.2.2.2 rfl (by decide) _ nK.length _ rfl O7.out ⟨w3.heap.size, 0, none⟩ 1 1 [.string (Sk J)] rfl rfl NW2.out (by simp [Value.oneCell']) (by unfold maxLen; omega) (by omega) SZ2.out ?_; intro v3 w8 coo cgg cn; have co' := Lib.hid coo; have cg := Lib.hid cgg; clear cn coo cgg; refine Hid.out ?_)
            have B8 := Lib.hid (grow_b B7.out O7.out cg.out (Nat.le_refl _) SZ2.out)
            have O8 : Hid (w8.ownsRow w.heap.size 9 1 v3 nX.length (vs nX)) := Lib.hid (by
              have q := co'.out
              rw [EX.out, List.length_append]
              show w8.ownsRow _ _ _ _ _ ((nK ++ [Sk J]).map Value.string)
              rw [List.map_append]; exact q)
            clear co' cg
            refine Lib.hid ?_
            go_wp2_with fail
            go_roundw
            case rel => exact ⟨k + 1, by omega, by go_num, by rw [← HNX.out]; exact O8.out, B8.out⟩
            case measure => simp [intOf]; omega
          · have h1i : ¬ (j : Int) + 1 < (Lk : Int) := by omega
            have EX : Hid (nX = nK) := Lib.hid (by rw [NB.out, NA2.out, if_neg h0, if_neg h1]; simp)
            rw [← EX.out] at O3 ⊢
            go_wp2_with fail
            go_roundw
            case rel => exact ⟨k + 1, by omega, by go_num, by rw [← HNX.out]; exact O3.out, B3.out⟩
            case measure => simp [intOf]; omega
    · have hkm : k = m := by omega
      subst hkm
      have hl : ¬ (k : Int) < (k : Int) := by omega
      generalize nbs l S s k = nK at *
      have SC := Lib.hid (sortC OW.out (by omega))
      go_wp2_with fail
      (with_reducible refine SC.out.mono ?_); rintro e w3 ⟨rfl, hrow, hsz, hbs⟩
      have W3 := Lib.hid (hbs w.heap.size w (Nat.le_refl _) (Nat.le_refl _) WR.out)
      rcases Nat.eq_zero_or_pos nK.length with h0 | h0
      · have hnK : nK = [] := List.eq_nil_of_length_eq_zero h0
        have LE : Hid (LL = []) := Lib.hid (by rw [LQ.out, hnK]; exact uni_nil)
        have hcon := Any.slices_Compact_string_empty compactLays Ao co w3
        change Calls Tryz.prog 24 _ _ _ at hcon
        have hnil : Nil0 (.slice Ao 0 co) := by
          have q := OW.out.2
          rw [h0] at q
          rcases q with ⟨e, -⟩ | ⟨g, cap, cur, e, -, -, -, hcm, -⟩
          · exact Or.inl e
          · exact Or.inr ⟨_, cap, e, hcm⟩
        rw [h0]
        have CC := Lib.hid hcon; have NL := Lib.hid hnil
        clear hcon hnil hrow hsz hbs hnK
        go_wp2_with fail
        (with_reducible refine CC.out.mono ?_); rintro e w4 ⟨rfl, rfl⟩
        go_wp2_with fail
        go_ret2
        exact ⟨⟨_, rfl, by rw [LE.out]; exact Or.inl ⟨rfl, NL.out⟩⟩, W3.out⟩
      · obtain ⟨g, cap, e, hg1, hg2, hg3, hg4, -⟩ := row_of OW.out h0
        injection e with e1 _ e3
        subst e1 e3
        have CC := Lib.hid (compactC (hrow h0 g co rfl) h0 (by omega) hg3 hg4 hg1)
        clear hrow hsz hbs
        go_wp2_with fail
        (with_reducible refine CC.out.mono ?_); rintro e w4 ⟨⟨v, rfl, hv⟩, hb⟩
        have W4 := Lib.hid (hb w.heap.size w (Nat.le_refl _) (Nat.le_refl _) W3.out); have HVv := Lib.hid hv
        clear hb hv
        go_wp2_with fail
        go_ret2
        exact ⟨⟨_, rfl, by rw [LQ.out]; exact HVv.out⟩, W4.out⟩
/-- chart.Links. -/
def LnkR (n : Nat) (N : Nat → ByteArray) (X Y : Nat → Int) (m : Nat) (M : Nat → ByteArray) (l : Nat → Nat) (S : Nat → Nat → ByteArray) (s : ByteArray) (e : Ending) (w' : World) : Prop :=
  (∃ E : Int, E ≠ 0 ∧ e = .returned (.tuple #[.slice none 0 0, .int .i64 E]) ∧ E = (if cerr n N X Y m M l S ≠ 0 then cerr n N X Y m M l S else 6) ∧ (cerr n N X Y m M l S = 0 → fix N s n < 0)) ∨
  (cerr n N X Y m M l S = 0 ∧ 0 ≤ fix N s n ∧ ∃ v, e = .returned (.tuple #[v, .int .i64 0]) ∧ SL w' v (links l S s m))
theorem linksC {c : Value} {n : Nat} {N : Nat → ByteArray} {X Y : Nat → Int} {m : Nat} {M : Nat → ByteArray} {l : Nat → Nat} {S : Nat → Nat → ByteArray} {w : World} (hv : CV w c n N X Y m M l S) (s : ByteArray) :
    Calls Tryz.prog 6 #[c, .string s] w fun e w' => LnkR n N X Y m M l S s e w' ∧ Below w.heap.size w w' := by
  have hC : CcC c (cerr n N X Y m M l S) w := fun w1 hb => checkC (cv_keep hb hv)
  obtain ⟨fx, aw, rfl, h1, h2⟩ := hv.ex
  have hIX := fun w1 (hb : Below w.heap.size w w1) => indexC (aw := aw) (fv_keep hb h1) s
  by_cases hE : cerr n N X Y m M l S = 0
  · rw [hE] at hC
    by_cases hf : fix N s n < 0
    · refine (links_none fx aw s _ w (Lib.hid hC) (Lib.hid hIX) hf).mono ?_
      rintro e w' ⟨rfl, hb⟩
      exact ⟨Or.inl ⟨6, by decide, rfl, by rw [if_neg (fun q => q hE)], fun _ => hf⟩, hb⟩
    · obtain ⟨B, ca, rfl⟩ := av_slice h2
      have ok := cerr_ok hE
      refine (links_ok fx B m ca M l S s _ w ok.2.1 (Lib.hid fun k hk => (aerr_len (ok.2.2.2 k hk)).2.2.2.2.1) (Lib.hid h2) (Lib.hid hC) (Lib.hid hIX) (by omega)).mono ?_
      rintro e w' ⟨hp, hb⟩
      exact ⟨Or.inr ⟨hE, by omega, hp⟩, hb⟩
  · refine (links_bad fx aw s _ w (Lib.hid hC) (by simpa using hE) (by simpa using hE)).mono ?_
    rintro e w' ⟨rfl, hb⟩
    exact ⟨Or.inl ⟨_, hE, rfl, by rw [if_pos hE], fun q => absurd q hE⟩, hb⟩
end Lnk
end Go.Proofs.YtmkglhoahdlogaaGreatDoor
