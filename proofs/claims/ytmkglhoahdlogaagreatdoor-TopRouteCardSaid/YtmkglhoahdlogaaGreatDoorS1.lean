/- Joined texts: HeapP, Dij, DijW, DijL. -/
import Derived.WalkKit
namespace Go.Proofs.YtmkglhoahdlogaaGreatDoor
namespace Heap
/-- An item: its priority, its number, its value. -/
structure It where
  p : Int
  k : Int
  v : Value
abbrev Hp := Nat → It
/-- One item is before another one. -/
def bef (a b : It) : Bool := decide (a.p < b.p ∨ a.p = b.p ∧ a.k < b.k)
theorem bef_irr (a : It) : bef a a = false := by unfold bef; rw [decide_eq_false_iff_not]; omega
theorem bef_trans {a b c : It} (h : bef a b = false) (g : bef b c = false) : bef a c = false := by
  unfold bef at *; rw [decide_eq_false_iff_not] at *; omega
theorem bef_asym {a b : It} (h : bef a b = true) : bef b a = false := by
  unfold bef at *; rw [decide_eq_true_eq] at h; rw [decide_eq_false_iff_not]; omega
/-- Two items exchanged. -/
def sw (f : Hp) (i j : Nat) : Hp := fun a => if a = i then f j else if a = j then f i else f a
theorem sw_l (f : Hp) (i j : Nat) : sw f i j i = f j := if_pos rfl
theorem sw_r (f : Hp) (i j : Nat) : sw f i j j = f i := by
  unfold sw
  by_cases h : j = i
  · rw [if_pos h, h]
  · rw [if_neg h, if_pos rfl]
theorem sw_o {f : Hp} {i j a : Nat} (h : a ≠ i) (g : a ≠ j) : sw f i j a = f a := by unfold sw; rw [if_neg h, if_neg g]
theorem sw_cases (f : Hp) (i j a : Nat) : (a = i ∧ sw f i j a = f j) ∨ (a ≠ i ∧ a = j ∧ sw f i j a = f i) ∨ (a ≠ i ∧ a ≠ j ∧ sw f i j a = f a) := by
  by_cases h : a = i
  · exact Or.inl ⟨h, by rw [h]; exact sw_l f i j⟩
  · by_cases g : a = j
    · exact Or.inr (Or.inl ⟨h, g, by rw [g]; exact sw_r f i j⟩)
    · exact Or.inr (Or.inr ⟨h, g, sw_o h g⟩)
/-- Up to its place. -/
def up (f : Hp) (i : Nat) : Hp := if _h : 0 < i ∧ bef (f i) (f ((i - 1) / 2)) = true then up (sw f i ((i - 1) / 2)) ((i - 1) / 2) else f
termination_by i
decreasing_by omega
theorem up_yes {f : Hp} {i : Nat} (h : 0 < i) (g : bef (f i) (f ((i - 1) / 2)) = true) : up f i = up (sw f i ((i - 1) / 2)) ((i - 1) / 2) := by
  rw [up, dif_pos ⟨h, g⟩]
theorem up_no {f : Hp} {i : Nat} (h : ¬ (0 < i ∧ bef (f i) (f ((i - 1) / 2)) = true)) : up f i = f := by rw [up, dif_neg h]
/-- The least of a place and its children. -/
def l1 (n : Nat) (f : Hp) (i : Nat) : Nat := if 2 * i + 1 < n ∧ bef (f (2 * i + 1)) (f i) = true then 2 * i + 1 else i
def l2 (n : Nat) (f : Hp) (i : Nat) : Nat := if 2 * i + 2 < n ∧ bef (f (2 * i + 2)) (f (l1 n f i)) = true then 2 * i + 2 else l1 n f i
theorem l2_cases (n : Nat) (f : Hp) (i : Nat) : l2 n f i = i ∨ (i < l2 n f i ∧ l2 n f i < n ∧ (l2 n f i - 1) / 2 = i ∧ bef (f (l2 n f i)) (f i) = true) := by
  unfold l2
  by_cases h2 : 2 * i + 2 < n ∧ bef (f (2 * i + 2)) (f (l1 n f i)) = true
  · rw [if_pos h2]
    refine Or.inr ⟨by omega, h2.1, by omega, ?_⟩
    have h3 := h2.2
    unfold l1 at h3
    split at h3
    · rename_i h1
      unfold bef at *
      rw [decide_eq_true_eq] at *
      omega
    · exact h3
  · rw [if_neg h2]
    unfold l1
    by_cases h1 : 2 * i + 1 < n ∧ bef (f (2 * i + 1)) (f i) = true
    · rw [if_pos h1]; exact Or.inr ⟨by omega, h1.1, by omega, h1.2⟩
    · rw [if_neg h1]; exact Or.inl rfl
/-- Neither child is before the least. -/
theorem l2_least (n : Nat) (f : Hp) (i : Nat) : bef (f i) (f (l2 n f i)) = false ∧ (2 * i + 1 < n → bef (f (2 * i + 1)) (f (l2 n f i)) = false) ∧ (2 * i + 2 < n → bef (f (2 * i + 2)) (f (l2 n f i)) = false) := by
  have a : bef (f i) (f (l1 n f i)) = false ∧ (2 * i + 1 < n → bef (f (2 * i + 1)) (f (l1 n f i)) = false) := by
    unfold l1
    by_cases h1 : 2 * i + 1 < n ∧ bef (f (2 * i + 1)) (f i) = true
    · rw [if_pos h1]; exact ⟨bef_asym h1.2, fun _ => bef_irr _⟩
    · rw [if_neg h1]; exact ⟨bef_irr _, fun h => by rw [← Bool.not_eq_true]; exact fun g => h1 ⟨h, g⟩⟩
  unfold l2
  by_cases h2 : 2 * i + 2 < n ∧ bef (f (2 * i + 2)) (f (l1 n f i)) = true
  · rw [if_pos h2]
    have h3 := bef_asym h2.2
    exact ⟨bef_trans a.1 h3, fun h => bef_trans (a.2 h) h3, fun _ => bef_irr _⟩
  · rw [if_neg h2]
    exact ⟨a.1, a.2, fun h => by rw [← Bool.not_eq_true]; exact fun g => h2 ⟨h, g⟩⟩
/-- Down to its place. -/
def down (n : Nat) (f : Hp) (i : Nat) : Hp := if _h : l2 n f i = i then f else down n (sw f i (l2 n f i)) (l2 n f i)
termination_by n - i
decreasing_by
  rcases l2_cases n f i with e | e
  · exact absurd e _h
  · omega
theorem down_no {n : Nat} {f : Hp} {i : Nat} (h : l2 n f i = i) : down n f i = f := by rw [down, dif_pos h]
theorem down_yes {n : Nat} {f : Hp} {i : Nat} (h : ¬ l2 n f i = i) : down n f i = down n (sw f i (l2 n f i)) (l2 n f i) := by
  rw [down, dif_neg h]
/-- The heap's order. -/
def Ord (n : Nat) (f : Hp) : Prop := ∀ i, 0 < i → i < n → bef (f i) (f ((i - 1) / 2)) = false
/-- What holds of all n items. -/
def All (n : Nat) (P : It → Prop) (f : Hp) : Prop := ∀ i, i < n → P (f i)
theorem all_sw {n : Nat} {P : It → Prop} {f : Hp} {i j : Nat} (h : All n P f) (hi : i < n) (hj : j < n) : All n P (sw f i j) := fun a ha => by
  rcases sw_cases f i j a with ⟨-, e⟩ | ⟨-, -, e⟩ | ⟨-, -, e⟩
  · rw [e]; exact h j hj
  · rw [e]; exact h i hi
  · rw [e]; exact h a ha
theorem up_all {n : Nat} {P : It → Prop} : ∀ (k i : Nat) (f : Hp), i ≤ k → i < n → All n P f → All n P (up f i) := by
  intro k
  induction k with
  | zero =>
    intro i f hk hn h
    rw [up_no (by omega)]; exact h
  | succ k ih =>
    intro i f hk hn h
    by_cases g : 0 < i ∧ bef (f i) (f ((i - 1) / 2)) = true
    · rw [up_yes g.1 g.2]
      exact ih _ _ (by omega) (by omega) (all_sw h hn (by omega))
    · rw [up_no g]; exact h
theorem down_all {n : Nat} {P : It → Prop} : ∀ (k i : Nat) (f : Hp), n - i ≤ k → i < n → All n P f → All n P (down n f i) := by
  intro k
  induction k with
  | zero => intro i f hk hn h; omega
  | succ k ih =>
    intro i f hk hn h
    rcases l2_cases n f i with e | ⟨e1, e2, e3, e4⟩
    · rw [down_no e]; exact h
    · rw [down_yes (by omega)]
      exact ih _ _ (by omega) e2 (all_sw h hn e2)
/-- In order but for place i, which may be before its parent; its children are not before its parent. -/
def OrdUp (n : Nat) (f : Hp) (i : Nat) : Prop := (∀ a, 0 < a → a < n → a ≠ i → bef (f a) (f ((a - 1) / 2)) = false) ∧ (0 < i → ∀ a, 0 < a → a < n → (a - 1) / 2 = i → bef (f a) (f ((i - 1) / 2)) = false)
theorem up_ord {n : Nat} : ∀ (k i : Nat) (f : Hp), i ≤ k → i < n → OrdUp n f i → Ord n (up f i) := by
  intro k
  induction k with
  | zero =>
    intro i f hk hn h
    rw [up_no (by omega)]
    intro a h0 ha
    exact h.1 a h0 ha (by omega)
  | succ k ih =>
    intro i f hk hn h
    by_cases g : 0 < i ∧ bef (f i) (f ((i - 1) / 2)) = true
    · rw [up_yes g.1 g.2]
      obtain ⟨p, hp⟩ : ∃ p, p = (i - 1) / 2 := ⟨_, rfl⟩
      unfold OrdUp at h
      rw [← hp] at g h ⊢
      have g' := bef_asym g.2
      refine ih _ _ (by omega) (by omega) ⟨fun a h0 ha hne => ?_, fun hp0 a h0 ha hpar => ?_⟩
      · by_cases ai : a = i
        · subst ai
          rw [sw_l, ← hp, sw_r]; exact g'
        · rw [sw_o ai hne]
          by_cases pi : (a - 1) / 2 = i
          · rw [pi, sw_l]; exact h.2 g.1 a h0 ha pi
          · by_cases pp : (a - 1) / 2 = p
            · rw [pp, sw_r]
              have := h.1 a h0 ha ai
              rw [pp] at this
              exact bef_trans this g'
            · rw [sw_o pi pp]; exact h.1 a h0 ha ai
      · have q1 : (p - 1) / 2 ≠ i := by omega
        have q2 : (p - 1) / 2 ≠ p := by omega
        rw [sw_o q1 q2]
        have hpp := h.1 p (by omega) (by omega) (by omega)
        by_cases ai : a = i
        · subst ai; rw [sw_l]; exact hpp
        · have ap : a ≠ p := by omega
          rw [sw_o ai ap]
          have := h.1 a h0 ha ai
          rw [hpar] at this
          exact bef_trans this hpp
    · rw [up_no g]
      intro a h0 ha
      by_cases ai : a = i
      · subst ai
        rw [← Bool.not_eq_true]; exact fun e => g ⟨h0, e⟩
      · exact h.1 a h0 ha ai
/-- In order but for place i, which its children may be before; they are not before its parent. -/
def OrdDown (n : Nat) (f : Hp) (i : Nat) : Prop := (∀ a, 0 < a → a < n → (a - 1) / 2 ≠ i → bef (f a) (f ((a - 1) / 2)) = false) ∧ (0 < i → ∀ a, 0 < a → a < n → (a - 1) / 2 = i → bef (f a) (f ((i - 1) / 2)) = false)
theorem down_ord {n : Nat} : ∀ (k i : Nat) (f : Hp), n - i ≤ k → i < n → OrdDown n f i → Ord n (down n f i) := by
  intro k
  induction k with
  | zero => intro i f hk hn h; omega
  | succ k ih =>
    intro i f hk hn h
    have ll := l2_least n f i
    rcases l2_cases n f i with e | ⟨e1, e2, e3, e4⟩
    · rw [down_no e]
      intro a h0 ha
      by_cases pi : (a - 1) / 2 = i
      · rw [e] at ll
        rcases (show a = 2 * i + 1 ∨ a = 2 * i + 2 by omega) with rfl | rfl
        · rw [pi]; exact ll.2.1 ha
        · rw [pi]; exact ll.2.2 ha
      · exact h.1 a h0 ha pi
    · rw [down_yes (by omega)]
      obtain ⟨c, hc⟩ : ∃ c, c = l2 n f i := ⟨_, rfl⟩
      rw [← hc] at e1 e2 e3 e4 ll ⊢
      have e4' := bef_asym e4
      refine ih _ _ (by omega) e2 ⟨fun a h0 ha hpar => ?_, fun _ a h0 ha hpar => ?_⟩
      · by_cases ac : a = c
        · subst ac
          rw [sw_r, e3, sw_l]; exact e4'
        · by_cases ai : a = i
          · subst ai
            rw [sw_l, sw_o (by omega) hpar]
            exact h.2 h0 c (by omega) e2 e3
          · rw [sw_o ai ac]
            by_cases pi : (a - 1) / 2 = i
            · rw [pi, sw_l]
              rcases (show a = 2 * i + 1 ∨ a = 2 * i + 2 by omega) with rfl | rfl
              · exact ll.2.1 ha
              · exact ll.2.2 ha
            · rw [sw_o pi hpar]; exact h.1 a h0 ha pi
      · rw [e3, sw_l]
        have q1 : a ≠ i := by omega
        have q2 : a ≠ c := by omega
        rw [sw_o q1 q2]
        have := h.1 a h0 ha (by omega)
        rw [hpar] at this
        exact this
/-- The first item is the least one. -/
theorem ord_least {n : Nat} {f : Hp} (h : Ord n f) : ∀ (k i : Nat), i ≤ k → i < n → bef (f i) (f 0) = false := by
  intro k
  induction k with
  | zero => intro i hk _; rw [show i = 0 from by omega]; exact bef_irr _
  | succ k ih =>
    intro i hk hn
    rcases Nat.eq_zero_or_pos i with h0 | h0
    · rw [h0]; exact bef_irr _
    · exact bef_trans (h i h0 hn) (ih ((i - 1) / 2) (by omega) (by omega))
/-- One more. -/
def put (n : Nat) (f : Hp) (x : It) : Hp := fun a => if a = n then x else f a
def pushF (n : Nat) (f : Hp) (x : It) : Hp := up (put n f x) n
/-- The last one comes first, and down. -/
def last (n : Nat) (f : Hp) : Hp := fun a => if a = 0 then f (n - 1) else f a
def popF (n : Nat) (f : Hp) : Hp := if n ≤ 1 then f else down (n - 1) (last n f) 0
theorem push_all {n : Nat} {f : Hp} {x : It} {P : It → Prop} (h : All n P f) (hx : P x) : All (n + 1) P (pushF n f x) := by
  refine up_all n n _ (Nat.le_refl _) (by omega) fun i hi => ?_
  unfold put
  by_cases e : i = n
  · rw [if_pos e]; exact hx
  · rw [if_neg e]; exact h i (by omega)
theorem push_ord {n : Nat} {f : Hp} {x : It} (h : Ord n f) : Ord (n + 1) (pushF n f x) := by
  refine up_ord n n _ (Nat.le_refl _) (by omega) ⟨fun a h0 ha hne => ?_, fun h0 a ha0 ha hp => by omega⟩
  unfold put
  rw [if_neg hne, if_neg (by omega)]
  exact h a h0 (by omega)
theorem pop_all {n : Nat} {f : Hp} {P : It → Prop} (h : All n P f) : All (n - 1) P (popF n f) := by
  unfold popF
  by_cases h1 : n ≤ 1
  · rw [if_pos h1]; intro i hi; omega
  · rw [if_neg h1]
    refine down_all (n - 1) 0 _ (by omega) (by omega) fun i hi => ?_
    unfold last
    by_cases e : i = 0
    · rw [if_pos e]; exact h _ (by omega)
    · rw [if_neg e]; exact h _ (by omega)
theorem pop_ord {n : Nat} {f : Hp} (h : Ord n f) : Ord (n - 1) (popF n f) := by
  unfold popF
  by_cases h1 : n ≤ 1
  · rw [if_pos h1]; intro i h0 hi; omega
  · rw [if_neg h1]
    refine down_ord (n - 1) 0 _ (by omega) (by omega) ⟨fun a h0 ha hp => ?_, fun h0 => by omega⟩
    unfold last
    rw [if_neg (by omega), if_neg hp]
    exact h a h0 (by omega)
/-- What comes later is not before what came first. -/
theorem pop_later {n : Nat} {f : Hp} (h : Ord n f) : All (n - 1) (fun x => bef x (f 0) = false) (popF n f) :=
  pop_all fun i hi => ord_least h i i (Nat.le_refl _) hi
end Heap
end Go.Proofs.YtmkglhoahdlogaaGreatDoor
namespace Go.Proofs.YtmkglhoahdlogaaGreatDoor
namespace Short
open Heap
/-- One of n items has a property. -/
def Mem (n : Nat) (f : Hp) (P : It → Prop) : Prop := ∃ i, i < n ∧ P (f i)
theorem mem_sw {n : Nat} {f : Hp} {P : It → Prop} {i j : Nat} (h : Mem n f P) (hi : i < n) (hj : j < n) : Mem n (sw f i j) P := by
  obtain ⟨a, ha, hp⟩ := h
  by_cases e : a = i
  · subst e; exact ⟨j, hj, by rw [sw_r]; exact hp⟩
  · by_cases g : a = j
    · subst g; exact ⟨i, hi, by rw [sw_l]; exact hp⟩
    · exact ⟨a, ha, by rw [sw_o e g]; exact hp⟩
theorem mem_up {n : Nat} {P : It → Prop} : ∀ (k i : Nat) (f : Hp), i ≤ k → i < n → Mem n f P → Mem n (up f i) P := by
  intro k
  induction k with
  | zero => intro i f hk hn h; rw [up_no (by omega)]; exact h
  | succ k ih =>
    intro i f hk hn h
    by_cases g : 0 < i ∧ bef (f i) (f ((i - 1) / 2)) = true
    · rw [up_yes g.1 g.2]; exact ih _ _ (by omega) (by omega) (mem_sw h hn (by omega))
    · rw [up_no g]; exact h
theorem mem_down {n : Nat} {P : It → Prop} : ∀ (k i : Nat) (f : Hp), n - i ≤ k → i < n → Mem n f P → Mem n (down n f i) P := by
  intro k
  induction k with
  | zero => intro i f hk hn h; omega
  | succ k ih =>
    intro i f hk hn h
    rcases l2_cases n f i with e | ⟨e1, e2, e3, e4⟩
    · rw [down_no e]; exact h
    · rw [down_yes (by omega)]; exact ih _ _ (by omega) e2 (mem_sw h hn e2)
theorem mem_push {n : Nat} {f : Hp} {x : It} {P : It → Prop} (h : Mem n f P) : Mem (n + 1) (pushF n f x) P := by
  obtain ⟨i, hi, hp⟩ := h
  exact mem_up n n _ (Nat.le_refl _) (by omega) ⟨i, by omega, by unfold put; rw [if_neg (by omega)]; exact hp⟩
theorem mem_new {n : Nat} {f : Hp} {x : It} {P : It → Prop} (h : P x) : Mem (n + 1) (pushF n f x) P :=
  mem_up n n _ (Nat.le_refl _) (by omega) ⟨n, by omega, by unfold put; rw [if_pos rfl]; exact h⟩
theorem mem_pop {n : Nat} {f : Hp} {P : It → Prop} (h : Mem n f P) : P (f 0) ∨ Mem (n - 1) (popF n f) P := by
  obtain ⟨i, hi, hp⟩ := h
  rcases Nat.eq_zero_or_pos i with h0 | h0
  · subst h0; exact Or.inl hp
  · refine Or.inr ?_
    unfold popF
    rw [if_neg (by omega)]
    refine mem_down (n - 1) 0 _ (by omega) (by omega) ?_
    by_cases e : i = n - 1
    · exact ⟨0, by omega, by unfold last; rw [if_pos rfl, ← e]; exact hp⟩
    · exact ⟨i, by omega, by unfold last; rw [if_neg (by omega)]; exact hp⟩
theorem int_inj {a b : Nat} (h : Value.int .i64 (a : Int) = Value.int .i64 (b : Int)) : a = b := by
  injection h with _ h; omega
/-- One value set. -/
def upd (o : Nat → Int) (k : Nat) (v : Int) : Nat → Int := fun a => if a = k then v else o a
theorem upd_same (o : Nat → Int) (k : Nat) (v : Int) : upd o k v k = v := if_pos rfl
theorem upd_ne {o : Nat → Int} {k a : Nat} {v : Int} (h : a ≠ k) : upd o k v a = o a := if_neg h
/-- How many of the first n are set. -/
def cnt (o : Nat → Int) : Nat → Nat
  | 0 => 0
  | k + 1 => cnt o k + if 0 ≤ o k then 1 else 0
theorem cnt_le (o : Nat → Int) : ∀ n, cnt o n ≤ n
  | 0 => Nat.le_refl _
  | n + 1 => by have := cnt_le o n; unfold cnt; split <;> omega
theorem cnt_upd {o : Nat → Int} {k : Nat} {v : Int} (h : o k < 0) (hv : 0 ≤ v) : ∀ n, cnt (upd o k v) n = cnt o n + if k < n then 1 else 0
  | 0 => rfl
  | n + 1 => by
    have ih := cnt_upd h hv n
    unfold cnt
    rw [ih]
    by_cases e : n = k
    · subst e
      rw [upd_same, if_pos hv, if_neg (show ¬ (0 : Int) ≤ o n by omega), if_neg (show ¬ n < n by omega), if_pos (show n < n + 1 by omega)]
    · rw [upd_ne e]
      by_cases g : k < n
      · rw [if_pos g, if_pos (show k < n + 1 by omega)]; omega
      · rw [if_neg g, if_neg (show ¬ k < n + 1 by omega)]; omega
theorem cnt_neg {N : Nat} : ∀ n, cnt (fun _ => -1) n = 0
  | 0 => rfl
  | n + 1 => by unfold cnt; rw [cnt_neg (N := N) n, if_neg (by omega)]
theorem cnt_pos {o : Nat → Int} {k : Nat} (h : 0 ≤ o k) : ∀ n, k < n → 1 ≤ cnt o n
  | 0, hk => absurd hk (Nat.not_lt_zero k)
  | n + 1, hk => by
    unfold cnt
    by_cases e : k = n
    · subst e; rw [if_pos h]; omega
    · have := cnt_pos h n (by omega); omega
/-- Links of numbered fixes: how many, which, and how long. -/
structure Gr where
  N : Nat
  deg : Nat → Nat
  lk : Nat → Nat → Nat
  d : Nat → Nat → Int
/-- Two fixes are linked. -/
def Gr.adj (G : Gr) (a b : Nat) : Prop := ∃ i, i < G.deg a ∧ G.lk a i = b
/-- What a chart gives: links are mutual, and longer than nothing. -/
structure Gr.Ok (G : Gr) (B : Int) : Prop where
  lt : ∀ k, k < G.N → ∀ i, i < G.deg k → G.lk k i < G.N
  sym : ∀ a, a < G.N → ∀ b, G.adj a b → G.adj b a
  dsym : ∀ a b, G.d a b = G.d b a
  pos : ∀ a, a < G.N → ∀ b, G.adj a b → 1 ≤ G.d a b ∧ G.d a b ≤ B
  deg32 : ∀ k, k < G.N → G.deg k ≤ 32
  n64 : G.N ≤ 64
  b0 : 1 ≤ B
/-- Whence a length comes. -/
def Src (G : Gr) (tgt : Nat) (cl : Nat → Bool) (o : Nat → Int) (m : Nat) (p : Int) : Prop := (m = tgt ∧ p = 0) ∨ ∃ k, k < G.N ∧ 0 ≤ o k ∧ G.adj k m ∧ p = o k + G.d k m ∧ cl m = false
theorem src_upd {G : Gr} {tgt : Nat} {cl : Nat → Bool} {o : Nat → Int} {m a : Nat} {p v : Int} (h : Src G tgt cl o m p) (ha : o a < 0) : Src G tgt cl (upd o a v) m p := by
  rcases h with h | ⟨k, h1, h2, h3, h4, h5⟩
  · exact Or.inl h
  · have e : k ≠ a := fun e => by subst e; omega
    exact Or.inr ⟨k, h1, by rw [upd_ne e]; exact h2, h3, by rw [upd_ne e]; exact h4, h5⟩
/-- What holds between the steps; of fix ek only the first ei links are done. -/
structure DI (G : Gr) (B : Int) (tgt : Nat) (cl : Nat → Bool) (ek ei : Nat) (o : Nat → Int) (n : Nat) (f : Hp) : Prop where
  ord : Ord n f
  vals : All n (fun x => ∃ m : Nat, x.v = .int .i64 (m : Int) ∧ m < G.N ∧ (∀ k, k < G.N → o k ≤ x.p) ∧ 0 ≤ x.p ∧ x.p ≤ cnt o G.N * B ∧ Src G tgt cl o m x.p) f
  set : ∀ k, k < G.N → 0 ≤ o k → Src G tgt cl o k (o k) ∧ o k + B ≤ cnt o G.N * B
  rel : ∀ k, k < G.N → 0 ≤ o k → ∀ i, i < G.deg k → (k = ek → i < ei) → cl (G.lk k i) = false → (0 ≤ o (G.lk k i) ∧ o (G.lk k i) ≤ o k + G.d k (G.lk k i)) ∨ Mem n f (fun x => x.v = .int .i64 (G.lk k i : Int) ∧ x.p ≤ o k + G.d k (G.lk k i))
  fst : (0 ≤ o tgt ∧ o tgt ≤ 0) ∨ Mem n f (fun x => x.v = .int .i64 (tgt : Int) ∧ x.p ≤ 0)
  low : ∀ k, k < G.N → -1 ≤ o k
section
variable {G : Gr} {B : Int} {tgt : Nat} {cl : Nat → Bool} {o : Nat → Int} {n : Nat} {f : Hp}
theorem DI.start (hto : tgt < G.N) (f : Hp) (nx : Int) : DI G B tgt cl G.N 0 (fun _ => -1) 1 (pushF 0 f ⟨0, nx, .int .i64 (tgt : Int)⟩) where
  ord := push_ord fun i h0 hi => absurd hi (Nat.not_lt_zero i)
  vals := push_all (fun i hi => absurd hi (Nat.not_lt_zero i)) ⟨tgt, rfl, hto, fun k _ => by show (-1 : Int) ≤ 0; omega, Int.le_refl _, by rw [cnt_neg (N := G.N)]; show (0 : Int) ≤ ((0 : Nat) : Int) * B; rw [Int.natCast_zero, Int.zero_mul]; omega, Or.inl ⟨rfl, rfl⟩⟩
  set := fun k _ h => absurd h (by omega)
  rel := fun k _ h => absurd h (by omega)
  fst := Or.inr (mem_new ⟨rfl, Int.le_refl _⟩)
  low := fun k _ => Int.le_refl _
theorem DI.skip (h : DI G B tgt cl G.N 0 o n f) {m : Nat} (hv : (f 0).v = .int .i64 (m : Int)) (hm : m < G.N) (h0 : 0 < n) (hs : 0 ≤ o m) : DI G B tgt cl G.N 0 o (n - 1) (popF n f) where
  ord := pop_ord h.ord
  vals := pop_all h.vals
  set := h.set
  rel := fun k hk hok i hi he hc => by
    rcases h.rel k hk hok i hi he hc with q | q
    · exact Or.inl q
    · rcases mem_pop q with ⟨q1, q2⟩ | q
      · rw [hv] at q1
        have e := int_inj q1
        obtain ⟨m', v', -, hmax, -⟩ := h.vals 0 h0
        rw [← e]
        refine Or.inl ⟨hs, ?_⟩
        have := hmax m hm
        rw [← e] at q2
        omega
      · exact Or.inr q
  fst := by
    rcases h.fst with q | q
    · exact Or.inl q
    · rcases mem_pop q with ⟨q1, q2⟩ | q
      · rw [hv] at q1
        have e := int_inj q1
        obtain ⟨m', v', -, hmax, -⟩ := h.vals 0 h0
        have := hmax m hm
        rw [← e]
        exact Or.inl ⟨hs, by omega⟩
      · exact Or.inr q
  low := h.low
theorem DI.take (h : DI G B tgt cl G.N 0 o n f) (hB : 0 ≤ B) {m : Nat} (hv : (f 0).v = .int .i64 (m : Int)) (hm : m < G.N) (h0 : 0 < n) (hs : o m < 0) : DI G B tgt cl m 0 (upd o m (f 0).p) (n - 1) (popF n f) ∧ ∀ k, k < G.N → upd o m (f 0).p k ≤ (f 0).p := by
  obtain ⟨m', v', hm', hmax, hp0, hpb, hsrc⟩ := h.vals 0 h0
  have e : m' = m := by rw [hv] at v'; exact (int_inj v').symm
  subst e
  have hcnt : (cnt (upd o m' (f 0).p) G.N : Int) = cnt o G.N + 1 := by rw [cnt_upd hs hp0, if_pos hm]; omega
  have hmul : (cnt (upd o m' (f 0).p) G.N : Int) * B = cnt o G.N * B + B := by rw [hcnt, Int.add_mul, Int.one_mul]
  have hle : ∀ k, k < G.N → upd o m' (f 0).p k ≤ (f 0).p := fun k hk => by
    by_cases e : k = m'
    · subst e; rw [upd_same]; omega
    · rw [upd_ne e]; exact hmax k hk
  refine ⟨⟨pop_ord h.ord, fun i hi => ?_, fun k hk hok => ?_, fun k hk hok i hi he hc => ?_, ?_, fun k hk => ?_⟩, hle⟩
  · obtain ⟨a, a1, a2, a3, a4, a5, a6⟩ := pop_all h.vals i hi
    have l : bef (popF n f i) (f 0) = false := pop_later h.ord i hi
    unfold bef at l
    rw [decide_eq_false_iff_not] at l
    exact ⟨a, a1, a2, fun k hk => by have := hle k hk; omega, a4, by omega, src_upd a6 hs⟩
  · by_cases e : k = m'
    · subst e
      rw [upd_same]
      exact ⟨src_upd hsrc hs, by omega⟩
    · rw [upd_ne e] at hok ⊢
      have := h.set k hk hok
      exact ⟨src_upd this.1 hs, by omega⟩
  · by_cases e : k = m'
    · exact absurd (he e) (Nat.not_lt_zero i)
    · rw [upd_ne e] at hok ⊢
      by_cases g : G.lk k i = m'
      · rw [g, upd_same]
        refine Or.inl ⟨hp0, ?_⟩
        rcases h.rel k hk hok i hi (fun e => absurd e (by omega)) hc with q | q
        · rw [g] at q; omega
        · obtain ⟨j, hj, q1, q2⟩ := q
          have l := ord_least h.ord j j (Nat.le_refl _) hj
          unfold bef at l
          rw [decide_eq_false_iff_not] at l
          rw [g] at q2
          omega
      · rw [upd_ne g]
        rcases h.rel k hk hok i hi (fun e => absurd e (by omega)) hc with q | q
        · exact Or.inl q
        · rcases mem_pop q with ⟨q1, q2⟩ | q
          · rw [hv] at q1
            exact absurd (int_inj q1).symm g
          · exact Or.inr q
  · by_cases g : tgt = m'
    · subst g
      rw [upd_same]
      refine Or.inl ⟨hp0, ?_⟩
      rcases h.fst with q | ⟨j, hj, q1, q2⟩
      · omega
      · have l := ord_least h.ord j j (Nat.le_refl _) hj
        unfold bef at l
        rw [decide_eq_false_iff_not] at l
        omega
    · rw [upd_ne g]
      rcases h.fst with q | q
      · exact Or.inl q
      · rcases mem_pop q with ⟨q1, q2⟩ | q
        · rw [hv] at q1
          exact absurd (int_inj q1).symm g
        · exact Or.inr q
  · by_cases e : k = m'
    · subst e; rw [upd_same]; omega
    · rw [upd_ne e]; exact h.low k hk
theorem DI.push {k i : Nat} (h : DI G B tgt cl k i o n f) (hk : k < G.N) (hmax : ∀ a, a < G.N → o a ≤ o k) (hok : 0 ≤ o k) (hi : i < G.deg k) (hm : G.lk k i < G.N) (hd : 0 ≤ G.d k (G.lk k i) ∧ G.d k (G.lk k i) ≤ B) (hc : cl (G.lk k i) = false) (nx : Int) :
    DI G B tgt cl k (i + 1) o (n + 1) (pushF n f ⟨o k + G.d k (G.lk k i), nx, .int .i64 (G.lk k i : Int)⟩) where
  ord := push_ord h.ord
  vals := push_all h.vals ⟨G.lk k i, rfl, hm, fun a ha => by have := hmax a ha; show o a ≤ o k + G.d k (G.lk k i); omega, by show 0 ≤ o k + G.d k (G.lk k i); omega, by have := (h.set k hk hok).2; show o k + G.d k (G.lk k i) ≤ _; omega, Or.inr ⟨k, hk, hok, ⟨i, hi, rfl⟩, rfl, hc⟩⟩
  set := h.set
  rel := fun a ha hoa j hj he hcj => by
    by_cases e : a = k ∧ j = i
    · obtain ⟨rfl, rfl⟩ := e
      exact Or.inr (mem_new ⟨rfl, Int.le_refl _⟩)
    · rcases h.rel a ha hoa j hj (fun e1 => by have := he e1; have : j ≠ i := fun e2 => e ⟨e1, e2⟩; omega) hcj with q | q
      · exact Or.inl q
      · exact Or.inr (mem_push q)
  fst := h.fst.imp id mem_push
  low := h.low
theorem DI.past {k i : Nat} (h : DI G B tgt cl k i o n f) (hmax : ∀ a, a < G.N → o a ≤ o k) (hm : G.lk k i < G.N) (hd : 0 ≤ G.d k (G.lk k i)) (hc : 0 ≤ o (G.lk k i) ∨ cl (G.lk k i) = true) : DI G B tgt cl k (i + 1) o n f where
  ord := h.ord
  vals := h.vals
  set := h.set
  rel := fun a ha hoa j hj he hcj => by
    by_cases e : a = k ∧ j = i
    · obtain ⟨rfl, rfl⟩ := e
      rcases hc with q | q
      · have := hmax _ hm
        exact Or.inl ⟨q, by omega⟩
      · rw [q] at hcj; cases hcj
    · exact h.rel a ha hoa j hj (fun e1 => by have := he e1; have : j ≠ i := fun e2 => e ⟨e1, e2⟩; omega) hcj
  fst := h.fst
  low := h.low
theorem DI.next {k i : Nat} (h : DI G B tgt cl k i o n f) (hi : i = G.deg k) : DI G B tgt cl G.N 0 o n f where
  ord := h.ord
  vals := h.vals
  set := h.set
  rel := fun a ha hoa j hj _ hcj => h.rel a ha hoa j hj (fun e => by subst e hi; exact hj) hcj
  fst := h.fst
  low := h.low
/-- The lengths at the end. -/
structure Fin (G : Gr) (tgt : Nat) (cl : Nat → Bool) (o : Nat → Int) : Prop where
  zero : o tgt = 0
  src : ∀ k, k < G.N → 0 ≤ o k → Src G tgt cl o k (o k)
  rel : ∀ k, k < G.N → 0 ≤ o k → ∀ m, G.adj k m → cl m = false → 0 ≤ o m ∧ o m ≤ o k + G.d k m
  low : ∀ k, k < G.N → -1 ≤ o k
theorem DI.fin (h : DI G B tgt cl G.N 0 o 0 f) : Fin G tgt cl o where
  zero := by
    rcases h.fst with q | ⟨i, hi, -⟩
    · omega
    · exact absurd hi (Nat.not_lt_zero i)
  src := fun k hk hok => (h.set k hk hok).1
  rel := fun k hk hok m ⟨i, hi, e⟩ hc => by
    subst e
    rcases h.rel k hk hok i hi (fun e => absurd e (by omega)) hc with q | ⟨j, hj, -⟩
    · exact q
    · exact absurd hj (Nat.not_lt_zero j)
  low := h.low
end
/-- The length of a way that begins at a. -/
def len (d : Nat → Nat → Int) : Nat → List Nat → Int
  | _, [] => 0
  | a, b :: l => d a b + len d b l
/-- Each fix of a way is linked with the next one. -/
def chn (G : Gr) : Nat → List Nat → Prop
  | _, [] => True
  | a, b :: l => G.adj a b ∧ chn G b l
/-- Where a way ends. -/
def fin : Nat → List Nat → Nat
  | a, [] => a
  | _, b :: l => fin b l
theorem len_append (d : Nat → Nat → Int) : ∀ (l : List Nat) (a : Nat) (m : List Nat), len d a (l ++ m) = len d a l + len d (fin a l) m
  | [], a, m => by show len d a m = 0 + len d a m; omega
  | b :: l, a, m => by
    have ih := len_append d l b m
    show d a b + len d b (l ++ m) = d a b + len d b l + len d (fin b l) m
    omega
theorem chn_append {G : Gr} : ∀ (l : List Nat) (a : Nat) (m : List Nat), chn G a (l ++ m) ↔ chn G a l ∧ chn G (fin a l) m
  | [], a, m => ⟨fun h => ⟨True.intro, h⟩, fun h => h.2⟩
  | b :: l, a, m => by
    have ih := chn_append (G := G) l b m
    constructor
    · rintro ⟨h1, h2⟩; exact ⟨⟨h1, (ih.1 h2).1⟩, (ih.1 h2).2⟩
    · rintro ⟨⟨h1, h2⟩, h3⟩; exact ⟨h1, ih.2 ⟨h2, h3⟩⟩
theorem fin_append : ∀ (l : List Nat) (a : Nat) (m : List Nat), fin a (l ++ m) = fin (fin a l) m
  | [], _, _ => rfl
  | b :: l, _, m => fin_append l b m
theorem fin_mem : ∀ (l : List Nat) (a : Nat), fin a l = a ∨ fin a l ∈ l
  | [], _ => Or.inl rfl
  | b :: l, _ => by
    rcases fin_mem l b with h | h
    · exact Or.inr (by show fin b l ∈ b :: l; rw [h]; exact List.mem_cons_self)
    · exact Or.inr (List.mem_cons_of_mem _ h)
section
variable {G : Gr} {B : Int}
theorem chn_lt (hG : G.Ok B) : ∀ (l : List Nat) (a : Nat), a < G.N → chn G a l → ∀ x ∈ l, x < G.N
  | [], _, _, _, x, hx => absurd hx List.not_mem_nil
  | b :: l, a, ha, ⟨⟨i, hi, e⟩, h2⟩, x, hx => by
    have hb : b < G.N := by rw [← e]; exact hG.lt a ha i hi
    rcases List.mem_cons.1 hx with q | q
    · rw [q]; exact hb
    · exact chn_lt hG l b hb h2 x q
theorem adj_lt (hG : G.Ok B) {a b : Nat} (ha : a < G.N) (h : G.adj a b) : b < G.N := by
  obtain ⟨i, hi, e⟩ := h; rw [← e]; exact hG.lt a ha i hi
theorem len_nn (hG : G.Ok B) : ∀ (l : List Nat) (a : Nat), a < G.N → chn G a l → 0 ≤ len G.d a l
  | [], _, _, _ => Int.le_refl _
  | b :: l, a, ha, ⟨h1, h2⟩ => by
    have := len_nn hG l b (adj_lt hG ha h1) h2
    have := hG.pos a ha b h1
    show 0 ≤ G.d a b + len G.d b l
    omega
/-- The way back. -/
def back : Nat → List Nat → List Nat
  | _, [] => []
  | a, b :: l => back b l ++ [a]
theorem back_len : ∀ (l : List Nat) (a : Nat), (back a l).length = l.length
  | [], _ => rfl
  | b :: l, a => by show (back b l ++ [a]).length = l.length + 1; rw [List.length_append, back_len l b]; rfl
theorem back_fin : ∀ (l : List Nat) (a : Nat), fin (fin a l) (back a l) = a
  | [], _ => rfl
  | b :: l, a => by show fin (fin b l) (back b l ++ [a]) = a; rw [fin_append]; rfl
theorem back_chn (hG : G.Ok B) : ∀ (l : List Nat) (a : Nat), a < G.N → chn G a l → chn G (fin a l) (back a l)
  | [], _, _, _ => True.intro
  | b :: l, a, ha, ⟨h1, h2⟩ => by
    have hb := adj_lt hG ha h1
    show chn G (fin b l) (back b l ++ [a])
    rw [chn_append, back_fin]
    exact ⟨back_chn hG l b hb h2, hG.sym a ha b h1, True.intro⟩
theorem back_length (hG : G.Ok B) : ∀ (l : List Nat) (a : Nat), len G.d (fin a l) (back a l) = len G.d a l
  | [], _ => rfl
  | b :: l, a => by
    show len G.d (fin b l) (back b l ++ [a]) = G.d a b + len G.d b l
    rw [len_append, back_fin, back_length hG l b]
    show len G.d b l + (G.d b a + 0) = _
    rw [hG.dsym b a]; omega
/-- A shorter way without repetitions. -/
theorem simple (hG : G.Ok B) : ∀ (l : List Nat) (a : Nat), a < G.N → chn G a l → ∃ m, chn G a m ∧ (a :: m).Nodup ∧ fin a m = fin a l ∧ len G.d a m ≤ len G.d a l ∧ ∀ x ∈ m, x ∈ l
  | [], a, _, _ => ⟨[], True.intro, by simp, rfl, Int.le_refl _, fun x hx => hx⟩
  | b :: l, a, ha, ⟨h1, h2⟩ => by
    have hb := adj_lt hG ha h1
    obtain ⟨m, c1, c2, c3, c4, c5⟩ := simple hG l b hb h2
    have hp := hG.pos a ha b h1
    have c5' : ∀ x ∈ b :: m, x ∈ b :: l := fun x hx => by
      rcases List.mem_cons.1 hx with q | q
      · rw [q]; exact List.mem_cons_self
      · exact List.mem_cons_of_mem _ (c5 x q)
    by_cases hin : a ∈ b :: m
    · -- drop what lies ahead of a
      obtain ⟨s, t, e⟩ := List.append_of_mem hin
      cases s with
      | nil =>
        injection e with e1 e2
        subst e1 e2
        refine ⟨m, c1, c2, c3, ?_, fun x hx => c5' x (List.mem_cons_of_mem _ hx)⟩
        show len G.d b m ≤ G.d b b + len G.d b l
        omega
      | cons x s =>
        injection e with e1 e2
        subst e1
        have e3 : m = s ++ a :: t := e2
        clear e2
        subst e3
        have k1 := (chn_append s b (a :: t)).1 c1
        have k2 := len_append G.d s b (a :: t)
        have k3 := fin_append s b (a :: t)
        have k4 : chn G a t := k1.2.2
        have k5 := len_nn hG s b hb k1.1
        have hf : fin b s < G.N := by
          rcases fin_mem s b with q | q
          · rw [q]; exact hb
          · exact chn_lt hG s b hb k1.1 _ q
        have k6 := (hG.pos _ hf a k1.2.1).1
        refine ⟨t, k4, ?_, ?_, ?_, fun y hy => c5' y (by simp [hy])⟩
        · have q : ((b :: s) ++ a :: t).Nodup := c2
          rw [List.nodup_append] at q
          exact q.2.1
        · rw [k3] at c3; exact c3
        · have k7 : len G.d (fin b s) (a :: t) = G.d (fin b s) a + len G.d a t := rfl
          have k8 : len G.d a (b :: l) = G.d a b + len G.d b l := rfl
          omega
    · refine ⟨b :: m, ⟨h1, c1⟩, List.nodup_cons.2 ⟨hin, c2⟩, c3, ?_, c5'⟩
      show G.d a b + len G.d b m ≤ G.d a b + len G.d b l
      omega
/-- No way of open fixes is shorter than the length at its beginning. -/
theorem Fin.least (hG : G.Ok B) {tgt : Nat} {cl : Nat → Bool} {o : Nat → Int} (h : Fin G tgt cl o) (hto : tgt < G.N) : ∀ (l : List Nat), chn G tgt l → (∀ x ∈ l, cl x = false) → 0 ≤ o (fin tgt l) ∧ o (fin tgt l) ≤ len G.d tgt l := by
  have main : ∀ (l : List Nat) (a : Nat), a < G.N → 0 ≤ o a → chn G a l → (∀ x ∈ l, cl x = false) → 0 ≤ o (fin a l) ∧ o (fin a l) ≤ o a + len G.d a l := by
    intro l
    induction l with
    | nil => intro a _ h0 _ _; exact ⟨h0, by show o a ≤ o a + 0; omega⟩
    | cons b l ih =>
      intro a ha h0 ⟨h1, h2⟩ hc
      have r := h.rel a ha h0 b h1 (hc b List.mem_cons_self)
      have q := ih b (adj_lt hG ha h1) r.1 h2 fun x hx => hc x (List.mem_cons_of_mem _ hx)
      refine ⟨q.1, ?_⟩
      have q2 := q.2
      show o (fin b l) ≤ o a + (G.d a b + len G.d b l)
      omega
  intro l hl hc
  have := main l tgt hto (by rw [h.zero]; exact Int.le_refl _) hl hc
  rw [h.zero] at this
  exact ⟨this.1, by omega⟩
end
end Short
end Go.Proofs.YtmkglhoahdlogaaGreatDoor
namespace Go.Proofs.YtmkglhoahdlogaaGreatDoor
namespace Short
theorem mem_back : ∀ (l : List Nat) (a x : Nat), x ∈ back a l → x ∈ a :: l
  | [], _, x, h => absurd h List.not_mem_nil
  | b :: l, a, x, h => by
    rcases List.mem_append.1 h with q | q
    · exact List.mem_cons_of_mem _ (mem_back l b x q)
    · rw [List.mem_singleton.1 q]; exact List.mem_cons_self
/-- There is a way as long as the length says. -/
theorem Fin.reach {G : Gr} {B : Int} (hG : G.Ok B) {tgt : Nat} {cl : Nat → Bool} {o : Nat → Int} (h : Fin G tgt cl o) : ∀ (n k : Nat), k < G.N → 0 ≤ o k → (o k).toNat ≤ n → ∃ l, chn G tgt l ∧ fin tgt l = k ∧ len G.d tgt l = o k := by
  intro n
  induction n with
  | zero =>
    intro k hk h0 hn
    rcases h.src k hk h0 with ⟨e1, e2⟩ | ⟨a, ha, h1, h2, h3, -⟩
    · subst e1; exact ⟨[], True.intro, rfl, e2.symm⟩
    · have := hG.pos a ha k h2
      omega
  | succ n ih =>
    intro k hk h0 hn
    rcases h.src k hk h0 with ⟨e1, e2⟩ | ⟨a, ha, h1, h2, h3, -⟩
    · subst e1; exact ⟨[], True.intro, rfl, e2.symm⟩
    · have hp := hG.pos a ha k h2
      obtain ⟨l, q1, q2, q3⟩ := ih a ha h1 (by omega)
      refine ⟨l ++ [k], (chn_append l tgt [k]).2 ⟨q1, ?_⟩, by rw [fin_append]; rfl, ?_⟩
      · rw [q2]; exact ⟨h2, True.intro⟩
      · rw [len_append, q2, q3, h3]
        show o a + (G.d a k + 0) = _
        omega
/-- A way that is asked for: no repetition, over open fixes, its first step not the barred one. -/
structure Is (G : Gr) (a tgt : Nat) (cl : Nat → Bool) (bar : Int) (l : List Nat) : Prop where
  chn : chn G a l
  fin : fin a l = tgt
  nodup : (a :: l).Nodup
  opn : ∀ x ∈ l, cl x = false
  fst : ∀ b t, l = b :: t → (b : Int) ≠ bar
/-- The shortest one. -/
structure Best (G : Gr) (a tgt : Nat) (cl : Nat → Bool) (bar : Int) (l : List Nat) (n : Int) : Prop where
  is : Is G a tgt cl bar l
  len : len G.d a l = n
  least : ∀ m, Is G a tgt cl bar m → n ≤ Short.len G.d a m
/-- With one more shut. -/
def shut (cl : Nat → Bool) (a : Nat) : Nat → Bool := fun x => if x = a then true else cl x
theorem shut_same (cl : Nat → Bool) (a : Nat) : shut cl a a = true := if_pos rfl
theorem shut_ne {cl : Nat → Bool} {a x : Nat} (h : x ≠ a) : shut cl a x = cl x := if_neg h
/-- Whether a first step is allowed. -/
def Cnd (G : Gr) (a : Nat) (cl : Nat → Bool) (bar : Int) (o : Nat → Int) (i : Nat) : Prop := ((G.lk a i : Nat) : Int) ≠ bar ∧ shut cl a (G.lk a i) = false ∧ 0 ≤ o (G.lk a i)
/-- The best of the first i links. -/
def Bst (G : Gr) (a : Nat) (cl : Nat → Bool) (bar : Int) (o : Nat → Int) (i : Nat) (b : Int) : Prop :=
  (b = -1 ∧ ∀ j, j < i → ¬ Cnd G a cl bar o j) ∨ (0 ≤ b ∧ (∃ j, j < i ∧ Cnd G a cl bar o j ∧ b = G.d a (G.lk a j) + o (G.lk a j)) ∧ ∀ j, j < i → Cnd G a cl bar o j → b ≤ G.d a (G.lk a j) + o (G.lk a j))
section
variable {G : Gr} {B : Int} {a tgt : Nat} {cl : Nat → Bool} {bar : Int} {o : Nat → Int}
theorem Bst.zero : Bst G a cl bar o 0 (-1) := Or.inl ⟨rfl, fun j h => absurd h (Nat.not_lt_zero j)⟩
theorem Bst.no {i : Nat} {b : Int} (h : Bst G a cl bar o i b) (hc : ¬ Cnd G a cl bar o i) : Bst G a cl bar o (i + 1) b := by
  rcases h with ⟨h1, h2⟩ | ⟨h0, ⟨j, h1, h2, h3⟩, h4⟩
  · exact Or.inl ⟨h1, fun j hj => by
      by_cases e : j = i
      · subst e; exact hc
      · exact h2 j (by omega)⟩
  · exact Or.inr ⟨h0, ⟨j, by omega, h2, h3⟩, fun j hj hcj => by
      by_cases e : j = i
      · subst e; exact absurd hcj hc
      · exact h4 j (by omega) hcj⟩
theorem Bst.keep {i : Nat} {b : Int} (h : Bst G a cl bar o i b) (hb : 0 ≤ b) (hc : b ≤ G.d a (G.lk a i) + o (G.lk a i)) : Bst G a cl bar o (i + 1) b := by
  rcases h with ⟨h1, h2⟩ | ⟨h0, ⟨j, h1, h2, h3⟩, h4⟩
  · omega
  · exact Or.inr ⟨h0, ⟨j, by omega, h2, h3⟩, fun j hj hcj => by
      by_cases e : j = i
      · subst e; exact hc
      · exact h4 j (by omega) hcj⟩
theorem Bst.yes {i : Nat} {b : Int} (h : Bst G a cl bar o i b) (hc : Cnd G a cl bar o i) (hd : 0 ≤ G.d a (G.lk a i)) (hl : b < 0 ∨ G.d a (G.lk a i) + o (G.lk a i) < b) : Bst G a cl bar o (i + 1) (G.d a (G.lk a i) + o (G.lk a i)) := by
  have h5 := hc.2.2
  rcases h with ⟨h1, h2⟩ | ⟨h0, ⟨j, h1, h2, h3⟩, h4⟩
  · exact Or.inr ⟨by omega, ⟨i, by omega, hc, rfl⟩, fun j hj hcj => by
      by_cases e : j = i
      · subst e; omega
      · exact absurd hcj (h2 j (by omega))⟩
  · exact Or.inr ⟨by omega, ⟨i, by omega, hc, rfl⟩, fun j hj hcj => by
      by_cases e : j = i
      · subst e; omega
      · have := h4 j (by omega) hcj; omega⟩
/-- A way that is asked for begins with an allowed step, and is no shorter than the best says. -/
theorem is_best (hG : G.Ok B) (hF : Fin G tgt (shut cl a) o) (ha : a < G.N) (hto : tgt < G.N) (hne : a ≠ tgt) {m : List Nat} (hm : Is G a tgt cl bar m) {b : Int} (hb : Bst G a cl bar o (G.deg a) b) : 0 ≤ b ∧ b ≤ len G.d a m := by
  have hfin := hm.fin
  cases m with
  | nil => exact absurd hfin hne
  | cons c t =>
    have hnd := List.nodup_cons.1 hm.nodup
    have hac : c ≠ a := fun e => hnd.1 (by rw [e]; exact List.mem_cons_self)
    obtain ⟨h1, h2⟩ := hm.chn
    have hc := adj_lt hG ha h1
    have hopn : ∀ x ∈ c :: t, shut cl a x = false := fun x hx => by
      have : x ≠ a := fun e => hnd.1 (by rw [← e]; exact hx)
      rw [shut_ne this]; exact hm.opn x hx
    have e : fin c t = tgt := hfin
    have hbk := back_chn hG t c hc h2
    have hbl := back_length hG t c
    have hbf := back_fin t c
    rw [e] at hbk hbl hbf
    have q := hF.least hG hto (back c t) hbk fun x hx => hopn x (mem_back t c x hx)
    rw [hbf, hbl] at q
    obtain ⟨i, hi, ei⟩ := h1
    have hcn : Cnd G a cl bar o i := ⟨by rw [ei]; exact hm.fst c t rfl, by rw [ei]; exact hopn c List.mem_cons_self, by rw [ei]; exact q.1⟩
    rcases hb with ⟨-, h⟩ | ⟨h0, -, h⟩
    · exact absurd hcn (h i hi)
    · have := h i hi hcn
      rw [ei] at this
      refine ⟨h0, ?_⟩
      show b ≤ G.d a c + len G.d c t
      omega
/-- What the search for the next step asks of a link. -/
def Nxt (G : Gr) (a : Nat) (cl : Nat → Bool) (bar : Int) (o : Nat → Int) (left : Int) (p i : Nat) : Prop := (p ≠ a ∨ ((G.lk p i : Nat) : Int) ≠ bar) ∧ shut cl a (G.lk p i) = false ∧ 0 ≤ o (G.lk p i) ∧ G.d p (G.lk p i) + o (G.lk p i) = left
/-- What is left behind some steps. -/
def lf (o : Nat → Int) (best : Int) (a : Nat) (l : List Nat) : Int := if l = [] then best else o (fin a l)
/-- Each step is the first link that will do. -/
def Trc (G : Gr) (a : Nat) (cl : Nat → Bool) (bar : Int) (o : Nat → Int) (best : Int) (l : List Nat) : Prop := ∀ pre m suf, l = pre ++ m :: suf → ∃ i, i < G.deg (fin a pre) ∧ G.lk (fin a pre) i = m ∧ Nxt G a cl bar o (lf o best a pre) (fin a pre) i ∧ ∀ j, j < i → ¬ Nxt G a cl bar o (lf o best a pre) (fin a pre) j
theorem trc_nil {best : Int} : Trc G a cl bar o best [] := fun pre m suf e => by cases pre <;> cases e
theorem trc_step {best : Int} {l : List Nat} (h : Trc G a cl bar o best l) {i : Nat} (hi : i < G.deg (fin a l)) (hx : Nxt G a cl bar o (lf o best a l) (fin a l) i) (hno : ∀ j, j < i → ¬ Nxt G a cl bar o (lf o best a l) (fin a l) j) : Trc G a cl bar o best (l ++ [G.lk (fin a l) i]) := fun pre m suf e => by
  rcases List.eq_nil_or_concat suf with rfl | ⟨s, x, rfl⟩
  · have q := List.append_inj' e rfl
    obtain ⟨q1, q2⟩ := q
    subst q1
    injection q2 with q2
    exact ⟨i, hi, q2, hx, hno⟩
  · rw [List.concat_eq_append, ← List.cons_append, ← List.append_assoc] at e
    exact h pre m s (List.append_inj' e rfl).1
/-- How the way grows: the fixes so far, and what is left. -/
structure Go (G : Gr) (a tgt : Nat) (cl : Nat → Bool) (bar : Int) (o : Nat → Int) (best : Int) (l : List Nat) (left : Int) : Prop where
  chn : chn G a l
  nodup : (a :: l).Nodup
  opn : ∀ x ∈ l, shut cl a x = false
  fst : ∀ b t, l = b :: t → (b : Int) ≠ bar
  len : len G.d a l + left = best
  dec : ∀ x ∈ l, left ≤ o x
  val : l ≠ [] → o (fin a l) = left
  ini : l = [] → left = best
  lt : ∀ x ∈ l, x < G.N
  nn : 0 ≤ left
  trc : Trc G a cl bar o best l
theorem fin_ne {l : List Nat} (h : (a :: l).Nodup) (hl : l ≠ []) : fin a l ≠ a := by
  have hn := (List.nodup_cons.1 h).1
  cases l with
  | nil => exact absurd rfl hl
  | cons b t =>
    intro e
    rcases fin_mem t b with q | q
    · have : fin a (b :: t) = fin b t := rfl
      exact hn (by rw [← e, this, q]; exact List.mem_cons_self)
    · have : fin a (b :: t) = fin b t := rfl
      exact hn (List.mem_cons_of_mem _ (by rw [← e, this]; exact q))
/-- There is a next step. -/
theorem Go.more (hG : G.Ok B) (hF : Fin G tgt (shut cl a) o) (ha : a < G.N) (hcl : cl tgt = false) (hne : a ≠ tgt) {best : Int} (hb : Bst G a cl bar o (G.deg a) best) (hb0 : 0 ≤ best) {l : List Nat} {left : Int} (h : Go G a tgt cl bar o best l left) (hat : fin a l ≠ tgt) :
    ∃ i, i < G.deg (fin a l) ∧ Nxt G a cl bar o left (fin a l) i := by
  by_cases hl : l = []
  · subst hl
    rw [h.ini rfl]
    rcases hb with ⟨h1, -⟩ | ⟨-, ⟨j, h1, h2, h3⟩, -⟩
    · omega
    · exact ⟨j, h1, Or.inr h2.1, h2.2.1, h2.2.2, h3.symm⟩
  · have hv := h.val hl
    have hfl : fin a l < G.N := by
      rcases fin_mem l a with q | q
      · rw [q]; exact ha
      · exact h.lt _ q
    have hnn := h.nn
    rcases hF.src _ hfl (by omega) with ⟨e, -⟩ | ⟨k, hk, k1, k2, k3, -⟩
    · exact absurd e hat
    · obtain ⟨i, hi, ei⟩ := hG.sym k hk _ k2
      refine ⟨i, hi, Or.inl (fin_ne h.nodup hl), ?_, by rw [ei]; exact k1, by rw [ei, hG.dsym]; omega⟩
      rw [ei]
      rcases hF.src k hk k1 with ⟨e, -⟩ | ⟨-, -, -, -, -, q⟩
      · rw [e, shut_ne fun e => hne e.symm]; exact hcl
      · exact q
theorem Go.step (hG : G.Ok B) (ha : a < G.N) {best left : Int} {l : List Nat} (h : Go G a tgt cl bar o best l left) {i : Nat} (hi : i < G.deg (fin a l)) (hx : Nxt G a cl bar o left (fin a l) i) (hno : ∀ j, j < i → ¬ Nxt G a cl bar o left (fin a l) j) : Go G a tgt cl bar o best (l ++ [G.lk (fin a l) i]) (o (G.lk (fin a l) i)) ∧ o (G.lk (fin a l) i) < left := by
  have hfl : fin a l < G.N := by
    rcases fin_mem l a with q | q
    · rw [q]; exact ha
    · exact h.lt _ q
  have hlf : left = lf o best a l := by
    unfold lf
    split
    · rename_i e; exact h.ini e
    · rename_i e; exact (h.val e).symm
  have htr := trc_step h.trc hi (hlf ▸ hx) (hlf ▸ hno)
  obtain ⟨m, hm⟩ : ∃ m, G.lk (fin a l) i = m := ⟨_, rfl⟩
  rw [hm] at htr
  unfold Nxt at hx
  rw [hm] at hx ⊢
  have hadj : G.adj (fin a l) m := ⟨i, hi, hm⟩
  have hp := hG.pos _ hfl m hadj
  obtain ⟨x1, x2, x3, x4⟩ := hx
  have hma : m ≠ a := fun e => by rw [e, shut_same] at x2; cases x2
  have hlt : o m < left := by omega
  refine ⟨⟨(chn_append l a [m]).2 ⟨h.chn, hadj, True.intro⟩, ?_, fun x q => ?_, fun b t e => ?_, ?_, fun x q => ?_, fun _ => by rw [fin_append]; rfl, fun e => absurd e (by simp), fun x q => ?_, x3, htr⟩, hlt⟩
  · rw [← List.cons_append, List.nodup_append]
    refine ⟨h.nodup, by simp, fun x q y r => ?_⟩
    rw [List.mem_singleton.1 r]
    rcases List.mem_cons.1 q with e | q
    · rw [e]; exact fun e => hma e.symm
    · have := h.dec x q
      intro e; subst e; omega
  · rcases List.mem_append.1 q with q | q
    · exact h.opn x q
    · rw [List.mem_singleton.1 q]; exact x2
  · cases l with
    | nil =>
      injection e with e1 e2
      rw [← e1]
      rcases x1 with x1 | x1
      · exact absurd rfl x1
      · exact x1
    | cons c s =>
      injection e with e1 e2
      rw [← e1]; exact h.fst c s rfl
  · rw [len_append]
    have := h.len
    show Short.len G.d a l + (G.d (fin a l) m + 0) + o m = best
    omega
  · rcases List.mem_append.1 q with q | q
    · have := h.dec x q; omega
    · rw [List.mem_singleton.1 q]; omega
  · rcases List.mem_append.1 q with q | q
    · exact h.lt x q
    · rw [List.mem_singleton.1 q]; exact adj_lt hG hfl hadj
theorem Go.start {best : Int} (hb : 0 ≤ best) : Go G a tgt cl bar o best [] best where
  chn := True.intro
  nodup := by simp
  opn := fun x q => absurd q List.not_mem_nil
  fst := fun b t e => by cases e
  len := by show 0 + best = best; omega
  dec := fun x q => absurd q List.not_mem_nil
  val := fun q => absurd rfl q
  ini := fun _ => rfl
  lt := fun x q => absurd q List.not_mem_nil
  nn := hb
  trc := trc_nil
theorem Go.done (hG : G.Ok B) (hF : Fin G tgt (shut cl a) o) (ha : a < G.N) (hto : tgt < G.N) (hne : a ≠ tgt) {best : Int} (hb : Bst G a cl bar o (G.deg a) best) {l : List Nat} {left : Int} (h : Go G a tgt cl bar o best l left) (hat : fin a l = tgt) : Best G a tgt cl bar l best := by
  have hl : l ≠ [] := fun e => by subst e; exact hne hat
  have h0 : left = 0 := by
    have := h.val hl
    rw [hat, hF.zero] at this
    exact this.symm
  have hlen := h.len
  refine ⟨⟨h.chn, hat, h.nodup, fun x q => ?_, h.fst⟩, by omega, fun m hm => (is_best hG hF ha hto hne hm hb).2⟩
  have hn := (List.nodup_cons.1 h.nodup).1
  have e : x ≠ a := fun e => hn (by rw [← e]; exact q)
  have := h.opn x q
  rw [shut_ne e] at this
  exact this
end
/-- How the way is chosen among the shortest ones. -/
def One (G : Gr) (a tgt : Nat) (cl : Nat → Bool) (bar : Int) (l : List Nat) (n : Int) : Prop := l = [] ∨ ∃ o, Fin G tgt (shut cl a) o ∧ Trc G a cl bar o n l
/-- The shortest one that is taken. -/
structure BestO (G : Gr) (a tgt : Nat) (cl : Nat → Bool) (bar : Int) (l : List Nat) (n : Int) : Prop extends Best G a tgt cl bar l n where
  one : One G a tgt cl bar l n
section
variable {G : Gr} {B : Int} {a tgt : Nat} {cl : Nat → Bool} {bar : Int} {o : Nat → Int}
theorem Go.doneO (hG : G.Ok B) (hF : Fin G tgt (shut cl a) o) (ha : a < G.N) (hto : tgt < G.N) (hne : a ≠ tgt) {best : Int} (hb : Bst G a cl bar o (G.deg a) best) {l : List Nat} {left : Int} (h : Go G a tgt cl bar o best l left) (hat : fin a l = tgt) : BestO G a tgt cl bar l best :=
  ⟨h.done hG hF ha hto hne hb hat, Or.inr ⟨o, hF, h.trc⟩⟩
/-- The lengths are told by the graph. -/
theorem fin_to (hG : G.Ok B) {o' : Nat → Int} (h : Fin G tgt cl o) (h' : Fin G tgt cl o') : ∀ n k, k < G.N → 0 ≤ o k → (o k).toNat ≤ n → 0 ≤ o' k ∧ o' k ≤ o k := by
  intro n
  induction n with
  | zero =>
    intro k hk h0 hn
    rcases h.src k hk h0 with ⟨e, -⟩ | ⟨j, hj, hj0, hadj, e, -⟩
    · subst e; have := h'.zero; omega
    · have := (hG.pos j hj k hadj).1; omega
  | succ n ih =>
    intro k hk h0 hn
    rcases h.src k hk h0 with ⟨e, -⟩ | ⟨j, hj, hj0, hadj, e, hc⟩
    · subst e; have := h'.zero; omega
    · have d := (hG.pos j hj k hadj).1
      have q := ih j hj hj0 (by omega)
      have r := h'.rel j hj q.1 k hadj hc
      omega
theorem fin_eq (hG : G.Ok B) {o' : Nat → Int} (h : Fin G tgt cl o) (h' : Fin G tgt cl o') {k : Nat} (hk : k < G.N) : o k = o' k := by
  have l1 := h.low k hk
  have l2 := h'.low k hk
  rcases Int.lt_or_le (o k) 0 with q | q
  · rcases Int.lt_or_le (o' k) 0 with r | r
    · omega
    · have := (fin_to hG h' h _ k hk r (Nat.le_refl _)).1; omega
  · have := fin_to hG h h' _ k hk q (Nat.le_refl _)
    have := fin_to hG h' h _ k hk this.1 (Nat.le_refl _)
    omega
theorem nxt_eq {o' : Nat → Int} {left : Int} {p i : Nat} (e : o (G.lk p i) = o' (G.lk p i)) (h : Nxt G a cl bar o left p i) : Nxt G a cl bar o' left p i := by
  unfold Nxt at *
  rw [← e]; exact h
/-- The way that is taken is one. -/
theorem one_same (hG : G.Ok B) (ha : a < G.N) {l l' : List Nat} {n n' : Int} (h : BestO G a tgt cl bar l n) (h' : BestO G a tgt cl bar l' n') : l = l' := by
  have e : n = n' := by
    have h1 := h.least l' h'.is
    have h2 := h'.least l h.is
    rw [h'.len] at h1
    rw [h.len] at h2
    omega
  subst e
  have none : ∀ {x y : List Nat} {k : Int}, Is G a tgt cl bar x → Is G a tgt cl bar y → x = [] → k = k → x = y := fun {x y k} hx hy e _ => by
    subst e
    have q : fin a y = a := hy.fin.trans hx.fin.symm
    rcases Classical.em (y = []) with r | r
    · exact r.symm
    · exact absurd q (fin_ne hy.nodup r)
  rcases h.one with e | ⟨o, hF, hT⟩
  · exact none (k := 0) h.is h'.is e rfl
  rcases h'.one with e | ⟨o', hF', hT'⟩
  · exact (none (k := 0) h'.is h.is e rfl).symm
  have heq : ∀ k, k < G.N → o k = o' k := fun k hk => fin_eq hG hF hF' hk
  have stop : ∀ {x y pre : List Nat} {m : Nat} {t : List Nat}, Is G a tgt cl bar x → Is G a tgt cl bar y → x = pre → y = pre ++ m :: t → False := fun {x y pre m t} hx hy e1 e2 => by
    subst e1 e2
    have f1 := hx.fin
    have f2 := hy.fin
    rw [fin_append] at f2
    have f2 : fin m t = tgt := f2
    have nd := hy.nodup
    rw [← List.cons_append, List.nodup_append] at nd
    have m1 : tgt ∈ a :: x := by
      rcases fin_mem x a with q | q
      · rw [← f1, q]; exact List.mem_cons_self
      · rw [← f1]; exact List.mem_cons_of_mem _ q
    have m2 : tgt ∈ m :: t := by
      rcases fin_mem t m with q | q
      · rw [← f2, q]; exact List.mem_cons_self
      · rw [← f2]; exact List.mem_cons_of_mem _ q
    exact nd.2.2 tgt m1 tgt m2 rfl
  have key : ∀ s s' pre, l = pre ++ s → l' = pre ++ s' → s = s' := by
    intro s
    induction s with
    | nil =>
      intro s' pre e1 e2
      cases s' with
      | nil => rfl
      | cons m t => exact (stop h.is h'.is (e1.trans (List.append_nil _)) e2).elim
    | cons m s ih =>
      intro s' pre e1 e2
      cases s' with
      | nil => exact (stop h'.is h.is (e2.trans (List.append_nil _)) e1).elim
      | cons m' t =>
        obtain ⟨i, hi, hm, hx, hno⟩ := hT pre m s e1
        obtain ⟨i', hi', hm', hx', hno'⟩ := hT' pre m' t e2
        have hp : fin a pre < G.N := by
          have hc := h.is.chn
          rw [e1] at hc
          have hc := ((chn_append _ _ _).1 hc).1
          rcases fin_mem pre a with q | q
          · rw [q]; exact ha
          · exact chn_lt hG pre a ha hc _ q
        have hlf : lf o n a pre = lf o' n a pre := by
          unfold lf
          split
          · rfl
          · exact heq _ hp
        rw [hlf] at hx hno
        have ii : i = i' := by
          rcases Nat.lt_trichotomy i i' with q | q | q
          · exact absurd (nxt_eq (heq _ (hG.lt _ hp i hi)) hx) (hno' i q)
          · exact q
          · exact absurd (nxt_eq (heq _ (hG.lt _ hp i' hi')).symm hx') (hno i' q)
        subst ii
        obtain rfl : m = m' := hm.symm.trans hm'
        rw [ih t (pre ++ [m]) (by rw [e1]; simp) (by rw [e2]; simp)]
  exact key l l' [] rfl rfl
end
end Short
end Go.Proofs.YtmkglhoahdlogaaGreatDoor
namespace Go.Proofs.YtmkglhoahdlogaaGreatDoor
namespace Short
/-- No fix is closed. -/
def noc : Nat → Bool := fun _ => false
theorem back_rev : ∀ (l : List Nat) (a : Nat), fin a l :: back a l = (a :: l).reverse
  | [], _ => rfl
  | b :: l, a => by
    have ih := back_rev l b
    rw [List.reverse_cons, ← ih]
    rfl
section
variable {G : Gr} {B : Int} {a b : Nat}
theorem is_noc {l : List Nat} (h1 : chn G a l) (h2 : fin a l = b) (h3 : (a :: l).Nodup) : Is G a b noc (-1) l :=
  ⟨h1, h2, h3, fun _ _ => rfl, fun _ _ _ => by omega⟩
theorem is_back (hG : G.Ok B) (ha : a < G.N) {l : List Nat} (h : Is G a b noc (-1) l) : Is G b a noc (-1) (back a l) := by
  have hf := h.fin
  refine is_noc ?_ ?_ ?_
  · rw [← hf]; exact back_chn hG l a ha h.chn
  · rw [← hf]; exact back_fin l a
  · have e := back_rev l a
    rw [hf] at e
    rw [e]
    exact (List.reverse_perm _).nodup_iff.2 h.nodup
/-- A way gives a way without repetitions. -/
theorem is_of (hG : G.Ok B) (ha : a < G.N) {l : List Nat} (h1 : chn G a l) (h2 : fin a l = b) : ∃ m, Is G a b noc (-1) m ∧ len G.d a m ≤ len G.d a l := by
  obtain ⟨m, c1, c2, c3, c4, -⟩ := simple hG l a ha h1
  exact ⟨m, is_noc c1 (by rw [c3, h2]) c2, c4⟩
theorem best_le (hG : G.Ok B) (ha : a < G.N) {l : List Nat} {n : Int} (h : Best G a b noc (-1) l n) {w : List Nat} (h1 : chn G a w) (h2 : fin a w = b) : n ≤ len G.d a w := by
  obtain ⟨m, c1, c2⟩ := is_of hG ha h1 h2
  have := h.least m c1
  omega
theorem best_back (hG : G.Ok B) (ha : a < G.N) (hb : b < G.N) {l l' : List Nat} {n n' : Int} (h : Best G a b noc (-1) l n) (h' : Best G b a noc (-1) l' n') : n = n' := by
  have q1 := h'.least _ (is_back hG ha h.is)
  have q2 := h.least _ (is_back hG hb h'.is)
  have e1 := back_length hG l a
  have e2 := back_length hG l' b
  rw [h.is.fin] at e1
  rw [h'.is.fin] at e2
  rw [e1, h.len] at q1
  rw [e2, h'.len] at q2
  omega
theorem best_all (hG : G.Ok B) (ha : a < G.N) (hb : b < G.N) {l : List Nat} {n : Int} (h : Best G a b noc (-1) l n) {o : Nat → Int} (hF : Fin G a noc o) : o b = n := by
  have q := hF.least hG ha l h.is.chn fun _ _ => rfl
  rw [h.is.fin, h.len] at q
  obtain ⟨w, w1, w2, w3⟩ := hF.reach hG (o b).toNat b hb q.1 (Nat.le_refl _)
  have := best_le hG ha h w1 w2
  omega
theorem best_self (hG : G.Ok B) (ha : a < G.N) {cl : Nat → Bool} {bar : Int} : Best G a a cl bar [] 0 :=
  ⟨⟨True.intro, rfl, by simp, fun x q => absurd q List.not_mem_nil, fun b t e => by cases e⟩, rfl, fun m hm => len_nn hG m a ha hm.chn⟩
/-- A way has no more fixes than there are. -/
theorem best_selfO (hG : G.Ok B) (ha : a < G.N) {cl : Nat → Bool} {bar : Int} : BestO G a a cl bar [] 0 := ⟨best_self hG ha, Or.inl rfl⟩
theorem nodup_le (hG : G.Ok B) (ha : a < G.N) {l : List Nat} (h1 : chn G a l) (h : (a :: l).Nodup) : l.length + 1 ≤ G.N := by
  have q : (a :: l).length ≤ (List.range G.N).length := by
    refine List.Nodup.length_le_of_subset h fun x hx => ?_
    rw [List.mem_range]
    rcases List.mem_cons.1 hx with e | e
    · rw [e]; exact ha
    · exact chn_lt hG l a ha h1 x e
  rw [List.length_range] at q
  exact q
end
end Short
end Go.Proofs.YtmkglhoahdlogaaGreatDoor
