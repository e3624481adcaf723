/- A heap as a function of its places: sifting up and down. Plain. -/
import Derived.WalkKit
namespace Go.Proofs.Ytjmfopihfnpcpaa
namespace Heap
/-- An item: its priority, its number, its value. -/
structure It where
  p : Int
  k : Int
  v : Value
abbrev Hp := Nat → It
/-- One item is before another one. -/
def bef (a b : It) : Bool := decide (a.p < b.p ∨ a.p = b.p ∧ a.k < b.k)
theorem bef_irr (a : It) : bef a a = false := by unfold bef; rw [decide_eq_false_iff_not]; omega
theorem bef_trans {a b c : It} (h : bef a b = false) (g : bef b c = false) : bef a c = false := by
  unfold bef at *; rw [decide_eq_false_iff_not] at *; omega
theorem bef_asym {a b : It} (h : bef a b = true) : bef b a = false := by
  unfold bef at *; rw [decide_eq_true_eq] at h; rw [decide_eq_false_iff_not]; omega
/-- Two items exchanged. -/
def sw (f : Hp) (i j : Nat) : Hp := fun a => if a = i then f j else if a = j then f i else f a
theorem sw_l (f : Hp) (i j : Nat) : sw f i j i = f j := if_pos rfl
theorem sw_r (f : Hp) (i j : Nat) : sw f i j j = f i := by
  unfold sw
  by_cases h : j = i
  · rw [if_pos h, h]
  · rw [if_neg h, if_pos rfl]
theorem sw_o {f : Hp} {i j a : Nat} (h : a ≠ i) (g : a ≠ j) : sw f i j a = f a := by unfold sw; rw [if_neg h, if_neg g]
theorem sw_cases (f : Hp) (i j a : Nat) : (a = i ∧ sw f i j a = f j) ∨ (a ≠ i ∧ a = j ∧ sw f i j a = f i) ∨ (a ≠ i ∧ a ≠ j ∧ sw f i j a = f a) := by
  by_cases h : a = i
  · exact Or.inl ⟨h, by rw [h]; exact sw_l f i j⟩
  · by_cases g : a = j
    · exact Or.inr (Or.inl ⟨h, g, by rw [g]; exact sw_r f i j⟩)
    · exact Or.inr (Or.inr ⟨h, g, sw_o h g⟩)
/-- Up to its place. -/
def up (f : Hp) (i : Nat) : Hp := if _h : 0 < i ∧ bef (f i) (f ((i - 1) / 2)) = true then up (sw f i ((i - 1) / 2)) ((i - 1) / 2) else f
termination_by i
decreasing_by omega
theorem up_yes {f : Hp} {i : Nat} (h : 0 < i) (g : bef (f i) (f ((i - 1) / 2)) = true) : up f i = up (sw f i ((i - 1) / 2)) ((i - 1) / 2) := by
  rw [up, dif_pos ⟨h, g⟩]
theorem up_no {f : Hp} {i : Nat} (h : ¬ (0 < i ∧ bef (f i) (f ((i - 1) / 2)) = true)) : up f i = f := by rw [up, dif_neg h]
/-- The least of a place and its children. -/
def l1 (n : Nat) (f : Hp) (i : Nat) : Nat := if 2 * i + 1 < n ∧ bef (f (2 * i + 1)) (f i) = true then 2 * i + 1 else i
def l2 (n : Nat) (f : Hp) (i : Nat) : Nat := if 2 * i + 2 < n ∧ bef (f (2 * i + 2)) (f (l1 n f i)) = true then 2 * i + 2 else l1 n f i
theorem l2_cases (n : Nat) (f : Hp) (i : Nat) : l2 n f i = i ∨ (i < l2 n f i ∧ l2 n f i < n ∧ (l2 n f i - 1) / 2 = i ∧ bef (f (l2 n f i)) (f i) = true) := by
  unfold l2
  by_cases h2 : 2 * i + 2 < n ∧ bef (f (2 * i + 2)) (f (l1 n f i)) = true
  · rw [if_pos h2]
    refine Or.inr ⟨by omega, h2.1, by omega, ?_⟩
    have h3 := h2.2
    unfold l1 at h3
    split at h3
    · rename_i h1
      unfold bef at *
      rw [decide_eq_true_eq] at *
      omega
    · exact h3
  · rw [if_neg h2]
    unfold l1
    by_cases h1 : 2 * i + 1 < n ∧ bef (f (2 * i + 1)) (f i) = true
    · rw [if_pos h1]; exact Or.inr ⟨by omega, h1.1, by omega, h1.2⟩
    · rw [if_neg h1]; exact Or.inl rfl
/-- Neither child is before the least. -/
theorem l2_least (n : Nat) (f : Hp) (i : Nat) : bef (f i) (f (l2 n f i)) = false ∧ (2 * i + 1 < n → bef (f (2 * i + 1)) (f (l2 n f i)) = false) ∧ (2 * i + 2 < n → bef (f (2 * i + 2)) (f (l2 n f i)) = false) := by
  have a : bef (f i) (f (l1 n f i)) = false ∧ (2 * i + 1 < n → bef (f (2 * i + 1)) (f (l1 n f i)) = false) := by
    unfold l1
    by_cases h1 : 2 * i + 1 < n ∧ bef (f (2 * i + 1)) (f i) = true
    · rw [if_pos h1]; exact ⟨bef_asym h1.2, fun _ => bef_irr _⟩
    · rw [if_neg h1]; exact ⟨bef_irr _, fun h => by rw [← Bool.not_eq_true]; exact fun g => h1 ⟨h, g⟩⟩
  unfold l2
  by_cases h2 : 2 * i + 2 < n ∧ bef (f (2 * i + 2)) (f (l1 n f i)) = true
  · rw [if_pos h2]
    have h3 := bef_asym h2.2
    exact ⟨bef_trans a.1 h3, fun h => bef_trans (a.2 h) h3, fun _ => bef_irr _⟩
  · rw [if_neg h2]
    exact ⟨a.1, a.2, fun h => by rw [← Bool.not_eq_true]; exact fun g => h2 ⟨h, g⟩⟩
/-- Down to its place. -/
def down (n : Nat) (f : Hp) (i : Nat) : Hp := if _h : l2 n f i = i then f else down n (sw f i (l2 n f i)) (l2 n f i)
termination_by n - i
decreasing_by
  rcases l2_cases n f i with e | e
  · exact absurd e _h
  · omega
theorem down_no {n : Nat} {f : Hp} {i : Nat} (h : l2 n f i = i) : down n f i = f := by rw [down, dif_pos h]
theorem down_yes {n : Nat} {f : Hp} {i : Nat} (h : ¬ l2 n f i = i) : down n f i = down n (sw f i (l2 n f i)) (l2 n f i) := by
  rw [down, dif_neg h]
/-- The heap's order. -/
def Ord (n : Nat) (f : Hp) : Prop := ∀ i, 0 < i → i < n → bef (f i) (f ((i - 1) / 2)) = false
/-- What holds of all n items. -/
def All (n : Nat) (P : It → Prop) (f : Hp) : Prop := ∀ i, i < n → P (f i)
theorem all_sw {n : Nat} {P : It → Prop} {f : Hp} {i j : Nat} (h : All n P f) (hi : i < n) (hj : j < n) : All n P (sw f i j) := fun a ha => by
  rcases sw_cases f i j a with ⟨-, e⟩ | ⟨-, -, e⟩ | ⟨-, -, e⟩
  · rw [e]; exact h j hj
  · rw [e]; exact h i hi
  · rw [e]; exact h a ha
theorem up_all {n : Nat} {P : It → Prop} : ∀ (k i : Nat) (f : Hp), i ≤ k → i < n → All n P f → All n P (up f i) := by
  intro k
  induction k with
  | zero =>
    intro i f hk hn h
    rw [up_no (by omega)]; exact h
  | succ k ih =>
    intro i f hk hn h
    by_cases g : 0 < i ∧ bef (f i) (f ((i - 1) / 2)) = true
    · rw [up_yes g.1 g.2]
      exact ih _ _ (by omega) (by omega) (all_sw h hn (by omega))
    · rw [up_no g]; exact h
theorem down_all {n : Nat} {P : It → Prop} : ∀ (k i : Nat) (f : Hp), n - i ≤ k → i < n → All n P f → All n P (down n f i) := by
  intro k
  induction k with
  | zero => intro i f hk hn h; omega
  | succ k ih =>
    intro i f hk hn h
    rcases l2_cases n f i with e | ⟨e1, e2, e3, e4⟩
    · rw [down_no e]; exact h
    · rw [down_yes (by omega)]
      exact ih _ _ (by omega) e2 (all_sw h hn e2)
/-- In order but for place i, which may be before its parent; its children are not before its parent. -/
def OrdUp (n : Nat) (f : Hp) (i : Nat) : Prop := (∀ a, 0 < a → a < n → a ≠ i → bef (f a) (f ((a - 1) / 2)) = false) ∧ (0 < i → ∀ a, 0 < a → a < n → (a - 1) / 2 = i → bef (f a) (f ((i - 1) / 2)) = false)
theorem up_ord {n : Nat} : ∀ (k i : Nat) (f : Hp), i ≤ k → i < n → OrdUp n f i → Ord n (up f i) := by
  intro k
  induction k with
  | zero =>
    intro i f hk hn h
    rw [up_no (by omega)]
    intro a h0 ha
    exact h.1 a h0 ha (by omega)
  | succ k ih =>
    intro i f hk hn h
    by_cases g : 0 < i ∧ bef (f i) (f ((i - 1) / 2)) = true
    · rw [up_yes g.1 g.2]
      obtain ⟨p, hp⟩ : ∃ p, p = (i - 1) / 2 := ⟨_, rfl⟩
      unfold OrdUp at h
      rw [← hp] at g h ⊢
      have g' := bef_asym g.2
      refine ih _ _ (by omega) (by omega) ⟨fun a h0 ha hne => ?_, fun hp0 a h0 ha hpar => ?_⟩
      · by_cases ai : a = i
        · subst ai
          rw [sw_l, ← hp, sw_r]; exact g'
        · rw [sw_o ai hne]
          by_cases pi : (a - 1) / 2 = i
          · rw [pi, sw_l]; exact h.2 g.1 a h0 ha pi
          · by_cases pp : (a - 1) / 2 = p
            · rw [pp, sw_r]
              have := h.1 a h0 ha ai
              rw [pp] at this
              exact bef_trans this g'
            · rw [sw_o pi pp]; exact h.1 a h0 ha ai
      · have q1 : (p - 1) / 2 ≠ i := by omega
        have q2 : (p - 1) / 2 ≠ p := by omega
        rw [sw_o q1 q2]
        have hpp := h.1 p (by omega) (by omega) (by omega)
        by_cases ai : a = i
        · subst ai; rw [sw_l]; exact hpp
        · have ap : a ≠ p := by omega
          rw [sw_o ai ap]
          have := h.1 a h0 ha ai
          rw [hpar] at this
          exact bef_trans this hpp
    · rw [up_no g]
      intro a h0 ha
      by_cases ai : a = i
      · subst ai
        rw [← Bool.not_eq_true]; exact fun e => g ⟨h0, e⟩
      · exact h.1 a h0 ha ai
/-- In order but for place i, which its children may be before; they are not before its parent. -/
def OrdDown (n : Nat) (f : Hp) (i : Nat) : Prop := (∀ a, 0 < a → a < n → (a - 1) / 2 ≠ i → bef (f a) (f ((a - 1) / 2)) = false) ∧ (0 < i → ∀ a, 0 < a → a < n → (a - 1) / 2 = i → bef (f a) (f ((i - 1) / 2)) = false)
theorem down_ord {n : Nat} : ∀ (k i : Nat) (f : Hp), n - i ≤ k → i < n → OrdDown n f i → Ord n (down n f i) := by
  intro k
  induction k with
  | zero => intro i f hk hn h; omega
  | succ k ih =>
    intro i f hk hn h
    have ll := l2_least n f i
    rcases l2_cases n f i with e | ⟨e1, e2, e3, e4⟩
    · rw [down_no e]
      intro a h0 ha
      by_cases pi : (a - 1) / 2 = i
      · rw [e] at ll
        rcases (show a = 2 * i + 1 ∨ a = 2 * i + 2 by omega) with rfl | rfl
        · rw [pi]; exact ll.2.1 ha
        · rw [pi]; exact ll.2.2 ha
      · exact h.1 a h0 ha pi
    · rw [down_yes (by omega)]
      obtain ⟨c, hc⟩ : ∃ c, c = l2 n f i := ⟨_, rfl⟩
      rw [← hc] at e1 e2 e3 e4 ll ⊢
      have e4' := bef_asym e4
      refine ih _ _ (by omega) e2 ⟨fun a h0 ha hpar => ?_, fun _ a h0 ha hpar => ?_⟩
      · by_cases ac : a = c
        · subst ac
          rw [sw_r, e3, sw_l]; exact e4'
        · by_cases ai : a = i
          · subst ai
            rw [sw_l, sw_o (by omega) hpar]
            exact h.2 h0 c (by omega) e2 e3
          · rw [sw_o ai ac]
            by_cases pi : (a - 1) / 2 = i
            · rw [pi, sw_l]
              rcases (show a = 2 * i + 1 ∨ a = 2 * i + 2 by omega) with rfl | rfl
              · exact ll.2.1 ha
              · exact ll.2.2 ha
            · rw [sw_o pi hpar]; exact h.1 a h0 ha pi
      · rw [e3, sw_l]
        have q1 : a ≠ i := by omega
        have q2 : a ≠ c := by omega
        rw [sw_o q1 q2]
        have := h.1 a h0 ha (by omega)
        rw [hpar] at this
        exact this
/-- The first item is the least one. -/
theorem ord_least {n : Nat} {f : Hp} (h : Ord n f) : ∀ (k i : Nat), i ≤ k → i < n → bef (f i) (f 0) = false := by
  intro k
  induction k with
  | zero => intro i hk _; rw [show i = 0 from by omega]; exact bef_irr _
  | succ k ih =>
    intro i hk hn
    rcases Nat.eq_zero_or_pos i with h0 | h0
    · rw [h0]; exact bef_irr _
    · exact bef_trans (h i h0 hn) (ih ((i - 1) / 2) (by omega) (by omega))
/-- One more. -/
def put (n : Nat) (f : Hp) (x : It) : Hp := fun a => if a = n then x else f a
def pushF (n : Nat) (f : Hp) (x : It) : Hp := up (put n f x) n
/-- The last one comes first, and down. -/
def last (n : Nat) (f : Hp) : Hp := fun a => if a = 0 then f (n - 1) else f a
def popF (n : Nat) (f : Hp) : Hp := if n ≤ 1 then f else down (n - 1) (last n f) 0
theorem push_all {n : Nat} {f : Hp} {x : It} {P : It → Prop} (h : All n P f) (hx : P x) : All (n + 1) P (pushF n f x) := by
  refine up_all n n _ (Nat.le_refl _) (by omega) fun i hi => ?_
  unfold put
  by_cases e : i = n
  · rw [if_pos e]; exact hx
  · rw [if_neg e]; exact h i (by omega)
theorem push_ord {n : Nat} {f : Hp} {x : It} (h : Ord n f) : Ord (n + 1) (pushF n f x) := by
  refine up_ord n n _ (Nat.le_refl _) (by omega) ⟨fun a h0 ha hne => ?_, fun h0 a ha0 ha hp => by omega⟩
  unfold put
  rw [if_neg hne, if_neg (by omega)]
  exact h a h0 (by omega)
theorem pop_all {n : Nat} {f : Hp} {P : It → Prop} (h : All n P f) : All (n - 1) P (popF n f) := by
  unfold popF
  by_cases h1 : n ≤ 1
  · rw [if_pos h1]; intro i hi; omega
  · rw [if_neg h1]
    refine down_all (n - 1) 0 _ (by omega) (by omega) fun i hi => ?_
    unfold last
    by_cases e : i = 0
    · rw [if_pos e]; exact h _ (by omega)
    · rw [if_neg e]; exact h _ (by omega)
theorem pop_ord {n : Nat} {f : Hp} (h : Ord n f) : Ord (n - 1) (popF n f) := by
  unfold popF
  by_cases h1 : n ≤ 1
  · rw [if_pos h1]; intro i h0 hi; omega
  · rw [if_neg h1]
    refine down_ord (n - 1) 0 _ (by omega) (by omega) ⟨fun a h0 ha hp => ?_, fun h0 => by omega⟩
    unfold last
    rw [if_neg (by omega), if_neg hp]
    exact h a h0 (by omega)
/-- What comes later is not before what came first. -/
theorem pop_later {n : Nat} {f : Hp} (h : Ord n f) : All (n - 1) (fun x => bef x (f 0) = false) (popF n f) :=
  pop_all fun i hi => ord_least h i i (Nat.le_refl _) hi
end Heap
end Go.Proofs.Ytjmfopihfnpcpaa
