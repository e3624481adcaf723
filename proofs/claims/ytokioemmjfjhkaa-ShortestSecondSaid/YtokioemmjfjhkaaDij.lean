/- Shortest lengths by a heap, in plain Lean: what holds of the lengths and the heap from step to step, and at the end. -/
import Derived.Test.YtokioemmjfjhkaaHeapP
namespace Go.Proofs.Ytokioemmjfjhkaa
namespace Short
open Heap
/-- One of n items has a property. -/
def Mem (n : Nat) (f : Hp) (P : It → Prop) : Prop := ∃ i, i < n ∧ P (f i)
theorem mem_sw {n : Nat} {f : Hp} {P : It → Prop} {i j : Nat} (h : Mem n f P) (hi : i < n) (hj : j < n) : Mem n (sw f i j) P := by
  obtain ⟨a, ha, hp⟩ := h
  by_cases e : a = i
  · subst e; exact ⟨j, hj, by rw [sw_r]; exact hp⟩
  · by_cases g : a = j
    · subst g; exact ⟨i, hi, by rw [sw_l]; exact hp⟩
    · exact ⟨a, ha, by rw [sw_o e g]; exact hp⟩
theorem mem_up {n : Nat} {P : It → Prop} : ∀ (k i : Nat) (f : Hp), i ≤ k → i < n → Mem n f P → Mem n (up f i) P := by
  intro k
  induction k with
  | zero => intro i f hk hn h; rw [up_no (by omega)]; exact h
  | succ k ih =>
    intro i f hk hn h
    by_cases g : 0 < i ∧ bef (f i) (f ((i - 1) / 2)) = true
    · rw [up_yes g.1 g.2]; exact ih _ _ (by omega) (by omega) (mem_sw h hn (by omega))
    · rw [up_no g]; exact h
theorem mem_down {n : Nat} {P : It → Prop} : ∀ (k i : Nat) (f : Hp), n - i ≤ k → i < n → Mem n f P → Mem n (down n f i) P := by
  intro k
  induction k with
  | zero => intro i f hk hn h; omega
  | succ k ih =>
    intro i f hk hn h
    rcases l2_cases n f i with e | ⟨e1, e2, e3, e4⟩
    · rw [down_no e]; exact h
    · rw [down_yes (by omega)]; exact ih _ _ (by omega) e2 (mem_sw h hn e2)
theorem mem_push {n : Nat} {f : Hp} {x : It} {P : It → Prop} (h : Mem n f P) : Mem (n + 1) (pushF n f x) P := by
  obtain ⟨i, hi, hp⟩ := h
  exact mem_up n n _ (Nat.le_refl _) (by omega) ⟨i, by omega, by unfold put; rw [if_neg (by omega)]; exact hp⟩
theorem mem_new {n : Nat} {f : Hp} {x : It} {P : It → Prop} (h : P x) : Mem (n + 1) (pushF n f x) P :=
  mem_up n n _ (Nat.le_refl _) (by omega) ⟨n, by omega, by unfold put; rw [if_pos rfl]; exact h⟩
theorem mem_pop {n : Nat} {f : Hp} {P : It → Prop} (h : Mem n f P) : P (f 0) ∨ Mem (n - 1) (popF n f) P := by
  obtain ⟨i, hi, hp⟩ := h
  rcases Nat.eq_zero_or_pos i with h0 | h0
  · subst h0; exact Or.inl hp
  · refine Or.inr ?_
    unfold popF
    rw [if_neg (by omega)]
    refine mem_down (n - 1) 0 _ (by omega) (by omega) ?_
    by_cases e : i = n - 1
    · exact ⟨0, by omega, by unfold last; rw [if_pos rfl, ← e]; exact hp⟩
    · exact ⟨i, by omega, by unfold last; rw [if_neg (by omega)]; exact hp⟩
theorem int_inj {a b : Nat} (h : Value.int .i64 (a : Int) = Value.int .i64 (b : Int)) : a = b := by
  injection h with _ h; omega
/-- One value set. -/
def upd (o : Nat → Int) (k : Nat) (v : Int) : Nat → Int := fun a => if a = k then v else o a
theorem upd_same (o : Nat → Int) (k : Nat) (v : Int) : upd o k v k = v := if_pos rfl
theorem upd_ne {o : Nat → Int} {k a : Nat} {v : Int} (h : a ≠ k) : upd o k v a = o a := if_neg h
/-- How many of the first n are set. -/
def cnt (o : Nat → Int) : Nat → Nat
  | 0 => 0
  | k + 1 => cnt o k + if 0 ≤ o k then 1 else 0
theorem cnt_le (o : Nat → Int) : ∀ n, cnt o n ≤ n
  | 0 => Nat.le_refl _
  | n + 1 => by have := cnt_le o n; unfold cnt; split <;> omega
theorem cnt_upd {o : Nat → Int} {k : Nat} {v : Int} (h : o k < 0) (hv : 0 ≤ v) : ∀ n, cnt (upd o k v) n = cnt o n + if k < n then 1 else 0
  | 0 => rfl
  | n + 1 => by
    have ih := cnt_upd h hv n
    unfold cnt
    rw [ih]
    by_cases e : n = k
    · subst e
      rw [upd_same, if_pos hv, if_neg (show ¬ (0 : Int) ≤ o n by omega), if_neg (show ¬ n < n by omega), if_pos (show n < n + 1 by omega)]
    · rw [upd_ne e]
      by_cases g : k < n
      · rw [if_pos g, if_pos (show k < n + 1 by omega)]; omega
      · rw [if_neg g, if_neg (show ¬ k < n + 1 by omega)]; omega
theorem cnt_neg {N : Nat} : ∀ n, cnt (fun _ => -1) n = 0
  | 0 => rfl
  | n + 1 => by unfold cnt; rw [cnt_neg (N := N) n, if_neg (by omega)]
theorem cnt_pos {o : Nat → Int} {k : Nat} (h : 0 ≤ o k) : ∀ n, k < n → 1 ≤ cnt o n
  | 0, hk => absurd hk (Nat.not_lt_zero k)
  | n + 1, hk => by
    unfold cnt
    by_cases e : k = n
    · subst e; rw [if_pos h]; omega
    · have := cnt_pos h n (by omega); omega
/-- Links of numbered fixes: how many, which, and how long. -/
structure Gr where
  N : Nat
  deg : Nat → Nat
  lk : Nat → Nat → Nat
  d : Nat → Nat → Int
/-- Two fixes are linked. -/
def Gr.adj (G : Gr) (a b : Nat) : Prop := ∃ i, i < G.deg a ∧ G.lk a i = b
/-- What a chart gives: links are mutual, and longer than nothing. -/
structure Gr.Ok (G : Gr) (B : Int) : Prop where
  lt : ∀ k, k < G.N → ∀ i, i < G.deg k → G.lk k i < G.N
  sym : ∀ a, a < G.N → ∀ b, G.adj a b → G.adj b a
  dsym : ∀ a b, G.d a b = G.d b a
  pos : ∀ a, a < G.N → ∀ b, G.adj a b → 1 ≤ G.d a b ∧ G.d a b ≤ B
  deg32 : ∀ k, k < G.N → G.deg k ≤ 32
  n64 : G.N ≤ 64
  b0 : 1 ≤ B
/-- Whence a length comes. -/
def Src (G : Gr) (tgt : Nat) (cl : Nat → Bool) (o : Nat → Int) (m : Nat) (p : Int) : Prop := (m = tgt ∧ p = 0) ∨ ∃ k, k < G.N ∧ 0 ≤ o k ∧ G.adj k m ∧ p = o k + G.d k m ∧ cl m = false
theorem src_upd {G : Gr} {tgt : Nat} {cl : Nat → Bool} {o : Nat → Int} {m a : Nat} {p v : Int} (h : Src G tgt cl o m p) (ha : o a < 0) : Src G tgt cl (upd o a v) m p := by
  rcases h with h | ⟨k, h1, h2, h3, h4, h5⟩
  · exact Or.inl h
  · have e : k ≠ a := fun e => by subst e; omega
    exact Or.inr ⟨k, h1, by rw [upd_ne e]; exact h2, h3, by rw [upd_ne e]; exact h4, h5⟩
/-- What holds between the steps; of fix ek only the first ei links are done. -/
structure DI (G : Gr) (B : Int) (tgt : Nat) (cl : Nat → Bool) (ek ei : Nat) (o : Nat → Int) (n : Nat) (f : Hp) : Prop where
  ord : Ord n f
  vals : All n (fun x => ∃ m : Nat, x.v = .int .i64 (m : Int) ∧ m < G.N ∧ (∀ k, k < G.N → o k ≤ x.p) ∧ 0 ≤ x.p ∧ x.p ≤ cnt o G.N * B ∧ Src G tgt cl o m x.p) f
  set : ∀ k, k < G.N → 0 ≤ o k → Src G tgt cl o k (o k) ∧ o k + B ≤ cnt o G.N * B
  rel : ∀ k, k < G.N → 0 ≤ o k → ∀ i, i < G.deg k → (k = ek → i < ei) → cl (G.lk k i) = false → (0 ≤ o (G.lk k i) ∧ o (G.lk k i) ≤ o k + G.d k (G.lk k i)) ∨ Mem n f (fun x => x.v = .int .i64 (G.lk k i : Int) ∧ x.p ≤ o k + G.d k (G.lk k i))
  fst : (0 ≤ o tgt ∧ o tgt ≤ 0) ∨ Mem n f (fun x => x.v = .int .i64 (tgt : Int) ∧ x.p ≤ 0)
  low : ∀ k, k < G.N → -1 ≤ o k
section
variable {G : Gr} {B : Int} {tgt : Nat} {cl : Nat → Bool} {o : Nat → Int} {n : Nat} {f : Hp}
theorem DI.start (hto : tgt < G.N) (f : Hp) (nx : Int) : DI G B tgt cl G.N 0 (fun _ => -1) 1 (pushF 0 f ⟨0, nx, .int .i64 (tgt : Int)⟩) where
  ord := push_ord fun i h0 hi => absurd hi (Nat.not_lt_zero i)
  vals := push_all (fun i hi => absurd hi (Nat.not_lt_zero i)) ⟨tgt, rfl, hto, fun k _ => by show (-1 : Int) ≤ 0; omega, Int.le_refl _, by rw [cnt_neg (N := G.N)]; show (0 : Int) ≤ ((0 : Nat) : Int) * B; rw [Int.natCast_zero, Int.zero_mul]; omega, Or.inl ⟨rfl, rfl⟩⟩
  set := fun k _ h => absurd h (by omega)
  rel := fun k _ h => absurd h (by omega)
  fst := Or.inr (mem_new ⟨rfl, Int.le_refl _⟩)
  low := fun k _ => Int.le_refl _
theorem DI.skip (h : DI G B tgt cl G.N 0 o n f) {m : Nat} (hv : (f 0).v = .int .i64 (m : Int)) (hm : m < G.N) (h0 : 0 < n) (hs : 0 ≤ o m) : DI G B tgt cl G.N 0 o (n - 1) (popF n f) where
  ord := pop_ord h.ord
  vals := pop_all h.vals
  set := h.set
  rel := fun k hk hok i hi he hc => by
    rcases h.rel k hk hok i hi he hc with q | q
    · exact Or.inl q
    · rcases mem_pop q with ⟨q1, q2⟩ | q
      · rw [hv] at q1
        have e := int_inj q1
        obtain ⟨m', v', -, hmax, -⟩ := h.vals 0 h0
        rw [← e]
        refine Or.inl ⟨hs, ?_⟩
        have := hmax m hm
        rw [← e] at q2
        omega
      · exact Or.inr q
  fst := by
    rcases h.fst with q | q
    · exact Or.inl q
    · rcases mem_pop q with ⟨q1, q2⟩ | q
      · rw [hv] at q1
        have e := int_inj q1
        obtain ⟨m', v', -, hmax, -⟩ := h.vals 0 h0
        have := hmax m hm
        rw [← e]
        exact Or.inl ⟨hs, by omega⟩
      · exact Or.inr q
  low := h.low
theorem DI.take (h : DI G B tgt cl G.N 0 o n f) (hB : 0 ≤ B) {m : Nat} (hv : (f 0).v = .int .i64 (m : Int)) (hm : m < G.N) (h0 : 0 < n) (hs : o m < 0) : DI G B tgt cl m 0 (upd o m (f 0).p) (n - 1) (popF n f) ∧ ∀ k, k < G.N → upd o m (f 0).p k ≤ (f 0).p := by
  obtain ⟨m', v', hm', hmax, hp0, hpb, hsrc⟩ := h.vals 0 h0
  have e : m' = m := by rw [hv] at v'; exact (int_inj v').symm
  subst e
  have hcnt : (cnt (upd o m' (f 0).p) G.N : Int) = cnt o G.N + 1 := by rw [cnt_upd hs hp0, if_pos hm]; omega
  have hmul : (cnt (upd o m' (f 0).p) G.N : Int) * B = cnt o G.N * B + B := by rw [hcnt, Int.add_mul, Int.one_mul]
  have hle : ∀ k, k < G.N → upd o m' (f 0).p k ≤ (f 0).p := fun k hk => by
    by_cases e : k = m'
    · subst e; rw [upd_same]; omega
    · rw [upd_ne e]; exact hmax k hk
  refine ⟨⟨pop_ord h.ord, fun i hi => ?_, fun k hk hok => ?_, fun k hk hok i hi he hc => ?_, ?_, fun k hk => ?_⟩, hle⟩
  · obtain ⟨a, a1, a2, a3, a4, a5, a6⟩ := pop_all h.vals i hi
    have l : bef (popF n f i) (f 0) = false := pop_later h.ord i hi
    unfold bef at l
    rw [decide_eq_false_iff_not] at l
    exact ⟨a, a1, a2, fun k hk => by have := hle k hk; omega, a4, by omega, src_upd a6 hs⟩
  · by_cases e : k = m'
    · subst e
      rw [upd_same]
      exact ⟨src_upd hsrc hs, by omega⟩
    · rw [upd_ne e] at hok ⊢
      have := h.set k hk hok
      exact ⟨src_upd this.1 hs, by omega⟩
  · by_cases e : k = m'
    · exact absurd (he e) (Nat.not_lt_zero i)
    · rw [upd_ne e] at hok ⊢
      by_cases g : G.lk k i = m'
      · rw [g, upd_same]
        refine Or.inl ⟨hp0, ?_⟩
        rcases h.rel k hk hok i hi (fun e => absurd e (by omega)) hc with q | q
        · rw [g] at q; omega
        · obtain ⟨j, hj, q1, q2⟩ := q
          have l := ord_least h.ord j j (Nat.le_refl _) hj
          unfold bef at l
          rw [decide_eq_false_iff_not] at l
          rw [g] at q2
          omega
      · rw [upd_ne g]
        rcases h.rel k hk hok i hi (fun e => absurd e (by omega)) hc with q | q
        · exact Or.inl q
        · rcases mem_pop q with ⟨q1, q2⟩ | q
          · rw [hv] at q1
            exact absurd (int_inj q1).symm g
          · exact Or.inr q
  · by_cases g : tgt = m'
    · subst g
      rw [upd_same]
      refine Or.inl ⟨hp0, ?_⟩
      rcases h.fst with q | ⟨j, hj, q1, q2⟩
      · omega
      · have l := ord_least h.ord j j (Nat.le_refl _) hj
        unfold bef at l
        rw [decide_eq_false_iff_not] at l
        omega
    · rw [upd_ne g]
      rcases h.fst with q | q
      · exact Or.inl q
      · rcases mem_pop q with ⟨q1, q2⟩ | q
        · rw [hv] at q1
          exact absurd (int_inj q1).symm g
        · exact Or.inr q
  · by_cases e : k = m'
    · subst e; rw [upd_same]; omega
    · rw [upd_ne e]; exact h.low k hk
theorem DI.push {k i : Nat} (h : DI G B tgt cl k i o n f) (hk : k < G.N) (hmax : ∀ a, a < G.N → o a ≤ o k) (hok : 0 ≤ o k) (hi : i < G.deg k) (hm : G.lk k i < G.N) (hd : 0 ≤ G.d k (G.lk k i) ∧ G.d k (G.lk k i) ≤ B) (hc : cl (G.lk k i) = false) (nx : Int) :
    DI G B tgt cl k (i + 1) o (n + 1) (pushF n f ⟨o k + G.d k (G.lk k i), nx, .int .i64 (G.lk k i : Int)⟩) where
  ord := push_ord h.ord
  vals := push_all h.vals ⟨G.lk k i, rfl, hm, fun a ha => by have := hmax a ha; show o a ≤ o k + G.d k (G.lk k i); omega, by show 0 ≤ o k + G.d k (G.lk k i); omega, by have := (h.set k hk hok).2; show o k + G.d k (G.lk k i) ≤ _; omega, Or.inr ⟨k, hk, hok, ⟨i, hi, rfl⟩, rfl, hc⟩⟩
  set := h.set
  rel := fun a ha hoa j hj he hcj => by
    by_cases e : a = k ∧ j = i
    · obtain ⟨rfl, rfl⟩ := e
      exact Or.inr (mem_new ⟨rfl, Int.le_refl _⟩)
    · rcases h.rel a ha hoa j hj (fun e1 => by have := he e1; have : j ≠ i := fun e2 => e ⟨e1, e2⟩; omega) hcj with q | q
      · exact Or.inl q
      · exact Or.inr (mem_push q)
  fst := h.fst.imp id mem_push
  low := h.low
theorem DI.past {k i : Nat} (h : DI G B tgt cl k i o n f) (hmax : ∀ a, a < G.N → o a ≤ o k) (hm : G.lk k i < G.N) (hd : 0 ≤ G.d k (G.lk k i)) (hc : 0 ≤ o (G.lk k i) ∨ cl (G.lk k i) = true) : DI G B tgt cl k (i + 1) o n f where
  ord := h.ord
  vals := h.vals
  set := h.set
  rel := fun a ha hoa j hj he hcj => by
    by_cases e : a = k ∧ j = i
    · obtain ⟨rfl, rfl⟩ := e
      rcases hc with q | q
      · have := hmax _ hm
        exact Or.inl ⟨q, by omega⟩
      · rw [q] at hcj; cases hcj
    · exact h.rel a ha hoa j hj (fun e1 => by have := he e1; have : j ≠ i := fun e2 => e ⟨e1, e2⟩; omega) hcj
  fst := h.fst
  low := h.low
theorem DI.next {k i : Nat} (h : DI G B tgt cl k i o n f) (hi : i = G.deg k) : DI G B tgt cl G.N 0 o n f where
  ord := h.ord
  vals := h.vals
  set := h.set
  rel := fun a ha hoa j hj _ hcj => h.rel a ha hoa j hj (fun e => by subst e hi; exact hj) hcj
  fst := h.fst
  low := h.low
/-- The lengths at the end. -/
structure Fin (G : Gr) (tgt : Nat) (cl : Nat → Bool) (o : Nat → Int) : Prop where
  zero : o tgt = 0
  src : ∀ k, k < G.N → 0 ≤ o k → Src G tgt cl o k (o k)
  rel : ∀ k, k < G.N → 0 ≤ o k → ∀ m, G.adj k m → cl m = false → 0 ≤ o m ∧ o m ≤ o k + G.d k m
  low : ∀ k, k < G.N → -1 ≤ o k
theorem DI.fin (h : DI G B tgt cl G.N 0 o 0 f) : Fin G tgt cl o where
  zero := by
    rcases h.fst with q | ⟨i, hi, -⟩
    · omega
    · exact absurd hi (Nat.not_lt_zero i)
  src := fun k hk hok => (h.set k hk hok).1
  rel := fun k hk hok m ⟨i, hi, e⟩ hc => by
    subst e
    rcases h.rel k hk hok i hi (fun e => absurd e (by omega)) hc with q | ⟨j, hj, -⟩
    · exact q
    · exact absurd hj (Nat.not_lt_zero j)
  low := h.low
end
/-- The length of a way that begins at a. -/
def len (d : Nat → Nat → Int) : Nat → List Nat → Int
  | _, [] => 0
  | a, b :: l => d a b + len d b l
/-- Each fix of a way is linked with the next one. -/
def chn (G : Gr) : Nat → List Nat → Prop
  | _, [] => True
  | a, b :: l => G.adj a b ∧ chn G b l
/-- Where a way ends. -/
def fin : Nat → List Nat → Nat
  | a, [] => a
  | _, b :: l => fin b l
theorem len_append (d : Nat → Nat → Int) : ∀ (l : List Nat) (a : Nat) (m : List Nat), len d a (l ++ m) = len d a l + len d (fin a l) m
  | [], a, m => by show len d a m = 0 + len d a m; omega
  | b :: l, a, m => by
    have ih := len_append d l b m
    show d a b + len d b (l ++ m) = d a b + len d b l + len d (fin b l) m
    omega
theorem chn_append {G : Gr} : ∀ (l : List Nat) (a : Nat) (m : List Nat), chn G a (l ++ m) ↔ chn G a l ∧ chn G (fin a l) m
  | [], a, m => ⟨fun h => ⟨True.intro, h⟩, fun h => h.2⟩
  | b :: l, a, m => by
    have ih := chn_append (G := G) l b m
    constructor
    · rintro ⟨h1, h2⟩; exact ⟨⟨h1, (ih.1 h2).1⟩, (ih.1 h2).2⟩
    · rintro ⟨⟨h1, h2⟩, h3⟩; exact ⟨h1, ih.2 ⟨h2, h3⟩⟩
theorem fin_append : ∀ (l : List Nat) (a : Nat) (m : List Nat), fin a (l ++ m) = fin (fin a l) m
  | [], _, _ => rfl
  | b :: l, _, m => fin_append l b m
theorem fin_mem : ∀ (l : List Nat) (a : Nat), fin a l = a ∨ fin a l ∈ l
  | [], _ => Or.inl rfl
  | b :: l, _ => by
    rcases fin_mem l b with h | h
    · exact Or.inr (by show fin b l ∈ b :: l; rw [h]; exact List.mem_cons_self)
    · exact Or.inr (List.mem_cons_of_mem _ h)
section
variable {G : Gr} {B : Int}
theorem chn_lt (hG : G.Ok B) : ∀ (l : List Nat) (a : Nat), a < G.N → chn G a l → ∀ x ∈ l, x < G.N
  | [], _, _, _, x, hx => absurd hx List.not_mem_nil
  | b :: l, a, ha, ⟨⟨i, hi, e⟩, h2⟩, x, hx => by
    have hb : b < G.N := by rw [← e]; exact hG.lt a ha i hi
    rcases List.mem_cons.1 hx with q | q
    · rw [q]; exact hb
    · exact chn_lt hG l b hb h2 x q
theorem adj_lt (hG : G.Ok B) {a b : Nat} (ha : a < G.N) (h : G.adj a b) : b < G.N := by
  obtain ⟨i, hi, e⟩ := h; rw [← e]; exact hG.lt a ha i hi
theorem len_nn (hG : G.Ok B) : ∀ (l : List Nat) (a : Nat), a < G.N → chn G a l → 0 ≤ len G.d a l
  | [], _, _, _ => Int.le_refl _
  | b :: l, a, ha, ⟨h1, h2⟩ => by
    have := len_nn hG l b (adj_lt hG ha h1) h2
    have := hG.pos a ha b h1
    show 0 ≤ G.d a b + len G.d b l
    omega
/-- The way back. -/
def back : Nat → List Nat → List Nat
  | _, [] => []
  | a, b :: l => back b l ++ [a]
theorem back_len : ∀ (l : List Nat) (a : Nat), (back a l).length = l.length
  | [], _ => rfl
  | b :: l, a => by show (back b l ++ [a]).length = l.length + 1; rw [List.length_append, back_len l b]; rfl
theorem back_fin : ∀ (l : List Nat) (a : Nat), fin (fin a l) (back a l) = a
  | [], _ => rfl
  | b :: l, a => by show fin (fin b l) (back b l ++ [a]) = a; rw [fin_append]; rfl
theorem back_chn (hG : G.Ok B) : ∀ (l : List Nat) (a : Nat), a < G.N → chn G a l → chn G (fin a l) (back a l)
  | [], _, _, _ => True.intro
  | b :: l, a, ha, ⟨h1, h2⟩ => by
    have hb := adj_lt hG ha h1
    show chn G (fin b l) (back b l ++ [a])
    rw [chn_append, back_fin]
    exact ⟨back_chn hG l b hb h2, hG.sym a ha b h1, True.intro⟩
theorem back_length (hG : G.Ok B) : ∀ (l : List Nat) (a : Nat), len G.d (fin a l) (back a l) = len G.d a l
  | [], _ => rfl
  | b :: l, a => by
    show len G.d (fin b l) (back b l ++ [a]) = G.d a b + len G.d b l
    rw [len_append, back_fin, back_length hG l b]
    show len G.d b l + (G.d b a + 0) = _
    rw [hG.dsym b a]; omega
/-- A shorter way without repetitions. -/
theorem simple (hG : G.Ok B) : ∀ (l : List Nat) (a : Nat), a < G.N → chn G a l → ∃ m, chn G a m ∧ (a :: m).Nodup ∧ fin a m = fin a l ∧ len G.d a m ≤ len G.d a l ∧ ∀ x ∈ m, x ∈ l
  | [], a, _, _ => ⟨[], True.intro, by simp, rfl, Int.le_refl _, fun x hx => hx⟩
  | b :: l, a, ha, ⟨h1, h2⟩ => by
    have hb := adj_lt hG ha h1
    obtain ⟨m, c1, c2, c3, c4, c5⟩ := simple hG l b hb h2
    have hp := hG.pos a ha b h1
    have c5' : ∀ x ∈ b :: m, x ∈ b :: l := fun x hx => by
      rcases List.mem_cons.1 hx with q | q
      · rw [q]; exact List.mem_cons_self
      · exact List.mem_cons_of_mem _ (c5 x q)
    by_cases hin : a ∈ b :: m
    · -- drop what lies ahead of a
      obtain ⟨s, t, e⟩ := List.append_of_mem hin
      cases s with
      | nil =>
        injection e with e1 e2
        subst e1 e2
        refine ⟨m, c1, c2, c3, ?_, fun x hx => c5' x (List.mem_cons_of_mem _ hx)⟩
        show len G.d b m ≤ G.d b b + len G.d b l
        omega
      | cons x s =>
        injection e with e1 e2
        subst e1
        have e3 : m = s ++ a :: t := e2
        clear e2
        subst e3
        have k1 := (chn_append s b (a :: t)).1 c1
        have k2 := len_append G.d s b (a :: t)
        have k3 := fin_append s b (a :: t)
        have k4 : chn G a t := k1.2.2
        have k5 := len_nn hG s b hb k1.1
        have hf : fin b s < G.N := by
          rcases fin_mem s b with q | q
          · rw [q]; exact hb
          · exact chn_lt hG s b hb k1.1 _ q
        have k6 := (hG.pos _ hf a k1.2.1).1
        refine ⟨t, k4, ?_, ?_, ?_, fun y hy => c5' y (by simp [hy])⟩
        · have q : ((b :: s) ++ a :: t).Nodup := c2
          rw [List.nodup_append] at q
          exact q.2.1
        · rw [k3] at c3; exact c3
        · have k7 : len G.d (fin b s) (a :: t) = G.d (fin b s) a + len G.d a t := rfl
          have k8 : len G.d a (b :: l) = G.d a b + len G.d b l := rfl
          omega
    · refine ⟨b :: m, ⟨h1, c1⟩, List.nodup_cons.2 ⟨hin, c2⟩, c3, ?_, c5'⟩
      show G.d a b + len G.d b m ≤ G.d a b + len G.d b l
      omega
/-- No way of open fixes is shorter than the length at its beginning. -/
theorem Fin.least (hG : G.Ok B) {tgt : Nat} {cl : Nat → Bool} {o : Nat → Int} (h : Fin G tgt cl o) (hto : tgt < G.N) : ∀ (l : List Nat), chn G tgt l → (∀ x ∈ l, cl x = false) → 0 ≤ o (fin tgt l) ∧ o (fin tgt l) ≤ len G.d tgt l := by
  have main : ∀ (l : List Nat) (a : Nat), a < G.N → 0 ≤ o a → chn G a l → (∀ x ∈ l, cl x = false) → 0 ≤ o (fin a l) ∧ o (fin a l) ≤ o a + len G.d a l := by
    intro l
    induction l with
    | nil => intro a _ h0 _ _; exact ⟨h0, by show o a ≤ o a + 0; omega⟩
    | cons b l ih =>
      intro a ha h0 ⟨h1, h2⟩ hc
      have r := h.rel a ha h0 b h1 (hc b List.mem_cons_self)
      have q := ih b (adj_lt hG ha h1) r.1 h2 fun x hx => hc x (List.mem_cons_of_mem _ hx)
      refine ⟨q.1, ?_⟩
      have q2 := q.2
      show o (fin b l) ≤ o a + (G.d a b + len G.d b l)
      omega
  intro l hl hc
  have := main l tgt hto (by rw [h.zero]; exact Int.le_refl _) hl hc
  rw [h.zero] at this
  exact ⟨this.1, by omega⟩
end
end Short
end Go.Proofs.Ytokioemmjfjhkaa
