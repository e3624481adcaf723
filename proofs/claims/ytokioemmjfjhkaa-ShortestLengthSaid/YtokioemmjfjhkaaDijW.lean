/- The shortest way found by the lengths, in plain Lean. -/
import Derived.Test.YtokioemmjfjhkaaDij
namespace Go.Proofs.Ytokioemmjfjhkaa
namespace Short
theorem mem_back : ∀ (l : List Nat) (a x : Nat), x ∈ back a l → x ∈ a :: l
  | [], _, x, h => absurd h List.not_mem_nil
  | b :: l, a, x, h => by
    rcases List.mem_append.1 h with q | q
    · exact List.mem_cons_of_mem _ (mem_back l b x q)
    · rw [List.mem_singleton.1 q]; exact List.mem_cons_self
/-- There is a way as long as the length says. -/
theorem Fin.reach {G : Gr} {B : Int} (hG : G.Ok B) {tgt : Nat} {cl : Nat → Bool} {o : Nat → Int} (h : Fin G tgt cl o) : ∀ (n k : Nat), k < G.N → 0 ≤ o k → (o k).toNat ≤ n → ∃ l, chn G tgt l ∧ fin tgt l = k ∧ len G.d tgt l = o k := by
  intro n
  induction n with
  | zero =>
    intro k hk h0 hn
    rcases h.src k hk h0 with ⟨e1, e2⟩ | ⟨a, ha, h1, h2, h3, -⟩
    · subst e1; exact ⟨[], True.intro, rfl, e2.symm⟩
    · have := hG.pos a ha k h2
      omega
  | succ n ih =>
    intro k hk h0 hn
    rcases h.src k hk h0 with ⟨e1, e2⟩ | ⟨a, ha, h1, h2, h3, -⟩
    · subst e1; exact ⟨[], True.intro, rfl, e2.symm⟩
    · have hp := hG.pos a ha k h2
      obtain ⟨l, q1, q2, q3⟩ := ih a ha h1 (by omega)
      refine ⟨l ++ [k], (chn_append l tgt [k]).2 ⟨q1, ?_⟩, by rw [fin_append]; rfl, ?_⟩
      · rw [q2]; exact ⟨h2, True.intro⟩
      · rw [len_append, q2, q3, h3]
        show o a + (G.d a k + 0) = _
        omega
/-- A way that is asked for: no repetition, over open fixes, its first step not the barred one. -/
structure Is (G : Gr) (a tgt : Nat) (cl : Nat → Bool) (bar : Int) (l : List Nat) : Prop where
  chn : chn G a l
  fin : fin a l = tgt
  nodup : (a :: l).Nodup
  opn : ∀ x ∈ l, cl x = false
  fst : ∀ b t, l = b :: t → (b : Int) ≠ bar
/-- The shortest one. -/
structure Best (G : Gr) (a tgt : Nat) (cl : Nat → Bool) (bar : Int) (l : List Nat) (n : Int) : Prop where
  is : Is G a tgt cl bar l
  len : len G.d a l = n
  least : ∀ m, Is G a tgt cl bar m → n ≤ Short.len G.d a m
/-- With one more shut. -/
def shut (cl : Nat → Bool) (a : Nat) : Nat → Bool := fun x => if x = a then true else cl x
theorem shut_same (cl : Nat → Bool) (a : Nat) : shut cl a a = true := if_pos rfl
theorem shut_ne {cl : Nat → Bool} {a x : Nat} (h : x ≠ a) : shut cl a x = cl x := if_neg h
/-- Whether a first step is allowed. -/
def Cnd (G : Gr) (a : Nat) (cl : Nat → Bool) (bar : Int) (o : Nat → Int) (i : Nat) : Prop := ((G.lk a i : Nat) : Int) ≠ bar ∧ shut cl a (G.lk a i) = false ∧ 0 ≤ o (G.lk a i)
/-- The best of the first i links. -/
def Bst (G : Gr) (a : Nat) (cl : Nat → Bool) (bar : Int) (o : Nat → Int) (i : Nat) (b : Int) : Prop :=
  (b = -1 ∧ ∀ j, j < i → ¬ Cnd G a cl bar o j) ∨ (0 ≤ b ∧ (∃ j, j < i ∧ Cnd G a cl bar o j ∧ b = G.d a (G.lk a j) + o (G.lk a j)) ∧ ∀ j, j < i → Cnd G a cl bar o j → b ≤ G.d a (G.lk a j) + o (G.lk a j))
section
variable {G : Gr} {B : Int} {a tgt : Nat} {cl : Nat → Bool} {bar : Int} {o : Nat → Int}
theorem Bst.zero : Bst G a cl bar o 0 (-1) := Or.inl ⟨rfl, fun j h => absurd h (Nat.not_lt_zero j)⟩
theorem Bst.no {i : Nat} {b : Int} (h : Bst G a cl bar o i b) (hc : ¬ Cnd G a cl bar o i) : Bst G a cl bar o (i + 1) b := by
  rcases h with ⟨h1, h2⟩ | ⟨h0, ⟨j, h1, h2, h3⟩, h4⟩
  · exact Or.inl ⟨h1, fun j hj => by
      by_cases e : j = i
      · subst e; exact hc
      · exact h2 j (by omega)⟩
  · exact Or.inr ⟨h0, ⟨j, by omega, h2, h3⟩, fun j hj hcj => by
      by_cases e : j = i
      · subst e; exact absurd hcj hc
      · exact h4 j (by omega) hcj⟩
theorem Bst.keep {i : Nat} {b : Int} (h : Bst G a cl bar o i b) (hb : 0 ≤ b) (hc : b ≤ G.d a (G.lk a i) + o (G.lk a i)) : Bst G a cl bar o (i + 1) b := by
  rcases h with ⟨h1, h2⟩ | ⟨h0, ⟨j, h1, h2, h3⟩, h4⟩
  · omega
  · exact Or.inr ⟨h0, ⟨j, by omega, h2, h3⟩, fun j hj hcj => by
      by_cases e : j = i
      · subst e; exact hc
      · exact h4 j (by omega) hcj⟩
theorem Bst.yes {i : Nat} {b : Int} (h : Bst G a cl bar o i b) (hc : Cnd G a cl bar o i) (hd : 0 ≤ G.d a (G.lk a i)) (hl : b < 0 ∨ G.d a (G.lk a i) + o (G.lk a i) < b) : Bst G a cl bar o (i + 1) (G.d a (G.lk a i) + o (G.lk a i)) := by
  have h5 := hc.2.2
  rcases h with ⟨h1, h2⟩ | ⟨h0, ⟨j, h1, h2, h3⟩, h4⟩
  · exact Or.inr ⟨by omega, ⟨i, by omega, hc, rfl⟩, fun j hj hcj => by
      by_cases e : j = i
      · subst e; omega
      · exact absurd hcj (h2 j (by omega))⟩
  · exact Or.inr ⟨by omega, ⟨i, by omega, hc, rfl⟩, fun j hj hcj => by
      by_cases e : j = i
      · subst e; omega
      · have := h4 j (by omega) hcj; omega⟩
/-- A way that is asked for begins with an allowed step, and is no shorter than the best says. -/
theorem is_best (hG : G.Ok B) (hF : Fin G tgt (shut cl a) o) (ha : a < G.N) (hto : tgt < G.N) (hne : a ≠ tgt) {m : List Nat} (hm : Is G a tgt cl bar m) {b : Int} (hb : Bst G a cl bar o (G.deg a) b) : 0 ≤ b ∧ b ≤ len G.d a m := by
  have hfin := hm.fin
  cases m with
  | nil => exact absurd hfin hne
  | cons c t =>
    have hnd := List.nodup_cons.1 hm.nodup
    have hac : c ≠ a := fun e => hnd.1 (by rw [e]; exact List.mem_cons_self)
    obtain ⟨h1, h2⟩ := hm.chn
    have hc := adj_lt hG ha h1
    have hopn : ∀ x ∈ c :: t, shut cl a x = false := fun x hx => by
      have : x ≠ a := fun e => hnd.1 (by rw [← e]; exact hx)
      rw [shut_ne this]; exact hm.opn x hx
    have e : fin c t = tgt := hfin
    have hbk := back_chn hG t c hc h2
    have hbl := back_length hG t c
    have hbf := back_fin t c
    rw [e] at hbk hbl hbf
    have q := hF.least hG hto (back c t) hbk fun x hx => hopn x (mem_back t c x hx)
    rw [hbf, hbl] at q
    obtain ⟨i, hi, ei⟩ := h1
    have hcn : Cnd G a cl bar o i := ⟨by rw [ei]; exact hm.fst c t rfl, by rw [ei]; exact hopn c List.mem_cons_self, by rw [ei]; exact q.1⟩
    rcases hb with ⟨-, h⟩ | ⟨h0, -, h⟩
    · exact absurd hcn (h i hi)
    · have := h i hi hcn
      rw [ei] at this
      refine ⟨h0, ?_⟩
      show b ≤ G.d a c + len G.d c t
      omega
/-- How the way grows: the fixes so far, and what is left. -/
structure Go (G : Gr) (a tgt : Nat) (cl : Nat → Bool) (bar : Int) (o : Nat → Int) (best : Int) (l : List Nat) (left : Int) : Prop where
  chn : chn G a l
  nodup : (a :: l).Nodup
  opn : ∀ x ∈ l, shut cl a x = false
  fst : ∀ b t, l = b :: t → (b : Int) ≠ bar
  len : len G.d a l + left = best
  dec : ∀ x ∈ l, left ≤ o x
  val : l ≠ [] → o (fin a l) = left
  ini : l = [] → left = best
  lt : ∀ x ∈ l, x < G.N
  nn : 0 ≤ left
/-- What the search for the next step asks of a link. -/
def Nxt (G : Gr) (a : Nat) (cl : Nat → Bool) (bar : Int) (o : Nat → Int) (left : Int) (p i : Nat) : Prop := (p ≠ a ∨ ((G.lk p i : Nat) : Int) ≠ bar) ∧ shut cl a (G.lk p i) = false ∧ 0 ≤ o (G.lk p i) ∧ G.d p (G.lk p i) + o (G.lk p i) = left
theorem fin_ne {l : List Nat} (h : (a :: l).Nodup) (hl : l ≠ []) : fin a l ≠ a := by
  have hn := (List.nodup_cons.1 h).1
  cases l with
  | nil => exact absurd rfl hl
  | cons b t =>
    intro e
    rcases fin_mem t b with q | q
    · have : fin a (b :: t) = fin b t := rfl
      exact hn (by rw [← e, this, q]; exact List.mem_cons_self)
    · have : fin a (b :: t) = fin b t := rfl
      exact hn (List.mem_cons_of_mem _ (by rw [← e, this]; exact q))
/-- There is a next step. -/
theorem Go.more (hG : G.Ok B) (hF : Fin G tgt (shut cl a) o) (ha : a < G.N) (hcl : cl tgt = false) (hne : a ≠ tgt) {best : Int} (hb : Bst G a cl bar o (G.deg a) best) (hb0 : 0 ≤ best) {l : List Nat} {left : Int} (h : Go G a tgt cl bar o best l left) (hat : fin a l ≠ tgt) :
    ∃ i, i < G.deg (fin a l) ∧ Nxt G a cl bar o left (fin a l) i := by
  by_cases hl : l = []
  · subst hl
    rw [h.ini rfl]
    rcases hb with ⟨h1, -⟩ | ⟨-, ⟨j, h1, h2, h3⟩, -⟩
    · omega
    · exact ⟨j, h1, Or.inr h2.1, h2.2.1, h2.2.2, h3.symm⟩
  · have hv := h.val hl
    have hfl : fin a l < G.N := by
      rcases fin_mem l a with q | q
      · rw [q]; exact ha
      · exact h.lt _ q
    have hnn := h.nn
    rcases hF.src _ hfl (by omega) with ⟨e, -⟩ | ⟨k, hk, k1, k2, k3, -⟩
    · exact absurd e hat
    · obtain ⟨i, hi, ei⟩ := hG.sym k hk _ k2
      refine ⟨i, hi, Or.inl (fin_ne h.nodup hl), ?_, by rw [ei]; exact k1, by rw [ei, hG.dsym]; omega⟩
      rw [ei]
      rcases hF.src k hk k1 with ⟨e, -⟩ | ⟨-, -, -, -, -, q⟩
      · rw [e, shut_ne fun e => hne e.symm]; exact hcl
      · exact q
theorem Go.step (hG : G.Ok B) (ha : a < G.N) {best left : Int} {l : List Nat} (h : Go G a tgt cl bar o best l left) {i : Nat} (hi : i < G.deg (fin a l)) (hx : Nxt G a cl bar o left (fin a l) i) : Go G a tgt cl bar o best (l ++ [G.lk (fin a l) i]) (o (G.lk (fin a l) i)) ∧ o (G.lk (fin a l) i) < left := by
  have hfl : fin a l < G.N := by
    rcases fin_mem l a with q | q
    · rw [q]; exact ha
    · exact h.lt _ q
  obtain ⟨m, hm⟩ : ∃ m, G.lk (fin a l) i = m := ⟨_, rfl⟩
  unfold Nxt at hx
  rw [hm] at hx ⊢
  have hadj : G.adj (fin a l) m := ⟨i, hi, hm⟩
  have hp := hG.pos _ hfl m hadj
  obtain ⟨x1, x2, x3, x4⟩ := hx
  have hma : m ≠ a := fun e => by rw [e, shut_same] at x2; cases x2
  have hlt : o m < left := by omega
  refine ⟨⟨(chn_append l a [m]).2 ⟨h.chn, hadj, True.intro⟩, ?_, fun x q => ?_, fun b t e => ?_, ?_, fun x q => ?_, fun _ => by rw [fin_append]; rfl, fun e => absurd e (by simp), fun x q => ?_, x3⟩, hlt⟩
  · rw [← List.cons_append, List.nodup_append]
    refine ⟨h.nodup, by simp, fun x q y r => ?_⟩
    rw [List.mem_singleton.1 r]
    rcases List.mem_cons.1 q with e | q
    · rw [e]; exact fun e => hma e.symm
    · have := h.dec x q
      intro e; subst e; omega
  · rcases List.mem_append.1 q with q | q
    · exact h.opn x q
    · rw [List.mem_singleton.1 q]; exact x2
  · cases l with
    | nil =>
      injection e with e1 e2
      rw [← e1]
      rcases x1 with x1 | x1
      · exact absurd rfl x1
      · exact x1
    | cons c s =>
      injection e with e1 e2
      rw [← e1]; exact h.fst c s rfl
  · rw [len_append]
    have := h.len
    show Short.len G.d a l + (G.d (fin a l) m + 0) + o m = best
    omega
  · rcases List.mem_append.1 q with q | q
    · have := h.dec x q; omega
    · rw [List.mem_singleton.1 q]; omega
  · rcases List.mem_append.1 q with q | q
    · exact h.lt x q
    · rw [List.mem_singleton.1 q]; exact adj_lt hG hfl hadj
theorem Go.start {best : Int} (hb : 0 ≤ best) : Go G a tgt cl bar o best [] best where
  chn := True.intro
  nodup := by simp
  opn := fun x q => absurd q List.not_mem_nil
  fst := fun b t e => by cases e
  len := by show 0 + best = best; omega
  dec := fun x q => absurd q List.not_mem_nil
  val := fun q => absurd rfl q
  ini := fun _ => rfl
  lt := fun x q => absurd q List.not_mem_nil
  nn := hb
theorem Go.done (hG : G.Ok B) (hF : Fin G tgt (shut cl a) o) (ha : a < G.N) (hto : tgt < G.N) (hne : a ≠ tgt) {best : Int} (hb : Bst G a cl bar o (G.deg a) best) {l : List Nat} {left : Int} (h : Go G a tgt cl bar o best l left) (hat : fin a l = tgt) : Best G a tgt cl bar l best := by
  have hl : l ≠ [] := fun e => by subst e; exact hne hat
  have h0 : left = 0 := by
    have := h.val hl
    rw [hat, hF.zero] at this
    exact this.symm
  have hlen := h.len
  refine ⟨⟨h.chn, hat, h.nodup, fun x q => ?_, h.fst⟩, by omega, fun m hm => (is_best hG hF ha hto hne hm hb).2⟩
  have hn := (List.nodup_cons.1 h.nodup).1
  have e : x ≠ a := fun e => hn (by rw [← e]; exact q)
  have := h.opn x q
  rw [shut_ne e] at this
  exact this
end
end Short
end Go.Proofs.Ytokioemmjfjhkaa
