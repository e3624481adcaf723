/- The shortest way found by the lengths, in plain Lean. -/
import Derived.Test.YtokioemmjfjhkaaDij
namespace Go.Proofs.Ytokioemmjfjhkaa
namespace Short
theorem mem_back : ∀ (l : List Nat) (a x : Nat), x ∈ back a l → x ∈ a :: l
  | [], _, x, h => absurd h List.not_mem_nil
  | b :: l, a, x, h => by
    rcases List.mem_append.1 h with q | q
    · exact List.mem_cons_of_mem _ (mem_back l b x q)
    · rw [List.mem_singleton.1 q]; exact List.mem_cons_self
/-- There is a way as long as the length says. -/
theorem Fin.reach {G : Gr} {B : Int} (hG : G.Ok B) {tgt : Nat} {cl : Nat → Bool} {o : Nat → Int} (h : Fin G tgt cl o) : ∀ (n k : Nat), k < G.N → 0 ≤ o k → (o k).toNat ≤ n → ∃ l, chn G tgt l ∧ fin tgt l = k ∧ len G.d tgt l = o k := by
  intro n
  induction n with
  | zero =>
    intro k hk h0 hn
    rcases h.src k hk h0 with ⟨e1, e2⟩ | ⟨a, ha, h1, h2, h3, -⟩
    · subst e1; exact ⟨[], True.intro, rfl, e2.symm⟩
    · have := hG.pos a ha k h2
      omega
  | succ n ih =>
    intro k hk h0 hn
    rcases h.src k hk h0 with ⟨e1, e2⟩ | ⟨a, ha, h1, h2, h3, -⟩
    · subst e1; exact ⟨[], True.intro, rfl, e2.symm⟩
    · have hp := hG.pos a ha k h2
      obtain ⟨l, q1, q2, q3⟩ := ih a ha h1 (by omega)
      refine ⟨l ++ [k], (chn_append l tgt [k]).2 ⟨q1, ?_⟩, by rw [fin_append]; rfl, ?_⟩
      · rw [q2]; exact ⟨h2, True.intro⟩
      · rw [len_append, q2, q3, h3]
        show o a + (G.d a k + 0) = _
        omega
/-- A way that is asked for: no repetition, over open fixes, its first step not the barred one. -/
structure Is (G : Gr) (a tgt : Nat) (cl : Nat → Bool) (bar : Int) (l : List Nat) : Prop where
  chn : chn G a l
  fin : fin a l = tgt
  nodup : (a :: l).Nodup
  opn : ∀ x ∈ l, cl x = false
  fst : ∀ b t, l = b :: t → (b : Int) ≠ bar
/-- The shortest one. -/
structure Best (G : Gr) (a tgt : Nat) (cl : Nat → Bool) (bar : Int) (l : List Nat) (n : Int) : Prop where
  is : Is G a tgt cl bar l
  len : len G.d a l = n
  least : ∀ m, Is G a tgt cl bar m → n ≤ Short.len G.d a m
/-- With one more shut. -/
def shut (cl : Nat → Bool) (a : Nat) : Nat → Bool := fun x => if x = a then true else cl x
theorem shut_same (cl : Nat → Bool) (a : Nat) : shut cl a a = true := if_pos rfl
theorem shut_ne {cl : Nat → Bool} {a x : Nat} (h : x ≠ a) : shut cl a x = cl x := if_neg h
/-- Whether a first step is allowed. -/
def Cnd (G : Gr) (a : Nat) (cl : Nat → Bool) (bar : Int) (o : Nat → Int) (i : Nat) : Prop := ((G.lk a i : Nat) : Int) ≠ bar ∧ shut cl a (G.lk a i) = false ∧ 0 ≤ o (G.lk a i)
/-- The best of the first i links. -/
def Bst (G : Gr) (a : Nat) (cl : Nat → Bool) (bar : Int) (o : Nat → Int) (i : Nat) (b : Int) : Prop :=
  (b = -1 ∧ ∀ j, j < i → ¬ Cnd G a cl bar o j) ∨ (0 ≤ b ∧ (∃ j, j < i ∧ Cnd G a cl bar o j ∧ b = G.d a (G.lk a j) + o (G.lk a j)) ∧ ∀ j, j < i → Cnd G a cl bar o j → b ≤ G.d a (G.lk a j) + o (G.lk a j))
section
variable {G : Gr} {B : Int} {a tgt : Nat} {cl : Nat → Bool} {bar : Int} {o : Nat → Int}
theorem Bst.zero : Bst G a cl bar o 0 (-1) := Or.inl ⟨rfl, fun j h => absurd h (Nat.not_lt_zero j)⟩
theorem Bst.no {i : Nat} {b : Int} (h : Bst G a cl bar o i b) (hc : ¬ Cnd G a cl bar o i) : Bst G a cl bar o (i + 1) b := by
  rcases h with ⟨h1, h2⟩ | ⟨h0, ⟨j, h1, h2, h3⟩, h4⟩
  · exact Or.inl ⟨h1, fun j hj => by
      by_cases e : j = i
      · subst e; exact hc
      · exact h2 j (by omega)⟩
  · exact Or.inr ⟨h0, ⟨j, by omega, h2, h3⟩, fun j hj hcj => by
      by_cases e : j = i
      · subst e; exact absurd hcj hc
      · exact h4 j (by omega) hcj⟩
theorem Bst.keep {i : Nat} {b : Int} (h : Bst G a cl bar o i b) (hb : 0 ≤ b) (hc : b ≤ G.d a (G.lk a i) + o (G.lk a i)) : Bst G a cl bar o (i + 1) b := by
  rcases h with ⟨h1, h2⟩ | ⟨h0, ⟨j, h1, h2, h3⟩, h4⟩
  · omega
  · exact Or.inr ⟨h0, ⟨j, by omega, h2, h3⟩, fun j hj hcj => by
      by_cases e : j = i
      · subst e; exact hc
      · exact h4 j (by omega) hcj⟩
theorem Bst.yes {i : Nat} {b : Int} (h : Bst G a cl bar o i b) (hc : Cnd G a cl bar o i) (hd : 0 ≤ G.d a (G.lk a i)) (hl : b < 0 ∨ G.d a (G.lk a i) + o (G.lk a i) < b) : Bst G a cl bar o (i + 1) (G.d a (G.lk a i) + o (G.lk a i)) := by
  have h5 := hc.2.2
  rcases h with ⟨h1, h2⟩ | ⟨h0, ⟨j, h1, h2, h3⟩, h4⟩
  · exact Or.inr ⟨by omega, ⟨i, by omega, hc, rfl⟩, fun j hj hcj => by
      by_cases e : j = i
      · subst e; omega
      · exact absurd hcj (h2 j (by omega))⟩
  · exact Or.inr ⟨by omega, ⟨i, by omega, hc, rfl⟩, fun j hj hcj => by
      by_cases e : j = i
      · subst e; omega
      · have := h4 j (by omega) hcj; omega⟩
/-- A way that is asked for begins with an allowed step, and is no shorter than the best says. -/
theorem is_best (hG : G.Ok B) (hF : Fin G tgt (shut cl a) o) (ha : a < G.N) (hto : tgt < G.N) (hne : a ≠ tgt) {m : List Nat} (hm : Is G a tgt cl bar m) {b : Int} (hb : Bst G a cl bar o (G.deg a) b) : 0 ≤ b ∧ b ≤ len G.d a m := by
  have hfin := hm.fin
  cases m with
  | nil => exact absurd hfin hne
  | cons c t =>
    have hnd := List.nodup_cons.1 hm.nodup
    have hac : c ≠ a := fun e => hnd.1 (by rw [e]; exact List.mem_cons_self)
    obtain ⟨h1, h2⟩ := hm.chn
    have hc := adj_lt hG ha h1
    have hopn : ∀ x ∈ c :: t, shut cl a x = false := fun x hx => by
      have : x ≠ a := fun e => hnd.1 (by rw [← e]; exact hx)
      rw [shut_ne this]; exact hm.opn x hx
    have e : fin c t = tgt := hfin
    have hbk := back_chn hG t c hc h2
    have hbl := back_length hG t c
    have hbf := back_fin t c
    rw [e] at hbk hbl hbf
    have q := hF.least hG hto (back c t) hbk fun x hx => hopn x (mem_back t c x hx)
    rw [hbf, hbl] at q
    obtain ⟨i, hi, ei⟩ := h1
    have hcn : Cnd G a cl bar o i := ⟨by rw [ei]; exact hm.fst c t rfl, by rw [ei]; exact hopn c List.mem_cons_self, by rw [ei]; exact q.1⟩
    rcases hb with ⟨-, h⟩ | ⟨h0, -, h⟩
    · exact absurd hcn (h i hi)
    · have := h i hi hcn
      rw [ei] at this
      refine ⟨h0, ?_⟩
      show b ≤ G.d a c + len G.d c t
      omega
/-- What the search for the next step asks of a link. -/
def Nxt (G : Gr) (a : Nat) (cl : Nat → Bool) (bar : Int) (o : Nat → Int) (left : Int) (p i : Nat) : Prop := (p ≠ a ∨ ((G.lk p i : Nat) : Int) ≠ bar) ∧ shut cl a (G.lk p i) = false ∧ 0 ≤ o (G.lk p i) ∧ G.d p (G.lk p i) + o (G.lk p i) = left
/-- What is left behind some steps. -/
def lf (o : Nat → Int) (best : Int) (a : Nat) (l : List Nat) : Int := if l = [] then best else o (fin a l)
/-- Each step is the first link that will do. -/
def Trc (G : Gr) (a : Nat) (cl : Nat → Bool) (bar : Int) (o : Nat → Int) (best : Int) (l : List Nat) : Prop := ∀ pre m suf, l = pre ++ m :: suf → ∃ i, i < G.deg (fin a pre) ∧ G.lk (fin a pre) i = m ∧ Nxt G a cl bar o (lf o best a pre) (fin a pre) i ∧ ∀ j, j < i → ¬ Nxt G a cl bar o (lf o best a pre) (fin a pre) j
theorem trc_nil {best : Int} : Trc G a cl bar o best [] := fun pre m suf e => by cases pre <;> cases e
theorem trc_step {best : Int} {l : List Nat} (h : Trc G a cl bar o best l) {i : Nat} (hi : i < G.deg (fin a l)) (hx : Nxt G a cl bar o (lf o best a l) (fin a l) i) (hno : ∀ j, j < i → ¬ Nxt G a cl bar o (lf o best a l) (fin a l) j) : Trc G a cl bar o best (l ++ [G.lk (fin a l) i]) := fun pre m suf e => by
  rcases List.eq_nil_or_concat suf with rfl | ⟨s, x, rfl⟩
  · have q := List.append_inj' e rfl
    obtain ⟨q1, q2⟩ := q
    subst q1
    injection q2 with q2
    exact ⟨i, hi, q2, hx, hno⟩
  · rw [List.concat_eq_append, ← List.cons_append, ← List.append_assoc] at e
    exact h pre m s (List.append_inj' e rfl).1
/-- How the way grows: the fixes so far, and what is left. -/
structure Go (G : Gr) (a tgt : Nat) (cl : Nat → Bool) (bar : Int) (o : Nat → Int) (best : Int) (l : List Nat) (left : Int) : Prop where
  chn : chn G a l
  nodup : (a :: l).Nodup
  opn : ∀ x ∈ l, shut cl a x = false
  fst : ∀ b t, l = b :: t → (b : Int) ≠ bar
  len : len G.d a l + left = best
  dec : ∀ x ∈ l, left ≤ o x
  val : l ≠ [] → o (fin a l) = left
  ini : l = [] → left = best
  lt : ∀ x ∈ l, x < G.N
  nn : 0 ≤ left
  trc : Trc G a cl bar o best l
theorem fin_ne {l : List Nat} (h : (a :: l).Nodup) (hl : l ≠ []) : fin a l ≠ a := by
  have hn := (List.nodup_cons.1 h).1
  cases l with
  | nil => exact absurd rfl hl
  | cons b t =>
    intro e
    rcases fin_mem t b with q | q
    · have : fin a (b :: t) = fin b t := rfl
      exact hn (by rw [← e, this, q]; exact List.mem_cons_self)
    · have : fin a (b :: t) = fin b t := rfl
      exact hn (List.mem_cons_of_mem _ (by rw [← e, this]; exact q))
/-- There is a next step. -/
theorem Go.more (hG : G.Ok B) (hF : Fin G tgt (shut cl a) o) (ha : a < G.N) (hcl : cl tgt = false) (hne : a ≠ tgt) {best : Int} (hb : Bst G a cl bar o (G.deg a) best) (hb0 : 0 ≤ best) {l : List Nat} {left : Int} (h : Go G a tgt cl bar o best l left) (hat : fin a l ≠ tgt) :
    ∃ i, i < G.deg (fin a l) ∧ Nxt G a cl bar o left (fin a l) i := by
  by_cases hl : l = []
  · subst hl
    rw [h.ini rfl]
    rcases hb with ⟨h1, -⟩ | ⟨-, ⟨j, h1, h2, h3⟩, -⟩
    · omega
    · exact ⟨j, h1, Or.inr h2.1, h2.2.1, h2.2.2, h3.symm⟩
  · have hv := h.val hl
    have hfl : fin a l < G.N := by
      rcases fin_mem l a with q | q
      · rw [q]; exact ha
      · exact h.lt _ q
    have hnn := h.nn
    rcases hF.src _ hfl (by omega) with ⟨e, -⟩ | ⟨k, hk, k1, k2, k3, -⟩
    · exact absurd e hat
    · obtain ⟨i, hi, ei⟩ := hG.sym k hk _ k2
      refine ⟨i, hi, Or.inl (fin_ne h.nodup hl), ?_, by rw [ei]; exact k1, by rw [ei, hG.dsym]; omega⟩
      rw [ei]
      rcases hF.src k hk k1 with ⟨e, -⟩ | ⟨-, -, -, -, -, q⟩
      · rw [e, shut_ne fun e => hne e.symm]; exact hcl
      · exact q
theorem Go.step (hG : G.Ok B) (ha : a < G.N) {best left : Int} {l : List Nat} (h : Go G a tgt cl bar o best l left) {i : Nat} (hi : i < G.deg (fin a l)) (hx : Nxt G a cl bar o left (fin a l) i) (hno : ∀ j, j < i → ¬ Nxt G a cl bar o left (fin a l) j) : Go G a tgt cl bar o best (l ++ [G.lk (fin a l) i]) (o (G.lk (fin a l) i)) ∧ o (G.lk (fin a l) i) < left := by
  have hfl : fin a l < G.N := by
    rcases fin_mem l a with q | q
    · rw [q]; exact ha
    · exact h.lt _ q
  have hlf : left = lf o best a l := by
    unfold lf
    split
    · rename_i e; exact h.ini e
    · rename_i e; exact (h.val e).symm
  have htr := trc_step h.trc hi (hlf ▸ hx) (hlf ▸ hno)
  obtain ⟨m, hm⟩ : ∃ m, G.lk (fin a l) i = m := ⟨_, rfl⟩
  rw [hm] at htr
  unfold Nxt at hx
  rw [hm] at hx ⊢
  have hadj : G.adj (fin a l) m := ⟨i, hi, hm⟩
  have hp := hG.pos _ hfl m hadj
  obtain ⟨x1, x2, x3, x4⟩ := hx
  have hma : m ≠ a := fun e => by rw [e, shut_same] at x2; cases x2
  have hlt : o m < left := by omega
  refine ⟨⟨(chn_append l a [m]).2 ⟨h.chn, hadj, True.intro⟩, ?_, fun x q => ?_, fun b t e => ?_, ?_, fun x q => ?_, fun _ => by rw [fin_append]; rfl, fun e => absurd e (by simp), fun x q => ?_, x3, htr⟩, hlt⟩
  · rw [← List.cons_append, List.nodup_append]
    refine ⟨h.nodup, by simp, fun x q y r => ?_⟩
    rw [List.mem_singleton.1 r]
    rcases List.mem_cons.1 q with e | q
    · rw [e]; exact fun e => hma e.symm
    · have := h.dec x q
      intro e; subst e; omega
  · rcases List.mem_append.1 q with q | q
    · exact h.opn x q
    · rw [List.mem_singleton.1 q]; exact x2
  · cases l with
    | nil =>
      injection e with e1 e2
      rw [← e1]
      rcases x1 with x1 | x1
      · exact absurd rfl x1
      · exact x1
    | cons c s =>
      injection e with e1 e2
      rw [← e1]; exact h.fst c s rfl
  · rw [len_append]
    have := h.len
    show Short.len G.d a l + (G.d (fin a l) m + 0) + o m = best
    omega
  · rcases List.mem_append.1 q with q | q
    · have := h.dec x q; omega
    · rw [List.mem_singleton.1 q]; omega
  · rcases List.mem_append.1 q with q | q
    · exact h.lt x q
    · rw [List.mem_singleton.1 q]; exact adj_lt hG hfl hadj
theorem Go.start {best : Int} (hb : 0 ≤ best) : Go G a tgt cl bar o best [] best where
  chn := True.intro
  nodup := by simp
  opn := fun x q => absurd q List.not_mem_nil
  fst := fun b t e => by cases e
  len := by show 0 + best = best; omega
  dec := fun x q => absurd q List.not_mem_nil
  val := fun q => absurd rfl q
  ini := fun _ => rfl
  lt := fun x q => absurd q List.not_mem_nil
  nn := hb
  trc := trc_nil
theorem Go.done (hG : G.Ok B) (hF : Fin G tgt (shut cl a) o) (ha : a < G.N) (hto : tgt < G.N) (hne : a ≠ tgt) {best : Int} (hb : Bst G a cl bar o (G.deg a) best) {l : List Nat} {left : Int} (h : Go G a tgt cl bar o best l left) (hat : fin a l = tgt) : Best G a tgt cl bar l best := by
  have hl : l ≠ [] := fun e => by subst e; exact hne hat
  have h0 : left = 0 := by
    have := h.val hl
    rw [hat, hF.zero] at this
    exact this.symm
  have hlen := h.len
  refine ⟨⟨h.chn, hat, h.nodup, fun x q => ?_, h.fst⟩, by omega, fun m hm => (is_best hG hF ha hto hne hm hb).2⟩
  have hn := (List.nodup_cons.1 h.nodup).1
  have e : x ≠ a := fun e => hn (by rw [← e]; exact q)
  have := h.opn x q
  rw [shut_ne e] at this
  exact this
end
/-- How the way is chosen among the shortest ones. -/
def One (G : Gr) (a tgt : Nat) (cl : Nat → Bool) (bar : Int) (l : List Nat) (n : Int) : Prop := l = [] ∨ ∃ o, Fin G tgt (shut cl a) o ∧ Trc G a cl bar o n l
/-- The shortest one that is taken. -/
structure BestO (G : Gr) (a tgt : Nat) (cl : Nat → Bool) (bar : Int) (l : List Nat) (n : Int) : Prop extends Best G a tgt cl bar l n where
  one : One G a tgt cl bar l n
section
variable {G : Gr} {B : Int} {a tgt : Nat} {cl : Nat → Bool} {bar : Int} {o : Nat → Int}
theorem Go.doneO (hG : G.Ok B) (hF : Fin G tgt (shut cl a) o) (ha : a < G.N) (hto : tgt < G.N) (hne : a ≠ tgt) {best : Int} (hb : Bst G a cl bar o (G.deg a) best) {l : List Nat} {left : Int} (h : Go G a tgt cl bar o best l left) (hat : fin a l = tgt) : BestO G a tgt cl bar l best :=
  ⟨h.done hG hF ha hto hne hb hat, Or.inr ⟨o, hF, h.trc⟩⟩
/-- The lengths are told by the graph. -/
theorem fin_to (hG : G.Ok B) {o' : Nat → Int} (h : Fin G tgt cl o) (h' : Fin G tgt cl o') : ∀ n k, k < G.N → 0 ≤ o k → (o k).toNat ≤ n → 0 ≤ o' k ∧ o' k ≤ o k := by
  intro n
  induction n with
  | zero =>
    intro k hk h0 hn
    rcases h.src k hk h0 with ⟨e, -⟩ | ⟨j, hj, hj0, hadj, e, -⟩
    · subst e; have := h'.zero; omega
    · have := (hG.pos j hj k hadj).1; omega
  | succ n ih =>
    intro k hk h0 hn
    rcases h.src k hk h0 with ⟨e, -⟩ | ⟨j, hj, hj0, hadj, e, hc⟩
    · subst e; have := h'.zero; omega
    · have d := (hG.pos j hj k hadj).1
      have q := ih j hj hj0 (by omega)
      have r := h'.rel j hj q.1 k hadj hc
      omega
theorem fin_eq (hG : G.Ok B) {o' : Nat → Int} (h : Fin G tgt cl o) (h' : Fin G tgt cl o') {k : Nat} (hk : k < G.N) : o k = o' k := by
  have l1 := h.low k hk
  have l2 := h'.low k hk
  rcases Int.lt_or_le (o k) 0 with q | q
  · rcases Int.lt_or_le (o' k) 0 with r | r
    · omega
    · have := (fin_to hG h' h _ k hk r (Nat.le_refl _)).1; omega
  · have := fin_to hG h h' _ k hk q (Nat.le_refl _)
    have := fin_to hG h' h _ k hk this.1 (Nat.le_refl _)
    omega
theorem nxt_eq {o' : Nat → Int} {left : Int} {p i : Nat} (e : o (G.lk p i) = o' (G.lk p i)) (h : Nxt G a cl bar o left p i) : Nxt G a cl bar o' left p i := by
  unfold Nxt at *
  rw [← e]; exact h
/-- The way that is taken is one. -/
theorem one_same (hG : G.Ok B) (ha : a < G.N) {l l' : List Nat} {n n' : Int} (h : BestO G a tgt cl bar l n) (h' : BestO G a tgt cl bar l' n') : l = l' := by
  have e : n = n' := by
    have h1 := h.least l' h'.is
    have h2 := h'.least l h.is
    rw [h'.len] at h1
    rw [h.len] at h2
    omega
  subst e
  have none : ∀ {x y : List Nat} {k : Int}, Is G a tgt cl bar x → Is G a tgt cl bar y → x = [] → k = k → x = y := fun {x y k} hx hy e _ => by
    subst e
    have q : fin a y = a := hy.fin.trans hx.fin.symm
    rcases Classical.em (y = []) with r | r
    · exact r.symm
    · exact absurd q (fin_ne hy.nodup r)
  rcases h.one with e | ⟨o, hF, hT⟩
  · exact none (k := 0) h.is h'.is e rfl
  rcases h'.one with e | ⟨o', hF', hT'⟩
  · exact (none (k := 0) h'.is h.is e rfl).symm
  have heq : ∀ k, k < G.N → o k = o' k := fun k hk => fin_eq hG hF hF' hk
  have stop : ∀ {x y pre : List Nat} {m : Nat} {t : List Nat}, Is G a tgt cl bar x → Is G a tgt cl bar y → x = pre → y = pre ++ m :: t → False := fun {x y pre m t} hx hy e1 e2 => by
    subst e1 e2
    have f1 := hx.fin
    have f2 := hy.fin
    rw [fin_append] at f2
    have f2 : fin m t = tgt := f2
    have nd := hy.nodup
    rw [← List.cons_append, List.nodup_append] at nd
    have m1 : tgt ∈ a :: x := by
      rcases fin_mem x a with q | q
      · rw [← f1, q]; exact List.mem_cons_self
      · rw [← f1]; exact List.mem_cons_of_mem _ q
    have m2 : tgt ∈ m :: t := by
      rcases fin_mem t m with q | q
      · rw [← f2, q]; exact List.mem_cons_self
      · rw [← f2]; exact List.mem_cons_of_mem _ q
    exact nd.2.2 tgt m1 tgt m2 rfl
  have key : ∀ s s' pre, l = pre ++ s → l' = pre ++ s' → s = s' := by
    intro s
    induction s with
    | nil =>
      intro s' pre e1 e2
      cases s' with
      | nil => rfl
      | cons m t => exact (stop h.is h'.is (e1.trans (List.append_nil _)) e2).elim
    | cons m s ih =>
      intro s' pre e1 e2
      cases s' with
      | nil => exact (stop h'.is h.is (e2.trans (List.append_nil _)) e1).elim
      | cons m' t =>
        obtain ⟨i, hi, hm, hx, hno⟩ := hT pre m s e1
        obtain ⟨i', hi', hm', hx', hno'⟩ := hT' pre m' t e2
        have hp : fin a pre < G.N := by
          have hc := h.is.chn
          rw [e1] at hc
          have hc := ((chn_append _ _ _).1 hc).1
          rcases fin_mem pre a with q | q
          · rw [q]; exact ha
          · exact chn_lt hG pre a ha hc _ q
        have hlf : lf o n a pre = lf o' n a pre := by
          unfold lf
          split
          · rfl
          · exact heq _ hp
        rw [hlf] at hx hno
        have ii : i = i' := by
          rcases Nat.lt_trichotomy i i' with q | q | q
          · exact absurd (nxt_eq (heq _ (hG.lt _ hp i hi)) hx) (hno' i q)
          · exact q
          · exact absurd (nxt_eq (heq _ (hG.lt _ hp i' hi')).symm hx') (hno i' q)
        subst ii
        obtain rfl : m = m' := hm.symm.trans hm'
        rw [ih t (pre ++ [m]) (by rw [e1]; simp) (by rw [e2]; simp)]
  exact key l l' [] rfl rfl
end
end Short
end Go.Proofs.Ytokioemmjfjhkaa
