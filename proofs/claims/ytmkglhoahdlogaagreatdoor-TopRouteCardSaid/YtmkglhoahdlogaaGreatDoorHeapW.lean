/- HeapW. -/
import Derived.Test.YtmkglhoahdlogaaGreatDoorJ07
import Derived.Test.YtmkglhoahdlogaaGreatDoorJ27
import Derived.Test.YtmkglhoahdlogaaGreatDoorS1
import Derived.Test.YtmkglhoahdlogaaGreatDoorJ08
import Derived.Deep.RegionLaw
import Derived.Deep.DeepCutAuto
namespace Go.Proofs.YtmkglhoahdlogaaGreatDoor
open Go.RowKit
namespace Heap
open Kit
/-- The cells of an item. -/
def cel (f : Hp) : Nat → Nat → Value := fun i j => if j = 0 then .int .i64 (f i).p else if j = 1 then .int .i64 (f i).k else (f i).v
theorem cel_put (n : Nat) (f : Hp) (x : It) : rowG 3 (cel f) n ++ [.int .i64 x.p, .int .i64 x.k, x.v] = rowG 3 (cel (put n f x)) (n + 1) := by
  show _ = rowG 3 (cel (put n f x)) n ++ (List.range 3).map fun j => cel (put n f x) n j
  have ec : rowG 3 (cel f) n = rowG 3 (cel (put n f x)) n := rowG_congr fun i hi j hj => by
    have e : put n f x i = f i := if_neg (by omega)
    unfold cel; rw [e]
  rw [ec]
  congr 1
  have e : put n f x n = x := if_pos rfl
  show _ = [cel (put n f x) n 0, cel (put n f x) n 1, cel (put n f x) n 2]
  unfold cel
  rw [e]
  rfl
theorem put_all {P : Value → Prop} {n : Nat} {f : Hp} {x : It} (h : ∀ i, i < n → P (f i).v) (hx : P x.v) : ∀ i, i < n + 1 → P (put n f x i).v := fun i hi => by
  unfold put
  by_cases e : i = n
  · rw [if_pos e]; exact hx
  · rw [if_neg e]; exact h i (by omega)
/-- A queue's own cells. -/
structure Qb (w : World) (q : Nat) (v : Value) (nx : Int) : Prop where
  c0 : w.cell? ⟨q, 0, none⟩ = some v
  c1 : w.cell? ⟨q, 1, none⟩ = some (.int .i64 nx)
  f0 : w.frozen? ⟨q, 0, none⟩ = false
  f1 : w.frozen? ⟨q, 1, none⟩ = false
theorem keepQ {W w1 : World} (hb : Below W.heap.size W w1) {q : Nat} {v : Value} {nx : Int} (h : Qb W q v nx) : w1.cell? ⟨q, 0, none⟩ = some v ∧ w1.cell? ⟨q, 1, none⟩ = some (.int .i64 nx) ∧ w1.frozen? ⟨q, 0, none⟩ = false ∧ w1.frozen? ⟨q, 1, none⟩ = false :=
  ⟨keep hb h.c0, keep hb h.c1, keepF hb h.c0 h.f0, keepF hb h.c1 h.f1⟩
theorem b_set' {N : Nat} {w W : World} (h : Below N w W) {p : Addr} (hp : N ≤ p.block) (u : Value) : Below N w (W.setCell p u) := h.setCell hp u
theorem ownG_far {w : World} {base : Nat} {E : TypeId} {C n : Nat} {v : Value} {f : Nat → Nat → Value} (h : OwnG w base E C v n f) (a : Addr) (ha : a.block < base) (u : Value) : OwnG (w.setCell a u) base E C v n f := by
  refine ⟨h.1, ?_⟩
  rcases h.2 with hh | ⟨g, cap, cur, hv, hb, hg, h2⟩
  · exact Or.inl hh
  · refine Or.inr ⟨g, cap, cur, hv, hb, ?_, h2⟩
    have hne : ¬ a.block = g := by omega
    simp only [World.setCell, Array.getElem?_modify, hne, if_false]
    exact hg
theorem after_append {w wA w1 : World} {q n n' : Nat} {E : TypeId} {v v2 : Value} {nx : Int} {f f' : Nat → Nat → Value} (hb : Below w.heap.size w wA) (hQ : Qb w q v nx) (hO : OwnG w (q + 1) E 3 v n f) (hg : wA.grownBy w1 v.ownBlock) (h1 : OwnG w1 (q + 1) E 3 v2 n' f') :
    Qb (w1.setCell ⟨q, 0, none⟩ v2) q v2 nx ∧ OwnG (w1.setCell ⟨q, 0, none⟩ v2) (q + 1) E 3 v2 n' f' ∧ Below q w (w1.setCell ⟨q, 0, none⟩ v2) := by
  have hq : q < w.heap.size := lt_of_cell hQ.c0
  have hqA : q < wA.heap.size := Nat.lt_of_lt_of_le hq hb.size
  have hne : some q ≠ v.ownBlock := fun e => by have := ownG_ge hO q e.symm; omega
  have c0 := (hg.cell_far ⟨q, 0, none⟩ hqA hne).trans (keep hb hQ.c0)
  have c1 := (hg.cell_far ⟨q, 1, none⟩ hqA hne).trans (keep hb hQ.c1)
  have f0 := (hg.frozen_far ⟨q, 0, none⟩ hqA hne).trans (keepF hb hQ.c0 hQ.f0)
  have f1 := (hg.frozen_far ⟨q, 1, none⟩ hqA hne).trans (keepF hb hQ.c1 hQ.f1)
  have hB : Below q w w1 := growG_below (hb.mono (Nat.le_of_lt hq)) (ownG_keep hb hO) hg (Nat.le_succ _) (Nat.le_of_lt hqA)
  exact ⟨⟨cset _ c0, cfar _ (by simp) c1, (World.frozen?_setCell _ _ _ _).trans f0, (World.frozen?_setCell _ _ _ _).trans f1⟩, ownG_far h1 _ (Nat.lt_succ_self _) _, b_set' hB (Nat.le_refl _) _⟩
theorem qb_num {w : World} {q : Nat} {v : Value} {nx : Int} (h : Qb w q v nx) (y : Int) : Qb (w.setCell ⟨q, 1, none⟩ (.int .i64 y)) q v y :=
  ⟨cfar _ (by simp) h.c0, cset _ h.c1, (World.frozen?_setCell _ _ _ _).trans h.f0, (World.frozen?_setCell _ _ _ _).trans h.f1⟩
theorem qb_val {w : World} {q : Nat} {v : Value} {nx : Int} (h : Qb w q v nx) (y : Value) : Qb (w.setCell ⟨q, 0, none⟩ y) q y nx :=
  ⟨cset _ h.c0, cfar _ (by simp) h.c1, (World.frozen?_setCell _ _ _ _).trans h.f0, (World.frozen?_setCell _ _ _ _).trans h.f1⟩
theorem qb_far {w : World} {q : Nat} {v : Value} {nx : Int} (h : Qb w q v nx) (a : Addr) (ha : a.block ≠ q) (u : Value) : Qb (w.setCell a u) q v nx :=
  ⟨cfar _ (fun e => ha (by rw [e])) h.c0, cfar _ (fun e => ha (by rw [e])) h.c1, (World.frozen?_setCell _ _ _ _).trans h.f0, (World.frozen?_setCell _ _ _ _).trans h.f1⟩
theorem keepQ' {W w1 : World} (hb : Below W.heap.size W w1) {q : Nat} {v : Value} {nx : Int} (h : Qb W q v nx) : Qb w1 q v nx := ⟨keep hb h.c0, keep hb h.c1, keepF hb h.c0 h.f0, keepF hb h.c1 h.f1⟩
theorem b_nextq {q : Nat} {v : Value} {nx : Int} {w W w1 : World} (h : Below q w W) (hQ : Qb W q v nx) (hb : Below W.heap.size W w1) : Below q w w1 := h.trans (hb.mono (Nat.le_of_lt (lt_of_cell hQ.c0)))
theorem ownG_free {w : World} {base g cap n C : Nat} {E : TypeId} {f : Nat → Nat → Value} (h : OwnG w base E C (.slice (some ⟨g, 0, none⟩) n cap) n f) : ∀ k, w.frozen? ⟨g, k, none⟩ = false := fun k => h.frozenAt k
/-- One element less. -/
theorem ownG_less {w : World} {base g cap m C : Nat} {E : TypeId} {f : Nat → Nat → Value} (h : OwnG w base E C (.slice (some ⟨g, 0, none⟩) (m + 1) cap) (m + 1) f) : OwnG w base E C (.slice (some ⟨g, 0, none⟩) m cap) m f := by
  refine ⟨rowG_len C f m, ?_⟩
  rcases h.2 with ⟨e, -⟩ | ⟨g', cap', cur, e, hb, hg, h1, h2, h3, h4⟩
  · cases e
  · injection e with e1 e2 e3
    injection e1 with e1
    injection e1 with e1 _
    subst e1 e3
    refine Or.inr ⟨g, cap, cur, rfl, hb, hg, by omega, h2, h3, ?_⟩
    have e : rowG C f (m + 1) = rowG C f m ++ (List.range C).map fun j => f m j := rfl
    rw [e] at h4
    have := congrArg (List.take (m * C)) h4
    rw [List.take_take, List.take_append_of_le_length (by rw [rowG_len]; exact Nat.le_refl _), List.take_of_length_le (l := rowG C f m) (by rw [rowG_len]; exact Nat.le_refl _)] at this
    rw [← this, Nat.min_eq_left]
    exact Nat.mul_le_mul_right C (Nat.le_succ m)
/-- Two items exchanged, cell by cell. -/
theorem swap_own {w : World} {base g cap n i j : Nat} {E : TypeId} {f : Hp} (h : OwnG w base E 3 (.slice (some ⟨g, 0, none⟩) n cap) n (cel f)) (hi : i < n) (hj : j < n) (hne : i ≠ j) :
    OwnG ((((((w.setCell ⟨g, i * 3, none⟩ (.int .i64 (f j).p)).setCell ⟨g, i * 3 + 1, none⟩ (.int .i64 (f j).k)).setCell ⟨g, i * 3 + 2, none⟩ (f j).v).setCell ⟨g, j * 3, none⟩ (.int .i64 (f i).p)).setCell ⟨g, j * 3 + 1, none⟩ (.int .i64 (f i).k)).setCell ⟨g, j * 3 + 2, none⟩ (f i).v) base E 3 (.slice (some ⟨g, 0, none⟩) n cap) n (cel (sw f i j)) := by
  have h1 := ownG_set (ownG_set (ownG_set h hi (j := 0) (by decide) (.int .i64 (f j).p)) hi (j := 1) (by decide) (.int .i64 (f j).k)) hi (j := 2) (by decide) (f j).v
  have h2 := ownG_set (ownG_set (ownG_set h1 hj (j := 0) (by decide) (.int .i64 (f i).p)) hj (j := 1) (by decide) (.int .i64 (f i).k)) hj (j := 2) (by decide) (f i).v
  refine ownG_congr h2 fun a ha b hb => ?_
  unfold updG cel
  rcases (show b = 0 ∨ b = 1 ∨ b = 2 by omega) with rfl | rfl | rfl <;> by_cases e1 : a = i <;> by_cases e2 : a = j <;> simp [e1, e2, sw, hne, Ne.symm hne] <;> (intro e; omega)
theorem sw_all {P : Value → Prop} {n i j : Nat} {f : Hp} (h : ∀ a, a < n → P (f a).v) (hi : i < n) (hj : j < n) : ∀ a, a < n → P (sw f i j a).v := fun a ha => by
  rcases sw_cases f i j a with ⟨-, e⟩ | ⟨-, -, e⟩ | ⟨-, -, e⟩
  · rw [e]; exact h j hj
  · rw [e]; exact h i hi
  · rw [e]; exact h a ha
/-- The last item first. -/
theorem last_own {w : World} {base g cap m : Nat} {E : TypeId} {f : Hp} (h : OwnG w base E 3 (.slice (some ⟨g, 0, none⟩) (m + 1) cap) (m + 1) (cel f)) :
    OwnG (((w.setCell ⟨g, 0, none⟩ (.int .i64 (f m).p)).setCell ⟨g, 1, none⟩ (.int .i64 (f m).k)).setCell ⟨g, 2, none⟩ (f m).v) base E 3 (.slice (some ⟨g, 0, none⟩) (m + 1) cap) (m + 1) (cel (last (m + 1) f)) := by
  have h1 := ownG_set (ownG_set (ownG_set h (i := 0) (by omega) (j := 0) (by decide) (.int .i64 (f m).p)) (i := 0) (by omega) (j := 1) (by decide) (.int .i64 (f m).k)) (i := 0) (by omega) (j := 2) (by decide) (f m).v
  simp only [Nat.zero_mul, Nat.zero_add] at h1
  refine ownG_congr h1 fun a ha b hb => ?_
  unfold updG cel last
  rw [Nat.add_sub_cancel]
  rcases (show b = 0 ∨ b = 1 ∨ b = 2 by omega) with rfl | rfl | rfl <;> by_cases e1 : a = 0 <;> simp [e1]
/-- The last place laid to zero: the first ones. -/
theorem zero_own {w : World} {base g cap m : Nat} {E : TypeId} {f : Nat → Nat → Value} (h : OwnG w base E 3 (.slice (some ⟨g, 0, none⟩) (m + 1) cap) (m + 1) f) (z0 z1 z2 : Value) :
    OwnG (((w.setCell ⟨g, m * 3, none⟩ z0).setCell ⟨g, m * 3 + 1, none⟩ z1).setCell ⟨g, m * 3 + 2, none⟩ z2) base E 3 (.slice (some ⟨g, 0, none⟩) m cap) m f := by
  have h2 := ownG_less (ownG_set (ownG_set (ownG_set h (i := m) (by omega) (j := 0) (by decide) z0) (i := m) (by omega) (j := 1) (by decide) z1) (i := m) (by omega) (j := 2) (by decide) z2)
  refine ownG_congr h2 fun a ha b hb => ?_
  have hm : ¬ a = m := by omega
  unfold updG
  simp [hm]
/-- The least of a place and its children, one by one. -/
def lst (m : Nat) (h : Hp) (i c : Nat) : Nat := if c = 0 then i else if c = 1 then l1 m h i else l2 m h i
theorem lst_step {m i c : Nat} {h : Hp} (hc : c < 2) : lst m h i (c + 1) = if 2 * i + 1 + c < m ∧ bef (h (2 * i + 1 + c)) (h (lst m h i c)) = true then 2 * i + 1 + c else lst m h i c := by
  rcases (show c = 0 ∨ c = 1 by omega) with rfl | rfl <;> rfl
theorem lst_lt {m i : Nat} {h : Hp} (hi : i < m) (c : Nat) : lst m h i c < m := by
  unfold lst
  split
  · exact hi
  · split
    · unfold l1; split
      · rename_i h; exact h.1
      · exact hi
    · rcases l2_cases m h i with e | e
      · omega
      · exact e.2.1
/-- Three cells of a block. -/
structure T3 (w : World) (b : Nat) (x y z : Value) : Prop where
  c0 : w.cell? ⟨b, 0, none⟩ = some x
  c1 : w.cell? ⟨b, 1, none⟩ = some y
  c2 : w.cell? ⟨b, 2, none⟩ = some z
theorem t3_new (w : World) (t : TypeId) (x y z : Value) : T3 (w.alloc (.cells #[x, y, z] t)) w.heap.size x y z := ⟨by simp, by simp, by simp⟩
theorem t3_keep {W w1 : World} (hb : Below W.heap.size W w1) {b : Nat} {x y z : Value} (h : T3 W b x y z) : T3 w1 b x y z := ⟨keep hb h.c0, keep hb h.c1, keep hb h.c2⟩
theorem t3_far {w : World} {b : Nat} {x y z : Value} (h : T3 w b x y z) (a : Addr) (ha : a.block ≠ b) (u : Value) : T3 (w.setCell a u) b x y z :=
  ⟨cfar _ (fun e => ha (by rw [e])) h.c0, cfar _ (fun e => ha (by rw [e])) h.c1, cfar _ (fun e => ha (by rw [e])) h.c2⟩
/-- A queue: n items in a heap, the next number. -/
def QS (E : TypeId) (KV : Value → Prop) (w : World) (q n : Nat) (f : Hp) (nx : Int) : Prop := ∃ v, Qb w q v nx ∧ OwnG w (q + 1) E 3 v n (cel f) ∧ ∀ i, i < n → KV (f i).v
theorem ownG_slice {w : World} {base : Nat} {E : TypeId} {C n : Nat} {v : Value} {f : Nat → Nat → Value} (h : OwnG w base E C v n f) : ∃ A cap, v = .slice A n cap ∧ cap ≤ maxLen := by
  rcases h.2 with ⟨rfl, h1⟩ | ⟨g, cap, cur, hv, hb, hg, hnc, hcm, _⟩
  · rw [h1]; exact ⟨none, 0, rfl, Nat.zero_le _⟩
  · exact ⟨_, _, hv, hcm⟩

namespace Ki
/-- What a value of this kind is. -/
def KV (v : Value) : Prop := ∃ z : Int, v = .int .i64 z
theorem info_it : (Tryz.prog.info? 176).map (fun i => (i.zero, i.size, i.bytes)) = some (some (.agg #[.int .i64 0, .int .i64 0, .int .i64 0]), 3, 24) := by kernel_rfl
set_option maxHeartbeats 1000000 in
theorem bef_w (p k : Int) (z : Int) (p' k' : Int) (z' : Int) (w : World) :
    Calls Tryz.prog 105 #[.agg #[.int .i64 p, .int .i64 k, .int .i64 z], .agg #[.int .i64 p', .int .i64 k', .int .i64 z']] w fun e w' => e = .returned (.bool (bef ⟨p, k, .int .i64 z⟩ ⟨p', k', .int .i64 z'⟩)) ∧ Below w.heap.size w w' := by
  obtain ⟨r, hr⟩ : ∃ r, r = bef ⟨p, k, .int .i64 z⟩ ⟨p', k', .int .i64 z'⟩ := ⟨_, rfl⟩
  rw [← hr]
  have HR : Hid (r = decide (p < p' ∨ p = p' ∧ k < k')) := Lib.hid hr
  clear hr
  have W0 := Lib.hid (b_alloc (b_alloc (Below.refl w.heap.size w) (.cells #[.int .i64 p, .int .i64 k, .int .i64 z] 176)) (.cells #[.int .i64 p', .int .i64 k', .int .i64 z'] 176))
  go_enter Tryz.func105, Tryz.ntmps105
  by_cases h1 : p < p'
  · have e : r = true := by rw [HR.out, decide_eq_true_eq]; exact Or.inl h1
    subst e
    have g1 := decide_eq_true h1
    go_wp2_with fail
    all_goals (go_ret; exact ⟨rfl, W0.out⟩)
  · have g1 := decide_eq_false h1
    by_cases h2 : p = p'
    · subst h2
      have e : r = decide (k < k') := by rw [HR.out]; simp
      subst e
      clear HR h1
      go_wp2_with fail
      all_goals (go_ret; exact ⟨rfl, W0.out⟩)
    · have e : r = false := by rw [HR.out, decide_eq_false_iff_not]; omega
      subst e
      have g2 : (p == p') = false := by simpa using h2
      clear HR
      go_wp2_with fail
      all_goals (go_ret; exact ⟨rfl, W0.out⟩)
theorem befC (a b : It) (ha : KV a.v) (hb : KV b.v) : Hid (∀ w, Calls Tryz.prog 105 #[.agg #[.int .i64 a.p, .int .i64 a.k, a.v], .agg #[.int .i64 b.p, .int .i64 b.k, b.v]] w fun e w' => e = .returned (.bool (bef a b)) ∧ Below w.heap.size w w') := Lib.hid fun w => by
  obtain ⟨ap, ak, av⟩ := a
  obtain ⟨bp, bk, bv⟩ := b
  obtain ⟨z, hz⟩ := ha
  obtain ⟨z', hz'⟩ := hb
  dsimp only at *
  subst hz hz'
  exact bef_w ap ak z bp bk z' w
theorem new_q (w : World) :
    Calls Tryz.prog 86 #[] w fun e w' => (∃ q, e = .returned (.pointer (some ⟨q, 0, none⟩)) ∧ w.heap.size ≤ q ∧ q < w'.heap.size ∧ ∀ f, QS 176 KV w' q 0 f 0) ∧ Below w.heap.size w w' := by
  go_enter Tryz.func86, Tryz.ntmps86
  go_wp2_with fail
  go_ret
  refine ⟨⟨w.heap.size, rfl, Nat.le_refl _, by simp, fun f => ⟨.slice none 0 0, ⟨by simp, by simp, by simp, by simp⟩, ownG_nil _ _ _ _ _, fun i hi => absurd hi (Nat.not_lt_zero i)⟩⟩, b_alloc (Below.refl _ _) _⟩
theorem len_q (q n : Nat) (f : Hp) (nx : Int) (w : World) (_hn : n ≤ 100000) (h : QS 176 KV w q n f nx) :
    Calls Tryz.prog 88 #[.pointer (some ⟨q, 0, none⟩)] w fun e w' => e = .returned (.int .i64 n) ∧ w = w' := by
  obtain ⟨v, ⟨c0, -, -, -⟩, ho, -⟩ := h
  obtain ⟨A, cap, rfl, -⟩ := ownG_slice ho
  clear ho
  go_enter Tryz.func88, Tryz.ntmps88
  go_wp2_with fail
  go_ret
  exact ⟨rfl, rfl⟩
set_option maxRecDepth 100000 in
set_option maxHeartbeats 8000000 in
theorem push_w (q n : Nat) (f : Hp) (nx p : Int) (z : Int) (A : Option Addr) (cap : Nat) (w : World) (hn : n ≤ 100000) (_hnx : 0 ≤ nx ∧ nx ≤ 100000) (hq : q < w.heap.size) (HQ : Hid (Qb w q (.slice A n cap) nx)) (HO : Hid (OwnG w (q + 1) 176 3 (.slice A n cap) n (cel f))) (HK : Hid (∀ i, i < n → KV (f i).v)) :
    Calls Tryz.prog 87 #[.pointer (some ⟨q, 0, none⟩), .int .i64 p, .int .i64 z] w fun e w' => e = .returned (.tuple #[]) ∧ QS 176 KV w' q (n + 1) (pushF n f ⟨p, nx, .int .i64 z⟩) (nx + 1) ∧ Below q w w' := by
  obtain ⟨i0, hi, hz0, hz1, hz2⟩ := info_parts info_it
  have IN := Lib.hid (And.intro hi (And.intro hz0 (And.intro hz1 hz2))); clear hi hz0 hz1 hz2
  have hcap : cap ≤ 9223372036854775807 := by obtain ⟨_, _, e, h⟩ := ownG_slice HO.out; injection e with _ _ e3; subst e3; exact Nat.le_trans h (by decide)
  obtain ⟨c0, c1, f0, f1⟩ := HQ.out
  have hk0 : some q ≠ (Value.slice A n cap).ownBlock := fun e => by have := ownG_ge HO.out q e.symm; omega
  have HK0 := Lib.hid hk0; clear hk0
  obtain ⟨x, hx⟩ : ∃ x : It, x = ⟨p, nx, .int .i64 z⟩ := ⟨_, rfl⟩
  have RW : Hid (rowG 3 (cel f) n ++ [.int .i64 p, .int .i64 nx, .int .i64 z] = rowG 3 (cel (put n f x)) (n + 1)) := Lib.hid (by rw [hx]; exact cel_put n f ⟨p, nx, .int .i64 z⟩)
  have HKx : Hid (∀ i, i < n + 1 → KV (put n f x i).v) := Lib.hid (put_all HK.out (by rw [hx]; exact ⟨z, rfl⟩))
  rw [← hx]
  clear hx
  go_enter Tryz.func87, Tryz.ntmps87
  go_wp2_with fail
  go_cut [21] (fun s21 wx => ∃ (gg cap2 : Nat), s21 = .slice (some ⟨gg, 0, none⟩) (n + 1) cap2 ∧ Qb wx q (.slice (some ⟨gg, 0, none⟩) (n + 1) cap2) nx ∧ OwnG wx (q + 1) 176 3 (.slice (some ⟨gg, 0, none⟩) (n + 1) cap2) (n + 1) (cel (put n f x)) ∧ Below q w wx)
  case first =>
    go_region_law
      ((refine step_append_lies _ (by rfl) (.tmp 12) (.tmp 20) 172 (by rfl) (q + 1) 176 i0 _ 3 24 Tryz.underlying172 IN.out.1 IN.out.2.1 IN.out.2.2.1 IN.out.2.2.2 rfl (by omega) (.slice A n cap) n (rowG 3 (cel f) n) (by simp [Act.eval]) (ownG_keep (b_drew (b_alloc (Below.refl _ _) _)) HO.out)
          ⟨w.heap.size, 0, none⟩ 1 1 [.int .i64 p, .int .i64 nx, .int .i64 z] (by simp [Act.eval]) (by rfl) (World.news_of_block (cs := #[.int .i64 p, .int .i64 nx, .int .i64 z]) (t := 176) (fr := (0, 0)) (heap_alloc_new w _)) (by simp [Value.oneCell'])
          (by omega) (by unfold maxLen; omega) (by omega) (by simp; omega) (w.heap.size + 1) (by simp) ?_; intro gg cap2 w1 hown1' hgrow' hat hlt; have hown1 := Lib.hid hown1'; have hgrow := Lib.hid hgrow'; clear hown1' hgrow'; have fz0 : w1.frozen? ⟨q, 0, none⟩ = false := (hgrow.out.frozen_far _ (by simp; omega) HK0.out).trans (keepF (b_drew (b_alloc (Below.refl _ _) _)) HQ.out.c0 HQ.out.f0); have cz0 : w1.cell? ⟨q, 0, none⟩ = some (.slice A n cap) := (hgrow.out.cell_far _ (by simp; omega) HK0.out).trans (keep (b_drew (b_alloc (Below.refl _ _) _)) HQ.out.c0)))
    all_goals
      go_wp2_with fail
      go_meet
      exact ⟨gg, cap2, rfl, after_append (b_drew (b_alloc (Below.refl _ _) _)) HQ.out HO.out hgrow.out (by have q := hown1.out; rw [RW.out] at q; exact q)⟩
  case rest =>
    obtain ⟨g, gc, rfl, hq1, ho1, hb1⟩ := hcut
    have hgc : gc ≤ 9223372036854775807 := by obtain ⟨_, _, e, h⟩ := ownG_slice ho1; injection e with _ _ e3; subst e3; exact Nat.le_trans h (by decide)
    have Q1 := Lib.hid hq1; have O1 := Lib.hid ho1; have B1 := Lib.hid hb1
    have Q2 := Lib.hid (qb_num hq1 (nx + 1)); have O2 := Lib.hid (ownG_far ho1 ⟨q, 1, none⟩ (Nat.lt_succ_self _) (.int .i64 (nx + 1))); have B2 := Lib.hid (b_set' hb1 (p := ⟨q, 1, none⟩) (Nat.le_refl _) (.int .i64 (nx + 1)))
    have hgq : q + 1 ≤ g := ownG_ge ho1 g rfl
    clear c0 c1 f0 f1 ho1 hb1
    obtain ⟨c0, c1, f0, f1⟩ := hq1
    clear Q1 O1 B1
    go_wp2_with fail
    clear c0 c1 f0 f1
    go_loopw [6] (fun s wr => ∃ (i : Nat) (h : Hp), i < n + 1 ∧ s = .int .i64 i ∧ up h i = pushF n f x ∧ Qb wr q (.slice (some ⟨g, 0, none⟩) (n + 1) gc) (nx + 1) ∧ OwnG wr (q + 1) 176 3 (.slice (some ⟨g, 0, none⟩) (n + 1) gc) (n + 1) (cel h) ∧ (∀ a, a < n + 1 → KV (h a).v) ∧ Below q w wr) (fun s _ => (intOf s).toNat)
    case atStart => exact ⟨n, put n f x, Nat.lt_succ_self _, by go_num, rfl, Q2.out, O2.out, HKx.out, B2.out⟩
    case round =>
      obtain ⟨i, h, hi, rfl, hup, hQ, hO, hKV, hB⟩ := hrel
      have UP := Lib.hid hup; have QR := Lib.hid hQ; have OR := Lib.hid hO; have KR := Lib.hid hKV; have BR := Lib.hid hB
      clear hup hO hKV hB
      have hin : (i : Int) < (n : Int) + 1 := by omega
      by_cases h0 : 0 < i
      · have h0' : (0 : Int) < (i : Int) := by omega
        obtain ⟨j, hj⟩ : ∃ j, j = (i - 1) / 2 := ⟨_, rfl⟩
        have hji : j < i := by omega
        have hjn : (j : Int) < (n : Int) + 1 := by omega
        have hmx : ((i : Int) - 1) / 2 = (j : Int) := by omega
        obtain ⟨g', gc', e, -, -, -, -, hat⟩ := ownG_row OR.out (Nat.succ_pos n)
        injection e with e1 _ e3
        injection e1 with e1
        injection e1 with e1
        subst e1 e3
        obtain ⟨zi, hzi⟩ := KR.out i hi
        obtain ⟨zj, hzj⟩ := KR.out j (by omega)
        have ai0 : wr.cell? ⟨g, i * 3, none⟩ = some (.int .i64 (h i).p) := hat.cell i hi 0 (by decide)
        have ai1 : wr.cell? ⟨g, i * 3 + 1, none⟩ = some (.int .i64 (h i).k) := hat.cell i hi 1 (by decide)
        have ai2 : wr.cell? ⟨g, i * 3 + 2, none⟩ = some (.int .i64 zi) := by rw [← hzi]; exact hat.cell i hi 2 (by decide)
        have aj0 : wr.cell? ⟨g, j * 3, none⟩ = some (.int .i64 (h j).p) := hat.cell j (by omega) 0 (by decide)
        have aj1 : wr.cell? ⟨g, j * 3 + 1, none⟩ = some (.int .i64 (h j).k) := hat.cell j (by omega) 1 (by decide)
        have aj2 : wr.cell? ⟨g, j * 3 + 2, none⟩ = some (.int .i64 zj) := by rw [← hzj]; exact hat.cell j (by omega) 2 (by decide)
        have C0 := Lib.hid hQ.c0
        have A0 := Lib.hid ai0; have A1 := Lib.hid ai1; have A2 := Lib.hid ai2; have B0 := Lib.hid aj0; have B1 := Lib.hid aj1; have B2 := Lib.hid aj2
        have FR := Lib.hid hat.free
        have hbc : Hid (∀ w, Calls Tryz.prog 105 #[.agg #[.int .i64 (h i).p, .int .i64 (h i).k, .int .i64 zi], .agg #[.int .i64 (h j).p, .int .i64 (h j).k, .int .i64 zj]] w fun e w' => e = .returned (.bool (bef (h i) (h j))) ∧ Below w.heap.size w w') := by
          have q := befC (h i) (h j) ⟨zi, hzi⟩ ⟨zj, hzj⟩
          rw [hzi, hzj] at q; exact q
        have YES : Hid (bef (h i) (h j) = true → up (sw h i j) j = pushF n f x) := Lib.hid fun hb => by rw [← UP.out, hj]; rw [hj] at hb; exact (up_yes h0 hb).symm
        have NO : Hid (bef (h i) (h j) = false → h = pushF n f x) := Lib.hid fun hb => by rw [← UP.out, up_no]; rintro ⟨-, hc⟩; rw [← hj, hb] at hc; cases hc
        have SWO := Lib.hid fun (w5 : World) (ho : OwnG w5 (q + 1) 176 3 (.slice (some ⟨g, 0, none⟩) (n + 1) gc) (n + 1) (cel h)) => swap_own ho hi (show j < n + 1 by omega) (show i ≠ j by omega)
        have SWK : Hid (∀ a, a < n + 1 → KV (sw h i j a).v) := Lib.hid (sw_all KR.out hi (by omega))
        rw [hzi, hzj] at SWO
        clear hQ hat ai0 ai1 ai2 aj0 aj1 aj2 hzi hzj hj
        obtain ⟨BB, hBB⟩ : ∃ BB, BB = bef (h i) (h j) := ⟨_, rfl⟩
        rw [← hBB] at hbc YES NO
        have BC := hbc; clear hbc hBB
        generalize (h i).p = pi at *
        generalize (h i).k = ki at *
        generalize (h j).p = pj at *
        generalize (h j).k = kj at *
        cases BB with
        | false =>
          have e := NO.out rfl
          have HE := Lib.hid e; clear e YES
          go_wp2_with fail
          refine d_region (by kernel_rfl) (by kernel_rfl) ?_
          repeat
            first
              | (refine d_plain (by with_reducible rfl) ?_; apply Exists.intro; refine ⟨fun wq hc hq => ?_, ?_⟩)
              | (refine d_on (by with_reducible rfl) (by rfl) (by with_reducible rfl) ?_; apply Exists.intro; refine ⟨fun wq hc hq => ?_, ?_⟩)
              | (refine d_off (by with_reducible rfl) (by rfl) (by rfl) ?_)
              | (refine d_void (by with_reducible rfl) (by rfl) ?_)
            try any_goals
              (have q0 := keep (cls hq) C0.out; have a0 := keep (cls hq) A0.out; have a1 := keep (cls hq) A1.out; have a2 := keep (cls hq) A2.out; have b0 := keep (cls hq) B0.out; have b1 := keep (cls hq) B1.out; have b2 := keep (cls hq) B2.out; clear hc
               go_simp
               first
                 | rfl
                 | (go_at_call 105; with_reducible exact call_below hq (BC.out _)))
            simp only [Act.put, List.setIfInBounds_toArray, List.set_cons_zero, List.set_cons_succ]
          refine d_nil ?_
          intro w3 hb3
          have Q3 := Lib.hid (keepQ' hb3 QR.out); have O3 := Lib.hid (ownG_keep hb3 OR.out); have W3 := Lib.hid (b_nextq BR.out QR.out hb3)
          clear hb3
          go_wp2_with fail
          refine bodyPost_ret (v := .tuple #[]) (by simp [results, Tryz.results87, go_sem]) rfl ⟨rfl, ?_⟩
          exact ⟨⟨_, Q3.out, by rw [← HE.out]; exact O3.out, by rw [← HE.out]; exact KR.out⟩, W3.out⟩
        | true =>
          have e := YES.out rfl
          have HE := Lib.hid e; clear e NO
          go_wp2_with fail
          refine d_region (by kernel_rfl) (by kernel_rfl) ?_
          repeat
            first
              | (refine d_plain (by with_reducible rfl) ?_; apply Exists.intro; refine ⟨fun wq hc hq => ?_, ?_⟩)
              | (refine d_on (by with_reducible rfl) (by rfl) (by with_reducible rfl) ?_; apply Exists.intro; refine ⟨fun wq hc hq => ?_, ?_⟩)
              | (refine d_off (by with_reducible rfl) (by rfl) (by rfl) ?_)
              | (refine d_void (by with_reducible rfl) (by rfl) ?_)
            try any_goals
              (have q0 := keep (cls hq) C0.out; have a0 := keep (cls hq) A0.out; have a1 := keep (cls hq) A1.out; have a2 := keep (cls hq) A2.out; have b0 := keep (cls hq) B0.out; have b1 := keep (cls hq) B1.out; have b2 := keep (cls hq) B2.out; clear hc
               go_simp
               first
                 | rfl
                 | (go_at_call 105; with_reducible exact call_below hq (BC.out _)))
            simp only [Act.put, List.setIfInBounds_toArray, List.set_cons_zero, List.set_cons_succ]
          refine d_nil ?_
          intro w3 hb3
          have Q3 := Lib.hid (keepQ' hb3 QR.out); have O3 := Lib.hid (ownG_keep hb3 OR.out); have W3 := Lib.hid (b_nextq BR.out QR.out hb3)
          have C3 := Lib.hid (keep hb3 C0.out)
          have a0' := keep hb3 A0.out; have a1' := keep hb3 A1.out; have a2' := keep hb3 A2.out; have b0' := keep hb3 B0.out; have b1' := keep hb3 B1.out; have b2' := keep hb3 B2.out
          clear C0 A0 A1 A2 B0 B1 B2 FR
          have C0 := C3; have A0 := Lib.hid a0'; have A1 := Lib.hid a1'; have A2 := Lib.hid a2'; have B0 := Lib.hid b0'; have B1 := Lib.hid b1'; have B2 := Lib.hid b2'
          clear a0' a1' a2' b0' b1' b2' hb3 C3
          go_wp2_with fail
          refine Tail.tail_region (by kernel_rfl) (by kernel_rfl) ?_
          apply Tail.Gq.p
          · intro wq
            (go_simp; first | exact Tail.pv_value | exact Tail.pv_skip)
          simp only [Act.put, List.setIfInBounds_toArray, List.set_cons_zero, List.set_cons_succ]
          apply Tail.Gq.p
          · intro wq
            (go_simp; first | exact Tail.pv_value | exact Tail.pv_skip)
          simp only [Act.put, List.setIfInBounds_toArray, List.set_cons_zero, List.set_cons_succ]
          apply Tail.Gq.p
          · intro wq
            (go_simp; first | exact Tail.pv_value | exact Tail.pv_skip)
          simp only [Act.put, List.setIfInBounds_toArray, List.set_cons_zero, List.set_cons_succ]
          apply Tail.Gq.r
          · intro wq hc hq
            (have q0 := keep (cls hq) C0.out; have a0 := keep (cls hq) A0.out; have a1 := keep (cls hq) A1.out; have a2 := keep (cls hq) A2.out; have b0 := keep (cls hq) B0.out; have b1 := keep (cls hq) B1.out; have b2 := keep (cls hq) B2.out; clear hc; go_simp; first | exact q2_value | exact q2_skip)
          simp only [Act.put, List.setIfInBounds_toArray, List.set_cons_zero, List.set_cons_succ]
          apply Tail.Gq.p
          · intro wq
            (go_simp; first | exact Tail.pv_value | exact Tail.pv_skip)
          simp only [Act.put, List.setIfInBounds_toArray, List.set_cons_zero, List.set_cons_succ]
          apply Tail.Gq.p
          · intro wq
            (go_simp; first | exact Tail.pv_value | exact Tail.pv_skip)
          simp only [Act.put, List.setIfInBounds_toArray, List.set_cons_zero, List.set_cons_succ]
          apply Tail.Gq.p
          · intro wq
            (go_simp; first | exact Tail.pv_value | exact Tail.pv_skip)
          simp only [Act.put, List.setIfInBounds_toArray, List.set_cons_zero, List.set_cons_succ]
          apply Tail.Gq.p
          · intro wq
            (go_simp; first | exact Tail.pv_value | exact Tail.pv_skip)
          simp only [Act.put, List.setIfInBounds_toArray, List.set_cons_zero, List.set_cons_succ]
          apply Tail.Gq.r
          · intro wq hc hq
            (have q0 := keep (cls hq) C0.out; have a0 := keep (cls hq) A0.out; have a1 := keep (cls hq) A1.out; have a2 := keep (cls hq) A2.out; have b0 := keep (cls hq) B0.out; have b1 := keep (cls hq) B1.out; have b2 := keep (cls hq) B2.out; clear hc; go_simp; first | exact q2_value | exact q2_skip)
          simp only [Act.put, List.setIfInBounds_toArray, List.set_cons_zero, List.set_cons_succ]
          apply Tail.Gq.p
          · intro wq
            (go_simp; first | exact Tail.pv_value | exact Tail.pv_skip)
          simp only [Act.put, List.setIfInBounds_toArray, List.set_cons_zero, List.set_cons_succ]
          apply Tail.Gq.p
          · intro wq
            (go_simp; first | exact Tail.pv_value | exact Tail.pv_skip)
          simp only [Act.put, List.setIfInBounds_toArray, List.set_cons_zero, List.set_cons_succ]
          apply Tail.Gq.p
          · intro wq
            (go_simp; first | exact Tail.pv_value | exact Tail.pv_skip)
          simp only [Act.put, List.setIfInBounds_toArray, List.set_cons_zero, List.set_cons_succ]
          apply Tail.Gq.p
          · intro wq
            (go_simp; first | exact Tail.pv_value | exact Tail.pv_skip)
          simp only [Act.put, List.setIfInBounds_toArray, List.set_cons_zero, List.set_cons_succ]
          apply Tail.Gq.r
          · intro wq hc hq
            (have q0 := keep (cls hq) C0.out; have a0 := keep (cls hq) A0.out; have a1 := keep (cls hq) A1.out; have a2 := keep (cls hq) A2.out; have b0 := keep (cls hq) B0.out; have b1 := keep (cls hq) B1.out; have b2 := keep (cls hq) B2.out; clear hc; go_simp; first | exact q2_value | exact q2_skip)
          simp only [Act.put, List.setIfInBounds_toArray, List.set_cons_zero, List.set_cons_succ]
          apply Tail.Gq.p
          · intro wq
            (go_simp; first | exact Tail.pv_value | exact Tail.pv_skip)
          simp only [Act.put, List.setIfInBounds_toArray, List.set_cons_zero, List.set_cons_succ]
          apply Tail.Gq.p
          · intro wq
            (go_simp; first | exact Tail.pv_value | exact Tail.pv_skip)
          simp only [Act.put, List.setIfInBounds_toArray, List.set_cons_zero, List.set_cons_succ]
          apply Tail.Gq.r
          · intro wq hc hq
            (have q0 := keep (cls hq) C0.out; have a0 := keep (cls hq) A0.out; have a1 := keep (cls hq) A1.out; have a2 := keep (cls hq) A2.out; have b0 := keep (cls hq) B0.out; have b1 := keep (cls hq) B1.out; have b2 := keep (cls hq) B2.out; clear hc; go_simp; first | exact q2_value | exact q2_skip)
          simp only [Act.put, List.setIfInBounds_toArray, List.set_cons_zero, List.set_cons_succ]
          apply Tail.Gq.p
          · intro wq
            (go_simp; first | exact Tail.pv_value | exact Tail.pv_skip)
          simp only [Act.put, List.setIfInBounds_toArray, List.set_cons_zero, List.set_cons_succ]
          apply Tail.Gq.p
          · intro wq
            (go_simp; first | exact Tail.pv_value | exact Tail.pv_skip)
          simp only [Act.put, List.setIfInBounds_toArray, List.set_cons_zero, List.set_cons_succ]
          apply Tail.Gq.p
          · intro wq
            (go_simp; first | exact Tail.pv_value | exact Tail.pv_skip)
          simp only [Act.put, List.setIfInBounds_toArray, List.set_cons_zero, List.set_cons_succ]
          apply Tail.Gq.r
          · intro wq hc hq
            (have q0 := keep (cls hq) C0.out; have a0 := keep (cls hq) A0.out; have a1 := keep (cls hq) A1.out; have a2 := keep (cls hq) A2.out; have b0 := keep (cls hq) B0.out; have b1 := keep (cls hq) B1.out; have b2 := keep (cls hq) B2.out; clear hc; go_simp; first | exact q2_value | exact q2_skip)
          simp only [Act.put, List.setIfInBounds_toArray, List.set_cons_zero, List.set_cons_succ]
          apply Tail.Gq.p
          · intro wq
            (go_simp; first | exact Tail.pv_value | exact Tail.pv_skip)
          simp only [Act.put, List.setIfInBounds_toArray, List.set_cons_zero, List.set_cons_succ]
          apply Tail.Gq.p
          · intro wq
            (go_simp; first | exact Tail.pv_value | exact Tail.pv_skip)
          simp only [Act.put, List.setIfInBounds_toArray, List.set_cons_zero, List.set_cons_succ]
          apply Tail.Gq.r
          · intro wq hc hq
            (have q0 := keep (cls hq) C0.out; have a0 := keep (cls hq) A0.out; have a1 := keep (cls hq) A1.out; have a2 := keep (cls hq) A2.out; have b0 := keep (cls hq) B0.out; have b1 := keep (cls hq) B1.out; have b2 := keep (cls hq) B2.out; clear hc; go_simp; first | exact q2_value | exact q2_skip)
          simp only [Act.put, List.setIfInBounds_toArray, List.set_cons_zero, List.set_cons_succ]
          apply Tail.Gq.p
          · intro wq
            (go_simp; first | exact Tail.pv_value | exact Tail.pv_skip)
          simp only [Act.put, List.setIfInBounds_toArray, List.set_cons_zero, List.set_cons_succ]
          apply Tail.Gq.t
          apply Tail.Gq.p
          · intro wq
            (go_simp; first | exact Tail.pv_value | exact Tail.pv_skip)
          simp only [Act.put, List.setIfInBounds_toArray, List.set_cons_zero, List.set_cons_succ]
          apply Tail.Gq.t
          refine Tail.Gq.nil ⟨by kernel_rfl, fun w4 hb4 => ?_⟩
          simp only [List.reverse_cons, List.reverse_nil, List.nil_append, List.cons_append]
          have Q4 := Lib.hid (keepQ' hb4 Q3.out); have O4 := Lib.hid (ownG_keep hb4 O3.out); have W4 := Lib.hid (b_nextq W3.out Q3.out hb4)
          have FR4 := ownG_free O4.out
          have a0' := keep hb4 A0.out; have a1' := keep hb4 A1.out; have a2' := keep hb4 A2.out; have b0' := keep hb4 B0.out; have b1' := keep hb4 B1.out; have b2' := keep hb4 B2.out
          clear hb4
          go_wp2_with fail
          simp only [Kit.Ends]
          go_wp2_with fail
          go_roundw
          case rel =>
            have hgne : g ≠ q := by omega
            exact ⟨j, sw h i j, by omega, by go_num, HE.out, qb_far (qb_far (qb_far (qb_far (qb_far (qb_far Q4.out _ hgne _) _ hgne _) _ hgne _) _ hgne _) _ hgne _) _ hgne _, SWO.out _ O4.out, SWK.out, b_set' (b_set' (b_set' (b_set' (b_set' (b_set' W4.out (show q ≤ g by omega) _) (show q ≤ g by omega) _) (show q ≤ g by omega) _) (show q ≤ g by omega) _) (show q ≤ g by omega) _) (show q ≤ g by omega) _⟩
          case measure => simp [intOf]; omega
      · obtain rfl : i = 0 := by omega
        have HE : Hid (h = pushF n f x) := Lib.hid (by rw [← UP.out, up_no (by omega)])
        go_wp2_with fail
        refine bodyPost_end (v := .tuple #[]) (by simp [results, Tryz.results87, go_sem]) rfl ⟨rfl, ?_⟩
        exact ⟨⟨_, QR.out, by rw [← HE.out]; exact OR.out, by rw [← HE.out]; exact KR.out⟩, BR.out⟩
set_option maxRecDepth 100000 in
set_option maxHeartbeats 8000000 in
theorem pop_none (q : Nat) (f : Hp) (nx : Int) (w : World) (h : QS 176 KV w q 0 f nx) :
    Calls Tryz.prog 89 #[.pointer (some ⟨q, 0, none⟩)] w fun e w' => e = .returned (.tuple #[.int .i64 0, .int .i64 0, .bool false]) ∧ w = w' := by
  obtain ⟨v, ⟨c0, -, -, -⟩, ho, -⟩ := h
  obtain ⟨A, cap, rfl, -⟩ := ownG_slice ho
  clear ho
  go_enter Tryz.func89, Tryz.ntmps89
  go_wp2_with fail
  refine bodyPost_ret (v := .tuple #[.int .i64 0, .int .i64 0, .bool false]) (by simp [results, Tryz.results89, go_sem]) rfl ⟨rfl, rfl⟩
set_option maxRecDepth 100000 in
set_option maxHeartbeats 8000000 in
theorem pop_w (q n : Nat) (f : Hp) (nx : Int) (g cap : Nat) (w : World) (hn1 : 0 < n) (hn : n ≤ 100000) (hq : q < w.heap.size) (HQ : Hid (Qb w q (.slice (some ⟨g, 0, none⟩) n cap) nx)) (HO : Hid (OwnG w (q + 1) 176 3 (.slice (some ⟨g, 0, none⟩) n cap) n (cel f))) (HK : Hid (∀ i, i < n → KV (f i).v)) :
    Calls Tryz.prog 89 #[.pointer (some ⟨q, 0, none⟩)] w fun e w' => e = .returned (.tuple #[.int .i64 (f 0).p, (f 0).v, .bool true]) ∧ QS 176 KV w' q (n - 1) (popF n f) nx ∧ Below q w w' := by
  have hcap : cap ≤ 9223372036854775807 := by obtain ⟨_, _, e, h⟩ := ownG_slice HO.out; injection e with _ _ e3; subst e3; exact Nat.le_trans h (by decide)
  have hnc : n ≤ cap := by
    obtain ⟨_, _, e, -, -, h, -, -⟩ := ownG_row HO.out hn1
    injection e with _ _ e3; subst e3; exact h
  have hgq : q + 1 ≤ g := ownG_ge HO.out g rfl
  obtain ⟨m, hm⟩ : ∃ m, n = m + 1 := ⟨n - 1, by omega⟩
  subst hm
  obtain ⟨z0, hz0⟩ := HK.out 0 (by omega)
  obtain ⟨zl, hzl⟩ := HK.out m (by omega)
  obtain ⟨g', gc', e, -, -, -, -, hat⟩ := ownG_row HO.out hn1
  injection e with e1 _ e3
  injection e1 with e1
  injection e1 with e1
  subst e1 e3
  have ai0 : w.cell? ⟨g, 0, none⟩ = some (.int .i64 (f 0).p) := by have := hat.cell 0 (by omega) 0 (by decide); rw [Nat.zero_mul, Nat.zero_add] at this; exact this
  have ai1 : w.cell? ⟨g, 1, none⟩ = some (.int .i64 (f 0).k) := by have := hat.cell 0 (by omega) 1 (by decide); rw [Nat.zero_mul, Nat.zero_add] at this; exact this
  have ai2 : w.cell? ⟨g, 2, none⟩ = some (.int .i64 z0) := by have := hat.cell 0 (by omega) 2 (by decide); rw [Nat.zero_mul, Nat.zero_add] at this; rw [← hz0]; exact this
  have aj0 : w.cell? ⟨g, m * 3, none⟩ = some (.int .i64 (f m).p) := hat.cell m (by omega) 0 (by decide)
  have aj1 : w.cell? ⟨g, m * 3 + 1, none⟩ = some (.int .i64 (f m).k) := hat.cell m (by omega) 1 (by decide)
  have aj2 : w.cell? ⟨g, m * 3 + 2, none⟩ = some (.int .i64 zl) := by rw [← hzl]; exact hat.cell m (by omega) 2 (by decide)
  have fr := hat.free
  rw [hz0]
  clear hat
  have LASTO := Lib.hid fun (w5 : World) (ho : OwnG w5 (q + 1) 176 3 (.slice (some ⟨g, 0, none⟩) (m + 1) cap) (m + 1) (cel f)) => last_own ho
  rw [hzl] at LASTO
  have LASTK : Hid (∀ a, a < m → KV (last (m + 1) f a).v) := Lib.hid fun a ha => by
    unfold last
    by_cases e : a = 0
    · rw [if_pos e]; exact HK.out _ (by omega)
    · rw [if_neg e]; exact HK.out _ (by omega)
  generalize hp0 : (f 0).p = p0 at *
  generalize hk0 : (f 0).k = k0 at *
  generalize hpl : (f m).p = pl at *
  generalize hkl : (f m).k = kl at *
  clear hp0 hk0 hpl hkl hz0 hzl
  obtain ⟨c0, c1, f0, f1⟩ := HQ.out
  have WA := b_alloc (Below.refl w.heap.size w) (.cells #[.int .i64 p0, .int .i64 k0, .int .i64 z0] 176)
  have C0 := Lib.hid (keep WA c0); have B0 := Lib.hid (keep WA aj0); have B1 := Lib.hid (keep WA aj1); have B2 := Lib.hid (keep WA aj2)
  have TB := Lib.hid (t3_new w 176 (.int .i64 p0) (.int .i64 k0) (.int .i64 z0))
  have QA := Lib.hid (keepQ' WA HQ.out); have OA := Lib.hid (ownG_keep WA HO.out)
  have BA := Lib.hid (WA.mono (Nat.le_of_lt hq)); have SZ := Lib.hid (show w.heap.size < (w.alloc (.cells #[.int .i64 p0, .int .i64 k0, .int .i64 z0] 176)).heap.size by simp)
  clear WA
  have hmi : (m : Int) < (m : Int) + 1 := by omega
  have u1 : IntKind.i64.wrap (m : Int) = (m : Int) := IntWalk.i64_in _ (by omega)
  go_enter Tryz.func89, Tryz.ntmps89
  go_wp2_with fail
  have ag0 := ai0
  clear c0 c1 f0 f1 fr ai0 ai1 ai2 aj0 aj1 aj2
  refine Tail.tail_region (by kernel_rfl) (by kernel_rfl) ?_
  apply Tail.Gq.p
  · intro wq
    (go_simp; first | exact Tail.pv_value | exact Tail.pv_skip)
  simp only [Act.put, List.setIfInBounds_toArray, List.set_cons_zero, List.set_cons_succ]
  apply Tail.Gq.p
  · intro wq
    (go_simp; first | exact Tail.pv_value | exact Tail.pv_skip)
  simp only [Act.put, List.setIfInBounds_toArray, List.set_cons_zero, List.set_cons_succ]
  apply Tail.Gq.p
  · intro wq
    (go_simp; first | exact Tail.pv_value | exact Tail.pv_skip)
  simp only [Act.put, List.setIfInBounds_toArray, List.set_cons_zero, List.set_cons_succ]
  apply Tail.Gq.r
  · intro wq hc hq
    (have q0 := keep (cls hq) C0.out; have b0 := keep (cls hq) B0.out; have b1 := keep (cls hq) B1.out; have b2 := keep (cls hq) B2.out; clear hc; go_simp; first | exact q2_value | exact q2_skip)
  simp only [Act.put, List.setIfInBounds_toArray, List.set_cons_zero, List.set_cons_succ]
  apply Tail.Gq.p
  · intro wq
    (go_simp; first | exact Tail.pv_value | exact Tail.pv_skip)
  simp only [Act.put, List.setIfInBounds_toArray, List.set_cons_zero, List.set_cons_succ]
  apply Tail.Gq.p
  · intro wq
    (go_simp; first | exact Tail.pv_value | exact Tail.pv_skip)
  simp only [Act.put, List.setIfInBounds_toArray, List.set_cons_zero, List.set_cons_succ]
  apply Tail.Gq.p
  · intro wq
    (go_simp; first | exact Tail.pv_value | exact Tail.pv_skip)
  simp only [Act.put, List.setIfInBounds_toArray, List.set_cons_zero, List.set_cons_succ]
  apply Tail.Gq.r
  · intro wq hc hq
    (have q0 := keep (cls hq) C0.out; have b0 := keep (cls hq) B0.out; have b1 := keep (cls hq) B1.out; have b2 := keep (cls hq) B2.out; clear hc; go_simp; first | exact q2_value | exact q2_skip)
  simp only [Act.put, List.setIfInBounds_toArray, List.set_cons_zero, List.set_cons_succ]
  apply Tail.Gq.p
  · intro wq
    (go_simp; first | exact Tail.pv_value | exact Tail.pv_skip)
  simp only [Act.put, List.setIfInBounds_toArray, List.set_cons_zero, List.set_cons_succ]
  apply Tail.Gq.p
  · intro wq
    (go_simp; first | exact Tail.pv_value | exact Tail.pv_skip)
  simp only [Act.put, List.setIfInBounds_toArray, List.set_cons_zero, List.set_cons_succ]
  apply Tail.Gq.p
  · intro wq
    (go_simp; first | exact Tail.pv_value | exact Tail.pv_skip)
  simp only [Act.put, List.setIfInBounds_toArray, List.set_cons_zero, List.set_cons_succ]
  apply Tail.Gq.r
  · intro wq hc hq
    (have q0 := keep (cls hq) C0.out; have b0 := keep (cls hq) B0.out; have b1 := keep (cls hq) B1.out; have b2 := keep (cls hq) B2.out; clear hc; go_simp; first | exact q2_value | exact q2_skip)
  simp only [Act.put, List.setIfInBounds_toArray, List.set_cons_zero, List.set_cons_succ]
  apply Tail.Gq.p
  · intro wq
    (go_simp; first | exact Tail.pv_value | exact Tail.pv_skip)
  simp only [Act.put, List.setIfInBounds_toArray, List.set_cons_zero, List.set_cons_succ]
  apply Tail.Gq.t
  refine Tail.Gq.nil ⟨by kernel_rfl, fun w4 hb4 => ?_⟩
  simp only [List.reverse_cons, List.reverse_nil, List.nil_append]
  clear u1
  have Q4 := Lib.hid (keepQ' hb4 QA.out); have O4 := Lib.hid (ownG_keep hb4 OA.out); have T4 := Lib.hid (t3_keep hb4 TB.out); have W4 := Lib.hid (b_nextq BA.out QA.out hb4); have S4 := Lib.hid (Nat.lt_of_lt_of_le SZ.out hb4.size)
  clear hb4
  obtain ⟨g', gc', e, -, hgl, -, -, hat⟩ := ownG_row O4.out hn1
  injection e with e1 _ e3
  injection e1 with e1
  injection e1 with e1
  subst e1 e3
  obtain ⟨c0, c1, f0, f1⟩ := Q4.out
  have ai0 : w4.cell? ⟨g, 0, none⟩ = some (.int .i64 (f 0).p) := by have := hat.cell 0 (by omega) 0 (by decide); rw [Nat.zero_mul, Nat.zero_add] at this; exact this
  have ai1 : w4.cell? ⟨g, 1, none⟩ = some (.int .i64 (f 0).k) := by have := hat.cell 0 (by omega) 1 (by decide); rw [Nat.zero_mul, Nat.zero_add] at this; exact this
  have ai2 : w4.cell? ⟨g, 2, none⟩ = some (f 0).v := by have := hat.cell 0 (by omega) 2 (by decide); rw [Nat.zero_mul, Nat.zero_add] at this; exact this
  have aj0 : w4.cell? ⟨g, m * 3, none⟩ = some (.int .i64 (f m).p) := hat.cell m (by omega) 0 (by decide)
  have aj1 : w4.cell? ⟨g, m * 3 + 1, none⟩ = some (.int .i64 (f m).k) := hat.cell m (by omega) 1 (by decide)
  have aj2 : w4.cell? ⟨g, m * 3 + 2, none⟩ = some (f m).v := hat.cell m (by omega) 2 (by decide)
  have fr := hat.free
  clear hat
  have hgw : w.heap.size ≠ g := (new_ne ag0).1
  have hne3 : ¬ g = w.heap.size := fun e => hgw e.symm
  have hgq' : q ≤ g := by omega
  have hne1 : ¬ g = q := by omega
  have hne2 : ¬ q = g := by omega
  have hml : m < m + 1 := Nat.lt_succ_self m
  have T5 := Lib.hid (t3_far (t3_far (t3_far T4.out ⟨g, 0, none⟩ hne3 (.int .i64 pl)) ⟨g, 1, none⟩ hne3 (.int .i64 kl)) ⟨g, 2, none⟩ hne3 (.int .i64 zl))
  have Q5 := Lib.hid (qb_far (qb_far (qb_far Q4.out ⟨g, 0, none⟩ hne1 (.int .i64 pl)) ⟨g, 1, none⟩ hne1 (.int .i64 kl)) ⟨g, 2, none⟩ hne1 (.int .i64 zl))
  have O5 := Lib.hid (LASTO.out _ O4.out)
  have W5 := Lib.hid (b_set' (b_set' (b_set' W4.out (p := ⟨g, 0, none⟩) hgq' (.int .i64 pl)) (p := ⟨g, 1, none⟩) hgq' (.int .i64 kl)) (p := ⟨g, 2, none⟩) hgq' (.int .i64 zl))
  have S5 : Hid (w.heap.size < (((w4.setCell ⟨g, 0, none⟩ (.int .i64 pl)).setCell ⟨g, 1, none⟩ (.int .i64 kl)).setCell ⟨g, 2, none⟩ (.int .i64 zl)).heap.size) := Lib.hid (by simpa using S4.out)
  go_wp2_with fail
  clear Q4 O4 T4 W4 S4 c0 c1 f0 f1 ai0 ai1 ai2 aj0 aj1 aj2 fr LASTO
  generalize ((w4.setCell ⟨g, 0, none⟩ (.int .i64 pl)).setCell ⟨g, 1, none⟩ (.int .i64 kl)).setCell ⟨g, 2, none⟩ (.int .i64 zl) = w5 at *
  simp only [Kit.Ends]
  obtain ⟨g', gc', e, -, -, -, -, hat⟩ := ownG_row O5.out hn1
  injection e with e1 _ e3
  injection e1 with e1
  injection e1 with e1
  subst e1 e3
  obtain ⟨c0, c1, f0, f1⟩ := Q5.out
  have aj0 := hat.cell m (by omega) 0 (by decide)
  have aj1 := hat.cell m (by omega) 1 (by decide)
  have aj2 := hat.cell m (by omega) 2 (by decide)
  rw [Nat.add_zero] at aj0
  have fr := hat.free
  clear hat
  generalize cel (last (m + 1) f) m 0 = y0 at *
  generalize cel (last (m + 1) f) m 1 = y1 at *
  generalize cel (last (m + 1) f) m 2 = y2 at *
  have T6 := Lib.hid (t3_far (t3_far (t3_far (t3_far T5.out ⟨g, m * 3, none⟩ hne3 (.int .i64 0)) ⟨g, m * 3 + 1, none⟩ hne3 (.int .i64 0)) ⟨g, m * 3 + 2, none⟩ hne3 (.int .i64 0)) ⟨q, 0, none⟩ (show ¬ q = w.heap.size by omega) (.slice (some ⟨g, 0, none⟩) m cap))
  have Q6 := Lib.hid (qb_val (qb_far (qb_far (qb_far Q5.out ⟨g, m * 3, none⟩ hne1 (.int .i64 0)) ⟨g, m * 3 + 1, none⟩ hne1 (.int .i64 0)) ⟨g, m * 3 + 2, none⟩ hne1 (.int .i64 0)) (.slice (some ⟨g, 0, none⟩) m cap))
  have O6 := Lib.hid (ownG_far (zero_own O5.out (.int .i64 0) (.int .i64 0) (.int .i64 0)) ⟨q, 0, none⟩ (Nat.lt_succ_self q) (.slice (some ⟨g, 0, none⟩) m cap))
  have W6 := Lib.hid (b_set' (b_set' (b_set' (b_set' W5.out (p := ⟨g, m * 3, none⟩) hgq' (.int .i64 0)) (p := ⟨g, m * 3 + 1, none⟩) hgq' (.int .i64 0)) (p := ⟨g, m * 3 + 2, none⟩) hgq' (.int .i64 0)) (p := ⟨q, 0, none⟩) (Nat.le_refl q) (.slice (some ⟨g, 0, none⟩) m cap))
  go_wp2_with fail
  clear c0 c1 f0 f1 aj0 aj1 aj2 fr Q5 O5 T5 W5 S5
  obtain ⟨h0, hh0⟩ : ∃ h0, h0 = last (m + 1) f := ⟨_, rfl⟩
  have POP0 : Hid (0 < m → down m h0 0 = popF (m + 1) f) := Lib.hid fun hm => by unfold popF; rw [if_neg (by omega), hh0]; rfl
  rw [← hh0] at O6 LASTK
  clear hh0
  have hmcap : m ≤ cap := by omega
  go_loopw [8] (fun s wr => ∃ (i : Nat) (h : Hp), (i < m ∨ m = 0 ∧ i = 0) ∧ s = .int .i64 i ∧ (0 < m → down m h i = popF (m + 1) f) ∧ Qb wr q (.slice (some ⟨g, 0, none⟩) m cap) nx ∧ OwnG wr (q + 1) 176 3 (.slice (some ⟨g, 0, none⟩) m cap) m (cel h) ∧ (∀ a, a < m → KV (h a).v) ∧ T3 wr w.heap.size (.int .i64 p0) (.int .i64 k0) (.int .i64 z0) ∧ Below q w wr) (fun s _ => m - (intOf s).toNat)
  case atStart => exact ⟨0, h0, by omega, rfl, POP0.out, Q6.out, O6.out, LASTK.out, T6.out, W6.out⟩
  case round =>
    obtain ⟨i, h, hi, rfl, hdn, hQ, hO, hKV, hT, hB⟩ := hrel
    have DN := Lib.hid hdn; have KR := Lib.hid hKV
    have WN := b_alloc (Below.refl wr.heap.size wr) (.cells #[.int .i64 (2 * (i : Int) + 1), .int .i64 (2 * (i : Int) + 2)] 3)
    have QA := Lib.hid (keepQ' WN hQ); have OA := Lib.hid (ownG_keep WN hO); have TA := Lib.hid (t3_keep WN hT); have BA := Lib.hid (b_nextq hB hQ WN)
    have NA := Lib.hid (p2_new wr 3 (2 * (i : Int) + 1) (2 * (i : Int) + 2))
    have hi9 : (i : Int) ≤ 100000 := by omega
    clear hdn hKV WN hO hT hB hQ POP0
    go_wp2_with fail
    generalize wr.alloc (.cells #[.int .i64 (2 * (i : Int) + 1), .int .i64 (2 * (i : Int) + 2)] 3) = wA at *
    obtain ⟨bn, hbn⟩ : ∃ bn, bn = wr.heap.size := ⟨_, rfl⟩
    rw [← hbn] at NA ⊢
    clear hbn
    go_loopw [9, 66] (fun s u wi => ∃ c : Nat, c ≤ 2 ∧ u = .int .i64 c ∧ s = .int .i64 (lst m h i c) ∧ Below wA.heap.size wA wi) (fun _ u _ => 2 - (intOf u).toNat)
    case atStart => exact ⟨0, Nat.zero_le _, rfl, rfl, Below.refl _ _⟩
    case round =>
      obtain ⟨c, hc, rfl, rfl, hbl⟩ := hrel
      have BI := Lib.hid hbl
      by_cases hlt : c < 2
      · have hlt' : (c : Int) < 2 := by omega
        obtain ⟨K, hK⟩ : ∃ K, K = 2 * i + 1 + c := ⟨_, rfl⟩
        have kc : wr.cell? ⟨bn, c, none⟩ = some (.int .i64 (K : Int)) := by
          have q := p2_keep hbl NA.out
          rcases (show c = 0 ∨ c = 1 by omega) with rfl | rfl
          · rw [q.1]; congr 2; omega
          · rw [q.2]; congr 2; omega
        have hstep := lst_step (m := m) (h := h) (i := i) hlt
        rw [← hK] at hstep
        obtain ⟨L, hL⟩ : ∃ L, L = lst m h i c := ⟨_, rfl⟩
        rw [← hL] at hstep ⊢
        have C0 := Lib.hid (keep hbl QA.out.c0)
        have hK9 : (K : Int) ≤ 300000 := by omega
        by_cases hKm : K < m
        · have hKm' : (K : Int) < (m : Int) := by omega
          have gd := decide_eq_true hKm'
          have hLm : L < m := by rw [hL]; exact lst_lt (by omega) c
          have hLm' : (L : Int) < (m : Int) := by omega
          obtain ⟨g', gc', e, -, -, -, -, hat⟩ := ownG_row (ownG_keep hbl OA.out) (show 0 < m by omega)
          injection e with e1 _ e3
          injection e1 with e1
          injection e1 with e1
          subst e1 e3
          obtain ⟨zi, hzi⟩ := KR.out K hKm
          obtain ⟨zj, hzj⟩ := KR.out L hLm
          have ai0 : wr.cell? ⟨g, K * 3, none⟩ = some (.int .i64 (h K).p) := hat.cell K hKm 0 (by decide)
          have ai1 : wr.cell? ⟨g, K * 3 + 1, none⟩ = some (.int .i64 (h K).k) := hat.cell K hKm 1 (by decide)
          have ai2 : wr.cell? ⟨g, K * 3 + 2, none⟩ = some (.int .i64 zi) := by rw [← hzi]; exact hat.cell K hKm 2 (by decide)
          have aj0 : wr.cell? ⟨g, L * 3, none⟩ = some (.int .i64 (h L).p) := hat.cell L hLm 0 (by decide)
          have aj1 : wr.cell? ⟨g, L * 3 + 1, none⟩ = some (.int .i64 (h L).k) := hat.cell L hLm 1 (by decide)
          have aj2 : wr.cell? ⟨g, L * 3 + 2, none⟩ = some (.int .i64 zj) := by rw [← hzj]; exact hat.cell L hLm 2 (by decide)
          have A0 := Lib.hid ai0; have A1 := Lib.hid ai1; have A2 := Lib.hid ai2; have B0 := Lib.hid aj0; have B1 := Lib.hid aj1; have B2 := Lib.hid aj2
          have hbc : Hid (∀ w, Calls Tryz.prog 105 #[.agg #[.int .i64 (h K).p, .int .i64 (h K).k, .int .i64 zi], .agg #[.int .i64 (h L).p, .int .i64 (h L).k, .int .i64 zj]] w fun e w' => e = .returned (.bool (bef (h K) (h L))) ∧ Below w.heap.size w w') := by
            have q := befC (h K) (h L) ⟨zi, hzi⟩ ⟨zj, hzj⟩
            rw [hzi, hzj] at q; exact q
          have YES : Hid (bef (h K) (h L) = true → K = lst m h i (c + 1)) := Lib.hid fun hb => by rw [hstep, if_pos ⟨hKm, hb⟩]
          have NO : Hid (bef (h K) (h L) = false → L = lst m h i (c + 1)) := Lib.hid fun hb => by rw [hstep, if_neg (by rintro ⟨-, e⟩; rw [hb] at e; cases e)]
          clear hat ai0 ai1 ai2 aj0 aj1 aj2 hzi hzj hbl hstep hL hK
          obtain ⟨BB, hBB⟩ : ∃ BB, BB = bef (h K) (h L) := ⟨_, rfl⟩
          rw [← hBB] at hbc YES NO
          have BC := hbc; clear hbc hBB
          generalize (h K).p = pi at *
          generalize (h K).k = ki at *
          generalize (h L).p = pj at *
          generalize (h L).k = kj at *
          cases BB with
          | false =>
            have HE := Lib.hid (NO.out rfl); clear YES NO
            go_wp2_with fail
            refine d_region (by kernel_rfl) (by kernel_rfl) ?_
            repeat
              first
                | (refine d_plain (by with_reducible rfl) ?_; apply Exists.intro; refine ⟨fun wq hc hq => ?_, ?_⟩)
                | (refine d_on (by with_reducible rfl) (by rfl) (by with_reducible rfl) ?_; apply Exists.intro; refine ⟨fun wq hc hq => ?_, ?_⟩)
                | (refine d_off (by with_reducible rfl) (by rfl) (by rfl) ?_)
                | (refine d_void (by with_reducible rfl) (by rfl) ?_)
              try any_goals
                (have q0 := keep (cls hq) C0.out; have a0 := keep (cls hq) A0.out; have a1 := keep (cls hq) A1.out; have a2 := keep (cls hq) A2.out; have b0 := keep (cls hq) B0.out; have b1 := keep (cls hq) B1.out; have b2 := keep (cls hq) B2.out; clear hc
                 go_simp
                 first
                   | rfl
                   | (go_at_call 105; with_reducible exact call_below hq (BC.out _)))
              simp only [Act.put, List.setIfInBounds_toArray, List.set_cons_zero, List.set_cons_succ]
            refine d_nil ?_
            intro w3 hb3
            have B3 := Lib.hid (b_next BI.out hb3)
            clear hb3 kc gd
            go_wp2_with fail
            go_roundw
            case rel => exact ⟨c + 1, by omega, by go_num, by rw [HE.out], B3.out⟩
            case measure => simp [intOf]; omega
          | true =>
            have HE := Lib.hid (YES.out rfl); clear YES NO
            go_wp2_with fail
            refine d_region (by kernel_rfl) (by kernel_rfl) ?_
            repeat
              first
                | (refine d_plain (by with_reducible rfl) ?_; apply Exists.intro; refine ⟨fun wq hc hq => ?_, ?_⟩)
                | (refine d_on (by with_reducible rfl) (by rfl) (by with_reducible rfl) ?_; apply Exists.intro; refine ⟨fun wq hc hq => ?_, ?_⟩)
                | (refine d_off (by with_reducible rfl) (by rfl) (by rfl) ?_)
                | (refine d_void (by with_reducible rfl) (by rfl) ?_)
              try any_goals
                (have q0 := keep (cls hq) C0.out; have a0 := keep (cls hq) A0.out; have a1 := keep (cls hq) A1.out; have a2 := keep (cls hq) A2.out; have b0 := keep (cls hq) B0.out; have b1 := keep (cls hq) B1.out; have b2 := keep (cls hq) B2.out; clear hc
                 go_simp
                 first
                   | rfl
                   | (go_at_call 105; with_reducible exact call_below hq (BC.out _)))
              simp only [Act.put, List.setIfInBounds_toArray, List.set_cons_zero, List.set_cons_succ]
            refine d_nil ?_
            intro w3 hb3
            have B3 := Lib.hid (b_next BI.out hb3)
            clear hb3 kc gd
            go_wp2_with fail
            go_roundw
            case rel => exact ⟨c + 1, by omega, by go_num, by rw [HE.out], B3.out⟩
            case measure => simp [intOf]; omega
        · have hKm' : ¬ (K : Int) < (m : Int) := by omega
          have gd := decide_eq_false hKm'
          have HE : Hid (L = lst m h i (c + 1)) := Lib.hid (by rw [hstep, if_neg (fun e => hKm e.1)])
          clear hstep hL hK hbl
          go_wp2_with fail
          refine d_region (by kernel_rfl) (by kernel_rfl) ?_
          repeat
            first
              | (refine d_plain (by with_reducible rfl) ?_; apply Exists.intro; refine ⟨fun wq hc hq => ?_, ?_⟩)
              | (refine d_on (by with_reducible rfl) (by rfl) (by with_reducible rfl) ?_; apply Exists.intro; refine ⟨fun wq hc hq => ?_, ?_⟩)
              | (refine d_off (by with_reducible rfl) (by rfl) (by rfl) ?_)
              | (refine d_void (by with_reducible rfl) (by rfl) ?_)
            try any_goals
              (have q0 := keep (cls hq) C0.out; clear hc
               go_simp
               first
                 | rfl)
            simp only [Act.put, List.setIfInBounds_toArray, List.set_cons_zero, List.set_cons_succ]
          refine d_nil ?_
          intro w3 hb3
          have B3 := Lib.hid (b_next BI.out hb3)
          clear hb3 kc gd
          go_wp2_with fail
          go_roundw
          case rel => exact ⟨c + 1, by omega, by go_num, by rw [HE.out], B3.out⟩
          case measure => simp [intOf]; omega
      · obtain rfl : c = 2 := by omega
        have el : lst m h i 2 = l2 m h i := rfl
        rw [el]
        have QI := Lib.hid (keepQ' hbl QA.out); have OI := Lib.hid (ownG_keep hbl OA.out); have TI := Lib.hid (t3_keep hbl TA.out); have WI := Lib.hid (b_nextq BA.out QA.out hbl)
        have lc := l2_cases m h i
        obtain ⟨j, hj⟩ : ∃ j, j = l2 m h i := ⟨_, rfl⟩
        rw [← hj] at lc ⊢
        clear el hbl BI
        by_cases hji : j = i
        · subst hji
          have HE : Hid (∀ a, a < m → h a = popF (m + 1) f a) := Lib.hid fun a ha => by rw [← DN.out (by omega), down_no hj.symm]
          have tt : ((j : Int) == (j : Int)) = true := by simp
          have X0 := Lib.hid TI.out
          clear hj lc
          go_wp2_with fail
          refine d_region (by kernel_rfl) (by kernel_rfl) ?_
          repeat
            first
              | (refine d_plain (by with_reducible rfl) ?_; apply Exists.intro; refine ⟨fun wq hc hq => ?_, ?_⟩)
              | (refine d_on (by with_reducible rfl) (by rfl) (by with_reducible rfl) ?_; apply Exists.intro; refine ⟨fun wq hc hq => ?_, ?_⟩)
              | (refine d_off (by with_reducible rfl) (by rfl) (by rfl) ?_)
              | (refine d_void (by with_reducible rfl) (by rfl) ?_)
            try any_goals
              (have q0 := keep (cls hq) X0.out.c0; have q2 := keep (cls hq) X0.out.c2; clear hc
               go_simp
               first
                 | rfl)
            simp only [Act.put, List.setIfInBounds_toArray, List.set_cons_zero, List.set_cons_succ]
          refine d_nil ?_
          intro w3 hb3
          have Q3 := Lib.hid (keepQ' hb3 QI.out); have O3 := Lib.hid (ownG_keep hb3 OI.out); have W3 := Lib.hid (b_nextq WI.out QI.out hb3)
          clear hb3
          go_wp2_with fail
          refine bodyPost_ret (v := .tuple #[.int .i64 p0, .int .i64 z0, .bool true]) (by simp [results, Tryz.results89, go_sem]) rfl ⟨rfl, ?_⟩
          exact ⟨⟨_, Q3.out, ownG_congr O3.out (fun a ha b hb => by unfold cel; rw [HE.out a ha]), fun a ha => by rw [← HE.out a ha]; exact KR.out a ha⟩, W3.out⟩
        · obtain ⟨l1', l2', l3', l4'⟩ := lc.resolve_left hji
          have him : i < m := by omega
          have hij : (i : Int) < (m : Int) := by omega
          have hjm : (j : Int) < (m : Int) := by omega
          have tt : ((j : Int) == (i : Int)) = false := by simp; omega
          have HE : Hid (0 < m → down m (sw h i j) j = popF (m + 1) f) := Lib.hid fun hm => by rw [← DN.out hm, down_yes (n := m) (f := h) (i := i) (by rw [← hj]; exact hji), ← hj]
          obtain ⟨g', gc', e, -, -, -, -, hat⟩ := ownG_row OI.out (show 0 < m by omega)
          injection e with e1 _ e3
          injection e1 with e1
          injection e1 with e1
          subst e1 e3
          obtain ⟨zi, hzi⟩ := KR.out i him
          obtain ⟨zj, hzj⟩ := KR.out j l2'
          have ai0 : wr.cell? ⟨g, i * 3, none⟩ = some (.int .i64 (h i).p) := hat.cell i him 0 (by decide)
          have ai1 : wr.cell? ⟨g, i * 3 + 1, none⟩ = some (.int .i64 (h i).k) := hat.cell i him 1 (by decide)
          have ai2 : wr.cell? ⟨g, i * 3 + 2, none⟩ = some (.int .i64 zi) := by rw [← hzi]; exact hat.cell i him 2 (by decide)
          have aj0 : wr.cell? ⟨g, j * 3, none⟩ = some (.int .i64 (h j).p) := hat.cell j l2' 0 (by decide)
          have aj1 : wr.cell? ⟨g, j * 3 + 1, none⟩ = some (.int .i64 (h j).k) := hat.cell j l2' 1 (by decide)
          have aj2 : wr.cell? ⟨g, j * 3 + 2, none⟩ = some (.int .i64 zj) := by rw [← hzj]; exact hat.cell j l2' 2 (by decide)
          have C0 := Lib.hid QI.out.c0
          have A0 := Lib.hid ai0; have A1 := Lib.hid ai1; have A2 := Lib.hid ai2; have B0 := Lib.hid aj0; have B1 := Lib.hid aj1; have B2 := Lib.hid aj2
          have SWO := Lib.hid fun (w5 : World) (ho : OwnG w5 (q + 1) 176 3 (.slice (some ⟨g, 0, none⟩) m cap) m (cel h)) => swap_own ho him l2' (show i ≠ j by omega)
          have SWK : Hid (∀ a, a < m → KV (sw h i j a).v) := Lib.hid (sw_all KR.out him l2')
          rw [hzi, hzj] at SWO
          clear hat ai0 ai1 ai2 aj0 aj1 aj2 hzi hzj hj lc l3' l4'
          generalize (h i).p = pi at *
          generalize (h i).k = ki at *
          generalize (h j).p = pj at *
          generalize (h j).k = kj at *
          go_wp2_with fail
          refine Tail.tail_region (by kernel_rfl) (by kernel_rfl) ?_
          apply Tail.Gq.p
          · intro wq
            (go_simp; first | exact Tail.pv_value | exact Tail.pv_skip)
          simp only [Act.put, List.setIfInBounds_toArray, List.set_cons_zero, List.set_cons_succ]
          apply Tail.Gq.p
          · intro wq
            (go_simp; first | exact Tail.pv_value | exact Tail.pv_skip)
          simp only [Act.put, List.setIfInBounds_toArray, List.set_cons_zero, List.set_cons_succ]
          apply Tail.Gq.p
          · intro wq
            (go_simp; first | exact Tail.pv_value | exact Tail.pv_skip)
          simp only [Act.put, List.setIfInBounds_toArray, List.set_cons_zero, List.set_cons_succ]
          apply Tail.Gq.r
          · intro wq hc hq
            (have q0 := keep (cls hq) C0.out; have a0 := keep (cls hq) A0.out; have a1 := keep (cls hq) A1.out; have a2 := keep (cls hq) A2.out; have b0 := keep (cls hq) B0.out; have b1 := keep (cls hq) B1.out; have b2 := keep (cls hq) B2.out; clear hc; go_simp; first | exact q2_value | exact q2_skip)
          simp only [Act.put, List.setIfInBounds_toArray, List.set_cons_zero, List.set_cons_succ]
          apply Tail.Gq.p
          · intro wq
            (go_simp; first | exact Tail.pv_value | exact Tail.pv_skip)
          simp only [Act.put, List.setIfInBounds_toArray, List.set_cons_zero, List.set_cons_succ]
          apply Tail.Gq.p
          · intro wq
            (go_simp; first | exact Tail.pv_value | exact Tail.pv_skip)
          simp only [Act.put, List.setIfInBounds_toArray, List.set_cons_zero, List.set_cons_succ]
          apply Tail.Gq.p
          · intro wq
            (go_simp; first | exact Tail.pv_value | exact Tail.pv_skip)
          simp only [Act.put, List.setIfInBounds_toArray, List.set_cons_zero, List.set_cons_succ]
          apply Tail.Gq.p
          · intro wq
            (go_simp; first | exact Tail.pv_value | exact Tail.pv_skip)
          simp only [Act.put, List.setIfInBounds_toArray, List.set_cons_zero, List.set_cons_succ]
          apply Tail.Gq.r
          · intro wq hc hq
            (have q0 := keep (cls hq) C0.out; have a0 := keep (cls hq) A0.out; have a1 := keep (cls hq) A1.out; have a2 := keep (cls hq) A2.out; have b0 := keep (cls hq) B0.out; have b1 := keep (cls hq) B1.out; have b2 := keep (cls hq) B2.out; clear hc; go_simp; first | exact q2_value | exact q2_skip)
          simp only [Act.put, List.setIfInBounds_toArray, List.set_cons_zero, List.set_cons_succ]
          apply Tail.Gq.p
          · intro wq
            (go_simp; first | exact Tail.pv_value | exact Tail.pv_skip)
          simp only [Act.put, List.setIfInBounds_toArray, List.set_cons_zero, List.set_cons_succ]
          apply Tail.Gq.p
          · intro wq
            (go_simp; first | exact Tail.pv_value | exact Tail.pv_skip)
          simp only [Act.put, List.setIfInBounds_toArray, List.set_cons_zero, List.set_cons_succ]
          apply Tail.Gq.p
          · intro wq
            (go_simp; first | exact Tail.pv_value | exact Tail.pv_skip)
          simp only [Act.put, List.setIfInBounds_toArray, List.set_cons_zero, List.set_cons_succ]
          apply Tail.Gq.p
          · intro wq
            (go_simp; first | exact Tail.pv_value | exact Tail.pv_skip)
          simp only [Act.put, List.setIfInBounds_toArray, List.set_cons_zero, List.set_cons_succ]
          apply Tail.Gq.r
          · intro wq hc hq
            (have q0 := keep (cls hq) C0.out; have a0 := keep (cls hq) A0.out; have a1 := keep (cls hq) A1.out; have a2 := keep (cls hq) A2.out; have b0 := keep (cls hq) B0.out; have b1 := keep (cls hq) B1.out; have b2 := keep (cls hq) B2.out; clear hc; go_simp; first | exact q2_value | exact q2_skip)
          simp only [Act.put, List.setIfInBounds_toArray, List.set_cons_zero, List.set_cons_succ]
          apply Tail.Gq.p
          · intro wq
            (go_simp; first | exact Tail.pv_value | exact Tail.pv_skip)
          simp only [Act.put, List.setIfInBounds_toArray, List.set_cons_zero, List.set_cons_succ]
          apply Tail.Gq.p
          · intro wq
            (go_simp; first | exact Tail.pv_value | exact Tail.pv_skip)
          simp only [Act.put, List.setIfInBounds_toArray, List.set_cons_zero, List.set_cons_succ]
          apply Tail.Gq.r
          · intro wq hc hq
            (have q0 := keep (cls hq) C0.out; have a0 := keep (cls hq) A0.out; have a1 := keep (cls hq) A1.out; have a2 := keep (cls hq) A2.out; have b0 := keep (cls hq) B0.out; have b1 := keep (cls hq) B1.out; have b2 := keep (cls hq) B2.out; clear hc; go_simp; first | exact q2_value | exact q2_skip)
          simp only [Act.put, List.setIfInBounds_toArray, List.set_cons_zero, List.set_cons_succ]
          apply Tail.Gq.p
          · intro wq
            (go_simp; first | exact Tail.pv_value | exact Tail.pv_skip)
          simp only [Act.put, List.setIfInBounds_toArray, List.set_cons_zero, List.set_cons_succ]
          apply Tail.Gq.p
          · intro wq
            (go_simp; first | exact Tail.pv_value | exact Tail.pv_skip)
          simp only [Act.put, List.setIfInBounds_toArray, List.set_cons_zero, List.set_cons_succ]
          apply Tail.Gq.p
          · intro wq
            (go_simp; first | exact Tail.pv_value | exact Tail.pv_skip)
          simp only [Act.put, List.setIfInBounds_toArray, List.set_cons_zero, List.set_cons_succ]
          apply Tail.Gq.r
          · intro wq hc hq
            (have q0 := keep (cls hq) C0.out; have a0 := keep (cls hq) A0.out; have a1 := keep (cls hq) A1.out; have a2 := keep (cls hq) A2.out; have b0 := keep (cls hq) B0.out; have b1 := keep (cls hq) B1.out; have b2 := keep (cls hq) B2.out; clear hc; go_simp; first | exact q2_value | exact q2_skip)
          simp only [Act.put, List.setIfInBounds_toArray, List.set_cons_zero, List.set_cons_succ]
          apply Tail.Gq.p
          · intro wq
            (go_simp; first | exact Tail.pv_value | exact Tail.pv_skip)
          simp only [Act.put, List.setIfInBounds_toArray, List.set_cons_zero, List.set_cons_succ]
          apply Tail.Gq.p
          · intro wq
            (go_simp; first | exact Tail.pv_value | exact Tail.pv_skip)
          simp only [Act.put, List.setIfInBounds_toArray, List.set_cons_zero, List.set_cons_succ]
          apply Tail.Gq.r
          · intro wq hc hq
            (have q0 := keep (cls hq) C0.out; have a0 := keep (cls hq) A0.out; have a1 := keep (cls hq) A1.out; have a2 := keep (cls hq) A2.out; have b0 := keep (cls hq) B0.out; have b1 := keep (cls hq) B1.out; have b2 := keep (cls hq) B2.out; clear hc; go_simp; first | exact q2_value | exact q2_skip)
          simp only [Act.put, List.setIfInBounds_toArray, List.set_cons_zero, List.set_cons_succ]
          apply Tail.Gq.p
          · intro wq
            (go_simp; first | exact Tail.pv_value | exact Tail.pv_skip)
          simp only [Act.put, List.setIfInBounds_toArray, List.set_cons_zero, List.set_cons_succ]
          apply Tail.Gq.t
          apply Tail.Gq.p
          · intro wq
            (go_simp; first | exact Tail.pv_value | exact Tail.pv_skip)
          simp only [Act.put, List.setIfInBounds_toArray, List.set_cons_zero, List.set_cons_succ]
          apply Tail.Gq.t
          refine Tail.Gq.nil ⟨by kernel_rfl, fun w4 hb4 => ?_⟩
          simp only [List.reverse_cons, List.reverse_nil, List.nil_append, List.cons_append]
          have Q4 := Lib.hid (keepQ' hb4 QI.out); have O4 := Lib.hid (ownG_keep hb4 OI.out); have T4 := Lib.hid (t3_keep hb4 TI.out); have W4 := Lib.hid (b_nextq WI.out QI.out hb4)
          have FR4 := ownG_free O4.out
          have a0' := keep hb4 A0.out; have a1' := keep hb4 A1.out; have a2' := keep hb4 A2.out; have b0' := keep hb4 B0.out; have b1' := keep hb4 B1.out; have b2' := keep hb4 B2.out
          clear hb4
          go_wp2_with fail
          simp only [Kit.Ends]
          go_wp2_with fail
          go_roundw
          case rel =>
            exact ⟨j, sw h i j, Or.inl l2', by go_num, HE.out, qb_far (qb_far (qb_far (qb_far (qb_far (qb_far Q4.out _ hne1 _) _ hne1 _) _ hne1 _) _ hne1 _) _ hne1 _) _ hne1 _, SWO.out _ O4.out, SWK.out, t3_far (t3_far (t3_far (t3_far (t3_far (t3_far T4.out _ hne3 _) _ hne3 _) _ hne3 _) _ hne3 _) _ hne3 _) _ hne3 _, b_set' (b_set' (b_set' (b_set' (b_set' (b_set' W4.out hgq' _) hgq' _) hgq' _) hgq' _) hgq' _) hgq' _⟩
          case measure => simp [intOf]; omega
end Ki

namespace Ks
/-- What a value of this kind is. -/
def KV (v : Value) : Prop := ∃ z : ByteArray, v = .string z
end Ks
end Heap
end Go.Proofs.YtmkglhoahdlogaaGreatDoor
