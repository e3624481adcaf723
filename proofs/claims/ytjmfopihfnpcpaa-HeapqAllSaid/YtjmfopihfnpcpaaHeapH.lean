/- Peek and All of a queue of numbers; the row of what was yielded. -/
import Derived.Test.YtjmfopihfnpcpaaHeapF
import Derived.Test.YtjmfopihfnpcpaaDraw
namespace Go.Proofs.Ytjmfopihfnpcpaa
open Go.RowKit
namespace Heap
open Kit
namespace Ki
set_option maxRecDepth 100000 in
set_option maxHeartbeats 2000000 in
theorem peekC {q n : Nat} {f : Hp} {nx : Int} {w : World} (h : QS 43 KV w q n f nx) (h0 : 0 < n) :
    Calls Try.prog 10 #[.pointer (some ⟨q, 0, none⟩)] w fun e w' => e = .returned (.tuple #[.int .i64 (f 0).p, (f 0).v, .bool true]) ∧ Below w.heap.size w w' := by
  obtain ⟨v, ⟨c0, -, -, -⟩, ho, hk⟩ := h
  obtain ⟨z, hz⟩ := hk 0 h0
  obtain ⟨g, cap, rfl, -, -, -, -, hat⟩ := ownG_row ho h0
  have a0 : w.cell? ⟨g, 0, none⟩ = some (.int .i64 (f 0).p) := by have := hat.cell 0 h0 0 (by decide); rw [Nat.zero_mul, Nat.zero_add] at this; exact this
  have a2 : w.cell? ⟨g, 2, none⟩ = some (.int .i64 z) := by have := hat.cell 0 h0 2 (by decide); rw [Nat.zero_mul, Nat.zero_add] at this; rw [← hz]; exact this
  rw [hz]
  have h1 : ¬ n = 0 := by omega
  have h2 : (0 : Int) < (n : Int) := by omega
  have h3 : ¬ (n : Int) = 0 := by omega
  have h4 : ((n : Int) == 0) = false := by simpa using h3
  clear hat hk ho hz
  generalize (f 0).p = p at *
  go_enter Try.func10, Try.ntmps10
  go_wp2_with fail
  refine d_region (by kernel_rfl) (by kernel_rfl) ?_
  repeat
    first
      | (refine d_plain (by with_reducible rfl) ?_; apply Exists.intro; refine ⟨fun wq hc hq => ?_, ?_⟩)
      | (refine d_on (by with_reducible rfl) (by rfl) (by with_reducible rfl) ?_; apply Exists.intro; refine ⟨fun wq hc hq => ?_, ?_⟩)
      | (refine d_off (by with_reducible rfl) (by rfl) (by rfl) ?_)
      | (refine d_void (by with_reducible rfl) (by rfl) ?_)
    try any_goals
      (have x0 := keep (cls hq) c0; have x1 := keep (cls hq) a0; have x2 := keep (cls hq) a2; clear hc
       go_simp
       first
         | rfl)
    simp only [Act.put, List.setIfInBounds_toArray, List.set_cons_zero, List.set_cons_succ]
  refine d_nil ?_
  intro w1 hb
  go_wp2_with fail
  refine bodyPost_ret (v := .tuple #[.int .i64 p, .int .i64 z, .bool true]) (by simp [results, Try.results10, go_sem]) rfl ⟨rfl, hb⟩
set_option maxRecDepth 100000 in
theorem allF (q : Nat) (w : World) :
    Calls Try.prog 8 #[.pointer (some ⟨q, 0, none⟩)] w fun e w' => (∃ Bx, e = .returned (.func (.func 16) #[] #[.pointer (some ⟨Bx, 0, none⟩)]) ∧ w'.cell? ⟨Bx, 0, none⟩ = some (.pointer (some ⟨q, 0, none⟩))) ∧ Below w.heap.size w w' := by
  go_enter Try.func8, Try.ntmps8
  go_wp2_with fail
  go_ret
  exact ⟨⟨_, rfl, by simp⟩, b_alloc (Below.refl _ _) _⟩
theorem ownG_kq {N1 : Nat} {A B : World} (hk : ∀ j, N1 ≤ j → j < A.heap.size → B.heap[j]? = A.heap[j]?) {E : TypeId} {C n : Nat} {v : Value} {f : Nat → Nat → Value} (h : OwnG A N1 E C v n f) : OwnG B N1 E C v n f := by
  refine ⟨h.1, ?_⟩
  rcases h.2 with he | ⟨g, cap, cur, hv, hb, hg, h2⟩
  · exact Or.inl he
  · exact Or.inr ⟨g, cap, cur, hv, hb, (hk g hb (Array.getElem?_eq_some_iff.1 hg).1).trans hg, h2⟩
theorem pops_all {P : It → Prop} {n : Nat} {f : Hp} (h : All n P f) : ∀ k, All (n - k) P (pops n f k)
  | 0 => h
  | k + 1 => pop_all (pops_all h k)
/-- A queue that is not empty: where its row lies. -/
theorem qg_of_qs {w : World} {q n : Nat} {f : Hp} {nx : Int} (h : QS 43 KV w q n f nx) (h0 : 0 < n) : ∃ g cap, q < g ∧ g < w.heap.size ∧ QG w q q g cap n f nx := by
  obtain ⟨v, hq, ho, hk⟩ := h
  obtain ⟨g, cap, rfl, h1, h2, -, -, -⟩ := ownG_row ho h0
  refine ⟨g, cap, h1, h2, _, rfl, hq, ⟨ho.1, ?_⟩, hk⟩
  rcases ho.2 with he | ⟨g', cap', cur, hv, hb, hg, h3⟩
  · exact Or.inl he
  · exact Or.inr ⟨g', cap', cur, hv, Nat.le_of_succ_le hb, hg, h3⟩
theorem qs_of_qg {w : World} {q g cap n : Nat} {f : Hp} {nx : Int} (h : QG w q q g cap n f nx) (hg : q < g) : QS 43 KV w q n f nx := by
  obtain ⟨v, rfl, hq, ho, hk⟩ := h
  refine ⟨_, hq, ⟨ho.1, ?_⟩, hk⟩
  rcases ho.2 with ⟨e, -⟩ | ⟨g', cap', cur, hv, hb, hg', h3⟩
  · cases e
  · refine Or.inr ⟨g', cap', cur, hv, ?_, hg', h3⟩
    injection hv with e _ _
    injection e with e
    injection e with e _ _
    omega
theorem qg_same {A B : World} {q g cap n : Nat} {f : Hp} {nx : Int} (hq : B.heap[q]? = A.heap[q]?) (hg : B.heap[g]? = A.heap[g]?) (h : QG A q q g cap n f nx) : QG B q q g cap n f nx := by
  obtain ⟨v, rfl, h1, ho, hK⟩ := h
  refine ⟨_, rfl, ⟨(World.cell?_of_block hq).trans h1.c0, (World.cell?_of_block hq).trans h1.c1, (World.frozen?_of_block hq).trans h1.f0, (World.frozen?_of_block hq).trans h1.f1⟩, ⟨ho.1, ?_⟩, hK⟩
  rcases ho.2 with ⟨e, -⟩ | ⟨g', cap', cur, hv, hb, hg', h2⟩
  · cases e
  · refine Or.inr ⟨g', cap', cur, hv, hb, ?_, h2⟩
    injection hv with e _ _
    injection e with e
    injection e with e _ _
    subst e
    exact hg.trans hg'
/-- What is seen, cell by cell. -/
def sq (n : Nat) (f : Hp) : Nat → Nat → Value := fun i _ => if i % 2 = 0 then .int .i64 (pops n f (i / 2) 0).p else (pops n f (i / 2) 0).v
theorem sq_even (n : Nat) (f : Hp) (k j : Nat) : sq n f (2 * k) j = .int .i64 (pops n f k 0).p := by
  unfold sq; rw [if_pos (by omega), show 2 * k / 2 = k by omega]
theorem sq_odd (n : Nat) (f : Hp) (k j : Nat) : sq n f (2 * k + 1) j = (pops n f k 0).v := by
  unfold sq; rw [if_neg (by omega), show (2 * k + 1) / 2 = k by omega]
theorem sq_two (n : Nat) (f : Hp) (k : Nat) : rowG 1 (sq n f) (2 * k) ++ [.int .i64 (pops n f k 0).p, (pops n f k 0).v] = rowG 1 (sq n f) (2 * (k + 1)) := by
  rw [show 2 * (k + 1) = 2 * k + 1 + 1 from rfl]
  simp only [rowG]
  rw [show (List.range 1) = [0] from rfl, List.append_assoc]
  simp only [List.map_cons, List.map_nil, sq_even, sq_odd]
  rfl
end Ki
end Heap
end Go.Proofs.Ytjmfopihfnpcpaa
