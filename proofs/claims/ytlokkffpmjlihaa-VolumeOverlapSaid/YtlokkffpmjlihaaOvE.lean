/- The walk of polygon.enters. -/
import Derived.Test.YtlokkffpmjlihaaOvF
import Derived.Test.YtlokkffpmjlihaaOvS
import Derived.Test.YtlokkffpmjlihaaFreshU
namespace Go.Proofs.Ytlokkffpmjlihaa
open Go.RowKit
namespace Over
open Kit Plane Poly Vol
/-- The cuts of edge i that the first k vertices of q make. -/
def CutK (n : Nat) (X Y U V : Nat → Int) (i k : Nat) (cx cy : Int) : Prop :=
  (cx = X i ∧ cy = Y i) ∨ (cx = X (nx n i) ∧ cy = Y (nx n i)) ∨ ∃ j, j < k ∧ cx = U j ∧ cy = V j ∧ onB (X i) (Y i) (X (nx n i)) (Y (nx n i)) cx cy = true
def MemA (d : Array Pt) (cx cy : Int) : Prop := ∃ j, j < d.size ∧ cx = d[j]!.x ∧ cy = d[j]!.y
structure Gath (n : Nat) (X Y U V : Nat → Int) (i k : Nat) (d : Array Pt) : Prop where
  two : 2 ≤ d.size
  most : d.size ≤ k + 2
  mem : ∀ cx cy, CutK n X Y U V i k cx cy ↔ MemA d cx cy
section
variable {n : Nat} {X Y U V : Nat → Int} {i k : Nat} {d : Array Pt}
theorem gath_start (h0 : P2M (X i) (Y i)) (h1 : P2M (X (nx n i)) (Y (nx n i))) : Gath n X Y U V i 0 #[⟨X i, Y i, h0⟩, ⟨X (nx n i), Y (nx n i), h1⟩] := by
  refine ⟨Nat.le_refl _, Nat.le_refl _, fun cx cy => ⟨?_, ?_⟩⟩
  · rintro (⟨rfl, rfl⟩ | ⟨rfl, rfl⟩ | ⟨j, hj, -⟩)
    · exact ⟨0, Nat.zero_lt_two, rfl, rfl⟩
    · exact ⟨1, Nat.one_lt_two, rfl, rfl⟩
    · omega
  · rintro ⟨j, hj, rfl, rfl⟩
    have hj2 : j < 2 := hj
    rcases (show j = 0 ∨ j = 1 by omega) with rfl | rfl
    · exact Or.inl ⟨rfl, rfl⟩
    · exact Or.inr (Or.inl ⟨rfl, rfl⟩)
theorem gath_off (h : Gath n X Y U V i k d) (ho : onB (X i) (Y i) (X (nx n i)) (Y (nx n i)) (U k) (V k) = false) : Gath n X Y U V i (k + 1) d := by
  refine ⟨h.two, by have := h.most; omega, fun cx cy => ?_⟩
  rw [← h.mem]
  constructor
  · rintro (h | h | ⟨j, hj, rfl, rfl, h⟩)
    · exact Or.inl h
    · exact Or.inr (Or.inl h)
    · rcases Nat.lt_or_ge j k with hl | hl
      · exact Or.inr (Or.inr ⟨j, hl, rfl, rfl, h⟩)
      · rw [show j = k from by omega, ho] at h; cases h
  · rintro (h | h | ⟨j, hj, rfl, rfl, h⟩)
    · exact Or.inl h
    · exact Or.inr (Or.inl h)
    · exact Or.inr (Or.inr ⟨j, by omega, rfl, rfl, h⟩)
theorem push_old {p : Pt} {j : Nat} (h : j < d.size) : (d.push p)[j]! = d[j]! := by
  rw [getElem!_pos (d.push p) j (by rw [Array.size_push]; omega), getElem!_pos d j h, Array.getElem_push_lt h]
theorem push_last {p : Pt} : (d.push p)[d.size]! = p := by
  rw [getElem!_pos (d.push p) d.size (by rw [Array.size_push]; omega), Array.getElem_push_eq]
theorem gath_on (h : Gath n X Y U V i k d) (ho : onB (X i) (Y i) (X (nx n i)) (Y (nx n i)) (U k) (V k) = true) (hp : P2M (U k) (V k)) : Gath n X Y U V i (k + 1) (d.push ⟨U k, V k, hp⟩) := by
  refine ⟨by rw [Array.size_push]; have := h.two; omega, by rw [Array.size_push]; have := h.most; omega, fun cx cy => ⟨?_, ?_⟩⟩
  · intro hc
    have old : MemA d cx cy → MemA (d.push ⟨U k, V k, hp⟩) cx cy := fun ⟨j, hj, e1, e2⟩ => ⟨j, by rw [Array.size_push]; omega, by rw [push_old hj]; exact e1, by rw [push_old hj]; exact e2⟩
    rcases hc with hc | hc | ⟨j, hj, rfl, rfl, hc⟩
    · exact old ((h.mem _ _).1 (Or.inl hc))
    · exact old ((h.mem _ _).1 (Or.inr (Or.inl hc)))
    · rcases Nat.lt_or_ge j k with hl | hl
      · exact old ((h.mem _ _).1 (Or.inr (Or.inr ⟨j, hl, rfl, rfl, hc⟩)))
      · obtain rfl : j = k := by omega
        exact ⟨d.size, by rw [Array.size_push]; omega, by rw [push_last], by rw [push_last]⟩
  · rintro ⟨j, hj, rfl, rfl⟩
    rw [Array.size_push] at hj
    rcases Nat.lt_or_ge j d.size with hl | hl
    · rw [push_old hl]
      rcases (h.mem _ _).2 ⟨j, hl, rfl, rfl⟩ with hc | hc | ⟨t, ht, hc⟩
      · exact Or.inl hc
      · exact Or.inr (Or.inl hc)
      · exact Or.inr (Or.inr ⟨t, by omega, hc⟩)
    · obtain rfl : j = d.size := by omega
      rw [push_last]
      exact Or.inr (Or.inr ⟨k, by omega, rfl, rfl, ho⟩)
theorem gath_end {m : Nat} (h : Gath n X Y U V i m d) (cx cy : Int) : Cut n X Y m U V i cx cy ↔ MemA d cx cy := h.mem cx cy
theorem mem_perm {d d' : Array Pt} (h : d'.toList.Perm d.toList) {cx cy : Int} : MemA d cx cy ↔ MemA d' cx cy := by
  have key : ∀ a : Array Pt, MemA a cx cy ↔ ∃ p, p ∈ a.toList ∧ cx = p.x ∧ cy = p.y := fun a => by
    constructor
    · rintro ⟨j, hj, e⟩
      rw [getElem!_pos a j hj] at e
      exact ⟨a[j], by rw [Array.mem_toList_iff]; exact Array.getElem_mem hj, e⟩
    · rintro ⟨p, hp, e⟩
      rw [Array.mem_toList_iff] at hp
      obtain ⟨j, hj, rfl⟩ := Array.mem_iff_getElem.1 hp
      exact ⟨j, hj, by rw [getElem!_pos a j hj]; exact e⟩
  rw [key, key]
  constructor
  · rintro ⟨p, hp, e⟩; exact ⟨p, h.mem_iff.2 hp, e⟩
  · rintro ⟨p, hp, e⟩; exact ⟨p, h.mem_iff.1 hp, e⟩
theorem rowsP_push {p : Pt} : rowL 2 (rowsP (d.push p)) (d.size + 1) = rowL 2 (rowsP d) d.size ++ [.int .i64 p.x, .int .i64 p.y] := by
  have e := rowL_congr (C := 2) (f := rowsP (d.push p)) (g := rowsP d) (n := d.size) (fun i hi j _ => by unfold rowsP; rw [push_old hi])
  rw [rowL, e]
  show _ ++ [Value.int .i64 (d.push p)[d.size]!.x, Value.int .i64 (d.push p)[d.size]!.y] = _
  rw [push_last]
end
theorem two_no {α : Type} {p q : Prop} [Decidable p] [Decidable q] {a b : α} (h : ¬ (p ∧ q)) : (if p then if q then a else b else b) = b := by
  by_cases hp : p
  · rw [if_pos hp, if_neg (fun hq => h ⟨hp, hq⟩)]
  · rw [if_neg hp]
/-- A neighbouring pair of cuts is two points, and their midpoint goes. -/
def AdjP (n : Nat) (X Y : Nat → Int) (m : Nat) (U V : Nat → Int) (i : Nat) (CX CY : Nat → Int) (k : Nat) : Prop := ¬ (CX (k + 1) = CX k ∧ CY (k + 1) = CY k) ∧ Goes n X Y m U V i ((CX (k + 1) + CX k) / 2) ((CY (k + 1) + CY k) / 2)
/-- What the last loop asks of edge j. -/
def LastP (n : Nat) (X Y : Nat → Int) (m : Nat) (U V : Nat → Int) (i : Nat) (mx my : Int) (j : Nat) : Prop := onB (U j) (V j) (U (nx m j)) (V (nx m j)) mx my = true ∧ 0 < (X (nx n i) - X i) * (U (nx m j) - U j) + (Y (nx n i) - Y i) * (V (nx m j) - V j)
abbrev SbC (ax ay bx by' : Int) : Prop := ∀ w, Calls Try.prog 113 #[.agg #[.int .i64 ax, .int .i64 ay], .agg #[.int .i64 bx, .int .i64 by']] w fun e w' => e = .returned (.agg #[.int .i64 (ax - bx), .int .i64 (ay - by')]) ∧ Below w.heap.size w w'
abbrev DtC (ax ay bx by' d : Int) : Prop := ∀ w, Calls Try.prog 112 #[.agg #[.int .i64 ax, .int .i64 ay], .agg #[.int .i64 bx, .int .i64 by']] w fun e w' => e = .returned (.int .i64 d) ∧ Below w.heap.size w w'
theorem sb_of {ax ay bx by' : Int} (ha : P2M ax ay) (hb : P2M bx by') : SbC ax ay bx by' := fun w => by
  have c := sub_g ax ay bx by' w
  unfold P2M at ha hb
  rw [show wrap64 (ax - bx) = ax - bx from (by unfold wrap64; omega), show wrap64 (ay - by') = ay - by' from (by unfold wrap64; omega)] at c
  exact c.mono fun e w' h => ⟨h.1, gr_below h.2⟩
theorem mul_bd {a b : Int} (ha : -4000000 ≤ a ∧ a ≤ 4000000) (hb : -4000000 ≤ b ∧ b ≤ 4000000) : -16000000000000 ≤ a * b ∧ a * b ≤ 16000000000000 := by
  have h1 : 0 ≤ (4000000 - a) * (4000000 + b) := Int.mul_nonneg (by omega) (by omega)
  have h2 : 0 ≤ (4000000 + a) * (4000000 - b) := Int.mul_nonneg (by omega) (by omega)
  have h3 : 0 ≤ (4000000 - a) * (4000000 - b) := Int.mul_nonneg (by omega) (by omega)
  have h4 : 0 ≤ (4000000 + a) * (4000000 + b) := Int.mul_nonneg (by omega) (by omega)
  constructor <;> grind
theorem dt_of {ax ay bx by' : Int} (h : (-4000000 ≤ ax ∧ ax ≤ 4000000) ∧ (-4000000 ≤ ay ∧ ay ≤ 4000000) ∧ (-4000000 ≤ bx ∧ bx ≤ 4000000) ∧ (-4000000 ≤ by' ∧ by' ≤ 4000000)) : DtC ax ay bx by' (ax * bx + ay * by') := fun w => by
  have c := dot_g ax ay bx by' w
  have h1 := mul_bd h.1 h.2.2.1; have h2 := mul_bd h.2.1 h.2.2.2
  rw [show wrap64 (ax * bx) = ax * bx from (by unfold wrap64; omega), show wrap64 (ay * by') = ay * by' from (by unfold wrap64; omega), show wrap64 (ax * bx + ay * by') = ax * bx + ay * by' from (by unfold wrap64; omega)] at c
  exact c.mono fun e w' h => ⟨h.1, gr_below h.2⟩
theorem p2_grown {w w1 : World} {v : Value} {b : Nat} {x y : Int} (hg : w.grownBy w1 v.ownBlock) (h : P2 w b x y) (hne : ∀ k, v.ownBlock = some k → b < k) : P2 w1 b x y := by
  have e : w1.heap[b]? = w.heap[b]? := hg.block b (lt_of_cell h.1) (fun e => by have := hne b e.symm; omega)
  exact ⟨(World.cell?_of_block (a := ⟨b, 0, none⟩) e).trans h.1, (World.cell?_of_block (a := ⟨b, 1, none⟩) e).trans h.2⟩
set_option maxRecDepth 100000 in
set_option maxHeartbeats 16000000 in
theorem enters_w (n c b off m d b' off' : Nat) (X Y U V : Nat → Int) (B : Bool) (w : World) (h0 : 0 < n) (h1 : 0 < m) (_hn : n ≤ 16) (hm : m ≤ 16) (hc : n ≤ c) (hd : m ≤ d) (hc9 : c ≤ 9223372036854775807) (hd9 : d ≤ 9223372036854775807)
    (HP : Hid (∀ k, k < n → E2 w b off k (X k) (Y k))) (HQ : Hid (∀ k, k < m → E2 w b' off' k (U k) (V k)))
    (NPC : Hid (∀ k, k < n → NxC (.slice (some ⟨b, off, none⟩) n c) n X Y k w)) (NQC : Hid (∀ k, k < m → NxC (.slice (some ⟨b', off', none⟩) m d) m U V k w))
    (GP : Hid (∀ k, k < n → P2M (X k) (Y k))) (GQ : Hid (∀ k, k < m → P2M (U k) (V k)))
    (EP : Hid (∀ k, k < n → X k % 2 = 0 ∧ Y k % 2 = 0)) (EQ : Hid (∀ k, k < m → U k % 2 = 0 ∧ V k % 2 = 0))
    (ND : Hid (∀ i, i < n → ¬ (X i = X (nx n i) ∧ Y i = Y (nx n i))))
    (PLC : Hid (∀ mx my w1, P2M mx my → Below w.heap.size w w1 → Calls Try.prog 67 #[.slice (some ⟨b', off', none⟩) m d, .agg #[.int .i64 mx, .int .i64 my]] w1 fun e w' => e = .returned (.int .i64 (place m U V mx my)) ∧ Below w1.heap.size w1 w'))
    (HR : Hid (B = true ↔ EntP n X Y m U V)) :
    Calls Try.prog 71 #[.slice (some ⟨b, off, none⟩) n c, .slice (some ⟨b', off', none⟩) m d] w fun e w' => e = .returned (.bool B) ∧ Below w.heap.size w w' := by
  obtain ⟨i0, hi', hz0, hz1, hz2⟩ := info_parts info_p
  have I := Lib.hid (And.intro hi' (And.intro hz0 (And.intro hz1 hz2))); clear hi' hz0 hz1 hz2
  have hmf : ∀ fn first cap w, (Instr.makeFunc fn first cap).run Try.prog w = .ok (.func fn first cap) w := fun _ _ _ _ => rfl
  go_enter Try.func71, Try.ntmps71
  go_wp2_with fail
  go_loopw [18] (fun s wr => ∃ i : Nat, i ≤ n ∧ s = .int .i64 i ∧ (∀ e, e < i → ¬ EntI n X Y m U V e) ∧ Below w.heap.size w wr) (fun s _ => n - (intOf s).toNat)
  case atStart => exact ⟨0, Nat.zero_le _, rfl, fun e he => absurd he (Nat.not_lt_zero e), Below.refl _ _⟩
  case round =>
    obtain ⟨i, hi, rfl, hno, hbl⟩ := hrel
    have HN := Lib.hid hno; clear hno
    by_cases hlt : i < n
    · have hl : (i : Int) < (n : Int) := by omega
      obtain ⟨wa, hwa⟩ : ∃ wa : World, wa = wr := ⟨_, rfl⟩
      subst hwa
      have WA := Lib.hid hbl; clear hbl
      have ea := e2_keep WA.out (HP.out i hlt)
      have C0 := Lib.hid ea.1; have C1 := Lib.hid ea.2; clear ea
      have NN := Lib.hid (NPC.out i hlt)
      have g1 := GP.out i hlt; have g2 := GP.out _ (nx_lt (i := i) h0)
      have G1 := Lib.hid g1; have G2 := Lib.hid g2; clear g1 g2
      go_wp2_with fail
      refine fresh_region (by kernel_rfl) (by kernel_rfl) ?_
      apply Fq.r
      · intro wq hc hq
        (have q0 := keep hq C0.out; have q1 := keep hq C1.out; clear hc; go_simp; first | exact q2_value | exact q2_skip | (apply q2_enter; go_at_call 69; with_reducible exact NN.out _ (b_next WA.out (cls hq))))
      simp only [Act.put, List.setIfInBounds_toArray, List.set_cons_zero, List.set_cons_succ]
      apply Fq.r
      · intro wq hc hq
        (have q0 := keep hq C0.out; have q1 := keep hq C1.out; clear hc; go_simp; first | exact q2_value | exact q2_skip | (apply q2_enter; go_at_call 69; with_reducible exact NN.out _ (b_next WA.out (cls hq))))
      simp only [Act.put, List.setIfInBounds_toArray, List.set_cons_zero, List.set_cons_succ]
      apply Fq.r
      · intro wq hc hq
        (have q0 := keep hq C0.out; have q1 := keep hq C1.out; clear hc; go_simp; first | exact q2_value | exact q2_skip | (apply q2_enter; go_at_call 69; with_reducible exact NN.out _ (b_next WA.out (cls hq))))
      simp only [Act.put, List.setIfInBounds_toArray, List.set_cons_zero, List.set_cons_succ]
      apply Fq.r
      · intro wq hc hq
        (have q0 := keep hq C0.out; have q1 := keep hq C1.out; clear hc; go_simp; first | exact q2_value | exact q2_skip | (apply q2_enter; go_at_call 69; with_reducible exact NN.out _ (b_next WA.out (cls hq))))
      simp only [Act.put, List.setIfInBounds_toArray, List.set_cons_zero, List.set_cons_succ]
      apply Fq.r
      · intro wq hc hq
        (have q0 := keep hq C0.out; have q1 := keep hq C1.out; clear hc; go_simp; first | exact q2_value | exact q2_skip | (apply q2_enter; go_at_call 69; with_reducible exact NN.out _ (b_next WA.out (cls hq))))
      simp only [Act.put, List.setIfInBounds_toArray, List.set_cons_zero, List.set_cons_succ]
      apply Fq.r
      · intro wq hc hq
        (have q0 := keep hq C0.out; have q1 := keep hq C1.out; clear hc; go_simp; first | exact q2_value | exact q2_skip | (apply q2_enter; go_at_call 69; with_reducible exact NN.out _ (b_next WA.out (cls hq))))
      simp only [Act.put, List.setIfInBounds_toArray, List.set_cons_zero, List.set_cons_succ]
      apply Fq.r
      · intro wq hc hq
        (have q0 := keep hq C0.out; have q1 := keep hq C1.out; clear hc; go_simp; first | exact q2_value | exact q2_skip | (apply q2_enter; go_at_call 69; with_reducible exact NN.out _ (b_next WA.out (cls hq))))
      simp only [Act.put, List.setIfInBounds_toArray, List.set_cons_zero, List.set_cons_succ]
      refine Fq.al 6 34 #[.int .i64 0, .int .i64 0] rfl (by simp) (fun wq => by go_simp) ?_
      refine Fq.al 7 34 #[.int .i64 0, .int .i64 0] rfl (by simp) (fun wq => by go_simp) ?_
      refine Fq.st 7 #[.int .i64 (X i), .int .i64 (Y i)] 6 34 #[.int .i64 0, .int .i64 0] rfl rfl (fun wq bq hq => ⟨((wq.setCell ⟨bq, 0, none⟩ (.int .i64 (X i))).setCell ⟨bq, 1, none⟩ (.int .i64 (Y i))), ?_, blk_set (blk_set (hq) 0 (.int .i64 (X i))) 1 (.int .i64 (Y i)), only_set (only_set (only_refl _ _) 0 (.int .i64 (X i))) 1 (.int .i64 (Y i))⟩) ?_
      · (have c0 : wq.cell? ⟨bq, 0, none⟩ = some (.int .i64 0) := blk_cell hq 0; have f0 := blk_free hq 0; have c1 : wq.cell? ⟨bq, 1, none⟩ = some (.int .i64 0) := blk_cell hq 1; have f1 := blk_free hq 1; simp only [Act.put, List.setIfInBounds_toArray, List.set_cons_zero, List.set_cons_succ]; clear hq; go_simp)
      refine Fq.st 8 #[.int .i64 (X (nx n i)), .int .i64 (Y (nx n i))] 7 34 #[.int .i64 0, .int .i64 0] rfl rfl (fun wq bq hq => ⟨((wq.setCell ⟨bq, 0, none⟩ (.int .i64 (X (nx n i)))).setCell ⟨bq, 1, none⟩ (.int .i64 (Y (nx n i)))), ?_, blk_set (blk_set (hq) 0 (.int .i64 (X (nx n i)))) 1 (.int .i64 (Y (nx n i))), only_set (only_set (only_refl _ _) 0 (.int .i64 (X (nx n i)))) 1 (.int .i64 (Y (nx n i)))⟩) ?_
      · (have c0 : wq.cell? ⟨bq, 0, none⟩ = some (.int .i64 0) := blk_cell hq 0; have f0 := blk_free hq 0; have c1 : wq.cell? ⟨bq, 1, none⟩ = some (.int .i64 0) := blk_cell hq 1; have f1 := blk_free hq 1; simp only [Act.put, List.setIfInBounds_toArray, List.set_cons_zero, List.set_cons_succ]; clear hq; go_simp)
      refine Fq.nil ⟨by kernel_rfl, fun β w1 M => ?_⟩
      simp only [List.reverse_cons, List.reverse_nil, List.nil_append, List.cons_append, putAl, Act.put, List.setIfInBounds_toArray, List.set_cons_zero, List.set_cons_succ, Nat.reduceAdd]
      have z7 := blk_b2 (M.block 9 7 _ _ _ _ rfl rfl)
      have l7 := M.fresh 7 _ _ _ rfl
      have z8 := blk_b2 (M.block 10 8 _ _ _ _ rfl rfl)
      have l8 := M.fresh 8 _ _ _ rfl
      have m7_8 := made_ne M 7 8 rfl rfl (by decide)
      have hbw1 := M.below
      clear M
      generalize β 7 = p7 at *
      generalize β 8 = p8 at *
      have PA1 := Lib.hid z7.1; have PB1 := Lib.hid z8.1; have W1 := Lib.hid (b_next WA.out hbw1); have L7 := Lib.hid l7; have L8 := Lib.hid l8
      clear z7 z8 l7 l8 m7_8 hbw1 C0 C1 NN WA
      obtain ⟨a0, a1⟩ := PA1.out; obtain ⟨b0, b1⟩ := PB1.out
      go_wp2_with fail
      have O0 : Hid (Own (w1.alloc (.cells #[.int .i64 (X i), .int .i64 (Y i), .int .i64 (X (nx n i)), .int .i64 (Y (nx n i))] 34)) w1.heap.size 34 2 (.slice (some ⟨w1.heap.size, 0, none⟩) 2 2) 2 (rowsP #[⟨X i, Y i, G1.out⟩, ⟨X (nx n i), Y (nx n i), G2.out⟩])) := Lib.hid (own_made _ (Nat.le_refl _) (by decide) rfl)
      have GS := Lib.hid (gath_start (U := U) (V := V) G1.out G2.out)
      have hlp : p7 < w1.heap.size ∧ p8 < w1.heap.size := ⟨lt_of_cell a0, lt_of_cell b0⟩
      have HLP := Lib.hid hlp; clear hlp a0 a1 b0 b1
      go_loopw [33, 8] (fun s q wr => ∃ k, ∃ D : Array Pt, k ≤ m ∧ s = .int .i64 (k : Nat) ∧ Gath n X Y U V i k D ∧ Own wr w1.heap.size 34 2 q D.size (rowsP D) ∧ Below w1.heap.size w1 wr) (fun s _ _ => m - (intOf s).toNat)
      case atStart => exact ⟨0, _, Nat.zero_le _, rfl, GS.out, O0.out, b_alloc (Below.refl _ _) _⟩
      case round =>
        obtain ⟨k, D, hk, rfl, hg, ho, hbl⟩ := hrel
        have GT := Lib.hid hg; have HO := Lib.hid ho; have WB := Lib.hid hbl
        obtain ⟨A, c2, rfl, hmc, hcm⟩ := own_slice ho
        have hcm2 : c2 ≤ 9223372036854775807 := Nat.le_trans hcm (by decide)
        have hge := own_ge ho
        have HGE := Lib.hid hge; clear hge
        have hsz : D.size ≤ 18 := by have := hg.most; omega
        have PA2 := Lib.hid (p2_keep hbl PA1.out); have PB2 := Lib.hid (p2_keep hbl PB1.out)
        clear ho hg hcm
        by_cases hlk : k < m
        · have hl2 : (k : Int) < (m : Int) := by omega
          obtain ⟨c0, c1⟩ := e2_keep (b_next W1.out hbl) (HQ.out k hlk)
          obtain ⟨a0, a1⟩ := PA2.out; obtain ⟨b0, b1⟩ := PB2.out
          have na := new_ne a0; have nb := new_ne b0
          clear hbl
          have gu := GQ.out k hlk
          have GU := Lib.hid gu
          have P10 := Lib.hid (p2_new wr 34 (U k) (V k))
          have al := b_alloc (Below.refl wr.heap.size wr) (.cells #[.int .i64 (U k), .int .i64 (V k)] 34)
          have O1 := Lib.hid (own_keep al HO.out); have B1 := Lib.hid (b_next WB.out al)
          have OO : Hid (OnC (X i) (Y i) (X (nx n i)) (Y (nx n i)) (U k) (V k) (onB (X i) (Y i) (X (nx n i)) (Y (nx n i)) (U k) (V k))) := Lib.hid fun w => onC _ _ _ _ _ _ w (by have := G1.out; have := G2.out; unfold P2M at *; omega)
          obtain ⟨v, hv⟩ : ∃ v, v = onB (X i) (Y i) (X (nx n i)) (Y (nx n i)) (U k) (V k) := ⟨_, rfl⟩
          rw [← hv] at OO
          have HV := Lib.hid hv; clear hv al gu
          go_wp2_with fail
          (with_reducible refine (OO.out _).mono ?_); rintro e w3 ⟨rfl, hb⟩
          have O3 := Lib.hid (own_keep hb O1.out); have B3 := Lib.hid (b_next B1.out hb); have P3 := Lib.hid (p2_keep hb P10.out); clear hb a0 a1 b0 b1 c0 c1 na nb
          cases v with
          | true =>
            have al2 := b_alloc (Below.refl w3.heap.size w3) (.cells #[.int .i64 (U k), .int .i64 (V k)] 34)
            have O4 := Lib.hid (own_keep al2 O3.out); have B4 := Lib.hid (b_next B3.out al2)
            have HN2 := Lib.hid (new2 w3 34 (U k) (V k))
            have hgs : w1.heap.size ≤ (w3.alloc (.cells #[.int .i64 (U k), .int .i64 (V k)] 34)).heap.size := B4.out.size
            obtain ⟨x0, x1⟩ := P3.out
            clear al2
            go_wp2_with (at_builtin; refine wpList_append_own_at _ rfl (.tmp 41) (.tmp 43) 45 rfl w1.heap.size 34 i0 _ 2 16 Try.underlying45 I.out.1 I.out.2.1 I.out.2.2.1 I.out.2.2.2 rfl (by decide) _ D.size _ rfl O4.out ⟨w3.heap.size, 0, none⟩ 1 1 [.int .i64 (U k), .int .i64 (V k)] rfl rfl HN2.out new2_one (by unfold maxLen; omega) (by omega) hgs ?_; intro v2 w7 hown1 hg1 hnil1 hat1)
            refine ⟨⟨k + 1, D.push ⟨U k, V k, GU.out⟩, by omega, by go_num, gath_on GT.out HV.out.symm GU.out, ?_, grow_below B4.out O4.out hg1 (Nat.le_refl _) B4.out.size⟩, by simp [intOf]; omega⟩
            show w7.ownsRow w1.heap.size 34 2 v2 (D.push ⟨U k, V k, GU.out⟩).size (rowL 2 (rowsP (D.push ⟨U k, V k, GU.out⟩)) (D.push ⟨U k, V k, GU.out⟩).size)
            rw [Array.size_push, rowsP_push]
            exact hown1
          | false =>
            go_wp2_with fail
            exact ⟨⟨k + 1, D, by omega, by go_num, gath_off GT.out HV.out.symm, O3.out, B3.out⟩, by simp [intOf]; omega⟩
        · have hkm : k = m := by omega
          have hl2 : ¬ (k : Int) < (m : Int) := by omega
          subst hkm
          obtain ⟨g, cap, hee, hu1, hu2, hsc, hcap, hrow⟩ := own_row HO.out (by have := GT.out.two; omega)
          injection hee with e1 e2 e3
          subst e1 e3
          have RO := Lib.hid hrow; clear hrow
          have hpg : p7 ≠ g ∧ p8 ≠ g := by have := HLP.out; omega
          have SRT := Lib.hid (sortP g c2 p7 (X i) (Y i) D wr G1.out PA2.out hpg.1 RO.out hu2 (by omega))
          have HU := Lib.hid (And.intro hu1 (And.intro hpg.1 hpg.2))
          have hD2 := GT.out.two
          clear hbl hu1 hu2 hsc hcap hcm2 hpg
          go_wp2_with fail
          (with_reducible refine SRT.out.mono ?_); rintro e w6 ⟨rfl, D', hsd, hpm, hst, hgr, he2⟩
          have W6 := Lib.hid (b_next W1.out (WB.out.grown hgr WB.out.size (fun q hq => by injection hq with hq; rw [← hq]; exact HU.out.1)))
          have PA := Lib.hid (And.intro (cell_other hgr PA2.out.1 HU.out.2.1) (cell_other hgr PA2.out.2 HU.out.2.1)); have PB := Lib.hid (And.intro (cell_other hgr PB2.out.1 HU.out.2.2) (cell_other hgr PB2.out.2 HU.out.2.2))
          obtain ⟨CX, hCX⟩ : ∃ CX : Nat → Int, CX = fun i => D'[i]!.x := ⟨_, rfl⟩
          obtain ⟨CY, hCY⟩ : ∃ CY : Nat → Int, CY = fun i => D'[i]!.y := ⟨_, rfl⟩
          obtain ⟨s, hs⟩ : ∃ s, s = D'.size := ⟨_, rfl⟩
          have AD : Hid (EntI n X Y k U V i ↔ ∃ t, t + 1 < s ∧ AdjP n X Y k U V i CX CY t) := Lib.hid (by
            subst hCX hCY hs
            exact adj_iff (ND.out i hlt) (fun cx cy => (gath_end GT.out cx cy).trans ((mem_perm hpm).trans (by unfold MemA; exact Iff.rfl))) hst)
          have EC : Hid (∀ t, t < s → E2 w6 g 0 t (CX t) (CY t)) := Lib.hid (by subst hCX hCY hs; exact he2)
          have PC : Hid (∀ t, t < s → P2M (CX t) (CY t)) := Lib.hid (by subst hCX hCY hs; exact fun t _ => D'[t]!.ok)
          have EV : Hid (∀ t, t < s → CX t % 2 = 0 ∧ CY t % 2 = 0) := Lib.hid (by
            intro t ht
            have hmem : Cut n X Y k U V i (CX t) (CY t) := (gath_end GT.out _ _).2 ((mem_perm hpm).2 ⟨t, by omega, by rw [hCX], by rw [hCY]⟩)
            rcases hmem with ⟨e1, e2⟩ | ⟨e1, e2⟩ | ⟨j, hj, e1, e2, -⟩
            · rw [e1, e2]; exact EP.out i hlt
            · rw [e1, e2]; exact EP.out _ (nx_lt h0)
            · rw [e1, e2]; exact EQ.out j hj)
          have hss : s = D.size := by omega
          rw [← hss] at hD2 hmc hsz ⊢
          clear hCX hCY hs hst hgr he2 hpm hsd hss SRT RO HU PA2 PB2 PA1 PB1 GT HO WB O0 GS HGE HLP L7 L8
          go_wp2_with fail
          go_loopw [11] (fun q wr => ∃ t : Nat, 1 ≤ t ∧ t ≤ s ∧ q = .int .i64 t ∧ (∀ e, e + 1 < t → ¬ AdjP n X Y k U V i CX CY e) ∧ Below w6.heap.size w6 wr) (fun q _ => s - (intOf q).toNat)
          case atStart => exact ⟨1, Nat.le_refl _, by omega, rfl, fun e he => absurd he (by omega), Below.refl _ _⟩
          case round =>
            obtain ⟨t, ht1, hts, rfl, hadj, hbl⟩ := hrel
            have NA := Lib.hid hadj; have W7 := Lib.hid hbl; clear hadj hbl
            by_cases hlt2 : t < s
            · have hl3 : (t : Int) < (s : Int) := by omega
              obtain ⟨j, hj⟩ : ∃ j, t = j + 1 := ⟨t - 1, by omega⟩
              have u0 : (j : Int) < (s : Int) := by omega
              have u1 : IntKind.i64.wrap ((t : Int) - 1) = (j : Int) := by rw [IntWalk.i64_in _ (by omega)]; omega
              have u2 : (t : Int) - 1 = (j : Int) := by omega
              have u4 : IntKind.i64.wrap (j : Int) = (j : Int) := IntWalk.i64_in _ (by omega)
              have HJ := Lib.hid hj
              have et := e2_keep W7.out (EC.out t hlt2); have ej := e2_keep W7.out (EC.out j (by omega))
              have pt := PC.out t hlt2; have pj := PC.out j (by omega)
              have vt := EV.out t hlt2; have vj := EV.out j (by omega)
              have AJ : Hid (AdjP n X Y k U V i CX CY j ↔ (¬ (CX t = CX j ∧ CY t = CY j) ∧ Goes n X Y k U V i ((CX t + CX j) / 2) ((CY t + CY j) / 2))) := Lib.hid (by rw [hj]; exact Iff.rfl)
              have HNE : Hid (¬ AdjP n X Y k U V i CX CY j → ∀ e, e + 1 < t + 1 → ¬ AdjP n X Y k U V i CX CY e) := Lib.hid (fun h e he => by
                rcases Nat.lt_or_ge e j with hl | hl
                · exact NA.out e (by omega)
                · rw [show e = j from by omega]; exact h)
              have HYES : Hid (AdjP n X Y k U V i CX CY j → B = true) := Lib.hid (fun h => HR.out.2 ⟨i, hlt, AD.out.2 ⟨j, by omega, h⟩⟩)
              obtain ⟨et0, et1⟩ := et
              obtain ⟨ej0, ej1⟩ := ej
              rw [Nat.zero_add] at et0 et1 ej0 ej1
              generalize CX t = xt at *
              generalize CX j = xj at *
              generalize CY t = yt at *
              generalize CY j = yj at *
              have K0 := Lib.hid et0; have K1 := Lib.hid et1; have K2 := Lib.hid ej0; have K3 := Lib.hid ej1
              clear et0 et1 ej0 ej1 hj
              unfold P2M at pt pj
              go_wp2_with fail
              by_cases heq : xt = xj ∧ yt = yj
              · have HZ := Lib.hid (HNE.out (fun h => (AJ.out.1 h).1 heq))
                obtain ⟨e1, e2⟩ := heq
                subst e1 e2
                refine d_region (by kernel_rfl) (by kernel_rfl) ?_
                repeat
                  first
                    | (refine d_plain (by with_reducible rfl) ?_; apply Exists.intro; refine ⟨fun wq hc hq => ?_, ?_⟩)
                    | (refine d_on (by with_reducible rfl) (by rfl) (by with_reducible rfl) ?_; apply Exists.intro; refine ⟨fun wq hc hq => ?_, ?_⟩)
                    | (refine d_off (by with_reducible rfl) (by rfl) (by rfl) ?_)
                    | (refine d_void (by with_reducible rfl) (by rfl) ?_)
                  try any_goals
                    (have q0 := keep (cls hq) K0.out; have q1 := keep (cls hq) K1.out; have q2 := keep (cls hq) K2.out; have q3 := keep (cls hq) K3.out; clear hc
                     go_simp
                     first
                       | rfl)
                  simp only [Act.put, List.setIfInBounds_toArray, List.set_cons_zero, List.set_cons_succ]
                refine d_nil ?_
                intro w7 hb7
                have W8 := Lib.hid (b_next W7.out hb7); clear hb7
                go_wp2_with fail
                exact ⟨⟨t + 1, by omega, by omega, by go_num, HZ.out, W8.out⟩, by simp [intOf]; omega⟩
              · have HQ2 := Lib.hid heq
                clear heq
                refine d_region (by kernel_rfl) (by kernel_rfl) ?_
                repeat
                  first
                    | (refine d_plain (by with_reducible rfl) ?_; apply Exists.intro; refine ⟨fun wq hc hq => ?_, ?_⟩)
                    | (refine d_on (by with_reducible rfl) (by rfl) (by with_reducible rfl) ?_; apply Exists.intro; refine ⟨fun wq hc hq => ?_, ?_⟩)
                    | (refine d_off (by with_reducible rfl) (by rfl) (by rfl) ?_)
                    | (refine d_void (by with_reducible rfl) (by rfl) ?_)
                  try any_goals
                    (have q0 := keep (cls hq) K0.out; have q1 := keep (cls hq) K1.out; have q2 := keep (cls hq) K2.out; have q3 := keep (cls hq) K3.out; clear hc
                     go_simp
                     first
                       | rfl
                       | (rw [two_no HQ2.out]; exact ⟨rfl, rfl⟩))
                  simp only [Act.put, List.setIfInBounds_toArray, List.set_cons_zero, List.set_cons_succ]
                refine d_nil ?_
                intro w7 hb7
                have W8 := Lib.hid (b_next W7.out hb7)
                replace K0 := Lib.hid (keep hb7 K0.out); replace K1 := Lib.hid (keep hb7 K1.out); replace K2 := Lib.hid (keep hb7 K2.out); replace K3 := Lib.hid (keep hb7 K3.out)
                clear hb7
                obtain ⟨mx, hmx⟩ : ∃ mx, mx = (xt + xj) / 2 := ⟨_, rfl⟩
                obtain ⟨my, hmy⟩ : ∃ my, my = (yt + yj) / 2 := ⟨_, rfl⟩
                have e1 : IntKind.i64.wrap (xt + xj) = xt + xj := IntWalk.i64_in _ (by omega)
                have e2 : IntKind.i64.wrap (yt + yj) = yt + yj := IntWalk.i64_in _ (by omega)
                have e3 : (xt + xj).tdiv 2 = mx := by rw [hmx]; exact Int.tdiv_eq_ediv_of_dvd (Int.dvd_of_emod_eq_zero (by omega))
                have e4 : (yt + yj).tdiv 2 = my := by rw [hmy]; exact Int.tdiv_eq_ediv_of_dvd (Int.dvd_of_emod_eq_zero (by omega))
                have e5 : ¬ (2 : Int) = 0 := by decide
                have gm : P2M mx my := by unfold P2M; omega
                have GM := Lib.hid gm
                have e6 : IntKind.i64.wrap mx = mx := IntWalk.i64_in _ (by unfold P2M at gm; omega)
                have e7 : IntKind.i64.wrap my = my := IntWalk.i64_in _ (by unfold P2M at gm; omega)
                have PLm := Lib.hid (fun w1 h => PLC.out mx my w1 gm h)
                rw [← hmx, ← hmy] at AJ
                have HMX := Lib.hid hmx; have HMY := Lib.hid hmy
                clear hmx hmy gm
                go_wp2_with fail
                refine fresh_region (by kernel_rfl) (by kernel_rfl) ?_
                apply Fq.r
                · intro wq hc hq
                  (have q0 := keep hq K0.out; have q1 := keep hq K1.out; have q2 := keep hq K2.out; have q3 := keep hq K3.out; clear hc; go_simp; first | exact q2_value | exact q2_skip)
                simp only [Act.put, List.setIfInBounds_toArray, List.set_cons_zero, List.set_cons_succ]
                apply Fq.r
                · intro wq hc hq
                  (have q0 := keep hq K0.out; have q1 := keep hq K1.out; have q2 := keep hq K2.out; have q3 := keep hq K3.out; clear hc; go_simp; first | exact q2_value | exact q2_skip)
                simp only [Act.put, List.setIfInBounds_toArray, List.set_cons_zero, List.set_cons_succ]
                apply Fq.r
                · intro wq hc hq
                  (have q0 := keep hq K0.out; have q1 := keep hq K1.out; have q2 := keep hq K2.out; have q3 := keep hq K3.out; clear hc; go_simp; first | exact q2_value | exact q2_skip)
                simp only [Act.put, List.setIfInBounds_toArray, List.set_cons_zero, List.set_cons_succ]
                apply Fq.r
                · intro wq hc hq
                  (have q0 := keep hq K0.out; have q1 := keep hq K1.out; have q2 := keep hq K2.out; have q3 := keep hq K3.out; clear hc; go_simp; first | exact q2_value | exact q2_skip)
                simp only [Act.put, List.setIfInBounds_toArray, List.set_cons_zero, List.set_cons_succ]
                apply Fq.r
                · intro wq hc hq
                  (have q0 := keep hq K0.out; have q1 := keep hq K1.out; have q2 := keep hq K2.out; have q3 := keep hq K3.out; clear hc; go_simp; first | exact q2_value | exact q2_skip)
                simp only [Act.put, List.setIfInBounds_toArray, List.set_cons_zero, List.set_cons_succ]
                apply Fq.r
                · intro wq hc hq
                  (have q0 := keep hq K0.out; have q1 := keep hq K1.out; have q2 := keep hq K2.out; have q3 := keep hq K3.out; clear hc; go_simp; first | exact q2_value | exact q2_skip)
                simp only [Act.put, List.setIfInBounds_toArray, List.set_cons_zero, List.set_cons_succ]
                apply Fq.r
                · intro wq hc hq
                  (have q0 := keep hq K0.out; have q1 := keep hq K1.out; have q2 := keep hq K2.out; have q3 := keep hq K3.out; clear hc; go_simp; first | exact q2_value | exact q2_skip)
                simp only [Act.put, List.setIfInBounds_toArray, List.set_cons_zero, List.set_cons_succ]
                apply Fq.r
                · intro wq hc hq
                  (have q0 := keep hq K0.out; have q1 := keep hq K1.out; have q2 := keep hq K2.out; have q3 := keep hq K3.out; clear hc; go_simp; first | exact q2_value | exact q2_skip)
                simp only [Act.put, List.setIfInBounds_toArray, List.set_cons_zero, List.set_cons_succ]
                apply Fq.r
                · intro wq hc hq
                  (have q0 := keep hq K0.out; have q1 := keep hq K1.out; have q2 := keep hq K2.out; have q3 := keep hq K3.out; clear hc; go_simp; first | exact q2_value | exact q2_skip)
                simp only [Act.put, List.setIfInBounds_toArray, List.set_cons_zero, List.set_cons_succ]
                apply Fq.r
                · intro wq hc hq
                  (have q0 := keep hq K0.out; have q1 := keep hq K1.out; have q2 := keep hq K2.out; have q3 := keep hq K3.out; clear hc; go_simp; first | exact q2_value | exact q2_skip)
                simp only [Act.put, List.setIfInBounds_toArray, List.set_cons_zero, List.set_cons_succ]
                apply Fq.r
                · intro wq hc hq
                  (have q0 := keep hq K0.out; have q1 := keep hq K1.out; have q2 := keep hq K2.out; have q3 := keep hq K3.out; clear hc; go_simp; first | exact q2_value | exact q2_skip)
                simp only [Act.put, List.setIfInBounds_toArray, List.set_cons_zero, List.set_cons_succ]
                apply Fq.r
                · intro wq hc hq
                  (have q0 := keep hq K0.out; have q1 := keep hq K1.out; have q2 := keep hq K2.out; have q3 := keep hq K3.out; clear hc; go_simp; first | exact q2_value | exact q2_skip)
                simp only [Act.put, List.setIfInBounds_toArray, List.set_cons_zero, List.set_cons_succ]
                apply Fq.r
                · intro wq hc hq
                  (have q0 := keep hq K0.out; have q1 := keep hq K1.out; have q2 := keep hq K2.out; have q3 := keep hq K3.out; clear hc; go_simp; first | exact q2_value | exact q2_skip)
                simp only [Act.put, List.setIfInBounds_toArray, List.set_cons_zero, List.set_cons_succ]
                apply Fq.r
                · intro wq hc hq
                  (have q0 := keep hq K0.out; have q1 := keep hq K1.out; have q2 := keep hq K2.out; have q3 := keep hq K3.out; clear hc; go_simp; first | exact q2_value | exact q2_skip)
                simp only [Act.put, List.setIfInBounds_toArray, List.set_cons_zero, List.set_cons_succ]
                apply Fq.r
                · intro wq hc hq
                  (have q0 := keep hq K0.out; have q1 := keep hq K1.out; have q2 := keep hq K2.out; have q3 := keep hq K3.out; clear hc; go_simp; first | exact q2_value | exact q2_skip)
                simp only [Act.put, List.setIfInBounds_toArray, List.set_cons_zero, List.set_cons_succ]
                apply Fq.r
                · intro wq hc hq
                  (have q0 := keep hq K0.out; have q1 := keep hq K1.out; have q2 := keep hq K2.out; have q3 := keep hq K3.out; clear hc; go_simp; first | exact q2_value | exact q2_skip)
                simp only [Act.put, List.setIfInBounds_toArray, List.set_cons_zero, List.set_cons_succ]
                apply Fq.r
                · intro wq hc hq
                  (have q0 := keep hq K0.out; have q1 := keep hq K1.out; have q2 := keep hq K2.out; have q3 := keep hq K3.out; clear hc; go_simp; first | exact q2_value | exact q2_skip)
                simp only [Act.put, List.setIfInBounds_toArray, List.set_cons_zero, List.set_cons_succ]
                apply Fq.r
                · intro wq hc hq
                  (have q0 := keep hq K0.out; have q1 := keep hq K1.out; have q2 := keep hq K2.out; have q3 := keep hq K3.out; clear hc; go_simp; first | exact q2_value | exact q2_skip)
                simp only [Act.put, List.setIfInBounds_toArray, List.set_cons_zero, List.set_cons_succ]
                apply Fq.r
                · intro wq hc hq
                  (have q0 := keep hq K0.out; have q1 := keep hq K1.out; have q2 := keep hq K2.out; have q3 := keep hq K3.out; clear hc; go_simp; first | exact q2_value | exact q2_skip)
                simp only [Act.put, List.setIfInBounds_toArray, List.set_cons_zero, List.set_cons_succ]
                apply Fq.r
                · intro wq hc hq
                  (have q0 := keep hq K0.out; have q1 := keep hq K1.out; have q2 := keep hq K2.out; have q3 := keep hq K3.out; clear hc; go_simp; first | exact q2_value | exact q2_skip)
                simp only [Act.put, List.setIfInBounds_toArray, List.set_cons_zero, List.set_cons_succ]
                apply Fq.r
                · intro wq hc hq
                  (have q0 := keep hq K0.out; have q1 := keep hq K1.out; have q2 := keep hq K2.out; have q3 := keep hq K3.out; clear hc; go_simp; first | exact q2_value | exact q2_skip)
                simp only [Act.put, List.setIfInBounds_toArray, List.set_cons_zero, List.set_cons_succ]
                apply Fq.r
                · intro wq hc hq
                  (have q0 := keep hq K0.out; have q1 := keep hq K1.out; have q2 := keep hq K2.out; have q3 := keep hq K3.out; clear hc; go_simp; first | exact q2_value | exact q2_skip)
                simp only [Act.put, List.setIfInBounds_toArray, List.set_cons_zero, List.set_cons_succ]
                apply Fq.r
                · intro wq hc hq
                  (have q0 := keep hq K0.out; have q1 := keep hq K1.out; have q2 := keep hq K2.out; have q3 := keep hq K3.out; clear hc; go_simp; first | exact q2_value | exact q2_skip)
                simp only [Act.put, List.setIfInBounds_toArray, List.set_cons_zero, List.set_cons_succ]
                apply Fq.r
                · intro wq hc hq
                  (have q0 := keep hq K0.out; have q1 := keep hq K1.out; have q2 := keep hq K2.out; have q3 := keep hq K3.out; clear hc; go_simp; first | exact q2_value | exact q2_skip)
                simp only [Act.put, List.setIfInBounds_toArray, List.set_cons_zero, List.set_cons_succ]
                apply Fq.r
                · intro wq hc hq
                  (have q0 := keep hq K0.out; have q1 := keep hq K1.out; have q2 := keep hq K2.out; have q3 := keep hq K3.out; clear hc; go_simp; first | exact q2_value | exact q2_skip)
                simp only [Act.put, List.setIfInBounds_toArray, List.set_cons_zero, List.set_cons_succ]
                apply Fq.r
                · intro wq hc hq
                  (have q0 := keep hq K0.out; have q1 := keep hq K1.out; have q2 := keep hq K2.out; have q3 := keep hq K3.out; clear hc; go_simp; first | exact q2_value | exact q2_skip)
                simp only [Act.put, List.setIfInBounds_toArray, List.set_cons_zero, List.set_cons_succ]
                apply Fq.r
                · intro wq hc hq
                  (have q0 := keep hq K0.out; have q1 := keep hq K1.out; have q2 := keep hq K2.out; have q3 := keep hq K3.out; clear hc; go_simp; first | exact q2_value | exact q2_skip)
                simp only [Act.put, List.setIfInBounds_toArray, List.set_cons_zero, List.set_cons_succ]
                refine Fq.al 12 34 #[.int .i64 0, .int .i64 0] rfl (by simp) (fun wq => by go_simp) ?_
                refine Fq.st 27 #[.int .i64 mx, .int .i64 my] 12 34 #[.int .i64 0, .int .i64 0] rfl rfl (fun wq bq hq => ⟨((wq.setCell ⟨bq, 0, none⟩ (.int .i64 mx)).setCell ⟨bq, 1, none⟩ (.int .i64 my)), ?_, blk_set (blk_set (hq) 0 (.int .i64 mx)) 1 (.int .i64 my), only_set (only_set (only_refl _ _) 0 (.int .i64 mx)) 1 (.int .i64 my)⟩) ?_
                · (have c0 : wq.cell? ⟨bq, 0, none⟩ = some (.int .i64 0) := blk_cell hq 0; have f0 := blk_free hq 0; have c1 : wq.cell? ⟨bq, 1, none⟩ = some (.int .i64 0) := blk_cell hq 1; have f1 := blk_free hq 1; simp only [Act.put, List.setIfInBounds_toArray, List.set_cons_zero, List.set_cons_succ]; clear hq; go_simp)
                refine Fq.nil ⟨by kernel_rfl, fun β w8 M => ?_⟩
                simp only [List.reverse_cons, List.reverse_nil, List.nil_append, List.cons_append, putAl, Act.put, List.setIfInBounds_toArray, List.set_cons_zero, List.set_cons_succ, Nat.reduceAdd]
                have z27 := blk_b2 (M.block 28 27 _ _ _ _ rfl rfl)
                have l27 := M.fresh 27 _ _ _ rfl
                have hbw8 := M.below
                clear M
                generalize β 27 = pm at *
                have PM0 := Lib.hid z27.1; have WF := Lib.hid (b_next W6.out (b_next W8.out hbw8)); have W9 := Lib.hid (b_next W8.out hbw8)
                have PA9 := Lib.hid (p2_keep W9.out PA.out); have PB9 := Lib.hid (p2_keep W9.out PB.out)
                clear z27 l27 hbw8 K0 K1 K2 K3
                obtain ⟨m0, m1⟩ := PM0.out
                obtain ⟨pl, hpl⟩ : ∃ pl, pl = place k U V mx my := ⟨_, rfl⟩
                have GO : Hid (AdjP n X Y k U V i CX CY j ↔ (pl = 1 ∨ (pl = 0 ∧ ∃ e, e < k ∧ LastP n X Y k U V i mx my e))) := Lib.hid (by
                  rw [AJ.out]
                  unfold Goes LastP
                  rw [← hpl]
                  exact ⟨fun h => h.2, fun h => ⟨HQ2.out, h⟩⟩)
                have hb3 : pl = 1 ∨ pl = -1 ∨ pl = 0 := by
                  rw [hpl]; unfold place
                  rcases pin_bd k U V mx my k with h | h <;> rw [h] <;> split <;> omega
                have PL1 := Lib.hid (PLm.out _ WF.out)
                rw [← hpl] at PL1
                have HPL := Lib.hid hpl
                clear hpl AJ PLm HMX HMY e1 e2 e3 e4 e5 e6 e7
                go_wp2_with fail
                (with_reducible refine PL1.out.mono ?_); rintro e w9 ⟨rfl, hb⟩
                have WG := Lib.hid (b_next WF.out hb); have WH := Lib.hid (b_next W9.out hb); have PM := Lib.hid (p2_keep hb PM0.out); have PA := Lib.hid (p2_keep hb PA9.out); have PB := Lib.hid (p2_keep hb PB9.out)
                clear hb m0 m1 PL1 PM0 PA9 PB9 W8 W9 WF
                rcases hb3 with rfl | rfl | rfl
                · have e := HYES.out (GO.out.2 (Or.inl (by first | rfl | trivial)))
                  subst e
                  go_wp2_with fail
                  go_ret
                  exact ⟨by first | rfl | trivial | exact retb rfl, WG.out⟩
                · have HZ := Lib.hid (HNE.out (fun h => by rcases GO.out.1 h with h | ⟨h, -⟩ <;> omega))
                  go_wp2_with fail
                  exact ⟨⟨t + 1, by omega, by omega, by go_num, HZ.out, WH.out⟩, by simp [intOf]; omega⟩
                · go_wp2_with fail
                  go_loopw [101] (fun q wr => ∃ r : Nat, r ≤ k ∧ q = .int .i64 r ∧ (∀ e, e < r → ¬ LastP n X Y k U V i mx my e) ∧ Below w9.heap.size w9 wr) (fun q _ => k - (intOf q).toNat)
                  case atStart => exact ⟨0, Nat.zero_le _, rfl, fun e he => absurd he (Nat.not_lt_zero e), Below.refl _ _⟩
                  case round =>
                    obtain ⟨r, hr, rfl, hnl, hbl⟩ := hrel
                    have NL := Lib.hid hnl; have WR := Lib.hid hbl; have WQ := Lib.hid (b_next WG.out hbl); clear hnl
                    by_cases hlr : r < k
                    · have hl4 : (r : Int) < (k : Int) := by omega
                      have ec := e2_keep WQ.out (HQ.out r hlr)
                      have C0 := Lib.hid ec.1; have C1 := Lib.hid ec.2
                      have NN := Lib.hid (NQC.out r hlr)
                      have gr := GQ.out r hlr; have gr2 := GQ.out _ (nx_lt (i := r) h1)
                      have OO : Hid (OnC (U r) (V r) (U (nx k r)) (V (nx k r)) mx my (onB (U r) (V r) (U (nx k r)) (V (nx k r)) mx my)) := Lib.hid fun w => onC _ _ _ _ _ _ w (by have := GM.out; unfold P2M at *; omega)
                      have S1 := Lib.hid (sb_of G2.out G1.out)
                      have S2 := Lib.hid (sb_of gr2 gr)
                      have DT := Lib.hid (dt_of (ax := X (nx n i) - X i) (ay := Y (nx n i) - Y i) (bx := U (nx k r) - U r) (by' := V (nx k r) - V r) (by have := G1.out; have := G2.out; unfold P2M at *; omega))
                      obtain ⟨Dv, hDv⟩ : ∃ Dv, Dv = (X (nx n i) - X i) * (U (nx k r) - U r) + (Y (nx n i) - Y i) * (V (nx k r) - V r) := ⟨_, rfl⟩
                      obtain ⟨v, hv⟩ : ∃ v, v = onB (U r) (V r) (U (nx k r)) (V (nx k r)) mx my := ⟨_, rfl⟩
                      have LP : Hid (LastP n X Y k U V i mx my r ↔ (v = true ∧ 0 < Dv)) := Lib.hid (by unfold LastP; rw [← hDv, ← hv])
                      have LN : Hid (¬ (v = true ∧ 0 < Dv) → ∀ e, e < r + 1 → ¬ LastP n X Y k U V i mx my e) := Lib.hid (fun h e he => by
                        rcases Nat.lt_or_ge e r with hl | hl
                        · exact NL.out e hl
                        · rw [show e = r from by omega, LP.out]; exact h)
                      rw [← hDv] at DT; rw [← hv] at OO
                      clear hDv hv ec gr gr2 hbl
                      go_wp2_with fail
                      refine fresh_region (by kernel_rfl) (by kernel_rfl) ?_
                      apply Fq.r
                      · intro wq hc hq
                        (have q0 := keep hq C0.out; have q1 := keep hq C1.out; clear hc; go_simp; first | exact q2_value | exact q2_skip | (apply q2_enter; go_at_call 69; with_reducible exact NN.out _ (b_next WQ.out (cls hq))))
                      simp only [Act.put, List.setIfInBounds_toArray, List.set_cons_zero, List.set_cons_succ]
                      apply Fq.r
                      · intro wq hc hq
                        (have q0 := keep hq C0.out; have q1 := keep hq C1.out; clear hc; go_simp; first | exact q2_value | exact q2_skip | (apply q2_enter; go_at_call 69; with_reducible exact NN.out _ (b_next WQ.out (cls hq))))
                      simp only [Act.put, List.setIfInBounds_toArray, List.set_cons_zero, List.set_cons_succ]
                      apply Fq.r
                      · intro wq hc hq
                        (have q0 := keep hq C0.out; have q1 := keep hq C1.out; clear hc; go_simp; first | exact q2_value | exact q2_skip | (apply q2_enter; go_at_call 69; with_reducible exact NN.out _ (b_next WQ.out (cls hq))))
                      simp only [Act.put, List.setIfInBounds_toArray, List.set_cons_zero, List.set_cons_succ]
                      apply Fq.r
                      · intro wq hc hq
                        (have q0 := keep hq C0.out; have q1 := keep hq C1.out; clear hc; go_simp; first | exact q2_value | exact q2_skip | (apply q2_enter; go_at_call 69; with_reducible exact NN.out _ (b_next WQ.out (cls hq))))
                      simp only [Act.put, List.setIfInBounds_toArray, List.set_cons_zero, List.set_cons_succ]
                      apply Fq.r
                      · intro wq hc hq
                        (have q0 := keep hq C0.out; have q1 := keep hq C1.out; clear hc; go_simp; first | exact q2_value | exact q2_skip | (apply q2_enter; go_at_call 69; with_reducible exact NN.out _ (b_next WQ.out (cls hq))))
                      simp only [Act.put, List.setIfInBounds_toArray, List.set_cons_zero, List.set_cons_succ]
                      apply Fq.r
                      · intro wq hc hq
                        (have q0 := keep hq C0.out; have q1 := keep hq C1.out; clear hc; go_simp; first | exact q2_value | exact q2_skip | (apply q2_enter; go_at_call 69; with_reducible exact NN.out _ (b_next WQ.out (cls hq))))
                      simp only [Act.put, List.setIfInBounds_toArray, List.set_cons_zero, List.set_cons_succ]
                      apply Fq.r
                      · intro wq hc hq
                        (have q0 := keep hq C0.out; have q1 := keep hq C1.out; clear hc; go_simp; first | exact q2_value | exact q2_skip | (apply q2_enter; go_at_call 69; with_reducible exact NN.out _ (b_next WQ.out (cls hq))))
                      simp only [Act.put, List.setIfInBounds_toArray, List.set_cons_zero, List.set_cons_succ]
                      refine Fq.al 14 34 #[.int .i64 0, .int .i64 0] rfl (by simp) (fun wq => by go_simp) ?_
                      refine Fq.al 15 34 #[.int .i64 0, .int .i64 0] rfl (by simp) (fun wq => by go_simp) ?_
                      refine Fq.st 7 #[.int .i64 (U r), .int .i64 (V r)] 14 34 #[.int .i64 0, .int .i64 0] rfl rfl (fun wq bq hq => ⟨((wq.setCell ⟨bq, 0, none⟩ (.int .i64 (U r))).setCell ⟨bq, 1, none⟩ (.int .i64 (V r))), ?_, blk_set (blk_set (hq) 0 (.int .i64 (U r))) 1 (.int .i64 (V r)), only_set (only_set (only_refl _ _) 0 (.int .i64 (U r))) 1 (.int .i64 (V r))⟩) ?_
                      · (have c0 : wq.cell? ⟨bq, 0, none⟩ = some (.int .i64 0) := blk_cell hq 0; have f0 := blk_free hq 0; have c1 : wq.cell? ⟨bq, 1, none⟩ = some (.int .i64 0) := blk_cell hq 1; have f1 := blk_free hq 1; simp only [Act.put, List.setIfInBounds_toArray, List.set_cons_zero, List.set_cons_succ]; clear hq; go_simp)
                      refine Fq.st 8 #[.int .i64 (U (nx k r)), .int .i64 (V (nx k r))] 15 34 #[.int .i64 0, .int .i64 0] rfl rfl (fun wq bq hq => ⟨((wq.setCell ⟨bq, 0, none⟩ (.int .i64 (U (nx k r)))).setCell ⟨bq, 1, none⟩ (.int .i64 (V (nx k r)))), ?_, blk_set (blk_set (hq) 0 (.int .i64 (U (nx k r)))) 1 (.int .i64 (V (nx k r))), only_set (only_set (only_refl _ _) 0 (.int .i64 (U (nx k r)))) 1 (.int .i64 (V (nx k r)))⟩) ?_
                      · (have c0 : wq.cell? ⟨bq, 0, none⟩ = some (.int .i64 0) := blk_cell hq 0; have f0 := blk_free hq 0; have c1 : wq.cell? ⟨bq, 1, none⟩ = some (.int .i64 0) := blk_cell hq 1; have f1 := blk_free hq 1; simp only [Act.put, List.setIfInBounds_toArray, List.set_cons_zero, List.set_cons_succ]; clear hq; go_simp)
                      refine Fq.nil ⟨by kernel_rfl, fun β wb M => ?_⟩
                      simp only [List.reverse_cons, List.reverse_nil, List.nil_append, List.cons_append, putAl, Act.put, List.setIfInBounds_toArray, List.set_cons_zero, List.set_cons_succ, Nat.reduceAdd]
                      have z7 := blk_b2 (M.block 9 7 _ _ _ _ rfl rfl)
                      have l7 := M.fresh 7 _ _ _ rfl
                      have z8 := blk_b2 (M.block 10 8 _ _ _ _ rfl rfl)
                      have l8 := M.fresh 8 _ _ _ rfl
                      have m7_8 := made_ne M 7 8 rfl rfl (by decide)
                      have hbwb := M.below
                      clear M
                      generalize β 7 = pc at *
                      generalize β 8 = pd at *
                      have PCC := Lib.hid z7.1; have PDD := Lib.hid z8.1
                      have PM := Lib.hid (p2_keep (b_next WR.out hbwb) PM.out); have PA := Lib.hid (p2_keep (b_next WR.out hbwb) PA.out); have PB := Lib.hid (p2_keep (b_next WR.out hbwb) PB.out)
                      have WS := Lib.hid (b_next WR.out hbwb); have WT := Lib.hid (b_next WQ.out hbwb)
                      clear z7 z8 l7 l8 m7_8 hbwb C0 C1 NN
                      go_wp2_with fail
                      cases v with
                      | false =>
                        have HZ := Lib.hid (LN.out (fun h => by cases h.1))
                        refine d_region (by kernel_rfl) (by kernel_rfl) ?_
                        repeat
                          first
                            | (refine d_plain (by with_reducible rfl) ?_; apply Exists.intro; refine ⟨fun wq hc hq => ?_, ?_⟩)
                            | (refine d_on (by with_reducible rfl) (by rfl) (by with_reducible rfl) ?_; apply Exists.intro; refine ⟨fun wq hc hq => ?_, ?_⟩)
                            | (refine d_off (by with_reducible rfl) (by rfl) (by rfl) ?_)
                            | (refine d_void (by with_reducible rfl) (by rfl) ?_)
                          try any_goals
                            (obtain ⟨q0, q1⟩ := p2_keep (cls hq) PCC.out; obtain ⟨q2, q3⟩ := p2_keep (cls hq) PDD.out; obtain ⟨q4, q5⟩ := p2_keep (cls hq) PM.out; obtain ⟨q6, q7⟩ := p2_keep (cls hq) PA.out; obtain ⟨q8, q9⟩ := p2_keep (cls hq) PB.out; clear hc
                             go_simp
                             first
                               | rfl
                               | (go_at_call 109; with_reducible exact call_below hq (OO.out _))
                               | (go_at_call 113; with_reducible exact call_below hq (S1.out _))
                               | (go_at_call 113; with_reducible exact call_below hq (S2.out _))
                               | (go_at_call 112; with_reducible exact call_below hq (DT.out _)))
                          simp only [Act.put, List.setIfInBounds_toArray, List.set_cons_zero, List.set_cons_succ]
                        refine d_nil ?_
                        intro wd hbd
                        have WU := Lib.hid (b_next WS.out hbd); clear hbd
                        go_wp2_with fail
                        exact ⟨⟨r + 1, by omega, by go_num, HZ.out, WU.out⟩, by simp [intOf]; omega⟩
                      | true =>
                        by_cases hD : 0 < Dv
                        · have e := HYES.out (GO.out.2 (Or.inr ⟨by first | rfl | trivial, r, hlr, LP.out.2 ⟨rfl, hD⟩⟩))
                          subst e
                          have q1 := decide_eq_true hD
                          refine d_region (by kernel_rfl) (by kernel_rfl) ?_
                          repeat
                            first
                              | (refine d_plain (by with_reducible rfl) ?_; apply Exists.intro; refine ⟨fun wq hc hq => ?_, ?_⟩)
                              | (refine d_on (by with_reducible rfl) (by rfl) (by with_reducible rfl) ?_; apply Exists.intro; refine ⟨fun wq hc hq => ?_, ?_⟩)
                              | (refine d_off (by with_reducible rfl) (by rfl) (by rfl) ?_)
                              | (refine d_void (by with_reducible rfl) (by rfl) ?_)
                            try any_goals
                              (obtain ⟨q0, q1⟩ := p2_keep (cls hq) PCC.out; obtain ⟨q2, q3⟩ := p2_keep (cls hq) PDD.out; obtain ⟨q4, q5⟩ := p2_keep (cls hq) PM.out; obtain ⟨q6, q7⟩ := p2_keep (cls hq) PA.out; obtain ⟨q8, q9⟩ := p2_keep (cls hq) PB.out; clear hc
                               go_simp
                               first
                                 | rfl
                                 | (go_at_call 109; with_reducible exact call_below hq (OO.out _))
                                 | (go_at_call 113; with_reducible exact call_below hq (S1.out _))
                                 | (go_at_call 113; with_reducible exact call_below hq (S2.out _))
                                 | (go_at_call 112; with_reducible exact call_below hq (DT.out _)))
                            simp only [Act.put, List.setIfInBounds_toArray, List.set_cons_zero, List.set_cons_succ]
                          refine d_nil ?_
                          intro wd hbd
                          have WU := Lib.hid (b_next WT.out hbd); clear hbd
                          go_wp2_with fail
                          go_ret
                          exact ⟨by first | rfl | trivial | exact retb rfl, WU.out⟩
                        · have HZ := Lib.hid (LN.out (fun h => hD h.2))
                          have q1 := decide_eq_false hD
                          refine d_region (by kernel_rfl) (by kernel_rfl) ?_
                          repeat
                            first
                              | (refine d_plain (by with_reducible rfl) ?_; apply Exists.intro; refine ⟨fun wq hc hq => ?_, ?_⟩)
                              | (refine d_on (by with_reducible rfl) (by rfl) (by with_reducible rfl) ?_; apply Exists.intro; refine ⟨fun wq hc hq => ?_, ?_⟩)
                              | (refine d_off (by with_reducible rfl) (by rfl) (by rfl) ?_)
                              | (refine d_void (by with_reducible rfl) (by rfl) ?_)
                            try any_goals
                              (obtain ⟨q0, q1⟩ := p2_keep (cls hq) PCC.out; obtain ⟨q2, q3⟩ := p2_keep (cls hq) PDD.out; obtain ⟨q4, q5⟩ := p2_keep (cls hq) PM.out; obtain ⟨q6, q7⟩ := p2_keep (cls hq) PA.out; obtain ⟨q8, q9⟩ := p2_keep (cls hq) PB.out; clear hc
                               go_simp
                               first
                                 | rfl
                                 | (go_at_call 109; with_reducible exact call_below hq (OO.out _))
                                 | (go_at_call 113; with_reducible exact call_below hq (S1.out _))
                                 | (go_at_call 113; with_reducible exact call_below hq (S2.out _))
                                 | (go_at_call 112; with_reducible exact call_below hq (DT.out _)))
                            simp only [Act.put, List.setIfInBounds_toArray, List.set_cons_zero, List.set_cons_succ]
                          refine d_nil ?_
                          intro wd hbd
                          have WU := Lib.hid (b_next WS.out hbd); clear hbd
                          go_wp2_with fail
                          exact ⟨⟨r + 1, by omega, by go_num, HZ.out, WU.out⟩, by simp [intOf]; omega⟩
                    · have hrk : r = k := by omega
                      have hl4 : ¬ (r : Int) < (k : Int) := by omega
                      have HZ := Lib.hid (HNE.out (fun h => by
                        rcases GO.out.1 h with h | ⟨-, e, he, h⟩
                        · cases h
                        · exact NL.out e (by omega) h))
                      have WU := Lib.hid (b_next WH.out WR.out); clear hbl
                      go_wp2_with fail
                      exact ⟨⟨t + 1, by omega, by omega, by go_num, HZ.out, WU.out⟩, by simp [intOf]; omega⟩
            · have hts' : t = s := by omega
              have hl3 : ¬ (t : Int) < (s : Int) := by omega
              have HZ : Hid (∀ e, e < i + 1 → ¬ EntI n X Y k U V e) := Lib.hid (fun e he h => by
                rcases Nat.lt_or_ge e i with hl | hl
                · exact HN.out e hl h
                · rw [show e = i from by omega] at h
                  obtain ⟨q, hq, hq2⟩ := AD.out.1 h
                  exact NA.out q (by omega) hq2)
              have W8 := Lib.hid (b_next W6.out W7.out)
              go_wp2_with fail
              exact ⟨⟨i + 1, by omega, by go_num, HZ.out, W8.out⟩, by simp [intOf]; omega⟩
    · have hin : i = n := by omega
      have hl : ¬ (i : Int) < (n : Int) := by omega
      have W1 := Lib.hid hbl; clear hbl
      have HF : Hid (B = false) := Lib.hid (by
        cases hB : B with
        | false => rfl
        | true =>
          obtain ⟨e, he, h⟩ := HR.out.1 hB
          exact absurd h (HN.out e (by omega)))
      have e := HF.out
      subst e
      go_wp2_with fail
      go_ret
      exact ⟨by first | rfl | trivial | exact retb rfl, W1.out⟩
end Over
end Go.Proofs.Ytlokkffpmjlihaa
