/- Pop at a queue of numbers: what it leaves, block by block. -/
import Derived.Test.YtjmfopihfnpcpaaHeapC
namespace Go.Proofs.Ytjmfopihfnpcpaa
open Go.RowKit
namespace Heap
open Kit
/-- Only two of the old blocks have changed. -/
structure Bg (N q g : Nat) (w W : World) : Prop where
  b : Below N w W
  k : ∀ j, j < w.heap.size → j ≠ q → j ≠ g → W.heap[j]? = w.heap[j]?
theorem bg_of {N q g : Nat} {w W : World} (h : Below w.heap.size w W) (hq : N ≤ w.heap.size) : Bg N q g w W := ⟨h.mono hq, fun j hj _ _ => h.block j hj⟩
theorem bg_nextq {N q g : Nat} {v : Value} {nx : Int} {w W w1 : World} (h : Bg N q g w W) (hQ : Qb W q v nx) (hb : Below W.heap.size W w1) (hN : N ≤ q := by assumption) : Bg N q g w w1 :=
  ⟨h.b.trans (hb.mono (Nat.le_trans hN (Nat.le_of_lt (lt_of_cell hQ.c0)))), fun j hj h1 h2 => (hb.block j (Nat.lt_of_lt_of_le hj h.b.size)).trans (h.k j hj h1 h2)⟩
theorem bg_set {N q g : Nat} {w W : World} (h : Bg N q g w W) {p : Addr} (hp : N ≤ p.block) (u : Value) (hpg : p.block = q ∨ p.block = g := by first | exact Or.inl rfl | exact Or.inr rfl) : Bg N q g w (W.setCell p u) :=
  ⟨b_set' h.b hp u, fun j hj h1 h2 => by
    have hne : ¬ p.block = j := fun e => by
      rcases hpg with k | k
      · exact h1 (e.symm.trans k)
      · exact h2 (e.symm.trans k)
    rw [← h.k j hj h1 h2]
    simp [World.setCell, Array.getElem?_modify, hne]⟩
theorem ownG_off {w : World} {base g n cap : Nat} {E : TypeId} {C : Nat} {f : Nat → Nat → Value} (h : OwnG w base E C (.slice (some ⟨g, 0, none⟩) n cap) n f) (a : Addr) (ha : ¬ a.block = g) (u : Value) : OwnG (w.setCell a u) base E C (.slice (some ⟨g, 0, none⟩) n cap) n f := by
  refine ⟨h.1, ?_⟩
  rcases h.2 with ⟨e, -⟩ | ⟨g', cap', cur, hv, hb, hg, h2⟩
  · cases e
  · refine Or.inr ⟨g', cap', cur, hv, hb, ?_, h2⟩
    injection hv with e _ _
    injection e with e
    injection e with e _ _
    subst e
    simp only [World.setCell, Array.getElem?_modify, ha, if_false]
    exact hg
namespace Ki
/-- The queue in block q, its row in block g. -/
def QG (w : World) (N q g cap n : Nat) (f : Hp) (nx : Int) : Prop := ∃ v, v = Value.slice (some ⟨g, 0, none⟩) n cap ∧ Qb w q v nx ∧ OwnG w N 43 3 v n (cel f) ∧ ∀ i, i < n → KV (f i).v
set_option maxRecDepth 100000 in
set_option maxHeartbeats 8000000 in
theorem popG_w (N q n : Nat) (f : Hp) (nx : Int) (g cap : Nat) (w : World) (hNq : N ≤ q) (hgne : ¬ g = q) (hn1 : 0 < n) (hn : n ≤ 100000) (hq : q < w.heap.size) (HQ : Hid (Qb w q (.slice (some ⟨g, 0, none⟩) n cap) nx)) (HO : Hid (OwnG w N 43 3 (.slice (some ⟨g, 0, none⟩) n cap) n (cel f))) (HK : Hid (∀ i, i < n → KV (f i).v)) :
    Calls Try.prog 7 #[.pointer (some ⟨q, 0, none⟩)] w fun e w' => e = .returned (.tuple #[.int .i64 (f 0).p, (f 0).v, .bool true]) ∧ QG w' N q g cap (n - 1) (popF n f) nx ∧ Bg N q g w w' := by
  have hcap : cap ≤ 9223372036854775807 := by obtain ⟨_, _, e, h⟩ := ownG_slice HO.out; injection e with _ _ e3; subst e3; exact Nat.le_trans h (by decide)
  have hnc : n ≤ cap := by
    obtain ⟨_, _, e, -, -, h, -, -⟩ := ownG_row HO.out hn1
    injection e with _ _ e3; subst e3; exact h
  have hgN : N ≤ g := ownG_ge HO.out g rfl
  obtain ⟨m, hm⟩ : ∃ m, n = m + 1 := ⟨n - 1, by omega⟩
  subst hm
  obtain ⟨z0, hz0⟩ := HK.out 0 (by omega)
  obtain ⟨zl, hzl⟩ := HK.out m (by omega)
  obtain ⟨g', gc', e, -, -, -, -, hat⟩ := ownG_row HO.out hn1
  injection e with e1 _ e3
  injection e1 with e1
  injection e1 with e1
  subst e1 e3
  have ai0 : w.cell? ⟨g, 0, none⟩ = some (.int .i64 (f 0).p) := by have := hat.cell 0 (by omega) 0 (by decide); rw [Nat.zero_mul, Nat.zero_add] at this; exact this
  have ai1 : w.cell? ⟨g, 1, none⟩ = some (.int .i64 (f 0).k) := by have := hat.cell 0 (by omega) 1 (by decide); rw [Nat.zero_mul, Nat.zero_add] at this; exact this
  have ai2 : w.cell? ⟨g, 2, none⟩ = some (.int .i64 z0) := by have := hat.cell 0 (by omega) 2 (by decide); rw [Nat.zero_mul, Nat.zero_add] at this; rw [← hz0]; exact this
  have aj0 : w.cell? ⟨g, m * 3, none⟩ = some (.int .i64 (f m).p) := hat.cell m (by omega) 0 (by decide)
  have aj1 : w.cell? ⟨g, m * 3 + 1, none⟩ = some (.int .i64 (f m).k) := hat.cell m (by omega) 1 (by decide)
  have aj2 : w.cell? ⟨g, m * 3 + 2, none⟩ = some (.int .i64 zl) := by rw [← hzl]; exact hat.cell m (by omega) 2 (by decide)
  have fr := hat.free
  rw [hz0]
  clear hat
  have LASTO := Lib.hid fun (w5 : World) (ho : OwnG w5 N 43 3 (.slice (some ⟨g, 0, none⟩) (m + 1) cap) (m + 1) (cel f)) => last_own ho
  rw [hzl] at LASTO
  have LASTK : Hid (∀ a, a < m → KV (last (m + 1) f a).v) := Lib.hid fun a ha => by
    unfold last
    by_cases e : a = 0
    · rw [if_pos e]; exact HK.out _ (by omega)
    · rw [if_neg e]; exact HK.out _ (by omega)
  generalize hp0 : (f 0).p = p0 at *
  generalize hk0 : (f 0).k = k0 at *
  generalize hpl : (f m).p = pl at *
  generalize hkl : (f m).k = kl at *
  clear hp0 hk0 hpl hkl hz0 hzl
  obtain ⟨c0, c1, f0, f1⟩ := HQ.out
  have WA := b_alloc (Below.refl w.heap.size w) (.cells #[.int .i64 p0, .int .i64 k0, .int .i64 z0] 43)
  have C0 := Lib.hid (keep WA c0); have B0 := Lib.hid (keep WA aj0); have B1 := Lib.hid (keep WA aj1); have B2 := Lib.hid (keep WA aj2)
  have TB := Lib.hid (t3_new w 43 (.int .i64 p0) (.int .i64 k0) (.int .i64 z0))
  have QA := Lib.hid (keepQ' WA HQ.out); have OA := Lib.hid (ownG_keep WA HO.out)
  have BA := Lib.hid (bg_of (q := q) (g := g) WA (Nat.le_trans hNq (Nat.le_of_lt hq))); have SZ := Lib.hid (show w.heap.size < (w.alloc (.cells #[.int .i64 p0, .int .i64 k0, .int .i64 z0] 43)).heap.size by simp)
  clear WA
  have hmi : (m : Int) < (m : Int) + 1 := by omega
  have u1 : IntKind.i64.wrap (m : Int) = (m : Int) := IntWalk.i64_in _ (by omega)
  go_enter Try.func7, Try.ntmps7
  go_wp2_with fail
  have ag0 := ai0
  clear c0 c1 f0 f1 fr ai0 ai1 ai2 aj0 aj1 aj2
  refine Tail.tail_region (by kernel_rfl) (by kernel_rfl) ?_
  apply Tail.Gq.p
  · intro wq
    (go_simp; first | exact Tail.pv_value | exact Tail.pv_skip)
  simp only [Act.put, List.setIfInBounds_toArray, List.set_cons_zero, List.set_cons_succ]
  apply Tail.Gq.p
  · intro wq
    (go_simp; first | exact Tail.pv_value | exact Tail.pv_skip)
  simp only [Act.put, List.setIfInBounds_toArray, List.set_cons_zero, List.set_cons_succ]
  apply Tail.Gq.p
  · intro wq
    (go_simp; first | exact Tail.pv_value | exact Tail.pv_skip)
  simp only [Act.put, List.setIfInBounds_toArray, List.set_cons_zero, List.set_cons_succ]
  apply Tail.Gq.r
  · intro wq hc hq
    (have q0 := keep (cls hq) C0.out; have b0 := keep (cls hq) B0.out; have b1 := keep (cls hq) B1.out; have b2 := keep (cls hq) B2.out; clear hc; go_simp; first | exact q2_value | exact q2_skip)
  simp only [Act.put, List.setIfInBounds_toArray, List.set_cons_zero, List.set_cons_succ]
  apply Tail.Gq.p
  · intro wq
    (go_simp; first | exact Tail.pv_value | exact Tail.pv_skip)
  simp only [Act.put, List.setIfInBounds_toArray, List.set_cons_zero, List.set_cons_succ]
  apply Tail.Gq.p
  · intro wq
    (go_simp; first | exact Tail.pv_value | exact Tail.pv_skip)
  simp only [Act.put, List.setIfInBounds_toArray, List.set_cons_zero, List.set_cons_succ]
  apply Tail.Gq.p
  · intro wq
    (go_simp; first | exact Tail.pv_value | exact Tail.pv_skip)
  simp only [Act.put, List.setIfInBounds_toArray, List.set_cons_zero, List.set_cons_succ]
  apply Tail.Gq.r
  · intro wq hc hq
    (have q0 := keep (cls hq) C0.out; have b0 := keep (cls hq) B0.out; have b1 := keep (cls hq) B1.out; have b2 := keep (cls hq) B2.out; clear hc; go_simp; first | exact q2_value | exact q2_skip)
  simp only [Act.put, List.setIfInBounds_toArray, List.set_cons_zero, List.set_cons_succ]
  apply Tail.Gq.p
  · intro wq
    (go_simp; first | exact Tail.pv_value | exact Tail.pv_skip)
  simp only [Act.put, List.setIfInBounds_toArray, List.set_cons_zero, List.set_cons_succ]
  apply Tail.Gq.p
  · intro wq
    (go_simp; first | exact Tail.pv_value | exact Tail.pv_skip)
  simp only [Act.put, List.setIfInBounds_toArray, List.set_cons_zero, List.set_cons_succ]
  apply Tail.Gq.p
  · intro wq
    (go_simp; first | exact Tail.pv_value | exact Tail.pv_skip)
  simp only [Act.put, List.setIfInBounds_toArray, List.set_cons_zero, List.set_cons_succ]
  apply Tail.Gq.r
  · intro wq hc hq
    (have q0 := keep (cls hq) C0.out; have b0 := keep (cls hq) B0.out; have b1 := keep (cls hq) B1.out; have b2 := keep (cls hq) B2.out; clear hc; go_simp; first | exact q2_value | exact q2_skip)
  simp only [Act.put, List.setIfInBounds_toArray, List.set_cons_zero, List.set_cons_succ]
  apply Tail.Gq.p
  · intro wq
    (go_simp; first | exact Tail.pv_value | exact Tail.pv_skip)
  simp only [Act.put, List.setIfInBounds_toArray, List.set_cons_zero, List.set_cons_succ]
  apply Tail.Gq.t
  refine Tail.Gq.nil ⟨by kernel_rfl, fun w4 hb4 => ?_⟩
  simp only [List.reverse_cons, List.reverse_nil, List.nil_append]
  clear u1
  have Q4 := Lib.hid (keepQ' hb4 QA.out); have O4 := Lib.hid (ownG_keep hb4 OA.out); have T4 := Lib.hid (t3_keep hb4 TB.out); have W4 := Lib.hid (bg_nextq BA.out QA.out hb4); have S4 := Lib.hid (Nat.lt_of_lt_of_le SZ.out hb4.size)
  clear hb4
  obtain ⟨g', gc', e, -, hgl, -, -, hat⟩ := ownG_row O4.out hn1
  injection e with e1 _ e3
  injection e1 with e1
  injection e1 with e1
  subst e1 e3
  obtain ⟨c0, c1, f0, f1⟩ := Q4.out
  have ai0 : w4.cell? ⟨g, 0, none⟩ = some (.int .i64 (f 0).p) := by have := hat.cell 0 (by omega) 0 (by decide); rw [Nat.zero_mul, Nat.zero_add] at this; exact this
  have ai1 : w4.cell? ⟨g, 1, none⟩ = some (.int .i64 (f 0).k) := by have := hat.cell 0 (by omega) 1 (by decide); rw [Nat.zero_mul, Nat.zero_add] at this; exact this
  have ai2 : w4.cell? ⟨g, 2, none⟩ = some (f 0).v := by have := hat.cell 0 (by omega) 2 (by decide); rw [Nat.zero_mul, Nat.zero_add] at this; exact this
  have aj0 : w4.cell? ⟨g, m * 3, none⟩ = some (.int .i64 (f m).p) := hat.cell m (by omega) 0 (by decide)
  have aj1 : w4.cell? ⟨g, m * 3 + 1, none⟩ = some (.int .i64 (f m).k) := hat.cell m (by omega) 1 (by decide)
  have aj2 : w4.cell? ⟨g, m * 3 + 2, none⟩ = some (f m).v := hat.cell m (by omega) 2 (by decide)
  have fr := hat.free
  clear hat
  have hgw : w.heap.size ≠ g := (new_ne ag0).1
  have hne3 : ¬ g = w.heap.size := fun e => hgw e.symm
  have hgq' : N ≤ g := hgN
  have hne1 : ¬ g = q := hgne
  have hne2 : ¬ q = g := fun e => hgne e.symm
  have hml : m < m + 1 := Nat.lt_succ_self m
  have T5 := Lib.hid (t3_far (t3_far (t3_far T4.out ⟨g, 0, none⟩ hne3 (.int .i64 pl)) ⟨g, 1, none⟩ hne3 (.int .i64 kl)) ⟨g, 2, none⟩ hne3 (.int .i64 zl))
  have Q5 := Lib.hid (qb_far (qb_far (qb_far Q4.out ⟨g, 0, none⟩ hne1 (.int .i64 pl)) ⟨g, 1, none⟩ hne1 (.int .i64 kl)) ⟨g, 2, none⟩ hne1 (.int .i64 zl))
  have O5 := Lib.hid (LASTO.out _ O4.out)
  have W5 := Lib.hid (bg_set (bg_set (bg_set W4.out (p := ⟨g, 0, none⟩) hgq' (.int .i64 pl)) (p := ⟨g, 1, none⟩) hgq' (.int .i64 kl)) (p := ⟨g, 2, none⟩) hgq' (.int .i64 zl))
  have S5 : Hid (w.heap.size < (((w4.setCell ⟨g, 0, none⟩ (.int .i64 pl)).setCell ⟨g, 1, none⟩ (.int .i64 kl)).setCell ⟨g, 2, none⟩ (.int .i64 zl)).heap.size) := Lib.hid (by simpa using S4.out)
  go_wp2_with fail
  clear Q4 O4 T4 W4 S4 c0 c1 f0 f1 ai0 ai1 ai2 aj0 aj1 aj2 fr LASTO
  generalize ((w4.setCell ⟨g, 0, none⟩ (.int .i64 pl)).setCell ⟨g, 1, none⟩ (.int .i64 kl)).setCell ⟨g, 2, none⟩ (.int .i64 zl) = w5 at *
  simp only [Kit.Ends]
  obtain ⟨g', gc', e, -, -, -, -, hat⟩ := ownG_row O5.out hn1
  injection e with e1 _ e3
  injection e1 with e1
  injection e1 with e1
  subst e1 e3
  obtain ⟨c0, c1, f0, f1⟩ := Q5.out
  have aj0 := hat.cell m (by omega) 0 (by decide)
  have aj1 := hat.cell m (by omega) 1 (by decide)
  have aj2 := hat.cell m (by omega) 2 (by decide)
  rw [Nat.add_zero] at aj0
  have fr := hat.free
  clear hat
  generalize cel (last (m + 1) f) m 0 = y0 at *
  generalize cel (last (m + 1) f) m 1 = y1 at *
  generalize cel (last (m + 1) f) m 2 = y2 at *
  have T6 := Lib.hid (t3_far (t3_far (t3_far (t3_far T5.out ⟨g, m * 3, none⟩ hne3 (.int .i64 0)) ⟨g, m * 3 + 1, none⟩ hne3 (.int .i64 0)) ⟨g, m * 3 + 2, none⟩ hne3 (.int .i64 0)) ⟨q, 0, none⟩ (show ¬ q = w.heap.size by omega) (.slice (some ⟨g, 0, none⟩) m cap))
  have Q6 := Lib.hid (qb_val (qb_far (qb_far (qb_far Q5.out ⟨g, m * 3, none⟩ hne1 (.int .i64 0)) ⟨g, m * 3 + 1, none⟩ hne1 (.int .i64 0)) ⟨g, m * 3 + 2, none⟩ hne1 (.int .i64 0)) (.slice (some ⟨g, 0, none⟩) m cap))
  have O6 := Lib.hid (ownG_off (zero_own O5.out (.int .i64 0) (.int .i64 0) (.int .i64 0)) ⟨q, 0, none⟩ hne2 (.slice (some ⟨g, 0, none⟩) m cap))
  have W6 := Lib.hid (bg_set (bg_set (bg_set (bg_set W5.out (p := ⟨g, m * 3, none⟩) hgq' (.int .i64 0)) (p := ⟨g, m * 3 + 1, none⟩) hgq' (.int .i64 0)) (p := ⟨g, m * 3 + 2, none⟩) hgq' (.int .i64 0)) (p := ⟨q, 0, none⟩) hNq (.slice (some ⟨g, 0, none⟩) m cap))
  go_wp2_with fail
  clear c0 c1 f0 f1 aj0 aj1 aj2 fr Q5 O5 T5 W5 S5
  obtain ⟨h0, hh0⟩ : ∃ h0, h0 = last (m + 1) f := ⟨_, rfl⟩
  have POP0 : Hid (0 < m → down m h0 0 = popF (m + 1) f) := Lib.hid fun hm => by unfold popF; rw [if_neg (by omega), hh0]; rfl
  rw [← hh0] at O6 LASTK
  clear hh0
  have hmcap : m ≤ cap := by omega
  go_loopw [8] (fun s wr => ∃ (i : Nat) (h : Hp), (i < m ∨ m = 0 ∧ i = 0) ∧ s = .int .i64 i ∧ (0 < m → down m h i = popF (m + 1) f) ∧ Qb wr q (.slice (some ⟨g, 0, none⟩) m cap) nx ∧ OwnG wr N 43 3 (.slice (some ⟨g, 0, none⟩) m cap) m (cel h) ∧ (∀ a, a < m → KV (h a).v) ∧ T3 wr w.heap.size (.int .i64 p0) (.int .i64 k0) (.int .i64 z0) ∧ Bg N q g w wr) (fun s _ => m - (intOf s).toNat)
  case atStart => exact ⟨0, h0, by omega, rfl, POP0.out, Q6.out, O6.out, LASTK.out, T6.out, W6.out⟩
  case round =>
    obtain ⟨i, h, hi, rfl, hdn, hQ, hO, hKV, hT, hB⟩ := hrel
    have DN := Lib.hid hdn; have KR := Lib.hid hKV
    have WN := b_alloc (Below.refl wr.heap.size wr) (.cells #[.int .i64 (2 * (i : Int) + 1), .int .i64 (2 * (i : Int) + 2)] 3)
    have QA := Lib.hid (keepQ' WN hQ); have OA := Lib.hid (ownG_keep WN hO); have TA := Lib.hid (t3_keep WN hT); have BA := Lib.hid (bg_nextq hB hQ WN)
    have NA := Lib.hid (p2_new wr 3 (2 * (i : Int) + 1) (2 * (i : Int) + 2))
    have hi9 : (i : Int) ≤ 100000 := by omega
    clear hdn hKV WN hO hT hB hQ POP0
    go_wp2_with fail
    generalize wr.alloc (.cells #[.int .i64 (2 * (i : Int) + 1), .int .i64 (2 * (i : Int) + 2)] 3) = wA at *
    obtain ⟨bn, hbn⟩ : ∃ bn, bn = wr.heap.size := ⟨_, rfl⟩
    rw [← hbn] at NA ⊢
    clear hbn
    go_loopw [9, 66] (fun s u wi => ∃ c : Nat, c ≤ 2 ∧ u = .int .i64 c ∧ s = .int .i64 (lst m h i c) ∧ Below wA.heap.size wA wi) (fun _ u _ => 2 - (intOf u).toNat)
    case atStart => exact ⟨0, Nat.zero_le _, rfl, rfl, Below.refl _ _⟩
    case round =>
      obtain ⟨c, hc, rfl, rfl, hbl⟩ := hrel
      have BI := Lib.hid hbl
      by_cases hlt : c < 2
      · have hlt' : (c : Int) < 2 := by omega
        obtain ⟨K, hK⟩ : ∃ K, K = 2 * i + 1 + c := ⟨_, rfl⟩
        have kc : wr.cell? ⟨bn, c, none⟩ = some (.int .i64 (K : Int)) := by
          have q := p2_keep hbl NA.out
          rcases (show c = 0 ∨ c = 1 by omega) with rfl | rfl
          · rw [q.1]; congr 2; omega
          · rw [q.2]; congr 2; omega
        have hstep := lst_step (m := m) (h := h) (i := i) hlt
        rw [← hK] at hstep
        obtain ⟨L, hL⟩ : ∃ L, L = lst m h i c := ⟨_, rfl⟩
        rw [← hL] at hstep ⊢
        have C0 := Lib.hid (keep hbl QA.out.c0)
        have hK9 : (K : Int) ≤ 300000 := by omega
        by_cases hKm : K < m
        · have hKm' : (K : Int) < (m : Int) := by omega
          have gd := decide_eq_true hKm'
          have hLm : L < m := by rw [hL]; exact lst_lt (by omega) c
          have hLm' : (L : Int) < (m : Int) := by omega
          obtain ⟨g', gc', e, -, -, -, -, hat⟩ := ownG_row (ownG_keep hbl OA.out) (show 0 < m by omega)
          injection e with e1 _ e3
          injection e1 with e1
          injection e1 with e1
          subst e1 e3
          obtain ⟨zi, hzi⟩ := KR.out K hKm
          obtain ⟨zj, hzj⟩ := KR.out L hLm
          have ai0 : wr.cell? ⟨g, K * 3, none⟩ = some (.int .i64 (h K).p) := hat.cell K hKm 0 (by decide)
          have ai1 : wr.cell? ⟨g, K * 3 + 1, none⟩ = some (.int .i64 (h K).k) := hat.cell K hKm 1 (by decide)
          have ai2 : wr.cell? ⟨g, K * 3 + 2, none⟩ = some (.int .i64 zi) := by rw [← hzi]; exact hat.cell K hKm 2 (by decide)
          have aj0 : wr.cell? ⟨g, L * 3, none⟩ = some (.int .i64 (h L).p) := hat.cell L hLm 0 (by decide)
          have aj1 : wr.cell? ⟨g, L * 3 + 1, none⟩ = some (.int .i64 (h L).k) := hat.cell L hLm 1 (by decide)
          have aj2 : wr.cell? ⟨g, L * 3 + 2, none⟩ = some (.int .i64 zj) := by rw [← hzj]; exact hat.cell L hLm 2 (by decide)
          have A0 := Lib.hid ai0; have A1 := Lib.hid ai1; have A2 := Lib.hid ai2; have B0 := Lib.hid aj0; have B1 := Lib.hid aj1; have B2 := Lib.hid aj2
          have hbc : Hid (∀ w, Calls Try.prog 15 #[.agg #[.int .i64 (h K).p, .int .i64 (h K).k, .int .i64 zi], .agg #[.int .i64 (h L).p, .int .i64 (h L).k, .int .i64 zj]] w fun e w' => e = .returned (.bool (bef (h K) (h L))) ∧ Below w.heap.size w w') := by
            have q := befC (h K) (h L) ⟨zi, hzi⟩ ⟨zj, hzj⟩
            rw [hzi, hzj] at q; exact q
          have YES : Hid (bef (h K) (h L) = true → K = lst m h i (c + 1)) := Lib.hid fun hb => by rw [hstep, if_pos ⟨hKm, hb⟩]
          have NO : Hid (bef (h K) (h L) = false → L = lst m h i (c + 1)) := Lib.hid fun hb => by rw [hstep, if_neg (by rintro ⟨-, e⟩; rw [hb] at e; cases e)]
          clear hat ai0 ai1 ai2 aj0 aj1 aj2 hzi hzj hbl hstep hL hK
          obtain ⟨BB, hBB⟩ : ∃ BB, BB = bef (h K) (h L) := ⟨_, rfl⟩
          rw [← hBB] at hbc YES NO
          have BC := hbc; clear hbc hBB
          generalize (h K).p = pi at *
          generalize (h K).k = ki at *
          generalize (h L).p = pj at *
          generalize (h L).k = kj at *
          cases BB with
          | false =>
            have HE := Lib.hid (NO.out rfl); clear YES NO
            go_wp2_with fail
            refine d_region (by kernel_rfl) (by kernel_rfl) ?_
            repeat
              first
                | (refine d_plain (by with_reducible rfl) ?_; apply Exists.intro; refine ⟨fun wq hc hq => ?_, ?_⟩)
                | (refine d_on (by with_reducible rfl) (by rfl) (by with_reducible rfl) ?_; apply Exists.intro; refine ⟨fun wq hc hq => ?_, ?_⟩)
                | (refine d_off (by with_reducible rfl) (by rfl) (by rfl) ?_)
                | (refine d_void (by with_reducible rfl) (by rfl) ?_)
              try any_goals
                (have q0 := keep (cls hq) C0.out; have a0 := keep (cls hq) A0.out; have a1 := keep (cls hq) A1.out; have a2 := keep (cls hq) A2.out; have b0 := keep (cls hq) B0.out; have b1 := keep (cls hq) B1.out; have b2 := keep (cls hq) B2.out; clear hc
                 go_simp
                 first
                   | rfl
                   | (go_at_call 15; with_reducible exact call_below hq (BC.out _)))
              simp only [Act.put, List.setIfInBounds_toArray, List.set_cons_zero, List.set_cons_succ]
            refine d_nil ?_
            intro w3 hb3
            have B3 := Lib.hid (b_next BI.out hb3)
            clear hb3 kc gd
            go_wp2_with fail
            go_roundw
            case rel => exact ⟨c + 1, by omega, by go_num, by rw [HE.out], B3.out⟩
            case measure => simp [intOf]; omega
          | true =>
            have HE := Lib.hid (YES.out rfl); clear YES NO
            go_wp2_with fail
            refine d_region (by kernel_rfl) (by kernel_rfl) ?_
            repeat
              first
                | (refine d_plain (by with_reducible rfl) ?_; apply Exists.intro; refine ⟨fun wq hc hq => ?_, ?_⟩)
                | (refine d_on (by with_reducible rfl) (by rfl) (by with_reducible rfl) ?_; apply Exists.intro; refine ⟨fun wq hc hq => ?_, ?_⟩)
                | (refine d_off (by with_reducible rfl) (by rfl) (by rfl) ?_)
                | (refine d_void (by with_reducible rfl) (by rfl) ?_)
              try any_goals
                (have q0 := keep (cls hq) C0.out; have a0 := keep (cls hq) A0.out; have a1 := keep (cls hq) A1.out; have a2 := keep (cls hq) A2.out; have b0 := keep (cls hq) B0.out; have b1 := keep (cls hq) B1.out; have b2 := keep (cls hq) B2.out; clear hc
                 go_simp
                 first
                   | rfl
                   | (go_at_call 15; with_reducible exact call_below hq (BC.out _)))
              simp only [Act.put, List.setIfInBounds_toArray, List.set_cons_zero, List.set_cons_succ]
            refine d_nil ?_
            intro w3 hb3
            have B3 := Lib.hid (b_next BI.out hb3)
            clear hb3 kc gd
            go_wp2_with fail
            go_roundw
            case rel => exact ⟨c + 1, by omega, by go_num, by rw [HE.out], B3.out⟩
            case measure => simp [intOf]; omega
        · have hKm' : ¬ (K : Int) < (m : Int) := by omega
          have gd := decide_eq_false hKm'
          have HE : Hid (L = lst m h i (c + 1)) := Lib.hid (by rw [hstep, if_neg (fun e => hKm e.1)])
          clear hstep hL hK hbl
          go_wp2_with fail
          refine d_region (by kernel_rfl) (by kernel_rfl) ?_
          repeat
            first
              | (refine d_plain (by with_reducible rfl) ?_; apply Exists.intro; refine ⟨fun wq hc hq => ?_, ?_⟩)
              | (refine d_on (by with_reducible rfl) (by rfl) (by with_reducible rfl) ?_; apply Exists.intro; refine ⟨fun wq hc hq => ?_, ?_⟩)
              | (refine d_off (by with_reducible rfl) (by rfl) (by rfl) ?_)
              | (refine d_void (by with_reducible rfl) (by rfl) ?_)
            try any_goals
              (have q0 := keep (cls hq) C0.out; clear hc
               go_simp
               first
                 | rfl)
            simp only [Act.put, List.setIfInBounds_toArray, List.set_cons_zero, List.set_cons_succ]
          refine d_nil ?_
          intro w3 hb3
          have B3 := Lib.hid (b_next BI.out hb3)
          clear hb3 kc gd
          go_wp2_with fail
          go_roundw
          case rel => exact ⟨c + 1, by omega, by go_num, by rw [HE.out], B3.out⟩
          case measure => simp [intOf]; omega
      · obtain rfl : c = 2 := by omega
        have el : lst m h i 2 = l2 m h i := rfl
        rw [el]
        have QI := Lib.hid (keepQ' hbl QA.out); have OI := Lib.hid (ownG_keep hbl OA.out); have TI := Lib.hid (t3_keep hbl TA.out); have WI := Lib.hid (bg_nextq BA.out QA.out hbl)
        have lc := l2_cases m h i
        obtain ⟨j, hj⟩ : ∃ j, j = l2 m h i := ⟨_, rfl⟩
        rw [← hj] at lc ⊢
        clear el hbl BI
        by_cases hji : j = i
        · subst hji
          have HE : Hid (∀ a, a < m → h a = popF (m + 1) f a) := Lib.hid fun a ha => by rw [← DN.out (by omega), down_no hj.symm]
          have tt : ((j : Int) == (j : Int)) = true := by simp
          have X0 := Lib.hid TI.out
          clear hj lc
          go_wp2_with fail
          refine d_region (by kernel_rfl) (by kernel_rfl) ?_
          repeat
            first
              | (refine d_plain (by with_reducible rfl) ?_; apply Exists.intro; refine ⟨fun wq hc hq => ?_, ?_⟩)
              | (refine d_on (by with_reducible rfl) (by rfl) (by with_reducible rfl) ?_; apply Exists.intro; refine ⟨fun wq hc hq => ?_, ?_⟩)
              | (refine d_off (by with_reducible rfl) (by rfl) (by rfl) ?_)
              | (refine d_void (by with_reducible rfl) (by rfl) ?_)
            try any_goals
              (have q0 := keep (cls hq) X0.out.c0; have q2 := keep (cls hq) X0.out.c2; clear hc
               go_simp
               first
                 | rfl)
            simp only [Act.put, List.setIfInBounds_toArray, List.set_cons_zero, List.set_cons_succ]
          refine d_nil ?_
          intro w3 hb3
          have Q3 := Lib.hid (keepQ' hb3 QI.out); have O3 := Lib.hid (ownG_keep hb3 OI.out); have W3 := Lib.hid (bg_nextq WI.out QI.out hb3)
          clear hb3
          go_wp2_with fail
          refine bodyPost_ret (v := .tuple #[.int .i64 p0, .int .i64 z0, .bool true]) (by simp [results, Try.results7, go_sem]) rfl ⟨rfl, ?_⟩
          exact ⟨⟨_, rfl, Q3.out, ownG_congr O3.out (fun a ha b hb => by unfold cel; rw [HE.out a ha]), fun a ha => by rw [← HE.out a ha]; exact KR.out a ha⟩, W3.out⟩
        · obtain ⟨l1', l2', l3', l4'⟩ := lc.resolve_left hji
          have him : i < m := by omega
          have hij : (i : Int) < (m : Int) := by omega
          have hjm : (j : Int) < (m : Int) := by omega
          have tt : ((j : Int) == (i : Int)) = false := by simp; omega
          have HE : Hid (0 < m → down m (sw h i j) j = popF (m + 1) f) := Lib.hid fun hm => by rw [← DN.out hm, down_yes (n := m) (f := h) (i := i) (by rw [← hj]; exact hji), ← hj]
          obtain ⟨g', gc', e, -, -, -, -, hat⟩ := ownG_row OI.out (show 0 < m by omega)
          injection e with e1 _ e3
          injection e1 with e1
          injection e1 with e1
          subst e1 e3
          obtain ⟨zi, hzi⟩ := KR.out i him
          obtain ⟨zj, hzj⟩ := KR.out j l2'
          have ai0 : wr.cell? ⟨g, i * 3, none⟩ = some (.int .i64 (h i).p) := hat.cell i him 0 (by decide)
          have ai1 : wr.cell? ⟨g, i * 3 + 1, none⟩ = some (.int .i64 (h i).k) := hat.cell i him 1 (by decide)
          have ai2 : wr.cell? ⟨g, i * 3 + 2, none⟩ = some (.int .i64 zi) := by rw [← hzi]; exact hat.cell i him 2 (by decide)
          have aj0 : wr.cell? ⟨g, j * 3, none⟩ = some (.int .i64 (h j).p) := hat.cell j l2' 0 (by decide)
          have aj1 : wr.cell? ⟨g, j * 3 + 1, none⟩ = some (.int .i64 (h j).k) := hat.cell j l2' 1 (by decide)
          have aj2 : wr.cell? ⟨g, j * 3 + 2, none⟩ = some (.int .i64 zj) := by rw [← hzj]; exact hat.cell j l2' 2 (by decide)
          have C0 := Lib.hid QI.out.c0
          have A0 := Lib.hid ai0; have A1 := Lib.hid ai1; have A2 := Lib.hid ai2; have B0 := Lib.hid aj0; have B1 := Lib.hid aj1; have B2 := Lib.hid aj2
          have SWO := Lib.hid fun (w5 : World) (ho : OwnG w5 N 43 3 (.slice (some ⟨g, 0, none⟩) m cap) m (cel h)) => swap_own ho him l2' (show i ≠ j by omega)
          have SWK : Hid (∀ a, a < m → KV (sw h i j a).v) := Lib.hid (sw_all KR.out him l2')
          rw [hzi, hzj] at SWO
          clear hat ai0 ai1 ai2 aj0 aj1 aj2 hzi hzj hj lc l3' l4'
          generalize (h i).p = pi at *
          generalize (h i).k = ki at *
          generalize (h j).p = pj at *
          generalize (h j).k = kj at *
          go_wp2_with fail
          refine Tail.tail_region (by kernel_rfl) (by kernel_rfl) ?_
          apply Tail.Gq.p
          · intro wq
            (go_simp; first | exact Tail.pv_value | exact Tail.pv_skip)
          simp only [Act.put, List.setIfInBounds_toArray, List.set_cons_zero, List.set_cons_succ]
          apply Tail.Gq.p
          · intro wq
            (go_simp; first | exact Tail.pv_value | exact Tail.pv_skip)
          simp only [Act.put, List.setIfInBounds_toArray, List.set_cons_zero, List.set_cons_succ]
          apply Tail.Gq.p
          · intro wq
            (go_simp; first | exact Tail.pv_value | exact Tail.pv_skip)
          simp only [Act.put, List.setIfInBounds_toArray, List.set_cons_zero, List.set_cons_succ]
          apply Tail.Gq.r
          · intro wq hc hq
            (have q0 := keep (cls hq) C0.out; have a0 := keep (cls hq) A0.out; have a1 := keep (cls hq) A1.out; have a2 := keep (cls hq) A2.out; have b0 := keep (cls hq) B0.out; have b1 := keep (cls hq) B1.out; have b2 := keep (cls hq) B2.out; clear hc; go_simp; first | exact q2_value | exact q2_skip)
          simp only [Act.put, List.setIfInBounds_toArray, List.set_cons_zero, List.set_cons_succ]
          apply Tail.Gq.p
          · intro wq
            (go_simp; first | exact Tail.pv_value | exact Tail.pv_skip)
          simp only [Act.put, List.setIfInBounds_toArray, List.set_cons_zero, List.set_cons_succ]
          apply Tail.Gq.p
          · intro wq
            (go_simp; first | exact Tail.pv_value | exact Tail.pv_skip)
          simp only [Act.put, List.setIfInBounds_toArray, List.set_cons_zero, List.set_cons_succ]
          apply Tail.Gq.p
          · intro wq
            (go_simp; first | exact Tail.pv_value | exact Tail.pv_skip)
          simp only [Act.put, List.setIfInBounds_toArray, List.set_cons_zero, List.set_cons_succ]
          apply Tail.Gq.p
          · intro wq
            (go_simp; first | exact Tail.pv_value | exact Tail.pv_skip)
          simp only [Act.put, List.setIfInBounds_toArray, List.set_cons_zero, List.set_cons_succ]
          apply Tail.Gq.r
          · intro wq hc hq
            (have q0 := keep (cls hq) C0.out; have a0 := keep (cls hq) A0.out; have a1 := keep (cls hq) A1.out; have a2 := keep (cls hq) A2.out; have b0 := keep (cls hq) B0.out; have b1 := keep (cls hq) B1.out; have b2 := keep (cls hq) B2.out; clear hc; go_simp; first | exact q2_value | exact q2_skip)
          simp only [Act.put, List.setIfInBounds_toArray, List.set_cons_zero, List.set_cons_succ]
          apply Tail.Gq.p
          · intro wq
            (go_simp; first | exact Tail.pv_value | exact Tail.pv_skip)
          simp only [Act.put, List.setIfInBounds_toArray, List.set_cons_zero, List.set_cons_succ]
          apply Tail.Gq.p
          · intro wq
            (go_simp; first | exact Tail.pv_value | exact Tail.pv_skip)
          simp only [Act.put, List.setIfInBounds_toArray, List.set_cons_zero, List.set_cons_succ]
          apply Tail.Gq.p
          · intro wq
            (go_simp; first | exact Tail.pv_value | exact Tail.pv_skip)
          simp only [Act.put, List.setIfInBounds_toArray, List.set_cons_zero, List.set_cons_succ]
          apply Tail.Gq.p
          · intro wq
            (go_simp; first | exact Tail.pv_value | exact Tail.pv_skip)
          simp only [Act.put, List.setIfInBounds_toArray, List.set_cons_zero, List.set_cons_succ]
          apply Tail.Gq.r
          · intro wq hc hq
            (have q0 := keep (cls hq) C0.out; have a0 := keep (cls hq) A0.out; have a1 := keep (cls hq) A1.out; have a2 := keep (cls hq) A2.out; have b0 := keep (cls hq) B0.out; have b1 := keep (cls hq) B1.out; have b2 := keep (cls hq) B2.out; clear hc; go_simp; first | exact q2_value | exact q2_skip)
          simp only [Act.put, List.setIfInBounds_toArray, List.set_cons_zero, List.set_cons_succ]
          apply Tail.Gq.p
          · intro wq
            (go_simp; first | exact Tail.pv_value | exact Tail.pv_skip)
          simp only [Act.put, List.setIfInBounds_toArray, List.set_cons_zero, List.set_cons_succ]
          apply Tail.Gq.p
          · intro wq
            (go_simp; first | exact Tail.pv_value | exact Tail.pv_skip)
          simp only [Act.put, List.setIfInBounds_toArray, List.set_cons_zero, List.set_cons_succ]
          apply Tail.Gq.r
          · intro wq hc hq
            (have q0 := keep (cls hq) C0.out; have a0 := keep (cls hq) A0.out; have a1 := keep (cls hq) A1.out; have a2 := keep (cls hq) A2.out; have b0 := keep (cls hq) B0.out; have b1 := keep (cls hq) B1.out; have b2 := keep (cls hq) B2.out; clear hc; go_simp; first | exact q2_value | exact q2_skip)
          simp only [Act.put, List.setIfInBounds_toArray, List.set_cons_zero, List.set_cons_succ]
          apply Tail.Gq.p
          · intro wq
            (go_simp; first | exact Tail.pv_value | exact Tail.pv_skip)
          simp only [Act.put, List.setIfInBounds_toArray, List.set_cons_zero, List.set_cons_succ]
          apply Tail.Gq.p
          · intro wq
            (go_simp; first | exact Tail.pv_value | exact Tail.pv_skip)
          simp only [Act.put, List.setIfInBounds_toArray, List.set_cons_zero, List.set_cons_succ]
          apply Tail.Gq.p
          · intro wq
            (go_simp; first | exact Tail.pv_value | exact Tail.pv_skip)
          simp only [Act.put, List.setIfInBounds_toArray, List.set_cons_zero, List.set_cons_succ]
          apply Tail.Gq.r
          · intro wq hc hq
            (have q0 := keep (cls hq) C0.out; have a0 := keep (cls hq) A0.out; have a1 := keep (cls hq) A1.out; have a2 := keep (cls hq) A2.out; have b0 := keep (cls hq) B0.out; have b1 := keep (cls hq) B1.out; have b2 := keep (cls hq) B2.out; clear hc; go_simp; first | exact q2_value | exact q2_skip)
          simp only [Act.put, List.setIfInBounds_toArray, List.set_cons_zero, List.set_cons_succ]
          apply Tail.Gq.p
          · intro wq
            (go_simp; first | exact Tail.pv_value | exact Tail.pv_skip)
          simp only [Act.put, List.setIfInBounds_toArray, List.set_cons_zero, List.set_cons_succ]
          apply Tail.Gq.p
          · intro wq
            (go_simp; first | exact Tail.pv_value | exact Tail.pv_skip)
          simp only [Act.put, List.setIfInBounds_toArray, List.set_cons_zero, List.set_cons_succ]
          apply Tail.Gq.r
          · intro wq hc hq
            (have q0 := keep (cls hq) C0.out; have a0 := keep (cls hq) A0.out; have a1 := keep (cls hq) A1.out; have a2 := keep (cls hq) A2.out; have b0 := keep (cls hq) B0.out; have b1 := keep (cls hq) B1.out; have b2 := keep (cls hq) B2.out; clear hc; go_simp; first | exact q2_value | exact q2_skip)
          simp only [Act.put, List.setIfInBounds_toArray, List.set_cons_zero, List.set_cons_succ]
          apply Tail.Gq.p
          · intro wq
            (go_simp; first | exact Tail.pv_value | exact Tail.pv_skip)
          simp only [Act.put, List.setIfInBounds_toArray, List.set_cons_zero, List.set_cons_succ]
          apply Tail.Gq.t
          apply Tail.Gq.p
          · intro wq
            (go_simp; first | exact Tail.pv_value | exact Tail.pv_skip)
          simp only [Act.put, List.setIfInBounds_toArray, List.set_cons_zero, List.set_cons_succ]
          apply Tail.Gq.t
          refine Tail.Gq.nil ⟨by kernel_rfl, fun w4 hb4 => ?_⟩
          simp only [List.reverse_cons, List.reverse_nil, List.nil_append, List.cons_append]
          have Q4 := Lib.hid (keepQ' hb4 QI.out); have O4 := Lib.hid (ownG_keep hb4 OI.out); have T4 := Lib.hid (t3_keep hb4 TI.out); have W4 := Lib.hid (bg_nextq WI.out QI.out hb4)
          have FR4 := ownG_free O4.out
          have a0' := keep hb4 A0.out; have a1' := keep hb4 A1.out; have a2' := keep hb4 A2.out; have b0' := keep hb4 B0.out; have b1' := keep hb4 B1.out; have b2' := keep hb4 B2.out
          clear hb4
          go_wp2_with fail
          simp only [Kit.Ends]
          go_wp2_with fail
          go_roundw
          case rel =>
            exact ⟨j, sw h i j, Or.inl l2', by go_num, HE.out, qb_far (qb_far (qb_far (qb_far (qb_far (qb_far Q4.out _ hne1 _) _ hne1 _) _ hne1 _) _ hne1 _) _ hne1 _) _ hne1 _, SWO.out _ O4.out, SWK.out, t3_far (t3_far (t3_far (t3_far (t3_far (t3_far T4.out _ hne3 _) _ hne3 _) _ hne3 _) _ hne3 _) _ hne3 _) _ hne3 _, bg_set (bg_set (bg_set (bg_set (bg_set (bg_set W4.out hgq' _) hgq' _) hgq' _) hgq' _) hgq' _) hgq' _⟩
          case measure => simp [intOf]; omega
end Ki
end Heap
end Go.Proofs.Ytjmfopihfnpcpaa
