/- What fly.Check and fly.At return, whole. -/
import Derived.Test.YteaccanhahmclaaAt
namespace Go.Proofs.Yteaccanhahmclaa
open Go.RowKit
namespace Path
open Kit Plane
abbrev CkC (v : Value) (E : Int) (w : World) : Prop := ∀ w1 : World, Below w.heap.size w w1 → Calls Try.prog 88 #[v] w1 fun e w' => e = .returned (.int .i64 E) ∧ Below w1.heap.size w1 w'
theorem checkC {v : Value} {n : Nat} {T X Y H : Nat → Int} {w : World} (hv : PV w v n T X Y H) : CkC v (pchk T X Y H n) w := fun w1 hb => by
  rcases hv with ⟨h0, hv⟩ | ⟨h0, b, off, cap, hv, h1, h2, h3⟩
  · subst h0
    have e : pchk T X Y H 0 = 3 := rfl
    rw [e]
    rcases hv with hv | ⟨a, cap, hv, _⟩
    · subst hv; exact (check_nil w1).mono fun e w' ⟨he, hw⟩ => ⟨he, hw ▸ Below.refl _ _⟩
    · subst hv; exact (check_empty a cap w1).mono fun e w' ⟨he, hw⟩ => ⟨he, hw ▸ Below.refl _ _⟩
  · subst hv
    have hm : cap ≤ 9223372036854775807 := Nat.le_trans h2 (by decide)
    by_cases hl : 64 < n
    · have e : pchk T X Y H n = 2 := if_pos hl
      rw [e]
      exact (check_large n cap b off w1 hl h1 hm).mono fun e w' ⟨he, hw⟩ => ⟨he, hw ▸ Below.refl _ _⟩
    · have e : pchk T X Y H n = nchk T X Y H n := by unfold pchk; rw [if_neg hl, if_neg (by omega)]
      rw [e]
      exact check_nodes n cap b off T X Y H w1 h0 (by omega) h1 hm (Lib.hid fun k hk => n4_keep hb (h3 k hk))
set_option maxHeartbeats 600000 in
theorem At_bad (v : Value) (t E : Int) (w : World) (C : Hid (CkC v E w)) (_hE1 : (E == 0) = false) (hE2 : (E != 0) = true) :
    Calls Try.prog 40 #[v, .int .i64 t] w fun e w' => e = .returned (.tuple #[.agg #[.int .i64 0, .int .i64 0, .int .i64 0, .int .i64 0], .int .i64 E]) ∧ Below w.heap.size w w' := by
  go_enter Try.func40, Try.ntmps40
  have hz := z4_new w 68
  have hw := b_alloc (Below.refl w.heap.size w) (.cells #[.int .i64 0, .int .i64 0, .int .i64 0, .int .i64 0] 68)
  go_wp2_with fail
  refine (C.out _ hw).mono ?_; rintro e w1 ⟨rfl, hb⟩
  replace hz := z4_keep hb hz
  replace hw := b_next hw hb
  clear hb
  go_wp2_with fail
  have c := c4_set (0) (0) (0) (0) hz.1
  refine bodyPost_ret (v := .tuple #[.agg #[.int .i64 (0), .int .i64 (0), .int .i64 (0), .int .i64 (0)], .int .i64 (E)]) (by simp [results, Try.results40, go_sem, c.1.1, c.1.2, c.2.1, c.2.2]) rfl ⟨rfl, b_set (b_set (b_set (b_set hw (Nat.le_refl _) _) (Nat.le_refl _) _) (Nat.le_refl _) _) (Nat.le_refl _) _⟩
abbrev AtC (v : Value) (t px py h : Int) (w : World) : Prop := ∀ w1 : World, Below w.heap.size w w1 → Calls Try.prog 90 #[v, .int .i64 t] w1 fun e w' => e = .returned (.agg #[.int .i64 t, .int .i64 px, .int .i64 py, .int .i64 h]) ∧ Below w1.heap.size w1 w'
set_option maxHeartbeats 600000 in
theorem At_early (n cap b off : Nat) (T X Y H : Nat → Int) (t : Int) (w : World) (h0 : 0 < n) (hn : n ≤ 64) (_hc : n ≤ cap) (HV : Hid (∀ k, k < n → N4 w b off k (T k) (X k) (Y k) (H k))) (C : Hid (CkC (.slice (some ⟨b, off, none⟩) n cap) 0 w)) (ht : t < T 0) :
    Calls Try.prog 40 #[.slice (some ⟨b, off, none⟩) n cap, .int .i64 t] w fun e w' => e = .returned (.tuple #[.agg #[.int .i64 0, .int .i64 0, .int .i64 0, .int .i64 0], .int .i64 12]) ∧ Below w.heap.size w w' := by
  go_enter Try.func40, Try.ntmps40
  have hz := z4_new w 68
  have hw := b_alloc (Below.refl w.heap.size w) (.cells #[.int .i64 0, .int .i64 0, .int .i64 0, .int .i64 0] 68)
  go_wp2_with fail
  refine (C.out _ hw).mono ?_; rintro e w1 ⟨rfl, hb⟩
  replace hz := z4_keep hb hz
  replace hw := b_next hw hb
  obtain ⟨⟨c0, c1⟩, c2, c3⟩ := n4_keep hw (HV.out 0 h0)
  rw [Nat.zero_mul, Nat.add_zero] at c0
  clear hb
  have u0 : (0 : Int) < (n : Int) := by omega
  go_wp2_with fail
  have c := c4_set (0) (0) (0) (0) hz.1
  refine bodyPost_ret (v := .tuple #[.agg #[.int .i64 (0), .int .i64 (0), .int .i64 (0), .int .i64 (0)], .int .i64 (12)]) (by simp [results, Try.results40, go_sem, c.1.1, c.1.2, c.2.1, c.2.2]) rfl ⟨rfl, b_set (b_set (b_set (b_set hw (Nat.le_refl _) _) (Nat.le_refl _) _) (Nat.le_refl _) _) (Nat.le_refl _) _⟩
set_option maxHeartbeats 600000 in
theorem At_late (n cap b off : Nat) (T X Y H : Nat → Int) (t : Int) (w : World) (h0 : 0 < n) (hn : n ≤ 64) (_hc : n ≤ cap) (HV : Hid (∀ k, k < n → N4 w b off k (T k) (X k) (Y k) (H k))) (C : Hid (CkC (.slice (some ⟨b, off, none⟩) n cap) 0 w)) (ht : ¬ t < T 0) (ht2 : T (n - 1) < t) :
    Calls Try.prog 40 #[.slice (some ⟨b, off, none⟩) n cap, .int .i64 t] w fun e w' => e = .returned (.tuple #[.agg #[.int .i64 0, .int .i64 0, .int .i64 0, .int .i64 0], .int .i64 12]) ∧ Below w.heap.size w w' := by
  go_enter Try.func40, Try.ntmps40
  have hz := z4_new w 68
  have hw := b_alloc (Below.refl w.heap.size w) (.cells #[.int .i64 0, .int .i64 0, .int .i64 0, .int .i64 0] 68)
  go_wp2_with fail
  refine (C.out _ hw).mono ?_; rintro e w1 ⟨rfl, hb⟩
  replace hz := z4_keep hb hz
  replace hw := b_next hw hb
  obtain ⟨⟨c0, c1⟩, c2, c3⟩ := n4_keep hw (HV.out 0 h0)
  rw [Nat.zero_mul, Nat.add_zero] at c0
  clear hb
  obtain ⟨⟨e0, e1⟩, e2, e3⟩ := n4_keep hw (HV.out (n - 1) (by omega))
  have u0 : (0 : Int) < (n : Int) := by omega
  have u1 : IntKind.i64.wrap ((n : Int) - 1) = ((n - 1 : Nat) : Int) := by rw [IntWalk.i64_in _ (by omega)]; omega
  have u2 : ((n - 1 : Nat) : Int) < (n : Int) := by omega
  have u3 : (n : Int) - 1 = ((n - 1 : Nat) : Int) := by omega
  go_wp2_with fail
  have c := c4_set (0) (0) (0) (0) hz.1
  refine bodyPost_ret (v := .tuple #[.agg #[.int .i64 (0), .int .i64 (0), .int .i64 (0), .int .i64 (0)], .int .i64 (12)]) (by simp [results, Try.results40, go_sem, c.1.1, c.1.2, c.2.1, c.2.2]) rfl ⟨rfl, b_set (b_set (b_set (b_set hw (Nat.le_refl _) _) (Nat.le_refl _) _) (Nat.le_refl _) _) (Nat.le_refl _) _⟩
set_option maxHeartbeats 600000 in
theorem At_ok (n cap b off : Nat) (T X Y H : Nat → Int) (t px py h : Int) (w : World) (h0 : 0 < n) (hn : n ≤ 64) (_hc : n ≤ cap) (HV : Hid (∀ k, k < n → N4 w b off k (T k) (X k) (Y k) (H k))) (C : Hid (CkC (.slice (some ⟨b, off, none⟩) n cap) 0 w)) (ht : ¬ t < T 0) (ht2 : ¬ T (n - 1) < t) (A : Hid (AtC (.slice (some ⟨b, off, none⟩) n cap) t px py h w)) :
    Calls Try.prog 40 #[.slice (some ⟨b, off, none⟩) n cap, .int .i64 t] w fun e w' => e = .returned (.tuple #[.agg #[.int .i64 t, .int .i64 px, .int .i64 py, .int .i64 h], .int .i64 0]) ∧ Below w.heap.size w w' := by
  go_enter Try.func40, Try.ntmps40
  have hz := z4_new w 68
  have hw := b_alloc (Below.refl w.heap.size w) (.cells #[.int .i64 0, .int .i64 0, .int .i64 0, .int .i64 0] 68)
  go_wp2_with fail
  refine (C.out _ hw).mono ?_; rintro e w1 ⟨rfl, hb⟩
  replace hz := z4_keep hb hz
  replace hw := b_next hw hb
  obtain ⟨⟨c0, c1⟩, c2, c3⟩ := n4_keep hw (HV.out 0 h0)
  rw [Nat.zero_mul, Nat.add_zero] at c0
  clear hb
  obtain ⟨⟨e0, e1⟩, e2, e3⟩ := n4_keep hw (HV.out (n - 1) (by omega))
  have u0 : (0 : Int) < (n : Int) := by omega
  have u1 : IntKind.i64.wrap ((n : Int) - 1) = ((n - 1 : Nat) : Int) := by rw [IntWalk.i64_in _ (by omega)]; omega
  have u2 : ((n - 1 : Nat) : Int) < (n : Int) := by omega
  have u3 : (n : Int) - 1 = ((n - 1 : Nat) : Int) := by omega
  go_wp2_with fail
  refine (A.out _ hw).mono ?_; rintro e w2 ⟨rfl, hb⟩
  replace hz := z4_keep hb hz
  replace hw := b_next hw hb
  clear hb
  go_wp2_with fail
  have c := c4_set (t) (px) (py) (h) hz.1
  refine bodyPost_ret (v := .tuple #[.agg #[.int .i64 (t), .int .i64 (px), .int .i64 (py), .int .i64 (h)], .int .i64 (0)]) (by simp [results, Try.results40, go_sem, c.1.1, c.1.2, c.2.1, c.2.2]) rfl ⟨rfl, b_set (b_set (b_set (b_set hw (Nat.le_refl _) _) (Nat.le_refl _) _) (Nat.le_refl _) _) (Nat.le_refl _) _⟩
end Path
end Go.Proofs.Yteaccanhahmclaa
