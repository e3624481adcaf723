/- near and planeWorks of the statements' own helpers. -/
import Derived.Test.YtlgdcpkjobbnnaaPlane
namespace Go.Proofs.Ytlgdcpkjobbnnaa
open Go.RowKit
namespace Plane
open Kit
def allGood (xs ys : Nat → Int) : Nat → Bool
  | 0 => true
  | n + 1 => allGood xs ys n && goodB (xs n) (ys n)
theorem allGood_iff (xs ys : Nat → Int) (n : Nat) : allGood xs ys n = true ↔ ∀ k, k < n → good (xs k) (ys k) := by
  induction n with
  | zero => exact ⟨fun _ k hk => absurd hk (Nat.not_lt_zero _), fun _ => rfl⟩
  | succ n ih =>
    unfold allGood
    rw [Bool.and_eq_true, ih, goodB_iff]
    refine ⟨fun h k hk => ?_, fun h => ⟨fun k hk => h k (by omega), h n (by omega)⟩⟩
    rcases Nat.lt_or_ge k n with h1 | h1
    · exact h.1 k h1
    · rw [show k = n from by omega]; exact h.2
theorem allGood_false {xs ys : Nat → Int} {n k : Nat} (hk : k < n) (h : goodB (xs k) (ys k) = false) : allGood xs ys n = false := by
  cases hh : allGood xs ys n with
  | false => rfl
  | true => have := goodB_iff.2 ((allGood_iff xs ys n).1 hh k hk); rw [h] at this; cases this
set_option maxHeartbeats 1000000 in
theorem near (xs ys : Nat → Int) (n b : Nat) (w : World) (hn : n ≤ 1000) (hb : b < w.heap.size) (hx : ∀ k, k < n → w.cell? ⟨b, k * 2, none⟩ = some (.int .i64 (xs k))) (hy : ∀ k, k < n → w.cell? ⟨b, k * 2 + 1, none⟩ = some (.int .i64 (ys k))) :
    Calls Try.prog 16 #[.slice (some ⟨b, 0, none⟩) n n] w fun e w' => e = .returned (.bool (allGood xs ys n)) ∧ Below w.heap.size w w' := by
  have HX := Lib.hid hx; have HY := Lib.hid hy; clear hx hy
  go_enter Try.func16, Try.ntmps16
  go_wp2
  go_loopw [7] (fun i wr => ∃ k : Nat, k ≤ n ∧ allGood xs ys k = true ∧ i = .int .i64 k ∧ Below w.heap.size w wr) (fun i _ => n - (intOf i).toNat)
  case atStart => exact ⟨0, Nat.zero_le _, rfl, rfl, Below.refl _ _⟩
  case round =>
    obtain ⟨k, hk, hg, rfl, hbl⟩ := hrel
    have HG := Lib.hid hg; clear hg
    by_cases hlt : k < n
    · have cx : wr.cell? ⟨b, k * 2, none⟩ = some (.int .i64 (xs k)) := (hbl.cell (p := ⟨b, k * 2, none⟩) hb).trans (HX.out k hlt)
      have cy : wr.cell? ⟨b, k * 2 + 1, none⟩ = some (.int .i64 (ys k)) := (hbl.cell (p := ⟨b, k * 2 + 1, none⟩) hb).trans (HY.out k hlt)
      cases hgd : goodB (xs k) (ys k) with
      | false =>
        have HF := Lib.hid (allGood_false hlt hgd)
        have c := fun w => goodC (xs k) (ys k) w
        rw [hgd] at c
        have C := Lib.hid c; clear c hgd
        go_wp2_with fail
        refine (C.out _).mono ?_; rintro e w1 ⟨rfl, hb1⟩
        go_wp2_with fail
        go_ret
        exact ⟨retb HF.out.symm, b_next (b_alloc hbl _) hb1⟩
      | true =>
        have c := fun w => goodC (xs k) (ys k) w
        rw [hgd] at c
        have hs : allGood xs ys (k + 1) = true := by show (allGood xs ys k && goodB (xs k) (ys k)) = true; rw [HG.out, hgd]; rfl
        have HS := Lib.hid hs
        have C := Lib.hid c; clear c hgd hs
        go_wp2_with fail
        refine (C.out _).mono ?_; rintro e w1 ⟨rfl, hb1⟩
        go_wp2_with fail
        go_roundw
        case rel => exact ⟨k + 1, by omega, HS.out, by go_num, b_next (b_alloc hbl _) hb1⟩
        case measure => simp [intOf]; omega
    · have he : k = n := by omega
      have HE := Lib.hid he; clear he
      go_wp2_with fail
      go_ret
      exact ⟨retb (by rw [← HE.out, HG.out]), hbl⟩
def px (a b c : Int) : Nat → Int := fun k => if k = 0 then a else if k = 1 then b else c
abbrev N (xs ys : Nat → Int) (r : Bool) : Prop := ∀ (b : Nat) (w : World), b < w.heap.size → (∀ k, k < 3 → w.cell? ⟨b, k * 2, none⟩ = some (.int .i64 (xs k))) → (∀ k, k < 3 → w.cell? ⟨b, k * 2 + 1, none⟩ = some (.int .i64 (ys k))) →
    Calls Try.prog 16 #[.slice (some ⟨b, 0, none⟩) 3 3] w fun e w' => e = .returned (.bool r) ∧ Below w.heap.size w w'
theorem near_x (w : World) (t : TypeId) (ax ay bx by' cx cy : Int) (b : Nat) (hb : b = w.heap.size := by simp) : ∀ k, k < 3 → (w.alloc (.cells #[.int .i64 ax, .int .i64 ay, .int .i64 bx, .int .i64 by', .int .i64 cx, .int .i64 cy] t)).cell? ⟨b, k * 2, none⟩ = some (.int .i64 (px ax bx cx k))
  | 0, _ => by subst hb; simp [px]
  | 1, _ => by subst hb; simp [px]
  | 2, _ => by subst hb; simp [px]
theorem near_y (w : World) (t : TypeId) (ax ay bx by' cx cy : Int) (b : Nat) (hb : b = w.heap.size := by simp) : ∀ k, k < 3 → (w.alloc (.cells #[.int .i64 ax, .int .i64 ay, .int .i64 bx, .int .i64 by', .int .i64 cx, .int .i64 cy] t)).cell? ⟨b, k * 2 + 1, none⟩ = some (.int .i64 (px ay by' cy k))
  | 0, _ => by subst hb; simp [px]
  | 1, _ => by subst hb; simp [px]
  | 2, _ => by subst hb; simp [px]
theorem near3 (ax ay bx by' cx cy : Int) (r : Bool) (h : allGood (px ax bx cx) (px ay by' cy) 3 = r) : N (px ax bx cx) (px ay by' cy) r := fun b w hb hx hy => by
  have c := near (px ax bx cx) (px ay by' cy) 3 b w (by omega) hb hx hy
  rw [h] at c
  exact c
def px2 (a b : Int) : Nat → Int := fun k => if k = 0 then a else b
abbrev N2 (xs ys : Nat → Int) (r : Bool) : Prop := ∀ (b : Nat) (w : World), b < w.heap.size → (∀ k, k < 2 → w.cell? ⟨b, k * 2, none⟩ = some (.int .i64 (xs k))) → (∀ k, k < 2 → w.cell? ⟨b, k * 2 + 1, none⟩ = some (.int .i64 (ys k))) →
    Calls Try.prog 16 #[.slice (some ⟨b, 0, none⟩) 2 2] w fun e w' => e = .returned (.bool r) ∧ Below w.heap.size w w'
theorem near_x2 (w : World) (t : TypeId) (ax ay bx by' : Int) (b : Nat) (hb : b = w.heap.size := by simp) : ∀ k, k < 2 → (w.alloc (.cells #[.int .i64 ax, .int .i64 ay, .int .i64 bx, .int .i64 by'] t)).cell? ⟨b, k * 2, none⟩ = some (.int .i64 (px2 ax bx k))
  | 0, _ => by subst hb; simp [px2]
  | 1, _ => by subst hb; simp [px2]
theorem near_y2 (w : World) (t : TypeId) (ax ay bx by' : Int) (b : Nat) (hb : b = w.heap.size := by simp) : ∀ k, k < 2 → (w.alloc (.cells #[.int .i64 ax, .int .i64 ay, .int .i64 bx, .int .i64 by'] t)).cell? ⟨b, k * 2 + 1, none⟩ = some (.int .i64 (px2 ay by' k))
  | 0, _ => by subst hb; simp [px2]
  | 1, _ => by subst hb; simp [px2]
theorem near2 (ax ay bx by' : Int) (r : Bool) (h : allGood (px2 ax bx) (px2 ay by') 2 = r) : N2 (px2 ax bx) (px2 ay by') r := fun b w hb hx hy => by
  have c := near (px2 ax bx) (px2 ay by') 2 b w (by omega) hb hx hy
  rw [h] at c
  exact c
theorem works_facts : sqr 0 0 3 5 = 34 ∧ sqr 0 0 3 4 = 25 ∧ inB 25 5 = true ∧ inB 25 4 = false := by decide
theorem works_root : root 34 = 5 ∧ dup 34 = 6 := by
  have h : root 34 = 5 := root_unique (by omega) (by omega) (by omega)
  refine ⟨h, ?_⟩
  unfold dup; rw [h, if_pos (by omega)]; rfl
end Plane
end Go.Proofs.Ytlgdcpkjobbnnaa
