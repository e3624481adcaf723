/- What next and twice of package polygon return. -/
import Derived.Test.YteaccanhahmclaaPolyA
import Derived.Test.YteaccanhahmclaaShapes
namespace Go.Proofs.Yteaccanhahmclaa
open Go.RowKit
namespace Poly
open Kit Plane
/-- Two cells of element k. -/
abbrev E2 (w : World) (b off k : Nat) (x y : Int) : Prop := w.cell? ⟨b, off + k * 2, none⟩ = some (.int .i64 x) ∧ w.cell? ⟨b, off + k * 2 + 1, none⟩ = some (.int .i64 y)
theorem e2_keep {W w1 : World} (hb : Below W.heap.size W w1) {b off k : Nat} {x y : Int} (h : E2 W b off k x y) : E2 w1 b off k x y := ⟨keep hb h.1, keep hb h.2⟩
/-- A slice of pairs in memory: nil, empty, or n pairs from an address on. -/
def QV (w : World) (v : Value) (n : Nat) (X Y : Nat → Int) : Prop :=
  (n = 0 ∧ (v = .slice none 0 0 ∨ ∃ a cap, v = .slice (some a) 0 cap ∧ cap ≤ maxLen)) ∨ (0 < n ∧ ∃ b off cap, v = .slice (some ⟨b, off, none⟩) n cap ∧ n ≤ cap ∧ cap ≤ maxLen ∧ ∀ k, k < n → E2 w b off k (X k) (Y k))
theorem qv_keep {W w1 : World} (hb : Below W.heap.size W w1) {v : Value} {n : Nat} {X Y : Nat → Int} (h : QV W v n X Y) : QV w1 v n X Y := by
  rcases h with h | ⟨h0, b, off, cap, hv, h1, h2, h3⟩
  · exact Or.inl h
  · exact Or.inr ⟨h0, b, off, cap, hv, h1, h2, fun k hk => e2_keep hb (h3 k hk)⟩
theorem qv_of {W : World} {v : Value} (h : Frame.Okc W (.sl [.int, .int]) v) : ∃ n X Y, QV W v n X Y ∧ ∀ k, (-9223372036854775808 ≤ X k ∧ X k ≤ 9223372036854775807) ∧ (-9223372036854775808 ≤ Y k ∧ Y k ≤ 9223372036854775807) := by
  rcases h.sl_inv with rfl | ⟨a, cap, rfl, hc⟩ | ⟨b, off, len, cap, cells, rfl, h0, h1, h2, hc, ho⟩
  · exact ⟨0, fun _ => 0, fun _ => 0, Or.inl ⟨rfl, Or.inl rfl⟩, fun _ => ⟨⟨by simp, by simp⟩, ⟨by simp, by simp⟩⟩⟩
  · exact ⟨0, fun _ => 0, fun _ => 0, Or.inl ⟨rfl, Or.inr ⟨a, cap, rfl, hc⟩⟩, fun _ => ⟨⟨by simp, by simp⟩, ⟨by simp, by simp⟩⟩⟩
  · have z : ∀ i, i < len → ∀ j (hj : j < 2), ∃ n : Int, cells i j = .int .i64 n ∧ -9223372036854775808 ≤ n ∧ n ≤ 9223372036854775807 := fun i hi j hj => by
      have hk := ho i hi j hj
      have hj' : j = 0 ∨ j = 1 := by omega
      rcases hj' with rfl | rfl <;> exact hk.int_inv
    let g : Nat → Nat → Int := fun i j => if i < len ∧ j < 2 then match cells i j with | .int _ n => n | _ => 0 else 0
    have hg : ∀ i, i < len → ∀ j, j < 2 → W.cell? ⟨b, off + i * 2 + j, none⟩ = some (.int .i64 (g i j)) := fun i hi j hj => by
      obtain ⟨n, e, _⟩ := z i hi j hj
      have hcc := hc i hi j hj
      show W.cell? _ = some (.int .i64 (if i < len ∧ j < 2 then match cells i j with | .int _ n => n | _ => 0 else 0))
      rw [if_pos ⟨hi, hj⟩]
      rw [e] at hcc ⊢
      exact hcc
    have hgb : ∀ i j, -9223372036854775808 ≤ g i j ∧ g i j ≤ 9223372036854775807 := fun i j => by
      show -9223372036854775808 ≤ (if i < len ∧ j < 2 then match cells i j with | .int _ n => n | _ => 0 else 0) ∧ (if i < len ∧ j < 2 then match cells i j with | .int _ n => n | _ => 0 else 0) ≤ 9223372036854775807
      split
      · rename_i hh
        obtain ⟨n, e, hb⟩ := z i hh.1 j hh.2
        rw [e]
        exact hb
      · omega
    exact ⟨len, fun i => g i 0, fun i => g i 1, Or.inr ⟨h0, b, off, cap, rfl, h1, h2, fun k hk => ⟨hg k hk 0 (by decide), hg k hk 1 (by decide)⟩⟩, fun k => ⟨hgb k 0, hgb k 1⟩⟩
/-- The vertex behind i. -/
def nx (n i : Nat) : Nat := (i + 1) % n
theorem nx_lt {n i : Nat} (h : 0 < n) : nx n i < n := Nat.mod_lt _ h
theorem nx_cast {n i : Nat} : ((i : Int) + 1) % (n : Int) = ((nx n i : Nat) : Int) := by unfold nx; rw [Int.natCast_emod]; rfl
abbrev NxC (v : Value) (n : Nat) (X Y : Nat → Int) (i : Nat) (w : World) : Prop := ∀ w1, Below w.heap.size w w1 → Calls Try.prog 148 #[v, .int .i64 i] w1 fun e w' => e = .returned (.agg #[.int .i64 (X (nx n i)), .int .i64 (Y (nx n i))]) ∧ Below w1.heap.size w1 w'
set_option maxHeartbeats 1000000 in
theorem next_w (n cap b off i j : Nat) (x y : Int) (w : World) (h0 : 0 < n) (hi : i < n) (hc : n ≤ cap) (hm : cap ≤ maxLen) (hj : Hid (((i : Int) + 1) % (n : Int) = (j : Int) ∧ E2 w b off j x y)) (hjn : j < n) :
    Calls Try.prog 148 #[.slice (some ⟨b, off, none⟩) n cap, .int .i64 i] w fun e w' => e = .returned (.agg #[.int .i64 x, .int .i64 y]) ∧ Below w.heap.size w w' := by
  unfold maxLen at hm
  go_enter Try.func148, Try.ntmps148
  have hz := b2_new w 43 0 0
  have hw := b_alloc (Below.refl w.heap.size w) (.cells #[.int .i64 0, .int .i64 0] 43)
  obtain ⟨q0, q1⟩ := e2_keep hw hj.out.2
  have hjj := hj.out.1
  have hji : (j : Int) < (n : Int) := by omega
  have hnz : ¬ (n : Int) = 0 := by omega
  have HZ := Lib.hid hz; have HW := Lib.hid hw; clear hz hw
  go_wp2_with fail
  refine bodyPost_ret (v := .agg #[.int .i64 x, .int .i64 y]) (by simp [results, Try.results148, go_sem]) rfl ⟨rfl, b_alloc (Below.refl _ _) _⟩
theorem nextC {v : Value} {n : Nat} {X Y : Nat → Int} {w : World} (hv : QV w v n X Y) {i : Nat} (hi : i < n) : NxC v n X Y i w := fun w1 hb => by
  rcases hv with ⟨h0, -⟩ | ⟨h0, b, off, cap, rfl, h1, h2, h3⟩
  · omega
  · exact next_w n cap b off i (nx n i) _ _ w1 h0 hi h1 h2 (Lib.hid ⟨nx_cast, e2_keep hb (h3 _ (nx_lt h0))⟩) (nx_lt h0)
/-- Twice the area of the first k edges. -/
def asum (n : Nat) (X Y : Nat → Int) : Nat → Int
  | 0 => 0
  | k + 1 => asum n X Y k + (X k * Y (nx n k) - Y k * X (nx n k))
theorem asum_bd {n : Nat} {X Y : Nat → Int} (h0 : 0 < n) (hg : ∀ k, k < n → good (X k) (Y k)) : ∀ k, k ≤ n → -(2000000000000 * (k : Int)) ≤ asum n X Y k ∧ asum n X Y k ≤ 2000000000000 * (k : Int) := by
  intro k
  induction k with
  | zero => intro _; exact ⟨by simp [asum], by simp [asum]⟩
  | succ k ih =>
    intro hk
    have i1 := ih (by omega)
    have g1 := hg k (by omega); have g2 := hg (nx n k) (nx_lt h0)
    have m1 := mul_bd (x := X k) (y := Y (nx n k)) (M := 1000000) (N := 1000000) (by omega) (by omega)
    have m2 := mul_bd (x := Y k) (y := X (nx n k)) (M := 1000000) (N := 1000000) (by omega) (by omega)
    show _ ≤ asum n X Y k + (X k * Y (nx n k) - Y k * X (nx n k)) ∧ asum n X Y k + (X k * Y (nx n k) - Y k * X (nx n k)) ≤ _
    omega
theorem crossG {ax ay bx by' : Int} (ga : good ax ay) (gb : good bx by') (w : World) : Calls Try.prog 181 #[.agg #[.int .i64 ax, .int .i64 ay], .agg #[.int .i64 bx, .int .i64 by']] w fun e w' => e = .returned (.int .i64 (ax * by' - ay * bx)) ∧ Below w.heap.size w w' := by
  have c := cross ax ay bx by' w
  have m1 := mul_bd (x := ax) (y := by') (M := 1000000) (N := 1000000) (by omega) (by omega)
  have m2 := mul_bd (x := ay) (y := bx) (M := 1000000) (N := 1000000) (by omega) (by omega)
  rw [IntWalk.wrap64_in (ax * by') (by omega), IntWalk.wrap64_in (ay * bx) (by omega), IntWalk.wrap64_in _ (by omega)] at c
  exact c
abbrev CsC (ax ay bx by' c : Int) : Prop := ∀ w, Calls Try.prog 181 #[.agg #[.int .i64 ax, .int .i64 ay], .agg #[.int .i64 bx, .int .i64 by']] w fun e w' => e = .returned (.int .i64 c) ∧ Below w.heap.size w w'
set_option maxHeartbeats 2000000 in
theorem twice_w (n cap b off : Nat) (X Y : Nat → Int) (w : World) (h0 : 0 < n) (hn : n ≤ 16) (hc : n ≤ cap) (hm : cap ≤ 9223372036854775807) (HV : Hid (∀ k, k < n → E2 w b off k (X k) (Y k))) (HN : Hid (∀ k, k < n → NxC (.slice (some ⟨b, off, none⟩) n cap) n X Y k w)) (HG : Hid (∀ k, k < n → good (X k) (Y k))) :
    Calls Try.prog 150 #[.slice (some ⟨b, off, none⟩) n cap] w fun e w' => e = .returned (.int .i64 (asum n X Y n)) ∧ Below w.heap.size w w' := by
  go_enter Try.func150, Try.ntmps150
  go_wp2_with fail
  go_loopw [3, 7] (fun s i wr => ∃ k : Nat, k ≤ n ∧ s = .int .i64 (asum n X Y k) ∧ i = .int .i64 k ∧ Below w.heap.size w wr) (fun _ i _ => n - (intOf i).toNat)
  case atStart => exact ⟨0, Nat.zero_le _, rfl, rfl, Below.refl _ _⟩
  case round =>
    obtain ⟨k, hk, rfl, rfl, hbl⟩ := hrel
    by_cases hlt : k < n
    · obtain ⟨c0, c1⟩ := e2_keep hbl (HV.out k hlt)
      have hl : (k : Int) < (n : Int) := by omega
      have NN : Hid (NxC (.slice (some ⟨b, off, none⟩) n cap) n X Y k wr) := Lib.hid fun w1 hb => HN.out k hlt w1 (b_next hbl hb)
      have g1 := HG.out k hlt; have g2 := HG.out (nx n k) (nx_lt h0)
      have CC : Hid (CsC (X k) (Y k) (X (nx n k)) (Y (nx n k)) (X k * Y (nx n k) - Y k * X (nx n k))) := Lib.hid fun w => crossG g1 g2 w
      have u := asum_bd h0 HG.out (k + 1) (by omega)
      have u1 : IntKind.i64.wrap (asum n X Y k + (X k * Y (nx n k) - Y k * X (nx n k))) = asum n X Y (k + 1) := by
        show IntKind.i64.wrap (asum n X Y (k + 1)) = _
        exact IntWalk.i64_in _ (by omega)
      clear g1 g2 u
      go_wp2_with fail
      refine d_region (by kernel_rfl) (by kernel_rfl) ?_
      repeat
        first
          | (refine d_plain (by with_reducible rfl) ?_; apply Exists.intro; refine ⟨fun wq hc hq => ?_, ?_⟩)
          | (refine d_on (by with_reducible rfl) (by rfl) (by with_reducible rfl) ?_; apply Exists.intro; refine ⟨fun wq hc hq => ?_, ?_⟩)
          | (refine d_off (by with_reducible rfl) (by rfl) (by rfl) ?_)
          | (refine d_void (by with_reducible rfl) (by rfl) ?_)
        try any_goals
          (have q0 := keep hq c0; have q1 := keep hq c1; clear hc
           go_simp
           first
             | rfl
             | (go_at_call 148; with_reducible exact call_below hq (NN.out _ (cls hq)))
             | (go_at_call 181; with_reducible exact call_below hq (CC.out _)))
        simp only [Act.put, List.setIfInBounds_toArray, List.set_cons_zero, List.set_cons_succ]
      refine d_nil ?_
      intro w1 hb1
      go_wp2_with fail
      go_roundw
      case rel => first | exact ⟨k + 1, by omega, rfl, by go_num, b_next hbl hb1⟩ | ((repeat apply Exists.intro); exact ⟨⟨k + 1, by omega, rfl, by go_num, b_next hbl hb1⟩, rfl⟩)
      case measure => simp [intOf]; omega
    · have he : k = n := by omega
      have HE := Lib.hid he; clear he
      go_wp2_with fail
      go_ret
      exact ⟨ret1 (by rw [HE.out]), hbl⟩
theorem twiceC {v : Value} {n : Nat} {X Y : Nat → Int} {w : World} (hv : QV w v n X Y) (h0 : 0 < n) (hn : n ≤ 16) (hg : ∀ k, k < n → good (X k) (Y k)) :
    Calls Try.prog 150 #[v] w fun e w' => e = .returned (.int .i64 (asum n X Y n)) ∧ Below w.heap.size w w' := by
  have hN := fun k (hk : k < n) => nextC hv hk
  rcases hv with ⟨h0', -⟩ | ⟨h0, b, off, cap, rfl, h1, h2, h3⟩
  · omega
  · exact twice_w n cap b off X Y w h0 hn h1 (Nat.le_trans h2 (by decide)) (Lib.hid h3) (Lib.hid hN) (Lib.hid hg)
end Poly
end Go.Proofs.Yteaccanhahmclaa
