/- Plain facts on paths: nodes by their index. No program. -/
import Derived.Test.YteaccanhahmclaaPlaneP
import Derived.Test.YteaccanhahmclaaKit
namespace Go.Proofs.Yteaccanhahmclaa
open Go.RowKit
namespace Path
open Kit Plane
section
variable (T X Y H : Nat → Int)
/-- What is wrong with node i. -/
def nerr (i : Nat) : Int := if T i < 0 ∨ 200000 < T i ∨ (0 < i ∧ T i ≤ T (i - 1)) then 12 else if ¬ good (X i) (Y i) then 4 else if H i < 0 ∨ 60000 < H i then 4 else 0
def nchk : Nat → Int
  | 0 => 0
  | k + 1 => if nchk k ≠ 0 then nchk k else nerr T X Y H k
/-- fly.Check's error. -/
def pchk (n : Nat) : Int := if 64 < n then 2 else if n = 0 then 3 else nchk T X Y H n
/-- A path that Check accepts. -/
def pok (n : Nat) : Prop := 0 < n ∧ n ≤ 64 ∧ (∀ k, k < n → 0 ≤ T k ∧ T k ≤ 200000 ∧ good (X k) (Y k) ∧ 0 ≤ H k ∧ H k ≤ 60000) ∧ ∀ k, k + 1 < n → T k < T (k + 1)
variable {T X Y H}
theorem nerr_ok {i : Nat} : nerr T X Y H i = 0 ↔ (0 ≤ T i ∧ T i ≤ 200000 ∧ (0 < i → T (i - 1) < T i)) ∧ good (X i) (Y i) ∧ 0 ≤ H i ∧ H i ≤ 60000 := by
  unfold nerr
  constructor
  · intro h
    split at h
    · omega
    · rename_i h1
      split at h
      · omega
      · rename_i h2
        split at h
        · omega
        · rename_i h3
          refine ⟨⟨by omega, by omega, fun h => by omega⟩, Classical.not_not.1 h2, by omega, by omega⟩
  · rintro ⟨⟨a, b, c⟩, d, e, f⟩
    have hn : ¬ (T i < 0 ∨ 200000 < T i ∨ (0 < i ∧ T i ≤ T (i - 1))) := by
      intro h
      rcases h with h | h | ⟨h, h'⟩
      · omega
      · omega
      · have := c h; omega
    rw [if_neg hn, if_neg (fun h => h d), if_neg (by omega)]
theorem nchk_step {k : Nat} (h : nchk T X Y H k = 0) : nchk T X Y H (k + 1) = nerr T X Y H k := by
  show (if nchk T X Y H k ≠ 0 then _ else _) = _
  rw [if_neg (fun e => e h)]
theorem nchk_stays {k : Nat} (h : nchk T X Y H k ≠ 0) : ∀ m, k ≤ m → nchk T X Y H m = nchk T X Y H k := by
  intro m
  induction m with
  | zero => intro hk; rw [show k = 0 from by omega]
  | succ m ih =>
    intro hk
    rcases Nat.lt_or_ge m k with hl | hl
    · rw [show m + 1 = k from by omega]
    · have e := ih hl
      show (if nchk T X Y H m ≠ 0 then _ else _) = _
      rw [if_pos (by rw [e]; exact h), e]
theorem nchk_zero : ∀ n, nchk T X Y H n = 0 ↔ ∀ k, k < n → nerr T X Y H k = 0 := by
  intro n
  induction n with
  | zero => exact ⟨fun _ k hk => absurd hk (Nat.not_lt_zero _), fun _ => rfl⟩
  | succ n ih =>
    constructor
    · intro h
      have h0 : nchk T X Y H n = 0 := by
        by_cases h0 : nchk T X Y H n = 0
        · exact h0
        · rw [nchk_stays h0 (n + 1) (by omega)] at h; exact absurd h h0
      intro k hk
      rcases Nat.lt_or_ge k n with hl | hl
      · exact ih.1 h0 k hl
      · rw [show k = n from by omega, ← nchk_step h0]; exact h
    · intro h
      have h0 := ih.2 fun k hk => h k (by omega)
      rw [nchk_step h0]; exact h n (by omega)
theorem pchk_zero (n : Nat) : pchk T X Y H n = 0 ↔ pok T X Y H n := by
  unfold pchk pok
  by_cases h1 : 64 < n
  · rw [if_pos h1]; exact ⟨fun h => by omega, fun h => by omega⟩
  · rw [if_neg h1]
    by_cases h2 : n = 0
    · rw [if_pos h2]; exact ⟨fun h => by omega, fun h => by omega⟩
    · rw [if_neg h2, nchk_zero]
      constructor
      · intro h
        refine ⟨by omega, by omega, fun k hk => ?_, fun k hk => ?_⟩
        · have := nerr_ok.1 (h k hk); exact ⟨this.1.1, this.1.2.1, this.2.1, this.2.2⟩
        · have := (nerr_ok.1 (h (k + 1) hk)).1.2.2 (by omega); rw [show k + 1 - 1 = k from by omega] at this; exact this
      · rintro ⟨_, _, h3, h4⟩ k hk
        obtain ⟨a, b, c, d⟩ := h3 k hk
        refine nerr_ok.2 ⟨⟨a, b, fun hp => ?_⟩, c, d⟩
        have := h4 (k - 1) (by omega); rw [show k - 1 + 1 = k from by omega] at this; exact this
theorem nchk_cases (n : Nat) : nchk T X Y H n = 2 ∨ nchk T X Y H n = 12 ∨ nchk T X Y H n = 4 ∨ nchk T X Y H n = 0 := by
  induction n with
  | zero => exact Or.inr (Or.inr (Or.inr rfl))
  | succ n ih =>
    by_cases h : nchk T X Y H n = 0
    · rw [nchk_step h]; unfold nerr; split <;> (try split) <;> (try split) <;> omega
    · rw [nchk_stays h (n + 1) (by omega)]; exact ih
theorem stop {k n : Nat} {E : Int} (h0 : nchk T X Y H k = 0) (hk : k < n) (e : nerr T X Y H k = E) (hE : E ≠ 0) : nchk T X Y H n = E := by
  have h1 := nchk_step h0
  rw [e] at h1
  rw [nchk_stays (by rw [h1]; exact hE) n (by omega), h1]
theorem nerr_time {k : Nat} (h : T k < 0 ∨ 200000 < T k ∨ (0 < k ∧ T k ≤ T (k - 1))) : nerr T X Y H k = 12 := if_pos h
theorem nerr_point {k : Nat} (h : ¬ (T k < 0 ∨ 200000 < T k ∨ (0 < k ∧ T k ≤ T (k - 1)))) (g : ¬ good (X k) (Y k)) : nerr T X Y H k = 4 := by unfold nerr; rw [if_neg h, if_pos g]
theorem nerr_height {k : Nat} (h : ¬ (T k < 0 ∨ 200000 < T k ∨ (0 < k ∧ T k ≤ T (k - 1)))) (g : good (X k) (Y k)) (h' : H k < 0 ∨ 60000 < H k) : nerr T X Y H k = 4 := by unfold nerr; rw [if_neg h, if_neg (fun e => e g), if_pos h']
theorem nerr_none {k : Nat} (h : ¬ (T k < 0 ∨ 200000 < T k ∨ (0 < k ∧ T k ≤ T (k - 1)))) (g : good (X k) (Y k)) (h' : ¬ (H k < 0 ∨ 60000 < H k)) : nerr T X Y H k = 0 := by unfold nerr; rw [if_neg h, if_neg (fun e => e g), if_neg h']
/-- Times rise. -/
theorem pok_lt {n : Nat} (h : pok T X Y H n) : ∀ {i j : Nat}, i < j → j < n → T i < T j := by
  intro i j hij hj
  induction j with
  | zero => omega
  | succ j ih =>
    have := h.2.2.2 j hj
    rcases Nat.lt_or_ge i j with hl | hl
    · have := ih hl (by omega); omega
    · rw [show i = j from by omega]; exact this
end
/-- Four cells of node k. -/
abbrev N4 (w : World) (b off k : Nat) (t x y h : Int) : Prop := (w.cell? ⟨b, off + k * 4, none⟩ = some (.int .i64 t) ∧ w.cell? ⟨b, off + k * 4 + 1, none⟩ = some (.int .i64 x)) ∧ (w.cell? ⟨b, off + k * 4 + 2, none⟩ = some (.int .i64 y) ∧ w.cell? ⟨b, off + k * 4 + 3, none⟩ = some (.int .i64 h))
theorem n4_keep {W w1 : World} (hb : Below W.heap.size W w1) {b off k : Nat} {t x y h : Int} (hn : N4 W b off k t x y h) : N4 w1 b off k t x y h := ⟨⟨keep hb hn.1.1, keep hb hn.1.2⟩, ⟨keep hb hn.2.1, keep hb hn.2.2⟩⟩
/-- A node in a block of its own. -/
abbrev C4 (w : World) (b : Nat) (t x y h : Int) : Prop := (w.cell? ⟨b, 0, none⟩ = some (.int .i64 t) ∧ w.cell? ⟨b, 1, none⟩ = some (.int .i64 x)) ∧ (w.cell? ⟨b, 2, none⟩ = some (.int .i64 y) ∧ w.cell? ⟨b, 3, none⟩ = some (.int .i64 h))
theorem c4_keep {W w1 : World} (hb : Below W.heap.size W w1) {b : Nat} {t x y h : Int} (hn : C4 W b t x y h) : C4 w1 b t x y h := ⟨⟨keep hb hn.1.1, keep hb hn.1.2⟩, ⟨keep hb hn.2.1, keep hb hn.2.2⟩⟩
theorem c4_alloc {W : World} (o : Obj) {b : Nat} {t x y h : Int} (hn : C4 W b t x y h) : C4 (W.alloc o) b t x y h := c4_keep (b_alloc (Below.refl _ _) o) hn
theorem c4_new (w : World) (ty : TypeId) (t x y h : Int) : C4 (w.alloc (.cells #[.int .i64 t, .int .i64 x, .int .i64 y, .int .i64 h] ty)) w.heap.size t x y h := ⟨⟨by simp, by simp⟩, ⟨by simp, by simp⟩⟩
end Path
end Go.Proofs.Yteaccanhahmclaa
