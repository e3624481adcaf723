/- Plain laws of tubes, and their cells in memory. -/
import Derived.Test.YteaccanhahmclaaPathP
import Derived.Test.YteaccanhahmclaaKit2
import Derived.Test.YteaccanhahmclaaShapes
namespace Go.Proofs.Yteaccanhahmclaa
open Go.RowKit
namespace Tube
open Kit Plane
section
variable (T X Y H R B : Nat → Int)
/-- What tube.Check says of node i. -/
def terr (i : Nat) : Int := if T i < 0 ∨ 200000 < T i ∨ (0 < i ∧ T i ≤ T (i - 1)) then 12 else if ¬ good (X i) (Y i) then 4 else if H i < 0 ∨ 60000 < H i ∨ R i < 0 ∨ 1000000 < R i ∨ B i < 0 ∨ 60000 < B i then 4 else 0
def tchk : Nat → Int
  | 0 => 0
  | k + 1 => if tchk k ≠ 0 then tchk k else terr T X Y H R B k
/-- tube.Check's error. -/
def tck (n : Nat) : Int := if 64 < n then 2 else if n = 0 then 3 else tchk T X Y H R B n
/-- A tube that Check accepts. -/
structure tok (n : Nat) : Prop where
  pos : 0 < n
  small : n ≤ 64
  time : ∀ k, k < n → 0 ≤ T k ∧ T k ≤ 200000
  point : ∀ k, k < n → good (X k) (Y k)
  nums : ∀ k, k < n → (0 ≤ H k ∧ H k ≤ 60000) ∧ (0 ≤ R k ∧ R k ≤ 1000000) ∧ (0 ≤ B k ∧ B k ≤ 60000)
  rise : ∀ k, k + 1 < n → T k < T (k + 1)
variable {T X Y H R B}
theorem terr_ok {i : Nat} : terr T X Y H R B i = 0 ↔ (0 ≤ T i ∧ T i ≤ 200000 ∧ (0 < i → T (i - 1) < T i)) ∧ good (X i) (Y i) ∧ (0 ≤ H i ∧ H i ≤ 60000) ∧ (0 ≤ R i ∧ R i ≤ 1000000) ∧ (0 ≤ B i ∧ B i ≤ 60000) := by
  unfold terr
  constructor
  · intro h
    split at h
    · omega
    · rename_i h1
      split at h
      · omega
      · rename_i h2
        split at h
        · omega
        · rename_i h3
          refine ⟨⟨by omega, by omega, fun h => by omega⟩, Classical.not_not.1 h2, by omega, by omega, by omega⟩
  · rintro ⟨⟨a, b, c⟩, d, e, f, g⟩
    have hn : ¬ (T i < 0 ∨ 200000 < T i ∨ (0 < i ∧ T i ≤ T (i - 1))) := by
      intro h
      rcases h with h | h | ⟨h, h'⟩
      · omega
      · omega
      · have := c h; omega
    rw [if_neg hn, if_neg (fun h => h d), if_neg (by omega)]
theorem tchk_step {k : Nat} (h : tchk T X Y H R B k = 0) : tchk T X Y H R B (k + 1) = terr T X Y H R B k := by
  show (if tchk T X Y H R B k ≠ 0 then _ else _) = _
  rw [if_neg (fun e => e h)]
theorem tchk_stays {k : Nat} (h : tchk T X Y H R B k ≠ 0) : ∀ m, k ≤ m → tchk T X Y H R B m = tchk T X Y H R B k := by
  intro m
  induction m with
  | zero => intro hk; rw [show k = 0 from by omega]
  | succ m ih =>
    intro hk
    rcases Nat.lt_or_ge m k with hl | hl
    · rw [show m + 1 = k from by omega]
    · have e := ih hl
      show (if tchk T X Y H R B m ≠ 0 then _ else _) = _
      rw [if_pos (by rw [e]; exact h), e]
theorem tchk_zero : ∀ n, tchk T X Y H R B n = 0 ↔ ∀ k, k < n → terr T X Y H R B k = 0 := by
  intro n
  induction n with
  | zero => exact ⟨fun _ k hk => absurd hk (Nat.not_lt_zero _), fun _ => rfl⟩
  | succ n ih =>
    constructor
    · intro h
      have h0 : tchk T X Y H R B n = 0 := by
        by_cases h0 : tchk T X Y H R B n = 0
        · exact h0
        · rw [tchk_stays h0 (n + 1) (by omega)] at h; exact absurd h h0
      intro k hk
      rcases Nat.lt_or_ge k n with hl | hl
      · exact ih.1 h0 k hl
      · rw [show k = n from by omega, ← tchk_step h0]; exact h
    · intro h
      have h0 := ih.2 fun k hk => h k (by omega)
      rw [tchk_step h0]; exact h n (by omega)
theorem tck_zero (n : Nat) : tck T X Y H R B n = 0 ↔ tok T X Y H R B n := by
  unfold tck
  by_cases h1 : 64 < n
  · rw [if_pos h1]; exact ⟨fun h => by omega, fun h => by have := h.small; omega⟩
  · rw [if_neg h1]
    by_cases h2 : n = 0
    · rw [if_pos h2]; exact ⟨fun h => by omega, fun h => by have := h.pos; omega⟩
    · rw [if_neg h2, tchk_zero]
      constructor
      · intro h
        refine ⟨by omega, by omega, fun k hk => ?_, fun k hk => ?_, fun k hk => ?_, fun k hk => ?_⟩
        · have := terr_ok.1 (h k hk); exact ⟨this.1.1, this.1.2.1⟩
        · exact (terr_ok.1 (h k hk)).2.1
        · exact (terr_ok.1 (h k hk)).2.2
        · have := (terr_ok.1 (h (k + 1) hk)).1.2.2 (by omega); rw [show k + 1 - 1 = k from by omega] at this; exact this
      · intro h k hk
        refine terr_ok.2 ⟨⟨(h.time k hk).1, (h.time k hk).2, fun hp => ?_⟩, h.point k hk, h.nums k hk⟩
        have := h.rise (k - 1) (by omega); rw [show k - 1 + 1 = k from by omega] at this; exact this
theorem tstop {k n : Nat} {E : Int} (h0 : tchk T X Y H R B k = 0) (hk : k < n) (e : terr T X Y H R B k = E) (hE : E ≠ 0) : tchk T X Y H R B n = E := by
  have h1 := tchk_step h0
  rw [e] at h1
  rw [tchk_stays (by rw [h1]; exact hE) n (by omega), h1]
theorem terr_time {k : Nat} (h : T k < 0 ∨ 200000 < T k ∨ (0 < k ∧ T k ≤ T (k - 1))) : terr T X Y H R B k = 12 := if_pos h
theorem terr_point {k : Nat} (h : ¬ (T k < 0 ∨ 200000 < T k ∨ (0 < k ∧ T k ≤ T (k - 1)))) (g : ¬ good (X k) (Y k)) : terr T X Y H R B k = 4 := by unfold terr; rw [if_neg h, if_pos g]
theorem terr_nums {k : Nat} (h : ¬ (T k < 0 ∨ 200000 < T k ∨ (0 < k ∧ T k ≤ T (k - 1)))) (g : good (X k) (Y k)) (h' : H k < 0 ∨ 60000 < H k ∨ R k < 0 ∨ 1000000 < R k ∨ B k < 0 ∨ 60000 < B k) : terr T X Y H R B k = 4 := by unfold terr; rw [if_neg h, if_neg (fun e => e g), if_pos h']
theorem terr_none {k : Nat} (h : ¬ (T k < 0 ∨ 200000 < T k ∨ (0 < k ∧ T k ≤ T (k - 1)))) (g : good (X k) (Y k)) (h' : ¬ (H k < 0 ∨ 60000 < H k ∨ R k < 0 ∨ 1000000 < R k ∨ B k < 0 ∨ 60000 < B k)) : terr T X Y H R B k = 0 := by unfold terr; rw [if_neg h, if_neg (fun e => e g), if_neg h']
theorem tok_lt {n : Nat} (h : tok T X Y H R B n) : ∀ {i j : Nat}, i < j → j < n → T i < T j := by
  intro i j hij hj
  induction j with
  | zero => omega
  | succ j ih =>
    have := h.rise j hj
    rcases Nat.lt_or_ge i j with hl | hl
    · have := ih hl (by omega); omega
    · rw [show i = j from by omega]; exact this
theorem tok_le {n : Nat} (h : tok T X Y H R B n) {i j : Nat} (hij : i ≤ j) (hj : j < n) : T i ≤ T j := by
  rcases Nat.lt_or_ge i j with hl | hl
  · have := tok_lt h hl hj; omega
  · rw [show i = j from by omega]; exact Int.le_refl _
end
/-- Six cells from an address on. -/
abbrev S6 (w : World) (b o : Nat) (t x y h r d : Int) : Prop := (w.cell? ⟨b, o, none⟩ = some (.int .i64 t) ∧ w.cell? ⟨b, o + 1, none⟩ = some (.int .i64 x) ∧ w.cell? ⟨b, o + 2, none⟩ = some (.int .i64 y)) ∧ (w.cell? ⟨b, o + 3, none⟩ = some (.int .i64 h) ∧ w.cell? ⟨b, o + 4, none⟩ = some (.int .i64 r) ∧ w.cell? ⟨b, o + 5, none⟩ = some (.int .i64 d))
theorem s6_keep {W w1 : World} (hb : Below W.heap.size W w1) {b o : Nat} {t x y h r d : Int} (hn : S6 W b o t x y h r d) : S6 w1 b o t x y h r d := ⟨⟨keep hb hn.1.1, keep hb hn.1.2.1, keep hb hn.1.2.2⟩, ⟨keep hb hn.2.1, keep hb hn.2.2.1, keep hb hn.2.2.2⟩⟩
/-- A node in a block of its own. -/
abbrev D6 (w : World) (b : Nat) (t x y h r d : Int) : Prop := (w.cell? ⟨b, 0, none⟩ = some (.int .i64 t) ∧ w.cell? ⟨b, 1, none⟩ = some (.int .i64 x) ∧ w.cell? ⟨b, 2, none⟩ = some (.int .i64 y)) ∧ (w.cell? ⟨b, 3, none⟩ = some (.int .i64 h) ∧ w.cell? ⟨b, 4, none⟩ = some (.int .i64 r) ∧ w.cell? ⟨b, 5, none⟩ = some (.int .i64 d))
theorem d6_keep {W w1 : World} (hb : Below W.heap.size W w1) {b : Nat} {t x y h r d : Int} (hn : D6 W b t x y h r d) : D6 w1 b t x y h r d := ⟨⟨keep hb hn.1.1, keep hb hn.1.2.1, keep hb hn.1.2.2⟩, ⟨keep hb hn.2.1, keep hb hn.2.2.1, keep hb hn.2.2.2⟩⟩
theorem d6_new (w : World) (ty : TypeId) (t x y h r d : Int) : D6 (w.alloc (.cells #[.int .i64 t, .int .i64 x, .int .i64 y, .int .i64 h, .int .i64 r, .int .i64 d] ty)) w.heap.size t x y h r d := ⟨⟨by simp, by simp, by simp⟩, ⟨by simp, by simp, by simp⟩⟩
/-- A tube in memory: nil, empty, or n nodes from an address on. -/
def TV (w : World) (v : Value) (n : Nat) (T X Y H R B : Nat → Int) : Prop :=
  (n = 0 ∧ (v = .slice none 0 0 ∨ ∃ a cap, v = .slice (some a) 0 cap ∧ cap ≤ maxLen)) ∨ (0 < n ∧ ∃ b off cap, v = .slice (some ⟨b, off, none⟩) n cap ∧ n ≤ cap ∧ cap ≤ maxLen ∧ ∀ k, k < n → S6 w b (off + k * 6) (T k) (X k) (Y k) (H k) (R k) (B k))
theorem tv_keep {W w1 : World} (hb : Below W.heap.size W w1) {v : Value} {n : Nat} {T X Y H R B : Nat → Int} (h : TV W v n T X Y H R B) : TV w1 v n T X Y H R B := by
  rcases h with h | ⟨h0, b, off, cap, hv, h1, h2, h3⟩
  · exact Or.inl h
  · exact Or.inr ⟨h0, b, off, cap, hv, h1, h2, fun k hk => s6_keep hb (h3 k hk)⟩
theorem tv_slice {w : World} {v : Value} {n : Nat} {T X Y H R B : Nat → Int} (h : TV w v n T X Y H R B) : ∃ A cap, v = .slice A n cap ∧ n ≤ cap ∧ cap ≤ maxLen := by
  rcases h with ⟨h0, rfl | ⟨a, cap, rfl, hc⟩⟩ | ⟨h0, b, off, cap, rfl, h1, h2, h3⟩
  · exact ⟨none, 0, by rw [h0], by omega, by decide⟩
  · exact ⟨some a, cap, by rw [h0], by omega, hc⟩
  · exact ⟨_, cap, rfl, h1, h2⟩
theorem tv_of {W : World} {v : Value} (h : Frame.Okc W (.sl [.int, .int, .int, .int, .int, .int]) v) : ∃ n T X Y H R B, TV W v n T X Y H R B := by
  rcases h.sl_inv with rfl | ⟨a, cap, rfl, hc⟩ | ⟨b, off, len, cap, cells, rfl, h0, h1, h2, hc, ho⟩
  · exact ⟨0, fun _ => 0, fun _ => 0, fun _ => 0, fun _ => 0, fun _ => 0, fun _ => 0, Or.inl ⟨rfl, Or.inl rfl⟩⟩
  · exact ⟨0, fun _ => 0, fun _ => 0, fun _ => 0, fun _ => 0, fun _ => 0, fun _ => 0, Or.inl ⟨rfl, Or.inr ⟨a, cap, rfl, hc⟩⟩⟩
  · have z : ∀ i, i < len → ∀ j (hj : j < 6), ∃ n : Int, cells i j = .int .i64 n := fun i hi j hj => by
      have hk := ho i hi j hj
      have hj' : j = 0 ∨ j = 1 ∨ j = 2 ∨ j = 3 ∨ j = 4 ∨ j = 5 := by omega
      rcases hj' with rfl | rfl | rfl | rfl | rfl | rfl <;> (obtain ⟨n, e, _⟩ := hk.int_inv; exact ⟨n, e⟩)
    let g : Nat → Nat → Int := fun i j => match cells i j with | .int _ n => n | _ => 0
    have hg : ∀ i, i < len → ∀ j, j < 6 → W.cell? ⟨b, off + i * 6 + j, none⟩ = some (.int .i64 (g i j)) := fun i hi j hj => by
      obtain ⟨n, e⟩ := z i hi j hj
      have hcc := hc i hi j hj
      show W.cell? _ = some (.int .i64 (match cells i j with | .int _ n => n | _ => 0))
      rw [e] at hcc ⊢
      exact hcc
    exact ⟨len, fun i => g i 0, fun i => g i 1, fun i => g i 2, fun i => g i 3, fun i => g i 4, fun i => g i 5, Or.inr ⟨h0, b, off, cap, rfl, h1, h2, fun k hk => ⟨⟨hg k hk 0 (by decide), hg k hk 1 (by decide), hg k hk 2 (by decide)⟩, ⟨hg k hk 3 (by decide), hg k hk 4 (by decide), hg k hk 5 (by decide)⟩⟩⟩⟩
end Tube
end Go.Proofs.Yteaccanhahmclaa
