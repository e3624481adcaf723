/- The addition theorem of the table of sines: within 2 units (plain law). A finer table is made by turning step by step; the addition theorem holds for it but for the roundings. -/
import Derived.Test.YtkapllakofndlaaDoorTab
namespace Go.Proofs.YtkapllakofndlaaDoor
namespace Ang
/-- An integer is reckoned, then k is asked. -/
def fI {α : Type} (i : Int) (k : Int → α) : α := match i with
  | .ofNat n => lt' n fun n => k (.ofNat n)
  | .negSucc n => lt' n fun n => k (.negSucc n)
theorem fI_eq {α : Type} (i : Int) (k : Int → α) : fI i k = k i := by
  cases i with
  | ofNat n => exact lt_eq n (fun n => k (.ofNat n))
  | negSucc n => exact lt_eq n (fun n => k (.negSucc n))
def M : Int := 1152921504606846976
def u : Int := 70368744177664
def E : Int := 35184372088832
def R : Int := 1630576883965441900
def k1 : Int := 1152920148139012899
def k2 : Int := 1768558744408523
def turnC (c s : Int) : Int := (c * k1 - s * k2) / M
def turnS (c s : Int) : Int := (s * k1 + c * k2) / M
/-- Cosine and sine, finely. -/
def Z : Nat → Int × Int
  | 0 => (M, 0)
  | n + 1 => (turnC (Z n).1 (Z n).2, turnS (Z n).1 (Z n).2)
def okZ (n : Nat) (c s : Int) : Bool :=
  decide (-E ≤ S (n % 4096) * u - s ∧ S (n % 4096) * u - s ≤ E ∧ -E ≤ S ((n + 1024) % 4096) * u - c ∧ S ((n + 1024) % 4096) * u - c ≤ E ∧ s + c ≤ R ∧ s - c ≤ R ∧ -s + c ≤ R ∧ -s - c ≤ R)
def loopZ : Nat → Nat → Int → Int → Bool
  | 0, _, _, _ => true
  | f + 1, n, c, s => okZ n c s && fI (turnC c s) fun c' => fI (turnS c s) fun s' => loopZ f (n + 1) c' s'
set_option maxRecDepth 1000000 in
theorem loop_all : loopZ 8192 0 M 0 = true := by decide +kernel
theorem loop_of : ∀ {f n : Nat}, loopZ f n (Z n).1 (Z n).2 = true → ∀ m, n ≤ m → m < n + f → okZ m (Z m).1 (Z m).2 = true
  | 0, n, _, m, h1, h2 => by omega
  | f + 1, n, h, m, h1, h2 => by
    have h' : (okZ n (Z n).1 (Z n).2 && fI (turnC (Z n).1 (Z n).2) fun c' => fI (turnS (Z n).1 (Z n).2) fun s' => loopZ f (n + 1) c' s') = true := h
    rw [Bool.and_eq_true, fI_eq, fI_eq] at h'
    rcases Nat.lt_or_ge n m with hl | hl
    · exact loop_of (f := f) (n := n + 1) h'.2 m hl (by omega)
    · rw [show m = n from by omega]; exact h'.1
structure Near (n : Nat) : Prop where
  s1 : -E ≤ S (n % 4096) * u - (Z n).2
  s2 : S (n % 4096) * u - (Z n).2 ≤ E
  c1 : -E ≤ S ((n + 1024) % 4096) * u - (Z n).1
  c2 : S ((n + 1024) % 4096) * u - (Z n).1 ≤ E
  r1 : (Z n).2 + (Z n).1 ≤ R
  r2 : (Z n).2 - (Z n).1 ≤ R
  r3 : -(Z n).2 + (Z n).1 ≤ R
  r4 : -(Z n).2 - (Z n).1 ≤ R
theorem near_all (n : Nat) (h : n < 8192) : Near n := by
  have q := loop_of (f := 8192) (n := 0) loop_all n (Nat.zero_le _) (by omega)
  unfold okZ at q
  rw [decide_eq_true_eq] at q
  exact ⟨q.1, q.2.1, q.2.2.1, q.2.2.2.1, q.2.2.2.2.1, q.2.2.2.2.2.1, q.2.2.2.2.2.2.1, q.2.2.2.2.2.2.2⟩
/-- How far the roundings go. -/
def B : Nat → Nat
  | 0 => 0
  | n + 1 => B n + B n / 512 + 5
theorem mul_le {a x y : Int} (ha : 0 ≤ a) (h1 : -y ≤ x) (h2 : x ≤ y) : -(a * y) ≤ a * x ∧ a * x ≤ a * y :=
  ⟨by have := Int.mul_le_mul_of_nonneg_left h1 ha; rw [Int.mul_neg] at this; exact this, Int.mul_le_mul_of_nonneg_left h2 ha⟩
theorem turn_c (c s : Int) : M * turnC c s ≤ c * k1 - s * k2 ∧ c * k1 - s * k2 < M * turnC c s + M := by
  unfold turnC
  have h := Int.mul_ediv_add_emod (c * k1 - s * k2) M
  have h1 := Int.emod_nonneg (c * k1 - s * k2) (show M ≠ 0 by decide)
  have h2 := Int.emod_lt_of_pos (c * k1 - s * k2) (show 0 < M by decide)
  omega
theorem turn_s (c s : Int) : M * turnS c s ≤ s * k1 + c * k2 ∧ s * k1 + c * k2 < M * turnS c s + M := by
  unfold turnS
  have h := Int.mul_ediv_add_emod (s * k1 + c * k2) M
  have h1 := Int.emod_nonneg (s * k1 + c * k2) (show M ≠ 0 by decide)
  have h2 := Int.emod_lt_of_pos (s * k1 + c * k2) (show 0 < M by decide)
  omega
/-- |s| + |c| ≤ r and |x|, |y| ≤ e: |s x + c y| ≤ r e. -/
theorem cross_le {s c r x y e : Int} (h1 : s + c ≤ r) (h2 : s - c ≤ r) (h3 : -s + c ≤ r) (h4 : -s - c ≤ r) (he : 0 ≤ e) (x1 : -e ≤ x) (x2 : x ≤ e) (y1 : -e ≤ y) (y2 : y ≤ e) : -(r * e) ≤ s * x + c * y ∧ s * x + c * y ≤ r * e := by
  have key : ∀ p q : Int, p + q ≤ r → (p + q) * e ≤ r * e := fun p q h => Int.mul_le_mul_of_nonneg_right h he
  have k1 := key s c h1
  have k2 : (s - c) * e ≤ r * e := Int.mul_le_mul_of_nonneg_right h2 he
  have k3 : (-s + c) * e ≤ r * e := Int.mul_le_mul_of_nonneg_right h3 he
  have k4 : (-s - c) * e ≤ r * e := Int.mul_le_mul_of_nonneg_right h4 he
  rw [Int.add_mul] at k1 k3
  rw [Int.sub_mul] at k2 k4
  rw [Int.neg_mul] at k3 k4
  rcases (show 0 ≤ s ∨ 0 ≤ -s by omega) with hs | hs <;> rcases (show 0 ≤ c ∨ 0 ≤ -c by omega) with hc | hc <;>
    (have a1 := mul_le hs x1 x2; have a2 := mul_le hc y1 y2; (try simp only [Int.neg_mul] at a1 a2); omega)
/-- The addition theorem of the fine table. -/
theorem add_fine (g : Nat) (hg : g < 4096) : ∀ h, h < 4096 →
    (-(M * (B h : Int)) ≤ M * (Z (g + h)).1 - ((Z g).1 * (Z h).1 - (Z g).2 * (Z h).2) ∧ M * (Z (g + h)).1 - ((Z g).1 * (Z h).1 - (Z g).2 * (Z h).2) ≤ M * (B h : Int)) ∧
    (-(M * (B h : Int)) ≤ M * (Z (g + h)).2 - ((Z g).2 * (Z h).1 + (Z g).1 * (Z h).2) ∧ M * (Z (g + h)).2 - ((Z g).2 * (Z h).1 + (Z g).1 * (Z h).2) ≤ M * (B h : Int)) := by
  intro h
  induction h with
  | zero =>
    intro _
    show (-(M * ((0 : Nat) : Int)) ≤ M * (Z g).1 - ((Z g).1 * M - (Z g).2 * 0) ∧ M * (Z g).1 - ((Z g).1 * M - (Z g).2 * 0) ≤ M * ((0 : Nat) : Int)) ∧ (-(M * ((0 : Nat) : Int)) ≤ M * (Z g).2 - ((Z g).2 * M + (Z g).1 * 0) ∧ M * (Z g).2 - ((Z g).2 * M + (Z g).1 * 0) ≤ M * ((0 : Nat) : Int))
    rw [Int.mul_comm (Z g).1 M, Int.mul_comm (Z g).2 M]
    simp
  | succ h ih =>
    intro hh
    obtain ⟨⟨x1, x2⟩, y1, y2⟩ := ih (by omega)
    have ng := near_all g (by omega)
    show (-(M * (B (h + 1) : Int)) ≤ M * turnC (Z (g + h)).1 (Z (g + h)).2 - ((Z g).1 * turnC (Z h).1 (Z h).2 - (Z g).2 * turnS (Z h).1 (Z h).2) ∧ M * turnC (Z (g + h)).1 (Z (g + h)).2 - ((Z g).1 * turnC (Z h).1 (Z h).2 - (Z g).2 * turnS (Z h).1 (Z h).2) ≤ M * (B (h + 1) : Int)) ∧
      (-(M * (B (h + 1) : Int)) ≤ M * turnS (Z (g + h)).1 (Z (g + h)).2 - ((Z g).2 * turnC (Z h).1 (Z h).2 + (Z g).1 * turnS (Z h).1 (Z h).2) ∧ M * turnS (Z (g + h)).1 (Z (g + h)).2 - ((Z g).2 * turnC (Z h).1 (Z h).2 + (Z g).1 * turnS (Z h).1 (Z h).2) ≤ M * (B (h + 1) : Int))
    have t1 := turn_c (Z (g + h)).1 (Z (g + h)).2
    have t2 := turn_s (Z (g + h)).1 (Z (g + h)).2
    have t3 := turn_c (Z h).1 (Z h).2
    have t4 := turn_s (Z h).1 (Z h).2
    obtain ⟨b, hb⟩ : ∃ b : Int, b = (B h : Int) := ⟨_, rfl⟩
    have hb' : ((B (h + 1) : Nat) : Int) ≥ b + b / 512 + 5 ∧ 0 ≤ b := by
      show ((B h + B h / 512 + 5 : Nat) : Int) ≥ b + b / 512 + 5 ∧ 0 ≤ b
      omega
    obtain ⟨b', hb2⟩ : ∃ b' : Int, b' = (B (h + 1) : Int) := ⟨_, rfl⟩
    rw [← hb] at x1 x2 y1 y2
    rw [← hb2] at hb' ⊢
    obtain ⟨-, -, -, -, g1, g2, g3, g4⟩ := ng
    generalize (Z (g + h)).1 = C at *
    generalize (Z (g + h)).2 = D at *
    generalize (Z g).1 = c at *
    generalize (Z g).2 = s at *
    generalize (Z h).1 = p at *
    generalize (Z h).2 = q at *
    generalize turnC C D = C' at *
    generalize turnS C D = D' at *
    generalize turnC p q = p' at *
    generalize turnS p q = q' at *
    obtain ⟨X, hX⟩ : ∃ X, X = M * C - (c * p - s * q) := ⟨_, rfl⟩
    obtain ⟨Y, hY⟩ : ∃ Y, Y = M * D - (s * p + c * q) := ⟨_, rfl⟩
    rw [← hX] at x1 x2
    rw [← hY] at y1 y2
    obtain ⟨r1, e1⟩ : ∃ r, r = C * k1 - D * k2 - M * C' := ⟨_, rfl⟩
    obtain ⟨r2, e2⟩ : ∃ r, r = D * k1 + C * k2 - M * D' := ⟨_, rfl⟩
    obtain ⟨r3, e3⟩ : ∃ r, r = p * k1 - q * k2 - M * p' := ⟨_, rfl⟩
    obtain ⟨r4, e4⟩ : ∃ r, r = q * k1 + p * k2 - M * q' := ⟨_, rfl⟩
    have s1 : M * (M * C' - (c * p' - s * q')) = (k1 * X - k2 * Y) - M * r1 + (c * r3 - s * r4) := by
      rw [hX, hY, e1, e3, e4]; grind
    have s2 : M * (M * D' - (s * p' + c * q')) = (k1 * Y + k2 * X) - M * r2 + (s * r3 + c * r4) := by
      rw [hX, hY, e2, e3, e4]; grind
    have m1 := mul_le (a := k1) (by decide) x1 x2
    have m2 := mul_le (a := k2) (by decide) y1 y2
    have m3 := mul_le (a := k1) (by decide) y1 y2
    have m4 := mul_le (a := k2) (by decide) x1 x2
    have hM0 : (0 : Int) < M := by decide
    have w1 := cross_le (s := c) (c := -s) (r := R) (x := r3) (y := r4) (e := M) (by omega) (by omega) (by omega) (by omega) (by decide) (by omega) (by omega) (by omega) (by omega)
    have w2 := cross_le (s := s) (c := c) (r := R) (x := r3) (y := r4) (e := M) g1 g2 g3 g4 (by decide) (by omega) (by omega) (by omega) (by omega)
    rw [Int.neg_mul] at w1
    have hMb : M * b' ≥ M * (b + b / 512 + 5) := Int.mul_le_mul_of_nonneg_left hb'.1 (by decide)
    generalize M * C' - (c * p' - s * q') = F at *
    generalize M * D' - (s * p' + c * q') = G at *
    have h5 : (k1 + k2) * b + M + R ≤ M * b' := by
      clear s1 s2 m1 m2 m3 m4 w1 w2 t1 t2 t3 t4 hX hY e1 e2 e3 e4 x1 x2 y1 y2
      simp only [M, k1, k2, R] at *; omega
    have h6 : M * ((k1 + k2) * b + M + R) ≤ M * (M * b') := Int.mul_le_mul_of_nonneg_left h5 (by decide)
    have h7 : M * ((k1 + k2) * b + M + R) = k1 * (M * b) + k2 * (M * b) + M * M + R * M := by grind
    have n1 := mul_le (a := M) (x := r1) (y := M) (by decide) (by omega) (by omega)
    have n2 := mul_le (a := M) (x := r2) (y := M) (by decide) (by omega) (by omega)
    have fin : ∀ f : Int, -(M * (M * b')) ≤ M * f → M * f ≤ M * (M * b') → -(M * b') ≤ f ∧ f ≤ M * b' := fun f f1 f2 => by
      rw [← Int.mul_neg] at f1
      exact ⟨Int.le_of_mul_le_mul_left f1 hM0, Int.le_of_mul_le_mul_left f2 hM0⟩
    clear hX hY e1 e2 e3 e4 t1 t2 t3 t4 x1 x2 y1 y2 h5 hMb hb' hb hb2 g1 g2 g3 g4 ih
    rw [h7] at h6
    have z1 := fin F (by rw [s1]; omega) (by rw [s1]; omega)
    have z2 := fin G (by rw [s2]; omega) (by rw [s2]; omega)
    exact ⟨z1, z2⟩
theorem B_end : B 4096 ≤ 6830337 := by decide +kernel
theorem B_mono : ∀ {a b : Nat}, a ≤ b → B a ≤ B b
  | a, 0, h => by rw [show a = 0 from by omega]; exact Nat.le_refl _
  | a, b + 1, h => by
    rcases Nat.lt_or_ge a (b + 1) with hl | hl
    · have := B_mono (a := a) (b := b) (by omega)
      show B a ≤ B b + B b / 512 + 5
      omega
    · rw [show a = b + 1 from by omega]; exact Nat.le_refl _
/-- The addition theorem of the table. -/
theorem add_tab (g h : Nat) (hg : g < 4096) (hh : h < 4096) :
    -31400 ≤ S g * S ((h + 1024) % 4096) + S ((g + 1024) % 4096) * S h - 16384 * S ((g + h) % 4096) ∧ S g * S ((h + 1024) % 4096) + S ((g + 1024) % 4096) * S h - 16384 * S ((g + h) % 4096) ≤ 31400 := by
  have f := (add_fine g hg h hh).2
  have hB := B_mono (show h ≤ 4096 by omega)
  have hE := B_end
  have ng := near_all g (by omega)
  have nh := near_all h (by omega)
  have ns := near_all (g + h) (by omega)
  obtain ⟨a1, a2, b1, b2, g1, g2, g3, g4⟩ := ng
  obtain ⟨c1, c2, d1, d2, h1, h2, h3, h4⟩ := nh
  obtain ⟨t1, t2, -, -, -, -, -, -⟩ := ns
  rw [Nat.mod_eq_of_lt hg] at a1 a2
  rw [Nat.mod_eq_of_lt hh] at c1 c2
  obtain ⟨b, hb⟩ : ∃ b : Int, b = (B h : Int) := ⟨_, rfl⟩
  have hb' : 0 ≤ b ∧ b ≤ 6830337 := by omega
  rw [← hb] at f
  generalize S g = p at *
  generalize S h = q at *
  generalize S ((g + 1024) % 4096) = p' at *
  generalize S ((h + 1024) % 4096) = q' at *
  generalize S ((g + h) % 4096) = T at *
  generalize (Z (g + h)).2 = D at *
  generalize (Z g).1 = c at *
  generalize (Z g).2 = s at *
  generalize (Z h).1 = c' at *
  generalize (Z h).2 = s' at *
  obtain ⟨x, hx⟩ : ∃ x, x = p * u - s := ⟨_, rfl⟩
  obtain ⟨y, hy⟩ : ∃ y, y = p' * u - c := ⟨_, rfl⟩
  obtain ⟨x', hx'⟩ : ∃ x, x = q * u - s' := ⟨_, rfl⟩
  obtain ⟨y', hy'⟩ : ∃ y, y = q' * u - c' := ⟨_, rfl⟩
  obtain ⟨z, hz⟩ : ∃ z, z = T * u - D := ⟨_, rfl⟩
  obtain ⟨Y, hY⟩ : ∃ Y, Y = M * D - (s * c' + c * s') := ⟨_, rfl⟩
  rw [← hx] at a1 a2
  rw [← hy] at b1 b2
  rw [← hx'] at c1 c2
  rw [← hy'] at d1 d2
  rw [← hz] at t1 t2
  rw [← hY] at f
  have hM : M = 16384 * u := by decide
  have e : u * (u * (p * q' + p' * q - 16384 * T)) = (s * y' + c * x') + (s' * y + c' * x) + (x * y' + y * x') - Y - M * z := by
    rw [hx, hy, hx', hy', hz, hY, hM]; grind
  have w1 := cross_le (x := y') (y := x') (e := E) g1 g2 g3 g4 (by decide) d1 d2 c1 c2
  have w2 := cross_le (x := y) (y := x) (e := E) h1 h2 h3 h4 (by decide) b1 b2 a1 a2
  have w3 := cross_le (s := x) (c := y) (r := 2 * E) (x := y') (y := x') (e := E) (by omega) (by omega) (by omega) (by omega) (by decide) d1 d2 c1 c2
  have w4 := mul_le (a := M) (by decide) t1 t2
  have w5 : M * b ≤ M * 6830337 := Int.mul_le_mul_of_nonneg_left hb'.2 (by decide)
  generalize p * q' + p' * q - 16384 * T = F at *
  clear hx hy hx' hy' hz hY
  simp only [M, u, E, R] at *
  omega
end Ang
end Go.Proofs.YtkapllakofndlaaDoor
