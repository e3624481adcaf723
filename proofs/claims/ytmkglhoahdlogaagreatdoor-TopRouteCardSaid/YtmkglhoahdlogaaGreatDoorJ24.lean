/- Joined texts: TabA, Sums, OfP, Atan. -/
import Derived.Test.YtmkglhoahdlogaaGreatDoorTab0
import Derived.Test.YtmkglhoahdlogaaGreatDoorTab1
import Derived.Test.YtmkglhoahdlogaaGreatDoorTab2
import Derived.Test.YtmkglhoahdlogaaGreatDoorTab3
import Derived.Test.YtmkglhoahdlogaaGreatDoorTab4
import Derived.Test.YtmkglhoahdlogaaGreatDoorTab5
import Derived.Test.YtmkglhoahdlogaaGreatDoorTab6
import Derived.Test.YtmkglhoahdlogaaGreatDoorTab7
import Derived.Test.YtmkglhoahdlogaaGreatDoorTab
import Derived.Test.YtmkglhoahdlogaaGreatDoorJ14
namespace Go.Proofs.YtmkglhoahdlogaaGreatDoor
open Go.RowKit
namespace Ang
theorem sinR_all (n : Nat) (h : n < 4096) : sinR n = some (S n) := by
  rcases Nat.lt_or_ge n 512 with h0 | h0
  · exact chkN_of tab0 n (by omega) h0
  rcases Nat.lt_or_ge n 1024 with h1 | h1
  · exact chkN_of tab1 n (by omega) h1
  rcases Nat.lt_or_ge n 1536 with h2 | h2
  · exact chkN_of tab2 n (by omega) h2
  rcases Nat.lt_or_ge n 2048 with h3 | h3
  · exact chkN_of tab3 n (by omega) h3
  rcases Nat.lt_or_ge n 2560 with h4 | h4
  · exact chkN_of tab4 n (by omega) h4
  rcases Nat.lt_or_ge n 3072 with h5 | h5
  · exact chkN_of tab5 n (by omega) h5
  rcases Nat.lt_or_ge n 3584 with h6 | h6
  · exact chkN_of tab6 n (by omega) h6
  rcases Nat.lt_or_ge n 4096 with h7 | h7
  · exact chkN_of tab7 n (by omega) h7
  omega
/-- The sine of any angle. -/
def sn (h : Int) : Int := S (h % 4096).toNat
theorem sinA (h : Int) {w : World} (T : Tabs w) : Calls Tryz.prog 113 #[.int .i64 h] w fun e w' => e = .returned (.int .i64 (sn h)) ∧ w = w' :=
  sinC T (n := (h % 4096).toNat) (by omega) (sinR_all _ (by omega))
theorem cosA (h : Int) {w : World} (T : Tabs w) : Calls Tryz.prog 114 #[.int .i64 h] w fun e w' => e = .returned (.int .i64 (sn (h + 1024))) ∧ w = w' :=
  cosC T (n := ((h + 1024) % 4096).toNat) (by omega) (sinR_all _ (by omega))
theorem sn_mod {g h : Int} (e : g % 4096 = h % 4096) : sn g = sn h := by unfold sn; rw [e]
theorem quart0 : quart 0 = 0 := by decide +kernel
theorem half0 : half 0 = 0 := by decide +kernel
theorem half_sym {k : Nat} (h : k ≤ 2048) : half (2048 - k) = half k := by
  unfold half
  rcases Nat.lt_or_ge k 1025 with h1 | h1
  · rcases (show k = 1024 ∨ k < 1024 by omega) with rfl | h2
    · rfl
    · rw [show Nat.ble (2048 - k) 1024 = false from by rw [← Bool.not_eq_true, Nat.ble_eq]; omega, show Nat.ble k 1024 = true from by rw [Nat.ble_eq]; omega]
      show quart (2048 - (2048 - k)) = quart k
      rw [show 2048 - (2048 - k) = k from by omega]
  · rw [show Nat.ble (2048 - k) 1024 = true from by rw [Nat.ble_eq]; omega, show Nat.ble k 1024 = false from by rw [← Bool.not_eq_true, Nat.ble_eq]; omega]
    rfl
theorem S_low {n : Nat} (h : n ≤ 2048) : S n = (half n : Int) := by unfold S; rw [show Nat.ble n 2048 = true from by rw [Nat.ble_eq]; omega]; rfl
theorem S_high {n : Nat} (h : 2048 ≤ n) : S n = -(half (n - 2048) : Int) := by
  rcases (show n = 2048 ∨ 2048 < n by omega) with rfl | h1
  · unfold S; decide +kernel
  · unfold S; rw [show Nat.ble n 2048 = false from by rw [← Bool.not_eq_true, Nat.ble_eq]; omega]; rfl
/-- Half a circle further. -/
theorem sn_half (h : Int) : sn (h + 2048) = - sn h := by
  unfold sn
  obtain ⟨n, hn⟩ : ∃ n : Nat, h % 4096 = (n : Int) := ⟨(h % 4096).toNat, by omega⟩
  rcases Nat.lt_or_ge n 2048 with h1 | h1
  · rw [show (h + 2048) % 4096 = ((n + 2048 : Nat) : Int) from by omega, hn, Int.toNat_natCast, Int.toNat_natCast, S_high (by omega), S_low (by omega), show n + 2048 - 2048 = n from by omega]
  · rw [show (h + 2048) % 4096 = ((n - 2048 : Nat) : Int) from by omega, hn, Int.toNat_natCast, Int.toNat_natCast, S_low (by omega), S_high (by omega), Int.neg_neg]
/-- Reflected at the half circle. -/
theorem sn_flip (h : Int) : sn (2048 - h) = sn h := by
  unfold sn
  obtain ⟨n, hn⟩ : ∃ n : Nat, h % 4096 = (n : Int) := ⟨(h % 4096).toNat, by omega⟩
  rcases Nat.lt_or_ge 2048 n with h1 | h1
  · rw [show (2048 - h) % 4096 = ((2048 + (4096 - n) : Nat) : Int) from by omega, hn, Int.toNat_natCast, Int.toNat_natCast, S_high (by omega), S_high (by omega), show 2048 + (4096 - n) - 2048 = 2048 - (n - 2048) from by omega, half_sym (by omega)]
  · rw [show (2048 - h) % 4096 = ((2048 - n : Nat) : Int) from by omega, hn, Int.toNat_natCast, Int.toNat_natCast, S_low (by omega), S_low (by omega), half_sym (by omega)]
theorem sn_neg (h : Int) : sn (-h) = - sn h := by
  rw [← sn_flip, show 2048 - -h = h + 2048 from by omega, sn_half]
end Ang
end Go.Proofs.YtmkglhoahdlogaaGreatDoor
namespace Go.Proofs.YtmkglhoahdlogaaGreatDoor
namespace Ang
/-- An integer is reckoned, then k is asked. -/
def fI {α : Type} (i : Int) (k : Int → α) : α := match i with
  | .ofNat n => lt' n fun n => k (.ofNat n)
  | .negSucc n => lt' n fun n => k (.negSucc n)
theorem fI_eq {α : Type} (i : Int) (k : Int → α) : fI i k = k i := by
  cases i with
  | ofNat n => exact lt_eq n (fun n => k (.ofNat n))
  | negSucc n => exact lt_eq n (fun n => k (.negSucc n))
def M : Int := 1152921504606846976
def u : Int := 70368744177664
def E : Int := 35184372088832
def R : Int := 1630576883965441900
def k1 : Int := 1152920148139012899
def k2 : Int := 1768558744408523
def turnC (c s : Int) : Int := (c * k1 - s * k2) / M
def turnS (c s : Int) : Int := (s * k1 + c * k2) / M
/-- Cosine and sine, finely. -/
def Z : Nat → Int × Int
  | 0 => (M, 0)
  | n + 1 => (turnC (Z n).1 (Z n).2, turnS (Z n).1 (Z n).2)
def okZ (n : Nat) (c s : Int) : Bool :=
  decide (-E ≤ S (n % 4096) * u - s ∧ S (n % 4096) * u - s ≤ E ∧ -E ≤ S ((n + 1024) % 4096) * u - c ∧ S ((n + 1024) % 4096) * u - c ≤ E ∧ s + c ≤ R ∧ s - c ≤ R ∧ -s + c ≤ R ∧ -s - c ≤ R)
def loopZ : Nat → Nat → Int → Int → Bool
  | 0, _, _, _ => true
  | f + 1, n, c, s => okZ n c s && fI (turnC c s) fun c' => fI (turnS c s) fun s' => loopZ f (n + 1) c' s'
set_option maxRecDepth 1000000 in
theorem loop_all : loopZ 8192 0 M 0 = true := by decide +kernel
theorem loop_of : ∀ {f n : Nat}, loopZ f n (Z n).1 (Z n).2 = true → ∀ m, n ≤ m → m < n + f → okZ m (Z m).1 (Z m).2 = true
  | 0, n, _, m, h1, h2 => by omega
  | f + 1, n, h, m, h1, h2 => by
    have h' : (okZ n (Z n).1 (Z n).2 && fI (turnC (Z n).1 (Z n).2) fun c' => fI (turnS (Z n).1 (Z n).2) fun s' => loopZ f (n + 1) c' s') = true := h
    rw [Bool.and_eq_true, fI_eq, fI_eq] at h'
    rcases Nat.lt_or_ge n m with hl | hl
    · exact loop_of (f := f) (n := n + 1) h'.2 m hl (by omega)
    · rw [show m = n from by omega]; exact h'.1
structure Near (n : Nat) : Prop where
  s1 : -E ≤ S (n % 4096) * u - (Z n).2
  s2 : S (n % 4096) * u - (Z n).2 ≤ E
  c1 : -E ≤ S ((n + 1024) % 4096) * u - (Z n).1
  c2 : S ((n + 1024) % 4096) * u - (Z n).1 ≤ E
  r1 : (Z n).2 + (Z n).1 ≤ R
  r2 : (Z n).2 - (Z n).1 ≤ R
  r3 : -(Z n).2 + (Z n).1 ≤ R
  r4 : -(Z n).2 - (Z n).1 ≤ R
theorem near_all (n : Nat) (h : n < 8192) : Near n := by
  have q := loop_of (f := 8192) (n := 0) loop_all n (Nat.zero_le _) (by omega)
  unfold okZ at q
  rw [decide_eq_true_eq] at q
  exact ⟨q.1, q.2.1, q.2.2.1, q.2.2.2.1, q.2.2.2.2.1, q.2.2.2.2.2.1, q.2.2.2.2.2.2.1, q.2.2.2.2.2.2.2⟩
/-- How far the roundings go. -/
def B : Nat → Nat
  | 0 => 0
  | n + 1 => B n + B n / 512 + 5
theorem mul_le {a x y : Int} (ha : 0 ≤ a) (h1 : -y ≤ x) (h2 : x ≤ y) : -(a * y) ≤ a * x ∧ a * x ≤ a * y :=
  ⟨by have := Int.mul_le_mul_of_nonneg_left h1 ha; rw [Int.mul_neg] at this; exact this, Int.mul_le_mul_of_nonneg_left h2 ha⟩
theorem turn_c (c s : Int) : M * turnC c s ≤ c * k1 - s * k2 ∧ c * k1 - s * k2 < M * turnC c s + M := by
  unfold turnC
  have h := Int.mul_ediv_add_emod (c * k1 - s * k2) M
  have h1 := Int.emod_nonneg (c * k1 - s * k2) (show M ≠ 0 by decide)
  have h2 := Int.emod_lt_of_pos (c * k1 - s * k2) (show 0 < M by decide)
  omega
theorem turn_s (c s : Int) : M * turnS c s ≤ s * k1 + c * k2 ∧ s * k1 + c * k2 < M * turnS c s + M := by
  unfold turnS
  have h := Int.mul_ediv_add_emod (s * k1 + c * k2) M
  have h1 := Int.emod_nonneg (s * k1 + c * k2) (show M ≠ 0 by decide)
  have h2 := Int.emod_lt_of_pos (s * k1 + c * k2) (show 0 < M by decide)
  omega
/-- |s| + |c| ≤ r and |x|, |y| ≤ e: |s x + c y| ≤ r e. -/
theorem cross_le {s c r x y e : Int} (h1 : s + c ≤ r) (h2 : s - c ≤ r) (h3 : -s + c ≤ r) (h4 : -s - c ≤ r) (he : 0 ≤ e) (x1 : -e ≤ x) (x2 : x ≤ e) (y1 : -e ≤ y) (y2 : y ≤ e) : -(r * e) ≤ s * x + c * y ∧ s * x + c * y ≤ r * e := by
  have key : ∀ p q : Int, p + q ≤ r → (p + q) * e ≤ r * e := fun p q h => Int.mul_le_mul_of_nonneg_right h he
  have k1 := key s c h1
  have k2 : (s - c) * e ≤ r * e := Int.mul_le_mul_of_nonneg_right h2 he
  have k3 : (-s + c) * e ≤ r * e := Int.mul_le_mul_of_nonneg_right h3 he
  have k4 : (-s - c) * e ≤ r * e := Int.mul_le_mul_of_nonneg_right h4 he
  rw [Int.add_mul] at k1 k3
  rw [Int.sub_mul] at k2 k4
  rw [Int.neg_mul] at k3 k4
  rcases (show 0 ≤ s ∨ 0 ≤ -s by omega) with hs | hs <;> rcases (show 0 ≤ c ∨ 0 ≤ -c by omega) with hc | hc <;>
    (have a1 := mul_le hs x1 x2; have a2 := mul_le hc y1 y2; (try simp only [Int.neg_mul] at a1 a2); omega)
/-- The addition theorem of the fine table. -/
theorem add_fine (g : Nat) (hg : g < 4096) : ∀ h, h < 4096 →
    (-(M * (B h : Int)) ≤ M * (Z (g + h)).1 - ((Z g).1 * (Z h).1 - (Z g).2 * (Z h).2) ∧ M * (Z (g + h)).1 - ((Z g).1 * (Z h).1 - (Z g).2 * (Z h).2) ≤ M * (B h : Int)) ∧
    (-(M * (B h : Int)) ≤ M * (Z (g + h)).2 - ((Z g).2 * (Z h).1 + (Z g).1 * (Z h).2) ∧ M * (Z (g + h)).2 - ((Z g).2 * (Z h).1 + (Z g).1 * (Z h).2) ≤ M * (B h : Int)) := by
  intro h
  induction h with
  | zero =>
    intro _
    show (-(M * ((0 : Nat) : Int)) ≤ M * (Z g).1 - ((Z g).1 * M - (Z g).2 * 0) ∧ M * (Z g).1 - ((Z g).1 * M - (Z g).2 * 0) ≤ M * ((0 : Nat) : Int)) ∧ (-(M * ((0 : Nat) : Int)) ≤ M * (Z g).2 - ((Z g).2 * M + (Z g).1 * 0) ∧ M * (Z g).2 - ((Z g).2 * M + (Z g).1 * 0) ≤ M * ((0 : Nat) : Int))
    rw [Int.mul_comm (Z g).1 M, Int.mul_comm (Z g).2 M]
    simp
  | succ h ih =>
    intro hh
    obtain ⟨⟨x1, x2⟩, y1, y2⟩ := ih (by omega)
    have ng := near_all g (by omega)
    show (-(M * (B (h + 1) : Int)) ≤ M * turnC (Z (g + h)).1 (Z (g + h)).2 - ((Z g).1 * turnC (Z h).1 (Z h).2 - (Z g).2 * turnS (Z h).1 (Z h).2) ∧ M * turnC (Z (g + h)).1 (Z (g + h)).2 - ((Z g).1 * turnC (Z h).1 (Z h).2 - (Z g).2 * turnS (Z h).1 (Z h).2) ≤ M * (B (h + 1) : Int)) ∧
      (-(M * (B (h + 1) : Int)) ≤ M * turnS (Z (g + h)).1 (Z (g + h)).2 - ((Z g).2 * turnC (Z h).1 (Z h).2 + (Z g).1 * turnS (Z h).1 (Z h).2) ∧ M * turnS (Z (g + h)).1 (Z (g + h)).2 - ((Z g).2 * turnC (Z h).1 (Z h).2 + (Z g).1 * turnS (Z h).1 (Z h).2) ≤ M * (B (h + 1) : Int))
    have t1 := turn_c (Z (g + h)).1 (Z (g + h)).2
    have t2 := turn_s (Z (g + h)).1 (Z (g + h)).2
    have t3 := turn_c (Z h).1 (Z h).2
    have t4 := turn_s (Z h).1 (Z h).2
    obtain ⟨b, hb⟩ : ∃ b : Int, b = (B h : Int) := ⟨_, rfl⟩
    have hb' : ((B (h + 1) : Nat) : Int) ≥ b + b / 512 + 5 ∧ 0 ≤ b := by
      show ((B h + B h / 512 + 5 : Nat) : Int) ≥ b + b / 512 + 5 ∧ 0 ≤ b
      omega
    obtain ⟨b', hb2⟩ : ∃ b' : Int, b' = (B (h + 1) : Int) := ⟨_, rfl⟩
    rw [← hb] at x1 x2 y1 y2
    rw [← hb2] at hb' ⊢
    obtain ⟨-, -, -, -, g1, g2, g3, g4⟩ := ng
    generalize (Z (g + h)).1 = C at *
    generalize (Z (g + h)).2 = D at *
    generalize (Z g).1 = c at *
    generalize (Z g).2 = s at *
    generalize (Z h).1 = p at *
    generalize (Z h).2 = q at *
    generalize turnC C D = C' at *
    generalize turnS C D = D' at *
    generalize turnC p q = p' at *
    generalize turnS p q = q' at *
    obtain ⟨X, hX⟩ : ∃ X, X = M * C - (c * p - s * q) := ⟨_, rfl⟩
    obtain ⟨Y, hY⟩ : ∃ Y, Y = M * D - (s * p + c * q) := ⟨_, rfl⟩
    rw [← hX] at x1 x2
    rw [← hY] at y1 y2
    obtain ⟨r1, e1⟩ : ∃ r, r = C * k1 - D * k2 - M * C' := ⟨_, rfl⟩
    obtain ⟨r2, e2⟩ : ∃ r, r = D * k1 + C * k2 - M * D' := ⟨_, rfl⟩
    obtain ⟨r3, e3⟩ : ∃ r, r = p * k1 - q * k2 - M * p' := ⟨_, rfl⟩
    obtain ⟨r4, e4⟩ : ∃ r, r = q * k1 + p * k2 - M * q' := ⟨_, rfl⟩
    have s1 : M * (M * C' - (c * p' - s * q')) = (k1 * X - k2 * Y) - M * r1 + (c * r3 - s * r4) := by
      rw [hX, hY, e1, e3, e4]; grind
    have s2 : M * (M * D' - (s * p' + c * q')) = (k1 * Y + k2 * X) - M * r2 + (s * r3 + c * r4) := by
      rw [hX, hY, e2, e3, e4]; grind
    have m1 := mul_le (a := k1) (by decide) x1 x2
    have m2 := mul_le (a := k2) (by decide) y1 y2
    have m3 := mul_le (a := k1) (by decide) y1 y2
    have m4 := mul_le (a := k2) (by decide) x1 x2
    have hM0 : (0 : Int) < M := by decide
    have w1 := cross_le (s := c) (c := -s) (r := R) (x := r3) (y := r4) (e := M) (by omega) (by omega) (by omega) (by omega) (by decide) (by omega) (by omega) (by omega) (by omega)
    have w2 := cross_le (s := s) (c := c) (r := R) (x := r3) (y := r4) (e := M) g1 g2 g3 g4 (by decide) (by omega) (by omega) (by omega) (by omega)
    rw [Int.neg_mul] at w1
    have hMb : M * b' ≥ M * (b + b / 512 + 5) := Int.mul_le_mul_of_nonneg_left hb'.1 (by decide)
    generalize M * C' - (c * p' - s * q') = F at *
    generalize M * D' - (s * p' + c * q') = G at *
    have h5 : (k1 + k2) * b + M + R ≤ M * b' := by
      clear s1 s2 m1 m2 m3 m4 w1 w2 t1 t2 t3 t4 hX hY e1 e2 e3 e4 x1 x2 y1 y2
      simp only [M, k1, k2, R] at *; omega
    have h6 : M * ((k1 + k2) * b + M + R) ≤ M * (M * b') := Int.mul_le_mul_of_nonneg_left h5 (by decide)
    have h7 : M * ((k1 + k2) * b + M + R) = k1 * (M * b) + k2 * (M * b) + M * M + R * M := by grind
    have n1 := mul_le (a := M) (x := r1) (y := M) (by decide) (by omega) (by omega)
    have n2 := mul_le (a := M) (x := r2) (y := M) (by decide) (by omega) (by omega)
    have fin : ∀ f : Int, -(M * (M * b')) ≤ M * f → M * f ≤ M * (M * b') → -(M * b') ≤ f ∧ f ≤ M * b' := fun f f1 f2 => by
      rw [← Int.mul_neg] at f1
      exact ⟨Int.le_of_mul_le_mul_left f1 hM0, Int.le_of_mul_le_mul_left f2 hM0⟩
    clear hX hY e1 e2 e3 e4 t1 t2 t3 t4 x1 x2 y1 y2 h5 hMb hb' hb hb2 g1 g2 g3 g4 ih
    rw [h7] at h6
    have z1 := fin F (by rw [s1]; omega) (by rw [s1]; omega)
    have z2 := fin G (by rw [s2]; omega) (by rw [s2]; omega)
    exact ⟨z1, z2⟩
theorem B_end : B 4096 ≤ 6830337 := by decide +kernel
theorem B_mono : ∀ {a b : Nat}, a ≤ b → B a ≤ B b
  | a, 0, h => by rw [show a = 0 from by omega]; exact Nat.le_refl _
  | a, b + 1, h => by
    rcases Nat.lt_or_ge a (b + 1) with hl | hl
    · have := B_mono (a := a) (b := b) (by omega)
      show B a ≤ B b + B b / 512 + 5
      omega
    · rw [show a = b + 1 from by omega]; exact Nat.le_refl _
/-- The addition theorem of the table. -/
theorem add_tab (g h : Nat) (hg : g < 4096) (hh : h < 4096) :
    -31400 ≤ S g * S ((h + 1024) % 4096) + S ((g + 1024) % 4096) * S h - 16384 * S ((g + h) % 4096) ∧ S g * S ((h + 1024) % 4096) + S ((g + 1024) % 4096) * S h - 16384 * S ((g + h) % 4096) ≤ 31400 := by
  have f := (add_fine g hg h hh).2
  have hB := B_mono (show h ≤ 4096 by omega)
  have hE := B_end
  have ng := near_all g (by omega)
  have nh := near_all h (by omega)
  have ns := near_all (g + h) (by omega)
  obtain ⟨a1, a2, b1, b2, g1, g2, g3, g4⟩ := ng
  obtain ⟨c1, c2, d1, d2, h1, h2, h3, h4⟩ := nh
  obtain ⟨t1, t2, -, -, -, -, -, -⟩ := ns
  rw [Nat.mod_eq_of_lt hg] at a1 a2
  rw [Nat.mod_eq_of_lt hh] at c1 c2
  obtain ⟨b, hb⟩ : ∃ b : Int, b = (B h : Int) := ⟨_, rfl⟩
  have hb' : 0 ≤ b ∧ b ≤ 6830337 := by omega
  rw [← hb] at f
  generalize S g = p at *
  generalize S h = q at *
  generalize S ((g + 1024) % 4096) = p' at *
  generalize S ((h + 1024) % 4096) = q' at *
  generalize S ((g + h) % 4096) = T at *
  generalize (Z (g + h)).2 = D at *
  generalize (Z g).1 = c at *
  generalize (Z g).2 = s at *
  generalize (Z h).1 = c' at *
  generalize (Z h).2 = s' at *
  obtain ⟨x, hx⟩ : ∃ x, x = p * u - s := ⟨_, rfl⟩
  obtain ⟨y, hy⟩ : ∃ y, y = p' * u - c := ⟨_, rfl⟩
  obtain ⟨x', hx'⟩ : ∃ x, x = q * u - s' := ⟨_, rfl⟩
  obtain ⟨y', hy'⟩ : ∃ y, y = q' * u - c' := ⟨_, rfl⟩
  obtain ⟨z, hz⟩ : ∃ z, z = T * u - D := ⟨_, rfl⟩
  obtain ⟨Y, hY⟩ : ∃ Y, Y = M * D - (s * c' + c * s') := ⟨_, rfl⟩
  rw [← hx] at a1 a2
  rw [← hy] at b1 b2
  rw [← hx'] at c1 c2
  rw [← hy'] at d1 d2
  rw [← hz] at t1 t2
  rw [← hY] at f
  have hM : M = 16384 * u := by decide
  have e : u * (u * (p * q' + p' * q - 16384 * T)) = (s * y' + c * x') + (s' * y + c' * x) + (x * y' + y * x') - Y - M * z := by
    rw [hx, hy, hx', hy', hz, hY, hM]; grind
  have w1 := cross_le (x := y') (y := x') (e := E) g1 g2 g3 g4 (by decide) d1 d2 c1 c2
  have w2 := cross_le (x := y) (y := x) (e := E) h1 h2 h3 h4 (by decide) b1 b2 a1 a2
  have w3 := cross_le (s := x) (c := y) (r := 2 * E) (x := y') (y := x') (e := E) (by omega) (by omega) (by omega) (by omega) (by decide) d1 d2 c1 c2
  have w4 := mul_le (a := M) (by decide) t1 t2
  have w5 : M * b ≤ M * 6830337 := Int.mul_le_mul_of_nonneg_left hb'.2 (by decide)
  generalize p * q' + p' * q - 16384 * T = F at *
  clear hx hy hx' hy' hz hY
  simp only [M, u, E, R] at *
  omega
end Ang
end Go.Proofs.YtmkglhoahdlogaaGreatDoor
namespace Go.Proofs.YtmkglhoahdlogaaGreatDoor
namespace Ang
def least (n : Nat) : Bool := decide (-16384 ≤ S n ∧ S n ≤ 16384) && (Nat.beq n 0 || Nat.ble 2048 n || decide (25 ≤ S n))
def leastN : Nat → Bool
  | 0 => true
  | k + 1 => least k && leastN k
set_option maxRecDepth 1000000 in
theorem least_all : leastN 4096 = true := by decide +kernel
theorem leastN_of : ∀ {k : Nat}, leastN k = true → ∀ n, n < k → least n = true
  | 0, _, n, h => by omega
  | k + 1, h, n, hn => by
    have h' : (least k && leastN k) = true := h
    rw [Bool.and_eq_true] at h'
    rcases Nat.lt_or_ge n k with hl | hl
    · exact leastN_of h'.2 n hl
    · rw [show n = k from by omega]; exact h'.1
theorem sn_bd (h : Int) : -16384 ≤ sn h ∧ sn h ≤ 16384 := by
  have c := leastN_of least_all (h % 4096).toNat (by omega)
  unfold least at c
  rw [Bool.and_eq_true, decide_eq_true_eq] at c
  exact c.1
theorem sn_pos {k : Int} (h1 : 1 ≤ k) (h2 : k ≤ 2047) : 25 ≤ sn k := by
  have c := leastN_of least_all (k % 4096).toNat (by omega)
  unfold least at c
  rw [Bool.and_eq_true] at c
  have c2 := c.2
  rw [show Nat.beq (k % 4096).toNat 0 = false from by rw [← Bool.not_eq_true, Nat.beq_eq]; omega, show Nat.ble 2048 (k % 4096).toNat = false from by rw [← Bool.not_eq_true, Nat.ble_eq]; omega] at c2
  rw [Bool.false_or, Bool.false_or, decide_eq_true_eq] at c2
  exact c2
theorem add_sn (g h : Int) : -31400 ≤ sn g * sn (h + 1024) + sn (g + 1024) * sn h - 16384 * sn (g + h) ∧ sn g * sn (h + 1024) + sn (g + 1024) * sn h - 16384 * sn (g + h) ≤ 31400 := by
  have := add_tab (g % 4096).toNat (h % 4096).toNat (by omega) (by omega)
  unfold sn
  rw [show ((h + 1024) % 4096).toNat = ((h % 4096).toNat + 1024) % 4096 from by omega, show ((g + 1024) % 4096).toNat = ((g % 4096).toNat + 1024) % 4096 from by omega, show ((g + h) % 4096).toNat = ((g % 4096).toNat + (h % 4096).toNat) % 4096 from by omega]
  exact this
/-- The cross product of two unit vectors. -/
def cu (h k : Int) : Int := sn (h + 1024) * sn k - sn h * sn (k + 1024)
theorem sn_c (h : Int) : sn (-h + 1024) = sn (h + 1024) := by
  rw [show -h + 1024 = 2048 - (h + 1024) from by omega, sn_flip]
theorem cu_near (h k : Int) : -31400 ≤ cu h (h + k) - 16384 * sn k ∧ cu h (h + k) - 16384 * sn k ≤ 31400 := by
  have a := add_sn (h + k) (-h)
  rw [sn_c, sn_neg, show h + k + -h = k from by omega] at a
  unfold cu
  have e : sn (h + k) * sn (h + 1024) + sn (h + k + 1024) * -sn h = sn (h + 1024) * sn (h + k) - sn h * sn (h + k + 1024) := by grind
  rw [e] at a
  exact a
theorem cu_pos {k : Int} (h : Int) (h1 : 1 ≤ k) (h2 : k ≤ 2047) : 0 < cu h (h + k) := by
  have a := cu_near h k
  have b := sn_pos h1 h2
  omega
theorem sn_quart : sn (1 + 1024) = 16384 := by decide +kernel
/-- Two neighbouring unit vectors point alike. -/
theorem du_pos (h : Int) : 0 < sn h * sn (h + 1) + sn (h + 1024) * sn (h + 1 + 1024) := by
  have a := add_sn (h + 1 + 1024) (-h)
  rw [sn_c, sn_neg, show h + 1 + 1024 + -h = 1 + 1024 from by omega, sn_quart, show h + 1 + 1024 + 1024 = h + 1 + 2048 from by omega, sn_half] at a
  have e : sn (h + 1 + 1024) * sn (h + 1024) + -sn (h + 1) * -sn h = sn h * sn (h + 1) + sn (h + 1024) * sn (h + 1 + 1024) := by grind
  rw [e] at a
  omega
theorem uu_pos (h : Int) : 0 < sn h * sn h + sn (h + 1024) * sn (h + 1024) := by
  have a := add_sn (h + 1024) (-h)
  rw [sn_c, sn_neg, show h + 1024 + -h = 0 + 1024 from by omega, show h + 1024 + 1024 = h + 2048 from by omega, sn_half] at a
  have e : sn (h + 1024) * sn (h + 1024) + -sn h * -sn h = sn h * sn h + sn (h + 1024) * sn (h + 1024) := by grind
  rw [e, show sn (0 + 1024) = 16384 from by decide +kernel] at a
  omega
/-- The cross product of a unit vector and a vector. -/
def F (x y h : Int) : Int := sn (h + 1024) * x - sn h * y
theorem F_half (x y h : Int) : F x y (h + 2048) = - F x y h := by
  unfold F
  rw [show h + 2048 + 1024 = h + 1024 + 2048 from by omega, sn_half, sn_half]; grind
theorem F_mod {x y g h : Int} (e : g % 4096 = h % 4096) : F x y g = F x y h := by
  unfold F
  rw [sn_mod e, sn_mod (show (g + 1024) % 4096 = (h + 1024) % 4096 by omega)]
theorem F_three (x y p q r : Int) : F x y r * cu p q = F x y q * cu p r - F x y p * cu q r := by
  unfold F cu; grind
/-- The vector lies from h on, ahead of h + 1. -/
def Sec (x y h : Int) : Prop := 0 ≤ F x y h ∧ F x y (h + 1) < 0
theorem sec_mod {x y g h : Int} (e : g % 4096 = h % 4096) : Sec x y g ↔ Sec x y h := by
  unfold Sec
  rw [F_mod e, F_mod (show (g + 1) % 4096 = (h + 1) % 4096 by omega)]
theorem sec_neg {x y h : Int} (s : Sec x y h) {k : Int} (h1 : 1 ≤ k) (h2 : k ≤ 2047) : F x y (h + k) < 0 := by
  rcases (show k = 1 ∨ 2 ≤ k by omega) with rfl | hk
  · exact s.2
  · have e := F_three x y h (h + 1) (h + k)
    have c1 := cu_pos h (k := 1) (by omega) (by omega)
    have c2 := cu_pos h h1 h2
    have c3 := cu_pos (h + 1) (k := k - 1) (by omega) (by omega)
    rw [show h + 1 + (k - 1) = h + k from by omega] at c3
    have n1 : F x y (h + 1) * cu h (h + k) < 0 := Int.mul_neg_of_neg_of_pos s.2 c2
    have n2 : 0 ≤ F x y h * cu (h + 1) (h + k) := Int.mul_nonneg s.1 (by omega)
    rcases (show F x y (h + k) < 0 ∨ 0 ≤ F x y (h + k) by omega) with q | q
    · exact q
    · have := Int.mul_nonneg q (show 0 ≤ cu h (h + 1) by omega); omega
theorem sec_one {x y g h : Int} (s : Sec x y g) (t : Sec x y h) : g % 4096 = h % 4096 := by
  obtain ⟨k, hk⟩ : ∃ k, k = (h - g) % 4096 := ⟨_, rfl⟩
  have hb : 0 ≤ k ∧ k < 4096 := by omega
  have t' : Sec x y (g + k) := (sec_mod (show (g + k) % 4096 = h % 4096 by omega)).2 t
  rcases (show k = 0 ∨ (1 ≤ k ∧ k ≤ 2047) ∨ k = 2048 ∨ (2049 ≤ k ∧ k ≤ 4094) ∨ k = 4095 by omega) with e | ⟨e1, e2⟩ | e | ⟨e1, e2⟩ | e
  · omega
  · have := sec_neg s e1 e2; have := t'.1; omega
  · subst e
    have h1 := t'.2
    rw [show g + 2048 + 1 = g + 1 + 2048 from by omega, F_half] at h1
    have := s.2; omega
  · have h1 := t'.2
    have h2 := sec_neg s (k := k + 1 - 2048) (by omega) (by omega)
    rw [show g + k + 1 = g + (k + 1 - 2048) + 2048 from by omega, F_half] at h1
    omega
  · subst e
    have h1 := t'.2
    rw [F_mod (show (g + 4095 + 1) % 4096 = g % 4096 by omega)] at h1
    have := s.1; omega
theorem sec_some {x y : Int} (h : ¬ (x = 0 ∧ y = 0)) : ∃ g, 0 ≤ g ∧ g < 4096 ∧ Sec x y g := by
  by_cases hs : ∃ g, Sec x y g
  · obtain ⟨g, hg⟩ := hs
    exact ⟨g % 4096, by omega, by omega, (sec_mod (by omega)).1 hg⟩
  · exfalso
    have step : ∀ g, 0 ≤ F x y g → 0 ≤ F x y (g + 1) := fun g h1 => by
      rcases (show 0 ≤ F x y (g + 1) ∨ F x y (g + 1) < 0 by omega) with h2 | h2
      · exact h2
      · exact absurd ⟨g, h1, h2⟩ hs
    have run : ∀ (n : Nat) (g : Int), 0 ≤ F x y g → 0 ≤ F x y (g + n) := by
      intro n
      induction n with
      | zero => intro g h; rw [show g + ((0 : Nat) : Int) = g from by omega]; exact h
      | succ n ih => intro g h; have := step _ (ih g h); rw [show g + ((n + 1 : Nat) : Int) = g + n + 1 from by omega]; exact this
    obtain ⟨g0, hg0⟩ : ∃ g0, 0 ≤ F x y g0 := by
      rcases (show 0 ≤ F x y 0 ∨ F x y 0 < 0 by omega) with h | h
      · exact ⟨0, h⟩
      · exact ⟨0 + 2048, by rw [F_half]; omega⟩
    have all : ∀ g : Int, 0 ≤ F x y g := fun g => by
      have := run ((g - g0) % 4096).toNat g0 hg0
      rw [F_mod (show (g0 + ((((g - g0) % 4096).toNat : Nat) : Int)) % 4096 = g % 4096 by omega)] at this
      exact this
    have zero : ∀ g : Int, F x y g = 0 := fun g => by
      have h1 := all g; have h2 := all (g + 2048); rw [F_half] at h2; omega
    have z0 := zero 0
    have z1 := zero 1024
    unfold F at z0 z1
    rw [show sn (0 + 1024) = 16384 from by decide +kernel, show sn 0 = 0 from by decide +kernel] at z0
    rw [show sn (1024 + 1024) = 0 from by decide +kernel, show sn 1024 = 16384 from by decide +kernel] at z1
    omega
/-- Within its sector the vector points as the unit vector does. -/
theorem sec_dot {x y h : Int} (s : Sec x y h) : 0 < sn h * x + sn (h + 1024) * y := by
  have c := cu_pos h (k := 1) (by omega) (by omega)
  have e : (sn h * x + sn (h + 1024) * y) * cu h (h + 1) = -F x y (h + 1) * (sn h * sn h + sn (h + 1024) * sn (h + 1024)) + F x y h * (sn h * sn (h + 1) + sn (h + 1024) * sn (h + 1 + 1024)) := by
    unfold F cu; grind
  have p1 : 0 < -F x y (h + 1) * (sn h * sn h + sn (h + 1024) * sn (h + 1024)) := Int.mul_pos (by have := s.2; omega) (uu_pos h)
  have p2 : 0 ≤ F x y h * (sn h * sn (h + 1) + sn (h + 1024) * sn (h + 1 + 1024)) := Int.mul_nonneg s.1 (by have := du_pos h; omega)
  rcases (show 0 < sn h * x + sn (h + 1024) * y ∨ sn h * x + sn (h + 1024) * y ≤ 0 by omega) with q | q
  · exact q
  · have := Int.mul_le_mul_of_nonneg_right q (show 0 ≤ cu h (h + 1) by omega)
    rw [Int.zero_mul] at this
    omega
/-- What angle.Of says of a vector. -/
def OfV (x y r : Int) : Prop := ∃ h, 0 ≤ h ∧ h < 4096 ∧ Sec x y h ∧ r = if F x y h ≤ -F x y (h + 1) then h else (h + 1) % 4096
theorem ofv_some {x y : Int} (h : ¬ (x = 0 ∧ y = 0)) : ∃ r, OfV x y r := by
  obtain ⟨g, h1, h2, h3⟩ := sec_some h
  exact ⟨_, g, h1, h2, h3, rfl⟩
theorem ofv_one {x y r r' : Int} (h : OfV x y r) (g : OfV x y r') : r = r' := by
  obtain ⟨a, a1, a2, a3, a4⟩ := h
  obtain ⟨b, b1, b2, b3, b4⟩ := g
  have := sec_one a3 b3
  have e : a = b := by omega
  subst e
  rw [a4, b4]
/-- Every angle is met. -/
theorem meet (g h0 : Int) (h1 : 0 ≤ h0) (h2 : h0 < 4096) : ∃ k : Nat, k < 4096 ∧ (if k % 2 = 1 then (g - k) % 4096 else (g + k) % 4096) = h0 := by
  obtain ⟨d, hd⟩ : ∃ d, d = (h0 - g) % 4096 := ⟨_, rfl⟩
  rcases (show d % 2 = 0 ∨ d % 2 = 1 by omega) with e | e
  · exact ⟨d.toNat, by omega, by rw [if_neg (by omega)]; omega⟩
  · exact ⟨(4096 - d).toNat, by omega, by rw [if_pos (by omega)]; omega⟩
end Ang
end Go.Proofs.YtmkglhoahdlogaaGreatDoor
namespace Go.Proofs.YtmkglhoahdlogaaGreatDoor
open Go.RowKit
namespace Ang
/-- Some draws. -/
def Dr (w w' : World) : Prop := ∃ n, w' = w.drewN n
theorem dr_refl (w : World) : Dr w w := ⟨0, by rw [World.drewN_zero]⟩
theorem dr_trans {w w1 w2 : World} (h : Dr w w1) (g : Dr w1 w2) : Dr w w2 := by
  obtain ⟨n, rfl⟩ := h
  obtain ⟨k, rfl⟩ := g
  exact ⟨n + k, by rw [World.drewN_drewN]⟩
theorem dr_below {w w1 : World} (h : Dr w w1) : Below w.heap.size w w1 := by
  obtain ⟨n, rfl⟩ := h
  exact ⟨rfl, rfl, rfl, Nat.le_refl _, fun _ _ => rfl⟩
theorem choose_any (q : Question) (w : World) : ∃ n w1, (if q.forced = true then Result.ok 0 w else Result.ok (q.cut (w.tape w.drawn q)) w.drew) = Result.ok n w1 ∧ Dr w w1 := by
  split
  · exact ⟨0, w, rfl, dr_refl w⟩
  · exact ⟨_, w.drew, rfl, ⟨1, rfl⟩⟩
theorem conv_run {x : Nat} {w : World} : (convert 179 3 (.float .f64 x)).run Tryz.prog w = (Conv.floatToInt .f64 x .i64).run Tryz.prog w := by
  simp [convert, run_underlying Tryz.underlying179, run_underlying Tryz.underlying3]
theorem ar_any {P : Program} (op : BinOp) (ho : op = .add ∨ op = .sub ∨ op = .mul ∨ op = .quo) (x y : Nat) (w : World) : ∃ r w1, (∀ t, (binOp op t (.float .f64 x) (.float .f64 y)).run P w = .ok (.float .f64 r) w1) ∧ Dr w w1 := by
  cases hb : floatBits op .f64 x y with
  | some r => exact ⟨r, w, fun t => run_float_arith w op t .f64 x y r hb, dr_refl w⟩
  | none =>
    obtain ⟨n, w1, h1, h2⟩ := choose_any (.nanBits .f64 x y) w
    refine ⟨n, w1, fun t => ?_, h2⟩
    unfold floatBits at hb
    rcases ho with rfl | rfl | rfl | rfl <;> (simp only at hb; simp [binOp, Op.floatArith, hb, h1, Result.andThen])
theorem wrap_rng (m : Int) : -9223372036854775808 ≤ wrap64 m ∧ wrap64 m ≤ 9223372036854775807 := by unfold wrap64; omega
theorem fi_any (x : Nat) (w : World) : ∃ n w1, (convert 179 3 (.float .f64 x)).run Tryz.prog w = .ok (.int .i64 n) w1 ∧ (-9223372036854775808 ≤ n ∧ n ≤ 9223372036854775807) ∧ Dr w w1 := by
  cases hb : floatToIntVal .f64 x .i64 with
  | some n =>
    refine ⟨n, w, run_convert_float_int w _ _ .f64 .i64 x n (by rw [Tryz.underlying179]; rfl) Tryz.underlying3 hb, ?_, dr_refl w⟩
    have := floatToIntVal_wf hb
    exact Frame.bd this
  | none =>
    obtain ⟨n, w1, h1, h2⟩ := choose_any (.floatToInt .f64 x .i64) w
    refine ⟨IntKind.i64.wrap n, w1, ?_, ?_, h2⟩
    · rw [conv_run]
      unfold floatToIntVal at hb
      unfold Conv.floatToInt
      cases hd : (FloatKind.decode .f64 x).toInt .zero with
      | none => simp [h1, Result.andThen]
      | some m =>
        rw [hd] at hb
        have hc : ¬ (IntKind.i64.min ≤ m ∧ m ≤ IntKind.i64.max) := fun h => by simp only at hb; rw [if_pos h] at hb; cases hb
        simp only [if_neg hc]
        simp [h1, Result.andThen]
    · have : IntKind.i64.wrap (n : Int) = wrap64 n := IntWalk.i64_left _
      rw [this]; exact wrap_rng _
/-- Some float, and some draws. -/
def AnyF (w : World) (e : Ending) (w' : World) : Prop := ∃ r, e = .returned (.float .f64 r) ∧ Dr w w'
theorem anyf_trans {w w1 w' : World} {e : Ending} (h : Dr w w1) (g : AnyF w1 e w') : AnyF w e w' := by
  obtain ⟨r, h1, h2⟩ := g
  exact ⟨r, h1, dr_trans h h2⟩
theorem floor_split (x : Nat) (d : Ieee.Datum) (hd : FloatKind.f64.decode x = d) : Extern.MathFloor.toIntegral "math.archFloor" .down #[.float .f64 x] = Ieee.Datum.casesOn (motive := fun _ => Sem Value) d
    (fun a b c => pure (.float .f64 (FloatKind.f64.encode ((Ieee.Datum.number a b c).integral .down)))) (fun a => pure (.float .f64 (FloatKind.f64.encode ((Ieee.Datum.infinity a).integral .down))))
    (fun a b => if FloatKind.f64.format.quiet b = b then pure (.float .f64 x) else choose (.extern "math.Floor,Ceil,Trunc,RoundToEven.signallingNaN kept" 2) >>= fun k => pure (.float .f64 (if k == 1 then x else FloatKind.f64.encode (.nan a (FloatKind.f64.format.quiet b))))) := by
  delta Extern.MathFloor.toIntegral Extern.MathFloor.toIntegral.match_2
  show Extern.MathFloor.toIntegral.match_1 _ (FloatKind.f64.decode x) _ _ = _
  rw [hd]
  cases d <;> rfl
theorem floor_run (x : Nat) (w : World) : ∃ r w1, (callFunc 120 #[.float .f64 x]).run Tryz.prog w = .ok (.value (.float .f64 r)) w1 ∧ Dr w w1 := by
  rw [run_callFunc_extern (e := Extern.MathFloor.toIntegral "math.archFloor" .down) Tryz.func120 (by kernel_rfl) (by kernel_rfl) (by kernel_rfl) (by kernel_rfl), floor_split x _ rfl]
  generalize FloatKind.f64.decode x = d
  cases d with
  | number a b c => exact ⟨FloatKind.f64.encode ((Ieee.Datum.number a b c).integral .down), w, rfl, dr_refl w⟩
  | infinity a => exact ⟨FloatKind.f64.encode ((Ieee.Datum.infinity a).integral .down), w, rfl, dr_refl w⟩
  | nan a b =>
    by_cases hq : FloatKind.f64.format.quiet b = b
    · refine ⟨x, w, ?_, dr_refl w⟩
      show (Sem.run Tryz.prog (if FloatKind.f64.format.quiet b = b then _ else _) w).andThen _ = _
      rw [if_pos hq]
      rfl
    · obtain ⟨n, w1, h1, h2⟩ := choose_any (.extern "math.Floor,Ceil,Trunc,RoundToEven.signallingNaN kept" 2) w
      refine ⟨if n == 1 then x else FloatKind.f64.encode (.nan a (FloatKind.f64.format.quiet b)), w1, ?_, h2⟩
      show (Sem.run Tryz.prog (if FloatKind.f64.format.quiet b = b then _ else _) w).andThen _ = _
      rw [if_neg hq]
      simp [h1, Result.andThen]
set_option maxRecDepth 100000 in
theorem floor_w (x : Nat) (w : World) : Calls Tryz.prog 108 #[.float .f64 x] w (AnyF w) := by
  obtain ⟨r, w1, h, hd⟩ := floor_run x w
  have HD := Lib.hid hd; clear hd
  go_enter Tryz.func108, Tryz.ntmps108
  go_wp2
  go_ret
  exact ⟨r, rfl, HD.out⟩
set_option maxRecDepth 100000 in
set_option maxHeartbeats 1000000 in
theorem xatan_w (x : Nat) (w : World) : Calls Tryz.prog 148 #[.float .f64 x] w (AnyF w) := by
  obtain ⟨z, w_1, h_w_1, d_w_1⟩ := ar_any (P := Tryz.prog) .mul (by simp) x x w
  obtain ⟨a1, w_2, h_w_2, d_w_2⟩ := ar_any (P := Tryz.prog) .mul (by simp) 13829429103926125972 z w_1
  obtain ⟨b1, w_3, h_w_3, d_w_3⟩ := ar_any (P := Tryz.prog) .add (by simp) a1 13848613196940411002 w_2
  obtain ⟨a2, w_4, h_w_4, d_w_4⟩ := ar_any (P := Tryz.prog) .mul (by simp) b1 z w_3
  obtain ⟨b2, w_5, h_w_5, d_w_5⟩ := ar_any (P := Tryz.prog) .add (by simp) a2 13858350711815275123 w_4
  obtain ⟨a3, w_6, h_w_6, d_w_6⟩ := ar_any (P := Tryz.prog) .mul (by simp) b2 z w_5
  obtain ⟨b3, w_7, h_w_7, d_w_7⟩ := ar_any (P := Tryz.prog) .add (by simp) a3 13861719834326579749 w_6
  obtain ⟨a4, w_8, h_w_8, d_w_8⟩ := ar_any (P := Tryz.prog) .mul (by simp) b3 z w_7
  obtain ⟨b4, w_9, h_w_9, d_w_9⟩ := ar_any (P := Tryz.prog) .add (by simp) a4 13857635882265799822 w_8
  obtain ⟨n, w_10, h_w_10, d_w_10⟩ := ar_any (P := Tryz.prog) .mul (by simp) z b4 w_9
  obtain ⟨c0, w_11, h_w_11, d_w_11⟩ := ar_any (P := Tryz.prog) .add (by simp) z 4627690253511319612 w_10
  obtain ⟨e1, w_12, h_w_12, d_w_12⟩ := ar_any (P := Tryz.prog) .mul (by simp) c0 z w_11
  obtain ⟨c1, w_13, h_w_13, d_w_13⟩ := ar_any (P := Tryz.prog) .add (by simp) e1 4640010388282866213 w_12
  obtain ⟨e2, w_14, h_w_14, d_w_14⟩ := ar_any (P := Tryz.prog) .mul (by simp) c1 z w_13
  obtain ⟨c2, w_15, h_w_15, d_w_15⟩ := ar_any (P := Tryz.prog) .add (by simp) e2 4646322940342877755 w_14
  obtain ⟨e3, w_16, h_w_16, d_w_16⟩ := ar_any (P := Tryz.prog) .mul (by simp) c2 z w_15
  obtain ⟨c3, w_17, h_w_17, d_w_17⟩ := ar_any (P := Tryz.prog) .add (by simp) e3 4647246694406179306 w_16
  obtain ⟨e4, w_18, h_w_18, d_w_18⟩ := ar_any (P := Tryz.prog) .mul (by simp) c3 z w_17
  obtain ⟨c4, w_19, h_w_19, d_w_19⟩ := ar_any (P := Tryz.prog) .add (by simp) e4 4641049159275471596 w_18
  obtain ⟨q, w_20, h_w_20, d_w_20⟩ := ar_any (P := Tryz.prog) .quo (by simp) n c4 w_19
  obtain ⟨v, w_21, h_w_21, d_w_21⟩ := ar_any (P := Tryz.prog) .mul (by simp) x q w_20
  obtain ⟨y, w_22, h_w_22, d_w_22⟩ := ar_any (P := Tryz.prog) .add (by simp) v x w_21
  have HD := Lib.hid (dr_trans (dr_trans (dr_trans (dr_trans (dr_trans (dr_trans (dr_trans (dr_trans (dr_trans (dr_trans (dr_trans (dr_trans (dr_trans (dr_trans (dr_trans (dr_trans (dr_trans (dr_trans (dr_trans (dr_trans (dr_trans (dr_trans (dr_refl w) d_w_1) d_w_2) d_w_3) d_w_4) d_w_5) d_w_6) d_w_7) d_w_8) d_w_9) d_w_10) d_w_11) d_w_12) d_w_13) d_w_14) d_w_15) d_w_16) d_w_17) d_w_18) d_w_19) d_w_20) d_w_21) d_w_22)
  clear d_w_1 d_w_2 d_w_3 d_w_4 d_w_5 d_w_6 d_w_7 d_w_8 d_w_9 d_w_10 d_w_11 d_w_12 d_w_13 d_w_14 d_w_15 d_w_16 d_w_17 d_w_18 d_w_19 d_w_20 d_w_21 d_w_22
  go_enter Tryz.func148, Tryz.ntmps148
  go_wp2
  go_ret
  exact ⟨y, rfl, HD.out⟩
set_option maxRecDepth 100000 in
set_option maxHeartbeats 1000000 in
theorem satan_w (x : Nat) (w : World) : Calls Tryz.prog 145 #[.float .f64 x] w (AnyF w) := by
  cases h1 : (FloatKind.f64.format.order x 4604119971053405471 == some .lt || FloatKind.f64.format.order x 4604119971053405471 == some .eq) with
  | true =>
    go_enter Tryz.func145, Tryz.ntmps145
    go_wp2_with fail
    (with_reducible refine (xatan_w x w).mono ?_); rintro e v1 ⟨r1, rfl, g1⟩
    have HD := Lib.hid g1; clear g1
    go_wp2_with fail
    go_ret
    exact ⟨r1, rfl, HD.out⟩
  | false =>
    cases h2 : (FloatKind.f64.format.order x 4612618744449965542 == some .gt) with
    | true =>
      obtain ⟨i, w1, e1, d1⟩ := ar_any (P := Tryz.prog) .quo (by simp) 4607182418800017408 x w
      have D1 := Lib.hid d1; clear d1
      go_enter Tryz.func145, Tryz.ntmps145
      go_wp2_with fail
      (with_reducible refine (xatan_w i w1).mono ?_); rintro e v1 ⟨r1, rfl, g1⟩
      obtain ⟨j, w2, e2, d2⟩ := ar_any (P := Tryz.prog) .sub (by simp) 4609753056924675352 r1 v1
      obtain ⟨k, w3, e3, d3⟩ := ar_any (P := Tryz.prog) .add (by simp) j 4364452196894661639 w2
      have HD := Lib.hid (dr_trans (dr_trans (dr_trans D1.out g1) d2) d3); clear g1 d2 d3
      go_wp2_with fail
      go_ret
      exact ⟨k, rfl, HD.out⟩
    | false =>
      obtain ⟨i, w1, e1, d1⟩ := ar_any (P := Tryz.prog) .sub (by simp) x 4607182418800017408 w
      obtain ⟨i2, w2, e2, d2⟩ := ar_any (P := Tryz.prog) .add (by simp) x 4607182418800017408 w1
      obtain ⟨i3, w3, e3, d3⟩ := ar_any (P := Tryz.prog) .quo (by simp) i i2 w2
      have D1 := Lib.hid (dr_trans (dr_trans d1 d2) d3); clear d1 d2 d3
      go_enter Tryz.func145, Tryz.ntmps145
      go_wp2_with fail
      (with_reducible refine (xatan_w i3 w3).mono ?_); rintro e v1 ⟨r1, rfl, g1⟩
      obtain ⟨j, w4, e4, d4⟩ := ar_any (P := Tryz.prog) .add (by simp) 4605249457297304856 r1 v1
      obtain ⟨k, w5, e5, d5⟩ := ar_any (P := Tryz.prog) .add (by simp) j 4359948597267291143 w4
      have HD := Lib.hid (dr_trans (dr_trans (dr_trans D1.out g1) d4) d5); clear g1 d4 d5
      go_wp2_with fail
      go_ret
      exact ⟨k, rfl, HD.out⟩
set_option maxRecDepth 100000 in
theorem atan_w (x : Nat) (w : World) : Calls Tryz.prog 141 #[.float .f64 x] w (AnyF w) := by
  have rn := neg_run (P := Tryz.prog)
  cases h1 : (FloatKind.f64.format.order x 0 == some .eq) with
  | true =>
    go_enter Tryz.func141, Tryz.ntmps141
    go_wp2_with fail
    go_ret
    exact ⟨x, rfl, dr_refl w⟩
  | false =>
    cases h2 : (FloatKind.f64.format.order x 0 == some .gt) with
    | true =>
      go_enter Tryz.func141, Tryz.ntmps141
      go_wp2_with fail
      (with_reducible refine (satan_w x w).mono ?_); rintro e v1 ⟨r1, rfl, g1⟩
      have HD := Lib.hid g1; clear g1
      go_wp2_with fail
      go_ret
      exact ⟨r1, rfl, HD.out⟩
    | false =>
      go_enter Tryz.func141, Tryz.ntmps141
      go_wp2_with fail
      (with_reducible refine (satan_w (Op.negFloat .f64 x) w).mono ?_); rintro e v1 ⟨r1, rfl, g1⟩
      have HD := Lib.hid g1; clear g1
      go_wp2_with fail
      go_ret
      exact ⟨_, rfl, HD.out⟩
theorem atanP_w (x : Nat) (w : World) : Calls Tryz.prog 133 #[.float .f64 x] w (AnyF w) := by
  go_enter Tryz.func133, Tryz.ntmps133
  go_wp2_with fail
  (with_reducible refine (atan_w x w).mono ?_); rintro e v1 ⟨r1, rfl, g1⟩
  have HD := Lib.hid g1; clear g1
  go_wp2_with fail
  go_ret
  exact ⟨r1, rfl, HD.out⟩
/-- Some answer, the world as it was. -/
def AnyB (w : World) (e : Ending) (w' : World) : Prop := ∃ b, e = .returned (.bool b) ∧ w = w'
theorem nan_any (x : Nat) (w : World) : Calls Tryz.prog 127 #[.float .f64 x] w (AnyB w) := by
  go_enter Tryz.func127, Tryz.ntmps127
  go_wp2
  go_ret
  exact ⟨_, rfl, rfl⟩
set_option maxRecDepth 100000 in
theorem inf_any (x : Nat) (k : Int) (w : World) : Calls Tryz.prog 128 #[.float .f64 x, .int .i64 k] w (AnyB w) := by
  have rn := neg_run (P := Tryz.prog)
  by_cases h0 : k = 0
  · subst h0
    go_enter Tryz.func128, Tryz.ntmps128
    go_wp2_with fail
    (with_reducible refine (abs_w x _).mono ?_); rintro e w1 ⟨rfl, rfl⟩
    generalize (bits .andNot .u64 (x : Int) 9223372036854775808).toNat = a at *
    go_wp2_with fail
    go_ret
    exact ⟨_, rfl, rfl⟩
  · have q : (k == 0) = false := by simp [h0]
    go_enter Tryz.func128, Tryz.ntmps128
    go_wp2_with fail
    all_goals (go_ret; exact ⟨_, rfl, rfl⟩)
set_option maxRecDepth 100000 in
theorem copysign_w (x y : Nat) (w : World) : Calls Tryz.prog 132 #[.float .f64 x, .float .f64 y] w (AnyF w) := by
  have tb := to_bits; have ob := of_bits
  go_enter Tryz.func132, Tryz.ntmps132
  go_wp2
  go_ret
  exact ⟨_, rfl, dr_refl w⟩
theorem signbit_any (x : Nat) (w : World) : Calls Tryz.prog 131 #[.float .f64 x] w (AnyB w) := by
  have tb := to_bits
  go_enter Tryz.func131, Tryz.ntmps131
  go_wp2
  go_ret
  exact ⟨_, rfl, rfl⟩
theorem nanv_w (w : World) : Calls Tryz.prog 130 #[] w (AnyF w) := by
  have ob := of_bits
  go_enter Tryz.func130, Tryz.ntmps130
  go_wp2
  go_ret
  exact ⟨_, rfl, dr_refl w⟩
set_option maxRecDepth 100000 in
set_option maxHeartbeats 4000000 in
theorem atan2_w (y x : Nat) (w : World) : Calls Tryz.prog 123 #[.float .f64 y, .float .f64 x] w (AnyF w) := by
  go_enter Tryz.func123, Tryz.ntmps123
  go_wp2_with fail
  (with_reducible refine (nan_any y _).mono ?_); rintro e v1 ⟨b1, rfl, rfl⟩
  cases b1 with
  | true =>
    go_wp2_with fail
    (with_reducible refine (nanv_w _).mono ?_); rintro e v1 ⟨r1, rfl, g1⟩
    have HD := Lib.hid g1; clear g1
    go_wp2_with fail
    go_ret
    exact ⟨_, rfl, HD.out⟩
  | false =>
    go_wp2_with fail
    (with_reducible refine (nan_any x _).mono ?_); rintro e v1 ⟨b2, rfl, rfl⟩
    cases b2 with
    | true =>
      go_wp2_with fail
      (with_reducible refine (nanv_w _).mono ?_); rintro e v1 ⟨r1, rfl, g1⟩
      have HD := Lib.hid g1; clear g1
      go_wp2_with fail
      go_ret
      exact ⟨_, rfl, HD.out⟩
    | false =>
      cases h3 : (FloatKind.f64.format.order y 0 == some .eq) with
      | true =>
        cases h4 : (FloatKind.f64.format.order x 0 == some .gt || FloatKind.f64.format.order x 0 == some .eq) with
        | true =>
          go_wp2_with fail
          (with_reducible refine (signbit_any x _).mono ?_); rintro e v1 ⟨b3, rfl, rfl⟩
          cases b3 with
          | true =>
            go_wp2_with fail
            (with_reducible refine (copysign_w _ _ _).mono ?_); rintro e v1 ⟨r1, rfl, g1⟩
            have HD := Lib.hid g1; clear g1
            go_wp2_with fail
            go_ret
            exact ⟨_, rfl, HD.out⟩
          | false =>
            go_wp2_with fail
            (with_reducible refine (copysign_w _ _ _).mono ?_); rintro e v1 ⟨r1, rfl, g1⟩
            have HD := Lib.hid g1; clear g1
            go_wp2_with fail
            go_ret
            exact ⟨_, rfl, HD.out⟩
        | false =>
          go_wp2_with fail
          (with_reducible refine (copysign_w _ _ _).mono ?_); rintro e v1 ⟨r1, rfl, g1⟩
          have HD := Lib.hid g1; clear g1
          go_wp2_with fail
          go_ret
          exact ⟨_, rfl, HD.out⟩
      | false =>
        cases h5 : (FloatKind.f64.format.order x 0 == some .eq) with
        | true =>
          go_wp2_with fail
          (with_reducible refine (copysign_w _ _ _).mono ?_); rintro e v1 ⟨r1, rfl, g1⟩
          have HD := Lib.hid g1; clear g1
          go_wp2_with fail
          go_ret
          exact ⟨_, rfl, HD.out⟩
        | false =>
          go_wp2_with fail
          (with_reducible refine (inf_any x 0 _).mono ?_); rintro e v1 ⟨b4, rfl, rfl⟩
          cases b4 with
          | true =>
            go_wp2_with fail
            (with_reducible refine (inf_any x 1 _).mono ?_); rintro e v1 ⟨b5, rfl, rfl⟩
            cases b5 with
            | true =>
              go_wp2_with fail
              (with_reducible refine (inf_any y 0 _).mono ?_); rintro e v1 ⟨b6, rfl, rfl⟩
              cases b6 with
              | true =>
                go_wp2_with fail
                (with_reducible refine (copysign_w _ _ _).mono ?_); rintro e v1 ⟨r1, rfl, g1⟩
                have HD := Lib.hid g1; clear g1
                go_wp2_with fail
                go_ret
                exact ⟨_, rfl, HD.out⟩
              | false =>
                go_wp2_with fail
                (with_reducible refine (copysign_w _ _ _).mono ?_); rintro e v1 ⟨r1, rfl, g1⟩
                have HD := Lib.hid g1; clear g1
                go_wp2_with fail
                go_ret
                exact ⟨_, rfl, HD.out⟩
            | false =>
              go_wp2_with fail
              (with_reducible refine (inf_any y 0 _).mono ?_); rintro e v1 ⟨b6, rfl, rfl⟩
              cases b6 with
              | true =>
                go_wp2_with fail
                (with_reducible refine (copysign_w _ _ _).mono ?_); rintro e v1 ⟨r1, rfl, g1⟩
                have HD := Lib.hid g1; clear g1
                go_wp2_with fail
                go_ret
                exact ⟨_, rfl, HD.out⟩
              | false =>
                go_wp2_with fail
                (with_reducible refine (copysign_w _ _ _).mono ?_); rintro e v1 ⟨r1, rfl, g1⟩
                have HD := Lib.hid g1; clear g1
                go_wp2_with fail
                go_ret
                exact ⟨_, rfl, HD.out⟩
          | false =>
            go_wp2_with fail
            (with_reducible refine (inf_any y 0 _).mono ?_); rintro e v1 ⟨b7, rfl, rfl⟩
            cases b7 with
            | true =>
              go_wp2_with fail
              (with_reducible refine (copysign_w _ _ _).mono ?_); rintro e v1 ⟨r1, rfl, g1⟩
              have HD := Lib.hid g1; clear g1
              go_wp2_with fail
              go_ret
              exact ⟨_, rfl, HD.out⟩
            | false =>
              obtain ⟨q, w1, e1, d1⟩ := ar_any (P := Tryz.prog) .quo (by simp) y x w
              have D1 := Lib.hid d1; clear d1
              go_wp2_with fail
              (with_reducible refine (atanP_w q w1).mono ?_); rintro e v1 ⟨r1, rfl, g1⟩
              obtain ⟨j, w2, e2, d2⟩ := ar_any (P := Tryz.prog) .add (by simp) r1 4614256656552045848 v1
              obtain ⟨k, w3, e3, d3⟩ := ar_any (P := Tryz.prog) .sub (by simp) r1 4614256656552045848 v1
              have H1 := Lib.hid (dr_trans D1.out g1); have H2 := Lib.hid (dr_trans (dr_trans D1.out g1) d2); have H3 := Lib.hid (dr_trans (dr_trans D1.out g1) d3)
              clear g1 d2 d3
              cases h7 : (FloatKind.f64.format.order x 0 == some .lt) with
              | true =>
                cases h8 : (FloatKind.f64.format.order r1 0 == some .lt || FloatKind.f64.format.order r1 0 == some .eq) with
                | true =>
                  go_wp2_with fail
                  go_ret
                  exact ⟨_, rfl, H2.out⟩
                | false =>
                  go_wp2_with fail
                  go_ret
                  exact ⟨_, rfl, H3.out⟩
              | false =>
                go_wp2_with fail
                go_ret
                exact ⟨_, rfl, H1.out⟩
theorem atan2P_w (y x : Nat) (w : World) : Calls Tryz.prog 109 #[.float .f64 y, .float .f64 x] w (AnyF w) := by
  go_enter Tryz.func109, Tryz.ntmps109
  go_wp2_with fail
  (with_reducible refine (atan2_w _ _ _).mono ?_); rintro e v1 ⟨r1, rfl, g1⟩
  have HD := Lib.hid g1; clear g1
  go_wp2_with fail
  go_ret
  exact ⟨_, rfl, HD.out⟩
end Ang
end Go.Proofs.YtmkglhoahdlogaaGreatDoor
