/- Joined texts: At, FlyAt, FlyAtC. -/
import Derived.Test.YtmkglhoahdlogaaGreatDoorPath
namespace Go.Proofs.YtmkglhoahdlogaaGreatDoor
open Go.RowKit
namespace Path
open Kit Plane
/-- Four cells that may be written. -/
abbrev F4 (w : World) (b : Nat) : Prop := (w.frozen? ⟨b, 0, none⟩ = false ∧ w.frozen? ⟨b, 1, none⟩ = false) ∧ (w.frozen? ⟨b, 2, none⟩ = false ∧ w.frozen? ⟨b, 3, none⟩ = false)
theorem f4_new (w : World) (ty : TypeId) (t x y h : Int) : F4 (w.alloc (.cells #[.int .i64 t, .int .i64 x, .int .i64 y, .int .i64 h] ty)) w.heap.size := ⟨⟨by simp, by simp⟩, ⟨by simp, by simp⟩⟩
/-- Four cells of zeros that may be written. -/
abbrev Z4 (w : World) (b : Nat) : Prop := C4 w b 0 0 0 0 ∧ F4 w b
theorem z4_new (w : World) (ty : TypeId) : Z4 (w.alloc (.cells #[.int .i64 0, .int .i64 0, .int .i64 0, .int .i64 0] ty)) w.heap.size := ⟨c4_new w ty 0 0 0 0, f4_new w ty 0 0 0 0⟩
theorem z4_keep {W w1 : World} (hb : Below W.heap.size W w1) {b : Nat} (h : Z4 W b) : Z4 w1 b :=
  ⟨c4_keep hb h.1, ⟨keepF hb h.1.1.1 h.2.1.1, keepF hb h.1.1.2 h.2.1.2⟩, ⟨keepF hb h.1.2.1 h.2.2.1, keepF hb h.1.2.2 h.2.2.2⟩⟩
theorem c4_new1 (w : World) (o : Obj) (ty : TypeId) (t x y h : Int) : C4 ((w.alloc o).alloc (.cells #[.int .i64 t, .int .i64 x, .int .i64 y, .int .i64 h] ty)) (w.heap.size + 1) t x y h := by
  have c := c4_new (w.alloc o) ty t x y h; rw [World.size_alloc] at c; exact c
theorem c4_new2 (w : World) (o o' : Obj) (ty : TypeId) (t x y h : Int) : C4 (((w.alloc o).alloc o').alloc (.cells #[.int .i64 t, .int .i64 x, .int .i64 y, .int .i64 h] ty)) (w.heap.size + 1 + 1) t x y h := by
  have c := c4_new1 (w.alloc o) o' ty t x y h; rw [World.size_alloc] at c; exact c
theorem c4_set {W : World} {b : Nat} {t x y h : Int} (t' x' y' h' : Int) (hc : C4 W b t x y h) :
    C4 ((((W.setCell ⟨b, 0, none⟩ (.int .i64 t')).setCell ⟨b, 1, none⟩ (.int .i64 x')).setCell ⟨b, 2, none⟩ (.int .i64 y')).setCell ⟨b, 3, none⟩ (.int .i64 h')) b t' x' y' h' :=
  ⟨⟨cfar _ (by simp) (cfar _ (by simp) (cfar _ (by simp) (cset _ hc.1.1))), cfar _ (by simp) (cfar _ (by simp) (cset _ (cfar _ (by simp) hc.1.2)))⟩,
   ⟨cfar _ (by simp) (cset _ (cfar _ (by simp) (cfar _ (by simp) hc.2.1))), cset _ (cfar _ (by simp) (cfar _ (by simp) (cfar _ (by simp) hc.2.2)))⟩⟩
end Path
end Go.Proofs.YtmkglhoahdlogaaGreatDoor
namespace Go.Proofs.YtmkglhoahdlogaaGreatDoor
open Go.RowKit
namespace Path
open Kit Plane
abbrev CkC (v : Value) (E : Int) (w : World) : Prop := ∀ w1 : World, Below w.heap.size w w1 → Calls Tryz.prog 63 #[v] w1 fun e w' => e = .returned (.int .i64 E) ∧ Below w1.heap.size w1 w'
theorem checkC {v : Value} {n : Nat} {T X Y H : Nat → Int} {w : World} (hv : PV w v n T X Y H) : CkC v (pchk T X Y H n) w := fun w1 hb => by
  rcases hv with ⟨h0, hv⟩ | ⟨h0, b, off, cap, hv, h1, h2, h3⟩
  · subst h0
    have e : pchk T X Y H 0 = 3 := rfl
    rw [e]
    rcases hv with hv | ⟨a, cap, hv, _⟩
    · subst hv; exact (check_nil w1).mono fun e w' ⟨he, hw⟩ => ⟨he, hw ▸ Below.refl _ _⟩
    · subst hv; exact (check_empty a cap w1).mono fun e w' ⟨he, hw⟩ => ⟨he, hw ▸ Below.refl _ _⟩
  · subst hv
    have hm : cap ≤ 9223372036854775807 := Nat.le_trans h2 (by decide)
    by_cases hl : 64 < n
    · have e : pchk T X Y H n = 2 := if_pos hl
      rw [e]
      exact (check_large n cap b off w1 hl h1 hm).mono fun e w' ⟨he, hw⟩ => ⟨he, hw ▸ Below.refl _ _⟩
    · have e : pchk T X Y H n = nchk T X Y H n := by unfold pchk; rw [if_neg hl, if_neg (by omega)]
      rw [e]
      exact check_nodes n cap b off T X Y H w1 h0 (by omega) h1 hm (Lib.hid fun k hk => n4_keep hb (h3 k hk))
end Path
end Go.Proofs.YtmkglhoahdlogaaGreatDoor
namespace Go.Proofs.YtmkglhoahdlogaaGreatDoor
open Go.RowKit
namespace Path
open Kit Plane
/-- fly.At's error. -/
def atE (T X Y H : Nat → Int) (n : Nat) (t : Int) : Int := if pchk T X Y H n ≠ 0 then pchk T X Y H n else if t < T 0 ∨ T (n - 1) < t then 12 else 0
/-- Node i is the last one that is not later than t. -/
def seg (T : Nat → Int) (n : Nat) (t : Int) (i : Nat) : Prop := i < n ∧ T i ≤ t ∧ (i + 1 < n → t < T (i + 1))
theorem seg_ex {T : Nat → Int} {t : Int} : ∀ {n : Nat}, 0 < n → T 0 ≤ t → ∃ i, seg T n t i := by
  intro n
  induction n with
  | zero => intro h; exact absurd h (by omega)
  | succ n ih =>
    intro _ h0
    rcases Nat.eq_zero_or_pos n with hn | hn
    · subst hn; exact ⟨0, by omega, h0, fun h => by omega⟩
    · by_cases hl : T n ≤ t
      · exact ⟨n, by omega, hl, fun h => by omega⟩
      · obtain ⟨i, h1, h2, h3⟩ := ih hn h0
        refine ⟨i, by omega, h2, fun h => ?_⟩
        rcases Nat.lt_or_ge (i + 1) n with h4 | h4
        · exact h3 h4
        · rw [show i + 1 = n from by omega]; omega
theorem atE_zero {T X Y H : Nat → Int} {n : Nat} {t : Int} (h : atE T X Y H n t = 0) : pok T X Y H n ∧ T 0 ≤ t ∧ t ≤ T (n - 1) ∧ ∃ i, seg T n t i := by
  unfold atE at h
  split at h
  · rename_i h1; exact absurd h h1
  · rename_i h1
    split at h
    · omega
    · have hp := (pchk_zero n).1 (Classical.not_not.1 h1)
      exact ⟨hp, by omega, by omega, seg_ex hp.1 (by omega)⟩
theorem pok_le {T X Y H : Nat → Int} {n : Nat} (h : pok T X Y H n) {i j : Nat} (hij : i ≤ j) (hj : j < n) : T i ≤ T j := by
  rcases Nat.lt_or_ge i j with hl | hl
  · have := pok_lt h hl hj; omega
  · rw [show i = j from by omega]; exact Int.le_refl _
/-- Position and height at t, from node i on. -/
def atx (T X : Nat → Int) (i : Nat) (t : Int) : Int := tw (X i) (X (i + 1)) (t - T i) (T (i + 1) - T i)
def ath (T H : Nat → Int) (i : Nat) (t : Int) : Int := H i + (H (i + 1) - H i) * (t - T i) / (T (i + 1) - T i)
theorem atx_at {T X : Nat → Int} {i : Nat} : atx T X i (T i) = X i := by unfold atx; rw [Int.sub_self, tw_zero]
theorem ath_at {T H : Nat → Int} {i : Nat} : ath T H i (T i) = H i := by unfold ath; rw [Int.sub_self, Int.mul_zero, Int.zero_ediv, Int.add_zero]
/-- What lies between is between. -/
theorem quo_bd {d n N : Int} (hN : 0 < N) (h0 : 0 ≤ n) (h1 : n ≤ N) : (0 ≤ d * n / N ∨ d ≤ d * n / N) ∧ (d * n / N ≤ 0 ∨ d * n / N ≤ d) := by
  have e := tw_bd (a := 0) (b := d) hN h0 h1
  unfold tw at e
  rw [Int.sub_zero, Int.zero_add] at e
  exact e
end Path
end Go.Proofs.YtmkglhoahdlogaaGreatDoor
