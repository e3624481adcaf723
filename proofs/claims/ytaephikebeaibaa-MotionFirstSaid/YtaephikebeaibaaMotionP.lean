/- Plain facts on straight flights. No program. -/
import Derived.Test.YtaephikebeaibaaPlaneP
import Derived.Test.YtaephikebeaibaaKit
namespace Go.Proofs.Ytaephikebeaibaa
open Go.RowKit
namespace Motion
open Kit Plane
/-- A motion that Check accepts. -/
abbrev mok (t0 t1 ax ay bx by' : Int) : Prop := (0 ≤ t0 ∧ t1 ≤ 200000 ∧ t0 < t1) ∧ good ax ay ∧ good bx by'
/-- motion.Check's error. -/
def mchk (t0 t1 ax ay bx by' : Int) : Int := if ¬ (0 ≤ t0 ∧ t1 ≤ 200000 ∧ t0 < t1) then 12 else if ¬ good ax ay then 4 else if ¬ good bx by' then 4 else 0
theorem mchk_ok {t0 t1 ax ay bx by' : Int} (h : mok t0 t1 ax ay bx by') : mchk t0 t1 ax ay bx by' = 0 := by
  unfold mchk
  rw [if_neg (fun e => e h.1), if_neg (fun e => e h.2.1), if_neg (fun e => e h.2.2)]
theorem mchk_bad {t0 t1 ax ay bx by' : Int} (h : ¬ mok t0 t1 ax ay bx by') : mchk t0 t1 ax ay bx by' ≠ 0 := by
  unfold mchk
  by_cases h1 : 0 ≤ t0 ∧ t1 ≤ 200000 ∧ t0 < t1
  · rw [if_neg (fun e => e h1)]
    by_cases h2 : good ax ay
    · rw [if_neg (fun e => e h2)]
      by_cases h3 : good bx by'
      · exact absurd ⟨h1, h2, h3⟩ h
      · rw [if_pos h3]; omega
    · rw [if_pos h2]; omega
  · rw [if_pos h1]; omega
theorem ne_bool {E : Int} (h : E ≠ 0) : (E == 0) = false ∧ (E != 0) = true := ⟨by rw [beq_eq_false_iff_ne]; exact h, by rw [bne_iff_ne]; exact h⟩
/-- Six cells. -/
abbrev M6 (w : World) (b : Nat) (t0 t1 ax ay bx by' : Int) : Prop := (w.cell? ⟨b, 0, none⟩ = some (.int .i64 t0) ∧ w.cell? ⟨b, 1, none⟩ = some (.int .i64 t1)) ∧ (w.cell? ⟨b, 2, none⟩ = some (.int .i64 ax) ∧ w.cell? ⟨b, 3, none⟩ = some (.int .i64 ay)) ∧
  (w.cell? ⟨b, 4, none⟩ = some (.int .i64 bx) ∧ w.cell? ⟨b, 5, none⟩ = some (.int .i64 by'))
section
variable {W w1 : World} {b : Nat} {t0 t1 ax ay bx by' : Int}
theorem m6_keep (hb : Below W.heap.size W w1) (h : M6 W b t0 t1 ax ay bx by') : M6 w1 b t0 t1 ax ay bx by' :=
  ⟨⟨keep hb h.1.1, keep hb h.1.2⟩, ⟨keep hb h.2.1.1, keep hb h.2.1.2⟩, ⟨keep hb h.2.2.1, keep hb h.2.2.2⟩⟩
theorem m6_alloc (o : Obj) (h : M6 W b t0 t1 ax ay bx by') : M6 (W.alloc o) b t0 t1 ax ay bx by' := m6_keep (b_alloc (Below.refl _ _) o) h
theorem m6_new (w : World) (t : TypeId) (t0 t1 ax ay bx by' : Int) : M6 (w.alloc (.cells #[.int .i64 t0, .int .i64 t1, .int .i64 ax, .int .i64 ay, .int .i64 bx, .int .i64 by'] t)) w.heap.size t0 t1 ax ay bx by' :=
  ⟨⟨by simp, by simp⟩, ⟨by simp, by simp⟩, ⟨by simp, by simp⟩⟩
theorem m6_new1 (w : World) (o : Obj) (t : TypeId) (t0 t1 ax ay bx by' : Int) : M6 ((w.alloc o).alloc (.cells #[.int .i64 t0, .int .i64 t1, .int .i64 ax, .int .i64 ay, .int .i64 bx, .int .i64 by'] t)) (w.heap.size + 1) t0 t1 ax ay bx by' := by
  have h := m6_new (w.alloc o) t t0 t1 ax ay bx by'; rw [World.size_alloc] at h; exact h
theorem m6_far (a : Addr) (u : Value) (hne : a.block ≠ b) (h : M6 W b t0 t1 ax ay bx by') : M6 (W.setCell a u) b t0 t1 ax ay bx by' :=
  ⟨⟨cfar _ (fun e => hne (by rw [e])) h.1.1, cfar _ (fun e => hne (by rw [e])) h.1.2⟩, ⟨cfar _ (fun e => hne (by rw [e])) h.2.1.1, cfar _ (fun e => hne (by rw [e])) h.2.1.2⟩, ⟨cfar _ (fun e => hne (by rw [e])) h.2.2.1, cfar _ (fun e => hne (by rw [e])) h.2.2.2⟩⟩
end
/-- Six cells that may be written. -/
abbrev F6 (w : World) (b : Nat) : Prop := (w.frozen? ⟨b, 0, none⟩ = false ∧ w.frozen? ⟨b, 1, none⟩ = false) ∧ (w.frozen? ⟨b, 2, none⟩ = false ∧ w.frozen? ⟨b, 3, none⟩ = false) ∧ (w.frozen? ⟨b, 4, none⟩ = false ∧ w.frozen? ⟨b, 5, none⟩ = false)
section
variable {W w1 : World} {b : Nat} {t0 t1 ax ay bx by' : Int}
theorem f6_keep (hb : Below W.heap.size W w1) (h : M6 W b t0 t1 ax ay bx by') (f : F6 W b) : F6 w1 b :=
  ⟨⟨keepF hb h.1.1 f.1.1, keepF hb h.1.2 f.1.2⟩, ⟨keepF hb h.2.1.1 f.2.1.1, keepF hb h.2.1.2 f.2.1.2⟩, ⟨keepF hb h.2.2.1 f.2.2.1, keepF hb h.2.2.2 f.2.2.2⟩⟩
theorem f6_set (a : Addr) (u : Value) (f : F6 W b) : F6 (W.setCell a u) b :=
  ⟨⟨(World.frozen?_setCell _ _ _ _).trans f.1.1, (World.frozen?_setCell _ _ _ _).trans f.1.2⟩, ⟨(World.frozen?_setCell _ _ _ _).trans f.2.1.1, (World.frozen?_setCell _ _ _ _).trans f.2.1.2⟩, ⟨(World.frozen?_setCell _ _ _ _).trans f.2.2.1, (World.frozen?_setCell _ _ _ _).trans f.2.2.2⟩⟩
theorem f6_new (w : World) (t : TypeId) (t0 t1 ax ay bx by' : Int) : F6 (w.alloc (.cells #[.int .i64 t0, .int .i64 t1, .int .i64 ax, .int .i64 ay, .int .i64 bx, .int .i64 by'] t)) w.heap.size := ⟨⟨by simp, by simp⟩, ⟨by simp, by simp⟩, ⟨by simp, by simp⟩⟩
theorem f6_new1 (w : World) (o : Obj) (t : TypeId) (t0 t1 ax ay bx by' : Int) : F6 ((w.alloc o).alloc (.cells #[.int .i64 t0, .int .i64 t1, .int .i64 ax, .int .i64 ay, .int .i64 bx, .int .i64 by'] t)) (w.heap.size + 1) := by
  have h := f6_new (w.alloc o) t t0 t1 ax ay bx by'; rw [World.size_alloc] at h; exact h
/-- A struct of six cells stored. -/
theorem m6_set (u0 u1 ux uy vx vy : Int) (h : M6 W b t0 t1 ax ay bx by') :
    M6 ((((((W.setCell ⟨b, 0, none⟩ (.int .i64 u0)).setCell ⟨b, 1, none⟩ (.int .i64 u1)).setCell ⟨b, 2, none⟩ (.int .i64 ux)).setCell ⟨b, 3, none⟩ (.int .i64 uy)).setCell ⟨b, 4, none⟩ (.int .i64 vx)).setCell ⟨b, 5, none⟩ (.int .i64 vy)) b u0 u1 ux uy vx vy := by
  obtain ⟨⟨h0, h1⟩, ⟨h2, h3⟩, h4, h5⟩ := h
  refine ⟨⟨?_, ?_⟩, ⟨?_, ?_⟩, ?_, ?_⟩
  · exact cfar _ (by simp) (cfar _ (by simp) (cfar _ (by simp) (cfar _ (by simp) (cfar _ (by simp) (cset _ h0)))))
  · exact cfar _ (by simp) (cfar _ (by simp) (cfar _ (by simp) (cfar _ (by simp) (cset _ (cfar _ (by simp) h1)))))
  · exact cfar _ (by simp) (cfar _ (by simp) (cfar _ (by simp) (cset _ (cfar _ (by simp) (cfar _ (by simp) h2)))))
  · exact cfar _ (by simp) (cfar _ (by simp) (cset _ (cfar _ (by simp) (cfar _ (by simp) (cfar _ (by simp) h3)))))
  · exact cfar _ (by simp) (cset _ (cfar _ (by simp) (cfar _ (by simp) (cfar _ (by simp) (cfar _ (by simp) h4)))))
  · exact cset _ (cfar _ (by simp) (cfar _ (by simp) (cfar _ (by simp) (cfar _ (by simp) (cfar _ (by simp) h5)))))
theorem m6_far6 {c : Nat} (v0 v1 v2 v3 v4 v5 : Value) (hne : c ≠ b) (h : M6 W b t0 t1 ax ay bx by') :
    M6 ((((((W.setCell ⟨c, 0, none⟩ v0).setCell ⟨c, 1, none⟩ v1).setCell ⟨c, 2, none⟩ v2).setCell ⟨c, 3, none⟩ v3).setCell ⟨c, 4, none⟩ v4).setCell ⟨c, 5, none⟩ v5) b t0 t1 ax ay bx by' :=
  m6_far _ _ hne (m6_far _ _ hne (m6_far _ _ hne (m6_far _ _ hne (m6_far _ _ hne (m6_far _ _ hne h)))))
theorem f6_set6 {c : Nat} (v0 v1 v2 v3 v4 v5 : Value) (h : F6 W b) :
    F6 ((((((W.setCell ⟨c, 0, none⟩ v0).setCell ⟨c, 1, none⟩ v1).setCell ⟨c, 2, none⟩ v2).setCell ⟨c, 3, none⟩ v3).setCell ⟨c, 4, none⟩ v4).setCell ⟨c, 5, none⟩ v5) b :=
  f6_set _ _ (f6_set _ _ (f6_set _ _ (f6_set _ _ (f6_set _ _ (f6_set _ _ h)))))
theorem b_set6 {w : World} {c : Nat} (v0 v1 v2 v3 v4 v5 : Value) (hc : w.heap.size ≤ c) (h : Below w.heap.size w W) :
    Below w.heap.size w ((((((W.setCell ⟨c, 0, none⟩ v0).setCell ⟨c, 1, none⟩ v1).setCell ⟨c, 2, none⟩ v2).setCell ⟨c, 3, none⟩ v3).setCell ⟨c, 4, none⟩ v4).setCell ⟨c, 5, none⟩ v5) :=
  b_set (b_set (b_set (b_set (b_set (b_set h hc _) hc _) hc _) hc _) hc _) hc _
end
/-- The least of f from 'from' on, and where it is first. -/
def arg (f : Int → Int) (lo : Int) : Nat → Int
  | 0 => lo
  | n + 1 => if f (lo + (n + 1 : Nat)) < f (arg f lo n) then lo + (n + 1 : Nat) else arg f lo n
theorem arg_spec (f : Int → Int) (lo : Int) (n : Nat) : lo ≤ arg f lo n ∧ arg f lo n ≤ lo + n ∧ ∀ t, lo ≤ t → t ≤ lo + n → f (arg f lo n) < f t ∨ f (arg f lo n) = f t ∧ arg f lo n ≤ t := by
  induction n with
  | zero =>
    refine ⟨by unfold arg; omega, by unfold arg; omega, fun t h1 h2 => ?_⟩
    have : t = lo := by omega
    subst this
    unfold arg; omega
  | succ n ih =>
    obtain ⟨h1, h2, h3⟩ := ih
    unfold arg
    split
    · rename_i hlt
      refine ⟨by omega, by omega, fun t g1 g2 => ?_⟩
      rcases Int.lt_or_le t (lo + (n + 1 : Nat)) with hl | hl
      · rcases h3 t g1 (by omega) with h | h <;> omega
      · have : t = lo + (n + 1 : Nat) := by omega
        subst this
        exact Or.inr ⟨rfl, by omega⟩
    · rename_i hge
      refine ⟨h1, by omega, fun t g1 g2 => ?_⟩
      rcases Int.lt_or_le t (lo + (n + 1 : Nat)) with hl | hl
      · exact h3 t g1 (by omega)
      · have : t = lo + (n + 1 : Nat) := by omega
        subst this
        omega
theorem du_spec {a b : Int} (ha : 0 ≤ a) (hb : 0 < b) : 0 ≤ Num.du a b ∧ a ≤ b * Num.du a b ∧ b * Num.du a b < a + b := by
  have h := Num.du_ok (a := a) (b := b) (by omega) (by omega)
  have e1 := Int.mul_ediv_add_emod a b
  have e2 := Int.emod_nonneg a (show b ≠ 0 by omega)
  have e3 := Int.emod_lt_of_pos a hb
  have e4 : a.tmod b = a % b := Int.tmod_eq_emod_of_nonneg ha
  have e5 : 0 ≤ a / b := Int.ediv_nonneg ha (by omega)
  rw [h, e4, Num.fd_pos hb]
  split
  · generalize b * (a / b) = t at *; omega
  · rw [Int.mul_add, Int.mul_one]; generalize b * (a / b) = t at *; omega
end Motion
end Go.Proofs.Ytaephikebeaibaa
