/- What fly.at returns. -/
import Derived.Test.YtlgdcpkjobbnnaaPath
namespace Go.Proofs.Ytlgdcpkjobbnnaa
open Go.RowKit
namespace Path
open Kit Plane
/-- Four cells that may be written. -/
abbrev F4 (w : World) (b : Nat) : Prop := (w.frozen? ⟨b, 0, none⟩ = false ∧ w.frozen? ⟨b, 1, none⟩ = false) ∧ (w.frozen? ⟨b, 2, none⟩ = false ∧ w.frozen? ⟨b, 3, none⟩ = false)
theorem f4_new (w : World) (ty : TypeId) (t x y h : Int) : F4 (w.alloc (.cells #[.int .i64 t, .int .i64 x, .int .i64 y, .int .i64 h] ty)) w.heap.size := ⟨⟨by simp, by simp⟩, ⟨by simp, by simp⟩⟩
/-- Four cells of zeros that may be written. -/
abbrev Z4 (w : World) (b : Nat) : Prop := C4 w b 0 0 0 0 ∧ F4 w b
theorem z4_new (w : World) (ty : TypeId) : Z4 (w.alloc (.cells #[.int .i64 0, .int .i64 0, .int .i64 0, .int .i64 0] ty)) w.heap.size := ⟨c4_new w ty 0 0 0 0, f4_new w ty 0 0 0 0⟩
theorem z4_keep {W w1 : World} (hb : Below W.heap.size W w1) {b : Nat} (h : Z4 W b) : Z4 w1 b :=
  ⟨c4_keep hb h.1, ⟨keepF hb h.1.1.1 h.2.1.1, keepF hb h.1.1.2 h.2.1.2⟩, ⟨keepF hb h.1.2.1 h.2.2.1, keepF hb h.1.2.2 h.2.2.2⟩⟩
theorem c4_new1 (w : World) (o : Obj) (ty : TypeId) (t x y h : Int) : C4 ((w.alloc o).alloc (.cells #[.int .i64 t, .int .i64 x, .int .i64 y, .int .i64 h] ty)) (w.heap.size + 1) t x y h := by
  have c := c4_new (w.alloc o) ty t x y h; rw [World.size_alloc] at c; exact c
theorem c4_new2 (w : World) (o o' : Obj) (ty : TypeId) (t x y h : Int) : C4 (((w.alloc o).alloc o').alloc (.cells #[.int .i64 t, .int .i64 x, .int .i64 y, .int .i64 h] ty)) (w.heap.size + 1 + 1) t x y h := by
  have c := c4_new1 (w.alloc o) o' ty t x y h; rw [World.size_alloc] at c; exact c
theorem c4_set {W : World} {b : Nat} {t x y h : Int} (t' x' y' h' : Int) (hc : C4 W b t x y h) :
    C4 ((((W.setCell ⟨b, 0, none⟩ (.int .i64 t')).setCell ⟨b, 1, none⟩ (.int .i64 x')).setCell ⟨b, 2, none⟩ (.int .i64 y')).setCell ⟨b, 3, none⟩ (.int .i64 h')) b t' x' y' h' :=
  ⟨⟨cfar _ (by simp) (cfar _ (by simp) (cfar _ (by simp) (cset _ hc.1.1))), cfar _ (by simp) (cfar _ (by simp) (cset _ (cfar _ (by simp) hc.1.2)))⟩,
   ⟨cfar _ (by simp) (cset _ (cfar _ (by simp) (cfar _ (by simp) hc.2.1))), cset _ (cfar _ (by simp) (cfar _ (by simp) (cfar _ (by simp) hc.2.2)))⟩⟩
end Path
end Go.Proofs.Ytlgdcpkjobbnnaa
