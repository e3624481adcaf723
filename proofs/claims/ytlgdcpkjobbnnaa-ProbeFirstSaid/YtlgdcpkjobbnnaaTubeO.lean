/- What tube.Of returns. -/
import Derived.Test.YtlgdcpkjobbnnaaTubeH
import Derived.Test.YtlgdcpkjobbnnaaRowM
import Derived.Test.YtlgdcpkjobbnnaaFlyAtC
namespace Go.Proofs.Ytlgdcpkjobbnnaa
open Go.RowKit
namespace Tube
open Kit Plane Path
theorem info_tn : (Try.prog.info? 71).map (fun i => (i.zero, i.size, i.bytes)) = some (some (.agg #[.int .i64 0, .int .i64 0, .int .i64 0, .int .i64 0, .int .i64 0, .int .i64 0]), 6, 48) := by kernel_rfl
/-- The numbers of a tube made of a path. -/
def ofF (T X Y H : Nat → Int) (r d : Int) (wd : Nat → Int) : Nat → Nat → Int := fun i j => if j = 0 then T i else if j = 1 then X i else if j = 2 then Y i else if j = 3 then H i else if j = 4 then r + wd i else d
theorem new6 (w : World) (ty : TypeId) (t x y h r d : Int) : ∀ j u, [Value.int .i64 t, .int .i64 x, .int .i64 y, .int .i64 h, .int .i64 r, .int .i64 d][j]? = some u → (w.alloc (.cells #[.int .i64 t, .int .i64 x, .int .i64 y, .int .i64 h, .int .i64 r, .int .i64 d] ty)).cell? ((⟨w.heap.size, 0, none⟩ : Addr).add j) = some u := by
  intro j u hj
  match j, hj with
  | 0, hj => simp [Addr.add] at hj ⊢; exact hj
  | 1, hj => simp [Addr.add] at hj ⊢; exact hj
  | 2, hj => simp [Addr.add] at hj ⊢; exact hj
  | 3, hj => simp [Addr.add] at hj ⊢; exact hj
  | 4, hj => simp [Addr.add] at hj ⊢; exact hj
  | 5, hj => simp [Addr.add] at hj ⊢; exact hj
  | j + 6, hj => simp at hj
theorem new6_one {t x y h r d : Int} : ∀ u ∈ [Value.int .i64 t, .int .i64 x, .int .i64 y, .int .i64 h, .int .i64 r, .int .i64 d], u.oneCell' = true := by
  intro u hu
  simp at hu
  rcases hu with rfl | rfl | rfl | rfl | rfl | rfl <;> rfl
end Tube
end Go.Proofs.Ytlgdcpkjobbnnaa
