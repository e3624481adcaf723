/- What the rows of the angles list: a world that meets it; what a walk has of it. -/
import Derived.Test.YtmkglhoahdlogaaGreatDoorJ14
import Derived.LaidHandle
namespace Go.Proofs.YtmkglhoahdlogaaGreatDoor
open Go.ChangeShapes Go.WideShapes Go.RowKit
namespace Door
abbrev laid : List (String × DataW Unit) := [("math._sin", Rows.laid_math_sin), ("math._cos", Rows.laid_math_cos), ("math.mPi4", Rows.laid_math_mPi4)]
noncomputable def laidWorld (os : Os) : World :=
  let w0 := World.holding Tryz.prog os ⟨#[], #[], []⟩
  { w0 with heap := ((w0.heap.modify 1 fun
      | .cells _ t frozen => .cells #[.float .f64 13666448263388469915, .float .f64 4477121864728985349, .float .f64 13732177093698800582, .float .f64 4537941361668146421, .float .f64 13787419979223748497, .float .f64 4586165620538955083] t frozen
      | o => o).modify 2 fun
      | .cells _ t frozen => .cells #[.float .f64 4460209587652500685, .float .f64 13716528389658582877, .float .f64 4523617212962785441, .float .f64 13774824197404483331, .float .f64 4575957461383575504, .float .f64 13818544856648471880] t frozen
      | o => o).modify 3 fun
      | .cells _ t frozen => .cells #[.int .u64 1, .int .u64 5040379952546458195, .int .u64 17892431488136887169, .int .u64 13169980181085364355, .int .u64 18204331823439776451, .int .u64 7946843935494350272, .int .u64 905889640498799673, .int .u64 18175356263134875261, .int .u64 15061281708168349961, .int .u64 15220161563773041794, .int .u64 8296664548579374057, .int .u64 4109744767560208502, .int .u64 4607516669194743839, .int .u64 16023283104648321598, .int .u64 15739233654134936430, .int .u64 11424645774684705882, .int .u64 16883842788696515318, .int .u64 8795094592981902804, .int .u64 15561835991111744016, .int .u64 12395701187267450711] t frozen
      | o => o }
theorem laidWorld_met (os : Os) (args : Array Value) : laidMetH Tryz.prog laid ((laidWorld os).forCall (fun _ _ => 0) ⟨#[], args, []⟩).memory :=
  laidMetH_of_parts (laidMet_of_run' 8 (by kernel_rfl) (by kernel_rfl)) (by kernel_rfl)
theorem tabs_of {W : World} (h : laidMetH Tryz.prog laid W) : Ang.Tabs W := by
  have h' : laidMet Tryz.prog laid W := h
  have gs : Tryz.prog.globalNamed "math._sin" = some 2 := by kernel_rfl
  have gc : Tryz.prog.globalNamed "math._cos" = some 1 := by kernel_rfl
  have S := Frame.ftab_of (k := .f64) (zs := [4460209587652500685, 13716528389658582877, 4523617212962785441, 13774824197404483331, 4575957461383575504, 13818544856648471880]) gs (t := 199) (by kernel_rfl) Tryz.underlying199 Tryz.underlying179 (by kernel_rfl) (by kernel_rfl) (by simp only [laid, List.mem_cons]; exact Or.inl rfl) h'
  have C := Frame.ftab_of (k := .f64) (zs := [13666448263388469915, 4477121864728985349, 13732177093698800582, 4537941361668146421, 13787419979223748497, 4586165620538955083]) gc (t := 199) (by kernel_rfl) Tryz.underlying199 Tryz.underlying179 (by kernel_rfl) (by kernel_rfl) (by simp only [laid, List.mem_cons]; exact Or.inr (Or.inl rfl)) h'
  exact ⟨C.cell gc 0 (by decide), C.cell gc 1 (by decide), C.cell gc 2 (by decide), C.cell gc 3 (by decide), C.cell gc 4 (by decide), C.cell gc 5 (by decide), S.cell gs 0 (by decide), S.cell gs 1 (by decide), S.cell gs 2 (by decide), S.cell gs 3 (by decide), S.cell gs 4 (by decide), S.cell gs 5 (by decide)⟩
end Door
end Go.Proofs.YtmkglhoahdlogaaGreatDoor
