/- plantext: the fixed example holds. -/
import Derived.Test.YtddlacjjanincaaDoorPtU
import Derived.Test.YtddlacjjanincaaDoorPtV
import Derived.Test.YtddlacjjanincaaDoorPtY
namespace Go.Proofs.YtddlacjjanincaaDoor
open Go.RowKit
namespace Pt
open Kit Chart Route Plan Name
theorem worksC {w : World} (V : Vars w) : Calls Tryd.prog 15 #[] w fun e w' => e = .returned (.bool true) ∧ Below w.heap.size w w' := by
  refine works_w w (Lib.hid fun w1 _ => flightC w1) (Lib.hid fun w1 v hb hv => ?_) (Lib.hid fun w1 hb => ?_) (Lib.hid fun w1 v v' hb hv hv' => ?_)
  · have q := printC (vars_keep hb V) hv ⟨#[66, 65, 49, 50]⟩ ⟨#[65, 51, 50, 48]⟩ ⟨#[65]⟩ ⟨#[68]⟩ 100 100 1000
    rw [plan_zero fl_ok, if_pos rfl, fl_text] at q
    exact q
  · refine (parseC (vars_keep hb V) fT).mono ?_
    rintro e w' ⟨hp, hb'⟩
    refine ⟨?_, hb'⟩
    rcases hp with ⟨E, -, -, hg⟩ | ⟨c, k, f, t, x, y, z, R, v, ok, ht, he, hv⟩
    · exact absurd ⟨_, _, _, _, _, _, _, _, fl_ok, fl_text⟩ hg
    · obtain ⟨rfl, rfl, rfl, rfl, rfl, rfl, rfl, rfl⟩ := text_inj ok fl_ok (ht.trans fl_text.symm)
      exact ⟨v, he, hv w' fun _ _ _ h => h⟩
  · refine (samePlanC ⟨#[66, 65, 49, 50]⟩ ⟨#[65, 51, 50, 48]⟩ ⟨#[65]⟩ ⟨#[68]⟩ ⟨#[66, 65, 49, 50]⟩ ⟨#[65, 51, 50, 48]⟩ ⟨#[65]⟩ ⟨#[68]⟩ 100 100 1000 100 100 1000 hv hv').mono ?_
    rintro e w' ⟨⟨q, rfl, hq⟩, hb'⟩
    refine ⟨?_, hb'⟩
    have : q = true := hq.2 ⟨⟨rfl, rfl, rfl, rfl, rfl, rfl, rfl⟩, same_lists.2 rfl⟩
    rw [this]
end Pt
end Go.Proofs.YtddlacjjanincaaDoor
