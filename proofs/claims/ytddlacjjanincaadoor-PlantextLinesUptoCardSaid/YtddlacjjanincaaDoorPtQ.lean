/- plantext.Parse: both cases. -/
import Derived.Test.YtddlacjjanincaaDoorPtQz
import Derived.Test.YtddlacjjanincaaDoorPtQr
import Derived.Deep.RegionHeld3
namespace Go.Proofs.YtddlacjjanincaaDoor
open Go.RowKit
namespace Pt
open Kit Chart Route Plan Name
theorem parse_main (s : ByteArray) (w : World) (h : ¬ 8192 < s.size) (F : List ByteArray) (r : Nat) (hr : F.length = 7 + r) (hF8 : F.length ≤ 10000) (L : List ByteArray) (hL : L.length = r) (sl : Nat → Value) (hsl : Hid (∀ g, sl g = .slice (some ⟨g, if r = 0 then 0 else 7, none⟩) r r)) (hsz : Hid (∀ k, (F.getD k ⟨#[]⟩).size ≤ 2000000))
    (SP : Hid (∀ w1, Below w.heap.size w w1 → Calls Tryd.prog 25 #[.string s, .string ⟨#[32]⟩] w1 fun e w' => (∃ g, e = .returned (.slice (some ⟨g, 0, none⟩) F.length F.length) ∧ ∀ k, k < F.length → w'.cell? ⟨g, k, none⟩ = some (.string (F.getD k ⟨#[]⟩))) ∧ Below w1.heap.size w1 w'))
    (CL : Hid (∀ w1 g, (∀ k, k < F.length → w1.cell? ⟨g, k, none⟩ = some (.string (F.getD k ⟨#[]⟩))) → Calls Tryd.prog 34 #[sl g] w1 fun e w' => (∃ Av cv, e = .returned (.slice Av r cv) ∧ ∀ W : World, (∀ a u, w1.heap.size ≤ a.block → w'.cell? a = some u → W.cell? a = some u) → SL W (.slice Av r cv) L) ∧ Below w1.heap.size w1 w'))
    (NC : Hid (∀ u : ByteArray, u.size ≤ 2000000 → ∀ w', Below w.heap.size w w' → Calls Tryd.prog 35 #[.string u] w' fun e w'' => NumR u e ∧ Below w'.heap.size w' w'')) :
    Calls Tryd.prog 18 #[.string s] w fun e w' => PaR w.heap.size (F.getD 0 ⟨#[]⟩) (F.getD 1 ⟨#[]⟩) (F.getD 2 ⟨#[]⟩) (F.getD 3 ⟨#[]⟩) (F.getD 4 ⟨#[]⟩) (F.getD 5 ⟨#[]⟩) (F.getD 6 ⟨#[]⟩) L e w' ∧ Below w.heap.size w w' := by
  by_cases hr0 : r = 0
  · exact parse_z s w h F r hr0 hr hF8 L hL sl hsl hsz SP CL NC
  · exact parse_r s w h F r hr0 hr hF8 L hL sl hsl hsz SP CL NC
end Pt
end Go.Proofs.YtddlacjjanincaaDoor
