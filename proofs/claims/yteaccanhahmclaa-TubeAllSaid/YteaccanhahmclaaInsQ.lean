/- tube.Inside, whole; and what lies in a tube that lies in another one. -/
import Derived.Test.YteaccanhahmclaaTubeI
import Derived.Test.YteaccanhahmclaaTubeL
namespace Go.Proofs.Yteaccanhahmclaa
open Go.RowKit
namespace Tube
open Kit Plane
/-- A tube that Check accepts yields its nodes at all times. -/
theorem nd_of {v : Value} {n : Nat} {T X Y H R B : Nat → Int} {w : World} (hv : TV w v n T X Y H R B) (hp : tok T X Y H R B n) {a z : Int} (h0 : T 0 ≤ a) (hz : z ≤ T (n - 1)) :
    NdC v w a z (fun t => tx T X (segI T n t) t) (fun t => tx T Y (segI T n t) t) (fun t => th T H (segI T n t) t) (fun t => tu T R (segI T n t) t) (fun t => tu T B (segI T n t) t) :=
  fun _ hb t h1 h2 => atC (tv_keep hb hv) hp (segI_spec hp.pos (by omega)) (by omega)
theorem nd_bds {n : Nat} {T X Y H R B : Nat → Int} (hp : tok T X Y H R B n) {a z : Int} (h0 : T 0 ≤ a) (hz : z ≤ T (n - 1)) :
    NdB a z (fun t => tx T X (segI T n t) t) (fun t => tx T Y (segI T n t) t) (fun t => th T H (segI T n t) t) (fun t => tu T R (segI T n t) t) (fun t => tu T B (segI T n t) t) := fun t h1 h2 => by
  have := at_bds hp (segI_spec hp.pos (show T 0 ≤ t by omega)) (show t ≤ T (n - 1) by omega)
  unfold good at this
  exact this
/-- What tube.Inside says of two tubes that Check accepts. -/
def InsP (T X Y H R B : Nat → Int) (n : Nat) (T' X' Y' H' R' B' : Nat → Int) (n' : Nat) : Prop := T' 0 ≤ T 0 ∧ T (n - 1) ≤ T' (n' - 1) ∧ ∀ t, T 0 ≤ t → t ≤ T (n - 1) → inT T X Y H R B n T' X' Y' H' R' B' n' t = true
section
variable {u v : Value} {n n' : Nat} {T X Y H R B T' X' Y' H' R' B' : Nat → Int} {w : World}
end
theorem tatE_ok {T X Y H R B : Nat → Int} {n : Nat} {u : Int} (hp : tok T X Y H R B n) (h0 : T 0 ≤ u) (h1 : u ≤ T (n - 1)) : tatE T X Y H R B n u = 0 := by
  unfold tatE; rw [(tck_zero n).2 hp, if_neg (by omega), if_neg (by omega)]
theorem hasE_ok {T X Y H R B : Nat → Int} {n : Nat} {u qx qy hh : Int} (hp : tok T X Y H R B n) (h0 : T 0 ≤ u) (h1 : u ≤ T (n - 1)) (hq : chk qx qy = 0) (hh0 : 0 ≤ hh ∧ hh ≤ 60000) : hasE T X Y H R B n u qx qy hh = 0 := by
  unfold hasE; rw [tatE_ok hp h0 h1, if_neg (by omega), if_neg (by omega)]
/-- What lies in a node lies in one that this node lies in. -/
theorem in_has {x y h r d x' y' h' r' d' qx qy hh : Int} (hr : 0 ≤ r) (hr' : r' ≤ 1000000) (h1 : inN x y h r d x' y' h' r' d' = true) (h2 : (inB (sqr x y qx qy) r && decide (max (h - hh) (hh - h) ≤ d)) = true) : (inB (sqr x' y' qx qy) r' && decide (max (h' - hh) (hh - h') ≤ d')) = true := by
  unfold inN at h1
  unfold inB at h2 ⊢
  simp only [Bool.and_eq_true, decide_eq_true_eq] at h1 h2 ⊢
  have hs := sqr_nonneg x y x' y'
  have ds := dup_spec hs
  refine ⟨⟨by omega, by omega, ?_⟩, by omega⟩
  have t := tri_sq (px := x' - x) (py := y' - y) (qx := x - qx) (qy := y - qy) ds.1 hr (by
    have := ds.2.1; unfold sqr at this
    rw [show x' - x = -(x - x') from by omega, show y' - y = -(y - y') from by omega, Int.neg_mul_neg, Int.neg_mul_neg]; unfold sqr at *; exact this) (by have := h2.1.2.2; unfold sqr at this; exact this)
  rw [show x' - x + (x - qx) = x' - qx from by omega, show y' - y + (y - qy) = y' - qy from by omega] at t
  have m := sq_mono (x := dup (sqr x y x' y') + r) (y := r') (by omega) h1.1
  show (x' - qx) * (x' - qx) + (y' - qy) * (y' - qy) ≤ r' * r'
  omega
end Tube
end Go.Proofs.Yteaccanhahmclaa
