/- strconv's Shift (to the right) and Round (at no digit) of a decimal; log10Pow2. -/
import Derived.Test.YtoafljgcmloilaaDoorDecR
namespace Go.Proofs.YtoafljgcmloilaaDoor
open Go.RowKit
namespace Dec
open Kit
set_option maxRecDepth 100000 in
set_option maxHeartbeats 8000000 in
theorem lg_w (e : Nat) (he : e ≤ 2000) (w : World) : Calls Tryd.prog 57 #[.int .i64 (e : Nat)] w fun r w' => r = .returned (.int .i64 ((e : Int) * 78913 / 262144)) ∧ w = w' := by
  go_enter Tryd.func57, Tryd.ntmps57
  go_wp2_with fail
  go_ret
  exact ⟨rfl, rfl⟩
set_option maxRecDepth 100000 in
set_option maxHeartbeats 8000000 in
theorem sh_w (b k : Nat) (d : Nat → Nat) (n : Nat) (p : Int) (w : World) (D : Hid (Dgs d n)) (hn : 1 ≤ n) (hn20 : n ≤ 20) (hk1 : 1 ≤ k) (hk : k ≤ 60) (hp : -1000 ≤ p ∧ p ≤ 1000) (V0 : Hid (DV w b d n p)) :
    Calls Tryd.prog 60 #[.pointer (some ⟨b, 0, none⟩), .int .i64 (-(k : Int))] w fun e w' => e = .returned (.tuple #[]) ∧ (∃ r W, Sh k d n r W ∧ r ≤ 20 ∧ W ≤ 81 ∧ DV w' b (quo k d n r W) (trimN (quo k d n r W) W) (pnt (trimN (quo k d n r W) W) (p - ((r : Int) - 1)))) ∧ Below b w w' := by
  have a0 := V0.out.cn
  have h0 : ((n : Int) == 0) = false := by simp; omega
  have h1 : ¬ (0 : Int) < -(k : Int) := by omega
  have h2 : -(k : Int) < 0 := by omega
  have h3 : ¬ -(k : Int) < -60 := by omega
  have h4 : decide ((k : Int) < 0) = false := decide_eq_false (by omega)
  have h5 : ¬ (k : Int) < 0 := by omega
  have RS := Lib.hid (rs_w b k d n p w D hn hn20 hk1 hk hp V0)
  go_enter Tryd.func60, Tryd.ntmps60
  go_wp2_with fail
  go_loopw [1] (fun x wr => x = .int .i64 (-(k : Int)) ∧ w = wr) (fun _ _ => 0)
  case atStart => exact ⟨rfl, rfl⟩
  case round =>
    obtain ⟨rfl, rfl⟩ := hrel
    go_wp2_with fail
    (with_reducible refine RS.out.mono ?_); rintro e w1 ⟨rfl, hr, hb⟩
    go_wp2_with fail
    exact ⟨rfl, .tuple #[], results_none rfl _ _ _, rfl, hr, hb⟩
set_option maxRecDepth 100000 in
set_option maxHeartbeats 8000000 in
theorem ro_w (b : Nat) (d : Nat → Nat) (n : Nat) (p q : Int) (w : World) (hq0 : 0 ≤ q) (hq : (n : Int) ≤ q) (V0 : Hid (DV w b d n p)) :
    Calls Tryd.prog 61 #[.pointer (some ⟨b, 0, none⟩), .int .i64 q] w fun e w' => e = .returned (.tuple #[]) ∧ w = w' := by
  have a0 := V0.out.cn
  have h0 : ¬ q < 0 := by omega
  go_enter Tryd.func61, Tryd.ntmps61
  go_wp2_with fail
  exact ⟨rfl, .tuple #[], results_none rfl _ _ _, rfl, rfl⟩
end Dec
end Go.Proofs.YtoafljgcmloilaaDoor
