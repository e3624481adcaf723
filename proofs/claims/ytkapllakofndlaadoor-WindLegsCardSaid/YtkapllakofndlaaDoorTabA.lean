/- angle.Sin and Cos, by the table. -/
import Derived.Test.YtkapllakofndlaaDoorTab0
import Derived.Test.YtkapllakofndlaaDoorTab1
import Derived.Test.YtkapllakofndlaaDoorTab2
import Derived.Test.YtkapllakofndlaaDoorTab3
import Derived.Test.YtkapllakofndlaaDoorTab4
import Derived.Test.YtkapllakofndlaaDoorTab5
import Derived.Test.YtkapllakofndlaaDoorTab6
import Derived.Test.YtkapllakofndlaaDoorTab7
namespace Go.Proofs.YtkapllakofndlaaDoor
open Go.RowKit
namespace Ang
theorem sinR_all (n : Nat) (h : n < 4096) : sinR n = some (S n) := by
  rcases Nat.lt_or_ge n 512 with h0 | h0
  · exact chkN_of tab0 n (by omega) h0
  rcases Nat.lt_or_ge n 1024 with h1 | h1
  · exact chkN_of tab1 n (by omega) h1
  rcases Nat.lt_or_ge n 1536 with h2 | h2
  · exact chkN_of tab2 n (by omega) h2
  rcases Nat.lt_or_ge n 2048 with h3 | h3
  · exact chkN_of tab3 n (by omega) h3
  rcases Nat.lt_or_ge n 2560 with h4 | h4
  · exact chkN_of tab4 n (by omega) h4
  rcases Nat.lt_or_ge n 3072 with h5 | h5
  · exact chkN_of tab5 n (by omega) h5
  rcases Nat.lt_or_ge n 3584 with h6 | h6
  · exact chkN_of tab6 n (by omega) h6
  rcases Nat.lt_or_ge n 4096 with h7 | h7
  · exact chkN_of tab7 n (by omega) h7
  omega
/-- The sine of any angle. -/
def sn (h : Int) : Int := S (h % 4096).toNat
theorem sinA (h : Int) {w : World} (T : Tabs w) : Calls Tryd.prog 14 #[.int .i64 h] w fun e w' => e = .returned (.int .i64 (sn h)) ∧ w = w' :=
  sinC T (n := (h % 4096).toNat) (by omega) (sinR_all _ (by omega))
theorem cosA (h : Int) {w : World} (T : Tabs w) : Calls Tryd.prog 15 #[.int .i64 h] w fun e w' => e = .returned (.int .i64 (sn (h + 1024))) ∧ w = w' :=
  cosC T (n := ((h + 1024) % 4096).toNat) (by omega) (sinR_all _ (by omega))
theorem sn_mod {g h : Int} (e : g % 4096 = h % 4096) : sn g = sn h := by unfold sn; rw [e]
theorem quart0 : quart 0 = 0 := by decide +kernel
theorem half0 : half 0 = 0 := by decide +kernel
theorem half_sym {k : Nat} (h : k ≤ 2048) : half (2048 - k) = half k := by
  unfold half
  rcases Nat.lt_or_ge k 1025 with h1 | h1
  · rcases (show k = 1024 ∨ k < 1024 by omega) with rfl | h2
    · rfl
    · rw [show Nat.ble (2048 - k) 1024 = false from by rw [← Bool.not_eq_true, Nat.ble_eq]; omega, show Nat.ble k 1024 = true from by rw [Nat.ble_eq]; omega]
      show quart (2048 - (2048 - k)) = quart k
      rw [show 2048 - (2048 - k) = k from by omega]
  · rw [show Nat.ble (2048 - k) 1024 = true from by rw [Nat.ble_eq]; omega, show Nat.ble k 1024 = false from by rw [← Bool.not_eq_true, Nat.ble_eq]; omega]
    rfl
theorem S_low {n : Nat} (h : n ≤ 2048) : S n = (half n : Int) := by unfold S; rw [show Nat.ble n 2048 = true from by rw [Nat.ble_eq]; omega]; rfl
theorem S_high {n : Nat} (h : 2048 ≤ n) : S n = -(half (n - 2048) : Int) := by
  rcases (show n = 2048 ∨ 2048 < n by omega) with rfl | h1
  · unfold S; decide +kernel
  · unfold S; rw [show Nat.ble n 2048 = false from by rw [← Bool.not_eq_true, Nat.ble_eq]; omega]; rfl
/-- Half a circle further. -/
theorem sn_half (h : Int) : sn (h + 2048) = - sn h := by
  unfold sn
  obtain ⟨n, hn⟩ : ∃ n : Nat, h % 4096 = (n : Int) := ⟨(h % 4096).toNat, by omega⟩
  rcases Nat.lt_or_ge n 2048 with h1 | h1
  · rw [show (h + 2048) % 4096 = ((n + 2048 : Nat) : Int) from by omega, hn, Int.toNat_natCast, Int.toNat_natCast, S_high (by omega), S_low (by omega), show n + 2048 - 2048 = n from by omega]
  · rw [show (h + 2048) % 4096 = ((n - 2048 : Nat) : Int) from by omega, hn, Int.toNat_natCast, Int.toNat_natCast, S_low (by omega), S_high (by omega), Int.neg_neg]
/-- Reflected at the half circle. -/
theorem sn_flip (h : Int) : sn (2048 - h) = sn h := by
  unfold sn
  obtain ⟨n, hn⟩ : ∃ n : Nat, h % 4096 = (n : Int) := ⟨(h % 4096).toNat, by omega⟩
  rcases Nat.lt_or_ge 2048 n with h1 | h1
  · rw [show (2048 - h) % 4096 = ((2048 + (4096 - n) : Nat) : Int) from by omega, hn, Int.toNat_natCast, Int.toNat_natCast, S_high (by omega), S_high (by omega), show 2048 + (4096 - n) - 2048 = 2048 - (n - 2048) from by omega, half_sym (by omega)]
  · rw [show (2048 - h) % 4096 = ((2048 - n : Nat) : Int) from by omega, hn, Int.toNat_natCast, Int.toNat_natCast, S_low (by omega), S_low (by omega), half_sym (by omega)]
theorem sn_neg (h : Int) : sn (-h) = - sn h := by
  rw [← sn_flip, show 2048 - -h = h + 2048 from by omega, sn_half]
end Ang
end Go.Proofs.YtkapllakofndlaaDoor
