/- aircraft.number: as plantext.number. -/
import Derived.Test.YtddlacjjanincaaDoorPtN
namespace Go.Proofs.YtddlacjjanincaaDoor
open Go.RowKit
namespace Ac
open Kit Chart Pt
set_option maxRecDepth 100000 in
set_option maxHeartbeats 4000000 in
theorem number_w (s : ByteArray) (hs : s.size ≤ 2000000) (w : World) (AT : Hid (∀ w1, Below w.heap.size w w1 → Calls Tryd.prog 44 #[.string s] w1 fun e w' => AtoR s e ∧ Below w1.heap.size w1 w'))
    (IT : Hid (∀ n : Int, -9223372036854775808 ≤ n → n ≤ 9223372036854775807 → ∀ w1, Below w.heap.size w w1 → Calls Tryd.prog 24 #[.int .i64 n] w1 fun e w' => e = .returned (.string (txt n)) ∧ Below w1.heap.size w1 w')) :
    Calls Tryd.prog 27 #[.string s] w fun e w' => NumR s e ∧ Below w.heap.size w w' := by
  have hsz : s.size = s.data.toList.length := by rw [Array.length_toList]; rfl
  have HSZ := Lib.hid hsz; clear hsz
  go_enter Tryd.func27, Tryd.ntmps27
  go_wp2_with fail
  (with_reducible refine (AT.out _ (Below.refl _ _)).mono ?_); rintro e w1 ⟨hat, hb⟩
  have W1 := Lib.hid hb; clear hb
  rcases hat with ⟨v, hv, rfl⟩ | ⟨hno, v, t, b, rfl⟩
  · have bd := Lib.atoiAll_bounds hv
    have HV := Lib.hid hv; clear hv
    by_cases h0 : 0 ≤ v
    · by_cases h6 : s.size ≤ 6
      · have h6i : (s.size : Int) ≤ 6 := by omega
        have k6 := decide_eq_true h6i; have k6n := decide_eq_true h6; have k0 := decide_eq_true h0
        have NB := Lib.hid (numB_ok HV.out (by rw [← HSZ.out]; exact h6))
        have ITV := Lib.hid (IT.out v bd.1 bd.2)
        by_cases he : txt v = s
        · have hq : ((txt v).toList == s.toList) = true := by rw [seq_eq]; exact decide_eq_true he
          have NR : Hid (NumT.numB s.data.toList = some v) := Lib.hid (by rw [NB.out, if_pos ⟨h0, (txt_eq v s).1 he⟩])
          generalize txt v = tv at *
          clear he
          go_wp2_with fail
          (with_reducible refine (ITV.out _ W1.out).mono ?_); rintro e w2 ⟨rfl, hb⟩
          have W2 := Lib.hid (b_next W1.out hb); clear hb
          go_wp2_with fail
          go_ret2
          exact ⟨Or.inl ⟨v, NR.out, rfl⟩, W2.out⟩
        · have hq : ((txt v).toList == s.toList) = false := by rw [seq_eq]; exact decide_eq_false he
          have NR : Hid (NumT.numB s.data.toList = none) := Lib.hid (by rw [NB.out, if_neg (fun q => he ((txt_eq v s).2 q.2))])
          generalize txt v = tv at *
          clear he
          go_wp2_with fail
          (with_reducible refine (ITV.out _ W1.out).mono ?_); rintro e w2 ⟨rfl, hb⟩
          have W2 := Lib.hid (b_next W1.out hb); clear hb
          go_wp2_with fail
          go_ret2
          exact ⟨Or.inr ⟨NR.out, v, rfl⟩, W2.out⟩
      · have h6i : ¬ (s.size : Int) ≤ 6 := by omega
        have k6 := decide_eq_false h6i; have k6n := decide_eq_false h6; have k0 := decide_eq_true h0
        have NR : Hid (NumT.numB s.data.toList = none) := Lib.hid (numB_long (by rw [← HSZ.out]; exact h6))
        go_wp2_with fail
        go_ret2
        exact ⟨Or.inr ⟨NR.out, v, rfl⟩, W1.out⟩
    · have k0 := decide_eq_false h0
      have NR : Hid (NumT.numB s.data.toList = none) := Lib.hid (by
        by_cases h6 : s.data.toList.length ≤ 6
        · rw [numB_ok HV.out h6, if_neg (fun q => h0 q.1)]
        · exact numB_long h6)
      go_wp2_with fail
      go_ret2
      exact ⟨Or.inr ⟨NR.out, v, rfl⟩, W1.out⟩
  · have NR := Lib.hid (numB_bad hno)
    clear hno
    go_wp2_with fail
    go_ret2
    exact ⟨Or.inr ⟨NR.out, v, rfl⟩, W1.out⟩
theorem numberC {w : World} (V : Vars w) (s : ByteArray) (hs : s.size ≤ 2000000) : Calls Tryd.prog 27 #[.string s] w fun e w' => NumR s e ∧ Below w.heap.size w w' :=
  number_w s hs w (Lib.hid fun _ hb => atoiC (vars_keep hb V) s hs) (Lib.hid fun n h0 h1 _ hb => itoaC (vars_keep hb V) n h0 h1)
end Ac
end Go.Proofs.YtddlacjjanincaaDoor
