/- skywayref1.SamePlan, skywaykeep1.flight. -/
import Derived.Test.YtddlacjjanincaaDoorPtS
import Derived.Test.YtddlacjjanincaaDoorSamT
namespace Go.Proofs.YtddlacjjanincaaDoor
open Go.RowKit
namespace Pt
open Kit Chart Route Plan Name
set_option maxRecDepth 100000 in
set_option maxHeartbeats 4000000 in
theorem flightC (w : World) : Calls Tryd.prog 30 #[] w fun e w' => (∃ v, e = .returned (plan ⟨#[66, 65, 49, 50]⟩ ⟨#[65, 51, 50, 48]⟩ ⟨#[65]⟩ ⟨#[68]⟩ 100 100 1000 v) ∧ SL w' v [⟨#[85, 76, 49]⟩, ⟨#[67]⟩]) ∧ Below w.heap.size w w' := by
  go_enter Tryd.func30, Tryd.ntmps30
  go_wp2_with fail
  refine bodyPost_ret (v := plan ⟨#[66, 65, 49, 50]⟩ ⟨#[65, 51, 50, 48]⟩ ⟨#[65]⟩ ⟨#[68]⟩ 100 100 1000 (.slice (some ⟨w.heap.size + 1, 0, none⟩) 2 2)) (by simp [results, Tryd.results30, go_sem]) rfl ⟨⟨_, rfl, Or.inr ⟨by decide, w.heap.size + 1, 0, 2, rfl, by decide, by unfold maxLen; omega, fun k hk => ?_⟩⟩, b_alloc (b_alloc (Below.refl _ _) _) _⟩
  rcases (show k = 0 ∨ k = 1 from by have : k < 2 := hk; omega) with rfl | rfl
  all_goals simp
/- SamePlan says whether two plans are the same. -/
set_option maxRecDepth 100000 in
set_option maxHeartbeats 4000000 in
theorem samePlan_w (c k f t c' k' f' t' : ByteArray) (x y z x' y' z' : Int) (A B : Option Addr) (n m a b : Nat) (r : Bool) (w : World) (SM : Hid (∀ w1, Below w.heap.size w w1 → Calls Tryd.prog 36 #[.slice A n a, .slice B m b] w1 fun e w' => e = .returned (.bool r) ∧ Below w1.heap.size w1 w')) :
    Calls Tryd.prog 19 #[plan c k f t x y z (.slice A n a), plan c' k' f' t' x' y' z' (.slice B m b)] w fun e w' => (∃ q, e = .returned (.bool q) ∧ (q = true ↔ (c = c' ∧ k = k' ∧ f = f' ∧ t = t' ∧ x = x' ∧ y = y' ∧ z = z') ∧ r = true)) ∧ Below w.heap.size w w' := by
  go_enter Tryd.func19, Tryd.ntmps19
  by_cases h0 : c = c'
  · subst h0
    by_cases h1 : k = k'
    · subst h1
      by_cases h2 : f = f'
      · subst h2
        by_cases h3 : t = t'
        · subst h3
          by_cases h4 : x = x'
          · subst h4
            by_cases h5 : y = y'
            · subst h5
              by_cases h6 : z = z'
              · subst h6
                (go_wp2_with fail)
                (with_reducible refine (SM.out _ (by first | exact b_alloc (b_alloc (Below.refl _ _) _) _)).mono ?_); rintro e w1 ⟨rfl, hb⟩
                go_wp2_with fail
                go_ret
                exact ⟨rfl, b_next (b_alloc (b_alloc (Below.refl _ _) _) _) hb⟩
              · have q6 : (z == z') = false := by simpa using h6
                go_wp2_with fail
                go_ret
                exact ⟨rfl, b_alloc (b_alloc (Below.refl _ _) _) _⟩
            · have q5 : (y == y') = false := by simpa using h5
              go_wp2_with fail
              go_ret
              exact ⟨rfl, b_alloc (b_alloc (Below.refl _ _) _) _⟩
          · have q4 : (x == x') = false := by simpa using h4
            go_wp2_with fail
            go_ret
            exact ⟨rfl, b_alloc (b_alloc (Below.refl _ _) _) _⟩
        · have q3 := (seq_eq t t').trans (decide_eq_false h3)
          go_wp2_with fail
          go_ret
          exact ⟨rfl, b_alloc (b_alloc (Below.refl _ _) _) _⟩
      · have q2 := (seq_eq f f').trans (decide_eq_false h2)
        go_wp2_with fail
        go_ret
        exact ⟨rfl, b_alloc (b_alloc (Below.refl _ _) _) _⟩
    · have q1 := (seq_eq k k').trans (decide_eq_false h1)
      go_wp2_with fail
      go_ret
      exact ⟨rfl, b_alloc (b_alloc (Below.refl _ _) _) _⟩
  · have q0 := (seq_eq c c').trans (decide_eq_false h0)
    go_wp2_with fail
    go_ret
    exact ⟨⟨false, rfl, by simp [h0]⟩, b_alloc (b_alloc (Below.refl _ _) _) _⟩
theorem samePlanC {w : World} (c k f t c' k' f' t' : ByteArray) (x y z x' y' z' : Int) {v v' : Value} {R R' : List ByteArray} (hv : SL w v R) (hv' : SL w v' R') :
    Calls Tryd.prog 19 #[plan c k f t x y z v, plan c' k' f' t' x' y' z' v'] w fun e w' => (∃ q, e = .returned (.bool q) ∧ (q = true ↔ (c = c' ∧ k = k' ∧ f = f' ∧ t = t' ∧ x = x' ∧ y = y' ∧ z = z') ∧ SamT.sameB R.length (fun i => R.getD i ⟨#[]⟩) R'.length (fun i => R'.getD i ⟨#[]⟩) = true)) ∧ Below w.heap.size w w' := by
  have SM : Hid (∀ w1, Below w.heap.size w w1 → Calls Tryd.prog 36 #[v, v'] w1 fun e w' => e = .returned (.bool (SamT.sameB R.length (fun i => R.getD i ⟨#[]⟩) R'.length (fun i => R'.getD i ⟨#[]⟩))) ∧ Below w1.heap.size w1 w') := Lib.hid fun w1 hb => SamT.sameC (sl_keep hb hv) (sl_keep hb hv')
  obtain ⟨A, a, rfl⟩ := sl_slice hv
  obtain ⟨B, b, rfl⟩ := sl_slice hv'
  exact samePlan_w c k f t c' k' f' t' x y z x' y' z' A B R.length R'.length a b _ w SM
theorem same_lists {R R' : List ByteArray} : SamT.sameB R.length (fun i => R.getD i ⟨#[]⟩) R'.length (fun i => R'.getD i ⟨#[]⟩) = true ↔ R = R' := by
  unfold SamT.sameB
  rw [Bool.and_eq_true, decide_eq_true_iff, SamT.allB_iff]
  refine ⟨fun ⟨h1, h2⟩ => List.ext_getElem h1 fun i hi hj => ?_, fun h => by subst h; exact ⟨rfl, fun k _ => decide_eq_true rfl⟩⟩
  have q := of_decide_eq_true (h2 i hi)
  simp only [List.getD_eq_getElem?_getD, List.getElem?_eq_getElem hi, List.getElem?_eq_getElem hj, Option.getD_some] at q
  exact q
end Pt
end Go.Proofs.YtddlacjjanincaaDoor
