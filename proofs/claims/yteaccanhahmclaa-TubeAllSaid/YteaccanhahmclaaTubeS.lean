/- What the search in a tube, ends, at and At of package tube return. -/
import Derived.Test.YteaccanhahmclaaTubeC
namespace Go.Proofs.Yteaccanhahmclaa
open Go.RowKit
namespace Tube
open Kit Plane
set_option maxHeartbeats 600000 in
theorem cmp (t x y h r d u : Int) (w : World) (ht : 0 ≤ t ∧ t ≤ 200000) (hu : -200000 ≤ u ∧ u ≤ 400000) :
    Calls Try.prog 134 #[.agg #[.int .i64 t, .int .i64 x, .int .i64 y, .int .i64 h, .int .i64 r, .int .i64 d], .int .i64 u] w fun e w' => e = .returned (.int .i64 (t - u)) ∧ Below w.heap.size w w' := by
  go_enter Try.func134, Try.ntmps134
  go_wp2_with fail
  go_ret
  exact ⟨ret1 rfl, b_alloc (Below.refl _ _) _⟩
set_option maxRecDepth 100000 in
set_option maxHeartbeats 2000000 in
theorem search_yes (n cap b off : Nat) (T X Y H R B : Nat → Int) (t : Int) (i : Nat) (w : World) (hi : i < n) (hn : n ≤ 64) (hc : n ≤ cap) (hm : cap ≤ 9223372036854775807) (HV : Hid (∀ k, k < n → S6 w b (off + k * 6) (T k) (X k) (Y k) (H k) (R k) (B k)))
    (HL : Hid (∀ k, k < i → T k < t)) (HR : Hid (∀ k, i ≤ k → k < n → t ≤ T k)) (HT : Hid (∀ k, k < n → 0 ≤ T k ∧ T k ≤ 200000)) (ht : -200000 ≤ t ∧ t ≤ 400000) (hf : T i = t) :
    Calls Try.prog 133 #[.slice (some ⟨b, off, none⟩) n cap, .int .i64 t, .func (.func 134) #[] #[]] w fun e w' => e = .returned (.tuple #[.int .i64 i, .bool true]) ∧ Below w.heap.size w w' := by
  have HFF := Lib.hid hf; clear hf
  go_enter Try.func133, Try.ntmps133
  go_wp2_with fail
  go_loopw [9, 10] (fun s u wr => ∃ lo hi : Nat, lo ≤ i ∧ i ≤ hi ∧ hi ≤ n ∧ s = .int .i64 lo ∧ u = .int .i64 hi ∧ Below w.heap.size w wr) (fun s u _ => (intOf u).toNat - (intOf s).toNat)
  case atStart => exact ⟨0, n, Nat.zero_le _, by omega, Nat.le_refl _, rfl, rfl, Below.refl _ _⟩
  case round =>
    obtain ⟨lo, hh, h1, h2, h3, rfl, rfl, hbl⟩ := hrel
    by_cases hlt : lo < hh
    · have hl : (lo : Int) < (hh : Int) := by omega
      obtain ⟨md, hmd⟩ : ∃ md, md = (lo + hh) / 2 := ⟨_, rfl⟩
      have hm1 : lo ≤ md ∧ md < hh := by omega
      obtain ⟨c0, c1⟩ := s6_keep hbl (HV.out md (by omega))
      have tb := HT.out md (by omega)
      have hmn : (md : Int) < (n : Int) := by omega
      have hmx : ((lo : Int) + (hh : Int)) / 2 = (md : Int) := by omega
      have HMD := Lib.hid hmd; clear hmd
      go_wp2_with fail
      refine (cmp _ _ _ _ _ _ _ _ tb ht).mono ?_; rintro e w1 ⟨rfl, h⟩
      have hb1 := b_next hbl h; clear h
      by_cases hcm : T md < t
      · have hmi : md < i := by
          rcases Nat.lt_or_ge md i with h | h
          · exact h
          · have := HR.out md h (by omega); omega
        have d1 : T md - t < 0 := by omega
        go_wp2_with fail
        go_roundw
        case rel => first | exact ⟨md + 1, hh, by omega, h2, h3, by go_num, rfl, hb1⟩ | ((repeat apply Exists.intro); exact ⟨⟨md + 1, hh, by omega, h2, h3, by go_num, rfl, hb1⟩, rfl⟩)
        case measure => simp [intOf]; omega
      · have hmi : i ≤ md := by
          rcases Nat.lt_or_ge md i with h | h
          · have := HL.out md h; omega
          · exact h
        have d1 : ¬ T md - t < 0 := by omega
        go_wp2_with fail
        go_roundw
        case rel => first | exact ⟨lo, md, h1, hmi, by omega, rfl, by go_num, hb1⟩ | ((repeat apply Exists.intro); exact ⟨⟨lo, md, h1, hmi, by omega, rfl, by go_num, hb1⟩, rfl⟩)
        case measure => simp [intOf]; omega
    · have e1 : lo = i := by omega
      subst e1
      obtain ⟨c0, c1⟩ := s6_keep hbl (HV.out lo hi)
      have tb := HT.out lo hi
      have hl : ¬ (lo : Int) < (hh : Int) := by omega
      have hln : (lo : Int) < (n : Int) := by omega
      go_wp2_with fail
      refine (cmp _ _ _ _ _ _ _ _ tb ht).mono ?_; rintro e w1 ⟨rfl, h⟩
      have hb1 := b_next hbl h; clear h
      have hf := HFF.out
      have hz : (T lo - t == 0) = true := by simp; omega
      go_wp2_with fail
      go_ret2
      exact ⟨by first | rfl | simp, hb1⟩
set_option maxRecDepth 100000 in
set_option maxHeartbeats 2000000 in
theorem search_no (n cap b off : Nat) (T X Y H R B : Nat → Int) (t : Int) (i : Nat) (w : World) (hi : i < n) (hn : n ≤ 64) (hc : n ≤ cap) (hm : cap ≤ 9223372036854775807) (HV : Hid (∀ k, k < n → S6 w b (off + k * 6) (T k) (X k) (Y k) (H k) (R k) (B k)))
    (HL : Hid (∀ k, k < i → T k < t)) (HR : Hid (∀ k, i ≤ k → k < n → t ≤ T k)) (HT : Hid (∀ k, k < n → 0 ≤ T k ∧ T k ≤ 200000)) (ht : -200000 ≤ t ∧ t ≤ 400000) (hf : ¬ T i = t) :
    Calls Try.prog 133 #[.slice (some ⟨b, off, none⟩) n cap, .int .i64 t, .func (.func 134) #[] #[]] w fun e w' => e = .returned (.tuple #[.int .i64 i, .bool false]) ∧ Below w.heap.size w w' := by
  have HFF := Lib.hid hf; clear hf
  go_enter Try.func133, Try.ntmps133
  go_wp2_with fail
  go_loopw [9, 10] (fun s u wr => ∃ lo hi : Nat, lo ≤ i ∧ i ≤ hi ∧ hi ≤ n ∧ s = .int .i64 lo ∧ u = .int .i64 hi ∧ Below w.heap.size w wr) (fun s u _ => (intOf u).toNat - (intOf s).toNat)
  case atStart => exact ⟨0, n, Nat.zero_le _, by omega, Nat.le_refl _, rfl, rfl, Below.refl _ _⟩
  case round =>
    obtain ⟨lo, hh, h1, h2, h3, rfl, rfl, hbl⟩ := hrel
    by_cases hlt : lo < hh
    · have hl : (lo : Int) < (hh : Int) := by omega
      obtain ⟨md, hmd⟩ : ∃ md, md = (lo + hh) / 2 := ⟨_, rfl⟩
      have hm1 : lo ≤ md ∧ md < hh := by omega
      obtain ⟨c0, c1⟩ := s6_keep hbl (HV.out md (by omega))
      have tb := HT.out md (by omega)
      have hmn : (md : Int) < (n : Int) := by omega
      have hmx : ((lo : Int) + (hh : Int)) / 2 = (md : Int) := by omega
      have HMD := Lib.hid hmd; clear hmd
      go_wp2_with fail
      refine (cmp _ _ _ _ _ _ _ _ tb ht).mono ?_; rintro e w1 ⟨rfl, h⟩
      have hb1 := b_next hbl h; clear h
      by_cases hcm : T md < t
      · have hmi : md < i := by
          rcases Nat.lt_or_ge md i with h | h
          · exact h
          · have := HR.out md h (by omega); omega
        have d1 : T md - t < 0 := by omega
        go_wp2_with fail
        go_roundw
        case rel => first | exact ⟨md + 1, hh, by omega, h2, h3, by go_num, rfl, hb1⟩ | ((repeat apply Exists.intro); exact ⟨⟨md + 1, hh, by omega, h2, h3, by go_num, rfl, hb1⟩, rfl⟩)
        case measure => simp [intOf]; omega
      · have hmi : i ≤ md := by
          rcases Nat.lt_or_ge md i with h | h
          · have := HL.out md h; omega
          · exact h
        have d1 : ¬ T md - t < 0 := by omega
        go_wp2_with fail
        go_roundw
        case rel => first | exact ⟨lo, md, h1, hmi, by omega, rfl, by go_num, hb1⟩ | ((repeat apply Exists.intro); exact ⟨⟨lo, md, h1, hmi, by omega, rfl, by go_num, hb1⟩, rfl⟩)
        case measure => simp [intOf]; omega
    · have e1 : lo = i := by omega
      subst e1
      obtain ⟨c0, c1⟩ := s6_keep hbl (HV.out lo hi)
      have tb := HT.out lo hi
      have hl : ¬ (lo : Int) < (hh : Int) := by omega
      have hln : (lo : Int) < (n : Int) := by omega
      go_wp2_with fail
      refine (cmp _ _ _ _ _ _ _ _ tb ht).mono ?_; rintro e w1 ⟨rfl, h⟩
      have hb1 := b_next hbl h; clear h
      have hf := HFF.out
      have hz : (T lo - t == 0) = false := by simp; omega
      go_wp2_with fail
      go_ret2
      exact ⟨by first | rfl | simp, hb1⟩
end Tube
end Go.Proofs.Yteaccanhahmclaa
