/- What polygon.Check returns. -/
import Derived.Test.YteaccanhahmclaaPolyC
namespace Go.Proofs.Yteaccanhahmclaa
open Go.RowKit
namespace Poly
open Kit Plane
/-- The first k vertices are permitted. -/
def ckg (X Y : Nat → Int) : Nat → Bool
  | 0 => true
  | k + 1 => ckg X Y k && goodB (X k) (Y k)
/-- Edge i has no point in common with edges i + 2 .. k - 1 that are not its neighbours. -/
def inn (n : Nat) (X Y : Nat → Int) (i : Nat) : Nat → Bool
  | 0 => true
  | k + 1 => inn n X Y i k && (decide (k < i + 2) || decide (nx n k = i) || !commonB (X i) (Y i) (X (nx n i)) (Y (nx n i)) (X k) (Y k) (X (nx n k)) (Y (nx n k)))
def row (n : Nat) (X Y : Nat → Int) (i : Nat) : Bool := !decide (sgn (crs (X i) (Y i) (X (nx n i)) (Y (nx n i)) (X ((i + 2) % n)) (Y ((i + 2) % n))) = 0) && inn n X Y i n
def rows (n : Nat) (X Y : Nat → Int) : Nat → Bool
  | 0 => true
  | i + 1 => rows n X Y i && row n X Y i
/-- polygon.Check's error. -/
def pck (n : Nat) (X Y : Nat → Int) : Int := if 16 < n then 2 else if n < 3 then 3 else if ckg X Y n = false then 4 else if rows n X Y n = false ∨ asum n X Y n ≤ 0 then 3 else 0
theorem ckg_iff {X Y : Nat → Int} : ∀ {n : Nat}, ckg X Y n = true ↔ ∀ k, k < n → good (X k) (Y k)
  | 0 => ⟨fun _ k hk => by omega, fun _ => rfl⟩
  | n + 1 => by
    show (ckg X Y n && goodB (X n) (Y n)) = true ↔ _
    rw [Bool.and_eq_true, ckg_iff, goodB_iff]
    exact ⟨fun h k hk => by
      rcases Nat.lt_or_ge k n with hl | hl
      · exact h.1 k hl
      · rw [show k = n from by omega]; exact h.2, fun h => ⟨fun k hk => h k (by omega), h n (by omega)⟩⟩
theorem ckg_stop {X Y : Nat → Int} {n k : Nat} (hk : k < n) (h : goodB (X k) (Y k) = false) : ckg X Y n = false := by
  cases hc : ckg X Y n with
  | false => rfl
  | true => have := ckg_iff.1 hc k hk; rw [← goodB_iff, h] at this; cases this
theorem inn_stop {n : Nat} {X Y : Nat → Int} {i k : Nat} (h : inn n X Y i (k + 1) = false) : ∀ m, k < m → inn n X Y i m = false
  | 0, hm => by omega
  | m + 1, hm => by
    rcases Nat.lt_or_ge k m with hl | hl
    · show (inn n X Y i m && _) = false; rw [inn_stop h m hl]; rfl
    · rw [show m = k from by omega]; exact h
theorem rows_stop {n : Nat} {X Y : Nat → Int} {i : Nat} (h : row n X Y i = false) : ∀ m, i < m → rows n X Y m = false
  | 0, hm => by omega
  | m + 1, hm => by
    show (rows n X Y m && row n X Y m) = false
    rcases Nat.lt_or_ge i m with hl | hl
    · rw [rows_stop h m hl]; rfl
    · rw [show m = i from by omega, h, Bool.and_false]
theorem inn_low {n : Nat} {X Y : Nat → Int} {i : Nat} : ∀ m, m ≤ i + 2 → inn n X Y i m = true
  | 0, _ => rfl
  | m + 1, h => by
    show (inn n X Y i m && (decide (m < i + 2) || _ || _)) = true
    rw [inn_low m (by omega), decide_eq_true (show m < i + 2 by omega)]; rfl
theorem tmod_nat {a n : Nat} : ((a : Int)).tmod (n : Int) = ((a % n : Nat) : Int) := by rw [Int.tmod_eq_emod_of_nonneg (by omega), Int.natCast_emod]
set_option maxRecDepth 100000 in
set_option maxHeartbeats 4000000 in
theorem check_w (n cap b off : Nat) (X Y : Nat → Int) (w : World) (h0 : 3 ≤ n) (h16 : n ≤ 16) (hc : n ≤ cap) (hm : cap ≤ 9223372036854775807) (HV : Hid (∀ k, k < n → E2 w b off k (X k) (Y k))) (HN : Hid (∀ k, k < n → NxC (.slice (some ⟨b, off, none⟩) n cap) n X Y k w))
    (HT : Hid ((∀ k, k < n → good (X k) (Y k)) → ∀ w1, Below w.heap.size w w1 → Calls Try.prog 150 #[.slice (some ⟨b, off, none⟩) n cap] w1 fun e w' => e = .returned (.int .i64 (asum n X Y n)) ∧ Below w1.heap.size w1 w')) :
    Calls Try.prog 112 #[.slice (some ⟨b, off, none⟩) n cap] w fun e w' => e = .returned (.int .i64 (pck n X Y)) ∧ Below w.heap.size w w' := by
  go_enter Try.func112, Try.ntmps112
  go_wp2_with fail
  go_loopw [19] (fun i wr => ∃ k : Nat, k ≤ n ∧ ckg X Y k = true ∧ i = .int .i64 k ∧ Below w.heap.size w wr) (fun i _ => n - (intOf i).toNat)
  case atStart => exact ⟨0, Nat.zero_le _, rfl, rfl, Below.refl _ _⟩
  case round =>
    obtain ⟨k, hk, hck, rfl, hbl⟩ := hrel
    have HK := Lib.hid hck; clear hck
    by_cases hlt : k < n
    · obtain ⟨c0, c1⟩ := e2_keep hbl (HV.out k hlt)
      have hl : (k : Int) < (n : Int) := by omega
      have CC : Hid (Chk (X k) (Y k) (chk (X k) (Y k))) := fun w => check _ _ w
      cases hg : goodB (X k) (Y k) with
      | false =>
        have HF : Hid (pck n X Y = 4) := Lib.hid (by unfold pck; rw [if_neg (by omega), if_neg (by omega), if_pos (ckg_stop hlt hg)])
        rw [chk_bad (fun g => by rw [goodB_iff.2 g] at hg; cases hg)] at CC
        clear hg
        go_wp2_with fail
        refine (CC.out _).mono ?_; rintro e w1 ⟨rfl, hb⟩
        have hb1 := b_next (b_alloc hbl _) hb; clear hb
        go_wp2_with fail
        go_ret
        exact ⟨ret1 HF.out.symm, hb1⟩
      | true =>
        have HS : Hid (ckg X Y (k + 1) = true) := Lib.hid (by show (ckg X Y k && _) = true; rw [HK.out, hg]; rfl)
        rw [chk_ok (goodB_iff.1 hg)] at CC
        clear hg
        go_wp2_with fail
        refine (CC.out _).mono ?_; rintro e w1 ⟨rfl, hb⟩
        have hb1 := b_next (b_alloc hbl _) hb; clear hb
        go_wp2_with fail
        go_roundw
        case rel => first | exact ⟨k + 1, by omega, HS.out, by go_num, hb1⟩ | ((repeat apply Exists.intro); exact ⟨⟨k + 1, by omega, HS.out, by go_num, hb1⟩, rfl⟩)
        case measure => simp [intOf]; omega
    · have he : k = n := by omega
      have HE := Lib.hid he; clear he
      have HG : Hid (∀ k, k < n → good (X k) (Y k)) := Lib.hid (ckg_iff.1 (by have := HK.out; rw [HE.out] at this; exact this))
      have HCK : Hid (ckg X Y n = true) := Lib.hid (ckg_iff.2 HG.out)
      have H9 : Hid (∀ k, k < n → B9 (X k) ∧ B9 (Y k)) := Lib.hid fun k hk => by have := HG.out k hk; constructor <;> constructor <;> omega
      obtain ⟨wa, rfl⟩ : ∃ wa : World, wa = wr := ⟨_, rfl⟩
      go_wp2_with fail
      go_loopw [31] (fun s wr => ∃ i : Nat, i ≤ n ∧ rows n X Y i = true ∧ s = .int .i64 i ∧ Below w.heap.size w wr) (fun s _ => n - (intOf s).toNat)
      case atStart => exact ⟨0, Nat.zero_le _, rfl, rfl, hbl⟩
      case round =>
        obtain ⟨i, hi, hrw, rfl, hbi⟩ := hrel
        have HR := Lib.hid hrw; clear hrw
        by_cases hlti : i < n
        · obtain ⟨c0, c1⟩ := e2_keep hbi (HV.out i hlti)
          have hj2 : (i + 2) % n < n := Nat.mod_lt _ (by omega)
          obtain ⟨j2, ej2⟩ : ∃ j2, j2 = (i + 2) % n := ⟨_, rfl⟩
          rw [← ej2] at hj2
          obtain ⟨d0, d1⟩ := e2_keep hbi (HV.out j2 hj2)
          have hl : (i : Int) < (n : Int) := by omega
          have hl2 : (j2 : Int) < (n : Int) := by omega
          have hnz : ¬ (n : Int) = 0 := by omega
          have hnz2 : ((n : Int) == 0) = false := by simpa using hnz
          have NN : Hid (NxC (.slice (some ⟨b, off, none⟩) n cap) n X Y i wr) := Lib.hid fun w1 hb => HN.out i hlti w1 (b_next hbi hb)
          have hin := nx_lt (n := n) (i := i) (by omega)
          have TT : Hid (TuC (X i) (Y i) (X (nx n i)) (Y (nx n i)) (X j2) (Y j2) (sgn (crs (X i) (Y i) (X (nx n i)) (Y (nx n i)) (X j2) (Y j2)))) := Lib.hid fun w => turn _ _ _ _ _ _ w rfl ⟨(H9.out i hlti).1, (H9.out i hlti).2, (H9.out _ hin).1, (H9.out _ hin).2, (H9.out _ hj2).1, (H9.out _ hj2).2⟩
          have hu1 : IntKind.i64.wrap ((i : Int) + 2) = (i : Int) + 2 := by rw [IntWalk.i64_in _ (by omega)]
          have hnz3 : ¬ n = 0 := by omega
          have hu2 : ((i : Int) + 2).tmod (n : Int) = (j2 : Int) := by rw [show (i : Int) + 2 = ((i + 2 : Nat) : Int) from by omega, tmod_nat, ej2]
          have hu3 : IntKind.i64.wrap (j2 : Int) = (j2 : Int) := IntWalk.i64_in _ (by omega)
          have EJ := Lib.hid ej2; clear ej2
          generalize hS : sgn (crs (X i) (Y i) (X (nx n i)) (Y (nx n i)) (X j2) (Y j2)) = S at TT
          have HSS := Lib.hid hS; clear hS
          by_cases hS0 : S = 0
          · have HF : Hid (pck n X Y = 3) := Lib.hid (by
              have hr : row n X Y i = false := by unfold row; rw [← EJ.out, HSS.out, decide_eq_true hS0]; rfl
              unfold pck; rw [if_neg (by omega), if_neg (by omega), if_neg (by rw [HCK.out]; simp), if_pos (Or.inl (rows_stop hr n hlti))])
            subst hS0
            go_wp2_with fail
            refine d_region (by kernel_rfl) (by kernel_rfl) ?_
            repeat
              first
                | (refine d_plain (by with_reducible rfl) ?_; apply Exists.intro; refine ⟨fun wq hc hq => ?_, ?_⟩)
                | (refine d_on (by with_reducible rfl) (by rfl) (by with_reducible rfl) ?_; apply Exists.intro; refine ⟨fun wq hc hq => ?_, ?_⟩)
                | (refine d_off (by with_reducible rfl) (by rfl) (by rfl) ?_)
                | (refine d_void (by with_reducible rfl) (by rfl) ?_)
              try any_goals
                (have q0 := keep hq c0; have q1 := keep hq c1; have q2 := keep hq d0; have q3 := keep hq d1; clear hc
                 go_simp
                 first
                   | rfl
                   | (go_at_call 148; with_reducible exact call_below hq (NN.out _ (cls hq)))
                   | (go_at_call 149; with_reducible exact call_below hq (TT.out _)))
              simp only [Act.put, List.setIfInBounds_toArray, List.set_cons_zero, List.set_cons_succ]
            refine d_nil ?_
            intro w2 hb2
            go_wp2_with fail
            go_ret
            exact ⟨ret1 HF.out.symm, b_next hbi hb2⟩
          · have hS1 : (S == 0) = false := by simpa using hS0
            have HS0 := Lib.hid hS0; clear hS0
            go_wp2_with fail
            refine d_region (by kernel_rfl) (by kernel_rfl) ?_
            repeat
              first
                | (refine d_plain (by with_reducible rfl) ?_; apply Exists.intro; refine ⟨fun wq hc hq => ?_, ?_⟩)
                | (refine d_on (by with_reducible rfl) (by rfl) (by with_reducible rfl) ?_; apply Exists.intro; refine ⟨fun wq hc hq => ?_, ?_⟩)
                | (refine d_off (by with_reducible rfl) (by rfl) (by rfl) ?_)
                | (refine d_void (by with_reducible rfl) (by rfl) ?_)
              try any_goals
                (have q0 := keep hq c0; have q1 := keep hq c1; have q2 := keep hq d0; have q3 := keep hq d1; clear hc
                 go_simp
                 first
                   | rfl
                   | (go_at_call 148; with_reducible exact call_below hq (NN.out _ (cls hq)))
                   | (go_at_call 149; with_reducible exact call_below hq (TT.out _)))
              simp only [Act.put, List.setIfInBounds_toArray, List.set_cons_zero, List.set_cons_succ]
            refine d_nil ?_
            intro w2 hb2
            have hbi2 := b_next hbi hb2
            clear c0 c1 d0 d1 hb2
            obtain ⟨wc, rfl⟩ : ∃ wc : World, wc = w2 := ⟨_, rfl⟩
            go_wp2_with fail
            go_loopw [8] (fun s wr => ∃ m : Nat, i + 2 ≤ m ∧ (m ≤ n ∨ m = i + 2) ∧ inn n X Y i m = true ∧ s = .int .i64 m ∧ Below w.heap.size w wr) (fun s _ => n - (intOf s).toNat)
            case atStart => exact ⟨i + 2, Nat.le_refl _, Or.inr rfl, inn_low _ (Nat.le_refl _), by go_num, hbi2⟩
            case round =>
              obtain ⟨m, hm1, hm2, hinn, rfl, hbm⟩ := hrel
              have HI := Lib.hid hinn; clear hinn
              have hm18 : m ≤ 18 := by omega
              by_cases hltm : m < n
              · obtain ⟨c0, c1⟩ := e2_keep hbm (HV.out i hlti)
                obtain ⟨e0, e1⟩ := e2_keep hbm (HV.out m hltm)
                have hlm : (m : Int) < (n : Int) := by omega
                have NI : Hid (NxC (.slice (some ⟨b, off, none⟩) n cap) n X Y i wr) := Lib.hid fun w1 hb => HN.out i hlti w1 (b_next hbm hb)
                have NM : Hid (NxC (.slice (some ⟨b, off, none⟩) n cap) n X Y m wr) := Lib.hid fun w1 hb => HN.out m hltm w1 (b_next hbm hb)
                have hmn := nx_lt (n := n) (i := m) (by omega)
                have CC : Hid (∀ w, Calls Try.prog 147 #[.agg #[.int .i64 (X i), .int .i64 (Y i)], .agg #[.int .i64 (X (nx n i)), .int .i64 (Y (nx n i))], .agg #[.int .i64 (X m), .int .i64 (Y m)], .agg #[.int .i64 (X (nx n m)), .int .i64 (Y (nx n m))]] w fun e w' => e = .returned (.bool (commonB (X i) (Y i) (X (nx n i)) (Y (nx n i)) (X m) (Y m) (X (nx n m)) (Y (nx n m)))) ∧ Below w.heap.size w w') :=
                  Lib.hid fun w => commonC _ _ _ _ _ _ _ _ w ⟨(H9.out i hlti).1, (H9.out i hlti).2, (H9.out _ hin).1, (H9.out _ hin).2, (H9.out m hltm).1, (H9.out m hltm).2, (H9.out _ hmn).1, (H9.out _ hmn).2⟩
                have hv1 : IntKind.i64.wrap ((m : Int) + 1) = (m : Int) + 1 := by rw [IntWalk.i64_in _ (by omega)]
                have hv2 : ((m : Int) + 1).tmod (n : Int) = ((nx n m : Nat) : Int) := by rw [show (m : Int) + 1 = ((m + 1 : Nat) : Int) from by omega, tmod_nat]; rfl
                have hv3 : IntKind.i64.wrap ((nx n m : Nat) : Int) = ((nx n m : Nat) : Int) := IntWalk.i64_in _ (by omega)
                by_cases hnm : nx n m = i
                · have dq : (((nx n m : Nat) : Int) != (i : Int)) = false := by rw [hnm]; simp
                  have dq2 : (((nx n m : Nat) : Int) == (i : Int)) = true := by rw [hnm]; simp
                  have HNM := Lib.hid hnm; clear hnm
                  go_wp2_with fail
                  refine d_region (by kernel_rfl) (by kernel_rfl) ?_
                  repeat
                    first
                      | (refine d_plain (by with_reducible rfl) ?_; apply Exists.intro; refine ⟨fun wq hc hq => ?_, ?_⟩)
                      | (refine d_on (by with_reducible rfl) (by rfl) (by with_reducible rfl) ?_; apply Exists.intro; refine ⟨fun wq hc hq => ?_, ?_⟩)
                      | (refine d_off (by with_reducible rfl) (by rfl) (by rfl) ?_)
                      | (refine d_void (by with_reducible rfl) (by rfl) ?_)
                    try any_goals
                      (skip; clear hc
                       go_simp
                       first
                         | rfl)
                    simp only [Act.put, List.setIfInBounds_toArray, List.set_cons_zero, List.set_cons_succ]
                  refine d_nil ?_
                  intro w4 hb4
                  have HI2 : Hid (inn n X Y i (m + 1) = true) := Lib.hid (by show (inn n X Y i m && _) = true; rw [HI.out, Bool.true_and]; rw [decide_eq_true HNM.out, Bool.or_true]; rfl)
                  go_wp2_with fail
                  go_roundw
                  case rel => first | exact ⟨m + 1, by omega, by omega, HI2.out, by go_num, b_next hbm hb4⟩ | ((repeat apply Exists.intro); exact ⟨⟨m + 1, by omega, by omega, HI2.out, by go_num, b_next hbm hb4⟩, rfl⟩)
                  case measure => simp [intOf]; omega
                · have dq : (((nx n m : Nat) : Int) != (i : Int)) = true := by simp; omega
                  have dq2 : (((nx n m : Nat) : Int) == (i : Int)) = false := by simp; omega
                  have HNM := Lib.hid hnm; clear hnm
                  cases hcm : commonB (X i) (Y i) (X (nx n i)) (Y (nx n i)) (X m) (Y m) (X (nx n m)) (Y (nx n m)) with
                  | true =>
                    rw [hcm] at CC
                    have HF : Hid (pck n X Y = 3) := Lib.hid (by
                      have hi1 : inn n X Y i (m + 1) = false := by
                        show (inn n X Y i m && (decide (m < i + 2) || decide (nx n m = i) || !commonB (X i) (Y i) (X (nx n i)) (Y (nx n i)) (X m) (Y m) (X (nx n m)) (Y (nx n m)))) = false
                        rw [hcm, decide_eq_false (show ¬ m < i + 2 by omega), decide_eq_false HNM.out, HI.out]; rfl
                      have hr : row n X Y i = false := by unfold row; rw [inn_stop hi1 n hltm, Bool.and_false]
                      unfold pck; rw [if_neg (by omega), if_neg (by omega), if_neg (by rw [HCK.out]; simp), if_pos (Or.inl (rows_stop hr n hlti))])
                    clear hcm
                    go_wp2_with fail
                    refine d_region (by kernel_rfl) (by kernel_rfl) ?_
                    repeat
                      first
                        | (refine d_plain (by with_reducible rfl) ?_; apply Exists.intro; refine ⟨fun wq hc hq => ?_, ?_⟩)
                        | (refine d_on (by with_reducible rfl) (by rfl) (by with_reducible rfl) ?_; apply Exists.intro; refine ⟨fun wq hc hq => ?_, ?_⟩)
                        | (refine d_off (by with_reducible rfl) (by rfl) (by rfl) ?_)
                        | (refine d_void (by with_reducible rfl) (by rfl) ?_)
                      try any_goals
                        (have q0 := keep hq c0; have q1 := keep hq c1; have q2 := keep hq e0; have q3 := keep hq e1; clear hc
                         go_simp
                         first
                           | rfl
                           | (go_at_call 148; with_reducible exact call_below hq (NI.out _ (cls hq)))
                           | (go_at_call 148; with_reducible exact call_below hq (NM.out _ (cls hq)))
                           | (go_at_call 147; with_reducible exact call_below hq (CC.out _)))
                      simp only [Act.put, List.setIfInBounds_toArray, List.set_cons_zero, List.set_cons_succ]
                    refine d_nil ?_
                    intro w4 hb4
                    go_wp2_with fail
                    go_ret
                    exact ⟨ret1 HF.out.symm, b_next hbm hb4⟩
                  | false =>
                    rw [hcm] at CC
                    have HCM := Lib.hid hcm; clear hcm
                    go_wp2_with fail
                    refine d_region (by kernel_rfl) (by kernel_rfl) ?_
                    repeat
                      first
                        | (refine d_plain (by with_reducible rfl) ?_; apply Exists.intro; refine ⟨fun wq hc hq => ?_, ?_⟩)
                        | (refine d_on (by with_reducible rfl) (by rfl) (by with_reducible rfl) ?_; apply Exists.intro; refine ⟨fun wq hc hq => ?_, ?_⟩)
                        | (refine d_off (by with_reducible rfl) (by rfl) (by rfl) ?_)
                        | (refine d_void (by with_reducible rfl) (by rfl) ?_)
                      try any_goals
                        (have q0 := keep hq c0; have q1 := keep hq c1; have q2 := keep hq e0; have q3 := keep hq e1; clear hc
                         go_simp
                         first
                           | rfl
                           | (go_at_call 148; with_reducible exact call_below hq (NI.out _ (cls hq)))
                           | (go_at_call 148; with_reducible exact call_below hq (NM.out _ (cls hq)))
                           | (go_at_call 147; with_reducible exact call_below hq (CC.out _)))
                      simp only [Act.put, List.setIfInBounds_toArray, List.set_cons_zero, List.set_cons_succ]
                    refine d_nil ?_
                    intro w4 hb4
                    have HI2 : Hid (inn n X Y i (m + 1) = true) := Lib.hid (by show (inn n X Y i m && _) = true; rw [HI.out, Bool.true_and]; rw [HCM.out, Bool.not_false, Bool.or_true])
                    go_wp2_with fail
                    go_roundw
                    case rel => first | exact ⟨m + 1, by omega, by omega, HI2.out, by go_num, b_next hbm hb4⟩ | ((repeat apply Exists.intro); exact ⟨⟨m + 1, by omega, by omega, HI2.out, by go_num, b_next hbm hb4⟩, rfl⟩)
                    case measure => simp [intOf]; omega
              · have HIN : Hid (rows n X Y (i + 1) = true) := Lib.hid (by
                  have hin2 : inn n X Y i n = true := by
                    rcases hm2 with h | h
                    · have e : m = n := by omega
                      have := HI.out; rw [e] at this; exact this
                    · exact inn_low n (by omega)
                  show (rows n X Y i && row n X Y i) = true
                  unfold row
                  rw [HR.out, ← EJ.out, HSS.out, decide_eq_false HS0.out, hin2]; rfl)
                have hltm2 : ¬ (m : Int) < (n : Int) := by omega
                go_wp2_with fail
                go_roundw
                case rel => first | exact ⟨i + 1, by omega, HIN.out, by go_num, hbm⟩ | ((repeat apply Exists.intro); exact ⟨⟨i + 1, by omega, HIN.out, by go_num, hbm⟩, rfl⟩)
                case measure => simp [intOf]; omega
        · have he : i = n := by omega
          have HE2 := Lib.hid he; clear he
          have hltm2 : ¬ (i : Int) < (n : Int) := by omega
          go_wp2_with fail
          refine (HT.out HG.out _ hbi).mono ?_; rintro e w6 ⟨rfl, h⟩
          have hb6 := b_next hbi h; clear h
          by_cases ha : asum n X Y n ≤ 0
          · have HF : Hid (pck n X Y = 3) := Lib.hid (by unfold pck; rw [if_neg (by omega), if_neg (by omega), if_neg (by rw [HCK.out]; simp), if_pos (Or.inr ha)])
            go_wp2_with fail
            go_ret
            exact ⟨ret1 HF.out.symm, hb6⟩
          · have HF : Hid (pck n X Y = 0) := Lib.hid (by
              have hr := HR.out
              rw [HE2.out] at hr
              unfold pck; rw [if_neg (by omega), if_neg (by omega), if_neg (by rw [HCK.out]; simp), if_neg (by rw [hr]; simp; omega)])
            go_wp2_with fail
            go_ret
            exact ⟨ret1 HF.out.symm, hb6⟩
end Poly
end Go.Proofs.Yteaccanhahmclaa
