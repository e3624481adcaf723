/- strconv's rightShift at a decimal in memory. -/
import Derived.Test.YtoafljgcmloilaaDoorDecP
import Derived.Laws.Bits64b
namespace Go.Proofs.YtoafljgcmloilaaDoor
open Go.RowKit
namespace Dec
open Kit
theorem div_lt {x k : Nat} (h : x < 2 ^ k) : (((x : Nat) : Int) / 2 ^ k == 0) = true := by
  have : ((x : Nat) : Int) / 2 ^ k = ((x / 2 ^ k : Nat) : Int) := by norm_cast
  rw [this, Nat.div_eq_of_lt h]; rfl
theorem div_ge {x k : Nat} (h : 2 ^ k ≤ x) : (((x : Nat) : Int) / 2 ^ k == 0) = false := by
  have : ((x : Nat) : Int) / 2 ^ k = ((x / 2 ^ k : Nat) : Int) := by norm_cast
  rw [this]
  have := Nat.div_pos h (Nat.two_pow_pos k)
  simp only [beq_eq_false_iff_ne, ne_eq]
  omega
theorem and_mask {x k : Nat} (hx : x < 18446744073709551616) (hk : k ≤ 60) : bits .and .u64 ((x : Nat) : Int) ((2 ^ k - 1 : Nat) : Int) = ((x % 2 ^ k : Nat) : Int) := by
  have := p60 hk
  rw [bits_and_u64_nat _ _ hx (by omega), Nat.and_two_pow_sub_one_eq_mod]
theorem div_cast (x k : Nat) : ((x : Nat) : Int) / 2 ^ k = ((x / 2 ^ k : Nat) : Int) := by norm_cast
set_option maxRecDepth 100000 in
set_option maxHeartbeats 8000000 in
theorem rs_w (b k : Nat) (d : Nat → Nat) (n : Nat) (p : Int) (w : World) (D : Hid (Dgs d n)) (hn : 1 ≤ n) (hn20 : n ≤ 20) (_hk1 : 1 ≤ k) (hk : k ≤ 60) (hp : -1000 ≤ p ∧ p ≤ 1000) (V0 : Hid (DV w b d n p)) :
    Calls Tryd.prog 85 #[.pointer (some ⟨b, 0, none⟩), .int .u64 (k : Nat)] w fun e w' => e = .returned (.tuple #[]) ∧ (∃ r W, Sh k d n r W ∧ r ≤ 20 ∧ W ≤ 81 ∧ DV w' b (quo k d n r W) (trimN (quo k d n r W) W) (pnt (trimN (quo k d n r W) W) (p - ((r : Int) - 1)))) ∧ Below b w w' := by
  have hk63 : ((k : Nat) : Int) < 64 := by omega
  go_enter Tryd.func85, Tryd.ntmps85
  go_wp2_with fail
  go_loopw [4, 6] (fun u v wr => ∃ r : Nat, r ≤ 20 ∧ u = .int .i64 (r : Nat) ∧ v = .int .u64 (pre d n r : Nat) ∧ (∀ j, j < r → pre d n j < 2 ^ k) ∧ w = wr) (fun u _ _ => 21 - (intOf u).toNat)
  case atStart => exact ⟨0, Nat.zero_le _, rfl, rfl, fun j h => absurd h (Nat.not_lt_zero j), rfl⟩
  case round =>
    obtain ⟨r, hr, rfl, rfl, hlow, rfl⟩ := hrel
    have a0 := V0.out.cn
    by_cases hlt : pre d n r < 2 ^ k
    · have hr19 := pre_len D.out hk hlt
      have hc := div_lt hlt
      have h60 := p60 hk
      have LOW := Lib.hid hlow
      clear hlow
      rcases Nat.lt_or_ge r n with hrn | hrn
      · have hg1 : ¬ (n : Int) ≤ (r : Int) := by omega
        have hg2 : ¬ n ≤ r := by omega
        have hr8 : r < 800 := by omega
        have hr8' : (r : Int) < 800 := by omega
        have a1 := V0.out.cd r hr8
        have hdd := D.out.all r hrn
        have NX : Hid (pre d n (r + 1) = pre d n r * 10 + (d r - 48)) := Lib.hid (by show _ + dg d n r = _; rw [dg_in hrn])
        have LOW2 : Hid (∀ j, j < r + 1 → pre d n j < 2 ^ k) := Lib.hid fun j hj => by
          rcases Nat.lt_or_ge j r with g | g
          · exact LOW.out j g
          · rw [show j = r by omega]; exact hlt
        clear hrn
        generalize pre d n r = x at *
        generalize hy : pre d n (r + 1) = y at *
        have HY := Lib.hid hy; clear hy
        generalize d r = c at *
        go_wp2_with fail
        go_roundw
        case rel => exact ⟨r + 1, by omega, by go_num, by rw [HY.out, NX.out]; congr 1; omega, LOW2.out, by first | rfl | trivial⟩
        case measure => simp [intOf]; omega
      · have hg1 : (n : Int) ≤ (r : Int) := by omega
        have hpos : 1 ≤ pre d n r := by
          have q := pre_ge D.out (r - 1)
          rw [show r - 1 + 1 = r by omega] at q
          have := Nat.pow_pos (n := r - 1) (show 0 < 10 by decide)
          omega
        have hnz : (((pre d n r : Nat) : Int) == 0) = false := by simp; omega
        go_wp2_with fail
        go_loopw [4, 6] (fun u v wq => ∃ q : Nat, n ≤ q ∧ q ≤ 20 ∧ u = .int .i64 (q : Nat) ∧ v = .int .u64 (pre d n q : Nat) ∧ (∀ j, j < q → pre d n j < 2 ^ k) ∧ w = wq) (fun u _ _ => 21 - (intOf u).toNat)
        case atStart => exact ⟨r, hrn, hr, rfl, rfl, LOW.out, rfl⟩
        case round =>
          clear hc hr19 hr hrn hlt hpos hnz hg1 LOW
          obtain ⟨q, hq, hq20, rfl, rfl, hlow, rfl⟩ := hrel
          by_cases hlt : pre d n q < 2 ^ k
          · have hq19 := pre_len D.out hk hlt
            have hc := div_lt hlt
            have NX : Hid (pre d n (q + 1) = pre d n q * 10) := Lib.hid (by show _ + dg d n q = _; rw [dg_out hq]; rfl)
            have LOW2 : Hid (∀ j, j < q + 1 → pre d n j < 2 ^ k) := Lib.hid fun j hj => by
              rcases Nat.lt_or_ge j q with g | g
              · exact hlow j g
              · rw [show j = q by omega]; exact hlt
            clear hlow
            generalize pre d n q = x at *
            generalize hy : pre d n (q + 1) = y at *
            have HY := Lib.hid hy; clear hy
            go_wp2_with fail
            go_roundw
            case rel => exact ⟨q + 1, by omega, by omega, by go_num, by rw [HY.out, NX.out]; congr 1, LOW2.out, by first | rfl | trivial⟩
            case measure => simp [intOf]; omega
          · have hc := div_ge (Nat.le_of_not_lt hlt)
            have S := Lib.hid (And.intro hlow (Nat.le_of_not_lt hlt))
            have hr20 := hq20
            clear hlow hlt hq hq20
            obtain ⟨r, hr⟩ : ∃ r, r = q := ⟨_, rfl⟩
            rw [← hr] at S hc hr20 ⊢
            clear hr
            have h1r : 1 ≤ r := by
              rcases Nat.eq_zero_or_pos r with e | e
              · exfalso; have q := S.out.2; rw [e] at q; simp only [pre] at q; have := Nat.two_pow_pos k; omega
              · exact e
            have PL := Lib.hid (pre_next D.out (S.out.1 (r - 1) (by omega)))
            rw [show r - 1 + 1 = r by omega] at PL
            have a0 := V0.out.cn; have a1 := V0.out.cp; have a2 := V0.out.fr 801
            have V1 := Lib.hid (dv_p V0.out (p - ((r : Int) - 1)))
            have B1 := Lib.hid (b_set' (Below.refl b w) (p := ⟨b, 801, none⟩) (Nat.le_refl _) (.int .i64 (p - ((r : Int) - 1))))
            obtain ⟨mk, hmk⟩ : ∃ mk : Nat, mk = 2 ^ k - 1 := ⟨_, rfl⟩
            have h60 := p60 hk
            have h2k : ((2 : Int) ^ k) = ((2 ^ k : Nat) : Int) := by norm_cast
            have hpos := Nat.two_pow_pos k
            have hm1 : IntKind.u64.wrap ((2 : Int) ^ k) = (2 : Int) ^ k := by rw [h2k]; exact IntWalk.u64_in _ (by omega)
            have hm2 : IntKind.u64.wrap ((2 : Int) ^ k - 1) = ((mk : Nat) : Int) := by rw [h2k, IntWalk.u64_in _ (by omega)]; omega
            have HMK := Lib.hid hmk
            clear hmk h2k
            go_wp2_with fail
            go_loopw [4, 5, 6] (fun u v x wq => ∃ i : Nat, (r + i ≤ n ∨ i = 0) ∧ u = .int .i64 ((r + i : Nat) : Int) ∧ v = .int .i64 (i : Nat) ∧ x = .int .u64 (rem k d n r i : Nat) ∧ DV wq b (quo k d n r i) n (p - ((r : Int) - 1)) ∧ Below b w wq) (fun u _ _ _ => n - (intOf u).toNat)
            case atStart => exact ⟨0, Or.inr rfl, rfl, rfl, rfl, by rw [quo_zero]; exact V1.out, B1.out⟩
            case round =>
              clear V1 B1 a0 a1 a2
              obtain ⟨i, hin, rfl, rfl, rfl, hv, hb⟩ := hrel
              rcases Nat.lt_or_ge (r + i) n with hlt | hge
              · obtain ⟨s, hs⟩ : ∃ s, s = r + i := ⟨_, rfl⟩
                rw [← hs]
                have hl1 : (s : Int) < (n : Int) := by omega
                have hs8 : s < 800 := by omega
                have hs8' : (s : Int) < 800 := by omega
                have hi8 : (i : Int) < 800 := by omega
                have a0 := hv.cn
                have a1 := hv.cd s hs8
                rw [quo_old (show i ≤ s by omega)] at a1
                have a2 := hv.cd i (by omega)
                have a3 := hv.fr i
                have hdd := D.out.all s (by omega)
                have hq9 := quo_dig D.out PL.out i
                have hrl := rem_lt D.out PL.out i
                have HS := Lib.hid hs
                have V := Lib.hid hv; have B := Lib.hid hb
                have hand : bits .and .u64 ((rem k d n r i : Nat) : Int) ((mk : Nat) : Int) = ((rem k d n r i % 2 ^ k : Nat) : Int) := by rw [HMK.out]; exact and_mask (by omega) hk
                have hdiv := div_cast (rem k d n r i) k
                have hml := Nat.mod_lt (rem k d n r i) hpos
                have NX : Hid (rem k d n r (i + 1) = rem k d n r i % 2 ^ k * 10 + (d s - 48)) := Lib.hid (by show _ + dg d n (r + i) = _; rw [← hs, dg_in (by omega)])
                have QN := Lib.hid (dv_d hv (show i < 800 by omega) (48 + rem k d n r i / 2 ^ k))
                rw [quo_next] at QN
                have BN := Lib.hid (b_set' hb (p := ⟨b, i, none⟩) (Nat.le_refl _) (.int .u8 ((48 + rem k d n r i / 2 ^ k : Nat) : Int)))
                have hsn : s < n := by omega
                clear hs hv hb hin hlt
                generalize rem k d n r i % 2 ^ k = xm at *
                generalize rem k d n r i / 2 ^ k = xq at *
                generalize rem k d n r i = x at *
                generalize d s = c at *
                rw [show ((48 + xq : Nat) : Int) = (xq : Int) + 48 by omega] at QN BN
                go_wp2_with fail
                go_roundw
                case rel => exact ⟨i + 1, Or.inl (by have := HS.out; omega), by have := HS.out; congr 1; omega, by go_num, by rw [NX.out]; congr 1; omega, QN.out, BN.out⟩
                case measure => simp [intOf]; omega
              · have V := Lib.hid hv; have B := Lib.hid hb
                have a0 := hv.cn
                have hge' : ¬ ((r : Int) + (i : Int)) < (n : Int) := by omega
                have hi1 : i = n - r := by omega
                have HI := Lib.hid hi1
                have hin2 : i ≤ 20 := by omega
                clear hv hb hin hi1
                go_wp2_with fail
                clear hge'
                go_loopw [5, 6] (fun v x wq => ∃ j : Nat, n - r ≤ j ∧ j ≤ n - r + k + 1 ∧ v = .int .i64 (j : Nat) ∧ x = .int .u64 (rem k d n r j : Nat) ∧ (∀ a, n - r ≤ a → a < j → rem k d n r a ≠ 0) ∧ DV wq b (quo k d n r j) n (p - ((r : Int) - 1)) ∧ Below b w wq) (fun v _ _ => n - r + k + 2 - (intOf v).toNat)
                case atStart => exact ⟨i, by have := HI.out; omega, by have := HI.out; omega, rfl, rfl, fun a h1 h2 => by have := HI.out; omega, V.out, B.out⟩
                case round =>
                  clear V B a0
                  have hIr : i ≤ n - r := by have := HI.out; omega
                  clear HI
                  obtain ⟨j, hj1, hj2, rfl, rfl, hall, hv, hb⟩ := hrel
                  have hj8 : j < 800 := by omega
                  have hj8' : (j : Int) < 800 := by omega
                  have V := Lib.hid hv; have B := Lib.hid hb; have AL := Lib.hid hall
                  have hrl := rem_lt D.out PL.out j
                  by_cases hz : rem k d n r j = 0
                  · have HZ := Lib.hid hz
                    have hg : ¬ (0 : Int) < ((rem k d n r j : Nat) : Int) := by omega
                    have a0 := hv.cn; have a1 := hv.fr 800
                    have V2 := Lib.hid (dv_n hv j)
                    have B2 := Lib.hid (b_set' hb (p := ⟨b, 800, none⟩) (Nat.le_refl _) (.int .i64 (j : Nat)))
                    have SH : Hid (Sh k d n r j) := Lib.hid ⟨S.out.1, S.out.2, hj1, hz, AL.out⟩
                    have TR := Lib.hid (trim_w b (quo k d n r j) j (p - ((r : Int) - 1)) _ (by omega) V2)
                    clear hv hb hall hz hrl
                    generalize rem k d n r j = x at *
                    go_wp2_with fail
                    (with_reducible refine TR.out.mono ?_); rintro e w9 ⟨rfl, hv9, hb9⟩
                    go_wp2_with fail
                    exact ⟨rfl, .tuple #[], results_none rfl _ _ _, rfl, ⟨r, j, SH.out, hr20, by omega, hv9⟩, B2.out.trans hb9⟩
                  · have hg : (0 : Int) < ((rem k d n r j : Nat) : Int) := by omega
                    have hmost := rem_most (i1 := n - r) (by omega) hz
                    have a1 := hv.fr j; have a2 := hv.cd j hj8
                    have hand : bits .and .u64 ((rem k d n r j : Nat) : Int) ((mk : Nat) : Int) = ((rem k d n r j % 2 ^ k : Nat) : Int) := by rw [HMK.out]; exact and_mask (by omega) hk
                    have hdiv := div_cast (rem k d n r j) k
                    have hml := Nat.mod_lt (rem k d n r j) hpos
                    have hq9 := quo_dig D.out PL.out j
                    have NX : Hid (rem k d n r (j + 1) = rem k d n r j % 2 ^ k * 10) := Lib.hid (by show _ + dg d n (r + j) = _; rw [dg_out (by omega)]; rfl)
                    have QN := Lib.hid (dv_d hv hj8 (48 + rem k d n r j / 2 ^ k))
                    rw [quo_next] at QN
                    have BN := Lib.hid (b_set' hb (p := ⟨b, j, none⟩) (Nat.le_refl _) (.int .u8 ((48 + rem k d n r j / 2 ^ k : Nat) : Int)))
                    have AL2 : Hid (∀ a, n - r ≤ a → a < j + 1 → rem k d n r a ≠ 0) := Lib.hid fun a h1 h2 => by
                      rcases Nat.lt_or_ge a j with g | g
                      · exact AL.out a h1 g
                      · rw [show a = j by omega]; exact hz
                    clear hv hb hall hz
                    generalize rem k d n r j % 2 ^ k = xm at *
                    generalize rem k d n r j / 2 ^ k = xq at *
                    generalize rem k d n r j = x at *
                    rw [show ((48 + xq : Nat) : Int) = (xq : Int) + 48 by omega] at QN BN
                    go_wp2_with fail
                    go_roundw
                    case rel => exact ⟨j + 1, by omega, by omega, by go_num, by rw [NX.out]; congr 1, AL2.out, QN.out, BN.out⟩
                    case measure => simp [intOf]; omega
    · have hc := div_ge (Nat.le_of_not_lt hlt)
      have S := Lib.hid (And.intro hlow (Nat.le_of_not_lt hlt))
      have hr20 := hr
      clear hlow hlt hr
      have h1r : 1 ≤ r := by
        rcases Nat.eq_zero_or_pos r with e | e
        · exfalso; have q := S.out.2; rw [e] at q; simp only [pre] at q; have := Nat.two_pow_pos k; omega
        · exact e
      have PL := Lib.hid (pre_next D.out (S.out.1 (r - 1) (by omega)))
      rw [show r - 1 + 1 = r by omega] at PL
      have a0 := V0.out.cn; have a1 := V0.out.cp; have a2 := V0.out.fr 801
      have V1 := Lib.hid (dv_p V0.out (p - ((r : Int) - 1)))
      have B1 := Lib.hid (b_set' (Below.refl b w) (p := ⟨b, 801, none⟩) (Nat.le_refl _) (.int .i64 (p - ((r : Int) - 1))))
      obtain ⟨mk, hmk⟩ : ∃ mk : Nat, mk = 2 ^ k - 1 := ⟨_, rfl⟩
      have h60 := p60 hk
      have h2k : ((2 : Int) ^ k) = ((2 ^ k : Nat) : Int) := by norm_cast
      have hpos := Nat.two_pow_pos k
      have hm1 : IntKind.u64.wrap ((2 : Int) ^ k) = (2 : Int) ^ k := by rw [h2k]; exact IntWalk.u64_in _ (by omega)
      have hm2 : IntKind.u64.wrap ((2 : Int) ^ k - 1) = ((mk : Nat) : Int) := by rw [h2k, IntWalk.u64_in _ (by omega)]; omega
      have HMK := Lib.hid hmk
      clear hmk h2k
      go_wp2_with fail
      go_loopw [4, 5, 6] (fun u v x wq => ∃ i : Nat, (r + i ≤ n ∨ i = 0) ∧ u = .int .i64 ((r + i : Nat) : Int) ∧ v = .int .i64 (i : Nat) ∧ x = .int .u64 (rem k d n r i : Nat) ∧ DV wq b (quo k d n r i) n (p - ((r : Int) - 1)) ∧ Below b w wq) (fun u _ _ _ => n - (intOf u).toNat)
      case atStart => exact ⟨0, Or.inr rfl, rfl, rfl, rfl, by rw [quo_zero]; exact V1.out, B1.out⟩
      case round =>
        clear V1 B1 a0 a1 a2
        obtain ⟨i, hin, rfl, rfl, rfl, hv, hb⟩ := hrel
        rcases Nat.lt_or_ge (r + i) n with hlt | hge
        · obtain ⟨s, hs⟩ : ∃ s, s = r + i := ⟨_, rfl⟩
          rw [← hs]
          have hl1 : (s : Int) < (n : Int) := by omega
          have hs8 : s < 800 := by omega
          have hs8' : (s : Int) < 800 := by omega
          have hi8 : (i : Int) < 800 := by omega
          have a0 := hv.cn
          have a1 := hv.cd s hs8
          rw [quo_old (show i ≤ s by omega)] at a1
          have a2 := hv.cd i (by omega)
          have a3 := hv.fr i
          have hdd := D.out.all s (by omega)
          have hq9 := quo_dig D.out PL.out i
          have hrl := rem_lt D.out PL.out i
          have HS := Lib.hid hs
          have V := Lib.hid hv; have B := Lib.hid hb
          have hand : bits .and .u64 ((rem k d n r i : Nat) : Int) ((mk : Nat) : Int) = ((rem k d n r i % 2 ^ k : Nat) : Int) := by rw [HMK.out]; exact and_mask (by omega) hk
          have hdiv := div_cast (rem k d n r i) k
          have hml := Nat.mod_lt (rem k d n r i) hpos
          have NX : Hid (rem k d n r (i + 1) = rem k d n r i % 2 ^ k * 10 + (d s - 48)) := Lib.hid (by show _ + dg d n (r + i) = _; rw [← hs, dg_in (by omega)])
          have QN := Lib.hid (dv_d hv (show i < 800 by omega) (48 + rem k d n r i / 2 ^ k))
          rw [quo_next] at QN
          have BN := Lib.hid (b_set' hb (p := ⟨b, i, none⟩) (Nat.le_refl _) (.int .u8 ((48 + rem k d n r i / 2 ^ k : Nat) : Int)))
          have hsn : s < n := by omega
          clear hs hv hb hin hlt
          generalize rem k d n r i % 2 ^ k = xm at *
          generalize rem k d n r i / 2 ^ k = xq at *
          generalize rem k d n r i = x at *
          generalize d s = c at *
          rw [show ((48 + xq : Nat) : Int) = (xq : Int) + 48 by omega] at QN BN
          go_wp2_with fail
          go_roundw
          case rel => exact ⟨i + 1, Or.inl (by have := HS.out; omega), by have := HS.out; congr 1; omega, by go_num, by rw [NX.out]; congr 1; omega, QN.out, BN.out⟩
          case measure => simp [intOf]; omega
        · have V := Lib.hid hv; have B := Lib.hid hb
          have a0 := hv.cn
          have hge' : ¬ ((r : Int) + (i : Int)) < (n : Int) := by omega
          have hi1 : i = n - r := by omega
          have HI := Lib.hid hi1
          have hin2 : i ≤ 20 := by omega
          clear hv hb hin hi1
          go_wp2_with fail
          clear hge'
          go_loopw [5, 6] (fun v x wq => ∃ j : Nat, n - r ≤ j ∧ j ≤ n - r + k + 1 ∧ v = .int .i64 (j : Nat) ∧ x = .int .u64 (rem k d n r j : Nat) ∧ (∀ a, n - r ≤ a → a < j → rem k d n r a ≠ 0) ∧ DV wq b (quo k d n r j) n (p - ((r : Int) - 1)) ∧ Below b w wq) (fun v _ _ => n - r + k + 2 - (intOf v).toNat)
          case atStart => exact ⟨i, by have := HI.out; omega, by have := HI.out; omega, rfl, rfl, fun a h1 h2 => by have := HI.out; omega, V.out, B.out⟩
          case round =>
            clear V B a0
            have hIr : i ≤ n - r := by have := HI.out; omega
            clear HI
            obtain ⟨j, hj1, hj2, rfl, rfl, hall, hv, hb⟩ := hrel
            have hj8 : j < 800 := by omega
            have hj8' : (j : Int) < 800 := by omega
            have V := Lib.hid hv; have B := Lib.hid hb; have AL := Lib.hid hall
            have hrl := rem_lt D.out PL.out j
            by_cases hz : rem k d n r j = 0
            · have HZ := Lib.hid hz
              have hg : ¬ (0 : Int) < ((rem k d n r j : Nat) : Int) := by omega
              have a0 := hv.cn; have a1 := hv.fr 800
              have V2 := Lib.hid (dv_n hv j)
              have B2 := Lib.hid (b_set' hb (p := ⟨b, 800, none⟩) (Nat.le_refl _) (.int .i64 (j : Nat)))
              have SH : Hid (Sh k d n r j) := Lib.hid ⟨S.out.1, S.out.2, hj1, hz, AL.out⟩
              have TR := Lib.hid (trim_w b (quo k d n r j) j (p - ((r : Int) - 1)) _ (by omega) V2)
              clear hv hb hall hz hrl
              generalize rem k d n r j = x at *
              go_wp2_with fail
              (with_reducible refine TR.out.mono ?_); rintro e w9 ⟨rfl, hv9, hb9⟩
              go_wp2_with fail
              exact ⟨rfl, .tuple #[], results_none rfl _ _ _, rfl, ⟨r, j, SH.out, hr20, by omega, hv9⟩, B2.out.trans hb9⟩
            · have hg : (0 : Int) < ((rem k d n r j : Nat) : Int) := by omega
              have hmost := rem_most (i1 := n - r) (by omega) hz
              have a1 := hv.fr j; have a2 := hv.cd j hj8
              have hand : bits .and .u64 ((rem k d n r j : Nat) : Int) ((mk : Nat) : Int) = ((rem k d n r j % 2 ^ k : Nat) : Int) := by rw [HMK.out]; exact and_mask (by omega) hk
              have hdiv := div_cast (rem k d n r j) k
              have hml := Nat.mod_lt (rem k d n r j) hpos
              have hq9 := quo_dig D.out PL.out j
              have NX : Hid (rem k d n r (j + 1) = rem k d n r j % 2 ^ k * 10) := Lib.hid (by show _ + dg d n (r + j) = _; rw [dg_out (by omega)]; rfl)
              have QN := Lib.hid (dv_d hv hj8 (48 + rem k d n r j / 2 ^ k))
              rw [quo_next] at QN
              have BN := Lib.hid (b_set' hb (p := ⟨b, j, none⟩) (Nat.le_refl _) (.int .u8 ((48 + rem k d n r j / 2 ^ k : Nat) : Int)))
              have AL2 : Hid (∀ a, n - r ≤ a → a < j + 1 → rem k d n r a ≠ 0) := Lib.hid fun a h1 h2 => by
                rcases Nat.lt_or_ge a j with g | g
                · exact AL.out a h1 g
                · rw [show a = j by omega]; exact hz
              clear hv hb hall hz
              generalize rem k d n r j % 2 ^ k = xm at *
              generalize rem k d n r j / 2 ^ k = xq at *
              generalize rem k d n r j = x at *
              rw [show ((48 + xq : Nat) : Int) = (xq : Int) + 48 by omega] at QN BN
              go_wp2_with fail
              go_roundw
              case rel => exact ⟨j + 1, by omega, by omega, by go_num, by rw [NX.out]; congr 1, AL2.out, QN.out, BN.out⟩
              case measure => simp [intOf]; omega
end Dec
end Go.Proofs.YtoafljgcmloilaaDoor
