/- bits.ToFixed: what it returns. -/
import Derived.Test.YtoafljgcmloilaaDoorDecR
import Derived.Shelf.Strconv.Itoa0
import Derived.Lib.ItoaNum
import Derived.Shelf.Lay
import Derived.Test.YtoafljgcmloilaaDoorProg
namespace Go.Proofs.YtoafljgcmloilaaDoor
open Go.RowKit Go.Shelf
shelf_lay Lays.n129 Nm 129 at Tryd as lenLays
namespace Tof
open Kit Dec
/-- The exponent's field, the fraction's. -/
def ef (b : Nat) : Nat := b / 4503599627370496 % 2048
def ff (b : Nat) : Nat := b % 4503599627370496
/-- The number without its sign, in units of 2^(ex b - 1075). -/
def mt (b : Nat) : Nat := if ef b = 0 then ff b else 4503599627370496 + ff b
def ex (b : Nat) : Int := if ef b = 0 then 1 else (ef b : Nat)
/-- What is left of the number, and whether nothing is lost. -/
def qo (m : Nat) (s : Int) : Nat := if 0 ≤ s then m * 2 ^ s.toNat else m / 2 ^ (min (-s) 63).toNat
def xa (m : Nat) (s : Int) : Bool := if 0 ≤ s then true else decide (m % 2 ^ (min (-s) 63).toNat = 0)
/-- The number with its sign, rounded down. -/
def sg (minus : Bool) (q : Nat) (x : Bool) : Int := if minus then -((if x then q else q + 1 : Nat) : Int) else (q : Int)
def fits (minus : Bool) (q : Nat) (x : Bool) : Bool := if minus then decide ((if x then q else q + 1) ≤ 9223372036854775808) else decide (q ≤ 9223372036854775807)
def neg (b : Nat) : Bool := decide (b / 9223372036854775808 = 1)
/-- The answer, where the number is one. -/
def fin (m : Nat) (s : Int) (ng : Bool) : Int × Bool × Int :=
  if m = 0 then (0, true, 0)
  else if 0 ≤ s ∧ 64 < (Lib.bitLen m : Int) + s then (0, false, 2)
  else if fits ng (qo m s) (xa m s) = false then (0, false, 2)
  else (sg ng (qo m s) (xa m s), xa m s, 0)
/-- bits.ToFixed's answer. -/
def tof (b : Nat) (sc : Int) : Int × Bool × Int :=
  if sc < 0 ∨ 60 < sc then (0, false, 4)
  else if ef b = 2047 then (0, false, 3)
  else fin (mt b) (ex b - 1075 + sc) (neg b)
theorem and11u {x : Nat} (hx : x < 18446744073709551616) : bits .and .u64 ((x : Nat) : Int) 2047 = ((x % 2048 : Nat) : Int) := by
  have q := bits_and_u64_nat x 2047 hx (by decide)
  have e : (2047 : Nat) = 2 ^ 11 - 1 := by decide
  rw [e, Nat.and_two_pow_sub_one_eq_mod, ← e] at q
  exact q
theorem and52u {x : Nat} (hx : x < 18446744073709551616) : bits .and .u64 ((x : Nat) : Int) 4503599627370495 = ((x % 4503599627370496 : Nat) : Int) := by
  have q := bits_and_u64_nat x 4503599627370495 hx (by decide)
  have e : (4503599627370495 : Nat) = 2 ^ 52 - 1 := by decide
  rw [e, Nat.and_two_pow_sub_one_eq_mod, ← e] at q
  exact q
theorem or52u {M : Nat} (h : M < 4503599627370496) : bits .or .u64 ((M : Nat) : Int) 4503599627370496 = ((4503599627370496 + M : Nat) : Int) := by
  have q := bits_or_u64_nat M 4503599627370496 (by omega) (by decide)
  have e : (4503599627370496 : Nat) = 2 ^ 52 := by decide
  have o : M ||| 4503599627370496 = 4503599627370496 + M := by
    rw [Nat.or_comm]
    have := Nat.two_pow_add_eq_or_of_lt (i := 52) (b := M) (by rw [← e]; exact h) 1
    rw [Nat.mul_one, ← e] at this
    exact this.symm
  rw [o] at q
  exact q
theorem expo_w (b : Nat) (hb : b < 18446744073709551616) (w : World) : Calls Tryd.prog 12 #[.int .u64 (b : Nat)] w fun r w' => r = .returned (.int .i64 (ef b : Nat)) ∧ w = w' := by
  have h1 : (b : Int) / 4503599627370496 = ((b / 4503599627370496 : Nat) : Int) := by omega
  have h2 := and11u (x := b / 4503599627370496) (by omega)
  rw [← h1] at h2
  have h3 : ef b < 2048 := by unfold ef; omega
  rw [show b / 4503599627370496 % 2048 = ef b from rfl] at h2
  clear h1
  go_enter Tryd.func12, Tryd.ntmps12
  go_wp2_with fail
  go_ret
  exact ⟨by first | rfl | exact ret1 (by omega), rfl⟩
theorem frac_w (b : Nat) (hb : b < 18446744073709551616) (w : World) : Calls Tryd.prog 13 #[.int .u64 (b : Nat)] w fun r w' => r = .returned (.int .u64 (ff b : Nat)) ∧ w = w' := by
  have h2 := and52u (x := b) hb
  rw [show b % 4503599627370496 = ff b from rfl] at h2
  go_enter Tryd.func13, Tryd.ntmps13
  go_wp2_with fail
  go_ret
  exact ⟨rfl, rfl⟩
theorem len_w (x : Nat) (hx : x < 18446744073709551616) (w : World) : Calls Tryd.prog 14 #[.int .u64 (x : Nat)] w fun r w' => r = .returned (.int .i64 (Lib.bitLen x : Nat)) ∧ w = w' := by
  have q := Any.bits_Len64 lenLays (x : Nat) w (by omega) (by omega)
  change Calls Tryd.prog 14 _ _ _ at q
  refine q.mono ?_
  rintro e w' ⟨rfl, rfl⟩
  exact ⟨rfl, rfl⟩
theorem p64 {k : Nat} (hk : k ≤ 63) : 2 ^ k ≤ 9223372036854775808 := Nat.le_trans (Nat.pow_le_pow_right (by decide) hk) (by decide)
theorem and_mask63 {x k : Nat} (hx : x < 18446744073709551616) (hk : k ≤ 63) : bits .and .u64 ((x : Nat) : Int) ((2 ^ k - 1 : Nat) : Int) = ((x % 2 ^ k : Nat) : Int) := by
  have := p64 hk
  rw [bits_and_u64_nat _ _ hx (by omega), Nat.and_two_pow_sub_one_eq_mod]
theorem cv_neg {z : Nat} (h : z ≤ 9223372036854775808) : IntKind.i64.wrap (IntKind.u64.wrap (-((z : Nat) : Int))) = -((z : Nat) : Int) := by rw [IntKind.wrap_u64, IntKind.wrap_i64]; omega
theorem sg_tf {q : Nat} : sg true q false = -((q + 1 : Nat) : Int) := by simp only [sg, Bool.false_eq_true, if_true, if_false]
theorem fits_n {q : Nat} {x : Bool} : fits false q x = decide (q ≤ 9223372036854775807) := by simp only [fits, Bool.false_eq_true, if_false]
theorem fits_tt {q : Nat} : fits true q true = decide (q ≤ 9223372036854775808) := by simp only [fits, if_true]
theorem fits_tf {q : Nat} : fits true q false = decide (q + 1 ≤ 9223372036854775808) := by simp only [fits, Bool.false_eq_true, if_true, if_false]
theorem fin_shl {m K : Nat} {ng : Bool} (h0 : 0 < m) (hL : ¬ 64 < (Lib.bitLen m : Int) + (K : Int)) : fin m (K : Int) ng = if fits ng (m * 2 ^ K) true = false then (0, false, 2) else (sg ng (m * 2 ^ K) true, true, 0) := by
  have e1 : qo m (K : Int) = m * 2 ^ K := by unfold qo; rw [if_pos (by omega), show ((K : Int)).toNat = K by omega]
  have e2 : xa m (K : Int) = true := by unfold xa; rw [if_pos (by omega)]
  unfold fin
  rw [if_neg (by omega), if_neg (fun h => hL h.2), e1, e2]
theorem fin_shr {m K : Nat} {S : Int} {ng : Bool} (h0 : 0 < m) (hS : S < 0) (hK : (min (-S) 63).toNat = K) : fin m S ng = if fits ng (m / 2 ^ K) (decide (m % 2 ^ K = 0)) = false then (0, false, 2) else (sg ng (m / 2 ^ K) (decide (m % 2 ^ K = 0)), decide (m % 2 ^ K = 0), 0) := by
  have e1 : qo m S = m / 2 ^ K := by unfold qo; rw [if_neg (by omega), hK]
  have e2 : xa m S = decide (m % 2 ^ K = 0) := by unfold xa; rw [if_neg (by omega), hK]
  unfold fin
  rw [if_neg (by omega), if_neg (fun h => by omega), e1, e2]
theorem bl_most : ∀ f x : Nat, Lib.bitLenAux f x ≤ f
  | 0, _ => Nat.le_refl 0
  | f + 1, x => by
    have := bl_most f (x / 2)
    unfold Lib.bitLenAux
    split <;> omega
theorem bl_bd (m : Nat) (hm : m < 18446744073709551616) (h0 : 0 < m) : 1 ≤ Lib.bitLen m ∧ m < 2 ^ Lib.bitLen m ∧ Lib.bitLen m ≤ 64 :=
  ⟨(Lib.bitLenAux_bounds 64 m (by simpa using hm) (by omega)).1, (Lib.bitLenAux_bounds 64 m (by simpa using hm) (by omega)).2.2, bl_most 64 m⟩
theorem shl_bd {m l K : Nat} (h : m < 2 ^ l) (hl : l + K ≤ 64) : m * 2 ^ K < 18446744073709551616 := by
  have h1 : m * 2 ^ K < 2 ^ l * 2 ^ K := Nat.mul_lt_mul_of_pos_right h (Nat.two_pow_pos K)
  rw [← Nat.pow_add] at h1
  have h2 : 2 ^ (l + K) ≤ 2 ^ 64 := Nat.pow_le_pow_right (by decide) hl
  have h3 : (2 : Nat) ^ 64 = 18446744073709551616 := by decide
  omega
set_option maxRecDepth 100000 in
set_option maxHeartbeats 8000000 in
theorem tof_w (b : Nat) (sc : Int) (w : World) (hb : b < 18446744073709551616) (hs1 : -9223372036854775808 ≤ sc) (hs2 : sc ≤ 9223372036854775807) :
    Calls Tryd.prog 8 #[.int .u64 (b : Nat), .int .i64 sc] w fun e w' => e = .returned (.tuple #[.int .i64 (tof b sc).1, .bool (tof b sc).2.1, .int .i64 (tof b sc).2.2]) ∧ w = w' := by
  by_cases h0 : sc < 0 ∨ 60 < sc
  · have e : tof b sc = (0, false, 4) := by unfold tof; rw [if_pos h0]
    rw [e]
    clear e
    rcases h0 with h0 | h0
    · go_enter Tryd.func8, Tryd.ntmps8
      go_wp2_with fail
      refine bodyPost_ret (v := .tuple #[.int .i64 0, .bool false, .int .i64 4]) (by simp [results, Tryd.results8, go_sem]) rfl ?_
      exact ⟨rfl, rfl⟩
    · have h1 : ¬ sc < 0 := by omega
      go_enter Tryd.func8, Tryd.ntmps8
      go_wp2_with fail
      refine bodyPost_ret (v := .tuple #[.int .i64 0, .bool false, .int .i64 4]) (by simp [results, Tryd.results8, go_sem]) rfl ?_
      exact ⟨rfl, rfl⟩
  have h1 : ¬ sc < 0 := by omega
  have h2 : ¬ 60 < sc := by omega
  have EXP := Lib.hid (expo_w b hb w); have FRC := Lib.hid (frac_w b hb w)
  by_cases h3 : ef b = 2047
  · have e : tof b sc = (0, false, 3) := by unfold tof; rw [if_neg h0, if_pos h3]
    rw [e]
    clear e h0
    have h4 : ((ef b : Int) == 2047) = true := by simp; omega
    go_enter Tryd.func8, Tryd.ntmps8
    go_wp2_with fail
    (with_reducible refine EXP.out.mono ?_); rintro e w1 ⟨rfl, rfl⟩
    go_wp2_with fail
    refine bodyPost_ret (v := .tuple #[.int .i64 0, .bool false, .int .i64 3]) (by simp [results, Tryd.results8, go_sem]) rfl ?_
    exact ⟨rfl, rfl⟩
  have h4 : ((ef b : Int) == 2047) = false := by simp; omega
  obtain ⟨ng, hng⟩ : ∃ ng, ng = neg b := ⟨_, rfl⟩
  have hneg : ((b : Int) / 9223372036854775808 == 1) = ng := by
    rw [hng]; unfold neg
    rw [show (b : Int) / 9223372036854775808 = ((b / 9223372036854775808 : Nat) : Int) by omega, Bool.eq_iff_iff]
    simp only [beq_iff_eq, decide_eq_true_eq]; omega
  have hffb : ff b < 4503599627370496 := by unfold ff; omega
  have hefb : ef b < 2048 := by unfold ef; omega
  have TT : tof b sc = fin (mt b) (ex b - 1075 + sc) ng := by unfold tof; rw [if_neg h0, if_neg h3, hng]
  rw [TT]
  clear TT hng h0
  by_cases hz : ef b = 0
  · have hz1 : ((ef b : Int) == 0) = true := by simp; omega
    rw [show mt b = ff b from if_pos hz, show ex b = 1 from if_pos hz]
    clear h3 hz
    obtain ⟨S, hS⟩ : ∃ S, S = 1 - 1075 + sc := ⟨_, rfl⟩
    rw [← hS]
    have hS1 : -1074 + sc = S := by omega
    have hS9 : S ≤ 60 ∧ -1074 ≤ S := by omega
    generalize ff b = m at *
    generalize ef b = E at *
    clear hS
    go_enter Tryd.func8, Tryd.ntmps8
    go_wp2_with fail
    (with_reducible refine EXP.out.mono ?_); rintro e w1 ⟨rfl, rfl⟩
    go_wp2_with fail
    (with_reducible refine FRC.out.mono ?_); rintro e w1 ⟨rfl, rfl⟩
    go_wp2_with fail
    (with_reducible refine EXP.out.mono ?_); rintro e w1 ⟨rfl, rfl⟩
    clear EXP FRC
    have hmb : m < 9007199254740992 := by omega
    rcases Nat.eq_zero_or_pos m with hm0 | hm0
    · subst hm0
      go_wp2_with fail
      refine bodyPost_ret (v := .tuple #[.int .i64 0, .bool true, .int .i64 0]) (by simp [results, Tryd.results8, go_sem]) rfl ?_
      exact ⟨by rw [show fin 0 S ng = (0, true, 0) from if_pos rfl], rfl⟩
    have hmz : ((m : Int) == 0) = false := by simp; omega
    by_cases hS : 0 ≤ S
    · exfalso; omega
    · have h0S : S < 0 := by omega
      obtain ⟨K, hK⟩ : ∃ K : Nat, (min (-S) 63).toNat = K := ⟨_, rfl⟩
      have hK63 : K ≤ 63 := by omega
      have hk64 : min (-S) 63 < 64 := by omega
      have hk0 : 0 ≤ min (-S) 63 := by omega
      have hp := p64 hK63
      have hpos := Nat.two_pow_pos K
      have FQ : Hid (∀ x, decide (m % 2 ^ K = 0) = x → (fits ng (m / 2 ^ K) x = true → fin m S ng = (sg ng (m / 2 ^ K) x, x, 0)) ∧ (fits ng (m / 2 ^ K) x = false → fin m S ng = (0, false, 2))) := Lib.hid fun x hx => by
        have FE := fin_shr (ng := ng) hm0 h0S hK
        rw [hx] at FE
        exact ⟨fun hf => by rw [FE, hf]; rfl, fun hf => by rw [FE, hf]; rfl⟩
      obtain ⟨mk, hmk⟩ : ∃ mk : Nat, mk = 2 ^ K - 1 := ⟨_, rfl⟩
      have h2k : ((2 : Int) ^ K) = ((2 ^ K : Nat) : Int) := by norm_cast
      have hm1 : IntKind.u64.wrap ((2 : Int) ^ K) = (2 : Int) ^ K := by rw [h2k]; exact IntWalk.u64_in _ (by omega)
      have hm2 : IntKind.u64.wrap ((2 : Int) ^ K - 1) = ((mk : Nat) : Int) := by rw [h2k, IntWalk.u64_in _ (by omega)]; omega
      obtain ⟨r, hr⟩ : ∃ r, r = m % 2 ^ K := ⟨_, rfl⟩
      obtain ⟨q, hq⟩ : ∃ q, q = m / 2 ^ K := ⟨_, rfl⟩
      have hqm : q ≤ m := by rw [hq]; exact Nat.div_le_self _ _
      have hand : bits .and .u64 ((m : Nat) : Int) ((mk : Nat) : Int) = ((r : Nat) : Int) := by rw [hmk, hr]; exact and_mask63 (by omega) hK63
      have hdiv : ((m : Nat) : Int) / 2 ^ K = ((q : Nat) : Int) := by rw [hq]; exact div_cast m K
      rw [← hr, ← hq] at FQ
      clear hmk h2k hr hq hp hpos
      by_cases hr0 : r = 0
      · have hx : ((r : Int) == 0) = true := by simp; omega
        have FIN := Lib.hid (FQ.out true (decide_eq_true hr0)).1
        have BAD := Lib.hid (FQ.out true (decide_eq_true hr0)).2
        clear FQ hr0
        cases ng with
        | false =>
          by_cases hf : q ≤ 9223372036854775807
          · have hf1 : ¬ (9223372036854775807 : Int) < ((q : Nat) : Int) := by omega
            have hcv : IntKind.i64.wrap (q : Int) = (q : Int) := IntWalk.i64_in _ (by omega)
            have EF := Lib.hid (FIN.out (by rw [fits_n]; exact decide_eq_true hf))
            clear FIN BAD
            go_wp2_with fail
            refine bodyPost_ret (v := .tuple #[.int .i64 (q : Int), .bool true, .int .i64 0]) (by simp [results, Tryd.results8, go_sem]) rfl ?_
            exact ⟨by rw [EF.out] <;> rfl, rfl⟩
          · exfalso; omega
        | true =>
          by_cases hf : q ≤ 9223372036854775808
          · have hf1 : ¬ (9223372036854775808 : Int) < ((q : Nat) : Int) := by omega
            have hcv : IntKind.i64.wrap (IntKind.u64.wrap (-((q : Nat) : Int))) = -((q : Nat) : Int) := cv_neg (by omega)
            have EF := Lib.hid (FIN.out (by rw [fits_tt]; exact decide_eq_true hf))
            clear FIN BAD
            go_wp2_with fail
            refine bodyPost_ret (v := .tuple #[.int .i64 (-((q : Nat) : Int)), .bool true, .int .i64 0]) (by simp [results, Tryd.results8, go_sem]) rfl ?_
            exact ⟨by rw [EF.out] <;> rfl, rfl⟩
          · exfalso; omega
      · have hx : ((r : Int) == 0) = false := by simp; omega
        have FIN := Lib.hid (FQ.out false (decide_eq_false hr0)).1
        have BAD := Lib.hid (FQ.out false (decide_eq_false hr0)).2
        clear FQ hr0
        cases ng with
        | false =>
          by_cases hf : q ≤ 9223372036854775807
          · have hf1 : ¬ (9223372036854775807 : Int) < ((q : Nat) : Int) := by omega
            have hcv : IntKind.i64.wrap (q : Int) = (q : Int) := IntWalk.i64_in _ (by omega)
            have EF := Lib.hid (FIN.out (by rw [fits_n]; exact decide_eq_true hf))
            clear FIN BAD
            go_wp2_with fail
            refine bodyPost_ret (v := .tuple #[.int .i64 (q : Int), .bool false, .int .i64 0]) (by simp [results, Tryd.results8, go_sem]) rfl ?_
            exact ⟨by rw [EF.out] <;> rfl, rfl⟩
          · exfalso; omega
        | true =>
          obtain ⟨z, hz⟩ : ∃ z : Nat, z = q + 1 := ⟨_, rfl⟩
          have hzi : (q : Int) + 1 = (z : Int) := by omega
          have hcv : IntKind.i64.wrap (IntKind.u64.wrap (-((z : Nat) : Int))) = -((z : Nat) : Int) := cv_neg (by omega)
          have hf1 : ¬ (9223372036854775808 : Int) < ((z : Nat) : Int) := by omega
          have EF : Hid (fin m S true = (-((z : Nat) : Int), false, 0)) := Lib.hid (by rw [FIN.out (by rw [fits_tf]; exact decide_eq_true (by omega)), sg_tf, hz])
          clear FIN BAD hz
          go_wp2_with fail
          refine bodyPost_ret (v := .tuple #[.int .i64 (-((z : Nat) : Int)), .bool false, .int .i64 0]) (by simp [results, Tryd.results8, go_sem]) rfl ?_
          exact ⟨by rw [EF.out], rfl⟩
  · have hz1 : ((ef b : Int) == 0) = false := by simp; omega
    rw [show mt b = 4503599627370496 + ff b from if_neg hz, show ex b = (ef b : Nat) from if_neg hz]
    have hor := or52u hffb
    obtain ⟨S, hS⟩ : ∃ S, S = ((ef b : Nat) : Int) - 1075 + sc := ⟨_, rfl⟩
    rw [← hS]
    have hS1 : ((ef b : Nat) : Int) - 1075 + sc = S := by omega
    have hS9 : S ≤ 1032 ∧ -1074 ≤ S := by omega
    clear h3 hz
    have hmb : 4503599627370496 + ff b < 9007199254740992 := by omega
    generalize 4503599627370496 + ff b = m at *
    generalize ff b = F at *
    generalize ef b = E at *
    clear hS
    go_enter Tryd.func8, Tryd.ntmps8
    go_wp2_with fail
    (with_reducible refine EXP.out.mono ?_); rintro e w1 ⟨rfl, rfl⟩
    go_wp2_with fail
    (with_reducible refine FRC.out.mono ?_); rintro e w1 ⟨rfl, rfl⟩
    go_wp2_with fail
    (with_reducible refine EXP.out.mono ?_); rintro e w1 ⟨rfl, rfl⟩
    clear EXP FRC
    rcases Nat.eq_zero_or_pos m with hm0 | hm0
    · subst hm0
      go_wp2_with fail
      refine bodyPost_ret (v := .tuple #[.int .i64 0, .bool true, .int .i64 0]) (by simp [results, Tryd.results8, go_sem]) rfl ?_
      exact ⟨by rw [show fin 0 S ng = (0, true, 0) from if_pos rfl], rfl⟩
    have hmz : ((m : Int) == 0) = false := by simp; omega
    by_cases hS : 0 ≤ S
    · have LEN := Lib.hid (len_w m (by omega) w)
      have hbl := bl_bd m (by omega) hm0
      by_cases hL : 64 < (Lib.bitLen m : Int) + S
      · have e : fin m S ng = (0, false, 2) := by unfold fin; rw [if_neg (by omega), if_pos ⟨hS, hL⟩]
        go_wp2_with fail
        (with_reducible refine LEN.out.mono ?_); rintro e w1 ⟨rfl, rfl⟩
        go_wp2_with fail
        refine bodyPost_ret (v := .tuple #[.int .i64 0, .bool false, .int .i64 2]) (by simp [results, Tryd.results8, go_sem]) rfl ?_
        exact ⟨by rw [e], rfl⟩
      · obtain ⟨K, hK⟩ : ∃ K : Nat, S = (K : Int) := ⟨S.toNat, by omega⟩
        subst hK
        have hq : m * 2 ^ K < 18446744073709551616 := shl_bd hbl.2.1 (by omega)
        have FE := fin_shl (ng := ng) hm0 (K := K) (by omega)
        have FIN : Hid (fits ng (m * 2 ^ K) true = true → fin m (K : Int) ng = (sg ng (m * 2 ^ K) true, true, 0)) := Lib.hid fun hf => by rw [FE, hf]; rfl
        have BAD : Hid (fits ng (m * 2 ^ K) true = false → fin m (K : Int) ng = (0, false, 2)) := Lib.hid fun hf => by rw [FE, hf]; rfl
        clear FE
        have hsh : IntKind.u64.wrap ((m : Int) * 2 ^ K) = ((m * 2 ^ K : Nat) : Int) := by rw [show (m : Int) * 2 ^ K = ((m * 2 ^ K : Nat) : Int) by norm_cast]; exact IntWalk.u64_in _ (by omega)
        have hmin : min K 64 = K := by omega
        generalize m * 2 ^ K = q at *
        go_wp2_with fail
        (with_reducible refine LEN.out.mono ?_); rintro e w1 ⟨rfl, rfl⟩
        clear LEN
        cases ng with
        | false =>
          by_cases hf : q ≤ 9223372036854775807
          · have hf1 : ¬ (9223372036854775807 : Int) < ((q : Nat) : Int) := by omega
            have hcv : IntKind.i64.wrap (q : Int) = (q : Int) := IntWalk.i64_in _ (by omega)
            have EF := Lib.hid (FIN.out (by rw [fits_n]; exact decide_eq_true hf))
            clear FIN BAD
            go_wp2_with fail
            refine bodyPost_ret (v := .tuple #[.int .i64 (q : Int), .bool true, .int .i64 0]) (by simp [results, Tryd.results8, go_sem]) rfl ?_
            exact ⟨by rw [EF.out] <;> rfl, rfl⟩
          · have hf1 : (9223372036854775807 : Int) < ((q : Nat) : Int) := by omega
            go_wp2_with fail
            refine bodyPost_ret (v := .tuple #[.int .i64 0, .bool false, .int .i64 2]) (by simp [results, Tryd.results8, go_sem]) rfl ?_
            exact ⟨by rw [BAD.out (by rw [fits_n]; exact decide_eq_false hf)], rfl⟩
        | true =>
          by_cases hf : q ≤ 9223372036854775808
          · have hf1 : ¬ (9223372036854775808 : Int) < ((q : Nat) : Int) := by omega
            have hcv : IntKind.i64.wrap (IntKind.u64.wrap (-((q : Nat) : Int))) = -((q : Nat) : Int) := cv_neg (by omega)
            have EF := Lib.hid (FIN.out (by rw [fits_tt]; exact decide_eq_true hf))
            clear FIN BAD
            go_wp2_with fail
            refine bodyPost_ret (v := .tuple #[.int .i64 (-((q : Nat) : Int)), .bool true, .int .i64 0]) (by simp [results, Tryd.results8, go_sem]) rfl ?_
            exact ⟨by rw [EF.out] <;> rfl, rfl⟩
          · have hf1 : (9223372036854775808 : Int) < ((q : Nat) : Int) := by omega
            go_wp2_with fail
            refine bodyPost_ret (v := .tuple #[.int .i64 0, .bool false, .int .i64 2]) (by simp [results, Tryd.results8, go_sem]) rfl ?_
            exact ⟨by rw [BAD.out (by rw [fits_tt]; exact decide_eq_false hf)], rfl⟩
    · have h0S : S < 0 := by omega
      obtain ⟨K, hK⟩ : ∃ K : Nat, (min (-S) 63).toNat = K := ⟨_, rfl⟩
      have hK63 : K ≤ 63 := by omega
      have hk64 : min (-S) 63 < 64 := by omega
      have hk0 : 0 ≤ min (-S) 63 := by omega
      have hp := p64 hK63
      have hpos := Nat.two_pow_pos K
      have FQ : Hid (∀ x, decide (m % 2 ^ K = 0) = x → (fits ng (m / 2 ^ K) x = true → fin m S ng = (sg ng (m / 2 ^ K) x, x, 0)) ∧ (fits ng (m / 2 ^ K) x = false → fin m S ng = (0, false, 2))) := Lib.hid fun x hx => by
        have FE := fin_shr (ng := ng) hm0 h0S hK
        rw [hx] at FE
        exact ⟨fun hf => by rw [FE, hf]; rfl, fun hf => by rw [FE, hf]; rfl⟩
      obtain ⟨mk, hmk⟩ : ∃ mk : Nat, mk = 2 ^ K - 1 := ⟨_, rfl⟩
      have h2k : ((2 : Int) ^ K) = ((2 ^ K : Nat) : Int) := by norm_cast
      have hm1 : IntKind.u64.wrap ((2 : Int) ^ K) = (2 : Int) ^ K := by rw [h2k]; exact IntWalk.u64_in _ (by omega)
      have hm2 : IntKind.u64.wrap ((2 : Int) ^ K - 1) = ((mk : Nat) : Int) := by rw [h2k, IntWalk.u64_in _ (by omega)]; omega
      obtain ⟨r, hr⟩ : ∃ r, r = m % 2 ^ K := ⟨_, rfl⟩
      obtain ⟨q, hq⟩ : ∃ q, q = m / 2 ^ K := ⟨_, rfl⟩
      have hqm : q ≤ m := by rw [hq]; exact Nat.div_le_self _ _
      have hand : bits .and .u64 ((m : Nat) : Int) ((mk : Nat) : Int) = ((r : Nat) : Int) := by rw [hmk, hr]; exact and_mask63 (by omega) hK63
      have hdiv : ((m : Nat) : Int) / 2 ^ K = ((q : Nat) : Int) := by rw [hq]; exact div_cast m K
      rw [← hr, ← hq] at FQ
      clear hmk h2k hr hq hp hpos
      by_cases hr0 : r = 0
      · have hx : ((r : Int) == 0) = true := by simp; omega
        have FIN := Lib.hid (FQ.out true (decide_eq_true hr0)).1
        have BAD := Lib.hid (FQ.out true (decide_eq_true hr0)).2
        clear FQ hr0
        cases ng with
        | false =>
          by_cases hf : q ≤ 9223372036854775807
          · have hf1 : ¬ (9223372036854775807 : Int) < ((q : Nat) : Int) := by omega
            have hcv : IntKind.i64.wrap (q : Int) = (q : Int) := IntWalk.i64_in _ (by omega)
            have EF := Lib.hid (FIN.out (by rw [fits_n]; exact decide_eq_true hf))
            clear FIN BAD
            go_wp2_with fail
            refine bodyPost_ret (v := .tuple #[.int .i64 (q : Int), .bool true, .int .i64 0]) (by simp [results, Tryd.results8, go_sem]) rfl ?_
            exact ⟨by rw [EF.out] <;> rfl, rfl⟩
          · exfalso; omega
        | true =>
          by_cases hf : q ≤ 9223372036854775808
          · have hf1 : ¬ (9223372036854775808 : Int) < ((q : Nat) : Int) := by omega
            have hcv : IntKind.i64.wrap (IntKind.u64.wrap (-((q : Nat) : Int))) = -((q : Nat) : Int) := cv_neg (by omega)
            have EF := Lib.hid (FIN.out (by rw [fits_tt]; exact decide_eq_true hf))
            clear FIN BAD
            go_wp2_with fail
            refine bodyPost_ret (v := .tuple #[.int .i64 (-((q : Nat) : Int)), .bool true, .int .i64 0]) (by simp [results, Tryd.results8, go_sem]) rfl ?_
            exact ⟨by rw [EF.out] <;> rfl, rfl⟩
          · exfalso; omega
      · have hx : ((r : Int) == 0) = false := by simp; omega
        have FIN := Lib.hid (FQ.out false (decide_eq_false hr0)).1
        have BAD := Lib.hid (FQ.out false (decide_eq_false hr0)).2
        clear FQ hr0
        cases ng with
        | false =>
          by_cases hf : q ≤ 9223372036854775807
          · have hf1 : ¬ (9223372036854775807 : Int) < ((q : Nat) : Int) := by omega
            have hcv : IntKind.i64.wrap (q : Int) = (q : Int) := IntWalk.i64_in _ (by omega)
            have EF := Lib.hid (FIN.out (by rw [fits_n]; exact decide_eq_true hf))
            clear FIN BAD
            go_wp2_with fail
            refine bodyPost_ret (v := .tuple #[.int .i64 (q : Int), .bool false, .int .i64 0]) (by simp [results, Tryd.results8, go_sem]) rfl ?_
            exact ⟨by rw [EF.out] <;> rfl, rfl⟩
          · exfalso; omega
        | true =>
          obtain ⟨z, hz⟩ : ∃ z : Nat, z = q + 1 := ⟨_, rfl⟩
          have hzi : (q : Int) + 1 = (z : Int) := by omega
          have hcv : IntKind.i64.wrap (IntKind.u64.wrap (-((z : Nat) : Int))) = -((z : Nat) : Int) := cv_neg (by omega)
          have hf1 : ¬ (9223372036854775808 : Int) < ((z : Nat) : Int) := by omega
          have EF : Hid (fin m S true = (-((z : Nat) : Int), false, 0)) := Lib.hid (by rw [FIN.out (by rw [fits_tf]; exact decide_eq_true (by omega)), sg_tf, hz])
          clear FIN BAD hz
          go_wp2_with fail
          refine bodyPost_ret (v := .tuple #[.int .i64 (-((z : Nat) : Int)), .bool false, .int .i64 0]) (by simp [results, Tryd.results8, go_sem]) rfl ?_
          exact ⟨by rw [EF.out], rfl⟩
end Tof
end Go.Proofs.YtoafljgcmloilaaDoor
