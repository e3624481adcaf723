/- P161..: the scale by one more power of two: the floor of twice the number. For every 64 bits, for every scale. -/
import Derived.Test.YtoafljgcmloilaaDoorDoorB
import Derived.Test.YtoafljgcmloilaaDoorCards
namespace Go.Proofs.YtoafljgcmloilaaDoor
open Go.RowKit Go.ChangeShapes Go.WideShapes
namespace BitsFloors
open Kit Dec Tof
/-- The floor, and whether it is exact, of a number and of its double: what is known of the two. -/
def Twice (n m : Int) (e1 e2 : Bool) : Prop := (e1 = true ∧ e2 = true ∧ m = 2 * n) ∨ (e1 = false ∧ e2 = true ∧ m = 2 * n + 1) ∨ (e1 = false ∧ e2 = false ∧ m = 2 * n) ∨ (e1 = false ∧ e2 = false ∧ m = 2 * n + 1)
theorem core (ng x2 : Bool) (q2 : Nat) : Twice (sg ng (q2 / 2) (x2 && decide (q2 % 2 = 0))) (sg ng q2 x2) (x2 && decide (q2 % 2 = 0)) x2 := by
  rcases Nat.mod_two_eq_zero_or_one q2 with h | h
  · cases ng <;> cases x2 <;> simp only [Twice, sg, h, Bool.true_and, Bool.false_and, decide_true, if_true, Bool.false_eq_true, if_false, false_and, true_and, false_or, or_false, reduceCtorEq] <;> omega
  · cases ng <;> cases x2 <;> simp only [Twice, sg, h, Bool.true_and, Bool.false_and, decide_true, if_true, Bool.false_eq_true, if_false, false_and, true_and, false_or, or_false, reduceCtorEq, Nat.one_ne_zero, decide_false] <;> omega
theorem mod_two {m k : Nat} : m % 2 ^ (k + 1) = 0 ↔ m % 2 ^ k = 0 ∧ m / 2 ^ k % 2 = 0 := by
  rw [Nat.pow_succ, Nat.mod_mul]
  have := Nat.pos_of_ne_zero (n := 2 ^ k) (by have := Nat.two_pow_pos k; omega)
  constructor
  · intro h
    refine ⟨by omega, ?_⟩
    have h2 : 2 ^ k * (m / 2 ^ k % 2) = 0 := by omega
    rcases Nat.mul_eq_zero.1 h2 with h3 | h3
    · omega
    · exact h3
  · rintro ⟨h1, h2⟩
    rw [h1, h2]; rfl
theorem halves (m : Nat) (S : Int) (h0 : 0 < m) (hm : m < 9007199254740992) : qo m S = qo m (S + 1) / 2 ∧ xa m S = (xa m (S + 1) && decide (qo m (S + 1) % 2 = 0)) := by
  by_cases hS : 0 ≤ S
  · have hS' : 0 ≤ S + 1 := by omega
    unfold qo xa
    rw [if_pos hS, if_pos hS', if_pos hS, if_pos hS']
    have e : m * 2 ^ (S + 1).toNat = 2 * (m * 2 ^ S.toNat) := by
      rw [show (S + 1).toNat = S.toNat + 1 by omega, Nat.pow_succ]
      rw [← Nat.mul_assoc, Nat.mul_comm]
    rw [e]
    generalize m * 2 ^ S.toNat = q
    refine ⟨by omega, ?_⟩
    have : 2 * q % 2 = 0 := by omega
    simp [this]
  · by_cases h63 : -63 ≤ S
    · have hK : (min (-S) 63).toNat = (-S - 1).toNat + 1 := by omega
      have f1 : qo m S = m / 2 ^ ((-S - 1).toNat + 1) := by unfold qo; rw [if_neg hS, hK]
      have f2 : xa m S = decide (m % 2 ^ ((-S - 1).toNat + 1) = 0) := by unfold xa; rw [if_neg hS, hK]
      have f3 : qo m (S + 1) = m / 2 ^ (-S - 1).toNat := by
        unfold qo
        by_cases h1 : 0 ≤ S + 1
        · rw [if_pos h1, show (S + 1).toNat = 0 by omega, show (-S - 1).toNat = 0 by omega]; simp
        · rw [if_neg h1, show (min (-(S + 1)) 63).toNat = (-S - 1).toNat by omega]
      have f4 : xa m (S + 1) = decide (m % 2 ^ (-S - 1).toNat = 0) := by
        unfold xa
        by_cases h1 : 0 ≤ S + 1
        · rw [if_pos h1, show (-S - 1).toNat = 0 by omega]; simp [Nat.mod_one]
        · rw [if_neg h1, show (min (-(S + 1)) 63).toNat = (-S - 1).toNat by omega]
      rw [f1, f2, f3, f4]
      refine ⟨by rw [Nat.pow_succ, Nat.div_div_eq_div_mul], ?_⟩
      rw [← Bool.decide_and]
      exact decide_eq_decide.2 mod_two
    · have hS1 : ¬ 0 ≤ S + 1 := by omega
      unfold qo xa
      rw [if_neg hS, if_neg hS1, if_neg hS, if_neg hS1, show (min (-S) 63).toNat = 63 by omega, show (min (-(S + 1)) 63).toNat = 63 by omega]
      have d : m / 2 ^ 63 = 0 := Nat.div_eq_of_lt (by omega)
      have r : m % 2 ^ 63 = m := Nat.mod_eq_of_lt (by omega)
      rw [d, r]
      have : ¬ m = 0 := by omega
      simp [this]
theorem fin_twice {m : Nat} {S : Int} {ng : Bool} {n1 n2 : Int} {e1 e2 : Bool} (hm : m < 9007199254740992) (h1 : fin m S ng = (n1, e1, 0)) (h2 : fin m (S + 1) ng = (n2, e2, 0)) : Twice n1 n2 e1 e2 := by
  unfold fin at h1 h2
  by_cases h0 : m = 0
  · rw [if_pos h0] at h1 h2
    simp only [Prod.mk.injEq] at h1 h2
    obtain ⟨rfl, rfl, -⟩ := h1
    obtain ⟨rfl, rfl, -⟩ := h2
    exact Or.inl ⟨rfl, rfl, rfl⟩
  · obtain ⟨a, b⟩ := halves m S (by omega) hm
    rw [if_neg h0] at h1 h2
    split at h1
    · simp at h1
    split at h1
    · simp at h1
    split at h2
    · simp at h2
    split at h2
    · simp at h2
    simp only [Prod.mk.injEq] at h1 h2
    obtain ⟨rfl, rfl, -⟩ := h1
    obtain ⟨rfl, rfl, -⟩ := h2
    rw [a, b]
    exact core ng _ _
theorem mt_lt (b : Nat) : Tof.mt b < 9007199254740992 := by
  unfold Tof.mt ff
  split <;> omega
theorem tof_twice {b : Nat} {sc n1 n2 : Int} {e1 e2 : Bool} (h1 : tof b sc = (n1, e1, 0)) (h2 : tof b (wrap64 (sc + 1)) = (n2, e2, 0)) : Twice n1 n2 e1 e2 := by
  unfold tof at h1
  split at h1
  · simp at h1
  rename_i hs
  rw [show wrap64 (sc + 1) = sc + 1 by rw [wrap64]; omega] at h2
  split at h1
  · simp at h1
  rename_i he
  unfold tof at h2
  split at h2
  · simp at h2
  exact fin_twice (mt_lt b) h1 (by rw [← h2]; congr 1; omega)
/-- What fits. -/
theorem fin_bd {m : Nat} {S : Int} {ng : Bool} {n : Int} {e : Bool} {c : Int} (h : fin m S ng = (n, e, c)) : -9223372036854775808 ≤ n ∧ n ≤ 9223372036854775807 := by
  unfold fin at h
  split at h
  · simp only [Prod.mk.injEq] at h; omega
  split at h
  · simp only [Prod.mk.injEq] at h; omega
  split at h
  · simp only [Prod.mk.injEq] at h; omega
  rename_i hf
  simp only [Prod.mk.injEq] at h
  obtain ⟨rfl, -, -⟩ := h
  have hf' : fits ng (qo m S) (xa m S) = true := by simpa using hf
  revert hf'
  generalize qo m S = q
  generalize xa m S = x
  cases ng <;> cases x <;> simp only [fits, sg, Bool.false_eq_true, if_false, if_true, decide_eq_true_eq] <;> omega
theorem tof_bd {b : Nat} {sc n : Int} {e : Bool} {c : Int} (h : tof b sc = (n, e, c)) : -9223372036854775808 ≤ n ∧ n ≤ 9223372036854775807 := by
  unfold tof at h
  split at h
  · simp only [Prod.mk.injEq] at h; omega
  split at h
  · simp only [Prod.mk.injEq] at h; omega
  exact fin_bd h
set_option maxRecDepth 100000 in
set_option maxHeartbeats 8000000 in
/-- The law, from what the two calls answer. -/
theorem walkC (b : Nat) (sc n m c1 c2 : Int) (e1 e2 : Bool) (W : World) (C0 : Hid (Calls Tryd.prog 7 #[] W fun e w' => e = .returned (.bool true) ∧ Below W.heap.size W w'))
    (C1 : Hid (∀ w, Calls Tryd.prog 8 #[.int .u64 (b : Nat), .int .i64 sc] w fun e w' => e = .returned (.tuple #[.int .i64 n, .bool e1, .int .i64 c1]) ∧ w = w'))
    (C2 : Hid (∀ w, Calls Tryd.prog 8 #[.int .u64 (b : Nat), .int .i64 (wrap64 (sc + 1))] w fun e w' => e = .returned (.tuple #[.int .i64 m, .bool e2, .int .i64 c2]) ∧ w = w'))
    (hn1 : -9223372036854775808 ≤ n) (hn2 : n ≤ 9223372036854775807) (hm1 : -9223372036854775808 ≤ m) (hm2 : m ≤ 9223372036854775807)
    (K : c1 ≠ 0 ∨ c1 = 0 ∧ c2 ≠ 0 ∨ c1 = 0 ∧ c2 = 0 ∧ Twice n m e1 e2) :
    Calls Tryd.prog 3 #[.int .u64 (b : Nat), .int .i64 sc] W fun e w' => e = .returned (.bool true) ∧ Below W.heap.size W w' := by
  rcases K with K | ⟨K, K2⟩ | ⟨rfl, rfl, K | K | K | K⟩
  case inl =>
    have k1 : (c1 != 0) = true := by simpa using K
    go_enter Tryd.func3, Tryd.ntmps3
    go_wp2_with fail
    (with_reducible refine C0.out.mono ?_); rintro e w1 ⟨rfl, hb⟩
    have B1 := Lib.hid hb; clear hb
    go_wp2_with fail
    (with_reducible refine (C1.out _).mono ?_); rintro e w2 ⟨rfl, rfl⟩
    go_wp2_with fail
    (with_reducible refine (C2.out _).mono ?_); rintro e w2 ⟨rfl, rfl⟩
    go_wp2_with fail
    go_ret
    exact ⟨by first | rfl | exact retb rfl, B1.out⟩
  case inr.inl =>
    subst K
    have k1 : (c2 != 0) = true := by simpa using K2
    go_enter Tryd.func3, Tryd.ntmps3
    go_wp2_with fail
    (with_reducible refine C0.out.mono ?_); rintro e w1 ⟨rfl, hb⟩
    have B1 := Lib.hid hb; clear hb
    go_wp2_with fail
    (with_reducible refine (C1.out _).mono ?_); rintro e w2 ⟨rfl, rfl⟩
    go_wp2_with fail
    (with_reducible refine (C2.out _).mono ?_); rintro e w2 ⟨rfl, rfl⟩
    go_wp2_with fail
    go_ret
    exact ⟨by first | rfl | exact retb rfl, B1.out⟩
  all_goals
    obtain ⟨rfl, rfl, rfl⟩ := K
    have hd1 : -9223372036854775808 ≤ 2 * n := by omega
    have hd2 : 2 * n ≤ 9223372036854775807 := by omega
    go_enter Tryd.func3, Tryd.ntmps3
    go_wp2_with fail
    (with_reducible refine C0.out.mono ?_); rintro e w1 ⟨rfl, hb⟩
    have B1 := Lib.hid hb; clear hb
    go_wp2_with fail
    (with_reducible refine (C1.out _).mono ?_); rintro e w2 ⟨rfl, rfl⟩
    go_wp2_with fail
    (with_reducible refine (C2.out _).mono ?_); rintro e w2 ⟨rfl, rfl⟩
    go_wp2_with fail
    go_ret
    exact ⟨by first | rfl | exact retb rfl, B1.out⟩
/-- For every 64 bits, for every scale. -/
theorem walk (b : Nat) (sc : Int) (W : World) (hL : laidMetH Tryd.prog DoorB.laid W ∧ W.ShapedOpen Tryd.prog) (h_b : b < 18446744073709551616) (h_sc : -9223372036854775808 ≤ sc ∧ sc ≤ 9223372036854775807) :
    Calls Tryd.prog 3 #[.int .u64 (b : Nat), .int .i64 sc] W fun e w' => e = .returned (.bool true) ∧ Below W.heap.size W w' := by
  have V := DoorB.vars_of hL
  have hw : -9223372036854775808 ≤ wrap64 (sc + 1) ∧ wrap64 (sc + 1) ≤ 9223372036854775807 := by
    rw [wrap64]; omega
  have D1 := tof_bd (b := b) (sc := sc) (n := (tof b sc).1) (e := (tof b sc).2.1) (c := (tof b sc).2.2) rfl
  have D2 := tof_bd (b := b) (sc := wrap64 (sc + 1)) (n := (tof b (wrap64 (sc + 1))).1) (e := (tof b (wrap64 (sc + 1))).2.1) (c := (tof b (wrap64 (sc + 1))).2.2) rfl
  refine walkC b sc (tof b sc).1 (tof b (wrap64 (sc + 1))).1 (tof b sc).2.2 (tof b (wrap64 (sc + 1))).2.2 (tof b sc).2.1 (tof b (wrap64 (sc + 1))).2.1 W (Lib.hid (Txt.bitsWorks W V))
    (Lib.hid fun w => tof_w b sc w h_b h_sc.1 h_sc.2) (Lib.hid fun w => tof_w b _ w h_b hw.1 hw.2) D1.1 D1.2 D2.1 D2.2 ?_
  by_cases c1 : (tof b sc).2.2 = 0
  · by_cases c2 : (tof b (wrap64 (sc + 1))).2.2 = 0
    · exact Or.inr (Or.inr ⟨c1, c2, tof_twice (b := b) (sc := sc) (by rw [← c1]) (by rw [← c2])⟩)
    · exact Or.inr (Or.inl ⟨c1, c2⟩)
  · exact Or.inl c1
-- FRAME --

set_option maxRecDepth 100000 in
theorem lifted (os : Os) (started : os.Started) (H : Type) (enc : TypeId × Value → H) :
    ReturnsInHanded {} Tryd.checked os 3 .any (fun w args => (Rows.bitsFloorsSpec.pre enc Tryd.prog Tryd.f3 [] false w args ∧ laidMetH Tryd.prog DoorB.laid w) ∧ sizedMet enc Tryd.prog Tryd.f3 (OpenSpec.ofChange Rows.bitsFloorsSpec) false w args) (Rows.bitsFloorsSpec.post enc Tryd.prog Tryd.f3 false true false false) :=
  Frame.lifted_open (C := Tryd.checked) 3 Tryd.f3 Tryd.own started (by kernel_rfl) Tryd.func3 Tryd.laidOut rfl (by kernel_rfl) 4 rfl Tryd.underlying4
      (fun ds h => by match ds, h with | [_, _], _ => rfl)
      (ChangeSpec.witness_shaped (enc := enc) (C := Tryd.checked) (os := os) (X := fun w _ => laidMetH Tryd.prog DoorB.laid w) false (DoorB.laidWorld os) #[.int .u64 0, .int .i64 0] 8 (World.laidAll_os _ _ _) (DoorB.laidWorld_shaped os _) (by kernel_rfl) (by kernel_rfl) (by kernel_rfl) (DoorB.laidWorld_met os _))
      (fun W base args ds ps hval0 hA _ hL => by
        have hval : ∀ (j : Nat) t v, Tryd.f3.params[j]? = some t → args[j]? = some v → Value.okWide Tryd.prog W .any base t v := hval0
        have hA' : DataW.TrodAll enc Tryd.prog W 0 (fun _ => true) true Tryd.f3.params.toList args.toList ds ps := hA
        clear hval0 hA
        have hA := hA'
        clear hA'
        rw [Tryd.params3] at hA hval
        obtain ⟨v0, vs0, d0, ds0, p0, q0, ea, rfl, rfl, tr0, rest0⟩ := trodAll_cons hA
        obtain ⟨v1, vs1, d1, ds1, p1, q1, rfl, rfl, rfl, tr1, rest1⟩ := trodAll_cons rest0
        obtain ⟨rfl, rfl, rfl⟩ := trodAll_nil rest1
        obtain rfl : args = #[v0, v1] := by cases args; simp_all
        clear ea
        obtain ⟨bi, rfl, wi_b⟩ := Frame.arg_int Tryd.underlying22 (hval 0 _ v0 rfl rfl)
        obtain ⟨b, rfl, w_b⟩ := DoorB.u64_nat wi_b
        obtain ⟨sc, rfl, w_sc⟩ := Frame.arg_int Tryd.underlying3 (hval 1 _ v1 rfl rfl)
        exact walk b sc W hL w_b (Frame.bd w_sc))

/-- The statement. -/
theorem row_holds : Rows.BitsFloorsSaid :=
  OpenClaim.holds_of_wide 3 Tryd.f3 rfl rfl rfl rfl rfl rfl rfl ⟨rfl, rfl, rfl, rfl, rfl⟩ rfl rfl rfl rfl rfl (by kernel_rfl) Tryd.func3 (by kernel_rfl)
    (of_decide_eq_true (by kernel_rfl)) (by unfold Func.isWrapper; first | (rw [if_pos (by decide +kernel)]; kernel_rfl) | (rw [if_neg (by decide +kernel)]; exact ⟨rfl, rfl⟩))
    (fun os started H enc _ => lifted os started H enc)
/-- The tied card. -/
theorem proved : Rows.BitsFloorsCardSaid :=
  Claim7.holds_tied_plain_at .later [] [.data, .data, .data, .data, .data, .pinned, .pinned, .pinned] true (true, "bcc143c9c6f8b1f314f711a20aa0baf16be0bfafa76d6d1d223097afee771353") false
    row_holds (fun _ h => by cases h) (by kernel_rfl) (fun _ h => by cases h) bitsFloors_row_tie rfl ⟨rfl, rfl⟩ (by kernel_rfl) rfl
    (fun f fn hf hfn => by
      obtain rfl : f = 3 := Option.some.inj ((show Tryd.prog.funcNamed "skyway/skywaykeep1.BitsFloors" = some 3 by kernel_rfl).symm.trans hf) |>.symm
      obtain rfl : fn = Tryd.f3 := (Option.some.inj (Tryd.func3.symm.trans hfn)).symm
      exact ⟨by kernel_rfl, fun j t ht => by
        rw [Tryd.params3] at ht
        have hall : ∀ t ∈ [22, 3], Tryd.prog.wantsStandIn t = false := by
          intro t ht
          simp only [List.mem_cons, List.not_mem_nil, or_false] at ht
          rcases ht with rfl | rfl <;> kernel_rfl
        exact hall t (List.mem_iff_getElem?.2 ⟨j, by simpa using ht⟩)⟩)
    (by kernel_rfl)
#print axioms proved
end BitsFloors
end Go.Proofs.YtoafljgcmloilaaDoor

