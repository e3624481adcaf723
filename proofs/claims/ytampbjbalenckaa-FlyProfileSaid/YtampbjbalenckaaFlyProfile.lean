/- FlyProfile: a flight climbs and descends no faster than its type permits, and starts and ends on the ground. For every input. -/
import Derived.Test.YtampbjbalenckaaFlyWorks
import Derived.Test.YtampbjbalenckaaFrame
namespace Go.Proofs.Ytampbjbalenckaa
open Go.RowKit Go.ChangeShapes Go.WideShapes
namespace FlyProfile
open Kit Kind
abbrev PC (s : ByteArray) (wake ceil climb desc slow fast height total t v E : Int) : Prop := ∀ w, Calls Try.prog 18 #[.agg #[.string s, .int .i64 wake, .int .i64 ceil, .int .i64 climb, .int .i64 desc, .int .i64 slow, .int .i64 fast], .int .i64 height, .int .i64 total, .int .i64 t] w fun e w' => e = .returned (.tuple #[.int .i64 v, .int .i64 E]) ∧ Below w.heap.size w w'
abbrev CC (s : ByteArray) (wake ceil climb desc slow fast a b v E : Int) : Prop := ∀ w, Calls Try.prog 19 #[.agg #[.string s, .int .i64 wake, .int .i64 ceil, .int .i64 climb, .int .i64 desc, .int .i64 slow, .int .i64 fast], .int .i64 a, .int .i64 b] w fun e w' => e = .returned (.tuple #[.int .i64 v, .int .i64 E]) ∧ Below w.heap.size w w'
set_option maxHeartbeats 1000000 in
theorem bad (s : ByteArray) (wake ceil climb desc slow fast height total t E : Int) (w : World) (C0 : Hid (PC s wake ceil climb desc slow fast height total t 0 E)) (hE1 : (E == 0) = false) (hE2 : (E != 0) = true) :
    Calls Try.prog 4 #[.agg #[.string s, .int .i64 wake, .int .i64 ceil, .int .i64 climb, .int .i64 desc, .int .i64 slow, .int .i64 fast], .int .i64 height, .int .i64 total, .int .i64 t] w fun e w' => e = .returned (.bool true) ∧ Below w.heap.size w w' := by
  go_enter Try.func4, Try.ntmps4
  have hk := k7_new w 36 s wake ceil climb desc slow fast
  have hw := b_alloc (Below.refl w.heap.size w) (.cells #[.string s, .int .i64 wake, .int .i64 ceil, .int .i64 climb, .int .i64 desc, .int .i64 slow, .int .i64 fast] 36)
  go_wp2_with fail
  refine (Path.flyWorks _).mono ?_; rintro e w1 ⟨rfl, hb⟩
  replace hk := k7_keep hb hk; replace hw := b_next hw hb; clear hb
  have hk' := hk; obtain ⟨k0, k1, k2, k3, k4, k5, k6⟩ := hk'
  go_wp2_with fail
  refine (C0.out _).mono ?_; rintro e w1 ⟨rfl, hb⟩
  replace hw := b_next hw hb; clear hb
  go_wp2_with fail
  all_goals (go_ret; exact ⟨retb rfl, hw⟩)
set_option maxHeartbeats 2000000 in
theorem good (s : ByteArray) (wake ceil climb desc slow fast height total t h nx n : Int) (w : World) (C0 : Hid (PC s wake ceil climb desc slow fast height total t h 0))
    (C1 : Hid (PC s wake ceil climb desc slow fast height total 0 0 0)) (C2 : Hid (PC s wake ceil climb desc slow fast height total total 0 0)) (C3 : Hid (¬ t = total → PC s wake ceil climb desc slow fast height total (t + 1) nx 0)) (C4 : Hid (¬ t = total → CC s wake ceil climb desc slow fast h nx n 0))
    (h0 : 0 ≤ h) (h1 : h ≤ height) (hn : n ≤ 1) (ht : 0 ≤ t) (ht2 : t ≤ 200000) :
    Calls Try.prog 4 #[.agg #[.string s, .int .i64 wake, .int .i64 ceil, .int .i64 climb, .int .i64 desc, .int .i64 slow, .int .i64 fast], .int .i64 height, .int .i64 total, .int .i64 t] w fun e w' => e = .returned (.bool true) ∧ Below w.heap.size w w' := by
  go_enter Try.func4, Try.ntmps4
  have hk := k7_new w 36 s wake ceil climb desc slow fast
  have hw := b_alloc (Below.refl w.heap.size w) (.cells #[.string s, .int .i64 wake, .int .i64 ceil, .int .i64 climb, .int .i64 desc, .int .i64 slow, .int .i64 fast] 36)
  go_wp2_with fail
  refine (Path.flyWorks _).mono ?_; rintro e w1 ⟨rfl, hb⟩
  replace hk := k7_keep hb hk; replace hw := b_next hw hb; clear hb
  have hk' := hk; obtain ⟨k0, k1, k2, k3, k4, k5, k6⟩ := hk'
  go_wp2_with fail
  refine (C0.out _).mono ?_; rintro e w2 ⟨rfl, hb⟩
  replace hk := k7_keep hb hk; replace hw := b_next hw hb; clear hb k0 k1 k2 k3 k4 k5 k6
  have hk' := hk; obtain ⟨k0, k1, k2, k3, k4, k5, k6⟩ := hk'
  go_wp2_with fail
  refine (C1.out _).mono ?_; rintro e w3 ⟨rfl, hb⟩
  replace hk := k7_keep hb hk; replace hw := b_next hw hb; clear hb k0 k1 k2 k3 k4 k5 k6
  have hk' := hk; obtain ⟨k0, k1, k2, k3, k4, k5, k6⟩ := hk'
  go_wp2_with fail
  refine (C2.out _).mono ?_; rintro e w4 ⟨rfl, hb⟩
  replace hk := k7_keep hb hk; replace hw := b_next hw hb; clear hb k0 k1 k2 k3 k4 k5 k6
  have hk' := hk; obtain ⟨k0, k1, k2, k3, k4, k5, k6⟩ := hk'
  by_cases hq : t = total
  · have hq1 : (t == total) = true := by simpa using hq
    have hq2 : (t != total) = false := by simpa using hq
    clear hq
    go_wp2_with fail
    go_ret
    exact ⟨retb rfl, hw⟩
  · have C5 := Lib.hid (C3.out hq); have C6 := Lib.hid (C4.out hq)
    have hq1 : (t == total) = false := by simpa using hq
    have hq2 : (t != total) = true := by simpa using hq
    clear hq
    go_wp2_with fail
    refine (C5.out _).mono ?_; rintro e w5 ⟨rfl, hb⟩
    replace hk := k7_keep hb hk; replace hw := b_next hw hb; clear hb k0 k1 k2 k3 k4 k5 k6
    have hk' := hk; obtain ⟨k0, k1, k2, k3, k4, k5, k6⟩ := hk'
    go_wp2_with fail
    refine (C6.out _).mono ?_; rintro e w6 ⟨rfl, hb⟩
    replace hw := b_next hw hb; clear hb
    go_wp2_with fail
    go_ret
    exact ⟨retb (by simp [hn]), hw⟩
theorem du_le_one {x c : Int} (hc : 1 ≤ c) (hx : x ≤ c) (hl : -9223372036854775808 < x) : Num.du x c ≤ 1 ∧ Num.dde x c = 0 := by
  have h0 : c ≠ 0 := by omega
  have h1 : ¬ (x = -9223372036854775808 ∧ c = -1) := by omega
  refine ⟨?_, (Num.dd_ok h0 h1).2⟩
  rw [Num.du_ok h0 h1]
  have hs := Num.fd_spec_pos (a := x) (b := c) (by omega)
  have hm : Num.fd x c ≤ 1 := by
    rcases Int.lt_or_le 1 (Num.fd x c) with hl | hl
    · have : c * 2 ≤ c * Num.fd x c := Int.mul_le_mul_of_nonneg_left (by omega) (by omega)
      omega
    · exact hl
  split
  · exact hm
  · rename_i hr
    rcases Int.lt_or_le 0 (Num.fd x c) with hl | hl
    · have e1 : Num.fd x c = 1 := by omega
      rw [e1] at hs
      have e2 : x = c := by omega
      exact absurd (by rw [e2]; exact Int.tmod_self) hr
    · omega
theorem walk (s : ByteArray) (wake ceil climb desc slow fast height total t : Int) (W : World) 
    (_ : -9223372036854775808 ≤ wake ∧ wake ≤ 9223372036854775807) (_ : -9223372036854775808 ≤ ceil ∧ ceil ≤ 9223372036854775807) (_ : -9223372036854775808 ≤ climb ∧ climb ≤ 9223372036854775807) (_ : -9223372036854775808 ≤ desc ∧ desc ≤ 9223372036854775807) (_ : -9223372036854775808 ≤ slow ∧ slow ≤ 9223372036854775807) (_ : -9223372036854775808 ≤ fast ∧ fast ≤ 9223372036854775807)
    (_ : -9223372036854775808 ≤ height ∧ height ≤ 9223372036854775807) (_ : -9223372036854775808 ≤ total ∧ total ≤ 9223372036854775807) (_ : -9223372036854775808 ≤ t ∧ t ≤ 9223372036854775807) :
    Calls Try.prog 4 #[.agg #[.string s, .int .i64 wake, .int .i64 ceil, .int .i64 climb, .int .i64 desc, .int .i64 slow, .int .i64 fast], .int .i64 height, .int .i64 total, .int .i64 t] W fun e w' => e = .returned (.bool true) ∧ Below W.heap.size W w' := by
  have P : ∀ t, PC s wake ceil climb desc slow fast height total t (profE s wake ceil climb desc slow fast height total t).1 (profE s wake ceil climb desc slow fast height total t).2 := fun t w => profC s wake ceil climb desc slow fast height total t w
  by_cases hK : kchk s wake ceil climb desc slow fast = 0
  · obtain ⟨-, -, a1, a2, a3, -⟩ := kchk_ok hK
    have e : ∀ t, profE s wake ceil climb desc slow fast height total t = prof ceil climb desc height total t := fun t => if_pos hK
    simp only [e] at P
    by_cases b1 : ceil < height
    · have C0 := P t
      have e0 : prof ceil climb desc height total t = (0, 20) := if_pos b1
      rw [e0] at C0
      exact bad s wake ceil climb desc slow fast height total t 20 W (Lib.hid C0) (by decide) (by decide)
    · by_cases b2 : height < 0 ∨ 60000 < height ∨ total < 0 ∨ 200000 < total ∨ t < 0 ∨ total < t
      · have C0 := P t
        have e0 : prof ceil climb desc height total t = (0, 4) := by unfold prof; rw [if_neg b1, if_pos b2]
        rw [e0] at C0
        exact bad s wake ceil climb desc slow fast height total t 4 W (Lib.hid C0) (by decide) (by decide)
      · have ok : ∀ u, 0 ≤ u → u ≤ total → prof ceil climb desc height total u = (min height (min (climb * u) (desc * (total - u))), 0) := fun u h1 h2 => by
          unfold prof; rw [if_neg b1, if_neg (by omega)]
        have p1 := mul_bd (a := climb) (b := t) (A := 200) (B := 200000) (by omega) (by omega) (by omega) (by omega)
        have p2 := mul_bd (a := desc) (b := total - t) (A := 200) (B := 200000) (by omega) (by omega) (by omega) (by omega)
        have C0 := P t; have C1 := P 0; have C2 := P total; have C3 := P (t + 1)
        rw [ok t (by omega) (by omega)] at C0
        have z1 := mul_bd (a := desc) (b := total) (A := 200) (B := 200000) (by omega) (by omega) (by omega) (by omega)
        have z2 := mul_bd (a := climb) (b := total) (A := 200) (B := 200000) (by omega) (by omega) (by omega) (by omega)
        rw [ok 0 (by omega) (by omega), Int.mul_zero, Int.sub_zero, show min height (min 0 (desc * total)) = 0 from by omega] at C1
        rw [ok total (by omega) (by omega), Int.sub_self, Int.mul_zero, show min height (min (climb * total) 0) = 0 from by omega] at C2
        have x1 : climb * (t + 1) = climb * t + climb := by rw [Int.mul_add, Int.mul_one]
        have x2 : desc * (total - (t + 1)) = desc * (total - t) - desc := by rw [show total - (t + 1) = total - t - 1 from by omega, Int.mul_sub, Int.mul_one]
        have Q : ¬ t = total → ∃ n, n ≤ 1 ∧ CC s wake ceil climb desc slow fast (min height (min (climb * t) (desc * (total - t)))) (min height (min (climb * (t + 1)) (desc * (total - (t + 1))))) n 0 := fun hq => by
          have z3 := mul_bd (a := desc) (b := total - (t + 1)) (A := 200) (B := 200000) (by omega) (by omega) (by omega) (by omega)
          have z4 := mul_bd (a := climb) (b := t + 1) (A := 200) (B := 200001) (by omega) (by omega) (by omega) (by omega)
          have c := climb_kind hK (min height (min (climb * t) (desc * (total - t)))) (min height (min (climb * (t + 1)) (desc * (total - (t + 1)))))
          unfold climbK at c
          rw [if_neg (by omega), if_neg (by omega)] at c
          by_cases hle : min height (min (climb * t) (desc * (total - t))) ≤ min height (min (climb * (t + 1)) (desc * (total - (t + 1))))
          · rw [if_pos hle] at c
            have d := du_le_one (x := min height (min (climb * (t + 1)) (desc * (total - (t + 1)))) - min height (min (climb * t) (desc * (total - t)))) a2.1 (by omega) (by omega)
            rw [d.2] at c
            exact ⟨_, d.1, c⟩
          · rw [if_neg hle] at c
            have d := du_le_one (x := min height (min (climb * t) (desc * (total - t))) - min height (min (climb * (t + 1)) (desc * (total - (t + 1))))) a3.1 (by omega) (by omega)
            rw [d.2] at c
            exact ⟨_, d.1, c⟩
        obtain ⟨n, hn, C4⟩ : ∃ n, n ≤ 1 ∧ (¬ t = total → CC s wake ceil climb desc slow fast (min height (min (climb * t) (desc * (total - t)))) (min height (min (climb * (t + 1)) (desc * (total - (t + 1))))) n 0) := by
          by_cases hq : t = total
          · exact ⟨0, by omega, fun h => absurd hq h⟩
          · obtain ⟨n, h1, h2⟩ := Q hq; exact ⟨n, h1, fun _ => h2⟩
        exact good s wake ceil climb desc slow fast height total t _ (min height (min (climb * (t + 1)) (desc * (total - (t + 1))))) n W (Lib.hid C0) (Lib.hid C1) (Lib.hid C2)
            (Lib.hid fun hq => by rw [ok (t + 1) (by omega) (by omega)] at C3; exact C3) (Lib.hid C4) (by omega) (by omega) hn (by omega) (by omega)
  · have C0 := P t
    have e : profE s wake ceil climb desc slow fast height total t = (0, kchk s wake ceil climb desc slow fast) := if_neg hK
    rw [e] at C0
    exact bad s wake ceil climb desc slow fast height total t _ W (Lib.hid C0) (by simpa using hK) (by simpa using hK)
-- FRAME --

set_option maxRecDepth 100000 in
theorem lifted (os : Os) (started : os.Started) (H : Type) (enc : TypeId × Value → H) :
    ReturnsInHanded {} Try.checked os 4 .any (Rows.flyProfileSpec.pre6 enc Try.prog Try.f4 Rows.flyProfileRow.domain false) (Rows.flyProfileSpec.post enc Try.prog Try.f4 false true false false) :=
  Frame.lifted (C := Try.checked) 4 Try.f4 Try.own started (by kernel_rfl) Try.func4 Try.laidOut rfl (by kernel_rfl) 4 rfl Try.underlying4
      (fun ds h => by match ds, h with | [_, _, _, _], _ => rfl)
      (ChangeSpec.witness6 (enc := enc) (C := Try.checked) false ⟨#[], #[.agg #[.string ⟨#[]⟩, .int .i64 0, .int .i64 0, .int .i64 0, .int .i64 0, .int .i64 0, .int .i64 0], .int .i64 0, .int .i64 0, .int .i64 0], []⟩ 8 (by kernel_rfl) (by kernel_rfl) (by kernel_rfl) (by kernel_rfl))
      (fun W base args ds ps hval0 hA _ => by
        have hval : ∀ (j : Nat) t v, Try.f4.params[j]? = some t → args[j]? = some v → Value.okWide Try.prog W .any base t v := hval0
        have hA' : DataW.TrodAll enc Try.prog W 0 (fun _ => true) true Try.f4.params.toList args.toList ds ps := hA
        clear hval0 hA
        have hA := hA'
        rw [Try.params4] at hA hval
        obtain ⟨v0, v1, v2, v3, d0, d1, d2, d3, p0, p1, p2, p3, rfl, _, _, _, _, _, _⟩ := RowKit.trodAll_four hA
        obtain ⟨s_k, ns_k, rfl, hl_k, hw_k⟩ := Frame.arg_named _ Try.underlying36 (u0 := 9) (ts := [3, 3, 3, 3, 3, 3]) (by kernel_rfl) (by kernel_rfl) Try.underlying9 (by intro u hu; simp at hu; rw [hu]; exact Try.underlying3) (hval 0 _ _ rfl rfl)
        obtain ⟨k_wake, k_ceil, k_climb, k_desc, k_slow, k_fast, rfl⟩ := Frame.list6 hl_k
        obtain ⟨height, rfl, w_height⟩ := Frame.arg_int Try.underlying3 (hval 1 _ _ rfl rfl)
        obtain ⟨total, rfl, w_total⟩ := Frame.arg_int Try.underlying3 (hval 2 _ _ rfl rfl)
        obtain ⟨t, rfl, w_t⟩ := Frame.arg_int Try.underlying3 (hval 3 _ _ rfl rfl)
        exact (walk s_k k_wake k_ceil k_climb k_desc k_slow k_fast height total t W (Frame.bd (hw_k _ (by simp))) (Frame.bd (hw_k _ (by simp))) (Frame.bd (hw_k _ (by simp))) (Frame.bd (hw_k _ (by simp))) (Frame.bd (hw_k _ (by simp))) (Frame.bd (hw_k _ (by simp))) (Frame.bd w_height) (Frame.bd w_total) (Frame.bd w_t)).mono fun e w' ⟨he, hw⟩ => ⟨he, hw⟩)

/-- The statement. -/
theorem proved : Rows.FlyProfileSaid :=
  OpenClaim.holds_of_wide 4 Try.f4 rfl rfl rfl rfl rfl rfl rfl ⟨rfl, rfl, rfl, rfl, rfl⟩ rfl rfl rfl rfl rfl (by kernel_rfl) Try.func4 (by kernel_rfl)
    (of_decide_eq_true (by kernel_rfl)) (by unfold Func.isWrapper; first | (rw [if_pos (by decide +kernel)]; kernel_rfl) | (rw [if_neg (by decide +kernel)]; exact ⟨rfl, rfl⟩))
    (fun os started H enc _ => lifted os started H enc)
#print axioms proved
end FlyProfile
end Go.Proofs.Ytampbjbalenckaa

