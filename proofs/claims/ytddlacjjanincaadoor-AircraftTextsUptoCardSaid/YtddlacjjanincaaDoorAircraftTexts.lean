/- P8..: Read of the text of a type is the type, and a text that Read accepts is the text of its type. For every type and every text, together of at most 1048576 values and letters (the second form). -/
import Derived.Test.YtddlacjjanincaaDoorAcD
import Derived.Test.YtddlacjjanincaaDoorDoorT
import Derived.Test.YtddlacjjanincaaDoorDoorU
import Derived.Test.YtddlacjjanincaaDoorFrameU
import Derived.Test.YtddlacjjanincaaDoorCards
namespace Go.Proofs.YtddlacjjanincaaDoor
open Go.RowKit Go.ChangeShapes Go.WideShapes
namespace AircraftTexts
open Kit Name Kind Pt Ac
abbrev Res (s : ByteArray) (wake a b c d f : Int) (u : ByteArray) (w : World) : Prop := Calls Tryd.prog 4 #[.agg #[.string s, .int .i64 wake, .int .i64 a, .int .i64 b, .int .i64 c, .int .i64 d, .int .i64 f], .string u] w fun e w' => e = .returned (.bool true) ∧ Below w.heap.size w w'
abbrev WkC (w : World) : Prop := ∀ w1, Below w.heap.size w w1 → Calls Tryd.prog 9 #[] w1 fun e w' => e = .returned (.bool true) ∧ Below w1.heap.size w1 w'
abbrev RdC (u : ByteArray) (w : World) : Prop := ∀ w1, Below w.heap.size w w1 → Calls Tryd.prog 13 #[.string u] w1 fun e w' => RdA u e ∧ Below w1.heap.size w1 w'
abbrev TxC (u : ByteArray) (w : World) : Prop := ∀ w1 c (q : Nat) N, Below w.heap.size w w1 → kE c q N = 0 → ktext c q N = u → Calls Tryd.prog 12 #[kv c q N] w1 fun e w' => e = .returned (.tuple #[.string u, .int .i64 0]) ∧ Below w1.heap.size w1 w'
set_option maxRecDepth 100000 in
set_option maxHeartbeats 8000000 in
theorem core_bad (s : ByteArray) (wake a b c d f E : Int) (u : ByteArray) (w : World) (h0 : E ≠ 0) (WK : Hid (WkC w)) (RD : Hid (RdC u w)) (TX : Hid (TxC u w))
    (TK : Hid (∀ w1, Calls Tryd.prog 12 #[.agg #[.string s, .int .i64 wake, .int .i64 a, .int .i64 b, .int .i64 c, .int .i64 d, .int .i64 f]] w1 fun e w' => e = .returned (.tuple #[.string ⟨#[]⟩, .int .i64 E]) ∧ Below w1.heap.size w1 w'))
    (CK : Hid (∀ w1, Calls Tryd.prog 14 #[.agg #[.string s, .int .i64 wake, .int .i64 a, .int .i64 b, .int .i64 c, .int .i64 d, .int .i64 f]] w1 fun e w' => e = .returned (.int .i64 E) ∧ Below w1.heap.size w1 w')) : Res s wake a b c d f u w := by
  have h1 : (E == 0) = false := by simpa using h0
  clear h0
  have K0 := Lib.hid (k7_new w 23 s wake a b c d f)
  have B0 := Lib.hid (b_alloc (Below.refl w.heap.size w) (.cells #[.string s, .int .i64 wake, .int .i64 a, .int .i64 b, .int .i64 c, .int .i64 d, .int .i64 f] 23))
  go_enter Tryd.func4, Tryd.ntmps4
  go_wp2_with fail
  (with_reducible refine (WK.out _ B0.out).mono ?_); rintro e w1 ⟨rfl, hb⟩
  have B1 := Lib.hid (b_next B0.out hb); have K1 := Lib.hid (k7_keep hb K0.out); clear hb
  obtain ⟨c0, c1, c2, c3, c4, c5, c6⟩ := K1.out
  go_wp2_with fail
  (with_reducible refine (TK.out _).mono ?_); rintro e w2 ⟨rfl, hb⟩
  have B2 := Lib.hid (b_next B1.out hb); have K2 := Lib.hid (k7_keep hb K1.out); clear hb c0 c1 c2 c3 c4 c5 c6
  obtain ⟨c0, c1, c2, c3, c4, c5, c6⟩ := K2.out
  go_wp2_with fail
  (with_reducible refine (CK.out _).mono ?_); rintro e w3 ⟨rfl, hb⟩
  have BX := Lib.hid (b_next B2.out hb); clear hb c0 c1 c2 c3 c4 c5 c6
  go_wp2_with fail
  (with_reducible refine (RD.out _ BX.out).mono ?_); rintro e w5 ⟨hp, hb⟩
  have B5 := Lib.hid (b_next BX.out hb); clear hb
  rcases hp with ⟨E', hE', rfl, -⟩ | ⟨c', q', N', hk', ht', rfl⟩
  · have g1 : (E' != 0) = true := by simpa using hE'
    clear hE'
    go_wp2_with fail
    go_ret
    exact ⟨rfl, b_alloc B5.out _⟩
  · have HK' := Lib.hid hk'; have HT' := Lib.hid ht'; clear hk' ht'
    have B6 := Lib.hid (b_alloc B5.out (.cells #[.string c', .int .i64 (q' : Int), .int .i64 (N' 0), .int .i64 (N' 1), .int .i64 (N' 2), .int .i64 (N' 3), .int .i64 (N' 4)] 23))
    go_wp2_with fail
    (with_reducible refine (TX.out _ c' q' N' B6.out HK'.out HT'.out).mono ?_); rintro e w6 ⟨rfl, hb⟩
    have B7 := Lib.hid (b_next B6.out hb); clear hb
    go_wp2_with fail
    go_ret
    exact ⟨rfl, B7.out⟩
set_option maxRecDepth 100000 in
set_option maxHeartbeats 8000000 in
theorem core_ok (s : ByteArray) (wake a b c d f : Int) (u t : ByteArray) (w : World) (WK : Hid (WkC w)) (RD : Hid (RdC u w)) (TX : Hid (TxC u w))
    (TK : Hid (∀ w1, Below w.heap.size w w1 → Calls Tryd.prog 12 #[.agg #[.string s, .int .i64 wake, .int .i64 a, .int .i64 b, .int .i64 c, .int .i64 d, .int .i64 f]] w1 fun e w' => e = .returned (.tuple #[.string t, .int .i64 0]) ∧ Below w1.heap.size w1 w'))
    (RT : Hid (∀ w1, Below w.heap.size w w1 → Calls Tryd.prog 13 #[.string t] w1 fun e w' => e = .returned (.tuple #[.agg #[.string s, .int .i64 wake, .int .i64 a, .int .i64 b, .int .i64 c, .int .i64 d, .int .i64 f], .int .i64 0]) ∧ Below w1.heap.size w1 w')) : Res s wake a b c d f u w := by
  have K0 := Lib.hid (k7_new w 23 s wake a b c d f)
  have B0 := Lib.hid (b_alloc (Below.refl w.heap.size w) (.cells #[.string s, .int .i64 wake, .int .i64 a, .int .i64 b, .int .i64 c, .int .i64 d, .int .i64 f] 23))
  go_enter Tryd.func4, Tryd.ntmps4
  go_wp2_with fail
  (with_reducible refine (WK.out _ B0.out).mono ?_); rintro e w1 ⟨rfl, hb⟩
  have B1 := Lib.hid (b_next B0.out hb); have K1 := Lib.hid (k7_keep hb K0.out); clear hb
  obtain ⟨c0, c1, c2, c3, c4, c5, c6⟩ := K1.out
  go_wp2_with fail
  (with_reducible refine (TK.out _ B1.out).mono ?_); rintro e w2 ⟨rfl, hb⟩
  have B2 := Lib.hid (b_next B1.out hb); have K2 := Lib.hid (k7_keep hb K1.out); clear hb c0 c1 c2 c3 c4 c5 c6
  go_wp2_with fail
  (with_reducible refine (RT.out _ B2.out).mono ?_); rintro e w3 ⟨rfl, hb⟩
  have W3 := b_alloc (Below.refl w3.heap.size w3) (.cells #[.string s, .int .i64 wake, .int .i64 a, .int .i64 b, .int .i64 c, .int .i64 d, .int .i64 f] 23)
  have BX := Lib.hid (b_next (b_next B2.out hb) W3); have K3 := Lib.hid (k7_keep W3 (k7_keep hb K2.out)); clear hb W3
  obtain ⟨c0, c1, c2, c3, c4, c5, c6⟩ := K3.out
  go_wp2_with fail
  (with_reducible refine (RD.out _ BX.out).mono ?_); rintro e w5 ⟨hp, hb⟩
  have B5 := Lib.hid (b_next BX.out hb); clear hb
  rcases hp with ⟨E', hE', rfl, -⟩ | ⟨c', q', N', hk', ht', rfl⟩
  · have g1 : (E' != 0) = true := by simpa using hE'
    clear hE'
    go_wp2_with fail
    go_ret
    exact ⟨rfl, b_alloc B5.out _⟩
  · have HK' := Lib.hid hk'; have HT' := Lib.hid ht'; clear hk' ht'
    have B6 := Lib.hid (b_alloc B5.out (.cells #[.string c', .int .i64 (q' : Int), .int .i64 (N' 0), .int .i64 (N' 1), .int .i64 (N' 2), .int .i64 (N' 3), .int .i64 (N' 4)] 23))
    go_wp2_with fail
    (with_reducible refine (TX.out _ c' q' N' B6.out HK'.out HT'.out).mono ?_); rintro e w6 ⟨rfl, hb⟩
    have B7 := Lib.hid (b_next B6.out hb); clear hb
    go_wp2_with fail
    go_ret
    exact ⟨rfl, B7.out⟩
theorem walk (k_name : ByteArray) (k_wake k_ceil k_climb k_desc k_slow k_fast : Int) (s : ByteArray) (W : World) (hL : laidMetH Tryd.prog DoorT.laid W ∧ W.ShapedOpen Tryd.prog) (_h0 : k_name.size ≤ maxLen) (_h1 : -9223372036854775808 ≤ k_wake ∧ k_wake ≤ 9223372036854775807) (_h2 : -9223372036854775808 ≤ k_ceil ∧ k_ceil ≤ 9223372036854775807) (_h3 : -9223372036854775808 ≤ k_climb ∧ k_climb ≤ 9223372036854775807) (_h4 : -9223372036854775808 ≤ k_desc ∧ k_desc ≤ 9223372036854775807) (_h5 : -9223372036854775808 ≤ k_slow ∧ k_slow ≤ 9223372036854775807) (_h6 : -9223372036854775808 ≤ k_fast ∧ k_fast ≤ 9223372036854775807) (_hs : s.size ≤ maxLen) (hs : s.size ≤ 1048576) : Res k_name k_wake k_ceil k_climb k_desc k_slow k_fast s W := by
  have V := DoorT.vars_of hL
  have A := DoorU.vars_of hL
  have WK : Hid (WkC W) := Lib.hid fun w1 hb => acWorksC (varsA_keep hb A)
  have RD : Hid (RdC s W) := Lib.hid fun w1 hb => readC (vars_keep hb V) (varsA_keep hb A) s (by omega)
  have TX : Hid (TxC s W) := Lib.hid fun w1 c q N hb hk ht => by
    have := textC (varsA_keep hb A) c q N hk
    rw [ht] at this; exact this
  obtain ⟨N, hN⟩ : ∃ N : Nat → Int, N = fun i => if i = 0 then k_ceil else if i = 1 then k_climb else if i = 2 then k_desc else if i = 3 then k_slow else k_fast := ⟨_, rfl⟩
  have n0 : N 0 = k_ceil := by rw [hN]; rfl
  have n1 : N 1 = k_climb := by rw [hN]; rfl
  have n2 : N 2 = k_desc := by rw [hN]; rfl
  have n3 : N 3 = k_slow := by rw [hN]; rfl
  have n4 : N 4 = k_fast := by rw [hN]; rfl
  clear hN
  by_cases hK : kchk k_name k_wake k_ceil k_climb k_desc k_slow k_fast = 0
  · obtain ⟨-, hw, -⟩ := kchk_ok hK
    obtain ⟨q, rfl⟩ : ∃ q : Nat, k_wake = q := ⟨k_wake.toNat, by omega⟩
    have hk : kE k_name q N = 0 := by unfold kE; rw [n0, n1, n2, n3, n4]; exact hK
    have ev : kv k_name q N = .agg #[.string k_name, .int .i64 q, .int .i64 k_ceil, .int .i64 k_climb, .int .i64 k_desc, .int .i64 k_slow, .int .i64 k_fast] := by unfold kv; rw [n0, n1, n2, n3, n4]
    have hlen : (ktext k_name q N).size ≤ 2000000 := by
      obtain ⟨hn, -⟩ := kchk_ok hK
      have q1 := name_len8 hn
      have q2 := wk_len (q := q) (by omega)
      have q3 : (k_name ++ sp1 ++ wkS q).size ≤ 17 := by rw [ByteArray.size_append, ByteArray.size_append]; show k_name.size + 1 + (wkS q).size ≤ 17; omega
      have := acc_size (num_bds hk) q3 (k := 5) (by decide)
      show (acc (k_name ++ sp1 ++ wkS q) N 5).size ≤ _
      omega
    refine core_ok _ _ _ _ _ _ _ s (ktext k_name q N) W WK RD TX (Lib.hid fun w1 hb => ?_) (Lib.hid fun w1 hb => (readC (vars_keep hb V) (varsA_keep hb A) _ hlen).mono ?_)
    · have := textC (varsA_keep hb A) k_name q N hk
      rw [ev] at this; exact this
    · rintro e w' ⟨hp, hb'⟩
      refine ⟨?_, hb'⟩
      rcases hp with ⟨E, -, -, hg⟩ | ⟨c, q', N', hk', ht', rfl⟩
      · exact absurd ⟨_, q, N, hk, rfl⟩ hg
      · obtain ⟨rfl, rfl, e⟩ := k_inj hk' hk ht'
        have ev' : kv c q' N' = kv c q' N := by unfold kv; rw [e 0 (by decide), e 1 (by decide), e 2 (by decide), e 3 (by decide), e 4 (by decide)]
        rw [ev', ev]
  · refine core_bad _ _ _ _ _ _ _ _ s W hK WK RD TX (Lib.hid fun w1 => ?_) (Lib.hid fun w1 => kindC _ _ _ _ _ _ _ w1)
    have q : kE k_name k_wake N = kchk k_name k_wake k_ceil k_climb k_desc k_slow k_fast := by unfold kE; rw [n0, n1, n2, n3, n4]
    have := text_bad k_name k_wake N w1 _ q (by simpa using hK) (by simpa using hK)
    have ev : kv k_name k_wake N = .agg #[.string k_name, .int .i64 k_wake, .int .i64 k_ceil, .int .i64 k_climb, .int .i64 k_desc, .int .i64 k_slow, .int .i64 k_fast] := by unfold kv; rw [n0, n1, n2, n3, n4]
    rw [ev] at this; exact this
-- FRAME --
theorem reads (os : Os) {H : Type} (enc : TypeId × Value → H) : (DataW.whole enc Tryd.prog ((DoorT.laidWorld os).forCall (fun _ _ => 0) ⟨#[], #[.agg #[.string ⟨#[]⟩, .int .i64 0, .int .i64 0, .int .i64 0, .int .i64 0, .int .i64 0, .int .i64 0], .string ⟨#[]⟩], []⟩).memory Tryd.f4.params.toList (Rows.OpenSpec.upto Rows.aircraftTextsSpec).vars false (#[.agg #[.string ⟨#[]⟩, .int .i64 0, .int .i64 0, .int .i64 0, .int .i64 0, .int .i64 0, .int .i64 0], .string ⟨#[]⟩] : Array Value).toList 8).isSome = true := by kernel_rfl

set_option maxRecDepth 100000 in
theorem lifted (os : Os) (started : os.Started) (H : Type) (enc : TypeId × Value → H) (Fi : Stop.Interp) :
    ReturnsInHanded {} Tryd.checked os 4 .any ((Rows.OpenSpec.upto Rows.aircraftTextsSpec).preRow enc Tryd.prog Tryd.f4 Rows.aircraftTextsUptoRow.domain false Rows.aircraftTextsUptoRow.laid) (((Rows.OpenSpec.upto Rows.aircraftTextsSpec).at Fi).post enc Tryd.prog Tryd.f4 false true false false) :=
  Frame.lifted_upto (s := Rows.aircraftTextsSpec) (laid := DoorT.laid) (C := Tryd.checked) 4 Tryd.f4 Tryd.own started (by kernel_rfl) Tryd.func4 Tryd.laidOut rfl (by kernel_rfl) 4 rfl Tryd.underlying4
      (fun ds h => by match ds, h with | [_, _], _ => rfl)
      (witness_row_at (enc := enc) (C := Tryd.checked) (os := os) (s := Rows.OpenSpec.upto Rows.aircraftTextsSpec) (laid := DoorT.laid) false (DoorT.laidWorld os) #[.agg #[.string ⟨#[]⟩, .int .i64 0, .int .i64 0, .int .i64 0, .int .i64 0, .int .i64 0, .int .i64 0], .string ⟨#[]⟩] rfl (by kernel_rfl) (by kernel_rfl) (by kernel_rfl) (OpenSpec.preRow_of_cond 8 (x := (DataW.whole enc Tryd.prog ((DoorT.laidWorld os).forCall (fun _ _ => 0) ⟨#[], #[.agg #[.string ⟨#[]⟩, .int .i64 0, .int .i64 0, .int .i64 0, .int .i64 0, .int .i64 0, .int .i64 0], .string ⟨#[]⟩], []⟩).memory Tryd.f4.params.toList (Rows.OpenSpec.upto Rows.aircraftTextsSpec).vars false (#[.agg #[.string ⟨#[]⟩, .int .i64 0, .int .i64 0, .int .i64 0, .int .i64 0, .int .i64 0, .int .i64 0], .string ⟨#[]⟩] : Array Value).toList 8).get (reads os enc)) (Option.some_get _).symm (by kernel_rfl) (fun k hk => by cases hk; kernel_rfl) (by kernel_rfl) (DoorT.laidWorld_met os _)))
      (fun W base args ds ps hval0 hA _ hL hk => by
        have hval : ∀ (j : Nat) t v, Tryd.f4.params[j]? = some t → args[j]? = some v → Value.okWide Tryd.prog W .any base t v := hval0
        have hA' : DataW.TrodAll enc Tryd.prog W 0 (fun _ => true) true Tryd.f4.params.toList args.toList ds ps := hA
        clear hval0 hA
        have hA := hA'
        clear hA'
        rw [Tryd.params4] at hA hval
        obtain ⟨v0, vs0, d0, ds0, p0, q0, ea, rfl, rfl, tr0, rest0⟩ := trodAll_cons hA
        obtain ⟨v1, vs1, d1, ds1, p1, q1, rfl, rfl, rfl, tr1, rest1⟩ := trodAll_cons rest0
        obtain ⟨rfl, rfl, rfl⟩ := trodAll_nil rest1
        obtain rfl : args = #[v0, v1] := by cases args; simp_all
        clear ea
        obtain ⟨cs_k, e_k, hl_k, hc_k⟩ := Frame.arg_agg Tryd.underlying23 (k := 8) (ks := [.str, .int, .int, .int, .int, .int, .int]) (by kernel_rfl) (hval 0 _ v0 rfl rfl) tr0
        subst e_k
        obtain ⟨c_k_name, c_k_wake, c_k_ceil, c_k_climb, c_k_desc, c_k_slow, c_k_fast, rfl⟩ : ∃ c_k_name c_k_wake c_k_ceil c_k_climb c_k_desc c_k_slow c_k_fast, cs_k = [c_k_name, c_k_wake, c_k_ceil, c_k_climb, c_k_desc, c_k_slow, c_k_fast] := by match cs_k, hl_k with | [x0, x1, x2, x3, x4, x5, x6], _ => exact ⟨x0, x1, x2, x3, x4, x5, x6, rfl⟩
        have o_k_name : Frame.Okc W (.str) c_k_name := hc_k 0 (by decide) (by simp)
        obtain ⟨k_name, e_k_name, w_k_name⟩ := o_k_name.str_inv; subst e_k_name
        have o_k_wake : Frame.Okc W (.int) c_k_wake := hc_k 1 (by decide) (by simp)
        obtain ⟨k_wake, e_k_wake, w_k_wake⟩ := o_k_wake.int_inv; subst e_k_wake
        have o_k_ceil : Frame.Okc W (.int) c_k_ceil := hc_k 2 (by decide) (by simp)
        obtain ⟨k_ceil, e_k_ceil, w_k_ceil⟩ := o_k_ceil.int_inv; subst e_k_ceil
        have o_k_climb : Frame.Okc W (.int) c_k_climb := hc_k 3 (by decide) (by simp)
        obtain ⟨k_climb, e_k_climb, w_k_climb⟩ := o_k_climb.int_inv; subst e_k_climb
        have o_k_desc : Frame.Okc W (.int) c_k_desc := hc_k 4 (by decide) (by simp)
        obtain ⟨k_desc, e_k_desc, w_k_desc⟩ := o_k_desc.int_inv; subst e_k_desc
        have o_k_slow : Frame.Okc W (.int) c_k_slow := hc_k 5 (by decide) (by simp)
        obtain ⟨k_slow, e_k_slow, w_k_slow⟩ := o_k_slow.int_inv; subst e_k_slow
        have o_k_fast : Frame.Okc W (.int) c_k_fast := hc_k 6 (by decide) (by simp)
        obtain ⟨k_fast, e_k_fast, w_k_fast⟩ := o_k_fast.int_inv; subst e_k_fast
        obtain ⟨s, e_s⟩ := okWide_string Tryd.underlying9 (hval 1 _ v1 rfl rfl)
        subst e_s
        obtain ⟨s', e_s, z_s⟩ := (Frame.arg_cell (k := 8) (kd := .str) (by kernel_rfl) rfl tr1).str_inv
        obtain rfl : s = s' := by injection e_s
        exact walk k_name k_wake k_ceil k_climb k_desc k_slow k_fast s W hL w_k_name w_k_wake w_k_ceil w_k_climb w_k_desc w_k_slow w_k_fast z_s (Frame.small_str Tryd.underlying9 (hval 1 _ _ rfl rfl) tr1 hk (by simp)))

/-- The statement. -/
theorem row_holds : Rows.AircraftTextsUptoSaid :=
  OpenClaim.holds_of_cond 4 Tryd.f4 rfl rfl rfl rfl rfl rfl rfl ⟨rfl, rfl, rfl, rfl, rfl⟩ rfl rfl rfl rfl rfl (by kernel_rfl) Tryd.func4 (by kernel_rfl)
    (of_decide_eq_true (by kernel_rfl)) (by unfold Func.isWrapper; first | (rw [if_pos (by decide +kernel)]; kernel_rfl) | (rw [if_neg (by decide +kernel)]; exact ⟨rfl, rfl⟩))
    (fun os started H enc _ Fi => by rw [OpenClaim.pre_eq_preRow]; exact lifted os started H enc Fi)
/-- The tied card. -/
theorem proved : Rows.AircraftTextsUptoCardSaid :=
  Claim7.holds_tied_plain_at .later [] [.data, .data, .data, .data, .sentinel, .sentinel, .widerDeep, .pinned] true (true, "5dce5dcba98ba92a6afee90f47916aa614be58de195b30479e8bf067400b1cbf") true
    row_holds (fun _ h => by cases h) (by kernel_rfl) (fun _ h => by cases h) aircraftTextsUpto_row_tie rfl ⟨rfl, rfl⟩ (by kernel_rfl) rfl
    (fun f fn hf hfn => by
      obtain rfl : f = 4 := Option.some.inj ((show Tryd.prog.funcNamed "skyway/skywaykeep1.AircraftTexts" = some 4 by kernel_rfl).symm.trans hf) |>.symm
      obtain rfl : fn = Tryd.f4 := (Option.some.inj (Tryd.func4.symm.trans hfn)).symm
      exact ⟨by kernel_rfl, fun j t ht => by
        rw [Tryd.params4] at ht
        have hall : ∀ t ∈ [23, 9], Tryd.prog.wantsStandIn t = false := by
          intro t ht
          simp only [List.mem_cons, List.not_mem_nil, or_false] at ht
          rcases ht with rfl | rfl <;> kernel_rfl
        exact hall t (List.mem_iff_getElem?.2 ⟨j, by simpa using ht⟩)⟩)
    (by kernel_rfl)
#print axioms proved
end AircraftTexts
end Go.Proofs.YtddlacjjanincaaDoor

