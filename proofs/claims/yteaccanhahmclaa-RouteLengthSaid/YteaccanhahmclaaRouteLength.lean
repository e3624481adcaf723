/- RouteLength: the length of a route is that of its fixes on the chart, which begin and end as planned. For every input. -/
import Derived.Test.YteaccanhahmclaaRtW
import Derived.Test.YteaccanhahmclaaExpD
import Derived.Test.YteaccanhahmclaaRowM
namespace Go.Proofs.Yteaccanhahmclaa
open Go.RowKit Go.ChangeShapes Go.WideShapes
namespace RouteLength
open Kit Chart Route
theorem slice_lits {w : World} {r fx a : Value} {n m nr : Nat} {N : Nat → ByteArray} {X Y : Nat → Int} {M : Nat → ByteArray} {l : Nat → Nat} {S : Nat → Nat → ByteArray} {RT : Nat → ByteArray} (h1 : SV w r nr RT) (h2 : FV w fx n N X Y) (h3 : AV w a m M l S) :
    (∃ A c, r = .slice A nr c) ∧ (∃ A c, fx = .slice A n c) ∧ ∃ A c, a = .slice A m c := ⟨sv_slice h1, fv_slice h2, av_slice h3⟩
set_option maxRecDepth 100000 in
set_option maxHeartbeats 8000000 in
theorem go_bad (cl kd f t : ByteArray) (off sp h : Int) (A1 A2 A3 : Option Addr) (n c1 m c2 nr c3 : Nat) (E : Int) (w : World) (hE1 : (E != 0) = true) (WK : Hid (∀ w1, Calls Try.prog 46 #[] w1 fun e w' => e = .returned (.bool true) ∧ Below w1.heap.size w1 w'))
    (EX : Hid (∀ w1, Below w.heap.size w w1 → Calls Try.prog 47 #[Plan.plan cl kd f t off sp h (.slice A3 nr c3), .agg #[.slice A1 n c1, .slice A2 m c2]] w1 fun e w' => e = .returned (.tuple #[.slice none 0 0, .int .i64 E]) ∧ Below w1.heap.size w1 w')) :
    Calls Try.prog 12 #[Plan.plan cl kd f t off sp h (.slice A3 nr c3), .agg #[.slice A1 n c1, .slice A2 m c2]] w fun e w' => e = .returned (.bool true) ∧ Below w.heap.size w w' := by
  have hE0 : (E == 0) = false := by simpa using hE1
  have n8 := Plan.n8_new w 107 cl kd f t off sp h (.slice A3 nr c3)
  have N0 : Hid (Plan.N8 ((w.alloc (.cells #[.string cl, .string kd, .string f, .string t, .int .i64 off, .int .i64 sp, .int .i64 h, .slice A3 nr c3] 107)).alloc (.cells #[.slice A1 n c1, .slice A2 m c2] 38)) w.heap.size cl kd f t off sp h (.slice A3 nr c3)) := Lib.hid (Plan.n8_keep (b_alloc (Below.refl _ _) _) n8)
  have p2 := p2v_new (w.alloc (.cells #[.string cl, .string kd, .string f, .string t, .int .i64 off, .int .i64 sp, .int .i64 h, .slice A3 nr c3] 107)) 38 (.slice A1 n c1) (.slice A2 m c2)
  rw [World.size_alloc] at p2
  have C0 := Lib.hid p2
  have W0 := Lib.hid (b_alloc (b_alloc (Below.refl w.heap.size w) (.cells #[.string cl, .string kd, .string f, .string t, .int .i64 off, .int .i64 sp, .int .i64 h, .slice A3 nr c3] 107)) (.cells #[.slice A1 n c1, .slice A2 m c2] 38))
  clear n8 p2
  go_enter Try.func12, Try.ntmps12
  go_wp2_with fail
  (with_reducible refine (WK.out _).mono ?_); rintro e w1 ⟨rfl, hb⟩
  have W1 := Lib.hid (b_next W0.out hb); have N1 := Lib.hid (Plan.n8_keep hb N0.out); have C1 := Lib.hid (p2v_keep hb C0.out); clear hb
  obtain ⟨x0, x1, x2, x3, x4, x5, x6, x7⟩ := N1.out
  obtain ⟨y0, y1⟩ := C1.out
  go_wp2_with fail
  (with_reducible refine (EX.out _ W1.out).mono ?_); rintro e w2 ⟨rfl, hb⟩
  have W2 := Lib.hid (b_next W1.out hb); have N2 := Lib.hid (Plan.n8_keep hb N1.out); have C2 := Lib.hid (p2v_keep hb C1.out); clear hb x0 x1 x2 x3 x4 x5 x6 x7 y0 y1
  go_wp2_with fail
  go_ret
  exact ⟨by first | rfl | exact retb rfl, W2.out⟩
set_option maxRecDepth 100000 in
set_option maxHeartbeats 8000000 in
theorem go_one (cl kd f t : ByteArray) (off sp h : Int) (A1 A2 A3 : Option Addr) (n c1 m c2 nr c3 : Nat) (k : Nat) (T : List ByteArray) (FXx FYy : Nat → Int) (w : World) (hk : k = 1) (h0 : nth T 0 = f) (h1 : f = t) (WK : Hid (∀ w1, Calls Try.prog 46 #[] w1 fun e w' => e = .returned (.bool true) ∧ Below w1.heap.size w1 w'))
    (EX : Hid (∀ w1, Below w.heap.size w w1 → Calls Try.prog 47 #[Plan.plan cl kd f t off sp h (.slice A3 nr c3), .agg #[.slice A1 n c1, .slice A2 m c2]] w1 fun e w' => (∃ v, e = .returned (.tuple #[v, .int .i64 0]) ∧ FV w' v k (nth T) FXx FYy) ∧ Below w1.heap.size w1 w')) :
    Calls Try.prog 12 #[Plan.plan cl kd f t off sp h (.slice A3 nr c3), .agg #[.slice A1 n c1, .slice A2 m c2]] w fun e w' => e = .returned (.bool true) ∧ Below w.heap.size w w' := by
  subst hk
  have H0 := Lib.hid h0; have H1 := Lib.hid h1; clear h0 h1
  have n8 := Plan.n8_new w 107 cl kd f t off sp h (.slice A3 nr c3)
  have N0 : Hid (Plan.N8 ((w.alloc (.cells #[.string cl, .string kd, .string f, .string t, .int .i64 off, .int .i64 sp, .int .i64 h, .slice A3 nr c3] 107)).alloc (.cells #[.slice A1 n c1, .slice A2 m c2] 38)) w.heap.size cl kd f t off sp h (.slice A3 nr c3)) := Lib.hid (Plan.n8_keep (b_alloc (Below.refl _ _) _) n8)
  have p2 := p2v_new (w.alloc (.cells #[.string cl, .string kd, .string f, .string t, .int .i64 off, .int .i64 sp, .int .i64 h, .slice A3 nr c3] 107)) 38 (.slice A1 n c1) (.slice A2 m c2)
  rw [World.size_alloc] at p2
  have C0 := Lib.hid p2
  have W0 := Lib.hid (b_alloc (b_alloc (Below.refl w.heap.size w) (.cells #[.string cl, .string kd, .string f, .string t, .int .i64 off, .int .i64 sp, .int .i64 h, .slice A3 nr c3] 107)) (.cells #[.slice A1 n c1, .slice A2 m c2] 38))
  clear n8 p2
  go_enter Try.func12, Try.ntmps12
  go_wp2_with fail
  (with_reducible refine (WK.out _).mono ?_); rintro e w1 ⟨rfl, hb⟩
  have W1 := Lib.hid (b_next W0.out hb); have N1 := Lib.hid (Plan.n8_keep hb N0.out); have C1 := Lib.hid (p2v_keep hb C0.out); clear hb
  obtain ⟨x0, x1, x2, x3, x4, x5, x6, x7⟩ := N1.out
  obtain ⟨y0, y1⟩ := C1.out
  go_wp2_with fail
  (with_reducible refine (EX.out _ W1.out).mono ?_); rintro e w2 ⟨⟨v, rfl, hfv⟩, hb⟩
  have W2 := Lib.hid (b_next W1.out hb); have N2 := Lib.hid (Plan.n8_keep hb N1.out); have C2 := Lib.hid (p2v_keep hb C1.out)
  clear hb x0 x1 x2 x3 x4 x5 x6 x7 y0 y1
  obtain ⟨b, o, c, rfl, hc1, hc2, h3⟩ := fv_at hfv (by decide)
  have f0 := (h3 0 (by decide)).c0
  rw [Nat.zero_mul, Nat.add_zero, H0.out] at f0
  have F2 := Lib.hid f0
  have hc3 : c ≤ 9223372036854775807 := Nat.le_trans hc2 (by decide)
  have ts : (f.toList == t.toList) = true := by rw [H1.out]; simp
  have ts2 : (f.toList == f.toList) = true := by simp
  clear f0 h3 hfv
  go_wp2_with fail
  refine d_region (by kernel_rfl) (by kernel_rfl) ?_
  repeat
    first
      | (refine d_plain (by with_reducible rfl) ?_; apply Exists.intro; refine ⟨fun wq hc hq => ?_, ?_⟩)
      | (refine d_on (by with_reducible rfl) (by rfl) (by with_reducible rfl) ?_; apply Exists.intro; refine ⟨fun wq hc hq => ?_, ?_⟩)
      | (refine d_off (by with_reducible rfl) (by rfl) (by rfl) ?_)
      | (refine d_void (by with_reducible rfl) (by rfl) ?_)
    try any_goals
      (have q0 := keep (cls hq) N2.out.c2; have q1 := keep (cls hq) N2.out.c3; have q2 := keep (cls hq) F2.out; clear hc
       go_simp
       first
         | rfl)
    simp only [Act.put, List.setIfInBounds_toArray, List.set_cons_zero, List.set_cons_succ]
  refine d_nil ?_
  intro w3 hbz
  go_wp2_with fail
  go_ret
  exact ⟨by first | rfl | exact retb rfl | exact retb (by simp), b_next W2.out hbz⟩
set_option maxRecDepth 100000 in
set_option maxHeartbeats 8000000 in
theorem go (cl kd f t : ByteArray) (off sp h : Int) (A1 A2 A3 : Option Addr) (n c1 m c2 nr c3 : Nat) (k : Nat) (T : List ByteArray) (FXx FYy : Nat → Int) (L : Int) (w : World) (hk : 2 ≤ k) (hk2 : k ≤ 62) (hT : k = T.length) (h0 : nth T 0 = f) (h1 : nth T (k - 1) = t) (WK : Hid (∀ w1, Calls Try.prog 46 #[] w1 fun e w' => e = .returned (.bool true) ∧ Below w1.heap.size w1 w'))
    (EX : Hid (∀ w1, Below w.heap.size w w1 → Calls Try.prog 47 #[Plan.plan cl kd f t off sp h (.slice A3 nr c3), .agg #[.slice A1 n c1, .slice A2 m c2]] w1 fun e w' => (∃ v, e = .returned (.tuple #[v, .int .i64 0]) ∧ FV w' v k (nth T) FXx FYy) ∧ Below w1.heap.size w1 w'))
    (RL : Hid (∀ w1 v, FV w1 v k (nth T) FXx FYy → Calls Try.prog 48 #[v] w1 fun e w' => e = .returned (.tuple #[.int .i64 L, .int .i64 0]) ∧ Below w1.heap.size w1 w'))
    (CL : Hid (∀ w1 v, Below w.heap.size w w1 → SV w1 v k (nth T) → Calls Try.prog 26 #[.agg #[.slice A1 n c1, .slice A2 m c2], v] w1 fun e w' => e = .returned (.tuple #[.int .i64 L, .int .i64 0]) ∧ Below w1.heap.size w1 w')) :
    Calls Try.prog 12 #[Plan.plan cl kd f t off sp h (.slice A3 nr c3), .agg #[.slice A1 n c1, .slice A2 m c2]] w fun e w' => e = .returned (.bool true) ∧ Below w.heap.size w w' := by
  have H0 := Lib.hid h0; have H1 := Lib.hid h1; have HT := Lib.hid hT; clear h0 h1 hT
  have n8 := Plan.n8_new w 107 cl kd f t off sp h (.slice A3 nr c3)
  have N0 : Hid (Plan.N8 ((w.alloc (.cells #[.string cl, .string kd, .string f, .string t, .int .i64 off, .int .i64 sp, .int .i64 h, .slice A3 nr c3] 107)).alloc (.cells #[.slice A1 n c1, .slice A2 m c2] 38)) w.heap.size cl kd f t off sp h (.slice A3 nr c3)) := Lib.hid (Plan.n8_keep (b_alloc (Below.refl _ _) _) n8)
  have p2 := p2v_new (w.alloc (.cells #[.string cl, .string kd, .string f, .string t, .int .i64 off, .int .i64 sp, .int .i64 h, .slice A3 nr c3] 107)) 38 (.slice A1 n c1) (.slice A2 m c2)
  rw [World.size_alloc] at p2
  have C0 := Lib.hid p2
  have W0 := Lib.hid (b_alloc (b_alloc (Below.refl w.heap.size w) (.cells #[.string cl, .string kd, .string f, .string t, .int .i64 off, .int .i64 sp, .int .i64 h, .slice A3 nr c3] 107)) (.cells #[.slice A1 n c1, .slice A2 m c2] 38))
  clear n8 p2
  go_enter Try.func12, Try.ntmps12
  go_wp2_with fail
  (with_reducible refine (WK.out _).mono ?_); rintro e w1 ⟨rfl, hb⟩
  have W1 := Lib.hid (b_next W0.out hb); have N1 := Lib.hid (Plan.n8_keep hb N0.out); have C1 := Lib.hid (p2v_keep hb C0.out); clear hb
  obtain ⟨x0, x1, x2, x3, x4, x5, x6, x7⟩ := N1.out
  obtain ⟨y0, y1⟩ := C1.out
  go_wp2_with fail
  (with_reducible refine (EX.out _ W1.out).mono ?_); rintro e w2 ⟨⟨v, rfl, hfv⟩, hb⟩
  have W2 := Lib.hid (b_next W1.out hb); have N2 := Lib.hid (Plan.n8_keep hb N1.out); have C2 := Lib.hid (p2v_keep hb C1.out)
  clear hb x0 x1 x2 x3 x4 x5 x6 x7 y0 y1
  have FV2 := Lib.hid hfv
  obtain ⟨b, o, c, rfl, hc1, hc2, h3⟩ := fv_at hfv (by omega)
  have H3 := Lib.hid h3
  have hc3 : c ≤ 9223372036854775807 := Nat.le_trans hc2 (by decide)
  clear h3 hfv
  have g1 : ((k : Int) == 1) = false := by simp; omega
  obtain ⟨i0, hi, hz0, hz1, hz2⟩ := info_parts info_str
  have IN := Lib.hid (And.intro hi (And.intro hz0 (And.intro hz1 hz2))); clear hi hz0 hz1 hz2
  go_wp2_with fail
  go_loopw [7, 46] (fun v s wr => ∃ j : Nat, j ≤ k ∧ s = .int .i64 j ∧ wr.ownsRow w2.heap.size 9 1 v (lst j (nth T)).length (vs (lst j (nth T))) ∧ Below w2.heap.size w2 wr) (fun _ s _ => k - (intOf s).toNat)
  case atStart => exact ⟨0, Nat.zero_le _, rfl, ⟨rfl, Or.inl ⟨rfl, rfl⟩⟩, Below.refl _ _⟩
  case round =>
    obtain ⟨j, hj, rfl, hown, hbl⟩ := hrel
    have WR := Lib.hid hbl; have OW := Lib.hid hown; clear hown
    by_cases hlt : j < k
    · have hl : (j : Int) < (k : Int) := by omega
      obtain ⟨f0, f1, f2⟩ := (e3_keep hbl (H3.out j hlt))
      have NX : Hid (lst (j + 1) (nth T) = lst j (nth T) ++ [nth T j]) := Lib.hid (lst_snoc _ _)
      have hll : (lst j (nth T)).length ≤ 62 := by rw [lst_len]; omega
      clear hbl
      generalize nth T j = s0 at *
      generalize FXx j = x at *
      generalize FYy j = y at *
      have WA := Lib.hid (b_alloc (b_alloc WR.out (.cells #[.string s0, .int .i64 x, .int .i64 y] 45)) (.cells #[.string s0] 9))
      have OA := Lib.hid (own_vs (b_alloc (b_alloc (Below.refl wr.heap.size wr) (.cells #[.string s0, .int .i64 x, .int .i64 y] 45)) (.cells #[.string s0] 9)) OW.out)
      have so := sl_one (wr.alloc (.cells #[.string s0, .int .i64 x, .int .i64 y] 45)) s0 9
      rw [World.size_alloc] at so
      have SO := Lib.hid so
      have HZ := Lib.hid WA.out.size
      clear so
      go_wp2_with (at_builtin; refine append_sl rfl (.tmp 50) (.tmp 53) 46 rfl w2.heap.size 9 i0 _ Try.underlying46 IN.out.1 IN.out.2.1 IN.out.2.2.1 IN.out.2.2.2 rfl _ (lst j (nth T)) rfl OA.out _ [s0] rfl SO.out (by simp; omega) HZ.out ?_; intro v2 w9 hown2 hg2)
      have W9 := Lib.hid (WA.out.grown hg2 WA.out.size (fun q hq => (OA.out.lt q hq).1))
      have O9 : Hid (w9.ownsRow w2.heap.size 9 1 v2 (lst (j + 1) (nth T)).length (vs (lst (j + 1) (nth T)))) := Lib.hid (by rw [NX.out]; exact hown2)
      clear hown2 hg2 f0 f1 f2
      go_roundw
      case rel => exact ⟨j + 1, by omega, by go_num, O9.out, W9.out⟩
      case measure => simp [intOf]; omega
    · have hjk : j = k := by omega
      subst hjk
      have SV3 : SV wr u7 j (nth T) := by
        have := sl_own OW.out
        have e : lst j (nth T) = T := by rw [HT.out]; exact lst_self T
        rw [e] at this
        have e2 : SV wr u7 T.length (nth T) := this
        rw [← HT.out] at e2; exact e2
      have SV3' := Lib.hid SV3
      obtain ⟨tb, to, tc, rfl, ht1, ht2, htc⟩ := sv_at SV3 (by omega)
      have ht3 : tc ≤ 9223372036854775807 := Nat.le_trans ht2 (by decide)
      have t0 := htc 0 (by omega)
      have t1 := htc (j - 1) (by omega)
      rw [Nat.add_zero, H0.out] at t0
      rw [H1.out] at t1
      obtain ⟨P, hP⟩ : ∃ P, P = j - 1 := ⟨_, rfl⟩
      rw [← hP] at t1
      have T01 := Lib.hid (And.intro t0 t1)
      have RLC := Lib.hid (RL.out wr _ (fv_keep hbl FV2.out))
      have N3 := Lib.hid (Plan.n8_keep hbl N2.out); have C3 := Lib.hid (p2v_keep hbl C2.out)
      clear t0 t1 htc SV3 hbl
      go_wp2_with fail
      (with_reducible refine RLC.out.mono ?_); rintro e w4 ⟨rfl, hb⟩
      have W4 := Lib.hid (b_next WR.out hb); have N4 := Lib.hid (Plan.n8_keep hb N3.out); have C4 := Lib.hid (p2v_keep hb C3.out)
      have CLC := Lib.hid (CL.out w4 _ (b_next W2.out W4.out) (sv_keep hb SV3'.out))
      have S4 := Lib.hid (And.intro (keep hb T01.out.1) (keep hb T01.out.2))
      clear hb
      obtain ⟨y0, y1⟩ := C4.out
      go_wp2_with fail
      (with_reducible refine CLC.out.mono ?_); rintro e w5 ⟨rfl, hb⟩
      have W5 := Lib.hid (b_next W4.out hb); have N5 := Lib.hid (Plan.n8_keep hb N4.out)
      have S5 := Lib.hid (And.intro (keep hb S4.out.1) (keep hb S4.out.2))
      clear hb y0 y1
      have e1 : (L == L) = true := by simp
      have e2 : (f.toList == f.toList) = true := by simp
      have e3 : (t.toList == t.toList) = true := by simp
      have e4 : (1 : Int) < (j : Int) := by omega
      have u1 : IntKind.i64.wrap ((j : Int) - 1) = (P : Int) := by rw [IntWalk.i64_in _ (by omega)]; omega
      have bP : (P : Int) < (j : Int) := by omega
      have z1 : (0 : Int) < (j : Int) := by omega
      have z2 : 0 < j := by omega
      clear hP
      go_wp2_with fail
      refine d_region (by kernel_rfl) (by kernel_rfl) ?_
      repeat
        first
          | (refine d_plain (by with_reducible rfl) ?_; apply Exists.intro; refine ⟨fun wq hc hq => ?_, ?_⟩)
          | (refine d_on (by with_reducible rfl) (by rfl) (by with_reducible rfl) ?_; apply Exists.intro; refine ⟨fun wq hc hq => ?_, ?_⟩)
          | (refine d_off (by with_reducible rfl) (by rfl) (by rfl) ?_)
          | (refine d_void (by with_reducible rfl) (by rfl) ?_)
        try any_goals
          (have q0 := keep (cls hq) N5.out.c2; have q1 := keep (cls hq) N5.out.c3; have q2 := keep (cls hq) S5.out.1; have q3 := keep (cls hq) S5.out.2; clear hc
           go_simp
           first
             | rfl)
        simp only [Act.put, List.setIfInBounds_toArray, List.set_cons_zero, List.set_cons_succ]
      refine d_nil ?_
      intro w6 hbz
      clear u1
      go_wp2_with fail
      go_ret
      exact ⟨by first | rfl | exact retb rfl | exact retb (by simp), b_next W2.out (b_next W5.out hbz)⟩
theorem walk (p_call p_kind p_from p_to : ByteArray) (p_off p_speed p_height : Int) (p_route c_fixes c_airways : Value) (W : World) (_h_p_call : p_call.size ≤ maxLen) (_h_p_kind : p_kind.size ≤ maxLen) (_h_p_from : p_from.size ≤ maxLen) (_h_p_to : p_to.size ≤ maxLen) (_h_p_off : -9223372036854775808 ≤ p_off ∧ p_off ≤ 9223372036854775807) (_h_p_speed : -9223372036854775808 ≤ p_speed ∧ p_speed ≤ 9223372036854775807) (_h_p_height : -9223372036854775808 ≤ p_height ∧ p_height ≤ 9223372036854775807) (h_p_route : Frame.Okc W (.sl [.str]) p_route) (h_c_fixes : Frame.Okc W (.sl [.str, .int, .int]) c_fixes) (h_c_airways : Frame.Okc W (.sl [.str, .sl [.str]]) c_airways) :
    Calls Try.prog 12 #[Plan.plan p_call p_kind p_from p_to p_off p_speed p_height p_route, .agg #[c_fixes, c_airways]] W fun e w' => e = .returned (.bool true) ∧ Below W.heap.size W w' := by
  obtain ⟨nr, RT, hr⟩ := sv_of h_p_route
  obtain ⟨n, N, X, Y, m, M, l, S, hc⟩ := cv_of h_c_fixes h_c_airways
  have E := fun w1 (hb : Below W.heap.size W w1) => expandC (cl := p_call) (kd := p_kind) (f := p_from) (t := p_to) (off := p_off) (sp := p_speed) (h := p_height) (sv_keep hb hr) (cv_keep hb hc)
  have CLC := fun w1 v (r : Nat) (T : Nat → ByteArray) (hb : Below W.heap.size W w1) (hs : SV w1 v r T) => lengthC (cv_keep hb hc) hs
  obtain ⟨fx', a', e, hf, ha⟩ := hc.ex
  injection e with e
  obtain ⟨rfl, rfl⟩ : c_fixes = fx' ∧ c_airways = a' := by simpa using e
  clear e
  obtain ⟨⟨A3, c3, rfl⟩, ⟨A1, c1, rfl⟩, A2, c2, rfl⟩ := slice_lits hr hf ha
  by_cases hE : rtE n N X Y m M l S p_call p_kind p_from p_to p_off p_speed p_height nr RT = 0
  · obtain ⟨hpl, o⟩ := rt_ok hE
    obtain ⟨T, hT⟩ : ∃ T, T = rts m M l S p_from p_to (lst nr RT) := ⟨_, rfl⟩
    have h1 := rts_len o; have h62 := o.most; have hfst := rts_first (m := m) (M := M) (l := l) (S := S) (f := p_from) (t := p_to) (lst nr RT); have hlst := rts_last o; have hfn := rts_fnd o
    rw [← hT] at h1 h62 hfst hlst hfn
    have EX : ∀ w1, Below W.heap.size W w1 → Calls Try.prog 47 #[Plan.plan p_call p_kind p_from p_to p_off p_speed p_height (.slice A3 nr c3), .agg #[.slice A1 n c1, .slice A2 m c2]] w1 fun e w' => (∃ v, e = .returned (.tuple #[v, .int .i64 0]) ∧ FV w' v T.length (nth T) (fun j => X (pos n N (nth T j))) (fun j => Y (pos n N (nth T j)))) ∧ Below w1.heap.size w1 w' := fun w1 hb => (E w1 hb).mono fun e w' ⟨hp, hb'⟩ => by
      rcases hp with ⟨h0, -⟩ | ⟨-, v, he, hv⟩
      · exact absurd hE h0
      · rw [← hT] at hv; exact ⟨⟨v, he, hv⟩, hb'⟩
    by_cases hk : T.length = 1
    · exact go_one p_call p_kind p_from p_to p_off p_speed p_height A1 A2 A3 n c1 m c2 nr c3 T.length T _ _ W hk hfst (by rw [hk] at hlst; rw [← hfst]; exact hlst) (Lib.hid routeWorks) (Lib.hid EX)
    · have hgd : ∀ j, j < T.length → Plane.good (X (pos n N (nth T j))) (Y (pos n N (nth T j))) := fun j hj => (fe_ok ((cerr_ok o.chart).2.2.1 _ (fix_some (hfn _ (nth_mem hj))).1)).2.2
      have hck := rck_of (n := T.length) (X := fun j => X (pos n N (nth T j))) (Y := fun j => Y (pos n N (nth T j))) (by omega) hgd
      have RL : ∀ w1 v, FV w1 v T.length (nth T) (fun j => X (pos n N (nth T j))) (fun j => Y (pos n N (nth T j))) → Calls Try.prog 48 #[v] w1 fun e w' => e = .returned (.tuple #[.int .i64 (lsum (rstp (fun j => X (pos n N (nth T j))) (fun j => Y (pos n N (nth T j)))) T.length), .int .i64 0]) ∧ Below w1.heap.size w1 w' := fun w1 v hv => by
        have c := rlenC hv w1 (Below.refl _ _)
        unfold rlen at c
        rw [if_neg (fun e => e hck)] at c
        exact c
      have CL : ∀ w1 v, Below W.heap.size W w1 → SV w1 v T.length (nth T) → Calls Try.prog 26 #[.agg #[.slice A1 n c1, .slice A2 m c2], v] w1 fun e w' => e = .returned (.tuple #[.int .i64 (lsum (rstp (fun j => X (pos n N (nth T j))) (fun j => Y (pos n N (nth T j)))) T.length), .int .i64 0]) ∧ Below w1.heap.size w1 w' := fun w1 v hb hs => by
        have c := CLC w1 v _ _ hb hs
        unfold lenR at c
        rw [if_neg (fun e => e o.chart), if_neg (by omega), if_neg (fun e => e (ferr_zero fun j hj => by unfold lerr; rw [if_neg (hfn _ (nth_mem hj))]))] at c
        exact c
      exact go p_call p_kind p_from p_to p_off p_speed p_height A1 A2 A3 n c1 m c2 nr c3 T.length T _ _ _ W (by omega) h62 rfl hfst hlst (Lib.hid routeWorks) (Lib.hid EX) (Lib.hid RL) (Lib.hid CL)
  · have EX := fun w1 (hb : Below W.heap.size W w1) => (E w1 hb).mono fun e w' (h : ExpPost n N X Y _ _ e w' ∧ Below w1.heap.size w1 w') => (by
      obtain ⟨⟨-, he⟩ | ⟨h0, -⟩, hb'⟩ := h
      · exact ⟨he, hb'⟩
      · exact absurd h0 hE : e = .returned (.tuple #[.slice none 0 0, .int .i64 (rtE n N X Y m M l S p_call p_kind p_from p_to p_off p_speed p_height nr RT)]) ∧ Below w1.heap.size w1 w')
    exact go_bad p_call p_kind p_from p_to p_off p_speed p_height A1 A2 A3 n c1 m c2 nr c3 _ W (by simpa using hE) (Lib.hid routeWorks) (Lib.hid EX)
-- FRAME --

set_option maxRecDepth 100000 in
theorem lifted (os : Os) (started : os.Started) (H : Type) (enc : TypeId × Value → H) :
    ReturnsInHanded {} Try.checked os 12 .any (Rows.routeLengthSpec.pre6 enc Try.prog Try.f12 Rows.routeLengthRow.domain false) (Rows.routeLengthSpec.post enc Try.prog Try.f12 false true false false) :=
  Frame.lifted (C := Try.checked) 12 Try.f12 Try.own started (by kernel_rfl) Try.func12 Try.laidOut rfl (by kernel_rfl) 4 rfl Try.underlying4
      (fun ds h => by match ds, h with | [_, _], _ => rfl)
      (ChangeSpec.witness6 (enc := enc) (C := Try.checked) false ⟨#[], #[.agg #[.string ⟨#[]⟩, .string ⟨#[]⟩, .string ⟨#[]⟩, .string ⟨#[]⟩, .int .i64 0, .int .i64 0, .int .i64 0, .slice none 0 0], .agg #[.slice none 0 0, .slice none 0 0]], []⟩ 8 (by kernel_rfl) (by kernel_rfl) (by kernel_rfl) (by kernel_rfl))
      (fun W base args ds ps hval0 hA _ => by
        have hval : ∀ (j : Nat) t v, Try.f12.params[j]? = some t → args[j]? = some v → Value.okWide Try.prog W .any base t v := hval0
        have hA' : DataW.TrodAll enc Try.prog W 0 (fun _ => true) true Try.f12.params.toList args.toList ds ps := hA
        clear hval0 hA
        have hA := hA'
        clear hA'
        rw [Try.params12] at hA hval
        obtain ⟨v0, vs0, d0, ds0, p0, q0, ea, rfl, rfl, tr0, rest0⟩ := trodAll_cons hA
        obtain ⟨v1, vs1, d1, ds1, p1, q1, rfl, rfl, rfl, tr1, rest1⟩ := trodAll_cons rest0
        obtain ⟨rfl, rfl, rfl⟩ := trodAll_nil rest1
        obtain rfl : args = #[v0, v1] := by cases args; simp_all
        clear ea
        obtain ⟨cs_p, e_p, hl_p, hc_p⟩ := Frame.arg_agg Try.underlying107 (k := 8) (ks := [.str, .str, .str, .str, .int, .int, .int, .sl [.str]]) (by kernel_rfl) (hval 0 _ v0 rfl rfl) tr0
        subst e_p
        obtain ⟨c_p_call, c_p_kind, c_p_from, c_p_to, c_p_off, c_p_speed, c_p_height, c_p_route, rfl⟩ : ∃ c_p_call c_p_kind c_p_from c_p_to c_p_off c_p_speed c_p_height c_p_route, cs_p = [c_p_call, c_p_kind, c_p_from, c_p_to, c_p_off, c_p_speed, c_p_height, c_p_route] := by match cs_p, hl_p with | [x0, x1, x2, x3, x4, x5, x6, x7], _ => exact ⟨x0, x1, x2, x3, x4, x5, x6, x7, rfl⟩
        have o_p_call : Frame.Okc W (.str) c_p_call := hc_p 0 (by decide) (by simp)
        obtain ⟨p_call, e_p_call, w_p_call⟩ := o_p_call.str_inv; subst e_p_call
        have o_p_kind : Frame.Okc W (.str) c_p_kind := hc_p 1 (by decide) (by simp)
        obtain ⟨p_kind, e_p_kind, w_p_kind⟩ := o_p_kind.str_inv; subst e_p_kind
        have o_p_from : Frame.Okc W (.str) c_p_from := hc_p 2 (by decide) (by simp)
        obtain ⟨p_from, e_p_from, w_p_from⟩ := o_p_from.str_inv; subst e_p_from
        have o_p_to : Frame.Okc W (.str) c_p_to := hc_p 3 (by decide) (by simp)
        obtain ⟨p_to, e_p_to, w_p_to⟩ := o_p_to.str_inv; subst e_p_to
        have o_p_off : Frame.Okc W (.int) c_p_off := hc_p 4 (by decide) (by simp)
        obtain ⟨p_off, e_p_off, w_p_off⟩ := o_p_off.int_inv; subst e_p_off
        have o_p_speed : Frame.Okc W (.int) c_p_speed := hc_p 5 (by decide) (by simp)
        obtain ⟨p_speed, e_p_speed, w_p_speed⟩ := o_p_speed.int_inv; subst e_p_speed
        have o_p_height : Frame.Okc W (.int) c_p_height := hc_p 6 (by decide) (by simp)
        obtain ⟨p_height, e_p_height, w_p_height⟩ := o_p_height.int_inv; subst e_p_height
        have o_p_route : Frame.Okc W (.sl [.str]) c_p_route := hc_p 7 (by decide) (by simp)
        obtain ⟨cs_c, e_c, hl_c, hc_c⟩ := Frame.arg_agg Try.underlying38 (k := 8) (ks := [.sl [.str, .int, .int], .sl [.str, .sl [.str]]]) (by kernel_rfl) (hval 1 _ v1 rfl rfl) tr1
        subst e_c
        obtain ⟨c_c_fixes, c_c_airways, rfl⟩ : ∃ c_c_fixes c_c_airways, cs_c = [c_c_fixes, c_c_airways] := by match cs_c, hl_c with | [x0, x1], _ => exact ⟨x0, x1, rfl⟩
        have o_c_fixes : Frame.Okc W (.sl [.str, .int, .int]) c_c_fixes := hc_c 0 (by decide) (by simp)
        have o_c_airways : Frame.Okc W (.sl [.str, .sl [.str]]) c_c_airways := hc_c 1 (by decide) (by simp)
        exact walk p_call p_kind p_from p_to p_off p_speed p_height c_p_route c_c_fixes c_c_airways W w_p_call w_p_kind w_p_from w_p_to w_p_off w_p_speed w_p_height o_p_route o_c_fixes o_c_airways)

/-- The statement. -/
theorem proved : Rows.RouteLengthSaid :=
  OpenClaim.holds_of_wide 12 Try.f12 rfl rfl rfl rfl rfl rfl rfl ⟨rfl, rfl, rfl, rfl, rfl⟩ rfl rfl rfl rfl rfl (by kernel_rfl) Try.func12 (by kernel_rfl)
    (of_decide_eq_true (by kernel_rfl)) (by unfold Func.isWrapper; first | (rw [if_pos (by decide +kernel)]; kernel_rfl) | (rw [if_neg (by decide +kernel)]; exact ⟨rfl, rfl⟩))
    (fun os started H enc _ => lifted os started H enc)
#print axioms proved
end RouteLength
end Go.Proofs.Yteaccanhahmclaa

