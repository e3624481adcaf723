/- math.Atan2 and math.Floor give some float, whatever is asked of them: the bits of a NaN are drawn. -/
import Derived.Test.YtkapllakofndlaaDoorSinW
namespace Go.Proofs.YtkapllakofndlaaDoor
open Go.RowKit
namespace Ang
/-- Some draws. -/
def Dr (w w' : World) : Prop := ∃ n, w' = w.drewN n
theorem dr_refl (w : World) : Dr w w := ⟨0, by rw [World.drewN_zero]⟩
theorem dr_trans {w w1 w2 : World} (h : Dr w w1) (g : Dr w1 w2) : Dr w w2 := by
  obtain ⟨n, rfl⟩ := h
  obtain ⟨k, rfl⟩ := g
  exact ⟨n + k, by rw [World.drewN_drewN]⟩
theorem dr_below {w w1 : World} (h : Dr w w1) : Below w.heap.size w w1 := by
  obtain ⟨n, rfl⟩ := h
  exact ⟨rfl, rfl, rfl, Nat.le_refl _, fun _ _ => rfl⟩
theorem choose_any (q : Question) (w : World) : ∃ n w1, (if q.forced = true then Result.ok 0 w else Result.ok (q.cut (w.tape w.drawn q)) w.drew) = Result.ok n w1 ∧ Dr w w1 := by
  split
  · exact ⟨0, w, rfl, dr_refl w⟩
  · exact ⟨_, w.drew, rfl, ⟨1, rfl⟩⟩
theorem conv_run {x : Nat} {w : World} : (convert 69 3 (.float .f64 x)).run Tryd.prog w = (Conv.floatToInt .f64 x .i64).run Tryd.prog w := by
  simp [convert, run_underlying Tryd.underlying69, run_underlying Tryd.underlying3]
theorem ar_any {P : Program} (op : BinOp) (ho : op = .add ∨ op = .sub ∨ op = .mul ∨ op = .quo) (x y : Nat) (w : World) : ∃ r w1, (∀ t, (binOp op t (.float .f64 x) (.float .f64 y)).run P w = .ok (.float .f64 r) w1) ∧ Dr w w1 := by
  cases hb : floatBits op .f64 x y with
  | some r => exact ⟨r, w, fun t => run_float_arith w op t .f64 x y r hb, dr_refl w⟩
  | none =>
    obtain ⟨n, w1, h1, h2⟩ := choose_any (.nanBits .f64 x y) w
    refine ⟨n, w1, fun t => ?_, h2⟩
    unfold floatBits at hb
    rcases ho with rfl | rfl | rfl | rfl <;> (simp only at hb; simp [binOp, Op.floatArith, hb, h1, Result.andThen])
theorem wrap_rng (m : Int) : -9223372036854775808 ≤ wrap64 m ∧ wrap64 m ≤ 9223372036854775807 := by unfold wrap64; omega
theorem fi_any (x : Nat) (w : World) : ∃ n w1, (convert 69 3 (.float .f64 x)).run Tryd.prog w = .ok (.int .i64 n) w1 ∧ (-9223372036854775808 ≤ n ∧ n ≤ 9223372036854775807) ∧ Dr w w1 := by
  cases hb : floatToIntVal .f64 x .i64 with
  | some n =>
    refine ⟨n, w, run_convert_float_int w _ _ .f64 .i64 x n (by rw [Tryd.underlying69]; rfl) Tryd.underlying3 hb, ?_, dr_refl w⟩
    have := floatToIntVal_wf hb
    exact Frame.bd this
  | none =>
    obtain ⟨n, w1, h1, h2⟩ := choose_any (.floatToInt .f64 x .i64) w
    refine ⟨IntKind.i64.wrap n, w1, ?_, ?_, h2⟩
    · rw [conv_run]
      unfold floatToIntVal at hb
      unfold Conv.floatToInt
      cases hd : (FloatKind.decode .f64 x).toInt .zero with
      | none => simp [h1, Result.andThen]
      | some m =>
        rw [hd] at hb
        have hc : ¬ (IntKind.i64.min ≤ m ∧ m ≤ IntKind.i64.max) := fun h => by simp only at hb; rw [if_pos h] at hb; cases hb
        simp only [if_neg hc]
        simp [h1, Result.andThen]
    · have : IntKind.i64.wrap (n : Int) = wrap64 n := IntWalk.i64_left _
      rw [this]; exact wrap_rng _
/-- Some float, and some draws. -/
def AnyF (w : World) (e : Ending) (w' : World) : Prop := ∃ r, e = .returned (.float .f64 r) ∧ Dr w w'
theorem anyf_trans {w w1 w' : World} {e : Ending} (h : Dr w w1) (g : AnyF w1 e w') : AnyF w e w' := by
  obtain ⟨r, h1, h2⟩ := g
  exact ⟨r, h1, dr_trans h h2⟩
theorem floor_split (x : Nat) (d : Ieee.Datum) (hd : FloatKind.f64.decode x = d) : Extern.MathFloor.toIntegral "math.archFloor" .down #[.float .f64 x] = Ieee.Datum.casesOn (motive := fun _ => Sem Value) d
    (fun a b c => pure (.float .f64 (FloatKind.f64.encode ((Ieee.Datum.number a b c).integral .down)))) (fun a => pure (.float .f64 (FloatKind.f64.encode ((Ieee.Datum.infinity a).integral .down))))
    (fun a b => if FloatKind.f64.format.quiet b = b then pure (.float .f64 x) else choose (.extern "math.Floor,Ceil,Trunc,RoundToEven.signallingNaN kept" 2) >>= fun k => pure (.float .f64 (if k == 1 then x else FloatKind.f64.encode (.nan a (FloatKind.f64.format.quiet b))))) := by
  delta Extern.MathFloor.toIntegral Extern.MathFloor.toIntegral.match_2
  show Extern.MathFloor.toIntegral.match_1 _ (FloatKind.f64.decode x) _ _ = _
  rw [hd]
  cases d <;> rfl
theorem floor_run (x : Nat) (w : World) : ∃ r w1, (callFunc 68 #[.float .f64 x]).run Tryd.prog w = .ok (.value (.float .f64 r)) w1 ∧ Dr w w1 := by
  rw [run_callFunc_extern (e := Extern.MathFloor.toIntegral "math.archFloor" .down) Tryd.func68 (by kernel_rfl) (by kernel_rfl) (by kernel_rfl) (by kernel_rfl), floor_split x _ rfl]
  generalize FloatKind.f64.decode x = d
  cases d with
  | number a b c => exact ⟨FloatKind.f64.encode ((Ieee.Datum.number a b c).integral .down), w, rfl, dr_refl w⟩
  | infinity a => exact ⟨FloatKind.f64.encode ((Ieee.Datum.infinity a).integral .down), w, rfl, dr_refl w⟩
  | nan a b =>
    by_cases hq : FloatKind.f64.format.quiet b = b
    · refine ⟨x, w, ?_, dr_refl w⟩
      show (Sem.run Tryd.prog (if FloatKind.f64.format.quiet b = b then _ else _) w).andThen _ = _
      rw [if_pos hq]
      rfl
    · obtain ⟨n, w1, h1, h2⟩ := choose_any (.extern "math.Floor,Ceil,Trunc,RoundToEven.signallingNaN kept" 2) w
      refine ⟨if n == 1 then x else FloatKind.f64.encode (.nan a (FloatKind.f64.format.quiet b)), w1, ?_, h2⟩
      show (Sem.run Tryd.prog (if FloatKind.f64.format.quiet b = b then _ else _) w).andThen _ = _
      rw [if_neg hq]
      simp [h1, Result.andThen]
set_option maxRecDepth 100000 in
theorem floor_w (x : Nat) (w : World) : Calls Tryd.prog 32 #[.float .f64 x] w (AnyF w) := by
  obtain ⟨r, w1, h, hd⟩ := floor_run x w
  have HD := Lib.hid hd; clear hd
  go_enter Tryd.func32, Tryd.ntmps32
  go_wp2
  go_ret
  exact ⟨r, rfl, HD.out⟩
set_option maxRecDepth 100000 in
set_option maxHeartbeats 1000000 in
theorem xatan_w (x : Nat) (w : World) : Calls Tryd.prog 117 #[.float .f64 x] w (AnyF w) := by
  obtain ⟨z, w_1, h_w_1, d_w_1⟩ := ar_any (P := Tryd.prog) .mul (by simp) x x w
  obtain ⟨a1, w_2, h_w_2, d_w_2⟩ := ar_any (P := Tryd.prog) .mul (by simp) 13829429103926125972 z w_1
  obtain ⟨b1, w_3, h_w_3, d_w_3⟩ := ar_any (P := Tryd.prog) .add (by simp) a1 13848613196940411002 w_2
  obtain ⟨a2, w_4, h_w_4, d_w_4⟩ := ar_any (P := Tryd.prog) .mul (by simp) b1 z w_3
  obtain ⟨b2, w_5, h_w_5, d_w_5⟩ := ar_any (P := Tryd.prog) .add (by simp) a2 13858350711815275123 w_4
  obtain ⟨a3, w_6, h_w_6, d_w_6⟩ := ar_any (P := Tryd.prog) .mul (by simp) b2 z w_5
  obtain ⟨b3, w_7, h_w_7, d_w_7⟩ := ar_any (P := Tryd.prog) .add (by simp) a3 13861719834326579749 w_6
  obtain ⟨a4, w_8, h_w_8, d_w_8⟩ := ar_any (P := Tryd.prog) .mul (by simp) b3 z w_7
  obtain ⟨b4, w_9, h_w_9, d_w_9⟩ := ar_any (P := Tryd.prog) .add (by simp) a4 13857635882265799822 w_8
  obtain ⟨n, w_10, h_w_10, d_w_10⟩ := ar_any (P := Tryd.prog) .mul (by simp) z b4 w_9
  obtain ⟨c0, w_11, h_w_11, d_w_11⟩ := ar_any (P := Tryd.prog) .add (by simp) z 4627690253511319612 w_10
  obtain ⟨e1, w_12, h_w_12, d_w_12⟩ := ar_any (P := Tryd.prog) .mul (by simp) c0 z w_11
  obtain ⟨c1, w_13, h_w_13, d_w_13⟩ := ar_any (P := Tryd.prog) .add (by simp) e1 4640010388282866213 w_12
  obtain ⟨e2, w_14, h_w_14, d_w_14⟩ := ar_any (P := Tryd.prog) .mul (by simp) c1 z w_13
  obtain ⟨c2, w_15, h_w_15, d_w_15⟩ := ar_any (P := Tryd.prog) .add (by simp) e2 4646322940342877755 w_14
  obtain ⟨e3, w_16, h_w_16, d_w_16⟩ := ar_any (P := Tryd.prog) .mul (by simp) c2 z w_15
  obtain ⟨c3, w_17, h_w_17, d_w_17⟩ := ar_any (P := Tryd.prog) .add (by simp) e3 4647246694406179306 w_16
  obtain ⟨e4, w_18, h_w_18, d_w_18⟩ := ar_any (P := Tryd.prog) .mul (by simp) c3 z w_17
  obtain ⟨c4, w_19, h_w_19, d_w_19⟩ := ar_any (P := Tryd.prog) .add (by simp) e4 4641049159275471596 w_18
  obtain ⟨q, w_20, h_w_20, d_w_20⟩ := ar_any (P := Tryd.prog) .quo (by simp) n c4 w_19
  obtain ⟨v, w_21, h_w_21, d_w_21⟩ := ar_any (P := Tryd.prog) .mul (by simp) x q w_20
  obtain ⟨y, w_22, h_w_22, d_w_22⟩ := ar_any (P := Tryd.prog) .add (by simp) v x w_21
  have HD := Lib.hid (dr_trans (dr_trans (dr_trans (dr_trans (dr_trans (dr_trans (dr_trans (dr_trans (dr_trans (dr_trans (dr_trans (dr_trans (dr_trans (dr_trans (dr_trans (dr_trans (dr_trans (dr_trans (dr_trans (dr_trans (dr_trans (dr_trans (dr_refl w) d_w_1) d_w_2) d_w_3) d_w_4) d_w_5) d_w_6) d_w_7) d_w_8) d_w_9) d_w_10) d_w_11) d_w_12) d_w_13) d_w_14) d_w_15) d_w_16) d_w_17) d_w_18) d_w_19) d_w_20) d_w_21) d_w_22)
  clear d_w_1 d_w_2 d_w_3 d_w_4 d_w_5 d_w_6 d_w_7 d_w_8 d_w_9 d_w_10 d_w_11 d_w_12 d_w_13 d_w_14 d_w_15 d_w_16 d_w_17 d_w_18 d_w_19 d_w_20 d_w_21 d_w_22
  go_enter Tryd.func117, Tryd.ntmps117
  go_wp2
  go_ret
  exact ⟨y, rfl, HD.out⟩
set_option maxRecDepth 100000 in
set_option maxHeartbeats 1000000 in
theorem satan_w (x : Nat) (w : World) : Calls Tryd.prog 116 #[.float .f64 x] w (AnyF w) := by
  cases h1 : (FloatKind.f64.format.order x 4604119971053405471 == some .lt || FloatKind.f64.format.order x 4604119971053405471 == some .eq) with
  | true =>
    go_enter Tryd.func116, Tryd.ntmps116
    go_wp2_with fail
    (with_reducible refine (xatan_w x w).mono ?_); rintro e v1 ⟨r1, rfl, g1⟩
    have HD := Lib.hid g1; clear g1
    go_wp2_with fail
    go_ret
    exact ⟨r1, rfl, HD.out⟩
  | false =>
    cases h2 : (FloatKind.f64.format.order x 4612618744449965542 == some .gt) with
    | true =>
      obtain ⟨i, w1, e1, d1⟩ := ar_any (P := Tryd.prog) .quo (by simp) 4607182418800017408 x w
      have D1 := Lib.hid d1; clear d1
      go_enter Tryd.func116, Tryd.ntmps116
      go_wp2_with fail
      (with_reducible refine (xatan_w i w1).mono ?_); rintro e v1 ⟨r1, rfl, g1⟩
      obtain ⟨j, w2, e2, d2⟩ := ar_any (P := Tryd.prog) .sub (by simp) 4609753056924675352 r1 v1
      obtain ⟨k, w3, e3, d3⟩ := ar_any (P := Tryd.prog) .add (by simp) j 4364452196894661639 w2
      have HD := Lib.hid (dr_trans (dr_trans (dr_trans D1.out g1) d2) d3); clear g1 d2 d3
      go_wp2_with fail
      go_ret
      exact ⟨k, rfl, HD.out⟩
    | false =>
      obtain ⟨i, w1, e1, d1⟩ := ar_any (P := Tryd.prog) .sub (by simp) x 4607182418800017408 w
      obtain ⟨i2, w2, e2, d2⟩ := ar_any (P := Tryd.prog) .add (by simp) x 4607182418800017408 w1
      obtain ⟨i3, w3, e3, d3⟩ := ar_any (P := Tryd.prog) .quo (by simp) i i2 w2
      have D1 := Lib.hid (dr_trans (dr_trans d1 d2) d3); clear d1 d2 d3
      go_enter Tryd.func116, Tryd.ntmps116
      go_wp2_with fail
      (with_reducible refine (xatan_w i3 w3).mono ?_); rintro e v1 ⟨r1, rfl, g1⟩
      obtain ⟨j, w4, e4, d4⟩ := ar_any (P := Tryd.prog) .add (by simp) 4605249457297304856 r1 v1
      obtain ⟨k, w5, e5, d5⟩ := ar_any (P := Tryd.prog) .add (by simp) j 4359948597267291143 w4
      have HD := Lib.hid (dr_trans (dr_trans (dr_trans D1.out g1) d4) d5); clear g1 d4 d5
      go_wp2_with fail
      go_ret
      exact ⟨k, rfl, HD.out⟩
set_option maxRecDepth 100000 in
theorem atan_w (x : Nat) (w : World) : Calls Tryd.prog 111 #[.float .f64 x] w (AnyF w) := by
  have rn := neg_run (P := Tryd.prog)
  cases h1 : (FloatKind.f64.format.order x 0 == some .eq) with
  | true =>
    go_enter Tryd.func111, Tryd.ntmps111
    go_wp2_with fail
    go_ret
    exact ⟨x, rfl, dr_refl w⟩
  | false =>
    cases h2 : (FloatKind.f64.format.order x 0 == some .gt) with
    | true =>
      go_enter Tryd.func111, Tryd.ntmps111
      go_wp2_with fail
      (with_reducible refine (satan_w x w).mono ?_); rintro e v1 ⟨r1, rfl, g1⟩
      have HD := Lib.hid g1; clear g1
      go_wp2_with fail
      go_ret
      exact ⟨r1, rfl, HD.out⟩
    | false =>
      go_enter Tryd.func111, Tryd.ntmps111
      go_wp2_with fail
      (with_reducible refine (satan_w (Op.negFloat .f64 x) w).mono ?_); rintro e v1 ⟨r1, rfl, g1⟩
      have HD := Lib.hid g1; clear g1
      go_wp2_with fail
      go_ret
      exact ⟨_, rfl, HD.out⟩
theorem atanP_w (x : Nat) (w : World) : Calls Tryd.prog 97 #[.float .f64 x] w (AnyF w) := by
  go_enter Tryd.func97, Tryd.ntmps97
  go_wp2_with fail
  (with_reducible refine (atan_w x w).mono ?_); rintro e v1 ⟨r1, rfl, g1⟩
  have HD := Lib.hid g1; clear g1
  go_wp2_with fail
  go_ret
  exact ⟨r1, rfl, HD.out⟩
/-- Some answer, the world as it was. -/
def AnyB (w : World) (e : Ending) (w' : World) : Prop := ∃ b, e = .returned (.bool b) ∧ w = w'
theorem nan_any (x : Nat) (w : World) : Calls Tryd.prog 90 #[.float .f64 x] w (AnyB w) := by
  go_enter Tryd.func90, Tryd.ntmps90
  go_wp2
  go_ret
  exact ⟨_, rfl, rfl⟩
set_option maxRecDepth 100000 in
theorem inf_any (x : Nat) (k : Int) (w : World) : Calls Tryd.prog 91 #[.float .f64 x, .int .i64 k] w (AnyB w) := by
  have rn := neg_run (P := Tryd.prog)
  by_cases h0 : k = 0
  · subst h0
    go_enter Tryd.func91, Tryd.ntmps91
    go_wp2_with fail
    (with_reducible refine (abs_w x _).mono ?_); rintro e w1 ⟨rfl, rfl⟩
    generalize (bits .andNot .u64 (x : Int) 9223372036854775808).toNat = a at *
    go_wp2_with fail
    go_ret
    exact ⟨_, rfl, rfl⟩
  · have q : (k == 0) = false := by simp [h0]
    go_enter Tryd.func91, Tryd.ntmps91
    go_wp2_with fail
    all_goals (go_ret; exact ⟨_, rfl, rfl⟩)
set_option maxRecDepth 100000 in
theorem copysign_w (x y : Nat) (w : World) : Calls Tryd.prog 96 #[.float .f64 x, .float .f64 y] w (AnyF w) := by
  have tb := to_bits; have ob := of_bits
  go_enter Tryd.func96, Tryd.ntmps96
  go_wp2
  go_ret
  exact ⟨_, rfl, dr_refl w⟩
theorem signbit_any (x : Nat) (w : World) : Calls Tryd.prog 95 #[.float .f64 x] w (AnyB w) := by
  have tb := to_bits
  go_enter Tryd.func95, Tryd.ntmps95
  go_wp2
  go_ret
  exact ⟨_, rfl, rfl⟩
theorem nanv_w (w : World) : Calls Tryd.prog 92 #[] w (AnyF w) := by
  have ob := of_bits
  go_enter Tryd.func92, Tryd.ntmps92
  go_wp2
  go_ret
  exact ⟨_, rfl, dr_refl w⟩
set_option maxRecDepth 100000 in
set_option maxHeartbeats 4000000 in
theorem atan2_w (y x : Nat) (w : World) : Calls Tryd.prog 71 #[.float .f64 y, .float .f64 x] w (AnyF w) := by
  go_enter Tryd.func71, Tryd.ntmps71
  go_wp2_with fail
  (with_reducible refine (nan_any y _).mono ?_); rintro e v1 ⟨b1, rfl, rfl⟩
  cases b1 with
  | true =>
    go_wp2_with fail
    (with_reducible refine (nanv_w _).mono ?_); rintro e v1 ⟨r1, rfl, g1⟩
    have HD := Lib.hid g1; clear g1
    go_wp2_with fail
    go_ret
    exact ⟨_, rfl, HD.out⟩
  | false =>
    go_wp2_with fail
    (with_reducible refine (nan_any x _).mono ?_); rintro e v1 ⟨b2, rfl, rfl⟩
    cases b2 with
    | true =>
      go_wp2_with fail
      (with_reducible refine (nanv_w _).mono ?_); rintro e v1 ⟨r1, rfl, g1⟩
      have HD := Lib.hid g1; clear g1
      go_wp2_with fail
      go_ret
      exact ⟨_, rfl, HD.out⟩
    | false =>
      cases h3 : (FloatKind.f64.format.order y 0 == some .eq) with
      | true =>
        cases h4 : (FloatKind.f64.format.order x 0 == some .gt || FloatKind.f64.format.order x 0 == some .eq) with
        | true =>
          go_wp2_with fail
          (with_reducible refine (signbit_any x _).mono ?_); rintro e v1 ⟨b3, rfl, rfl⟩
          cases b3 with
          | true =>
            go_wp2_with fail
            (with_reducible refine (copysign_w _ _ _).mono ?_); rintro e v1 ⟨r1, rfl, g1⟩
            have HD := Lib.hid g1; clear g1
            go_wp2_with fail
            go_ret
            exact ⟨_, rfl, HD.out⟩
          | false =>
            go_wp2_with fail
            (with_reducible refine (copysign_w _ _ _).mono ?_); rintro e v1 ⟨r1, rfl, g1⟩
            have HD := Lib.hid g1; clear g1
            go_wp2_with fail
            go_ret
            exact ⟨_, rfl, HD.out⟩
        | false =>
          go_wp2_with fail
          (with_reducible refine (copysign_w _ _ _).mono ?_); rintro e v1 ⟨r1, rfl, g1⟩
          have HD := Lib.hid g1; clear g1
          go_wp2_with fail
          go_ret
          exact ⟨_, rfl, HD.out⟩
      | false =>
        cases h5 : (FloatKind.f64.format.order x 0 == some .eq) with
        | true =>
          go_wp2_with fail
          (with_reducible refine (copysign_w _ _ _).mono ?_); rintro e v1 ⟨r1, rfl, g1⟩
          have HD := Lib.hid g1; clear g1
          go_wp2_with fail
          go_ret
          exact ⟨_, rfl, HD.out⟩
        | false =>
          go_wp2_with fail
          (with_reducible refine (inf_any x 0 _).mono ?_); rintro e v1 ⟨b4, rfl, rfl⟩
          cases b4 with
          | true =>
            go_wp2_with fail
            (with_reducible refine (inf_any x 1 _).mono ?_); rintro e v1 ⟨b5, rfl, rfl⟩
            cases b5 with
            | true =>
              go_wp2_with fail
              (with_reducible refine (inf_any y 0 _).mono ?_); rintro e v1 ⟨b6, rfl, rfl⟩
              cases b6 with
              | true =>
                go_wp2_with fail
                (with_reducible refine (copysign_w _ _ _).mono ?_); rintro e v1 ⟨r1, rfl, g1⟩
                have HD := Lib.hid g1; clear g1
                go_wp2_with fail
                go_ret
                exact ⟨_, rfl, HD.out⟩
              | false =>
                go_wp2_with fail
                (with_reducible refine (copysign_w _ _ _).mono ?_); rintro e v1 ⟨r1, rfl, g1⟩
                have HD := Lib.hid g1; clear g1
                go_wp2_with fail
                go_ret
                exact ⟨_, rfl, HD.out⟩
            | false =>
              go_wp2_with fail
              (with_reducible refine (inf_any y 0 _).mono ?_); rintro e v1 ⟨b6, rfl, rfl⟩
              cases b6 with
              | true =>
                go_wp2_with fail
                (with_reducible refine (copysign_w _ _ _).mono ?_); rintro e v1 ⟨r1, rfl, g1⟩
                have HD := Lib.hid g1; clear g1
                go_wp2_with fail
                go_ret
                exact ⟨_, rfl, HD.out⟩
              | false =>
                go_wp2_with fail
                (with_reducible refine (copysign_w _ _ _).mono ?_); rintro e v1 ⟨r1, rfl, g1⟩
                have HD := Lib.hid g1; clear g1
                go_wp2_with fail
                go_ret
                exact ⟨_, rfl, HD.out⟩
          | false =>
            go_wp2_with fail
            (with_reducible refine (inf_any y 0 _).mono ?_); rintro e v1 ⟨b7, rfl, rfl⟩
            cases b7 with
            | true =>
              go_wp2_with fail
              (with_reducible refine (copysign_w _ _ _).mono ?_); rintro e v1 ⟨r1, rfl, g1⟩
              have HD := Lib.hid g1; clear g1
              go_wp2_with fail
              go_ret
              exact ⟨_, rfl, HD.out⟩
            | false =>
              obtain ⟨q, w1, e1, d1⟩ := ar_any (P := Tryd.prog) .quo (by simp) y x w
              have D1 := Lib.hid d1; clear d1
              go_wp2_with fail
              (with_reducible refine (atanP_w q w1).mono ?_); rintro e v1 ⟨r1, rfl, g1⟩
              obtain ⟨j, w2, e2, d2⟩ := ar_any (P := Tryd.prog) .add (by simp) r1 4614256656552045848 v1
              obtain ⟨k, w3, e3, d3⟩ := ar_any (P := Tryd.prog) .sub (by simp) r1 4614256656552045848 v1
              have H1 := Lib.hid (dr_trans D1.out g1); have H2 := Lib.hid (dr_trans (dr_trans D1.out g1) d2); have H3 := Lib.hid (dr_trans (dr_trans D1.out g1) d3)
              clear g1 d2 d3
              cases h7 : (FloatKind.f64.format.order x 0 == some .lt) with
              | true =>
                cases h8 : (FloatKind.f64.format.order r1 0 == some .lt || FloatKind.f64.format.order r1 0 == some .eq) with
                | true =>
                  go_wp2_with fail
                  go_ret
                  exact ⟨_, rfl, H2.out⟩
                | false =>
                  go_wp2_with fail
                  go_ret
                  exact ⟨_, rfl, H3.out⟩
              | false =>
                go_wp2_with fail
                go_ret
                exact ⟨_, rfl, H1.out⟩
theorem atan2P_w (y x : Nat) (w : World) : Calls Tryd.prog 33 #[.float .f64 y, .float .f64 x] w (AnyF w) := by
  go_enter Tryd.func33, Tryd.ntmps33
  go_wp2_with fail
  (with_reducible refine (atan2_w _ _ _).mono ?_); rintro e v1 ⟨r1, rfl, g1⟩
  have HD := Lib.hid g1; clear g1
  go_wp2_with fail
  go_ret
  exact ⟨_, rfl, HD.out⟩
end Ang
end Go.Proofs.YtkapllakofndlaaDoor
