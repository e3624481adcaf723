/- FlyShifts: a delayed path is at the same places, later. For every input. -/
import Derived.Test.YtampbjbalenckaaShift
import Derived.Test.YtampbjbalenckaaFlyWorks
import Derived.Test.YtampbjbalenckaaPathV
namespace Go.Proofs.Ytampbjbalenckaa
open Go.RowKit Go.ChangeShapes Go.WideShapes
namespace FlyShifts
open Kit Path Plane
/-- Four cells that hold numbers and may be written. -/
abbrev Z4f (w : World) (b : Nat) (t x y h : Int) : Prop := C4 w b t x y h ∧ F4 w b
theorem z4f_new (w : World) (ty : TypeId) (t x y h : Int) : Z4f (w.alloc (.cells #[.int .i64 t, .int .i64 x, .int .i64 y, .int .i64 h] ty)) w.heap.size t x y h := ⟨c4_new w ty t x y h, f4_new w ty t x y h⟩
theorem z4f_keep {W w1 : World} (hb : Below W.heap.size W w1) {b : Nat} {t x y z : Int} (h : Z4f W b t x y z) : Z4f w1 b t x y z :=
  ⟨c4_keep hb h.1, ⟨keepF hb h.1.1.1 h.2.1.1, keepF hb h.1.1.2 h.2.1.2⟩, ⟨keepF hb h.1.2.1 h.2.2.1, keepF hb h.1.2.2 h.2.2.2⟩⟩
set_option maxHeartbeats 1000000 in
theorem bad (v : Value) (later t E : Int) (w : World) (C : Hid (∀ w1, Below w.heap.size w w1 → Calls Try.prog 20 #[v, .int .i64 later] w1 fun e w' => e = .returned (.tuple #[.slice none 0 0, .int .i64 E]) ∧ Below w1.heap.size w1 w')) (hE1 : (E == 0) = false) (hE2 : (E != 0) = true) :
    Calls Try.prog 5 #[v, .int .i64 later, .int .i64 t] w fun e w' => e = .returned (.bool true) ∧ Below w.heap.size w w' := by
  go_enter Try.func5, Try.ntmps5
  go_wp2_with fail
  refine (flyWorks _).mono ?_; rintro e w1 ⟨rfl, hw⟩
  go_wp2_with fail
  refine (C.out _ hw).mono ?_; rintro e w2 ⟨rfl, h⟩
  replace hw := b_next hw h; clear h
  go_wp2_with fail
  go_ret
  exact ⟨retb rfl, hw⟩
abbrev ShC (v : Value) (n : Nat) (T X Y H : Nat → Int) (later : Int) (w : World) : Prop := ∀ w1, Below w.heap.size w w1 → Calls Try.prog 20 #[v, .int .i64 later] w1 fun e w' => ∃ g cap', e = .returned (.tuple #[.slice (some ⟨g, 0, none⟩) n cap', .int .i64 0]) ∧ PV w' (.slice (some ⟨g, 0, none⟩) n cap') n (fun k => T k + later) X Y H ∧ Below w1.heap.size w1 w'
set_option maxHeartbeats 2000000 in
theorem same (v : Value) (n i : Nat) (T X Y H : Nat → Int) (later t px py h : Int) (w : World) (C : Hid (ShC v n T X Y H later w))
    (A : Hid (∀ w1, Below w.heap.size w w1 → Calls Try.prog 16 #[v, .int .i64 t] w1 fun e w' => e = .returned (.tuple #[.agg #[.int .i64 t, .int .i64 px, .int .i64 py, .int .i64 h], .int .i64 0]) ∧ Below w1.heap.size w1 w'))
    (A2 : Hid (∀ w1 v', PV w1 v' n (fun k => T k + later) X Y H → Calls Try.prog 16 #[v', .int .i64 (t + later)] w1 fun e w' => e = .returned (.tuple #[.agg #[.int .i64 (t + later), .int .i64 px, .int .i64 py, .int .i64 h], .int .i64 0]) ∧ Below w1.heap.size w1 w'))
    (ht : -200000 ≤ t ∧ t ≤ 400000) (hl : -200000 ≤ later ∧ later ≤ 200000) :
    Calls Try.prog 5 #[v, .int .i64 later, .int .i64 t] w fun e w' => e = .returned (.bool true) ∧ Below w.heap.size w w' := by
  go_enter Try.func5, Try.ntmps5
  go_wp2_with fail
  refine (flyWorks _).mono ?_; rintro e w1 ⟨rfl, hw⟩
  go_wp2_with fail
  refine (C.out _ hw).mono ?_; rintro e w2 ⟨g, cap', rfl, hpv, hb⟩
  have hw2 := b_next hw hb; clear hb hw
  go_wp2_with fail
  refine (A.out _ hw2).mono ?_; rintro e w3 ⟨rfl, hx⟩
  have hw3 := b_next hw2 hx
  have hsz := hw3.size
  have hpv3 := pv_keep hx hpv
  have z1 := z4f_new w3 28 (t) (px) (py) (h)
  have hw4 := b_alloc hw3 (.cells #[.int .i64 t, .int .i64 px, .int .i64 py, .int .i64 h] 28)
  have hpv4 := pv_keep (b_alloc (Below.refl w3.heap.size w3) (.cells #[.int .i64 t, .int .i64 px, .int .i64 py, .int .i64 h] 28)) hpv3
  have HZ := Lib.hid (And.intro z1 (And.intro hw4 hpv4)); clear z1 hw4 hpv4 hx hpv hpv3 hw2 hw3
  go_wp2_with fail
  refine (A2.out _ _ HZ.out.2.2).mono ?_; rintro e w5 ⟨rfl, hx⟩
  have z1 := z4f_keep hx HZ.out.1; have hw5 := b_next HZ.out.2.1 hx; clear hx
  have n1 := new_ne z1.1.1.1
  go_wp2_with fail

  go_ret
  exact ⟨retb rfl, b_alloc (b_set hw5 hsz _) _⟩
set_option maxHeartbeats 2000000 in
theorem both (v : Value) (n : Nat) (T X Y H : Nat → Int) (later t E : Int) (w : World) (C : Hid (ShC v n T X Y H later w))
    (A : Hid (∀ w1, Below w.heap.size w w1 → Calls Try.prog 16 #[v, .int .i64 t] w1 fun e w' => e = .returned (.tuple #[.agg #[.int .i64 0, .int .i64 0, .int .i64 0, .int .i64 0], .int .i64 E]) ∧ Below w1.heap.size w1 w'))
    (A2 : Hid (∀ w1 v', PV w1 v' n (fun k => T k + later) X Y H → Calls Try.prog 16 #[v', .int .i64 (wrap64 (t + later))] w1 fun e w' => e = .returned (.tuple #[.agg #[.int .i64 0, .int .i64 0, .int .i64 0, .int .i64 0], .int .i64 E]) ∧ Below w1.heap.size w1 w'))
    (hE1 : (E == 0) = false) (hE2 : (E != 0) = true) (hl : -200000 ≤ later ∧ later ≤ 200000) :
    Calls Try.prog 5 #[v, .int .i64 later, .int .i64 t] w fun e w' => e = .returned (.bool true) ∧ Below w.heap.size w w' := by
  go_enter Try.func5, Try.ntmps5
  go_wp2_with fail
  refine (flyWorks _).mono ?_; rintro e w1 ⟨rfl, hw⟩
  go_wp2_with fail
  refine (C.out _ hw).mono ?_; rintro e w2 ⟨g, cap', rfl, hpv, hb⟩
  have hw2 := b_next hw hb; clear hb hw
  go_wp2_with fail
  refine (A.out _ hw2).mono ?_; rintro e w3 ⟨rfl, hx⟩
  have hw3 := b_next hw2 hx
  have hsz := hw3.size
  have hpv3 := pv_keep hx hpv
  have z1 := z4f_new w3 28 (0) (0) (0) (0)
  have hw4 := b_alloc hw3 (.cells #[.int .i64 0, .int .i64 0, .int .i64 0, .int .i64 0] 28)
  have hpv4 := pv_keep (b_alloc (Below.refl w3.heap.size w3) (.cells #[.int .i64 0, .int .i64 0, .int .i64 0, .int .i64 0] 28)) hpv3
  have HZ := Lib.hid (And.intro z1 (And.intro hw4 hpv4)); clear z1 hw4 hpv4 hx hpv hpv3 hw2 hw3
  go_wp2_with fail
  refine (A2.out _ _ HZ.out.2.2).mono ?_; rintro e w5 ⟨rfl, hx⟩
  have z1 := z4f_keep hx HZ.out.1; have hw5 := b_next HZ.out.2.1 hx; clear hx
  have n1 := new_ne z1.1.1.1
  go_wp2_with fail

  go_ret
  exact ⟨retb rfl, by first | exact b_set hw5 hsz _ | exact b_alloc (b_set hw5 hsz _) _ | exact b_set (b_alloc hw5 _) hsz _⟩
theorem walk (l : Value) (later : Int) (t : Int) (W : World) (h_l : Frame.Okc W (.sl [.int, .int, .int, .int]) l) (h_later : -9223372036854775808 ≤ later ∧ later ≤ 9223372036854775807) (h_t : -9223372036854775808 ≤ t ∧ t ≤ 9223372036854775807) :
    Calls Try.prog 5 #[l, .int .i64 later, .int .i64 t] W fun e w' => e = .returned (.bool true) ∧ Below W.heap.size W w' := by
  obtain ⟨n, T, X, Y, H, hv⟩ := pv_of h_l
  by_cases hE : shE T X Y H n later = 0
  · have hp0 : pchk T X Y H n = 0 := by
      unfold shE at hE
      by_cases h : pchk T X Y H n = 0
      · exact h
      · rw [if_pos h] at hE; exact hE
    have hp := (pchk_zero n).1 hp0
    have hr : ¬ (later < -200000 ∨ 200000 < later ∨ T 0 + later < 0 ∨ 200000 < T (n - 1) + later) := by
      intro h
      unfold shE at hE
      rw [if_neg (fun g => g hp0), if_pos h] at hE
      omega
    have C := checkC hv
    rw [hp0] at C
    have hT : ∀ k, k < n → 0 ≤ T k ∧ T k ≤ 200000 := fun k hk => ⟨(hp.2.2.1 k hk).1, (hp.2.2.1 k hk).2.1⟩
    have SC : ShC l n T X Y H later W := fun w1 hb => by
      have hv1 := pv_keep hb hv
      rcases hv1 with ⟨hn, -⟩ | ⟨hn, b, off, cap, rfl, h1, h2, h3⟩
      · have := hp.1; omega
      · refine (shift_ok n cap b off T X Y H later w1 hp.1 hp.2.1 h1 (Nat.le_trans h2 (by decide)) (Lib.hid h3) (Lib.hid fun w2 h2 => C w2 (b_next hb h2)) (hT 0 hp.1) (hT (n - 1) (by have := hp.1; omega)) (by omega) (by omega) (by omega) (by omega) (Lib.hid hT)).mono ?_
        rintro e w' ⟨g, cap', rfl, hg, hc, hm, hrow, hbw⟩
        exact ⟨g, cap', rfl, pv_moved hp.1 hc hm hrow, hbw⟩
    have hp' : pok (fun k => T k + later) X Y H n := by
      refine ⟨hp.1, hp.2.1, fun k hk => ?_, fun k hk => by have := hp.2.2.2 k hk; show T k + later < T (k + 1) + later; omega⟩
      obtain ⟨a, b, c⟩ := hp.2.2.1 k hk
      have l1 := pok_le hp (i := 0) (j := k) (by omega) hk
      have l2 := pok_le hp (i := k) (j := n - 1) (by omega) (by have := hp.1; omega)
      exact ⟨by show 0 ≤ T k + later; omega, by show T k + later ≤ 200000; omega, c⟩
    have hp0' := (pchk_zero n).2 hp'
    by_cases ht : T 0 ≤ t ∧ t ≤ T (n - 1)
    · have hA : atE T X Y H n t = 0 := by unfold atE; rw [if_neg (fun g => g hp0), if_neg (by omega)]
      obtain ⟨i, hi⟩ := seg_ex hp.1 ht.1
      have hA' : atE (fun k => T k + later) X Y H n (t + later) = 0 := by
        unfold atE; rw [if_neg (fun g => g hp0'), if_neg (by show ¬ (t + later < T 0 + later ∨ T (n - 1) + later < t + later); omega)]
      have hi' : seg (fun k => T k + later) n (t + later) i := ⟨hi.1, by show T i + later ≤ t + later; have := hi.2.1; omega, fun h => by show t + later < T (i + 1) + later; have := hi.2.2 h; omega⟩
      have b0 := hT 0 hp.1; have b1 := hT (n - 1) (by have := hp.1; omega)
      have ex : ∀ Z : Nat → Int, atx (fun k => T k + later) Z i (t + later) = atx T Z i t := fun Z => by
        unfold atx
        show tw (Z i) (Z (i + 1)) (t + later - (T i + later)) (T (i + 1) + later - (T i + later)) = _
        rw [show t + later - (T i + later) = t - T i from by omega, show T (i + 1) + later - (T i + later) = T (i + 1) - T i from by omega]
      have eh : ath (fun k => T k + later) H i (t + later) = ath T H i t := by
        unfold ath
        show H i + (H (i + 1) - H i) * (t + later - (T i + later)) / (T (i + 1) + later - (T i + later)) = _
        rw [show t + later - (T i + later) = t - T i from by omega, show T (i + 1) + later - (T i + later) = T (i + 1) - T i from by omega]
      refine same l n i T X Y H later t (atx T X i t) (atx T Y i t) (ath T H i t) W (Lib.hid SC) (Lib.hid fun w1 hb => fly_At_ok (pv_keep hb hv) hA hi) (Lib.hid fun w1 v' hv' => ?_) (by omega) (by omega)
      have c := fly_At_ok hv' hA' hi'
      rw [ex, ex, eh] at c
      exact c
    · have hA : atE T X Y H n t = 12 := by unfold atE; rw [if_neg (fun g => g hp0), if_pos (by omega)]
      have hA' : atE (fun k => T k + later) X Y H n (wrap64 (t + later)) = 12 := by
        have b0 := hT 0 hp.1; have b1 := hT (n - 1) (by have := hp.1; omega)
        unfold atE
        rw [if_neg (fun g => g hp0'), if_pos]
        show wrap64 (t + later) < T 0 + later ∨ T (n - 1) + later < wrap64 (t + later)
        unfold wrap64
        omega
      refine both l n T X Y H later t 12 W (Lib.hid SC) (Lib.hid fun w1 hb => ?_) (Lib.hid fun w1 v' hv' => ?_) (by decide) (by decide) (by omega)
      · have c := fly_At_bad (pv_keep hb hv) (t := t) (by rw [hA]; decide)
        rw [hA] at c; exact c
      · have c := fly_At_bad hv' (t := wrap64 (t + later)) (by rw [hA']; decide)
        rw [hA'] at c; exact c
  · refine bad l later t (shE T X Y H n later) W (Lib.hid fun w1 hb => ?_) (by simpa using hE) (by simpa using hE)
    have C := checkC (pv_keep hb hv)
    unfold shE at hE ⊢
    by_cases hp0 : pchk T X Y H n ≠ 0
    · rw [if_pos hp0]
      exact shift_bad l later _ w1 (Lib.hid C) (by simpa using hp0) (by simpa using hp0)
    · rw [if_neg hp0] at hE ⊢
      have hp0 := Classical.not_not.1 hp0
      by_cases hr : later < -200000 ∨ 200000 < later ∨ T 0 + later < 0 ∨ 200000 < T (n - 1) + later
      · rw [if_pos hr]
        rw [hp0] at C
        have hp := (pchk_zero n).1 hp0
        have hv1 := pv_keep hb hv
        rcases hv1 with ⟨hn, -⟩ | ⟨hn, b, off, cap, rfl, h1, h2, h3⟩
        · have := hp.1; omega
        · exact shift_no n cap b off T X Y H later w1 hp.1 hp.2.1 h1 (Nat.le_trans h2 (by decide)) (Lib.hid h3) (Lib.hid C) ⟨(hp.2.2.1 0 hp.1).1, (hp.2.2.1 0 hp.1).2.1⟩ ⟨(hp.2.2.1 (n - 1) (by have := hp.1; omega)).1, (hp.2.2.1 (n - 1) (by have := hp.1; omega)).2.1⟩ hr
      · rw [if_neg hr] at hE; exact absurd rfl hE
-- FRAME --

set_option maxRecDepth 100000 in
theorem lifted (os : Os) (started : os.Started) (H : Type) (enc : TypeId × Value → H) :
    ReturnsInHanded {} Try.checked os 5 .any (Rows.flyShiftsSpec.pre6 enc Try.prog Try.f5 Rows.flyShiftsRow.domain false) (Rows.flyShiftsSpec.post enc Try.prog Try.f5 false true false false) :=
  Frame.lifted (C := Try.checked) 5 Try.f5 Try.own started (by kernel_rfl) Try.func5 Try.laidOut rfl (by kernel_rfl) 4 rfl Try.underlying4
      (fun ds h => by match ds, h with | [_, _, _], _ => rfl)
      (ChangeSpec.witness6 (enc := enc) (C := Try.checked) false ⟨#[], #[.slice none 0 0, .int .i64 0, .int .i64 0], []⟩ 8 (by kernel_rfl) (by kernel_rfl) (by kernel_rfl) (by kernel_rfl))
      (fun W base args ds ps hval0 hA _ => by
        have hval : ∀ (j : Nat) t v, Try.f5.params[j]? = some t → args[j]? = some v → Value.okWide Try.prog W .any base t v := hval0
        have hA' : DataW.TrodAll enc Try.prog W 0 (fun _ => true) true Try.f5.params.toList args.toList ds ps := hA
        clear hval0 hA
        have hA := hA'
        clear hA'
        rw [Try.params5] at hA hval
        obtain ⟨v0, vs0, d0, ds0, p0, q0, ea, rfl, rfl, tr0, rest0⟩ := trodAll_cons hA
        obtain ⟨v1, vs1, d1, ds1, p1, q1, rfl, rfl, rfl, tr1, rest1⟩ := trodAll_cons rest0
        obtain ⟨v2, vs2, d2, ds2, p2, q2, rfl, rfl, rfl, tr2, rest2⟩ := trodAll_cons rest1
        obtain ⟨rfl, rfl, rfl⟩ := trodAll_nil rest2
        obtain rfl : args = #[v0, v1, v2] := by cases args; simp_all
        clear ea
        have sl_l : Frame.Okc W (.sl [.int, .int, .int, .int]) v0 := by obtain ⟨a, l, c, e⟩ := okWide_slice Try.underlying23 (hval 0 _ v0 rfl rfl); exact Frame.arg_cell (k := 8) (by kernel_rfl) (by have e2 : v0 = .slice a l c := e; rw [e2]; rfl) tr0
        obtain ⟨later, rfl, w_later⟩ := Frame.arg_int Try.underlying3 (hval 1 _ v1 rfl rfl)
        obtain ⟨t, rfl, w_t⟩ := Frame.arg_int Try.underlying3 (hval 2 _ v2 rfl rfl)
        exact walk v0 later t W sl_l (Frame.bd w_later) (Frame.bd w_t))

/-- The statement. -/
theorem proved : Rows.FlyShiftsSaid :=
  OpenClaim.holds_of_wide 5 Try.f5 rfl rfl rfl rfl rfl rfl rfl ⟨rfl, rfl, rfl, rfl, rfl⟩ rfl rfl rfl rfl rfl (by kernel_rfl) Try.func5 (by kernel_rfl)
    (of_decide_eq_true (by kernel_rfl)) (by unfold Func.isWrapper; first | (rw [if_pos (by decide +kernel)]; kernel_rfl) | (rw [if_neg (by decide +kernel)]; exact ⟨rfl, rfl⟩))
    (fun os started H enc _ => lifted os started H enc)
#print axioms proved
end FlyShifts
end Go.Proofs.Ytampbjbalenckaa

