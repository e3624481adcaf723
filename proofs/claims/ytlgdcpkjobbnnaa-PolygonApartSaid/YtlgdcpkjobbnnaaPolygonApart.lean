/- PolygonApart: a polygon is apart from a point only if no vertex is near, and never if it contains the point; a greater distance is not easier. For every input. -/
import Derived.Test.YtlgdcpkjobbnnaaPolyWorks
import Derived.Test.YtlgdcpkjobbnnaaPolyQ
namespace Go.Proofs.Ytlgdcpkjobbnnaa
open Go.RowKit Go.ChangeShapes Go.WideShapes
namespace PolygonApart
open Kit Plane Poly
set_option maxHeartbeats 2000000 in
theorem bad (v : Value) (qx qy d E : Int) (w : World) (A1 : Hid (∀ w1, Below w.heap.size w w1 → Calls Try.prog 18 #[v, .agg #[.int .i64 qx, .int .i64 qy], .int .i64 d] w1 fun e w' => e = .returned (.tuple #[.bool false, .int .i64 E]) ∧ Below w1.heap.size w1 w')) (hE1 : (E == 0) = false) (hE2 : (E != 0) = true) :
    Calls Try.prog 4 #[v, .agg #[.int .i64 qx, .int .i64 qy], .int .i64 d] w fun e w' => e = .returned (.bool true) ∧ Below w.heap.size w w' := by
  go_enter Try.func4, Try.ntmps4
  have Hq := Lib.hid (p2_new w 23 qx qy)
  have HW := Lib.hid (b_alloc (Below.refl w.heap.size w) (.cells #[.int .i64 qx, .int .i64 qy] 23))
  go_wp2_with fail
  refine (polygonWorks _).mono ?_; rintro e w1 ⟨rfl, h⟩
  have hp := p2_keep h Hq.out; have hw := b_next HW.out h; clear h
  go_wp2_with fail
  refine (A1.out _ hw).mono ?_; rintro e w2 ⟨rfl, h⟩
  replace hp := p2_keep h hp; replace hw := b_next hw h; clear h
  go_wp2_with fail
  go_ret
  exact ⟨retb rfl, hw⟩
set_option maxHeartbeats 2000000 in
theorem yes (n cap b off : Nat) (X Y : Nat → Int) (qx qy d d2 p : Int) (less : Bool) (w : World) (h0 : 0 < n) (hc : n ≤ cap) (hm : cap ≤ 9223372036854775807) (HV : Hid (∀ k, k < n → E2 w b off k (X k) (Y k)))
    (A1 : Hid (∀ w1, Below w.heap.size w w1 → Calls Try.prog 18 #[.slice (some ⟨b, off, none⟩) n cap, .agg #[.int .i64 qx, .int .i64 qy], .int .i64 d] w1 fun e w' => e = .returned (.tuple #[.bool true, .int .i64 0]) ∧ Below w1.heap.size w1 w')) (L1 : Hid (∀ w1, Below w.heap.size w w1 → Calls Try.prog 19 #[.slice (some ⟨b, off, none⟩) n cap, .agg #[.int .i64 qx, .int .i64 qy]] w1 fun e w' => e = .returned (.tuple #[.int .i64 p, .int .i64 0]) ∧ Below w1.heap.size w1 w')) (A2 : Hid (∀ w1, Below w.heap.size w w1 → Calls Try.prog 18 #[.slice (some ⟨b, off, none⟩) n cap, .agg #[.int .i64 qx, .int .i64 qy], .int .i64 d2] w1 fun e w' => e = .returned (.tuple #[.bool less, .int .i64 0]) ∧ Below w1.heap.size w1 w')) (hd2 : Hid (d / 2 = d2)) (hd0 : 0 ≤ d) (hd1 : d ≤ 1000000) (hp0 : p < 0) (hless : Hid (less = true)) (WI : Hid (∀ k, k < n → ∀ w, Calls Try.prog 20 #[.agg #[.int .i64 (X k), .int .i64 (Y k)], .agg #[.int .i64 qx, .int .i64 qy], .int .i64 d] w fun e w' => e = .returned (.bool false) ∧ Below w.heap.size w w')) :
    Calls Try.prog 4 #[.slice (some ⟨b, off, none⟩) n cap, .agg #[.int .i64 qx, .int .i64 qy], .int .i64 d] w fun e w' => e = .returned (.bool true) ∧ Below w.heap.size w w' := by
  go_enter Try.func4, Try.ntmps4
  have Hq := Lib.hid (p2_new w 23 qx qy)
  have HW := Lib.hid (b_alloc (Below.refl w.heap.size w) (.cells #[.int .i64 qx, .int .i64 qy] 23))
  go_wp2_with fail
  refine (polygonWorks _).mono ?_; rintro e w1 ⟨rfl, h⟩
  have hp := p2_keep h Hq.out; have hw := b_next HW.out h; clear h
  go_wp2_with fail
  refine (A1.out _ hw).mono ?_; rintro e w2 ⟨rfl, h⟩
  replace hp := p2_keep h hp; replace hw := b_next hw h; clear h
  go_wp2_with fail
  refine (L1.out _ hw).mono ?_; rintro e w3 ⟨rfl, h⟩
  replace hp := p2_keep h hp; replace hw := b_next hw h; clear h
  obtain ⟨wa, rfl⟩ : ∃ wa : World, wa = w3 := ⟨_, rfl⟩
  go_wp2_with fail
  go_loopw [45] (fun s wr => ∃ k : Nat, k ≤ n ∧ s = .int .i64 k ∧ Below w.heap.size w wr ∧ P2 wr w.heap.size qx qy) (fun s _ => n - (intOf s).toNat)
  case atStart => exact ⟨0, Nat.zero_le _, rfl, hw, hp⟩
  case round =>
    obtain ⟨k, hk, rfl, hbl, hp⟩ := hrel
    by_cases hlt : k < n
    · obtain ⟨c0, c1⟩ := e2_keep hbl (HV.out k hlt)
      have hl : (k : Int) < (n : Int) := by omega
      have WW := Lib.hid (WI.out k hlt)
      have hp3 := p2_keep (b_alloc (Below.refl wr.heap.size wr) (.cells #[.int .i64 (X k), .int .i64 (Y k)] 23)) hp
      have X1 := Lib.hid hp3; clear hp3
      have nn := new_ne hp.1
      go_wp2_with fail
      refine (WW.out _).mono ?_; rintro e w4 ⟨rfl, h⟩
      have hb4 := b_next (b_alloc (Below.refl wr.heap.size wr) _) h; clear h
      have hp4 := p2_keep hb4 hp
      go_wp2_with fail
      go_roundw
      case rel => first | exact ⟨k + 1, by omega, by go_num, b_next hbl hb4, hp4⟩ | ((repeat apply Exists.intro); exact ⟨⟨k + 1, by omega, by go_num, b_next hbl hb4, hp4⟩, rfl⟩)
      case measure => simp [intOf]; omega
    · have hl : ¬ (k : Int) < (n : Int) := by omega
      have hdd := hd2.out
      go_wp2_with fail
      have hle := hless.out
      subst hle
      refine (A2.out _ hbl).mono ?_; rintro e w5 ⟨rfl, h⟩
      have hw5 := b_next hbl h; clear h
      go_wp2_with fail
      all_goals (go_ret; exact ⟨retb rfl, hw5⟩)
set_option maxHeartbeats 2000000 in
theorem inn (n cap b off : Nat) (X Y : Nat → Int) (qx qy d d2 p : Int) (less : Bool) (w : World) (h0 : 0 < n) (hc : n ≤ cap) (hm : cap ≤ 9223372036854775807) (HV : Hid (∀ k, k < n → E2 w b off k (X k) (Y k)))
    (A1 : Hid (∀ w1, Below w.heap.size w w1 → Calls Try.prog 18 #[.slice (some ⟨b, off, none⟩) n cap, .agg #[.int .i64 qx, .int .i64 qy], .int .i64 d] w1 fun e w' => e = .returned (.tuple #[.bool false, .int .i64 0]) ∧ Below w1.heap.size w1 w')) (L1 : Hid (∀ w1, Below w.heap.size w w1 → Calls Try.prog 19 #[.slice (some ⟨b, off, none⟩) n cap, .agg #[.int .i64 qx, .int .i64 qy]] w1 fun e w' => e = .returned (.tuple #[.int .i64 p, .int .i64 0]) ∧ Below w1.heap.size w1 w')) (A2 : Hid (∀ w1, Below w.heap.size w w1 → Calls Try.prog 18 #[.slice (some ⟨b, off, none⟩) n cap, .agg #[.int .i64 qx, .int .i64 qy], .int .i64 d2] w1 fun e w' => e = .returned (.tuple #[.bool less, .int .i64 0]) ∧ Below w1.heap.size w1 w')) (hd2 : Hid (d / 2 = d2)) (hd0 : 0 ≤ d) (hd1 : d ≤ 1000000) (hp0 : 0 ≤ p) :
    Calls Try.prog 4 #[.slice (some ⟨b, off, none⟩) n cap, .agg #[.int .i64 qx, .int .i64 qy], .int .i64 d] w fun e w' => e = .returned (.bool true) ∧ Below w.heap.size w w' := by
  go_enter Try.func4, Try.ntmps4
  have Hq := Lib.hid (p2_new w 23 qx qy)
  have HW := Lib.hid (b_alloc (Below.refl w.heap.size w) (.cells #[.int .i64 qx, .int .i64 qy] 23))
  go_wp2_with fail
  refine (polygonWorks _).mono ?_; rintro e w1 ⟨rfl, h⟩
  have hp := p2_keep h Hq.out; have hw := b_next HW.out h; clear h
  go_wp2_with fail
  refine (A1.out _ hw).mono ?_; rintro e w2 ⟨rfl, h⟩
  replace hp := p2_keep h hp; replace hw := b_next hw h; clear h
  go_wp2_with fail
  refine (L1.out _ hw).mono ?_; rintro e w3 ⟨rfl, h⟩
  replace hp := p2_keep h hp; replace hw := b_next hw h; clear h
  obtain ⟨wa, rfl⟩ : ∃ wa : World, wa = w3 := ⟨_, rfl⟩
  go_wp2_with fail
  go_loopw [45] (fun s wr => ∃ k : Nat, k ≤ n ∧ s = .int .i64 k ∧ Below w.heap.size w wr ∧ P2 wr w.heap.size qx qy) (fun s _ => n - (intOf s).toNat)
  case atStart => exact ⟨0, Nat.zero_le _, rfl, hw, hp⟩
  case round =>
    obtain ⟨k, hk, rfl, hbl, hp⟩ := hrel
    by_cases hlt : k < n
    · obtain ⟨c0, c1⟩ := e2_keep hbl (HV.out k hlt)
      have hl : (k : Int) < (n : Int) := by omega
      have hb4 := b_alloc (Below.refl wr.heap.size wr) (.cells #[.int .i64 (X k), .int .i64 (Y k)] 23)
      have hp4 := p2_keep hb4 hp
      have X1 := Lib.hid (And.intro hb4 hp4); clear hb4 hp4
      go_wp2_with fail
      go_roundw
      case rel => first | exact ⟨k + 1, by omega, by go_num, b_next hbl X1.out.1, X1.out.2⟩ | ((repeat apply Exists.intro); exact ⟨⟨k + 1, by omega, by go_num, b_next hbl X1.out.1, X1.out.2⟩, rfl⟩)
      case measure => simp [intOf]; omega
    · have hl : ¬ (k : Int) < (n : Int) := by omega
      have hdd := hd2.out
      go_wp2_with fail
      refine (A2.out _ hbl).mono ?_; rintro e w5 ⟨rfl, h⟩
      have hw5 := b_next hbl h; clear h
      go_wp2_with fail
      all_goals (go_ret; exact ⟨retb rfl, hw5⟩)
set_option maxHeartbeats 2000000 in
theorem pos (n cap b off : Nat) (X Y : Nat → Int) (qx qy d d2 p : Int) (less : Bool) (w : World) (h0 : 0 < n) (hc : n ≤ cap) (hm : cap ≤ 9223372036854775807) (HV : Hid (∀ k, k < n → E2 w b off k (X k) (Y k)))
    (A1 : Hid (∀ w1, Below w.heap.size w w1 → Calls Try.prog 18 #[.slice (some ⟨b, off, none⟩) n cap, .agg #[.int .i64 qx, .int .i64 qy], .int .i64 d] w1 fun e w' => e = .returned (.tuple #[.bool false, .int .i64 0]) ∧ Below w1.heap.size w1 w')) (L1 : Hid (∀ w1, Below w.heap.size w w1 → Calls Try.prog 19 #[.slice (some ⟨b, off, none⟩) n cap, .agg #[.int .i64 qx, .int .i64 qy]] w1 fun e w' => e = .returned (.tuple #[.int .i64 p, .int .i64 0]) ∧ Below w1.heap.size w1 w')) (A2 : Hid (∀ w1, Below w.heap.size w w1 → Calls Try.prog 18 #[.slice (some ⟨b, off, none⟩) n cap, .agg #[.int .i64 qx, .int .i64 qy], .int .i64 d2] w1 fun e w' => e = .returned (.tuple #[.bool less, .int .i64 0]) ∧ Below w1.heap.size w1 w')) (hd2 : Hid (d / 2 = d2)) (hd0 : 0 ≤ d) (hd1 : d ≤ 1000000) (hp0 : p < 0) (hdp : 0 < d) :
    Calls Try.prog 4 #[.slice (some ⟨b, off, none⟩) n cap, .agg #[.int .i64 qx, .int .i64 qy], .int .i64 d] w fun e w' => e = .returned (.bool true) ∧ Below w.heap.size w w' := by
  go_enter Try.func4, Try.ntmps4
  have Hq := Lib.hid (p2_new w 23 qx qy)
  have HW := Lib.hid (b_alloc (Below.refl w.heap.size w) (.cells #[.int .i64 qx, .int .i64 qy] 23))
  go_wp2_with fail
  refine (polygonWorks _).mono ?_; rintro e w1 ⟨rfl, h⟩
  have hp := p2_keep h Hq.out; have hw := b_next HW.out h; clear h
  go_wp2_with fail
  refine (A1.out _ hw).mono ?_; rintro e w2 ⟨rfl, h⟩
  replace hp := p2_keep h hp; replace hw := b_next hw h; clear h
  go_wp2_with fail
  refine (L1.out _ hw).mono ?_; rintro e w3 ⟨rfl, h⟩
  replace hp := p2_keep h hp; replace hw := b_next hw h; clear h
  obtain ⟨wa, rfl⟩ : ∃ wa : World, wa = w3 := ⟨_, rfl⟩
  go_wp2_with fail
  go_loopw [45] (fun s wr => ∃ k : Nat, k ≤ n ∧ s = .int .i64 k ∧ Below w.heap.size w wr ∧ P2 wr w.heap.size qx qy) (fun s _ => n - (intOf s).toNat)
  case atStart => exact ⟨0, Nat.zero_le _, rfl, hw, hp⟩
  case round =>
    obtain ⟨k, hk, rfl, hbl, hp⟩ := hrel
    by_cases hlt : k < n
    · obtain ⟨c0, c1⟩ := e2_keep hbl (HV.out k hlt)
      have hl : (k : Int) < (n : Int) := by omega
      have hb4 := b_alloc (Below.refl wr.heap.size wr) (.cells #[.int .i64 (X k), .int .i64 (Y k)] 23)
      have hp4 := p2_keep hb4 hp
      have X1 := Lib.hid (And.intro hb4 hp4); clear hb4 hp4
      go_wp2_with fail
      go_roundw
      case rel => first | exact ⟨k + 1, by omega, by go_num, b_next hbl X1.out.1, X1.out.2⟩ | ((repeat apply Exists.intro); exact ⟨⟨k + 1, by omega, by go_num, b_next hbl X1.out.1, X1.out.2⟩, rfl⟩)
      case measure => simp [intOf]; omega
    · have hl : ¬ (k : Int) < (n : Int) := by omega
      have hdd := hd2.out
      go_wp2_with fail
      refine (A2.out _ hbl).mono ?_; rintro e w5 ⟨rfl, h⟩
      have hw5 := b_next hbl h; clear h
      go_wp2_with fail
      all_goals (go_ret; exact ⟨retb rfl, hw5⟩)
theorem walk (p : Value) (q_x : Int) (q_y : Int) (d : Int) (W : World) (h_p : Frame.Okc W (.sl [.int, .int]) p) (h_q_x : -9223372036854775808 ≤ q_x ∧ q_x ≤ 9223372036854775807) (h_q_y : -9223372036854775808 ≤ q_y ∧ q_y ≤ 9223372036854775807) (h_d : -9223372036854775808 ≤ d ∧ d ≤ 9223372036854775807) :
    Calls Try.prog 4 #[p, .agg #[.int .i64 q_x, .int .i64 q_y], .int .i64 d] W fun e w' => e = .returned (.bool true) ∧ Below W.heap.size W w' := by
  obtain ⟨n, X, Y, hv, -⟩ := qv_of h_p
  have A1 := fun w1 hb => apartC (qv_keep (w1 := w1) hb hv) q_x q_y d
  by_cases hE : (apart n X Y q_x q_y d).2 = 0
  · have hE' := hE
    unfold apart at hE
    by_cases hK : pck n X Y ≠ 0
    · rw [if_pos hK] at hE; exact absurd hE hK
    · rw [if_neg hK] at hE
      cases hg : goodB q_x q_y with
      | false => rw [hg, if_pos rfl] at hE; exact absurd hE (by decide)
      | true =>
        rw [hg, if_neg (by simp)] at hE
        by_cases hd : d < 0 ∨ 1000000 < d
        · rw [if_pos hd] at hE; exact absurd hE (by decide)
        · have hK := Classical.not_not.1 hK
          have hgq := goodB_iff.1 hg
          obtain ⟨h3, h16, hgv, -, -⟩ := pck_ok hK
          have L1 := fun w1 hb => locC (qv_keep (w1 := w1) hb hv) q_x q_y
          have el : loc n X Y q_x q_y = (place n X Y q_x q_y, 0) := by unfold loc; rw [if_neg (by simpa using hK), if_neg (by rw [hg]; simp)]
          have ea : ∀ d, ¬ (d < 0 ∨ 1000000 < d) → apart n X Y q_x q_y d = if 0 ≤ place n X Y q_x q_y then (false, 0) else (fars n X Y q_x q_y d n, 0) := fun d hd => by
            unfold apart; rw [if_neg (by simpa using hK), if_neg (by rw [hg]; simp), if_neg hd]
          have A2 := fun w1 hb => apartC (qv_keep (w1 := w1) hb hv) q_x q_y (d / 2)
          rw [ea d hd] at A1; rw [ea (d / 2) (by omega)] at A2; rw [el] at L1
          rcases hv with ⟨h0', -⟩ | ⟨h0, b, off, cap, rfl, h1, h2, h3'⟩
          · omega
          · have hm := Nat.le_trans h2 (show maxLen ≤ 9223372036854775807 by decide)
            by_cases hp : 0 ≤ place n X Y q_x q_y
            · rw [if_pos hp] at A1 A2
              exact inn n cap b off X Y q_x q_y d _ _ _ W h0 h1 hm (Lib.hid h3') (Lib.hid A1) (Lib.hid L1) (Lib.hid A2) (Lib.hid rfl) (by omega) (by omega) hp
            · rw [if_neg hp] at A1 A2
              cases hf : fars n X Y q_x q_y d n with
              | true =>
                rw [hf] at A1
                refine yes n cap b off X Y q_x q_y d _ _ _ W h0 h1 hm (Lib.hid h3') (Lib.hid A1) (Lib.hid L1) (Lib.hid A2) (Lib.hid rfl) (by omega) (by omega) (by omega) (Lib.hid (fars_less (by omega) (by omega) hf)) (Lib.hid fun k hk w => ?_)
                have g1 := hgv k hk
                have c := within (X k) (Y k) q_x q_y d w rfl ⟨by omega, by omega, by omega, by omega⟩
                have e : inB (sqr (X k) (Y k) q_x q_y) d = false := by
                  unfold inB; refine decide_eq_false fun h => ?_
                  have := far_vertex (fars_all hf k hk)
                  omega
                rw [e] at c; exact c
              | false =>
                rw [hf] at A1
                refine pos n cap b off X Y q_x q_y d _ _ _ W h0 h1 hm (Lib.hid h3') (Lib.hid A1) (Lib.hid L1) (Lib.hid A2) (Lib.hid rfl) (by omega) (by omega) (by omega) ?_
                rcases Int.lt_or_le 0 d with h | h
                · exact h
                · have e : d = 0 := by omega
                  subst e
                  rw [fars_zero (place_on (by omega))] at hf
                  cases hf
  · have e : (apart n X Y q_x q_y d).1 = false := by
      unfold apart at hE ⊢
      split
      · rfl
      · split
        · rfl
        · split
          · rfl
          · split
            · rfl
            · rename_i a1 a2 a3 a4; rw [if_neg a1, if_neg a2, if_neg a3, if_neg a4] at hE; exact absurd rfl hE
    rw [e] at A1
    exact bad p q_x q_y d _ W (Lib.hid A1) (by simpa using hE) (by simpa using hE)
-- FRAME --

set_option maxRecDepth 100000 in
theorem lifted (os : Os) (started : os.Started) (H : Type) (enc : TypeId × Value → H) :
    ReturnsInHanded {} Try.checked os 4 .any (Rows.polygonApartSpec.pre6 enc Try.prog Try.f4 Rows.polygonApartRow.domain false) (Rows.polygonApartSpec.post enc Try.prog Try.f4 false true false false) :=
  Frame.lifted (C := Try.checked) 4 Try.f4 Try.own started (by kernel_rfl) Try.func4 Try.laidOut rfl (by kernel_rfl) 4 rfl Try.underlying4
      (fun ds h => by match ds, h with | [_, _, _], _ => rfl)
      (ChangeSpec.witness6 (enc := enc) (C := Try.checked) false ⟨#[], #[.slice none 0 0, .agg #[.int .i64 0, .int .i64 0], .int .i64 0], []⟩ 8 (by kernel_rfl) (by kernel_rfl) (by kernel_rfl) (by kernel_rfl))
      (fun W base args ds ps hval0 hA _ => by
        have hval : ∀ (j : Nat) t v, Try.f4.params[j]? = some t → args[j]? = some v → Value.okWide Try.prog W .any base t v := hval0
        have hA' : DataW.TrodAll enc Try.prog W 0 (fun _ => true) true Try.f4.params.toList args.toList ds ps := hA
        clear hval0 hA
        have hA := hA'
        clear hA'
        rw [Try.params4] at hA hval
        obtain ⟨v0, vs0, d0, ds0, p0, q0, ea, rfl, rfl, tr0, rest0⟩ := trodAll_cons hA
        obtain ⟨v1, vs1, d1, ds1, p1, q1, rfl, rfl, rfl, tr1, rest1⟩ := trodAll_cons rest0
        obtain ⟨v2, vs2, d2, ds2, p2, q2, rfl, rfl, rfl, tr2, rest2⟩ := trodAll_cons rest1
        obtain ⟨rfl, rfl, rfl⟩ := trodAll_nil rest2
        obtain rfl : args = #[v0, v1, v2] := by cases args; simp_all
        clear ea
        have sl_p : Frame.Okc W (.sl [.int, .int]) v0 := by obtain ⟨a, l, c, e⟩ := okWide_slice Try.underlying28 (hval 0 _ v0 rfl rfl); exact Frame.arg_cell (k := 8) (by kernel_rfl) (by have e2 : v0 = .slice a l c := e; rw [e2]; rfl) tr0
        obtain ⟨cs_q, e_q, hl_q, hc_q⟩ := Frame.arg_agg Try.underlying23 (k := 8) (ks := [.int, .int]) (by kernel_rfl) (hval 1 _ v1 rfl rfl) tr1
        subst e_q
        obtain ⟨c_q_x, c_q_y, rfl⟩ : ∃ c_q_x c_q_y, cs_q = [c_q_x, c_q_y] := by match cs_q, hl_q with | [x0, x1], _ => exact ⟨x0, x1, rfl⟩
        have o_q_x : Frame.Okc W (.int) c_q_x := hc_q 0 (by decide) (by simp)
        obtain ⟨q_x, e_q_x, w_q_x⟩ := o_q_x.int_inv; subst e_q_x
        have o_q_y : Frame.Okc W (.int) c_q_y := hc_q 1 (by decide) (by simp)
        obtain ⟨q_y, e_q_y, w_q_y⟩ := o_q_y.int_inv; subst e_q_y
        obtain ⟨d, rfl, w_d⟩ := Frame.arg_int Try.underlying3 (hval 2 _ v2 rfl rfl)
        exact walk v0 q_x q_y d W sl_p w_q_x w_q_y (Frame.bd w_d))

/-- The statement. -/
theorem proved : Rows.PolygonApartSaid :=
  OpenClaim.holds_of_wide 4 Try.f4 rfl rfl rfl rfl rfl rfl rfl ⟨rfl, rfl, rfl, rfl, rfl⟩ rfl rfl rfl rfl rfl (by kernel_rfl) Try.func4 (by kernel_rfl)
    (of_decide_eq_true (by kernel_rfl)) (by unfold Func.isWrapper; first | (rw [if_pos (by decide +kernel)]; kernel_rfl) | (rw [if_neg (by decide +kernel)]; exact ⟨rfl, rfl⟩))
    (fun os started H enc _ => lifted os started H enc)
#print axioms proved
end PolygonApart
end Go.Proofs.Ytlgdcpkjobbnnaa

