/- WindLegs: the duration of a flight is between both bounds for each speed over ground between the bounds. For every input, where math's tables read as Go's library lays them. -/
import Derived.Test.YtkapllakofndlaaDoorWindM
import Derived.Test.YtkapllakofndlaaDoorDoorA
import Derived.Test.YtkapllakofndlaaDoorShapes
import Derived.Test.YtkapllakofndlaaDoorCards
namespace Go.Proofs.YtkapllakofndlaaDoor
open Go.RowKit Go.ChangeShapes Go.WideShapes
namespace WindLegs
open Kit Ang Num Plane Wind
set_option maxRecDepth 100000 in
set_option maxHeartbeats 4000000 in
theorem go_bad (v : Value) (sp h ax ay bx by' E : Int) (w : World) (hE1 : (E != 0) = true) (WK : Hid (∀ w1, Below w.heap.size w w1 → Calls Tryd.prog 21 #[] w1 fun e w' => e = .returned (.bool true) ∧ Below w1.heap.size w1 w'))
    (LG : Hid (∀ w1, Below w.heap.size w w1 → Calls Tryd.prog 23 #[v, .int .i64 sp, .int .i64 h, .agg #[.int .i64 ax, .int .i64 ay], .agg #[.int .i64 bx, .int .i64 by']] w1 fun ed w' => ed = .returned (.tuple #[.int .i64 0, .int .i64 0, .int .i64 E]) ∧ Below w1.heap.size w1 w')) :
    Calls Tryd.prog 9 #[v, .int .i64 sp, .int .i64 h, .agg #[.int .i64 ax, .int .i64 ay], .agg #[.int .i64 bx, .int .i64 by']] w fun e w' => e = .returned (.bool true) ∧ Below w.heap.size w w' := by
  have hE0 : (E == 0) = false := by simpa using hE1
  have HA := Lib.hid (p2_alloc (.cells #[.int .i64 bx, .int .i64 by'] 28) (p2_new w 28 ax ay))
  have HB := Lib.hid (p2_new1 w (.cells #[.int .i64 ax, .int .i64 ay] 28) 28 bx by')
  have W0 := Lib.hid (b_alloc (b_alloc (Below.refl w.heap.size w) (.cells #[.int .i64 ax, .int .i64 ay] 28)) (.cells #[.int .i64 bx, .int .i64 by'] 28))
  go_enter Tryd.func9, Tryd.ntmps9
  go_wp2_with fail
  (with_reducible refine (WK.out _ W0.out).mono ?_); rintro e w1 ⟨rfl, hb⟩
  have W1 := Lib.hid (b_next W0.out hb); have A1 := Lib.hid (p2_keep hb HA.out); have B1 := Lib.hid (p2_keep hb HB.out); clear hb HA HB W0
  obtain ⟨⟨a0, a1⟩, b0, b1⟩ := And.intro A1.out B1.out
  go_wp2_with fail
  (with_reducible refine (LG.out _ W1.out).mono ?_); rintro e w2 ⟨rfl, hb⟩
  have W2 := Lib.hid (b_next W1.out hb); have A2 := Lib.hid (p2_keep hb A1.out); have B2 := Lib.hid (p2_keep hb B1.out); clear hb a0 a1 b0 b1
  go_wp2_with fail
  go_ret
  exact ⟨by first | rfl | exact retb rfl | exact retb (by simp), W2.out⟩
set_option maxRecDepth 100000 in
set_option maxHeartbeats 4000000 in
theorem go_same (v : Value) (sp h ax ay near far wl wh wx wy er : Int) (w : World) (WK : Hid (∀ w1, Below w.heap.size w w1 → Calls Tryd.prog 21 #[] w1 fun e w' => e = .returned (.bool true) ∧ Below w1.heap.size w1 w'))
    (LG : Hid (∀ w1, Below w.heap.size w w1 → Calls Tryd.prog 23 #[v, .int .i64 sp, .int .i64 h, .agg #[.int .i64 ax, .int .i64 ay], .agg #[.int .i64 ax, .int .i64 ay]] w1 fun ed w' => ed = .returned (.tuple #[.int .i64 0, .int .i64 0, .int .i64 0]) ∧ Below w1.heap.size w1 w'))
    (DS : Hid (∀ w1, Calls Tryd.prog 20 #[.agg #[.int .i64 ax, .int .i64 ay], .agg #[.int .i64 ax, .int .i64 ay]] w1 fun e w' => e = .returned (.tuple #[.int .i64 near, .int .i64 far]) ∧ Below w1.heap.size w1 w'))
    (AT : Hid (∀ w1, Below w.heap.size w w1 → Calls Tryd.prog 24 #[v, .int .i64 h] w1 fun e w' => e = .returned (.tuple #[band wl wh wx wy er, .int .i64 0]) ∧ Below w1.heap.size w1 w')) :
    Calls Tryd.prog 9 #[v, .int .i64 sp, .int .i64 h, .agg #[.int .i64 ax, .int .i64 ay], .agg #[.int .i64 ax, .int .i64 ay]] w fun e w' => e = .returned (.bool true) ∧ Below w.heap.size w w' := by
  have HA := Lib.hid (p2_alloc (.cells #[.int .i64 ax, .int .i64 ay] 28) (p2_new w 28 ax ay))
  have HB := Lib.hid (p2_new1 w (.cells #[.int .i64 ax, .int .i64 ay] 28) 28 ax ay)
  have W0 := Lib.hid (b_alloc (b_alloc (Below.refl w.heap.size w) (.cells #[.int .i64 ax, .int .i64 ay] 28)) (.cells #[.int .i64 ax, .int .i64 ay] 28))
  go_enter Tryd.func9, Tryd.ntmps9
  go_wp2_with fail
  (with_reducible refine (WK.out _ W0.out).mono ?_); rintro e w1 ⟨rfl, hb⟩
  have W1 := Lib.hid (b_next W0.out hb); have A1 := Lib.hid (p2_keep hb HA.out); have B1 := Lib.hid (p2_keep hb HB.out); clear hb HA HB W0
  obtain ⟨⟨a0, a1⟩, b0, b1⟩ := And.intro A1.out B1.out
  go_wp2_with fail
  (with_reducible refine (LG.out _ W1.out).mono ?_); rintro e w2 ⟨rfl, hb⟩
  have W2 := Lib.hid (b_next W1.out hb); have A2 := Lib.hid (p2_keep hb A1.out); have B2 := Lib.hid (p2_keep hb B1.out); clear hb a0 a1 b0 b1
  obtain ⟨⟨a0, a1⟩, b0, b1⟩ := And.intro A2.out B2.out
  go_wp2_with fail
  (with_reducible refine (DS.out _).mono ?_); rintro e w3 ⟨rfl, hb⟩
  have W3 := Lib.hid (b_next W2.out hb); have A3 := Lib.hid (p2_keep hb A2.out); have B3 := Lib.hid (p2_keep hb B2.out); clear hb a0 a1 b0 b1
  go_wp2_with fail
  (with_reducible refine (AT.out _ W3.out).mono ?_); rintro e w4 ⟨rfl, hb⟩
  have W4 := Lib.hid (b_next W3.out hb); have A4 := Lib.hid (p2_keep hb A3.out); have B4 := Lib.hid (p2_keep hb B3.out); clear hb
  obtain ⟨⟨a0, a1⟩, b0, b1⟩ := And.intro A4.out B4.out
  have nn1 := new_ne a0; have nn2 := new_ne b0
  go_wp2_with fail
  all_goals first | (exfalso; omega) | (go_ret; exact ⟨by first | rfl | exact retb rfl | exact retb (by simp) | exact retb (by simp; omega), b_alloc W4.out _⟩)
set_option maxRecDepth 100000 in
set_option maxHeartbeats 4000000 in
theorem go_okx (v : Value) (sp h ax ay bx by' near far wl wh wx wy er fast slow PR Q : Int) (w : World) (hne : ¬ ax = bx) (WK : Hid (∀ w1, Below w.heap.size w w1 → Calls Tryd.prog 21 #[] w1 fun e w' => e = .returned (.bool true) ∧ Below w1.heap.size w1 w'))
    (LG : Hid (∀ w1, Below w.heap.size w w1 → Calls Tryd.prog 23 #[v, .int .i64 sp, .int .i64 h, .agg #[.int .i64 ax, .int .i64 ay], .agg #[.int .i64 bx, .int .i64 by']] w1 fun ed w' => ed = .returned (.tuple #[.int .i64 fast, .int .i64 slow, .int .i64 0]) ∧ Below w1.heap.size w1 w'))
    (DS : Hid (∀ w1, Calls Tryd.prog 20 #[.agg #[.int .i64 ax, .int .i64 ay], .agg #[.int .i64 bx, .int .i64 by']] w1 fun e w' => e = .returned (.tuple #[.int .i64 near, .int .i64 far]) ∧ Below w1.heap.size w1 w'))
    (AT : Hid (∀ w1, Below w.heap.size w w1 → Calls Tryd.prog 24 #[v, .int .i64 h] w1 fun e w' => e = .returned (.tuple #[band wl wh wx wy er, .int .i64 0]) ∧ Below w1.heap.size w1 w'))
    (bs : 1 ≤ sp ∧ sp ≤ 400) (bn : 0 ≤ near ∧ near ≤ 3000000) (bf : 0 ≤ far ∧ far ≤ 3000000) (bq : 0 ≤ fast ∧ fast ≤ 3000000) (bl : 0 ≤ slow ∧ slow ≤ 3000000)
    (hp : fast * (sp + 500) = PR) (bp : 0 ≤ PR ∧ PR ≤ 1000000000000) (hq : far / (sp + 500) = Q) (h1 : fast ≤ slow) (h2 : near - sp - 500 ≤ PR) (h3 : Q ≤ slow) (hz : Hid (wx = 0 ∧ wy = 0 ∧ er = 0 → near / sp = fast ∧ (far + sp - 1) / sp = slow)) :
    Calls Tryd.prog 9 #[v, .int .i64 sp, .int .i64 h, .agg #[.int .i64 ax, .int .i64 ay], .agg #[.int .i64 bx, .int .i64 by']] w fun e w' => e = .returned (.bool true) ∧ Below w.heap.size w w' := by
  have HN := Lib.hid hne; clear hne
  have HA := Lib.hid (p2_alloc (.cells #[.int .i64 bx, .int .i64 by'] 28) (p2_new w 28 ax ay))
  have HB := Lib.hid (p2_new1 w (.cells #[.int .i64 ax, .int .i64 ay] 28) 28 bx by')
  have W0 := Lib.hid (b_alloc (b_alloc (Below.refl w.heap.size w) (.cells #[.int .i64 ax, .int .i64 ay] 28)) (.cells #[.int .i64 bx, .int .i64 by'] 28))
  go_enter Tryd.func9, Tryd.ntmps9
  go_wp2_with fail
  (with_reducible refine (WK.out _ W0.out).mono ?_); rintro e w1 ⟨rfl, hb⟩
  have W1 := Lib.hid (b_next W0.out hb); have A1 := Lib.hid (p2_keep hb HA.out); have B1 := Lib.hid (p2_keep hb HB.out); clear hb HA HB W0
  obtain ⟨⟨a0, a1⟩, b0, b1⟩ := And.intro A1.out B1.out
  go_wp2_with fail
  (with_reducible refine (LG.out _ W1.out).mono ?_); rintro e w2 ⟨rfl, hb⟩
  have W2 := Lib.hid (b_next W1.out hb); have A2 := Lib.hid (p2_keep hb A1.out); have B2 := Lib.hid (p2_keep hb B1.out); clear hb a0 a1 b0 b1
  obtain ⟨⟨a0, a1⟩, b0, b1⟩ := And.intro A2.out B2.out
  go_wp2_with fail
  (with_reducible refine (DS.out _).mono ?_); rintro e w3 ⟨rfl, hb⟩
  have W3 := Lib.hid (b_next W2.out hb); have A3 := Lib.hid (p2_keep hb A2.out); have B3 := Lib.hid (p2_keep hb B2.out); clear hb a0 a1 b0 b1
  go_wp2_with fail
  (with_reducible refine (AT.out _ W3.out).mono ?_); rintro e w4 ⟨rfl, hb⟩
  have W4 := Lib.hid (b_next W3.out hb); have A4 := Lib.hid (p2_keep hb A3.out); have B4 := Lib.hid (p2_keep hb B3.out); clear hb
  obtain ⟨⟨a0, a1⟩, b0, b1⟩ := And.intro A4.out B4.out
  have nn1 := new_ne a0; have nn2 := new_ne b0
  have hne := HN.out
  by_cases z : wx = 0 ∧ wy = 0 ∧ er = 0
  · obtain ⟨z1, z2⟩ := hz.out z
    obtain ⟨rfl, rfl, rfl⟩ := z
    go_wp2_with fail
    all_goals first | (exfalso; omega) | (go_ret; exact ⟨by first | rfl | exact retb rfl | exact retb (by simp) | exact retb (by simp; omega), b_alloc W4.out _⟩)
  · go_wp2_with fail
    all_goals first | (exfalso; omega) | (go_ret; exact ⟨by first | rfl | exact retb rfl | exact retb (by simp) | exact retb (by simp; omega), b_alloc W4.out _⟩)
set_option maxRecDepth 100000 in
set_option maxHeartbeats 4000000 in
theorem go_oky (v : Value) (sp h ax ay by' near far wl wh wx wy er fast slow PR Q : Int) (w : World) (hne : ¬ ay = by') (WK : Hid (∀ w1, Below w.heap.size w w1 → Calls Tryd.prog 21 #[] w1 fun e w' => e = .returned (.bool true) ∧ Below w1.heap.size w1 w'))
    (LG : Hid (∀ w1, Below w.heap.size w w1 → Calls Tryd.prog 23 #[v, .int .i64 sp, .int .i64 h, .agg #[.int .i64 ax, .int .i64 ay], .agg #[.int .i64 ax, .int .i64 by']] w1 fun ed w' => ed = .returned (.tuple #[.int .i64 fast, .int .i64 slow, .int .i64 0]) ∧ Below w1.heap.size w1 w'))
    (DS : Hid (∀ w1, Calls Tryd.prog 20 #[.agg #[.int .i64 ax, .int .i64 ay], .agg #[.int .i64 ax, .int .i64 by']] w1 fun e w' => e = .returned (.tuple #[.int .i64 near, .int .i64 far]) ∧ Below w1.heap.size w1 w'))
    (AT : Hid (∀ w1, Below w.heap.size w w1 → Calls Tryd.prog 24 #[v, .int .i64 h] w1 fun e w' => e = .returned (.tuple #[band wl wh wx wy er, .int .i64 0]) ∧ Below w1.heap.size w1 w'))
    (bs : 1 ≤ sp ∧ sp ≤ 400) (bn : 0 ≤ near ∧ near ≤ 3000000) (bf : 0 ≤ far ∧ far ≤ 3000000) (bq : 0 ≤ fast ∧ fast ≤ 3000000) (bl : 0 ≤ slow ∧ slow ≤ 3000000)
    (hp : fast * (sp + 500) = PR) (bp : 0 ≤ PR ∧ PR ≤ 1000000000000) (hq : far / (sp + 500) = Q) (h1 : fast ≤ slow) (h2 : near - sp - 500 ≤ PR) (h3 : Q ≤ slow) (hz : Hid (wx = 0 ∧ wy = 0 ∧ er = 0 → near / sp = fast ∧ (far + sp - 1) / sp = slow)) :
    Calls Tryd.prog 9 #[v, .int .i64 sp, .int .i64 h, .agg #[.int .i64 ax, .int .i64 ay], .agg #[.int .i64 ax, .int .i64 by']] w fun e w' => e = .returned (.bool true) ∧ Below w.heap.size w w' := by
  have HN := Lib.hid hne; clear hne
  have HA := Lib.hid (p2_alloc (.cells #[.int .i64 ax, .int .i64 by'] 28) (p2_new w 28 ax ay))
  have HB := Lib.hid (p2_new1 w (.cells #[.int .i64 ax, .int .i64 ay] 28) 28 ax by')
  have W0 := Lib.hid (b_alloc (b_alloc (Below.refl w.heap.size w) (.cells #[.int .i64 ax, .int .i64 ay] 28)) (.cells #[.int .i64 ax, .int .i64 by'] 28))
  go_enter Tryd.func9, Tryd.ntmps9
  go_wp2_with fail
  (with_reducible refine (WK.out _ W0.out).mono ?_); rintro e w1 ⟨rfl, hb⟩
  have W1 := Lib.hid (b_next W0.out hb); have A1 := Lib.hid (p2_keep hb HA.out); have B1 := Lib.hid (p2_keep hb HB.out); clear hb HA HB W0
  obtain ⟨⟨a0, a1⟩, b0, b1⟩ := And.intro A1.out B1.out
  go_wp2_with fail
  (with_reducible refine (LG.out _ W1.out).mono ?_); rintro e w2 ⟨rfl, hb⟩
  have W2 := Lib.hid (b_next W1.out hb); have A2 := Lib.hid (p2_keep hb A1.out); have B2 := Lib.hid (p2_keep hb B1.out); clear hb a0 a1 b0 b1
  obtain ⟨⟨a0, a1⟩, b0, b1⟩ := And.intro A2.out B2.out
  go_wp2_with fail
  (with_reducible refine (DS.out _).mono ?_); rintro e w3 ⟨rfl, hb⟩
  have W3 := Lib.hid (b_next W2.out hb); have A3 := Lib.hid (p2_keep hb A2.out); have B3 := Lib.hid (p2_keep hb B2.out); clear hb a0 a1 b0 b1
  go_wp2_with fail
  (with_reducible refine (AT.out _ W3.out).mono ?_); rintro e w4 ⟨rfl, hb⟩
  have W4 := Lib.hid (b_next W3.out hb); have A4 := Lib.hid (p2_keep hb A3.out); have B4 := Lib.hid (p2_keep hb B3.out); clear hb
  obtain ⟨⟨a0, a1⟩, b0, b1⟩ := And.intro A4.out B4.out
  have nn1 := new_ne a0; have nn2 := new_ne b0
  have hne := HN.out
  by_cases z : wx = 0 ∧ wy = 0 ∧ er = 0
  · obtain ⟨z1, z2⟩ := hz.out z
    obtain ⟨rfl, rfl, rfl⟩ := z
    go_wp2_with fail
    all_goals first | (exfalso; omega) | (go_ret; exact ⟨by first | rfl | exact retb rfl | exact retb (by simp) | exact retb (by simp; omega), b_alloc W4.out _⟩)
  · go_wp2_with fail
    all_goals first | (exfalso; omega) | (go_ret; exact ⟨by first | rfl | exact retb rfl | exact retb (by simp) | exact retb (by simp; omega), b_alloc W4.out _⟩)
theorem walk (l : Value) (speed height a_x a_y b_x b_y : Int) (W : World) (hL : laidMetH Tryd.prog Door.laid W) (h_l : Frame.Okc W (.sl [.int, .int, .int, .int, .int]) l) (_ : -9223372036854775808 ≤ speed ∧ speed ≤ 9223372036854775807) (_ : -9223372036854775808 ≤ height ∧ height ≤ 9223372036854775807) (_ : -9223372036854775808 ≤ a_x ∧ a_x ≤ 9223372036854775807) (_ : -9223372036854775808 ≤ a_y ∧ a_y ≤ 9223372036854775807) (_ : -9223372036854775808 ≤ b_x ∧ b_x ≤ 9223372036854775807) (_ : -9223372036854775808 ≤ b_y ∧ b_y ≤ 9223372036854775807) :
    Calls Tryd.prog 9 #[l, .int .i64 speed, .int .i64 height, .agg #[.int .i64 a_x, .int .i64 a_y], .agg #[.int .i64 b_x, .int .i64 b_y]] W fun e w' => e = .returned (.bool true) ∧ Below W.heap.size W w' := by
  have T := Door.tabs_of hL
  have WK := fun w1 (hb : Below W.heap.size W w1) => Wind.works w1 (tabs_keep hb T)
  obtain ⟨n, L, H, X, Y, E, hv, -⟩ := wv_of h_l
  by_cases he : legE L H X Y E n speed height a_x a_y b_x b_y = 0
  · obtain ⟨hz, hs, hh, ga, gb⟩ := legE_ok he
    have hAt : atE L H X Y E n height = 0 := by unfold atE; rw [if_neg (fun e => e hz), if_neg (by omega)]
    have AT := fun w1 (hb : Below W.heap.size W w1) => atC_ok (wv_keep hb hv) hAt
    have ga' := ga; have gb' := gb
    unfold good at ga' gb'
    have DS := fun w1 => distance a_x a_y b_x b_y w1 rfl (by omega)
    by_cases hne : b_x = a_x ∧ b_y = a_y
    · have LG := fun w1 (hb : Below W.heap.size W w1) => legC_same (wv_keep hb hv) he hne.1 hne.2
      obtain ⟨rfl, rfl⟩ := hne
      exact go_same l speed height _ _ _ _ _ _ _ _ _ W (Lib.hid WK) (Lib.hid LG) (Lib.hid DS) (Lib.hid AT)
    · obtain ⟨r, hr⟩ := ofv_some (x := b_x - a_x) (y := b_y - a_y) (by omega)
      have LG := fun w1 (hb : Below W.heap.size W w1) => legC_ok (tabs_keep hb T) (wv_keep hb hv) he hne hr
      have hw := band_ok hz (fi L H height n)
      obtain ⟨-, bX, bY, bE⟩ := w1_ok hw
      have gbd := ground_bds (hd := r) hs bX bY bE
      have hsq := sqr_near ga gb
      have hd := dup_le (sqr_nonneg a_x a_y b_x b_y) hsq
      have hd0 := dup_spec (sqr_nonneg a_x a_y b_x b_y)
      have hrt := root_nonneg (sqr a_x a_y b_x b_y)
      have hnr := dup_near (sqr a_x a_y b_x b_y)
      have cl := fun (q : pickW X 0 (fi L H height n) n = 0 ∧ pickW Y 0 (fi L H height n) n = 0 ∧ pickW E 0 (fi L H height n) n = 0) => (by
        rw [q.1, q.2.1, q.2.2]; exact calm_law (hd := r) hs : glo speed r (pickW X 0 (fi L H height n) n) (pickW Y 0 (fi L H height n) n) (pickW E 0 (fi L H height n) n) = speed ∧ ghi speed r (pickW X 0 (fi L H height n) n) (pickW Y 0 (fi L H height n) n) (pickW E 0 (fi L H height n) n) = speed)
      unfold wX at LG
      generalize glo speed r (pickW X 0 (fi L H height n) n) (pickW Y 0 (fi L H height n) n) (pickW E 0 (fi L H height n) n) = lo at *
      generalize ghi speed r (pickW X 0 (fi L H height n) n) (pickW Y 0 (fi L H height n) n) (pickW E 0 (fi L H height n) n) = hi at *
      generalize root (sqr a_x a_y b_x b_y) = near at *
      generalize dup (sqr a_x a_y b_x b_y) = far at *
      obtain ⟨l1, l2, l3, l4⟩ := leg_law (n := near) (f := far) hrt hnr.1 gbd.1 gbd.2.1 gbd.2.2 hs.1
      have b0 : 0 ≤ near / hi := Int.ediv_nonneg hrt (by omega)
      have b1 : near / hi ≤ near := Int.ediv_le_self _ hrt
      have b2 : du far lo ≤ 3000000 := by
        rw [l4]
        have := Int.ediv_le_self lo (show 0 ≤ far + lo - 1 by omega)
        have h3 : (far + lo - 1) / lo ≤ far + 1 := by
          have h4 : far + lo - 1 < (far + 1) * lo + lo := by
            have : far + 1 ≤ (far + 1) * lo := by
              have := Int.mul_le_mul_of_nonneg_left (show 1 ≤ lo by omega) (show 0 ≤ far + 1 by omega)
              omega
            omega
          have e : (far + 2) * lo = (far + 1) * lo + lo := by grind
          have h5 := Int.ediv_lt_of_lt_mul (show 0 < lo by omega) (show far + lo - 1 < (far + 2) * lo by rw [e]; exact h4)
          omega
        omega
      have b3 : near / hi * (speed + 500) ≤ 1000000000000 ∧ 0 ≤ near / hi * (speed + 500) := by
        have h1 := Int.mul_le_mul (show near / hi ≤ 3000000 by omega) (show speed + 500 ≤ 900 by omega) (by omega) (by omega)
        exact ⟨by omega, Int.mul_nonneg b0 (by omega)⟩
      have hzz : pickW X 0 (fi L H height n) n = 0 ∧ pickW Y 0 (fi L H height n) n = 0 ∧ pickW E 0 (fi L H height n) n = 0 → near / speed = near / hi ∧ (far + speed - 1) / speed = du far lo := fun q => by
        obtain ⟨c1, c2⟩ := cl q
        rw [l4, c1, c2]; exact ⟨rfl, rfl⟩
      by_cases hx : a_x = b_x
      · subst hx
        exact go_oky l speed height _ _ _ near far _ _ _ _ _ _ _ _ _ W (fun e => hne ⟨rfl, e.symm⟩) (Lib.hid WK) (Lib.hid LG) (Lib.hid DS) (Lib.hid AT) hs (by omega) (by omega) (by omega) (by omega) rfl (by omega) rfl l1 l2 l3 (Lib.hid hzz)
      · exact go_okx l speed height _ _ _ _ near far _ _ _ _ _ _ _ _ _ W hx (Lib.hid WK) (Lib.hid LG) (Lib.hid DS) (Lib.hid AT) hs (by omega) (by omega) (by omega) (by omega) rfl (by omega) rfl l1 l2 l3 (Lib.hid hzz)
  · have LG := fun w1 (hb : Below W.heap.size W w1) => legC_bad (wv_keep hb hv) he
    exact go_bad l speed height _ _ _ _ _ W (by simpa using he) (Lib.hid WK) (Lib.hid LG)
-- FRAME --

set_option maxRecDepth 100000 in
theorem lifted (os : Os) (started : os.Started) (H : Type) (enc : TypeId × Value → H) :
    ReturnsInHanded {} Tryd.checked os 9 .any (fun w args => (Rows.windLegsSpec.pre enc Tryd.prog Tryd.f9 [] false w args ∧ laidMetH Tryd.prog Door.laid w) ∧ sizedMet enc Tryd.prog Tryd.f9 (OpenSpec.ofChange Rows.windLegsSpec) false w args) (Rows.windLegsSpec.post enc Tryd.prog Tryd.f9 false true false false) :=
  Frame.lifted_laid (C := Tryd.checked) 9 Tryd.f9 Tryd.own started (by kernel_rfl) Tryd.func9 Tryd.laidOut rfl (by kernel_rfl) 4 rfl Tryd.underlying4
      (fun ds h => by match ds, h with | [_, _, _, _, _], _ => rfl)
      (ChangeSpec.witness_at (enc := enc) (C := Tryd.checked) (os := os) (X := fun w _ => laidMetH Tryd.prog Door.laid w) false (Door.laidWorld os) #[.slice none 0 0, .int .i64 0, .int .i64 0, .agg #[.int .i64 0, .int .i64 0], .agg #[.int .i64 0, .int .i64 0]] 8 rfl (by kernel_rfl) (by kernel_rfl) (by kernel_rfl) (by kernel_rfl) (by kernel_rfl) (Door.laidWorld_met os _))
      (fun W base args ds ps hval0 hA _ hL => by
        have hval : ∀ (j : Nat) t v, Tryd.f9.params[j]? = some t → args[j]? = some v → Value.okWide Tryd.prog W .any base t v := hval0
        have hA' : DataW.TrodAll enc Tryd.prog W 0 (fun _ => true) true Tryd.f9.params.toList args.toList ds ps := hA
        clear hval0 hA
        have hA := hA'
        clear hA'
        rw [Tryd.params9] at hA hval
        obtain ⟨v0, vs0, d0, ds0, p0, q0, ea, rfl, rfl, tr0, rest0⟩ := trodAll_cons hA
        obtain ⟨v1, vs1, d1, ds1, p1, q1, rfl, rfl, rfl, tr1, rest1⟩ := trodAll_cons rest0
        obtain ⟨v2, vs2, d2, ds2, p2, q2, rfl, rfl, rfl, tr2, rest2⟩ := trodAll_cons rest1
        obtain ⟨v3, vs3, d3, ds3, p3, q3, rfl, rfl, rfl, tr3, rest3⟩ := trodAll_cons rest2
        obtain ⟨v4, vs4, d4, ds4, p4, q4, rfl, rfl, rfl, tr4, rest4⟩ := trodAll_cons rest3
        obtain ⟨rfl, rfl, rfl⟩ := trodAll_nil rest4
        obtain rfl : args = #[v0, v1, v2, v3, v4] := by cases args; simp_all
        clear ea
        have sl_l : Frame.Okc W (.sl [.int, .int, .int, .int, .int]) v0 := by obtain ⟨a, l, c, e⟩ := okWide_slice Tryd.underlying42 (hval 0 _ v0 rfl rfl); exact Frame.arg_cell (k := 8) (by kernel_rfl) (by have e2 : v0 = .slice a l c := e; rw [e2]; rfl) tr0
        obtain ⟨speed, rfl, w_speed⟩ := Frame.arg_int Tryd.underlying3 (hval 1 _ v1 rfl rfl)
        obtain ⟨height, rfl, w_height⟩ := Frame.arg_int Tryd.underlying3 (hval 2 _ v2 rfl rfl)
        obtain ⟨cs_a, e_a, hl_a, hc_a⟩ := Frame.arg_agg Tryd.underlying28 (k := 8) (ks := [.int, .int]) (by kernel_rfl) (hval 3 _ v3 rfl rfl) tr3
        subst e_a
        obtain ⟨c_a_x, c_a_y, rfl⟩ : ∃ c_a_x c_a_y, cs_a = [c_a_x, c_a_y] := by match cs_a, hl_a with | [x0, x1], _ => exact ⟨x0, x1, rfl⟩
        have o_a_x : Frame.Okc W (.int) c_a_x := hc_a 0 (by decide) (by simp)
        obtain ⟨a_x, e_a_x, w_a_x⟩ := o_a_x.int_inv; subst e_a_x
        have o_a_y : Frame.Okc W (.int) c_a_y := hc_a 1 (by decide) (by simp)
        obtain ⟨a_y, e_a_y, w_a_y⟩ := o_a_y.int_inv; subst e_a_y
        obtain ⟨cs_b, e_b, hl_b, hc_b⟩ := Frame.arg_agg Tryd.underlying28 (k := 8) (ks := [.int, .int]) (by kernel_rfl) (hval 4 _ v4 rfl rfl) tr4
        subst e_b
        obtain ⟨c_b_x, c_b_y, rfl⟩ : ∃ c_b_x c_b_y, cs_b = [c_b_x, c_b_y] := by match cs_b, hl_b with | [x0, x1], _ => exact ⟨x0, x1, rfl⟩
        have o_b_x : Frame.Okc W (.int) c_b_x := hc_b 0 (by decide) (by simp)
        obtain ⟨b_x, e_b_x, w_b_x⟩ := o_b_x.int_inv; subst e_b_x
        have o_b_y : Frame.Okc W (.int) c_b_y := hc_b 1 (by decide) (by simp)
        obtain ⟨b_y, e_b_y, w_b_y⟩ := o_b_y.int_inv; subst e_b_y
        exact walk v0 speed height a_x a_y b_x b_y W hL sl_l (Frame.bd w_speed) (Frame.bd w_height) w_a_x w_a_y w_b_x w_b_y)

/-- The statement. -/
theorem row_holds : Rows.WindLegsSaid :=
  OpenClaim.holds_of_wide 9 Tryd.f9 rfl rfl rfl rfl rfl rfl rfl ⟨rfl, rfl, rfl, rfl, rfl⟩ rfl rfl rfl rfl rfl (by kernel_rfl) Tryd.func9 (by kernel_rfl)
    (of_decide_eq_true (by kernel_rfl)) (by unfold Func.isWrapper; first | (rw [if_pos (by decide +kernel)]; kernel_rfl) | (rw [if_neg (by decide +kernel)]; exact ⟨rfl, rfl⟩))
    (fun os started H enc _ => lifted os started H enc)
/-- The tied card. -/
theorem proved : Rows.WindLegsCardSaid :=
  Claim7.holds_tied_plain_at .later [] [.data, .data, .data] true (true, "6deb9ba2cff43c15501a76bdf9cd322ddee03e505f7501aaf9f3e71c3bb480ce") false
    row_holds (fun _ h => by cases h) (by kernel_rfl) (fun _ h => by cases h) windLegs_row_tie rfl ⟨rfl, rfl⟩ (by kernel_rfl) rfl
    (fun f fn hf hfn => by
      obtain rfl : f = 9 := Option.some.inj ((show Tryd.prog.funcNamed "skyway/skywaykeep1.WindLegs" = some 9 by kernel_rfl).symm.trans hf) |>.symm
      obtain rfl : fn = Tryd.f9 := (Option.some.inj (Tryd.func9.symm.trans hfn)).symm
      exact ⟨by kernel_rfl, fun j t ht => by
        rw [Tryd.params9] at ht
        have hall : ∀ t ∈ [42, 3, 3, 28, 28], Tryd.prog.wantsStandIn t = false := by
          intro t ht
          simp only [List.mem_cons, List.not_mem_nil, or_false] at ht
          rcases ht with rfl | rfl | rfl | rfl | rfl <;> kernel_rfl
        exact hall t (List.mem_iff_getElem?.2 ⟨j, by simpa using ht⟩)⟩)
    (by kernel_rfl)
#print axioms proved
end WindLegs
end Go.Proofs.YtkapllakofndlaaDoor

