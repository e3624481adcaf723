/- polygon.doubled: what it returns; a point's position in a doubled polygon. -/
import Derived.Test.YtlokkffpmjlihaaPolyJ
import Derived.Test.YtlokkffpmjlihaaRowS
import Derived.Test.YtlokkffpmjlihaaVolU
namespace Go.Proofs.Ytlokkffpmjlihaa
open Go.RowKit
namespace Over
open Kit Plane Poly Vol
/-- The rows of a doubled polygon. -/
def dbl (X Y : Nat → Int) : Nat → Nat → Int := fun i j => if j = 0 then 2 * X i else 2 * Y i
theorem info_p : (Try.prog.info? 34).map (fun i => (i.zero, i.size, i.bytes)) = some (some (.agg #[.int .i64 0, .int .i64 0]), 2, 16) := by kernel_rfl
theorem dbl_next {X Y : Nat → Int} {k : Nat} : rowL 2 (dbl X Y) (k + 1) = rowL 2 (dbl X Y) k ++ [.int .i64 (2 * X k), .int .i64 (2 * Y k)] := by
  rw [rowL]
  rfl
set_option maxRecDepth 100000 in
set_option maxHeartbeats 4000000 in
theorem doubled_w (n cap b off : Nat) (X Y : Nat → Int) (w : World) (h0 : 0 < n) (hn : n ≤ 16) (hc : n ≤ cap) (hm : cap ≤ 9223372036854775807) (HV : Hid (∀ k, k < n → E2 w b off k (X k) (Y k))) (HG : Hid (∀ k, k < n → good (X k) (Y k))) :
    Calls Try.prog 70 #[.slice (some ⟨b, off, none⟩) n cap] w fun e w' => (∃ q, e = .returned q ∧ Own w' w.heap.size 34 2 q n (dbl X Y)) ∧ Below w.heap.size w w' := by
  obtain ⟨i0, hi', hz0, hz1, hz2⟩ := info_parts info_p
  have I := Lib.hid (And.intro hi' (And.intro hz0 (And.intro hz1 hz2))); clear hi' hz0 hz1 hz2
  go_enter Try.func70, Try.ntmps70
  go_wp2_with fail
  go_loopw [8, 3] (fun s q wr => ∃ k : Nat, k ≤ n ∧ s = .int .i64 k ∧ Own wr w.heap.size 34 2 q k (dbl X Y) ∧ Below w.heap.size w wr) (fun s _ _ => n - (intOf s).toNat)
  case atStart => exact ⟨0, Nat.zero_le _, rfl, own_nil _ _ _ _ _, Below.refl _ _⟩
  case round =>
    obtain ⟨k, hk, rfl, ho, hbl⟩ := hrel
    have HO := Lib.hid ho
    obtain ⟨A, c2, rfl, hmc, hcm⟩ := own_slice ho
    have hcm2 : c2 ≤ 9223372036854775807 := Nat.le_trans hcm (by decide)
    by_cases hlt : k < n
    · have hl : (k : Int) < (n : Int) := by omega
      obtain ⟨c0, c1⟩ := e2_keep hbl (HV.out k hlt)
      have hg := HG.out k hlt
      unfold good at hg
      have al := b_alloc (Below.refl wr.heap.size wr) (.cells #[.int .i64 (X k), .int .i64 (Y k)] 34)
      have O1 := Lib.hid (own_keep al HO.out); have B1 := Lib.hid (b_next hbl al)
      have al2 := b_alloc (Below.refl (wr.alloc (.cells #[.int .i64 (X k), .int .i64 (Y k)] 34)).heap.size (wr.alloc (.cells #[.int .i64 (X k), .int .i64 (Y k)] 34))) (.cells #[.int .i64 (2 * X k), .int .i64 (2 * Y k)] 34)
      have O2 := Lib.hid (own_keep al2 O1.out); have B2 := Lib.hid (b_next B1.out al2)
      have hn2 := new2 (wr.alloc (.cells #[.int .i64 (X k), .int .i64 (Y k)] 34)) 34 (2 * X k) (2 * Y k)
      rw [World.size_alloc] at hn2
      have HN2 := Lib.hid hn2
      have EN : Hid (rowL 2 (dbl X Y) (k + 1) = rowL 2 (dbl X Y) k ++ [.int .i64 (2 * X k), .int .i64 (2 * Y k)]) := Lib.hid dbl_next
      clear al al2 hn2 hbl ho hcm
      generalize X k = x at *
      generalize Y k = y at *
      have hgs : w.heap.size ≤ ((wr.alloc (.cells #[.int .i64 x, .int .i64 y] 34)).alloc (.cells #[.int .i64 (2 * x), .int .i64 (2 * y)] 34)).heap.size := B2.out.size
      go_wp2_with (at_builtin; refine wpList_append_own_at _ rfl (.tmp 12) (.tmp 20) 46 rfl w.heap.size 34 i0 _ 2 16 Try.underlying46 I.out.1 I.out.2.1 I.out.2.2.1 I.out.2.2.2 rfl (by decide) _ k _ rfl O2.out ⟨wr.heap.size + 1, 0, none⟩ 1 1 [.int .i64 (2 * x), .int .i64 (2 * y)] rfl rfl HN2.out new2_one (by unfold maxLen; omega) (by omega) hgs ?_; intro v2 w7 hown1 hg1 hnil1 hat1)
      refine ⟨⟨k + 1, by omega, by go_num, ?_, grow_below B2.out O2.out hg1 (Nat.le_refl _) B2.out.size⟩, by simp [intOf]; omega⟩
      show w7.ownsRow w.heap.size 34 2 v2 (k + 1) (rowL 2 (dbl X Y) (k + 1))
      rw [EN.out]
      exact hown1
    · have hkn : k = n := by omega
      have hl : ¬ (k : Int) < (n : Int) := by omega
      have HB := Lib.hid hbl; clear hbl
      go_wp2_with fail
      go_ret
      refine ⟨⟨_, rfl, ?_⟩, HB.out⟩
      rw [← hkn]; exact HO.out
theorem doubledC {v : Value} {n : Nat} {X Y : Nat → Int} {w : World} (hv : QV w v n X Y) (h : pck n X Y = 0) :
    Calls Try.prog 70 #[v] w fun e w' => (∃ q, e = .returned q ∧ QV w' q n (fun k => 2 * X k) (fun k => 2 * Y k)) ∧ Below w.heap.size w w' := by
  obtain ⟨h3, h16, hg, -, -⟩ := pck_ok h
  rcases hv with ⟨h0', -⟩ | ⟨h0, b, off, cap, rfl, h1, h2, h3'⟩
  · omega
  · refine (doubled_w n cap b off X Y w h0 h16 h1 (Nat.le_trans h2 (by decide)) (Lib.hid h3') (Lib.hid hg)).mono ?_
    rintro e w' ⟨⟨q, rfl, ho⟩, hb⟩
    obtain ⟨g, c, rfl, -, -, g1, g2, hr⟩ := own_row ho h0
    refine ⟨⟨_, rfl, Or.inr ⟨h0, g, 0, c, rfl, g1, g2, fun k hk => ?_⟩⟩, hb⟩
    have c0 := hr.cell k hk 0 (by omega); have c1 := hr.cell k hk 1 (by omega)
    exact ⟨by rw [Nat.zero_add]; exact c0, by rw [Nat.zero_add]; exact c1⟩
/-- Everything doubled: the same side of a line, the same places. -/
theorem crs_dbl (ax ay bx by' cx cy : Int) : crs (2 * ax) (2 * ay) (2 * bx) (2 * by') (2 * cx) (2 * cy) = 4 * crs ax ay bx by' cx cy := by
  unfold crs; grind
theorem sgn_dbl (n : Int) : sgn (4 * n) = sgn n := by unfold sgn; split <;> (try split) <;> (try split) <;> (try split) <;> omega
theorem btw_dbl (ax ay bx by' cx cy : Int) : btw (2 * ax) (2 * ay) (2 * bx) (2 * by') (2 * cx) (2 * cy) = btw ax ay bx by' cx cy := by
  unfold btw
  rw [decide_eq_decide]
  omega
theorem on_dbl (ax ay bx by' cx cy : Int) : onB (2 * ax) (2 * ay) (2 * bx) (2 * by') (2 * cx) (2 * cy) = onB ax ay bx by' cx cy := by
  unfold onB
  rw [btw_dbl, crs_dbl]
  congr 1
  rw [decide_eq_decide]
  omega
theorem cross_dbl (ax ay bx by' cx cy dx dy : Int) : crossB (2 * ax) (2 * ay) (2 * bx) (2 * by') (2 * cx) (2 * cy) (2 * dx) (2 * dy) = crossB ax ay bx by' cx cy dx dy := by
  unfold crossB
  rw [crs_dbl, crs_dbl, crs_dbl, crs_dbl, sgn_dbl, sgn_dbl, sgn_dbl, sgn_dbl]
theorem cr_dbl (ya yb q t : Int) : cr (2 * ya) (2 * yb) (2 * q) t = cr ya yb q t := by
  unfold cr
  rw [show decide (2 * q < 2 * ya) = decide (q < ya) from decide_eq_decide.2 (by omega), show decide (2 * q < 2 * yb) = decide (q < yb) from decide_eq_decide.2 (by omega), show decide (2 * ya < 2 * yb) = decide (ya < yb) from decide_eq_decide.2 (by omega), show decide (2 * yb < 2 * ya) = decide (yb < ya) from decide_eq_decide.2 (by omega)]
theorem plon_dbl {n : Nat} {X Y : Nat → Int} {qx qy : Int} : ∀ m, plon n (fun k => 2 * X k) (fun k => 2 * Y k) (2 * qx) (2 * qy) m = plon n X Y qx qy m
  | 0 => rfl
  | m + 1 => by
    show (plon n (fun k => 2 * X k) (fun k => 2 * Y k) (2 * qx) (2 * qy) m || onB (2 * X m) (2 * Y m) (2 * X (nx n m)) (2 * Y (nx n m)) (2 * qx) (2 * qy)) = (plon n X Y qx qy m || onB (X m) (Y m) (X (nx n m)) (Y (nx n m)) qx qy)
    rw [plon_dbl m, on_dbl]
theorem pin_dbl {n : Nat} {X Y : Nat → Int} {qx qy : Int} : ∀ m, pin n (fun k => 2 * X k) (fun k => 2 * Y k) (2 * qx) (2 * qy) m = pin n X Y qx qy m
  | 0 => rfl
  | m + 1 => by
    show (if cr (2 * Y m) (2 * Y (nx n m)) (2 * qy) (sgn (crs (2 * X m) (2 * Y m) (2 * X (nx n m)) (2 * Y (nx n m)) (2 * qx) (2 * qy))) then - pin n (fun k => 2 * X k) (fun k => 2 * Y k) (2 * qx) (2 * qy) m else pin n (fun k => 2 * X k) (fun k => 2 * Y k) (2 * qx) (2 * qy) m) = (if cr (Y m) (Y (nx n m)) qy (sgn (crs (X m) (Y m) (X (nx n m)) (Y (nx n m)) qx qy)) then - pin n X Y qx qy m else pin n X Y qx qy m)
    rw [pin_dbl m, cr_dbl, crs_dbl, sgn_dbl]
/-- A point's position in the doubled polygon. -/
theorem place_dbl {n : Nat} {X Y : Nat → Int} {qx qy : Int} : place n (fun k => 2 * X k) (fun k => 2 * Y k) (2 * qx) (2 * qy) = place n X Y qx qy := by
  unfold place
  rw [plon_dbl, pin_dbl]
end Over
end Go.Proofs.Ytlokkffpmjlihaa
