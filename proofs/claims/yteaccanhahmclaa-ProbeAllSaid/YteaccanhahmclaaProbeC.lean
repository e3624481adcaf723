/- The checks of package probe, and whether two nodes are separated. -/
import Derived.Test.YteaccanhahmclaaInsQ
import Derived.Test.YteaccanhahmclaaRowS
namespace Go.Proofs.Yteaccanhahmclaa
open Go.RowKit
namespace Probe
open Kit Plane Tube
/-- What probe.CheckSep returns. -/
def sepE (lat ver : Int) : Int := if lat < 0 ∨ 1000000 < lat ∨ ver < 0 ∨ 60000 < ver then 4 else 0
set_option maxHeartbeats 1000000 in
theorem checkSep (lat ver : Int) (w : World) : Calls Try.prog 97 #[.agg #[.int .i64 lat, .int .i64 ver]] w fun e w' => e = .returned (.int .i64 (sepE lat ver)) ∧ Below w.heap.size w w' := by
  have HW := Lib.hid (b_alloc (Below.refl w.heap.size w) (.cells #[.int .i64 lat, .int .i64 ver] 95))
  unfold sepE
  by_cases hx : lat < 0 ∨ 1000000 < lat ∨ ver < 0 ∨ 60000 < ver
  · rw [if_pos hx]
    go_enter Try.func97, Try.ntmps97
    go_wp2_with fail
    all_goals first | (exfalso; omega) | (go_ret; exact ⟨rfl, HW.out⟩)
  · rw [if_neg hx]
    go_enter Try.func97, Try.ntmps97
    go_wp2_with fail
    all_goals first | (exfalso; omega) | (go_ret; exact ⟨rfl, HW.out⟩)
/-- The first error of k tubes. -/
def firstE (es : Nat → Int) : Nat → Int
  | 0 => 0
  | k + 1 => if firstE es k ≠ 0 then firstE es k else es k
theorem first_step {es : Nat → Int} {k : Nat} (h : firstE es k = 0) : firstE es (k + 1) = es k := by
  show (if firstE es k ≠ 0 then _ else _) = _
  rw [if_neg (fun e => e h)]
theorem first_stays {es : Nat → Int} {k : Nat} (h : firstE es k ≠ 0) : ∀ m, k ≤ m → firstE es m = firstE es k := by
  intro m
  induction m with
  | zero => intro hk; rw [show k = 0 from by omega]
  | succ m ih =>
    intro hk
    rcases Nat.lt_or_ge m k with hl | hl
    · rw [show m + 1 = k from by omega]
    · have e := ih hl
      show (if firstE es m ≠ 0 then _ else _) = _
      rw [if_pos (by rw [e]; exact h), e]
theorem first_stop {es : Nat → Int} {k m : Nat} (h0 : firstE es k = 0) (hk : k < m) (hE : es k ≠ 0) : firstE es m = es k := by
  have h1 := first_step h0
  rw [first_stays (by rw [h1]; exact hE) m (by omega), h1]
set_option maxHeartbeats 1000000 in
theorem check_sep (v : Value) (lat ver : Int) (w : World) (h : sepE lat ver ≠ 0) : Calls Try.prog 98 #[.agg #[.int .i64 lat, .int .i64 ver], v] w fun e w' => e = .returned (.int .i64 (sepE lat ver)) ∧ Below w.heap.size w w' := by
  have HP := Lib.hid (p2_new w 95 lat ver)
  have HW := Lib.hid (b_alloc (Below.refl w.heap.size w) (.cells #[.int .i64 lat, .int .i64 ver] 95))
  have C := Lib.hid (checkSep lat ver)
  generalize sepE lat ver = E at *
  obtain ⟨hE1, hE2⟩ := ge1 h; clear h
  go_enter Try.func98, Try.ntmps98
  go_wp2_with fail
  (with_reducible refine (C.out _).mono ?_); rintro e w1 ⟨rfl, h⟩
  have hw := b_next HW.out h; clear h
  go_wp2_with fail
  go_ret
  exact ⟨rfl, hw⟩
set_option maxRecDepth 100000 in
set_option maxHeartbeats 2000000 in
theorem check_tubes (b m c : Nat) (A : Nat → Option Addr) (N K : Nat → Nat) (es : Nat → Int) (lat ver : Int) (w : World) (hs : sepE lat ver = 0) (hc : m ≤ c) (hm : c ≤ 9223372036854775807) (HV : Hid (∀ k, k < m → w.cell? ⟨b, k, none⟩ = some (.slice (A k) (N k) (K k)))) (C : Hid (∀ k, k < m → CkC (.slice (A k) (N k) (K k)) (es k) w)) :
    Calls Try.prog 98 #[.agg #[.int .i64 lat, .int .i64 ver], .slice (some ⟨b, 0, none⟩) m c] w fun e w' => e = .returned (.int .i64 (firstE es m)) ∧ Below w.heap.size w w' := by
  have HP := Lib.hid (p2_new w 95 lat ver)
  have HW := Lib.hid (b_alloc (Below.refl w.heap.size w) (.cells #[.int .i64 lat, .int .i64 ver] 95))
  have CS := Lib.hid (fun w => by have c := checkSep lat ver w; rw [hs] at c; exact c)
  clear hs
  go_enter Try.func98, Try.ntmps98
  go_wp2_with fail
  (with_reducible refine (CS.out _).mono ?_); rintro e w1 ⟨rfl, h⟩
  have W1 := Lib.hid (b_next HW.out h); clear h
  go_wp2_with fail
  go_loopw [16] (fun s wr => ∃ k : Nat, k ≤ m ∧ s = .int .i64 k ∧ firstE es k = 0 ∧ Below w.heap.size w wr) (fun s _ => m - (intOf s).toNat)
  case atStart => exact ⟨0, Nat.zero_le _, rfl, rfl, W1.out⟩
  case round =>
    obtain ⟨k, hk, rfl, hf, hbl⟩ := hrel
    have HF := Lib.hid hf; have HB := Lib.hid hbl; clear hf
    by_cases hlt : k < m
    · have hl : (k : Int) < (m : Int) := by omega
      have hcell := keep hbl (HV.out k hlt)
      have CK := Lib.hid (C.out k hlt)
      clear hbl
      by_cases hE : es k = 0
      · rw [hE] at CK
        have HE := Lib.hid hE; clear hE
        go_wp2_with fail
        (with_reducible refine (CK.out _ HB.out).mono ?_); rintro e w2 ⟨rfl, h⟩
        have HB2 := Lib.hid (b_next HB.out h); clear h
        go_wp2_with fail
        exact ⟨⟨k + 1, by omega, by go_num, by rw [first_step HF.out]; exact HE.out, HB2.out⟩, by simp [intOf]; omega⟩
      · have HFE := Lib.hid (first_stop HF.out hlt hE)
        obtain ⟨hE1, hE2⟩ := ge1 hE; clear hE
        go_wp2_with fail
        (with_reducible refine (CK.out _ HB.out).mono ?_); rintro e w2 ⟨rfl, h⟩
        have HB2 := Lib.hid (b_next HB.out h); clear h
        go_wp2_with fail
        go_ret
        exact ⟨ret1 HFE.out.symm, HB2.out⟩
    · have he : k = m := by omega
      have HE := Lib.hid he
      have hl : ¬ (k : Int) < (m : Int) := by omega
      clear he
      go_wp2_with fail
      go_ret
      exact ⟨ret1 (by rw [← HE.out]; exact HF.out.symm), hbl⟩
/-- What separated answers. -/
def sepB (x y h r d x' y' h' r' d' lat ver : Int) : Bool := decide (lat ≤ root (sqr x y x' y') - r - r') || decide (ver ≤ max (h - h') (h' - h) - d - d')
/-- The numbers of a node, in bounds. -/
abbrev NB (x y h r d : Int) : Prop := (-1000000 ≤ x ∧ x ≤ 1000000 ∧ -1000000 ≤ y ∧ y ≤ 1000000) ∧ (0 ≤ h ∧ h ≤ 60000) ∧ (0 ≤ r ∧ r ≤ 1000000) ∧ (0 ≤ d ∧ d ≤ 60000)
set_option maxRecDepth 100000 in
set_option maxHeartbeats 4000000 in
theorem separated (t x y h r d t' x' y' h' r' d' lat ver : Int) (w : World) (b1 : NB x y h r d) (b2 : NB x' y' h' r' d') : Calls Try.prog 141 #[.agg #[.int .i64 t, .int .i64 x, .int .i64 y, .int .i64 h, .int .i64 r, .int .i64 d], .agg #[.int .i64 t', .int .i64 x', .int .i64 y', .int .i64 h', .int .i64 r', .int .i64 d'], .agg #[.int .i64 lat, .int .i64 ver]] w fun e w' => e = .returned (.bool (sepB x y h r d x' y' h' r' d' lat ver)) ∧ Below w.heap.size w w' := by
  have DS := Lib.hid (fun w => distance x y x' y' w rfl (by omega))
  have SB := Lib.hid (show sepB x y h r d x' y' h' r' d' lat ver = (decide (lat ≤ root (sqr x y x' y') - r - r') || decide (ver ≤ max (h - h') (h' - h) - d - d')) from rfl)
  have dl := dup_le (sqr_nonneg x y x' y') (sqr_near (by unfold good; omega) (by unfold good; omega))
  have dn := (root_spec (sqr_nonneg x y x' y')).1
  generalize sepB x y h r d x' y' h' r' d' lat ver = res at *
  generalize dup (sqr x y x' y') = q' at *
  generalize root (sqr x y x' y') = q at *
  have zA := d6_keep (b_alloc (Below.refl _ _) (.cells #[.int .i64 lat, .int .i64 ver] 95)) (d6_keep (b_alloc (Below.refl _ _) (.cells #[.int .i64 t', .int .i64 x', .int .i64 y', .int .i64 h', .int .i64 r', .int .i64 d'] 70)) (d6_new w 70 t x y h r d))
  have zB := d6_keep (b_alloc (Below.refl _ _) (.cells #[.int .i64 lat, .int .i64 ver] 95)) (d6_new (w.alloc (.cells #[.int .i64 t, .int .i64 x, .int .i64 y, .int .i64 h, .int .i64 r, .int .i64 d] 70)) 70 t' x' y' h' r' d')
  have zS := p2_new2 w (.cells #[.int .i64 t, .int .i64 x, .int .i64 y, .int .i64 h, .int .i64 r, .int .i64 d] 70) (.cells #[.int .i64 t', .int .i64 x', .int .i64 y', .int .i64 h', .int .i64 r', .int .i64 d'] 70) 95 lat ver
  rw [World.size_alloc] at zB
  have ZA := Lib.hid zA; have ZB := Lib.hid zB; have ZS := Lib.hid zS; clear zA zB zS
  have HW := Lib.hid (b_alloc (b_alloc (b_alloc (Below.refl w.heap.size w) (.cells #[.int .i64 t, .int .i64 x, .int .i64 y, .int .i64 h, .int .i64 r, .int .i64 d] 70)) (.cells #[.int .i64 t', .int .i64 x', .int .i64 y', .int .i64 h', .int .i64 r', .int .i64 d'] 70)) (.cells #[.int .i64 lat, .int .i64 ver] 95))
  go_enter Try.func141, Try.ntmps141
  go_wp2_with fail
  (with_reducible refine (DS.out _).mono ?_); rintro e w1 ⟨rfl, hb⟩
  have W1 := Lib.hid (b_next HW.out hb)
  obtain ⟨⟨a0, a1, a2⟩, a3, a4, a5⟩ := d6_keep hb ZA.out
  obtain ⟨⟨c0, c1, c2⟩, c3, c4, c5⟩ := d6_keep hb ZB.out
  obtain ⟨s0, s1⟩ := p2_keep hb ZS.out
  clear hb
  by_cases e1 : lat ≤ q - r - r'
  · have f1 := decide_eq_true e1
    go_wp2_with fail
    go_ret
    exact ⟨retb (by rw [SB.out, f1]; rfl), W1.out⟩
  · have f1 := decide_eq_false e1
    go_wp2_with fail
    all_goals
      go_ret
      exact ⟨retb (by rw [SB.out, f1]; simp; omega), W1.out⟩
/-- Two tubes behind each other. -/
theorem q2_cells {w : World} {b : Nat} {A A' : Option Addr} {m m' c c' : Nat} (h : Q2 w b (.slice A m c) (.slice A' m' c')) : ∀ k, k < 2 → w.cell? ⟨b, k, none⟩ = some (.slice (if k = 0 then A else A') (if k = 0 then m else m') (if k = 0 then c else c')) := by
  intro k hk
  rcases (show k = 0 ∨ k = 1 from by omega) with rfl | rfl
  · exact h.1
  · exact h.2
theorem q2_checks {w : World} {A A' : Option Addr} {m m' c c' : Nat} {E E' : Int} (h : CkC (.slice A m c) E w) (h' : CkC (.slice A' m' c') E' w) : ∀ k, k < 2 → CkC (.slice (if k = 0 then A else A') (if k = 0 then m else m') (if k = 0 then c else c')) ((fun k => if k = 0 then E else E') k) w := by
  intro k hk
  rcases (show k = 0 ∨ k = 1 from by omega) with rfl | rfl
  · exact h
  · exact h'
theorem ckc_keep {W w : World} {v : Value} {E : Int} (hb : Below W.heap.size W w) (h : CkC v E W) : CkC v E w := fun w1 hb1 => h w1 (b_next hb hb1)
/-- What probe.check says of two tubes. -/
def twoE (lat ver E E' : Int) : Int := if sepE lat ver ≠ 0 then sepE lat ver else if E ≠ 0 then E else E'
theorem check_two {b : Nat} {A A' : Option Addr} {m m' c c' : Nat} {E E' : Int} (lat ver : Int) {w : World} (hq : Q2 w b (.slice A m c) (.slice A' m' c')) (h : CkC (.slice A m c) E w) (h' : CkC (.slice A' m' c') E' w) :
    Calls Try.prog 98 #[.agg #[.int .i64 lat, .int .i64 ver], .slice (some ⟨b, 0, none⟩) 2 2] w fun e w' => e = .returned (.int .i64 (twoE lat ver E E')) ∧ Below w.heap.size w w' := by
  unfold twoE
  by_cases hs : sepE lat ver = 0
  · rw [if_neg (fun e => e hs)]
    have c := check_tubes b 2 2 _ _ _ _ lat ver w hs (Nat.le_refl _) (by decide) (Lib.hid (q2_cells hq)) (Lib.hid (q2_checks h h'))
    have e : firstE (fun k => if k = 0 then E else E') 2 = if E ≠ 0 then E else E' := by
      simp [firstE]
    rw [e] at c
    exact c
  · rw [if_pos hs]
    exact check_sep _ lat ver w hs
end Probe
end Go.Proofs.Yteaccanhahmclaa
