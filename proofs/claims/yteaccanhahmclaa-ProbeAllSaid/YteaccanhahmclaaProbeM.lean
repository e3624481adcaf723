/- probe.Margin and probe.Separated; the fixed example of chapter 17 is true. -/
import Derived.Test.YteaccanhahmclaaProbeS
import Derived.Test.YteaccanhahmclaaTubeW
namespace Go.Proofs.Yteaccanhahmclaa
open Go.RowKit
namespace Probe
open Kit Plane Tube
/-- The least of k numbers, and of a great one. -/
def minN (g : Int → Int) (a : Int) : Nat → Int
  | 0 => 4611686018427387904
  | k + 1 => min (minN g a k) (g (a + k))
theorem minN_le {g : Int → Int} {a : Int} : ∀ {k : Nat} {t : Int}, a ≤ t → t < a + k → minN g a k ≤ g t := by
  intro k
  induction k with
  | zero => intro t h1 h2; omega
  | succ k ih =>
    intro t h1 h2
    show min (minN g a k) (g (a + k)) ≤ g t
    by_cases ht : t = a + k
    · rw [ht]; omega
    · have := ih h1 (show t < a + k by omega); omega
theorem minN_at {g : Int → Int} {a : Int} {k : Nat} (h0 : 0 < k) (hg : ∀ t, a ≤ t → t < a + k → g t ≤ 1000000000) : ∃ t, a ≤ t ∧ t < a + k ∧ minN g a k = g t := by
  induction k with
  | zero => omega
  | succ k ih =>
    have hk := hg (a + k) (by omega) (by omega)
    by_cases hz : k = 0
    · subst hz
      refine ⟨a, by omega, by omega, ?_⟩
      have e : minN g a (0 + 1) = min 4611686018427387904 (g (a + ((0 : Nat) : Int))) := rfl
      rw [e]
      have e2 : a + ((0 : Nat) : Int) = a := by omega
      rw [e2] at hk ⊢
      omega
    · obtain ⟨t, h1, h2, h3⟩ := ih (by omega) (fun t h1 h2 => hg t h1 (by omega))
      by_cases hl : g (a + k) ≤ minN g a k
      · refine ⟨a + k, by omega, by omega, ?_⟩
        show min (minN g a k) (g (a + k)) = _
        omega
      · refine ⟨t, h1, by omega, ?_⟩
        show min (minN g a k) (g (a + k)) = _
        omega
theorem minN_bd {g : Int → Int} {a : Int} : ∀ {k : Nat}, (∀ t, a ≤ t → t < a + k → -2000000 ≤ g t) → -2000000 ≤ minN g a k := by
  intro k
  induction k with
  | zero => intro _; show (-2000000 : Int) ≤ 4611686018427387904; omega
  | succ k ih =>
    intro h
    have := ih fun t h1 h2 => h t h1 (by omega)
    have := h (a + k) (by omega) (by omega)
    show -2000000 ≤ min (minN g a k) (g (a + k))
    omega
theorem minN_top {g : Int → Int} {a : Int} : ∀ {k : Nat}, minN g a k ≤ 4611686018427387904 := by
  intro k
  induction k with
  | zero => exact Int.le_refl _
  | succ k ih => show min (minN g a k) (g (a + k)) ≤ _; omega
theorem minN_step (g : Int → Int) (a : Int) (k : Nat) : minN g a (k + 1) = min (minN g a k) (g (a + k)) := rfl
/-- By how much two nodes are apart, beyond their radii. -/
def gapN (x y r x' y' r' : Int) : Int := root (sqr x y x' y') - r - r'
set_option maxRecDepth 100000 in
set_option maxHeartbeats 2000000 in
theorem margin_bad (A A' : Option Addr) (m m' c c' : Nat) (E E' F : Int) (w : World) (C1 : Hid (CkC (.slice A m c) E w)) (C2 : Hid (CkC (.slice A' m' c') E' w)) (hE : twoE 0 0 E E' = F) (hF : F ≠ 0) :
    Calls Try.prog 96 #[.slice A m c, .slice A' m' c'] w fun e w' => e = .returned (.tuple #[.int .i64 0, .int .i64 F]) ∧ Below w.heap.size w w' := by
  have HE := Lib.hid hE; clear hE
  obtain ⟨hF1, hF2⟩ := ge1 hF; clear hF
  have Q1 := q2_new w 62 (.slice A m c) (.slice A' m' c')
  have W1 := Lib.hid (b_alloc (Below.refl w.heap.size w) (.cells #[.slice A m c, .slice A' m' c'] 62))
  have CH := Lib.hid (check_two 0 0 Q1 (ckc_keep W1.out C1.out) (ckc_keep W1.out C2.out))
  clear Q1
  rw [HE.out] at CH
  go_enter Try.func96, Try.ntmps96
  go_wp2_with fail
  (with_reducible refine CH.out.mono ?_); rintro e w1 ⟨rfl, h⟩
  have hw := b_next W1.out h; clear h
  go_wp2_with fail
  go_ret2
  exact ⟨rfl, hw⟩
set_option maxRecDepth 100000 in
set_option maxHeartbeats 2000000 in
theorem margin_none (A A' : Option Addr) (m m' c c' : Nat) (a z : Int) (w : World) (C1 : Hid (CkC (.slice A m c) 0 w)) (C2 : Hid (CkC (.slice A' m' c') 0 w)) (CM : Hid (CmC (.slice A m c) (.slice A' m' c') a z w)) (hz : z < a) :
    Calls Try.prog 96 #[.slice A m c, .slice A' m' c'] w fun e w' => e = .returned (.tuple #[.int .i64 0, .int .i64 8]) ∧ Below w.heap.size w w' := by
  have Q1 := q2_new w 62 (.slice A m c) (.slice A' m' c')
  have W1 := Lib.hid (b_alloc (Below.refl w.heap.size w) (.cells #[.slice A m c, .slice A' m' c'] 62))
  have CH := Lib.hid (check_two 0 0 Q1 (ckc_keep W1.out C1.out) (ckc_keep W1.out C2.out))
  clear Q1
  rw [show twoE 0 0 0 0 = 0 from rfl] at CH
  go_enter Try.func96, Try.ntmps96
  go_wp2_with fail
  (with_reducible refine CH.out.mono ?_); rintro e w1 ⟨rfl, h⟩
  have W2 := Lib.hid (b_next W1.out h); clear h
  go_wp2_with fail
  (with_reducible refine (CM.out _ W2.out).mono ?_); rintro e w2 ⟨rfl, h⟩
  have W3 := Lib.hid (b_next W2.out h); clear h
  go_wp2_with fail
  go_ret2
  exact ⟨rfl, W3.out⟩
set_option maxRecDepth 100000 in
set_option maxHeartbeats 8000000 in
theorem margin_walk (A A' : Option Addr) (m m' c c' : Nat) (a z : Int) (x y h r d x' y' h' r' d' : Int → Int) (G : Int → Int) (HG : Hid (∀ t, G t = gapN (x t) (y t) (r t) (x' t) (y' t) (r' t))) (w : World) (C1 : Hid (CkC (.slice A m c) 0 w)) (C2 : Hid (CkC (.slice A' m' c') 0 w)) (CM : Hid (CmC (.slice A m c) (.slice A' m' c') a z w)) (ha : 0 ≤ a ∧ a ≤ z ∧ z ≤ 200000)
    (D1 : Hid (AtC (.slice A m c) w a z x y h r d)) (D2 : Hid (AtC (.slice A' m' c') w a z x' y' h' r' d')) (B1 : Hid (NdB a z x y h r d)) (B2 : Hid (NdB a z x' y' h' r' d')) :
    Calls Try.prog 96 #[.slice A m c, .slice A' m' c'] w fun e w' => e = .returned (.tuple #[.int .i64 (minN G a (z + 1 - a).toNat), .int .i64 0]) ∧ Below w.heap.size w w' := by
  have Q1 := q2_new w 62 (.slice A m c) (.slice A' m' c')
  have W1 := Lib.hid (b_alloc (Below.refl w.heap.size w) (.cells #[.slice A m c, .slice A' m' c'] 62))
  have CH := Lib.hid (check_two 0 0 Q1 (ckc_keep W1.out C1.out) (ckc_keep W1.out C2.out))
  clear Q1
  rw [show twoE 0 0 0 0 = 0 from rfl] at CH
  have g1 : ¬ z < a := by omega
  go_enter Try.func96, Try.ntmps96
  go_wp2_with fail
  (with_reducible refine CH.out.mono ?_); rintro e w1 ⟨rfl, h⟩
  have W2 := Lib.hid (b_next W1.out h); clear h
  go_wp2_with fail
  (with_reducible refine (CM.out _ W2.out).mono ?_); rintro e w2 ⟨rfl, h⟩
  have W3 := Lib.hid (b_next W2.out h); clear h
  go_wp2_with fail
  obtain ⟨wb, rfl⟩ : ∃ wb : World, wb = w2 := ⟨_, rfl⟩
  go_loopw [10, 9] (fun s q wr => ∃ k : Nat, k ≤ (z + 1 - a).toNat ∧ s = .int .i64 (a + k) ∧ q = .int .i64 (minN G a k) ∧ -2000000 ≤ minN G a k ∧ Below w.heap.size w wr) (fun s _ _ => (z + 1 - intOf s).toNat)
  case atStart => exact ⟨0, Nat.zero_le _, by simp, rfl, by show (-2000000 : Int) ≤ 4611686018427387904; omega, W3.out⟩
  case round =>
    obtain ⟨k, hk, rfl, rfl, hlo, hbl⟩ := hrel
    obtain ⟨t, ht⟩ : ∃ t : Int, t = a + k := ⟨_, rfl⟩
    rw [← ht]
    have HB := Lib.hid hbl; have HT := Lib.hid ht; clear hbl
    have htop := minN_top (g := G) (a := a) (k := k)
    by_cases hlt : t ≤ z
    · have t1 : a ≤ t := by omega
      have t2 : t ≤ 200000 := by omega
      have hkz : k < (z + 1 - a).toNat := by omega
      have HM := Lib.hid (minN_step G a k)
      rw [← ht] at HM
      clear ht
      have b1 := B1.out t t1 hlt; have b2 := B2.out t t1 hlt
      have D1' := Lib.hid (fun w1 hb => D1.out w1 hb t t1 hlt); have D2' := Lib.hid (fun w1 hb => D2.out w1 hb t t1 hlt)
      have HGt := Lib.hid (HG.out t)
      have DS := Lib.hid (fun w => distance (x t) (y t) (x' t) (y' t) w rfl (by omega))
      have dl := dup_le (sqr_nonneg (x t) (y t) (x' t) (y' t)) (sqr_near (by unfold good; omega) (by unfold good; omega))
      have dn := (root_spec (sqr_nonneg (x t) (y t) (x' t) (y' t))).1
      unfold gapN at HGt
      generalize dup (sqr (x t) (y t) (x' t) (y' t)) = q' at *
      generalize root (sqr (x t) (y t) (x' t) (y' t)) = q at *
      generalize x t = xt at *
      generalize y t = yt at *
      generalize h t = ht at *
      generalize r t = rt at *
      generalize d t = dt at *
      generalize x' t = xt' at *
      generalize y' t = yt' at *
      generalize h' t = ht' at *
      generalize r' t = rt' at *
      generalize d' t = dt' at *
      generalize hmn : minN G a k = mn at *
      clear hmn
      go_wp2_with fail
      (with_reducible refine (D1'.out _ HB.out).mono ?_); rintro e w3 ⟨rfl, hb⟩
      have W3' := Lib.hid (b_alloc (b_next HB.out hb) (.cells #[.int .i64 t, .int .i64 xt, .int .i64 yt, .int .i64 ht, .int .i64 rt, .int .i64 dt] 70))
      have Z3 := Lib.hid (d6_new w3 70 t xt yt ht rt dt)
      clear hb
      go_wp2_with fail
      (with_reducible refine (D2'.out _ W3'.out).mono ?_); rintro e w4 ⟨rfl, hb⟩
      have W4 := Lib.hid (b_alloc (b_next W3'.out hb) (.cells #[.int .i64 t, .int .i64 xt', .int .i64 yt', .int .i64 ht', .int .i64 rt', .int .i64 dt'] 70))
      have z4 := d6_keep (b_alloc (Below.refl w4.heap.size w4) (.cells #[.int .i64 t, .int .i64 xt', .int .i64 yt', .int .i64 ht', .int .i64 rt', .int .i64 dt'] 70)) (d6_keep hb Z3.out); have z5 := d6_new w4 70 t xt' yt' ht' rt' dt'
      have n4 := new_ne (d6_keep hb Z3.out).1.1
      have Z4 := Lib.hid z4; have Z5 := Lib.hid z5
      obtain ⟨⟨a0, a1, a2⟩, a3, a4, a5⟩ := z4
      obtain ⟨⟨c0, c1, c2⟩, c3, c4, c5⟩ := z5
      clear hb
      go_wp2_with fail
      (with_reducible refine (DS.out _).mono ?_); rintro e w5 ⟨rfl, hb⟩
      have W5 := Lib.hid (b_next W4.out hb)
      clear a0 a1 a2 a3 a4 a5 c0 c1 c2 c3 c4 c5 n4
      obtain ⟨⟨a0, a1, a2⟩, a3, a4, a5⟩ := d6_keep hb Z4.out
      obtain ⟨⟨c0, c1, c2⟩, c3, c4, c5⟩ := d6_keep hb Z5.out
      clear hb
      go_wp2_with fail
      all_goals
        refine ⟨⟨k + 1, by omega, ?_, ?_, ?_, W5.out⟩, by simp [intOf]; omega⟩
        · have := HT.out
          congr 1; omega
        · rw [HM.out, HGt.out]; congr 1; omega
        · rw [HM.out, HGt.out]; omega
    · have he : k = (z + 1 - a).toNat := by omega
      have HE := Lib.hid he; clear he ht
      go_wp2_with fail
      go_ret2
      exact ⟨by rw [← HE.out]; rfl, HB.out⟩
section
variable {u v : Value} {n n' : Nat} {T X Y H R B T' X' Y' H' R' B' : Nat → Int} {w : World}
/-- By how much two tubes are apart at a time, beyond their radii. -/
def gapT (T X Y R : Nat → Int) (n : Nat) (T' X' Y' R' : Nat → Int) (n' : Nat) (t : Int) : Int := gapN (tx T X (segI T n t) t) (tx T Y (segI T n t) t) (tu T R (segI T n t) t) (tx T' X' (segI T' n' t) t) (tx T' Y' (segI T' n' t) t) (tu T' R' (segI T' n' t) t)
theorem marginC_bad (hu : TV w u n T X Y H R B) (hv : TV w v n' T' X' Y' H' R' B') (hE : twoE 0 0 (tck T X Y H R B n) (tck T' X' Y' H' R' B' n') ≠ 0) :
    Calls Try.prog 96 #[u, v] w fun e w' => e = .returned (.tuple #[.int .i64 0, .int .i64 (twoE 0 0 (tck T X Y H R B n) (tck T' X' Y' H' R' B' n'))]) ∧ Below w.heap.size w w' := by
  have C1 := checkC hu
  have C2 := checkC hv
  obtain ⟨A, c, rfl, -, -⟩ := tv_slice hu
  obtain ⟨A', c', rfl, -, -⟩ := tv_slice hv
  exact margin_bad A A' n n' c c' _ _ _ w (Lib.hid C1) (Lib.hid C2) rfl hE
theorem marginC_none (hu : TV w u n T X Y H R B) (hv : TV w v n' T' X' Y' H' R' B') (hp : tok T X Y H R B n) (hp' : tok T' X' Y' H' R' B' n') (hz : min (T (n - 1)) (T' (n' - 1)) < max (T 0) (T' 0)) :
    Calls Try.prog 96 #[u, v] w fun e w' => e = .returned (.tuple #[.int .i64 0, .int .i64 8]) ∧ Below w.heap.size w w' := by
  have C1 := checkC hu
  have C2 := checkC hv
  rw [(tck_zero n).2 hp] at C1
  rw [(tck_zero n').2 hp'] at C2
  have CM := commonC hu hv hp hp'
  obtain ⟨A, c, rfl, -, -⟩ := tv_slice hu
  obtain ⟨A', c', rfl, -, -⟩ := tv_slice hv
  exact margin_none A A' n n' c c' _ _ w (Lib.hid C1) (Lib.hid C2) (Lib.hid CM) hz
theorem marginC_ok (hu : TV w u n T X Y H R B) (hv : TV w v n' T' X' Y' H' R' B') (hp : tok T X Y H R B n) (hp' : tok T' X' Y' H' R' B' n') (hz : max (T 0) (T' 0) ≤ min (T (n - 1)) (T' (n' - 1))) :
    Calls Try.prog 96 #[u, v] w fun e w' => e = .returned (.tuple #[.int .i64 (minN (gapT T X Y R n T' X' Y' R' n') (max (T 0) (T' 0)) (min (T (n - 1)) (T' (n' - 1)) + 1 - max (T 0) (T' 0)).toNat), .int .i64 0]) ∧ Below w.heap.size w w' := by
  have C1 := checkC hu
  have C2 := checkC hv
  rw [(tck_zero n).2 hp] at C1
  rw [(tck_zero n').2 hp'] at C2
  have CM := commonC hu hv hp hp'
  have t0 := hp.time 0 hp.pos
  have tn := hp.time (n - 1) (by have := hp.pos; omega)
  have t0' := hp'.time 0 hp'.pos
  have tn' := hp'.time (n' - 1) (by have := hp'.pos; omega)
  have h1 : T 0 ≤ max (T 0) (T' 0) := by omega
  have h2 : T' 0 ≤ max (T 0) (T' 0) := by omega
  have h3 : min (T (n - 1)) (T' (n' - 1)) ≤ T (n - 1) := by omega
  have h4 : min (T (n - 1)) (T' (n' - 1)) ≤ T' (n' - 1) := by omega
  have D1 := at_of hu hp h1 h3
  have D2 := at_of hv hp' h2 h4
  obtain ⟨A, c, rfl, -, -⟩ := tv_slice hu
  obtain ⟨A', c', rfl, -, -⟩ := tv_slice hv
  exact margin_walk A A' n n' c c' _ _ _ _ _ _ _ _ _ _ _ _ (gapT T X Y R n T' X' Y' R' n') (Lib.hid fun t => rfl) w (Lib.hid C1) (Lib.hid C2) (Lib.hid CM) (by omega) (Lib.hid D1) (Lib.hid D2) (Lib.hid (nd_bds hp h1 h3)) (Lib.hid (nd_bds hp' h2 h4))
end
-- SEPARATED
/-- A tube of one node. -/
theorem one_tv {w : World} {b : Nat} {t x y h r d : Int} (hd : D6 w b t x y h r d) : TV w (.slice (some ⟨b, 0, none⟩) 1 1) 1 (fun _ => t) (fun _ => x) (fun _ => y) (fun _ => h) (fun _ => r) (fun _ => d) := by
  refine Or.inr ⟨by omega, b, 0, 1, rfl, by omega, by decide, fun k hk => ?_⟩
  obtain rfl : k = 0 := by omega
  exact hd
/-- What Check says of a tube of one node. -/
def nodeE (t x y h r d : Int) : Int := tck (fun _ => t) (fun _ => x) (fun _ => y) (fun _ => h) (fun _ => r) (fun _ => d) 1
theorem nodeE_bds {t x y h r d : Int} (he : nodeE t x y h r d = 0) : NB x y h r d ∧ 0 ≤ t ∧ t ≤ 200000 := by
  have hp := (tck_zero 1).1 he
  have g := hp.point 0 (by omega)
  have q := hp.nums 0 (by omega)
  have s := hp.time 0 (by omega)
  unfold good at g
  exact ⟨⟨g, q⟩, s⟩
/-- What Separated returns. -/
def SepdP (E t t' : Int) (b : Bool) (e : Ending) : Prop := (E ≠ 0 ∧ e = .returned (.tuple #[.bool false, .int .i64 E])) ∨ (E = 0 ∧ t ≠ t' ∧ e = .returned (.tuple #[.bool false, .int .i64 12])) ∨ (E = 0 ∧ t = t' ∧ e = .returned (.tuple #[.bool b, .int .i64 0]))
set_option maxRecDepth 100000 in
set_option maxHeartbeats 4000000 in
theorem sepd_walk (t x y h r d t' x' y' h' r' d' lat ver E : Int) (w : World) (hE : twoE lat ver (nodeE t x y h r d) (nodeE t' x' y' h' r' d') = E) :
    Calls Try.prog 95 #[.agg #[.int .i64 t, .int .i64 x, .int .i64 y, .int .i64 h, .int .i64 r, .int .i64 d], .agg #[.int .i64 t', .int .i64 x', .int .i64 y', .int .i64 h', .int .i64 r', .int .i64 d'], .agg #[.int .i64 lat, .int .i64 ver]] w fun e w' =>
      SepdP E t t' (sepB x y h r d x' y' h' r' d' lat ver) e ∧ Below w.heap.size w w' := by
  have HE := Lib.hid hE
  have ZA := Lib.hid (d6_keep (b_alloc (Below.refl _ _) (.cells #[.int .i64 lat, .int .i64 ver] 95)) (d6_keep (b_alloc (Below.refl _ _) (.cells #[.int .i64 t', .int .i64 x', .int .i64 y', .int .i64 h', .int .i64 r', .int .i64 d'] 70)) (d6_new w 70 t x y h r d)))
  have zB := d6_keep (b_alloc (Below.refl _ _) (.cells #[.int .i64 lat, .int .i64 ver] 95)) (d6_new (w.alloc (.cells #[.int .i64 t, .int .i64 x, .int .i64 y, .int .i64 h, .int .i64 r, .int .i64 d] 70)) 70 t' x' y' h' r' d')
  rw [World.size_alloc] at zB
  have ZB := Lib.hid zB; clear zB
  have ZS := Lib.hid (p2_new2 w (.cells #[.int .i64 t, .int .i64 x, .int .i64 y, .int .i64 h, .int .i64 r, .int .i64 d] 70) (.cells #[.int .i64 t', .int .i64 x', .int .i64 y', .int .i64 h', .int .i64 r', .int .i64 d'] 70) 95 lat ver)
  have W0 := Lib.hid (b_alloc (b_alloc (b_alloc (Below.refl w.heap.size w) (.cells #[.int .i64 t, .int .i64 x, .int .i64 y, .int .i64 h, .int .i64 r, .int .i64 d] 70)) (.cells #[.int .i64 t', .int .i64 x', .int .i64 y', .int .i64 h', .int .i64 r', .int .i64 d'] 70)) (.cells #[.int .i64 lat, .int .i64 ver] 95))
  obtain ⟨w0, hw0⟩ : ∃ w0, w0 = ((w.alloc (.cells #[.int .i64 t, .int .i64 x, .int .i64 y, .int .i64 h, .int .i64 r, .int .i64 d] 70)).alloc (.cells #[.int .i64 t', .int .i64 x', .int .i64 y', .int .i64 h', .int .i64 r', .int .i64 d'] 70)).alloc (.cells #[.int .i64 lat, .int .i64 ver] 95) := ⟨_, rfl⟩
  rw [← hw0] at ZA ZB ZS W0
  have sz : w0.heap.size = w.heap.size + 1 + 1 + 1 := by rw [hw0]; simp
  have dA := d6_keep (b_alloc (Below.refl _ _) (.cells #[.slice (some ⟨w.heap.size + 1 + 1 + 1, 0, none⟩) 1 1, .slice (some ⟨w.heap.size + 1 + 1 + 1 + 1, 0, none⟩) 1 1] 62)) (d6_keep (b_alloc (Below.refl _ _) (.cells #[.int .i64 t', .int .i64 x', .int .i64 y', .int .i64 h', .int .i64 r', .int .i64 d'] 70)) (d6_new w0 70 t x y h r d))
  rw [sz] at dA
  have dB := d6_keep (b_alloc (Below.refl _ _) (.cells #[.slice (some ⟨w.heap.size + 1 + 1 + 1, 0, none⟩) 1 1, .slice (some ⟨w.heap.size + 1 + 1 + 1 + 1, 0, none⟩) 1 1] 62)) (d6_new (w0.alloc (.cells #[.int .i64 t, .int .i64 x, .int .i64 y, .int .i64 h, .int .i64 r, .int .i64 d] 70)) 70 t' x' y' h' r' d')
  rw [World.size_alloc, sz] at dB
  have q := q2_new ((w0.alloc (.cells #[.int .i64 t, .int .i64 x, .int .i64 y, .int .i64 h, .int .i64 r, .int .i64 d] 70)).alloc (.cells #[.int .i64 t', .int .i64 x', .int .i64 y', .int .i64 h', .int .i64 r', .int .i64 d'] 70)) 62 (.slice (some ⟨w.heap.size + 1 + 1 + 1, 0, none⟩) 1 1) (.slice (some ⟨w.heap.size + 1 + 1 + 1 + 1, 0, none⟩) 1 1)
  rw [World.size_alloc, World.size_alloc, sz] at q
  have c := check_two lat ver q (checkC (one_tv dA)) (checkC (one_tv dB))
  rw [show twoE lat ver (tck (fun _ => t) (fun _ => x) (fun _ => y) (fun _ => h) (fun _ => r) (fun _ => d) 1) (tck (fun _ => t') (fun _ => x') (fun _ => y') (fun _ => h') (fun _ => r') (fun _ => d') 1) = E from hE] at c
  have CH := Lib.hid c
  have k1 := b_alloc (Below.refl w0.heap.size w0) (.cells #[.int .i64 t, .int .i64 x, .int .i64 y, .int .i64 h, .int .i64 r, .int .i64 d] 70)
  have k2 := b_alloc k1 (.cells #[.int .i64 t', .int .i64 x', .int .i64 y', .int .i64 h', .int .i64 r', .int .i64 d'] 70)
  have k3 := b_alloc k2 (.cells #[.slice (some ⟨w.heap.size + 1 + 1 + 1, 0, none⟩) 1 1, .slice (some ⟨w.heap.size + 1 + 1 + 1 + 1, 0, none⟩) 1 1] 62)
  have ZA3 := Lib.hid (d6_keep k3 ZA.out); have ZB3 := Lib.hid (d6_keep k3 ZB.out); have ZS3 := Lib.hid (p2_keep k3 ZS.out); have W3 := Lib.hid (b_next W0.out k3)
  clear c q dA dB sz k1 k2 k3 ZA ZB ZS W0 hE
  subst hw0
  go_enter Try.func95, Try.ntmps95
  go_wp2_with fail
  (with_reducible refine CH.out.mono ?_); rintro e w1 ⟨rfl, hb⟩
  have W4 := Lib.hid (b_next W3.out hb)
  obtain ⟨⟨a0, a1, a2⟩, a3, a4, a5⟩ := d6_keep hb ZA3.out
  obtain ⟨⟨c0, c1, c2⟩, c3, c4, c5⟩ := d6_keep hb ZB3.out
  obtain ⟨s0, s1⟩ := p2_keep hb ZS3.out
  clear hb ZA3 ZB3 ZS3 W3 CH
  by_cases hE : E = 0
  · obtain ⟨z0, z1, z2⟩ := twoE_zero (HE.out.trans hE)
    have b1 := (nodeE_bds z1).1
    have b2 := (nodeE_bds z2).1
    subst hE
    clear z0 z1 z2
    by_cases ht : t = t'
    · have SD := Lib.hid (fun w => separated t x y h r d t' x' y' h' r' d' lat ver w b1 b2)
      clear b1 b2
      have e1 : (t == t') = true := by simp [ht]
      have e2 : (t != t') = false := by simp [ht]
      have HT := Lib.hid ht; clear ht
      go_wp2_with fail
      (with_reducible refine (SD.out _).mono ?_); rintro e w2 ⟨rfl, hb⟩
      have W5 := Lib.hid (b_next W4.out hb); clear hb
      go_wp2_with fail
      go_ret2
      exact ⟨Or.inr (Or.inr ⟨rfl, HT.out, rfl⟩), W5.out⟩
    · have e1 : (t == t') = false := by simp [ht]
      have e2 : (t != t') = true := by simp [ht]
      have HT := Lib.hid ht; clear ht b1 b2
      go_wp2_with fail
      go_ret2
      exact ⟨Or.inr (Or.inl ⟨rfl, HT.out, rfl⟩), W4.out⟩
  · obtain ⟨f1, f2⟩ := ge1 hE
    have HE0 := Lib.hid hE; clear hE
    go_wp2_with fail
    go_ret2
    exact ⟨Or.inl ⟨HE0.out, rfl⟩, W4.out⟩
-- WORKS
theorem node (t x y h r d : Int) (w : World) : Calls Try.prog 80 #[.int .i64 t, .int .i64 x, .int .i64 y, .int .i64 h, .int .i64 r, .int .i64 d] w fun e w' => e = .returned (.agg #[.int .i64 t, .int .i64 x, .int .i64 y, .int .i64 h, .int .i64 r, .int .i64 d]) ∧ Below w.heap.size w w' := Tube.node t x y h r d w
theorem works_root : root 64 = 8 ∧ root 34 = 5 := ⟨root_unique (by omega) (by omega) (by omega), root_unique (by omega) (by omega) (by omega)⟩
set_option maxRecDepth 100000 in
set_option maxHeartbeats 2000000 in
theorem probeWorks (w : World) : Calls Try.prog 43 #[] w fun e w' => e = .returned (.bool true) ∧ Below w.heap.size w w' := by
  have SP := Lib.hid (fun w => sepd_walk 0 0 0 0 1 0 0 8 0 0 2 0 5 10 0 w (by decide))
  have hsb : sepB 0 0 0 1 0 8 0 0 2 0 5 10 = true := by
    unfold sepB
    rw [show sqr 0 0 8 0 = 64 from by decide, works_root.1]
    decide
  rw [hsb] at SP
  have MG : Hid (∀ (w : World) (b b' : Nat), D6 w b 0 0 0 0 1 0 → D6 w b' 0 3 5 0 1 0 → Calls Try.prog 96 #[.slice (some ⟨b, 0, none⟩) 1 1, .slice (some ⟨b', 0, none⟩) 1 1] w fun e w' => e = .returned (.tuple #[.int .i64 3, .int .i64 0]) ∧ Below w.heap.size w w') := Lib.hid fun w b b' h1 h2 => by
    have c := marginC_ok (one_tv h1) (one_tv h2) ((tck_zero 1).1 (by decide)) ((tck_zero 1).1 (by decide)) (by decide)
    have e : minN (gapT (fun _ => 0) (fun _ => 0) (fun _ => 0) (fun _ => 1) 1 (fun _ => 0) (fun _ => 3) (fun _ => 5) (fun _ => 1) 1) (max 0 0) (min (0 : Int) 0 + 1 - max 0 0).toNat = 3 := by
      have e1 : (min (0 : Int) 0 + 1 - max 0 0).toNat = 1 := by decide
      have e2 : max (0 : Int) 0 = 0 := by decide
      rw [e1, e2]
      have e3 : gapT (fun _ => 0) (fun _ => 0) (fun _ => 0) (fun _ => 1) 1 (fun _ => 0) (fun _ => 3) (fun _ => 5) (fun _ => 1) 1 (0 + ((0 : Nat) : Int)) = 3 := by
        unfold gapT gapN
        rw [show sqr (tx (fun _ => 0) (fun _ => 0) (segI (fun _ => 0) 1 (0 + ((0 : Nat) : Int))) (0 + ((0 : Nat) : Int))) (tx (fun _ => 0) (fun _ => 0) (segI (fun _ => 0) 1 (0 + ((0 : Nat) : Int))) (0 + ((0 : Nat) : Int))) (tx (fun _ => 0) (fun _ => 3) (segI (fun _ => 0) 1 (0 + ((0 : Nat) : Int))) (0 + ((0 : Nat) : Int))) (tx (fun _ => 0) (fun _ => 5) (segI (fun _ => 0) 1 (0 + ((0 : Nat) : Int))) (0 + ((0 : Nat) : Int))) = 34 from by decide, works_root.2]
        decide
      rw [minN_step, e3]
      show min (4611686018427387904 : Int) 3 = 3
      omega
    rw [e] at c
    exact c
  go_enter Try.func43, Try.ntmps43
  go_wp2_with fail
  (with_reducible refine (node _ _ _ _ _ _ _).mono ?_); rintro e w1 ⟨rfl, h⟩
  have W1 := Lib.hid h; clear h
  go_wp2_with fail
  (with_reducible refine (node _ _ _ _ _ _ _).mono ?_); rintro e w2 ⟨rfl, h⟩
  have W2 := Lib.hid (b_next W1.out h); clear h
  go_wp2_with fail
  (with_reducible refine (SP.out _).mono ?_); rintro e w3 ⟨h3, h⟩
  have W3 := Lib.hid (b_next W2.out h); clear h
  obtain rfl : e = .returned (.tuple #[.bool true, .int .i64 0]) := by
    rcases h3 with ⟨h, -⟩ | ⟨-, h, -⟩ | ⟨-, -, h⟩
    · exact absurd rfl h
    · exact absurd rfl h
    · exact h
  clear h3
  go_wp2_with fail
  (with_reducible refine (node _ _ _ _ _ _ _).mono ?_); rintro e w4 ⟨rfl, h⟩
  have W4 := Lib.hid (b_alloc (b_next W3.out h) (.cells #[.int .i64 0, .int .i64 0, .int .i64 0, .int .i64 0, .int .i64 1, .int .i64 0] 70)); clear h
  have D1 := Lib.hid (d6_new w4 70 0 0 0 0 1 0)
  go_wp2_with fail
  (with_reducible refine (node _ _ _ _ _ _ _).mono ?_); rintro e w5 ⟨rfl, h⟩
  have W5 := Lib.hid (b_alloc (b_next W4.out h) (.cells #[.int .i64 0, .int .i64 3, .int .i64 5, .int .i64 0, .int .i64 1, .int .i64 0] 70))
  have D2 := Lib.hid (d6_keep (b_alloc (Below.refl w5.heap.size w5) (.cells #[.int .i64 0, .int .i64 3, .int .i64 5, .int .i64 0, .int .i64 1, .int .i64 0] 70)) (d6_keep h D1.out)); have D3 := Lib.hid (d6_new w5 70 0 3 5 0 1 0)
  clear h
  go_wp2_with fail
  (with_reducible refine (MG.out _ _ _ D2.out D3.out).mono ?_); rintro e w6 ⟨rfl, h⟩
  have W6 := Lib.hid (b_next W5.out h); clear h
  go_wp2_with fail
  go_ret
  exact ⟨retb rfl, W6.out⟩
end Probe
end Go.Proofs.Yteaccanhahmclaa
