/- FlyClosed: at the stated second the path is in the closed volume, and at no earlier one in any closed volume. For every input, with no condition. -/
import Derived.Test.YteaccanhahmclaaClsW
import Derived.Test.YteaccanhahmclaaFlyWorks
import Derived.Test.YteaccanhahmclaaPathV
namespace Go.Proofs.Yteaccanhahmclaa
open Go.RowKit Go.ChangeShapes Go.WideShapes
namespace FlyClosed
open Kit Plane Poly Chart Vol Route Path Cls
set_option maxRecDepth 100000 in
set_option maxHeartbeats 8000000 in
theorem in_w (q0 qx qy qh t E : Int) (N : ByteArray) (l h : Int) (A1 A2 A : Option Addr) (n1 ca1 n2 ca2 n c : Nat) (lb : Nat) (B1 B2 : Bool) (w : World) (hE : decide (E = 0) = true ∨ decide (E = 0) = false)
    (HL : Hid (w.cell? ⟨lb, 0, none⟩ = some (.slice A n c)))
    (CA : Hid (∀ w1, Below w.heap.size w w1 → Calls Try.prog 40 #[.slice A n c, .int .i64 t] w1 fun e w' => e = .returned (.tuple #[.agg #[.int .i64 q0, .int .i64 qx, .int .i64 qy, .int .i64 qh], .int .i64 E]) ∧ Below w1.heap.size w1 w'))
    (CH : Hid (∀ w1, Below w.heap.size w w1 → Calls Try.prog 41 #[.agg #[.slice A1 n1 ca1, .int .i64 l, .int .i64 h], .agg #[.int .i64 qx, .int .i64 qy], .int .i64 qh] w1 fun e w' => e = .returned (.tuple #[.bool B1, .int .i64 0]) ∧ Below w1.heap.size w1 w'))
    (CD : Hid (∀ w1, Below w.heap.size w w1 → Calls Try.prog 42 #[.slice A2 n2 ca2, .int .i64 t] w1 fun e w' => e = .returned (.tuple #[.bool B2, .int .i64 0]) ∧ Below w1.heap.size w1 w')) :
    Calls Try.prog 39 #[.agg #[.string N, .slice A1 n1 ca1, .int .i64 l, .int .i64 h, .slice A2 n2 ca2], .int .i64 t, .pointer (some ⟨lb, 0, none⟩)] w fun e w' => e = .returned (.bool (decide (E = 0) && B1 && B2)) ∧ Below w.heap.size w w' := by
  have W0 := Lib.hid (b_alloc (Below.refl w.heap.size w) (.cells #[.string N, .slice A1 n1 ca1, .int .i64 l, .int .i64 h, .slice A2 n2 ca2] 86))
  have V0 := Lib.hid (v5_new w 86 N (.slice A1 n1 ca1) l h (.slice A2 n2 ca2))
  have hl := HL.out
  have nn := new_ne hl
  obtain ⟨bv, hbv⟩ : ∃ bv, bv = w.heap.size := ⟨_, rfl⟩
  go_enter Try.func39, Try.ntmps39
  go_wp2_with fail
  (with_reducible refine (CA.out _ W0.out).mono ?_); rintro e w1 ⟨rfl, hb⟩
  have W1 := Lib.hid (b_next W0.out hb); have V1 := Lib.hid (v5_keep hb V0.out)
  clear hb
  rw [← hbv] at V1 ⊢; clear hbv
  have BN := Lib.hid (c4_new w1 68 q0 qx qy qh)
  have V2 := Lib.hid (v5_keep (b_alloc (Below.refl w1.heap.size w1) (.cells #[.int .i64 q0, .int .i64 qx, .int .i64 qy, .int .i64 qh] 68)) V1.out)
  have W2 := Lib.hid (b_alloc W1.out (.cells #[.int .i64 q0, .int .i64 qx, .int .i64 qy, .int .i64 qh] 68))
  obtain ⟨y0, y1, y2, y3, y4⟩ := V1.out
  have nn1 := new_ne y0
  have hE' : (E == 0) = decide (E = 0) := rfl
  go_wp2_with fail
  (with_reducible refine (CH.out _ W2.out).mono ?_); rintro e w3 ⟨rfl, hb⟩
  have W3 := Lib.hid (b_next W2.out hb); have V3 := Lib.hid (v5_keep hb V2.out)
  clear hb y0 y1 y2 y3 y4 nn1
  obtain ⟨y0, y1, y2, y3, y4⟩ := V3.out
  go_wp2_with fail
  (with_reducible refine (CD.out _ W3.out).mono ?_); rintro e w4 ⟨rfl, hb⟩
  have W4 := Lib.hid (b_next W3.out hb)
  clear hb y0 y1 y2 y3 y4 hE'
  by_cases hE0 : E = 0
  · subst hE0
    cases B1 <;> cases B2 <;> (go_wp2_with fail; go_ret; exact ⟨by first | rfl | exact retb rfl, W4.out⟩)
  · have hE1 : (E == 0) = false := by simpa using hE0
    have hE2 : decide (E = 0) = false := decide_eq_false hE0
    go_wp2_with fail
    all_goals (go_ret; exact ⟨by rw [hE2]; rfl, W4.out⟩)

theorem nerr_ne (T X Y H : Nat → Int) (i : Nat) : Path.nerr T X Y H i ≠ 8 := by
  unfold Path.nerr
  repeat' split
  all_goals decide
theorem nchk_ne (T X Y H : Nat → Int) : ∀ n, nchk T X Y H n ≠ 8
  | 0 => by unfold nchk; decide
  | n + 1 => by
    unfold nchk
    split
    · exact nchk_ne T X Y H n
    · exact nerr_ne T X Y H n
/-- No error of the path or the volumes is that of 'none'. -/
theorem pchk_ne (T X Y H : Nat → Int) (n : Nat) : pchk T X Y H n ≠ 8 := by
  unfold pchk
  split
  · decide
  split
  · decide
  · exact nchk_ne T X Y H n
theorem ferr_ne {e : Nat → Int} {x : Int} (hx : x ≠ 0) (h : ∀ i, e i ≠ x) : ∀ n, ferr e n ≠ x
  | 0 => by unfold ferr; exact fun q => hx q.symm
  | n + 1 => by
    unfold ferr
    split
    · exact ferr_ne hx h n
    · exact h n
theorem rvck_ne (n : Nat) (D : Nat → Vd) : rvck n D ≠ 8 := by
  unfold rvck
  split
  · decide
  refine ferr_ne (by decide) (fun i => ?_) n
  unfold rverr vck pck ckS
  repeat' split
  all_goals first | decide | (rename_i q; exact fun e => by rw [e] at q; exact absurd q (by decide)) | omega
set_option maxRecDepth 100000 in
set_option maxHeartbeats 8000000 in
theorem core_bad (A B : Option Addr) (n c m d : Nat) (E t : Int) (T0 TP : Int) (b off : Nat) (w : World) (hc9 : c ≤ 9223372036854775807) (hE0 : (E == 0) = false) (hE8 : (E == 8) = false)
    (hn : n = 0 ∨ (0 < n ∧ n ≤ c ∧ A = some ⟨b, off, none⟩ ∧ w.cell? ⟨b, off, none⟩ = some (.int .i64 T0) ∧ w.cell? ⟨b, off + (n - 1) * 4, none⟩ = some (.int .i64 TP)))
    (CC : Hid (∀ w1, Below w.heap.size w w1 → Calls Try.prog 38 #[.slice A n c, .slice B m d] w1 fun e w' => e = .returned (.tuple #[.string ⟨#[]⟩, .int .i64 0, .int .i64 E]) ∧ Below w1.heap.size w1 w')) :
    Calls Try.prog 10 #[.slice A n c, .slice B m d, .int .i64 t] w fun e w' => e = .returned (.bool true) ∧ Below w.heap.size w w' := by
  have hE1 : (E != 0) = true := by simpa using hE0
  have hE9 : (E != 8) = true := by simpa using hE8
  have W0 := Lib.hid (b_alloc (Below.refl w.heap.size w) (.cells #[.slice A n c] 76))
  have L0 : Hid ((w.alloc (.cells #[.slice A n c] 76)).cell? ⟨w.heap.size, 0, none⟩ = some (.slice A n c)) := Lib.hid (by simp)
  go_enter Try.func10, Try.ntmps10
  go_wp2_with fail
  (with_reducible refine (flyWorks _).mono ?_); rintro e w1 ⟨rfl, hb⟩
  have W1 := Lib.hid (b_next W0.out hb); have L1 := Lib.hid (keep hb L0.out); clear hb
  obtain ⟨lb, hlb⟩ : ∃ lb, lb = w.heap.size := ⟨_, rfl⟩
  rw [← hlb] at L1 ⊢; clear hlb
  have hl := L1.out
  go_wp2_with fail
  rcases hn with rfl | ⟨hn0, hnc, rfl, c0, cp⟩
  · have h00 : ¬ (0 : Int) < 0 := by decide
    refine d_region (by kernel_rfl) (by kernel_rfl) ?_
    repeat
      first
        | (refine d_plain (by with_reducible rfl) ?_; apply Exists.intro; refine ⟨fun wq hc hq => ?_, ?_⟩)
        | (refine d_on (by with_reducible rfl) (by rfl) (by with_reducible rfl) ?_; apply Exists.intro; refine ⟨fun wq hc hq => ?_, ?_⟩)
        | (refine d_off (by with_reducible rfl) (by rfl) (by rfl) ?_)
        | (refine d_void (by with_reducible rfl) (by rfl) ?_)
      try any_goals
        (have l0 := keep hq hl; clear hc
         go_simp
         first
           | rfl)
      simp only [Act.put, List.setIfInBounds_toArray, List.set_cons_zero, List.set_cons_succ]
    refine d_nil ?_
    intro w2 hb2
    have W2 := Lib.hid (b_next W1.out hb2); have L2 := Lib.hid (keep hb2 L1.out); clear hb2 hl
    have hl := L2.out
    go_wp2_with fail
    (with_reducible refine (CC.out _ W2.out).mono ?_); rintro e w3 ⟨rfl, hb⟩
    have W3 := Lib.hid (b_next W2.out hb); clear hb hl
    go_wp2_with fail
    go_ret
    exact ⟨by first | rfl | exact retb rfl, W3.out⟩
  · obtain ⟨P, hP⟩ : ∃ P, P = n - 1 := ⟨_, rfl⟩
    rw [← hP] at cp
    have hn0' : (0 : Int) < (n : Int) := by omega
    have hix : (n : Int) - 1 = (P : Int) := by omega
    have hPn : (P : Int) < (n : Int) := by omega
    have hwn : IntKind.i64.wrap (P : Int) = (P : Int) := IntWalk.i64_in _ (by omega)
    have a0 := keep W1.out c0; have a1 := keep W1.out cp
    obtain ⟨DD, hDD⟩ : ∃ DD, IntKind.i64.wrap (TP - T0) = DD := ⟨_, rfl⟩
    clear c0 cp hP
    by_cases h2 : 2000 < DD
    · have h2' := decide_eq_true h2
      refine d_region (by kernel_rfl) (by kernel_rfl) ?_
      repeat
        first
          | (refine d_plain (by with_reducible rfl) ?_; apply Exists.intro; refine ⟨fun wq hc hq => ?_, ?_⟩)
          | (refine d_on (by with_reducible rfl) (by rfl) (by with_reducible rfl) ?_; apply Exists.intro; refine ⟨fun wq hc hq => ?_, ?_⟩)
          | (refine d_off (by with_reducible rfl) (by rfl) (by rfl) ?_)
          | (refine d_void (by with_reducible rfl) (by rfl) ?_)
        try any_goals
          (have l0 := keep hq hl; have l1 := keep hq a0; have l2 := keep hq a1; clear hc
           go_simp
           first
             | rfl)
        simp only [Act.put, List.setIfInBounds_toArray, List.set_cons_zero, List.set_cons_succ]
      refine d_nil ?_
      intro w2 hb2
      have W2 := Lib.hid (b_next W1.out hb2); clear hb2
      go_wp2_with fail
      go_ret
      exact ⟨by first | rfl | exact retb rfl, W2.out⟩
    · have h2' := decide_eq_false h2
      refine d_region (by kernel_rfl) (by kernel_rfl) ?_
      repeat
        first
          | (refine d_plain (by with_reducible rfl) ?_; apply Exists.intro; refine ⟨fun wq hc hq => ?_, ?_⟩)
          | (refine d_on (by with_reducible rfl) (by rfl) (by with_reducible rfl) ?_; apply Exists.intro; refine ⟨fun wq hc hq => ?_, ?_⟩)
          | (refine d_off (by with_reducible rfl) (by rfl) (by rfl) ?_)
          | (refine d_void (by with_reducible rfl) (by rfl) ?_)
        try any_goals
          (have l0 := keep hq hl; have l1 := keep hq a0; have l2 := keep hq a1; clear hc
           go_simp
           first
             | rfl)
        simp only [Act.put, List.setIfInBounds_toArray, List.set_cons_zero, List.set_cons_succ]
      refine d_nil ?_
      intro w2 hb2
      have W2 := Lib.hid (b_next W1.out hb2); have L2 := Lib.hid (keep hb2 L1.out); clear hb2 hl
      have hl := L2.out
      go_wp2_with fail
      (with_reducible refine (CC.out _ W2.out).mono ?_); rintro e w3 ⟨rfl, hb⟩
      have W3 := Lib.hid (b_next W2.out hb); clear hb hl
      go_wp2_with fail
      go_ret
      exact ⟨by first | rfl | exact retb rfl, W3.out⟩
/-- Closed, and in it. -/
noncomputable def inW (n : Nat) (T X Y H : Nat → Int) (d : Vd) (u : Int) : Bool := decide (u ≤ T (n - 1)) && inV n T X Y H d u
theorem in_ok {w : World} {lb : Nat} {A : Option Addr} {n c : Nat} {T X Y H : Nat → Int} {d : Vd} {a1 a2 : Value} {u : Int}
    (hl : w.cell? ⟨lb, 0, none⟩ = some (.slice A n c)) (hv : PV w (.slice A n c) n T X Y H) (hp : pok T X Y H n) (qa : QV w a1 d.n d.X d.Y) (qc : QV w a2 d.m d.F d.T)
    (hk : pck d.n d.X d.Y = 0 ∧ (0 ≤ d.l ∧ d.h ≤ 60001 ∧ d.l < d.h) ∧ ckS d.m d.F d.T = 0) (h0 : T 0 ≤ u) :
    Calls Try.prog 39 #[.agg #[.string d.N, a1, .int .i64 d.l, .int .i64 d.h, a2], .int .i64 u, .pointer (some ⟨lb, 0, none⟩)] w fun e w' => e = .returned (.bool (inW n T X Y H d u)) ∧ Below w.heap.size w w' := by
  obtain ⟨A1, ca1, rfl, -⟩ := qv_slice qa
  obtain ⟨A2, ca2, rfl, -⟩ := qv_slice qc
  have CD : Hid (∀ w1, Below w.heap.size w w1 → Calls Try.prog 42 #[.slice A2 d.m ca2, .int .i64 u] w1 fun e w' => e = .returned (.tuple #[.bool (durB d.m d.F d.T u), .int .i64 0]) ∧ Below w1.heap.size w1 w') := Lib.hid fun w1 hb => by
    have q := durC (qv_keep hb qc) u
    rw [hk.2.2] at q; exact q
  have g0 : good 0 0 := by unfold good; decide
  have hpc := (pchk_zero n).2 hp
  by_cases h1 : u ≤ T (n - 1)
  · have hE : atE T X Y H n u = 0 := by
      unfold atE; rw [if_neg (fun q => q hpc), if_neg (by omega)]
    have nok := node_ok hp h0 h1
    have q := in_w u (px n T X u) (py n T Y u) (ph n T H u) u 0 d.N d.l d.h A1 A2 A d.n ca1 d.m ca2 n c lb _ _ w (Or.inl rfl) (Lib.hid hl)
      (Lib.hid fun w1 hb => fly_At_ok (pv_keep hb hv) hE (seg_sg hp.1 h0)) (Lib.hid fun w1 hb => has_one (qv_keep hb qa) hk.1 hk.2.1 nok.1 nok.2) CD
    have e : (decide ((0 : Int) = 0) && decide (0 ≤ place d.n d.X d.Y (px n T X u) (py n T Y u) ∧ d.l ≤ ph n T H u ∧ ph n T H u < d.h) && durB d.m d.F d.T u) = inW n T X Y H d u := by
      unfold inW inV
      rw [decide_eq_true h1, decide_eq_true rfl, Bool.true_and, Bool.true_and, Bool.and_comm]
    rw [e] at q; exact q
  · have hE : atE T X Y H n u ≠ 0 := by
      unfold atE; rw [if_neg (fun q => q hpc), if_pos (by omega)]; decide
    have q := in_w 0 0 0 0 u (atE T X Y H n u) d.N d.l d.h A1 A2 A d.n ca1 d.m ca2 n c lb _ _ w (Or.inr (decide_eq_false hE)) (Lib.hid hl)
      (Lib.hid fun w1 hb => fly_At_bad (pv_keep hb hv) hE) (Lib.hid fun w1 hb => has_one (qv_keep hb qa) hk.1 hk.2.1 g0 (by decide)) CD
    have e : (decide (atE T X Y H n u = 0) && decide (0 ≤ place d.n d.X d.Y 0 0 ∧ d.l ≤ 0 ∧ 0 < d.h) && durB d.m d.F d.T u) = inW n T X Y H d u := by
      unfold inW
      rw [decide_eq_false h1, decide_eq_false hE]; rfl
    rw [e] at q; exact q
set_option maxRecDepth 100000 in
set_option maxHeartbeats 8000000 in
theorem core_ok (B : Option Addr) (n c m d : Nat) (t u : Int) (T X Y H : Nat → Int) (D : Nat → Vd) (b off : Nat) (w : World) (hc9 : c ≤ 9223372036854775807) (hd9 : d ≤ 9223372036854775807) (hmd : m ≤ d)
    (hn0 : 0 < n) (hnc : n ≤ c) (c0 : w.cell? ⟨b, off, none⟩ = some (.int .i64 (T 0))) (cp : w.cell? ⟨b, off + (n - 1) * 4, none⟩ = some (.int .i64 (T (n - 1))))
    (b0 : 0 ≤ T 0 ∧ T 0 ≤ 200000) (_b1 : 0 ≤ T (n - 1) ∧ T (n - 1) ≤ 200000) (b2 : -1999 ≤ t.tmod 2000 ∧ t.tmod 2000 ≤ 1999) (hu : T 0 + t.tmod 2000 % 2000 = u)
    (HV : Hid (RV w (.slice B m d) m D)) (HN : Hid (∀ k, k < m → ∀ j, j < k → (D j).N ≠ (D k).N))
    (INC : Hid (∀ k, k < m → ∀ q, T 0 ≤ q → ∀ w1 lb a1 a2, Below w.heap.size w w1 → w1.cell? ⟨lb, 0, none⟩ = some (.slice (some ⟨b, off, none⟩) n c) → QV w1 a1 (D k).n (D k).X (D k).Y → QV w1 a2 (D k).m (D k).F (D k).T →
      Calls Try.prog 39 #[.agg #[.string (D k).N, a1, .int .i64 (D k).l, .int .i64 (D k).h, a2], .int .i64 q, .pointer (some ⟨lb, 0, none⟩)] w1 fun e w' => e = .returned (.bool (inW n T X Y H (D k) q)) ∧ Below w1.heap.size w1 w'))
    (CC : Hid (∀ w1, Below w.heap.size w w1 → Calls Try.prog 38 #[.slice (some ⟨b, off, none⟩) n c, .slice B m d] w1 fun e w' => ClR n T X Y H m D e ∧ Below w1.heap.size w1 w')) :
    Calls Try.prog 10 #[.slice (some ⟨b, off, none⟩) n c, .slice B m d, .int .i64 t] w fun e w' => e = .returned (.bool true) ∧ Below w.heap.size w w' := by
  have hu0 : T 0 ≤ u := by omega
  have HU0 := Lib.hid hu0; clear hu0
  have INW : Hid (∀ k q, inW n T X Y H (D k) q = (decide (q ≤ T (n - 1)) && inV n T X Y H (D k) q)) := Lib.hid fun _ _ => rfl
  have FIN : Hid (∀ e, ClR n T X Y H m D e → (e = .returned (.tuple #[.string ⟨#[]⟩, .int .i64 0, .int .i64 8]) ∧ ∀ k, k < m → inW n T X Y H (D k) u = false) ∨
    ∃ (q : Int) (k : Nat), T 0 ≤ q ∧ k < m ∧ inW n T X Y H (D k) q = true ∧ (u < q → ∀ k', k' < m → inW n T X Y H (D k') u = false) ∧ e = .returned (.tuple #[.string (D k).N, .int .i64 q, .int .i64 0])) := Lib.hid fun e h => by
    rcases h with ⟨rfl, h⟩ | ⟨q, k, h1, h2, h3, h4, rfl⟩
    · refine Or.inl ⟨rfl, fun k hk => ?_⟩
      rw [INW.out]
      by_cases hq : u ≤ T (n - 1)
      · rw [h u HU0.out hq k hk, Bool.and_false]
      · rw [decide_eq_false hq, Bool.false_and]
    · refine Or.inr ⟨q, k, h1.1, h2, ?_, fun hq k' hk' => ?_, rfl⟩
      · rw [INW.out, decide_eq_true h1.2, h3]; rfl
      · rw [INW.out, h4 u HU0.out hq k' hk', Bool.and_false]
  clear INW
  obtain ⟨P, hP⟩ : ∃ P, P = n - 1 := ⟨_, rfl⟩
  rw [← hP] at cp _b1
  have hn0' : (0 : Int) < (n : Int) := by omega
  have hix : (n : Int) - 1 = (P : Int) := by omega
  have hPn : (P : Int) < (n : Int) := by omega
  have hwn : IntKind.i64.wrap (P : Int) = (P : Int) := IntWalk.i64_in _ (by omega)
  obtain ⟨tp, htp⟩ : ∃ tp, tp = T P := ⟨_, rfl⟩
  obtain ⟨t0, ht0⟩ : ∃ t0, t0 = T 0 := ⟨_, rfl⟩
  rw [← htp] at cp _b1
  rw [← ht0] at c0 b0 hu HU0 INC FIN
  clear htp ht0 hP
  have W0 := Lib.hid (b_alloc (Below.refl w.heap.size w) (.cells #[.slice (some ⟨b, off, none⟩) n c] 76))
  have L0 : Hid ((w.alloc (.cells #[.slice (some ⟨b, off, none⟩) n c] 76)).cell? ⟨w.heap.size, 0, none⟩ = some (.slice (some ⟨b, off, none⟩) n c)) := Lib.hid (by simp)
  have C0 := Lib.hid c0
  go_enter Try.func10, Try.ntmps10
  go_wp2_with fail
  (with_reducible refine (flyWorks _).mono ?_); rintro e w1 ⟨rfl, hb⟩
  have W1 := Lib.hid (b_next W0.out hb); have L1 := Lib.hid (keep hb L0.out); clear hb
  obtain ⟨lb, hlb⟩ : ∃ lb, lb = w.heap.size := ⟨_, rfl⟩
  rw [← hlb] at L1 ⊢; clear hlb
  have hl := L1.out
  go_wp2_with fail
  have a0 := keep W1.out c0; have a1 := keep W1.out cp
  obtain ⟨DD, hDD⟩ : ∃ DD, IntKind.i64.wrap (tp - t0) = DD := ⟨_, rfl⟩
  clear c0 cp
  by_cases h2 : 2000 < DD
  · have h2' := decide_eq_true h2
    refine d_region (by kernel_rfl) (by kernel_rfl) ?_
    repeat
      first
        | (refine d_plain (by with_reducible rfl) ?_; apply Exists.intro; refine ⟨fun wq hc hq => ?_, ?_⟩)
        | (refine d_on (by with_reducible rfl) (by rfl) (by with_reducible rfl) ?_; apply Exists.intro; refine ⟨fun wq hc hq => ?_, ?_⟩)
        | (refine d_off (by with_reducible rfl) (by rfl) (by rfl) ?_)
        | (refine d_void (by with_reducible rfl) (by rfl) ?_)
      try any_goals
        (have l0 := keep hq hl; have l1 := keep hq a0; have l2 := keep hq a1; clear hc
         go_simp
         first
           | rfl)
      simp only [Act.put, List.setIfInBounds_toArray, List.set_cons_zero, List.set_cons_succ]
    refine d_nil ?_
    intro w2 hb2
    have W2 := Lib.hid (b_next W1.out hb2); clear hb2
    go_wp2_with fail
    go_ret
    exact ⟨by first | rfl | exact retb rfl, W2.out⟩
  have h2' := decide_eq_false h2
  refine d_region (by kernel_rfl) (by kernel_rfl) ?_
  repeat
    first
      | (refine d_plain (by with_reducible rfl) ?_; apply Exists.intro; refine ⟨fun wq hc hq => ?_, ?_⟩)
      | (refine d_on (by with_reducible rfl) (by rfl) (by with_reducible rfl) ?_; apply Exists.intro; refine ⟨fun wq hc hq => ?_, ?_⟩)
      | (refine d_off (by with_reducible rfl) (by rfl) (by rfl) ?_)
      | (refine d_void (by with_reducible rfl) (by rfl) ?_)
    try any_goals
      (have l0 := keep hq hl; have l1 := keep hq a0; have l2 := keep hq a1; clear hc
       go_simp
       first
         | rfl)
    simp only [Act.put, List.setIfInBounds_toArray, List.set_cons_zero, List.set_cons_succ]
  refine d_nil ?_
  intro w2 hb2
  have W2 := Lib.hid (b_next W1.out hb2); have L2 := Lib.hid (keep hb2 L1.out); clear hb2 hl a0 a1 hDD h2 h2'
  have hl := L2.out
  go_wp2_with fail
  (with_reducible refine (CC.out _ W2.out).mono ?_); rintro e w3 ⟨hcl, hb⟩
  have W3 := Lib.hid (b_next W2.out hb); have L3 := Lib.hid (keep hb L2.out); clear hb hl
  have hl := L3.out
  have a0 := keep W3.out C0.out
  rcases FIN.out _ hcl with ⟨rfl, hno⟩ | ⟨q, K, hq0, hK, hin, hear, rfl⟩
  · have HNO := Lib.hid hno; clear hno hcl
    go_wp2_with fail
    clear hl a0
    generalize (t.tmod 2000 + 2000) % 2000 = vv
    go_loopw [64] (fun s wr => ∃ k : Nat, k ≤ m ∧ s = .int .i64 k ∧ Below w3.heap.size w3 wr) (fun s _ => m - (intOf s).toNat)
    case atStart => exact ⟨0, Nat.zero_le _, rfl, Below.refl _ _⟩
    case round =>
      obtain ⟨k, hk, rfl, hbl⟩ := hrel
      have WR := Lib.hid (b_next W3.out hbl)
      by_cases hlt : k < m
      · have hl : (k : Int) < (m : Int) := by omega
        obtain ⟨vb, vo, c', e, hv1, hv2, h3⟩ := rv_at (rv_keep WR.out HV.out) (by omega)
        injection e with e1 _ e3
        subst e1 e3
        obtain ⟨va, vc, c5, qa, qc⟩ := h3 k hlt
        obtain ⟨A1, ca1, rfl, -⟩ := qv_slice qa
        obtain ⟨A2, ca2, rfl, -⟩ := qv_slice qc
        have WA := b_alloc (Below.refl wr.heap.size wr) (.cells #[.string (D k).N, .slice A1 (D k).n ca1, .int .i64 (D k).l, .int .i64 (D k).h, .slice A2 (D k).m ca2] 86)
        have NA := Lib.hid (v5_new wr 86 (D k).N (.slice A1 (D k).n ca1) (D k).l (D k).h (.slice A2 (D k).m ca2))
        have WAH := Lib.hid WA
        have WA3 := Lib.hid (b_next hbl WA)
        have IC := Lib.hid (INC.out k hlt u HU0.out _ lb _ _ (b_next WR.out WA) (keep WA (keep hbl L3.out)) (qv_keep WA qa) (qv_keep WA qc))
        have QA := Lib.hid qa; have QC := Lib.hid qc
        obtain ⟨x0, x1, x2, x3, x4⟩ := c5
        clear h3 qa qc WA
        obtain ⟨bq, hbq⟩ : ∃ bq, bq = wr.heap.size := ⟨_, rfl⟩
        rw [HNO.out k hlt] at IC
        go_wp2_with fail
        rw [← hbq] at NA ⊢
        clear x0 x1 x2 x3 x4 hbq
        obtain ⟨z0, z1, z2, z3, z4⟩ := NA.out
        go_wp2_with fail
        (with_reducible refine IC.out.mono ?_); rintro e w6 ⟨rfl, hb⟩
        have W6 := Lib.hid (b_next WA3.out hb); clear hb
        go_wp2_with fail
        go_roundw
        case rel => exact ⟨k + 1, by omega, by go_num, W6.out⟩
        case measure => simp [intOf]; omega
      · have hkm : m = k := by omega
        subst hkm
        have hlm : ¬ (m : Int) < (m : Int) := by omega
        clear hbl
        go_wp2_with fail
        go_ret
        exact ⟨by first | rfl | exact retb rfl, WR.out⟩
  · have HIN := Lib.hid hin; have HEAR := Lib.hid hear; have HQ0 := Lib.hid hq0; clear hcl hin hear hq0
    obtain ⟨NK, hNK⟩ : ∃ NK, NK = (D K).N := ⟨_, rfl⟩
    rw [← hNK]
    have HNK := Lib.hid hNK; clear hNK
    go_wp2_with fail
    clear hl a0
    generalize (t.tmod 2000 + 2000) % 2000 = vv
    go_loopw [64] (fun s wr => ∃ k : Nat, k ≤ K ∧ s = .int .i64 k ∧ Below w3.heap.size w3 wr) (fun s _ => m - (intOf s).toNat)
    case atStart => exact ⟨0, Nat.zero_le _, rfl, Below.refl _ _⟩
    case round =>
      obtain ⟨k, hk, rfl, hbl⟩ := hrel
      have WR := Lib.hid (b_next W3.out hbl)
      have hlt : k < m := by omega
      have hl : (k : Int) < (m : Int) := by omega
      obtain ⟨vb, vo, c', e, hv1, hv2, h3⟩ := rv_at (rv_keep WR.out HV.out) (by omega)
      injection e with e1 _ e3
      subst e1 e3
      obtain ⟨va, vc, c5, qa, qc⟩ := h3 k hlt
      obtain ⟨A1, ca1, rfl, -⟩ := qv_slice qa
      obtain ⟨A2, ca2, rfl, -⟩ := qv_slice qc
      have WA := b_alloc (Below.refl wr.heap.size wr) (.cells #[.string (D k).N, .slice A1 (D k).n ca1, .int .i64 (D k).l, .int .i64 (D k).h, .slice A2 (D k).m ca2] 86)
      have NA := Lib.hid (v5_new wr 86 (D k).N (.slice A1 (D k).n ca1) (D k).l (D k).h (.slice A2 (D k).m ca2))
      have WAH := Lib.hid WA
      have WA3 := Lib.hid (b_next hbl WA)
      have IC := Lib.hid (INC.out k hlt u HU0.out _ lb _ _ (b_next WR.out WA) (keep WA (keep hbl L3.out)) (qv_keep WA qa) (qv_keep WA qc))
      have QA := Lib.hid qa; have QC := Lib.hid qc
      obtain ⟨x0, x1, x2, x3, x4⟩ := c5
      clear h3 qa qc WA
      obtain ⟨bq, hbq⟩ : ∃ bq, bq = wr.heap.size := ⟨_, rfl⟩
      obtain ⟨bb, hbb⟩ : ∃ bb, bb = inW n T X Y H (D k) u := ⟨_, rfl⟩
      rw [← hbb] at IC
      have HLT : Hid (u < q → bb = false) := Lib.hid fun hq => by rw [hbb]; exact HEAR.out hq k hlt
      clear hbb
      have DQ : Hid ((NK.toList == (D k).N.toList) = decide (k = K)) := Lib.hid (by
        rw [seq_eq]
        by_cases hkK : k = K
        · rw [HNK.out, hkK, decide_eq_true rfl, decide_eq_true rfl]
        · rw [decide_eq_false hkK]
          exact decide_eq_false fun e => HN.out K hK k (by omega) (by rw [← e, HNK.out]))
      have DQ2 : Hid (((D k).N.toList == NK.toList) = decide (k = K)) := Lib.hid (by
        rw [seq_eq]
        by_cases hkK : k = K
        · rw [HNK.out, hkK, decide_eq_true rfl, decide_eq_true rfl]
        · rw [decide_eq_false hkK]
          exact decide_eq_false fun e => HN.out K hK k (by omega) (by rw [e, HNK.out]))
      go_wp2_with fail
      rw [← hbq] at NA ⊢
      clear x0 x1 x2 x3 x4 hbq
      obtain ⟨z0, z1, z2, z3, z4⟩ := NA.out
      go_wp2_with fail
      (with_reducible refine IC.out.mono ?_); rintro e w6 ⟨rfl, hb⟩
      have W6 := Lib.hid (b_next WA3.out hb); have N6 := Lib.hid (v5_keep hb NA.out); have A6 := Lib.hid (b_next WAH.out hb); clear hb z0 z1 z2 z3 z4
      have NB : Hid ((bb && decide (u < q)) = false) := Lib.hid (by
        by_cases hq : u < q
        · rw [HLT.out hq]; rfl
        · rw [decide_eq_false hq, Bool.and_false])
      obtain ⟨z0, z1, z2, z3, z4⟩ := N6.out
      cases bb with
      | false =>
        clear NB
        by_cases hkK : k = K
        · have dq := DQ.out; have dq2 := DQ2.out
          rw [decide_eq_true hkK] at dq dq2
          obtain ⟨y0, y1, y2, y3, y4⟩ := N6.out
          subst hkK
          have IK := Lib.hid (INC.out k hK q HQ0.out _ lb _ _ (b_next WR.out A6.out) (keep A6.out (keep hbl L3.out)) (qv_keep A6.out QA.out) (qv_keep A6.out QC.out))
          rw [HIN.out] at IK
          clear hbl
          go_wp2_with fail
          (with_reducible refine IK.out.mono ?_); rintro e w7 ⟨rfl, hb⟩
          have W7 := Lib.hid (b_next W6.out hb); clear hb
          go_wp2_with fail
          go_ret
          exact ⟨by first | rfl | exact retb rfl, b_next W3.out W7.out⟩
        · have dq := DQ.out; have dq2 := DQ2.out
          rw [decide_eq_false hkK] at dq dq2
          clear hbl
          go_wp2_with fail
          go_roundw
          case rel => exact ⟨k + 1, by omega, by go_num, W6.out⟩
          case measure => simp [intOf]; omega
      | true =>
        have nb := NB.out
        rw [Bool.true_and] at nb
        clear NB
        by_cases hkK : k = K
        · have dq := DQ.out; have dq2 := DQ2.out
          rw [decide_eq_true hkK] at dq dq2
          subst hkK
          have IK := Lib.hid (INC.out k hK q HQ0.out _ lb _ _ (b_next WR.out A6.out) (keep A6.out (keep hbl L3.out)) (qv_keep A6.out QA.out) (qv_keep A6.out QC.out))
          rw [HIN.out] at IK
          clear hbl
          go_wp2_with fail
          (with_reducible refine IK.out.mono ?_); rintro e w7 ⟨rfl, hb⟩
          have W7 := Lib.hid (b_next W6.out hb); clear hb
          go_wp2_with fail
          go_ret
          exact ⟨by first | rfl | exact retb rfl, b_next W3.out W7.out⟩
        · have dq := DQ.out; have dq2 := DQ2.out
          rw [decide_eq_false hkK] at dq dq2
          clear hbl
          go_wp2_with fail
          go_roundw
          case rel => exact ⟨k + 1, by omega, by go_num, W6.out⟩
          case measure => simp [intOf]; omega
theorem walk (l : Value) (v : Value) (t : Int) (W : World) (h_l : Frame.Okc W (.sl [.int, .int, .int, .int]) l) (h_v : Frame.Okc W (.sl [.str, .sl [.int, .int], .int, .int, .sl [.int, .int]]) v) (_h_t : -9223372036854775808 ≤ t ∧ t ≤ 9223372036854775807) :
    Calls Try.prog 10 #[l, v, .int .i64 t] W fun e w' => e = .returned (.bool true) ∧ Below W.heap.size W w' := by
  obtain ⟨n, T, X, Y, H, hv⟩ := pv_of h_l
  obtain ⟨m, D, hr⟩ := rv_of h_v
  have hv' := hv; have hr' := hr
  obtain ⟨B, d, rfl, hd1, hd2⟩ := rv_slice hr
  have hd9 : d ≤ 9223372036854775807 := Nat.le_trans hd2 (by decide)
  have hsl : ∃ A c, l = .slice A n c ∧ n ≤ c ∧ c ≤ maxLen := by
    rcases hv with ⟨rfl, rfl | ⟨a, cap, rfl, hm⟩⟩ | ⟨h0, b, off, cap, rfl, h1, h2, h3⟩
    · exact ⟨_, _, rfl, Nat.le_refl _, Nat.zero_le _⟩
    · exact ⟨_, _, rfl, Nat.zero_le _, hm⟩
    · exact ⟨_, _, rfl, h1, h2⟩
  obtain ⟨A, c, rfl, hc1, hc2⟩ := hsl
  have hc9 : c ≤ 9223372036854775807 := Nat.le_trans hc2 (by decide)
  have CK := fun w1 (hb : Below W.heap.size W w1) => Path.checkC hv' w1 hb
  have CV := fun w1 (hb : Below W.heap.size W w1) => rvC hr' w1 hb
  have hn : n = 0 ∨ ∃ b off, 0 < n ∧ n ≤ c ∧ A = some ⟨b, off, none⟩ ∧ ∀ k, k < n → N4 W b off k (T k) (X k) (Y k) (H k) := by
    rcases hv with ⟨h0, -⟩ | ⟨h0, b, off, cap, e, h1, h2, h3⟩
    · exact Or.inl h0
    · injection e with e1 e2 e3
      exact Or.inr ⟨b, off, h0, hc1, e1, h3⟩
  have hn2 : n = 0 ∨ ∃ b off, 0 < n ∧ n ≤ c ∧ A = some ⟨b, off, none⟩ ∧ W.cell? ⟨b, off, none⟩ = some (.int .i64 (T 0)) ∧ W.cell? ⟨b, off + (n - 1) * 4, none⟩ = some (.int .i64 (T (n - 1))) := by
    rcases hn with h0 | ⟨b, off, h0, h1, h2, h3⟩
    · exact Or.inl h0
    · have a := (h3 0 h0).1.1
      rw [Nat.zero_mul, Nat.add_zero] at a
      exact Or.inr ⟨b, off, h0, h1, h2, a, (h3 (n - 1) (by omega)).1.1⟩
  by_cases hE : pchk T X Y H n = 0
  · have hp := (pchk_zero n).1 hE
    by_cases hF : rvck m D = 0
    · obtain ⟨hm16, hok⟩ := rvck_ok hF
      rcases hn with h0 | ⟨b, off, h0, h1, rfl, h3⟩
      · have := hp.1; omega
      rcases hn2 with h0' | ⟨b', off', -, -, e, c0, cp⟩
      · omega
      injection e with e; injection e with e1 e2
      subst e1 e2
      obtain ⟨u, hu⟩ : ∃ u, T 0 + t.tmod 2000 % 2000 = u := ⟨_, rfl⟩
      have q0 := hp.2.2.1 0 h0; have qn := hp.2.2.1 (n - 1) (by omega)
      exact core_ok B n c m d t u T X Y H D b off W hc9 hd9 hd1 h0 h1 c0 cp ⟨q0.1, q0.2.1⟩ ⟨qn.1, qn.2.1⟩ (by
          have e1 := Int.tmod_lt_of_pos t (show (0 : Int) < 2000 by decide)
          have e2 := Int.lt_tmod_of_pos t (show (0 : Int) < 2000 by decide)
          omega) hu (Lib.hid hr') (Lib.hid fun k hk => (hok k hk).1)
        (Lib.hid fun k hk q hq w1 lb a1 a2 hb hl qa qc => in_ok hl (pv_keep hb hv') hp qa qc (hok k hk).2 hq)
        (Lib.hid fun w1 hb => closed_ok b off n c B m d T X Y H D w1 hc1 hc2 hm16 hd1 hd2 h0 hp.2.1 (Lib.hid hp) (Lib.hid (pv_keep hb hv')) (Lib.hid fun k hk => n4_keep hb (h3 k hk)) (Lib.hid (rv_keep hb hr')) (Lib.hid fun k hk => (hok k hk).2)
          (Lib.hid fun w2 hb2 => by have q := CK w2 (b_next hb hb2); rw [hE] at q; exact q) (Lib.hid fun w2 hb2 => by have q := CV w2 (b_next hb hb2); rw [hF] at q; exact q))
    · have h8 : (rvck m D == 8) = false := by simpa using rvck_ne m D
      have h9 : (rvck m D == 0) = false := by simpa using hF
      have cc : Hid (∀ w1, Below W.heap.size W w1 → Calls Try.prog 38 #[.slice A n c, .slice B m d] w1 fun e w' => e = .returned (.tuple #[.string ⟨#[]⟩, .int .i64 0, .int .i64 (rvck m D)]) ∧ Below w1.heap.size w1 w') :=
        Lib.hid fun w1 hb => closed_bad2 _ _ (rvck m D) w1 (by simpa using hF) (Lib.hid fun w2 hb2 => by have q := CK w2 (b_next hb hb2); rw [hE] at q; exact q) (Lib.hid fun w2 hb2 => CV w2 (b_next hb hb2))
      rcases hn2 with h0 | ⟨b, off, h0, h1, h2, c0, cp⟩
      · exact core_bad A B n c m d _ t 0 0 0 0 W hc9 h9 h8 (Or.inl h0) cc
      · exact core_bad A B n c m d _ t (T 0) (T (n - 1)) b off W hc9 h9 h8 (Or.inr ⟨h0, h1, h2, c0, cp⟩) cc
  · have h8 : (pchk T X Y H n == 8) = false := by simpa using pchk_ne T X Y H n
    have h9 : (pchk T X Y H n == 0) = false := by simpa using hE
    have cc : Hid (∀ w1, Below W.heap.size W w1 → Calls Try.prog 38 #[.slice A n c, .slice B m d] w1 fun e w' => e = .returned (.tuple #[.string ⟨#[]⟩, .int .i64 0, .int .i64 (pchk T X Y H n)]) ∧ Below w1.heap.size w1 w') :=
      Lib.hid fun w1 hb => closed_bad _ _ (pchk T X Y H n) w1 (by simpa using hE) (Lib.hid fun w2 hb2 => CK w2 (b_next hb hb2))
    rcases hn2 with h0 | ⟨b, off, h0, h1, h2, c0, cp⟩
    · exact core_bad A B n c m d _ t 0 0 0 0 W hc9 h9 h8 (Or.inl h0) cc
    · exact core_bad A B n c m d _ t (T 0) (T (n - 1)) b off W hc9 h9 h8 (Or.inr ⟨h0, h1, h2, c0, cp⟩) cc
-- FRAME --

set_option maxRecDepth 100000 in
theorem lifted (os : Os) (started : os.Started) (H : Type) (enc : TypeId × Value → H) :
    ReturnsInHanded {} Try.checked os 10 .any (Rows.flyClosedSpec.pre6 enc Try.prog Try.f10 Rows.flyClosedRow.domain false) (Rows.flyClosedSpec.post enc Try.prog Try.f10 false true false false) :=
  Frame.lifted (C := Try.checked) 10 Try.f10 Try.own started (by kernel_rfl) Try.func10 Try.laidOut rfl (by kernel_rfl) 4 rfl Try.underlying4
      (fun ds h => by match ds, h with | [_, _, _], _ => rfl)
      (ChangeSpec.witness6 (enc := enc) (C := Try.checked) false ⟨#[], #[.slice none 0 0, .slice none 0 0, .int .i64 0], []⟩ 8 (by kernel_rfl) (by kernel_rfl) (by kernel_rfl) (by kernel_rfl))
      (fun W base args ds ps hval0 hA _ => by
        have hval : ∀ (j : Nat) t v, Try.f10.params[j]? = some t → args[j]? = some v → Value.okWide Try.prog W .any base t v := hval0
        have hA' : DataW.TrodAll enc Try.prog W 0 (fun _ => true) true Try.f10.params.toList args.toList ds ps := hA
        clear hval0 hA
        have hA := hA'
        clear hA'
        rw [Try.params10] at hA hval
        obtain ⟨v0, vs0, d0, ds0, p0, q0, ea, rfl, rfl, tr0, rest0⟩ := trodAll_cons hA
        obtain ⟨v1, vs1, d1, ds1, p1, q1, rfl, rfl, rfl, tr1, rest1⟩ := trodAll_cons rest0
        obtain ⟨v2, vs2, d2, ds2, p2, q2, rfl, rfl, rfl, tr2, rest2⟩ := trodAll_cons rest1
        obtain ⟨rfl, rfl, rfl⟩ := trodAll_nil rest2
        obtain rfl : args = #[v0, v1, v2] := by cases args; simp_all
        clear ea
        have sl_l : Frame.Okc W (.sl [.int, .int, .int, .int]) v0 := by obtain ⟨a, l, c, e⟩ := okWide_slice Try.underlying76 (hval 0 _ v0 rfl rfl); exact Frame.arg_cell (k := 8) (by kernel_rfl) (by have e2 : v0 = .slice a l c := e; rw [e2]; rfl) tr0
        have sl_v : Frame.Okc W (.sl [.str, .sl [.int, .int], .int, .int, .sl [.int, .int]]) v1 := by obtain ⟨a, l, c, e⟩ := okWide_slice Try.underlying77 (hval 1 _ v1 rfl rfl); exact Frame.arg_cell (k := 8) (by kernel_rfl) (by have e2 : v1 = .slice a l c := e; rw [e2]; rfl) tr1
        obtain ⟨t, rfl, w_t⟩ := Frame.arg_int Try.underlying3 (hval 2 _ v2 rfl rfl)
        exact walk v0 v1 t W sl_l sl_v (Frame.bd w_t))

/-- The statement. -/
theorem proved : Rows.FlyClosedSaid :=
  OpenClaim.holds_of_wide 10 Try.f10 rfl rfl rfl rfl rfl rfl rfl ⟨rfl, rfl, rfl, rfl, rfl⟩ rfl rfl rfl rfl rfl (by kernel_rfl) Try.func10 (by kernel_rfl)
    (of_decide_eq_true (by kernel_rfl)) (by unfold Func.isWrapper; first | (rw [if_pos (by decide +kernel)]; kernel_rfl) | (rw [if_neg (by decide +kernel)]; exact ⟨rfl, rfl⟩))
    (fun os started H enc _ => lifted os started H enc)
#print axioms proved
end FlyClosed
end Go.Proofs.Yteaccanhahmclaa

