/- shortest.Way at a way, walked over what its callees answer. -/
import Derived.Test.YtokioemmjfjhkaaNetR
import Derived.Test.YtokioemmjfjhkaaIntC
namespace Go.Proofs.Ytokioemmjfjhkaa
open Go.RowKit
namespace Net
open Kit Chart Short Route
set_option maxRecDepth 100000 in
set_option maxHeartbeats 8000000 in
theorem wayg_w (fx aw : Value) (A : Option Addr) (r cr : Nat) (T : Nat → ByteArray) (g : Nat → Nat) (G : Gr) (S : Nat → ByteArray) (w : World) (hG : G.Ok 10000000) (hr0 : 0 < r) (hr : r ≤ 64) (C : Hid (CcC (.agg #[fx, aw]) 0 w))
    (HO : Hid (∀ w1, Below w.heap.size w w1 → Calls Try.prog 49 #[.agg #[fx, aw]] w1 fun e w' => (∃ A1 n1 c1 A2 n2 c2 A3 n3 c3, e = .returned (.agg #[.slice A1 n1 c1, .slice A2 n2 c2, .slice A3 n3 c3]) ∧ ∀ W, Kg w1.heap.size w' W → NV W (.agg #[.slice A1 n1 c1, .slice A2 n2 c2, .slice A3 n3 c3]) G S) ∧ Below w1.heap.size w1 w'))
    (HV : Hid (SV w (.slice A r cr) r T)) (HG : Hid (∀ k, k < r → g k < G.N)) (HD : Hid (∀ j k, j < k → k < r → T j ≠ T k)) (HL : Hid (∀ k, k + 1 < r → G.adj (g k) (g (k + 1))))
    (FD : Hid (∀ k, k < r → ∀ w1 v, NV w1 v G S → Calls Try.prog 42 #[v, .string (T k)] w1 fun e w' => e = .returned (.int .i64 (g k : Nat)) ∧ Below w1.heap.size w1 w')) :
    Calls Try.prog 23 #[.agg #[fx, aw], .slice A r cr] w fun e w' => e = .returned (.tuple #[.bool true, .int .i64 0]) ∧ Below w.heap.size w w' := by
  have W0 := Lib.hid (b_alloc (Below.refl w.heap.size w) (.cells #[fx, aw] 37))
  have BX := Lib.hid (p2v_new w 37 fx aw)
  have hN := hG.n64
  have GO := Lib.hid hG
  have hN0 : 0 < G.N := by have := HG.out 0 hr0; omega
  obtain ⟨tb, tf, tc, e, ht1, ht2, hcl⟩ := sv_at0 HV.out hr0
  injection e with e1 _ e3
  subst e1 e3
  have TCL := Lib.hid hcl; clear hcl
  have hcr : cr ≤ 9223372036854775807 := Nat.le_trans ht2 (by decide)
  have h64 : ¬ (64 : Int) < (r : Int) := by omega
  have hr0i : (0 : Int) < (r : Int) := by omega
  obtain ⟨x0, x1⟩ := BX.out
  go_enter Try.func23, Try.ntmps23
  go_wp2_with fail
  (with_reducible refine (C.out _ W0.out).mono ?_); rintro e w1 ⟨rfl, hb⟩
  have W1 := Lib.hid (b_next W0.out hb); clear x0 x1; obtain ⟨x0, x1⟩ := p2v_keep hb BX.out; clear hb
  go_wp2_with fail
  (with_reducible refine (HO.out _ W1.out).mono ?_); rintro e w2 ⟨⟨A1, n1, c1, A2, n2, c2, A3, n3, c3, rfl, hw⟩, hb⟩
  have W2 := Lib.hid (b_next W1.out hb); have NV2 := Lib.hid (hw w2 (kg_refl _ _))
  clear hb hw x0 x1
  obtain ⟨ba, oa, ca, bb, ob, cb, bc, oc, cc, e, h1, h2, h3, k4, k5, -⟩ := nv_parts NV2.out hN0
  injection e with e
  simp only [Array.mk.injEq, List.cons.injEq, and_true] at e
  obtain ⟨e1, e2, e3⟩ := e
  rw [e1, e2, e3] at NV2 ⊢
  clear e1 e2 e3
  have K5 := Lib.hid k5
  clear k4 k5
  have N2 := Lib.hid (bx_new w2 83 (.slice (some ⟨ba, oa, none⟩) G.N ca) (.slice (some ⟨bb, ob, none⟩) G.N cb) (.slice (some ⟨bc, oc, none⟩) G.N cc))
  have BA := Lib.hid (b_alloc (Below.refl w2.heap.size w2) (.cells #[.slice (some ⟨ba, oa, none⟩) G.N ca, .slice (some ⟨bb, ob, none⟩) G.N cb, .slice (some ⟨bc, oc, none⟩) G.N cc] 83))
  go_wp2_with fail
  obtain ⟨b2, hb2⟩ : ∃ b, b = w2.heap.size := ⟨_, rfl⟩
  obtain ⟨w3, hw3⟩ : ∃ x, x = w2.alloc (.cells #[.slice (some ⟨ba, oa, none⟩) G.N ca, .slice (some ⟨bb, ob, none⟩) G.N cb, .slice (some ⟨bc, oc, none⟩) G.N cc] 83) := ⟨_, rfl⟩
  rw [← hw3, ← hb2]
  rw [← hw3] at BA N2; rw [← hb2] at N2
  clear hw3 hb2
  have W3 := Lib.hid (b_next W2.out BA.out); have NV3 := Lib.hid (nv_keep BA.out NV2.out)
  go_loopw [8, 27] (fun gd s wr => ∃ k : Nat, k ≤ r ∧ s = .int .i64 k ∧ gd = .bool true ∧ Below w3.heap.size w3 wr) (fun _ s _ => r - (intOf s).toNat)
  case atStart => exact ⟨0, Nat.zero_le _, rfl, rfl, Below.refl _ _⟩
  case round =>
    obtain ⟨k, hk, rfl, rfl, hbl⟩ := hrel
    have BR := Lib.hid hbl; have WR := Lib.hid (b_next W3.out hbl)
    have NN := Lib.hid (bx_keep hbl N2.out); have NVn := Lib.hid (nv_keep hbl NV3.out)
    clear hbl
    by_cases hlt : k < r
    · have hl : (k : Int) < (r : Int) := by omega
      have HLT := Lib.hid hlt
      have x0 := keep WR.out (TCL.out k hlt)
      have FK := Lib.hid (FD.out k hlt)
      have hgk := HG.out k hlt
      have hg0 : ¬ ((g k : Nat) : Int) < 0 := by omega
      have hkc : k ≤ cr := by omega
      have CT := Lib.hid fun (w1 : World) (hb : Below wr.heap.size wr w1) => show Calls Try.prog 50 #[.slice (some ⟨tb, tf, none⟩) k cr, .string (T k)] w1 (fun e w' => e = .returned (.bool false) ∧ Below w1.heap.size w1 w') from by
        have q := scontC (v := .slice (some ⟨tb, tf, none⟩) k cr) (n := k) (S := T) (w := w1) (by
          rcases Nat.eq_zero_or_pos k with h0 | h0
          · subst h0; exact Or.inl ⟨rfl, Or.inr ⟨_, _, rfl, ht2⟩⟩
          · exact Or.inr ⟨h0, tb, tf, cr, rfl, by omega, ht2, fun j hj => keep hb (keep WR.out (TCL.out j (by omega)))⟩) (T k)
        have f : fix T (T k) k = -1 := fnd_no fun j hj => decide_eq_false (HD.out j k hj hlt)
        rw [f] at q
        exact q
      by_cases h0 : 0 < k
      · obtain ⟨P, hP⟩ : ∃ P, P = k - 1 := ⟨_, rfl⟩
        have hPr : P < r := by omega
        have u1 : IntKind.i64.wrap (P : Int) = (P : Int) := IntWalk.i64_in _ (by omega)
        have u2 : ((k - 1 : Nat) : Int) = (P : Int) := by omega
        have u3 : (k : Int) - 1 = (P : Int) := by omega
        have hPi : (P : Int) < (r : Int) := by omega
        have h0i : (0 : Int) < (k : Int) := by omega
        have CP := Lib.hid (keep WR.out (TCL.out P hPr))
        have hgP := HG.out P hPr
        have hgPi : ((g P : Nat) : Int) < (G.N : Int) := by omega
        obtain ⟨u, hu1, hu2⟩ := K5.out (g P) hgP
        obtain ⟨i, hi, hlk⟩ := HL.out P (by omega)
        rw [show P + 1 = k by omega] at hlk
        have CR := Lib.hid (keep (b_next BA.out BR.out) hu1)
        have hdeg := GO.out.deg32 (g P) hgP
        have IC := Lib.hid fun (w1 : World) (hb : Below wr.heap.size wr w1) => show Calls Try.prog 51 #[u, .int .i64 (g k : Nat)] w1 (fun e w' => e = .returned (.bool true) ∧ Below w1.heap.size w1 w') from by
          have q := icontC (iv_keep hb (iv_keep (b_next BA.out BR.out) hu2)) ((g k : Nat) : Int)
          have f : decide (0 ≤ ifx (fun i => (G.lk (g P) i : Int)) ((g k : Nat) : Int) (G.deg (g P))) = true := decide_eq_true (by
            rcases Int.lt_or_le (ifx (fun i => (G.lk (g P) i : Int)) ((g k : Nat) : Int) (G.deg (g P))) 0 with q | q
            · have := fnd_neg q i hi
              rw [decide_eq_false_iff_not] at this
              exact absurd (by show ((G.lk (g P) i : Nat) : Int) = _; rw [hlk]) this
            · exact q)
          rw [f] at q
          exact q
        obtain ⟨Au, cu, rfl⟩ := iv_slice hu2
        have FP := Lib.hid (FD.out P hPr)
        clear hu1 hu2 hi hlk hP
        generalize T k = tk at *
        generalize T P = tp at *
        generalize g P = gp at *
        generalize g k = gk at *
        obtain ⟨m0, m1, m2, -, -, -⟩ := NN.out
        go_wp2_with fail
        (with_reducible refine (FK.out _ _ NVn.out).mono ?_); rintro e w6 ⟨rfl, hb⟩
        have W6 := Lib.hid (b_next BR.out hb)
        have NN6 := bx_keep hb NN.out; have NV6 := nv_keep hb NVn.out; have CP6 := keep hb CP.out; have CR6 := keep hb CR.out
        have CT6 := fun (w1 : World) (h : Below w6.heap.size w6 w1) => CT.out w1 (b_next hb h)
        have IC6 := fun (w1 : World) (h : Below w6.heap.size w6 w1) => IC.out w1 (b_next hb h)
        clear NN NVn CP CR CT IC m0 m1 m2 hb x0
        have NN := Lib.hid NN6; have NVn := Lib.hid NV6; have CP := Lib.hid CP6; have CR := Lib.hid CR6; have CT := Lib.hid CT6; have IC := Lib.hid IC6
        clear NN6 NV6 CP6 CR6 CT6 IC6
        go_wp2_with fail
        refine d_region (by kernel_rfl) (by kernel_rfl) ?_
        repeat
          first
            | (refine d_plain (by with_reducible rfl) ?_; apply Exists.intro; refine ⟨fun wq hc hq => ?_, ?_⟩)
            | (refine d_on (by with_reducible rfl) (by rfl) (by with_reducible rfl) ?_; apply Exists.intro; refine ⟨fun wq hc hq => ?_, ?_⟩)
            | (refine d_off (by with_reducible rfl) (by rfl) (by rfl) ?_)
            | (refine d_void (by with_reducible rfl) (by rfl) ?_)
          try any_goals
            (obtain ⟨m0, m1, m2, -, -, -⟩ := bx_keep (cls hq) NN.out; have t0 := keep (cls hq) CP.out; have t1 := keep (cls hq) CR.out; clear hc
             go_simp
             first
               | rfl
               | (go_at_call 50; with_reducible exact call_below hq (CT.out _ (cls hq)))
               | (go_at_call 42; with_reducible exact call_below hq (FP.out _ _ (nv_keep (cls hq) NVn.out)))
               | (go_at_call 51; with_reducible exact call_below hq (IC.out _ (cls hq))))
          simp only [Act.put, List.setIfInBounds_toArray, List.set_cons_zero, List.set_cons_succ]
        refine d_nil ?_
        intro w7 hb7
        have B7 := Lib.hid (b_next W6.out hb7)
        clear hb7
        go_wp2_with fail
        go_roundw
        case rel => exact ⟨k + 1, HLT.out, by go_num, rfl, B7.out⟩
        case measure => have := HLT.out; simp [intOf]; omega
      · obtain rfl : k = 0 := by omega
        rw [Nat.add_zero] at x0
        generalize T 0 = tk at *
        generalize g 0 = gk at *
        obtain ⟨m0, m1, m2, -, -, -⟩ := NN.out
        go_wp2_with fail
        (with_reducible refine (FK.out _ _ NVn.out).mono ?_); rintro e w6 ⟨rfl, hb⟩
        have W6 := Lib.hid (b_next BR.out hb)
        have NN6 := bx_keep hb NN.out
        have CT6 := fun (w1 : World) (h : Below w6.heap.size w6 w1) => CT.out w1 (b_next hb h)
        clear NN CT m0 m1 m2 hb x0
        have NN := Lib.hid NN6; have CT := Lib.hid CT6
        clear NN6 CT6
        go_wp2_with fail
        refine d_region (by kernel_rfl) (by kernel_rfl) ?_
        repeat
          first
            | (refine d_plain (by with_reducible rfl) ?_; apply Exists.intro; refine ⟨fun wq hc hq => ?_, ?_⟩)
            | (refine d_on (by with_reducible rfl) (by rfl) (by with_reducible rfl) ?_; apply Exists.intro; refine ⟨fun wq hc hq => ?_, ?_⟩)
            | (refine d_off (by with_reducible rfl) (by rfl) (by rfl) ?_)
            | (refine d_void (by with_reducible rfl) (by rfl) ?_)
          try any_goals
            (obtain ⟨m0, m1, m2, -, -, -⟩ := bx_keep (cls hq) NN.out; clear hc
             go_simp
             first
               | rfl
               | (go_at_call 50; with_reducible exact call_below hq (CT.out _ (cls hq))))
          simp only [Act.put, List.setIfInBounds_toArray, List.set_cons_zero, List.set_cons_succ]
        refine d_nil ?_
        intro w7 hb7
        have B7 := Lib.hid (b_next W6.out hb7)
        clear hb7
        go_wp2_with fail
        go_roundw
        case rel => exact ⟨1, hr0, by go_num, rfl, B7.out⟩
        case measure => simp [intOf]; omega
    · obtain rfl : k = r := by omega
      have hl : ¬ (k : Int) < (k : Int) := by omega
      go_wp2_with fail
      go_ret2
      exact ⟨rfl, WR.out⟩
end Net
end Go.Proofs.Ytokioemmjfjhkaa
