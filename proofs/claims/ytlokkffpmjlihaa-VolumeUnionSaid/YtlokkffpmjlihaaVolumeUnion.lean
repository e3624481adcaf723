/- VolumeUnion: a time is in the union of intervals exactly if it is in one of them, the intervals of the union are apart, and the times that are in none are free. For every input. -/
import Derived.Test.YtlokkffpmjlihaaVolI
namespace Go.Proofs.Ytlokkffpmjlihaa
open Go.RowKit Go.ChangeShapes Go.WideShapes
namespace VolumeUnion
open Kit Plane Poly Vol
theorem qv_slice {w : World} {v : Value} {n : Nat} {X Y : Nat → Int} (h : QV w v n X Y) : ∃ A cap, v = .slice A n cap := by
  rcases h with ⟨rfl, rfl | ⟨a, cap, rfl, _⟩⟩ | ⟨_, b, off, cap, rfl, _⟩
  · exact ⟨_, _, rfl⟩
  · exact ⟨_, _, rfl⟩
  · exact ⟨_, _, rfl⟩
theorem ckS_zero {n : Nat} {F T : Nat → Int} (h : n ≤ 256) (hk : ∀ k, k < n → okS (F k) (T k)) : ckS n F T = 0 := by
  unfold ckS
  rw [if_neg (by omega), okAll_iff.2 hk, if_pos rfl]
theorem inL_at {U : List (Int × Int)} {t : Int} : InL U t ↔ ∃ k, k < U.length ∧ rowsL U k 0 ≤ t ∧ t < rowsL U k 1 := by
  constructor
  · rintro ⟨p, hp, h⟩
    obtain ⟨k, hk, rfl⟩ := List.mem_iff_getElem.1 hp
    rw [← rowsL_get hk] at h
    exact ⟨k, hk, h⟩
  · rintro ⟨k, hk, h⟩
    refine ⟨U[k], List.getElem_mem hk, ?_⟩
    rw [← rowsL_get hk]
    exact h
theorem inB_list {U : List (Int × Int)} {t : Int} : inB (fun i => rowsL U i 0) (fun i => rowsL U i 1) t U.length = true ↔ InL U t := by
  rw [inB_iff, inL_at]
set_option maxHeartbeats 1000000 in
theorem bad (v : Value) (t E : Int) (B : Bool) (w : World) (_hE1 : (E == 0) = false) (hE2 : (E != 0) = true)
    (DU : Hid (∀ w1, Below w.heap.size w w1 → Calls Try.prog 20 #[v, .int .i64 t] w1 fun e w' => e = .returned (.tuple #[.bool B, .int .i64 E]) ∧ Below w1.heap.size w1 w'))
    (UN : Hid (∀ w1, Below w.heap.size w w1 → Calls Try.prog 25 #[v] w1 fun e w' => e = .returned (.tuple #[.slice none 0 0, .int .i64 E]) ∧ Below w1.heap.size w1 w'))
    (FR : Hid (∀ w1, Below w.heap.size w w1 → Calls Try.prog 24 #[v, .int .i64 0, .int .i64 200000] w1 fun e w' => e = .returned (.tuple #[.slice none 0 0, .int .i64 E]) ∧ Below w1.heap.size w1 w')) :
    Calls Try.prog 7 #[v, .int .i64 t] w fun e w' => e = .returned (.bool true) ∧ Below w.heap.size w w' := by
  go_enter Try.func7, Try.ntmps7
  go_wp2_with fail
  refine (volumeWorks _).mono ?_; rintro e w1 ⟨rfl, hb⟩
  have W1 := Lib.hid hb; clear hb
  go_wp2_with fail
  (with_reducible refine (DU.out _ W1.out).mono ?_); rintro e w2 ⟨rfl, hb⟩
  have W2 := Lib.hid (b_next W1.out hb); clear hb
  go_wp2_with fail
  (with_reducible refine (UN.out _ W2.out).mono ?_); rintro e w3 ⟨rfl, hb⟩
  have W3 := Lib.hid (b_next W2.out hb); clear hb
  go_wp2_with fail
  (with_reducible refine (FR.out _ W3.out).mono ?_); rintro e w4 ⟨rfl, hb⟩
  have W4 := Lib.hid (b_next W3.out hb); clear hb
  go_wp2_with fail
  all_goals (go_ret; exact ⟨by first | rfl | exact retb rfl, W4.out⟩)
set_option maxRecDepth 100000 in
set_option maxHeartbeats 4000000 in
theorem ok (v : Value) (n : Nat) (F T : Nat → Int) (t : Int) (B : Bool) (w : World) (hn : n ≤ 256) (HB : Hid (B = true ↔ ∃ k, k < n ∧ F k ≤ t ∧ t < T k))
    (DU : Hid (∀ w1, Below w.heap.size w w1 → Calls Try.prog 20 #[v, .int .i64 t] w1 fun e w' => e = .returned (.tuple #[.bool B, .int .i64 0]) ∧ Below w1.heap.size w1 w'))
    (UN : Hid (UnC v n F T w))
    (FR : Hid (∀ w1, Below w.heap.size w w1 → Calls Try.prog 24 #[v, .int .i64 0, .int .i64 200000] w1 fun e w' => (∃ q, e = .returned (.tuple #[q, .int .i64 0]) ∧ FrP w' w1.heap.size n F T 0 200000 q) ∧ Below w1.heap.size w1 w')) :
    Calls Try.prog 7 #[v, .int .i64 t] w fun e w' => e = .returned (.bool true) ∧ Below w.heap.size w w' := by
  go_enter Try.func7, Try.ntmps7
  go_wp2_with fail
  refine (volumeWorks _).mono ?_; rintro e w1 ⟨rfl, hb⟩
  have W1 := Lib.hid hb; clear hb
  go_wp2_with fail
  (with_reducible refine (DU.out _ W1.out).mono ?_); rintro e w2 ⟨rfl, hb⟩
  have W2 := Lib.hid (b_next W1.out hb); clear hb
  go_wp2_with fail
  (with_reducible refine (UN.out _ W2.out).mono ?_); rintro e w3 ⟨⟨q, U, rfl, hU, ho⟩, hb⟩
  have W3 := Lib.hid (b_next W2.out hb); have R3 := Lib.hid (own_qv ho); clear hb ho
  go_wp2_with fail
  (with_reducible refine (FR.out _ W3.out).mono ?_); rintro e w4 ⟨⟨r, rfl, U', L, hU', hF, hLn, ho⟩, hb⟩
  obtain rfl := uok_unique hU hU'
  have W4 := Lib.hid (b_next W3.out hb); have R4 := Lib.hid (qv_keep hb R3.out); have Q4 := Lib.hid (own_qv ho); clear hb ho hU' R3
  have hUn := hU.len
  have hUb : ∀ i, i < U.length → okS (rowsL U i 0) (rowsL U i 1) := fun i hi => by
    obtain ⟨m, hm⟩ := hU.good
    have h : okS _ _ := (hm.ok U[i] (List.getElem_mem hi)).1
    rw [← rowsL_get hi] at h
    exact h
  have hLb : ∀ i, i < L.length → okS (rowsL L i 0) (rowsL L i 1) := fun i hi => by
    have h := hF.ok L[i] (List.getElem_mem hi)
    rw [← rowsL_get hi] at h
    unfold okS
    dsimp only at h
    omega
  have UJ : Hid (inB (fun i => rowsL U i 0) (fun i => rowsL U i 1) t U.length = B) := Lib.hid (Bool.eq_iff_iff.2 (by rw [inB_list, HB.out, hU.mem t]))
  have UA : Hid (∀ k, k + 1 < U.length → rowsL U k 1 < rowsL U (k + 1) 0) := Lib.hid fun k hk => by
    obtain ⟨m, hm⟩ := hU.good
    have h := List.pairwise_iff_getElem.1 hm.apart k (k + 1) (by omega) hk (by omega)
    rw [← rowsL_get (show k < U.length by omega), ← rowsL_get hk] at h
    exact h
  have LO : Hid (∀ k, 0 < k → k < L.length → rowsL L 0 1 ≤ rowsL L k 0) := Lib.hid fun k h0 hk => by
    have h := List.pairwise_iff_getElem.1 hF.ord 0 k (by omega) hk (by omega)
    rw [← rowsL_get (show 0 < L.length by omega), ← rowsL_get hk] at h
    exact h
  have LM : Hid (InL L t ↔ (0 ≤ t ∧ t < 200000) ∧ ¬ B = true) := Lib.hid (by rw [hF.mem t, HB.out, hU.mem t])
  have D2 := Lib.hid fun (w5 : World) (hb : Below w4.heap.size w4 w5) => durC (qv_keep hb R4.out) t
  have hz : ckS U.length (fun i => rowsL U i 0) (fun i => rowsL U i 1) = 0 := ckS_zero (by omega) hUb
  have D2b : Hid (∀ w5, Below w4.heap.size w4 w5 → Calls Try.prog 20 #[q, .int .i64 t] w5 fun e w' => e = .returned (.tuple #[.bool B, .int .i64 0]) ∧ Below w5.heap.size w5 w') := Lib.hid fun w5 hb => by
    have h := D2.out w5 hb
    unfold durB at h
    rw [hz, UJ.out, decide_eq_true rfl, Bool.true_and] at h
    exact h
  have LX := Lib.hid hLb; clear hLb hUb hU D2 hz UJ
  obtain ⟨A, c, rfl⟩ := qv_slice R4.out
  obtain ⟨A2, c2, rfl⟩ := qv_slice Q4.out
  obtain ⟨g, off, hA, hc1, hc2, EU'⟩ := qv_at R4.out
  have HA := Lib.hid hA; have EU := Lib.hid EU'
  clear hA EU' R4
  obtain ⟨M, hM⟩ : ∃ M, M = U.length := ⟨_, rfl⟩
  rw [← hM] at EU HA UA hc2 hUn D2b ⊢
  have HM := Lib.hid hM; clear hM
  go_wp2_with fail
  (with_reducible refine (D2b.out _ (Below.refl _ _)).mono ?_); rintro e w5 ⟨rfl, hb⟩
  have W5 := Lib.hid (b_next W4.out hb); have W5R := Lib.hid hb; have Q5 := Lib.hid (qv_keep hb Q4.out); clear hb Q4
  by_cases hbig : 256 < L.length
  · have hbz : (256 : Int) < (L.length : Int) := by omega
    obtain ⟨g2, off2, hA2, hc3, hc4, EL⟩ := qv_at Q5.out
    obtain rfl := hA2 (by omega)
    have E0 := Lib.hid (EL 0 (by omega))
    have ec1 := (EL 0 (by omega)).2
    rw [Nat.zero_mul, Nat.add_zero] at ec1
    have okc := LX.out 0 (by omega)
    have HO : Hid (t < rowsL L 0 1 → (decide (rowsL L 0 0 ≤ t ∧ t < rowsL L 0 1) = true ↔ (0 ≤ t ∧ t < 200000) ∧ ¬ B = true)) := Lib.hid fun ht => by
      rw [← LM.out, decide_eq_true_eq, inL_at]
      constructor
      · intro h; exact ⟨0, by omega, h⟩
      · rintro ⟨k, hk, h⟩
        rcases Nat.eq_zero_or_pos k with rfl | h0
        · exact h
        · have := LO.out k h0 hk; omega
    have hone : QV w5 (.slice (some ⟨g2, off2, none⟩) 1 c2) 1 (fun _ => rowsL L 0 0) (fun _ => rowsL L 0 1) := Or.inr ⟨by omega, g2, off2, c2, rfl, by omega, hc3, fun k hk => by rw [show k = 0 from by omega]; exact E0.out⟩
    have H1 := Lib.hid hone; clear hone EL
    have hz1 : ckS 1 (fun _ => rowsL L 0 0) (fun _ => rowsL L 0 1) = 0 := ckS_zero (by omega) (fun _ _ => okc)
    have D3 : Hid (∀ w6, Below w5.heap.size w5 w6 → Calls Try.prog 20 #[.slice (some ⟨g2, off2, none⟩) 1 c2, .int .i64 t] w6 fun e w' => e = .returned (.tuple #[.bool (decide (rowsL L 0 0 ≤ t ∧ t < rowsL L 0 1)), .int .i64 0]) ∧ Below w6.heap.size w6 w') := Lib.hid fun w6 hb => by
      have h := durC (qv_keep hb H1.out) t
      unfold durB at h
      rw [hz1, decide_eq_true rfl, Bool.true_and] at h
      exact h
    clear hz1 okc
    generalize rowsL L 0 0 = x at *
    generalize rowsL L 0 1 = y at *
    by_cases hty : y ≤ t
    · have hty' := decide_eq_true hty
      cases B
      all_goals
        go_wp2_with fail
        all_goals (go_ret; exact ⟨by first | rfl | exact retb rfl, W5.out⟩)
    · have hty' := decide_eq_false hty
      have hout := HO.out (by omega)
      obtain ⟨OUT, hOUT⟩ : ∃ OUT, OUT = decide (x ≤ t ∧ t < y) := ⟨_, rfl⟩
      rw [← hOUT] at hout D3
      clear hOUT HO
      go_wp2_with fail
      (with_reducible refine (D3.out _ (Below.refl _ _)).mono ?_); rintro e w7 ⟨rfl, hb⟩
      have W7 := Lib.hid (b_next W5.out hb); have W7R := Lib.hid (b_next W5R.out hb); clear hb
      go_wp2_with fail
      go_loopw [15] (fun u wr => ∃ k : Nat, 1 ≤ k ∧ u = .int .i64 k ∧ Below w7.heap.size w7 wr) (fun u _ => M - (intOf u).toNat)
      case atStart => exact ⟨1, Nat.le_refl _, rfl, Below.refl _ _⟩
      case round =>
        obtain ⟨k, hk, rfl, hbl⟩ := hrel
        by_cases hlt : k < M
        · have hl2 : (k : Int) < (M : Int) := by omega
          obtain rfl := HA.out (by omega)
          have e1 := e2_keep (b_next W7R.out hbl) (EU.out k hlt)
          have e0 := e2_keep (b_next W7R.out hbl) (EU.out (k - 1) (by omega))
          have ap := UA.out (k - 1) (by omega)
          rw [show k - 1 + 1 = k from by omega] at ap
          have u1 : IntKind.i64.wrap ((k : Int) - 1) = ((k - 1 : Nat) : Int) := by rw [IntWalk.i64_in _ (by omega)]; omega
          have u4 : IntKind.i64.wrap ((k - 1 : Nat) : Int) = ((k - 1 : Nat) : Int) := IntWalk.i64_in _ (by omega)
          have u2 : ((k - 1 : Nat) : Int) < (M : Int) := by omega
          have u3 : (k : Int) - 1 = ((k - 1 : Nat) : Int) := by omega
          have C1 := Lib.hid e1.1
          have C0 := Lib.hid e0.2
          have B1 := Lib.hid hbl; clear hbl e0 e1
          have nle : ¬ rowsL U k 0 ≤ rowsL U (k - 1) 1 := by omega
          generalize rowsL U k 0 = x at *
          generalize rowsL U (k - 1) 1 = y at *
          have q1 := decide_eq_false nle
          go_wp2_with fail
          refine d_region (by kernel_rfl) (by kernel_rfl) ?_
          repeat
            first
              | (refine d_plain (by with_reducible rfl) ?_; apply Exists.intro; refine ⟨fun wq hc hq => ?_, ?_⟩)
              | (refine d_on (by with_reducible rfl) (by rfl) (by with_reducible rfl) ?_; apply Exists.intro; refine ⟨fun wq hc hq => ?_, ?_⟩)
              | (refine d_off (by with_reducible rfl) (by rfl) (by rfl) ?_)
              | (refine d_void (by with_reducible rfl) (by rfl) ?_)
            try any_goals
              (have c1 := keep (cls hq) C1.out; have c0 := keep (cls hq) C0.out; clear hc
               go_simp
               first
                 | rfl)
            simp only [Act.put, List.setIfInBounds_toArray, List.set_cons_zero, List.set_cons_succ]
          refine d_nil ?_
          intro w8 hb8
          have B2 := Lib.hid (b_next B1.out hb8); clear hb8
          go_wp2_with fail
          exact ⟨⟨k + 1, by omega, by go_num, B2.out⟩, by simp [intOf]; omega⟩
        · have hl2 : ¬ (k : Int) < (M : Int) := by omega
          have W9 := Lib.hid (b_next W7.out hbl); clear hbl
          have HO2 := Lib.hid hout
          clear hout
          cases B <;> cases OUT
          all_goals
            have hout := HO2.out
            simp at hout
            go_wp2_with fail
            all_goals (go_ret; exact ⟨by first | rfl | exact retb (by first | rfl | (simp; omega) | (simp; done) | grind), W9.out⟩)
  · have hbz : ¬ (256 : Int) < (L.length : Int) := by omega
    have hz1 : ckS L.length (fun i => rowsL L i 0) (fun i => rowsL L i 1) = 0 := ckS_zero (by omega) LX.out
    obtain ⟨OUT, hOUT⟩ : ∃ OUT, OUT = inB (fun i => rowsL L i 0) (fun i => rowsL L i 1) t L.length := ⟨_, rfl⟩
    have hout : OUT = true ↔ (0 ≤ t ∧ t < 200000) ∧ ¬ B = true := by rw [hOUT, inB_list, LM.out]
    have D3 : Hid (∀ w6, Below w5.heap.size w5 w6 → Calls Try.prog 20 #[.slice A2 L.length c2, .int .i64 t] w6 fun e w' => e = .returned (.tuple #[.bool OUT, .int .i64 0]) ∧ Below w6.heap.size w6 w') := Lib.hid fun w6 hb => by
      have h := durC (qv_keep hb Q5.out) t
      unfold durB at h
      rw [hz1, decide_eq_true rfl, Bool.true_and, ← hOUT] at h
      exact h
    clear hz1 hOUT
    go_wp2_with fail
    (with_reducible refine (D3.out _ (Below.refl _ _)).mono ?_); rintro e w7 ⟨rfl, hb⟩
    have W7 := Lib.hid (b_next W5.out hb); have W7R := Lib.hid (b_next W5R.out hb); clear hb
    go_wp2_with fail
    go_loopw [15] (fun u wr => ∃ k : Nat, 1 ≤ k ∧ u = .int .i64 k ∧ Below w7.heap.size w7 wr) (fun u _ => M - (intOf u).toNat)
    case atStart => exact ⟨1, Nat.le_refl _, rfl, Below.refl _ _⟩
    case round =>
      obtain ⟨k, hk, rfl, hbl⟩ := hrel
      by_cases hlt : k < M
      · have hl2 : (k : Int) < (M : Int) := by omega
        obtain rfl := HA.out (by omega)
        have e1 := e2_keep (b_next W7R.out hbl) (EU.out k hlt)
        have e0 := e2_keep (b_next W7R.out hbl) (EU.out (k - 1) (by omega))
        have ap := UA.out (k - 1) (by omega)
        rw [show k - 1 + 1 = k from by omega] at ap
        have u1 : IntKind.i64.wrap ((k : Int) - 1) = ((k - 1 : Nat) : Int) := by rw [IntWalk.i64_in _ (by omega)]; omega
        have u4 : IntKind.i64.wrap ((k - 1 : Nat) : Int) = ((k - 1 : Nat) : Int) := IntWalk.i64_in _ (by omega)
        have u2 : ((k - 1 : Nat) : Int) < (M : Int) := by omega
        have u3 : (k : Int) - 1 = ((k - 1 : Nat) : Int) := by omega
        have C1 := Lib.hid e1.1
        have C0 := Lib.hid e0.2
        have B1 := Lib.hid hbl; clear hbl e0 e1
        have nle : ¬ rowsL U k 0 ≤ rowsL U (k - 1) 1 := by omega
        generalize rowsL U k 0 = x at *
        generalize rowsL U (k - 1) 1 = y at *
        have q1 := decide_eq_false nle
        go_wp2_with fail
        refine d_region (by kernel_rfl) (by kernel_rfl) ?_
        repeat
          first
            | (refine d_plain (by with_reducible rfl) ?_; apply Exists.intro; refine ⟨fun wq hc hq => ?_, ?_⟩)
            | (refine d_on (by with_reducible rfl) (by rfl) (by with_reducible rfl) ?_; apply Exists.intro; refine ⟨fun wq hc hq => ?_, ?_⟩)
            | (refine d_off (by with_reducible rfl) (by rfl) (by rfl) ?_)
            | (refine d_void (by with_reducible rfl) (by rfl) ?_)
          try any_goals
            (have c1 := keep (cls hq) C1.out; have c0 := keep (cls hq) C0.out; clear hc
             go_simp
             first
               | rfl)
          simp only [Act.put, List.setIfInBounds_toArray, List.set_cons_zero, List.set_cons_succ]
        refine d_nil ?_
        intro w8 hb8
        have B2 := Lib.hid (b_next B1.out hb8); clear hb8
        go_wp2_with fail
        exact ⟨⟨k + 1, by omega, by go_num, B2.out⟩, by simp [intOf]; omega⟩
      · have hl2 : ¬ (k : Int) < (M : Int) := by omega
        have W9 := Lib.hid (b_next W7.out hbl); clear hbl
        have HO2 := Lib.hid hout
        clear hout
        cases B <;> cases OUT
        all_goals
          have hout := HO2.out
          simp at hout
          go_wp2_with fail
          all_goals (go_ret; exact ⟨by first | rfl | exact retb (by first | rfl | (simp; omega) | (simp; done) | grind), W9.out⟩)
theorem walk (l : Value) (t : Int) (W : World) (h_l : Frame.Okc W (.sl [.int, .int]) l) (_h_t : -9223372036854775808 ≤ t ∧ t ≤ 9223372036854775807) :
    Calls Try.prog 7 #[l, .int .i64 t] W fun e w' => e = .returned (.bool true) ∧ Below W.heap.size W w' := by
  obtain ⟨n, X, Y, hv, -⟩ := qv_of h_l
  have hf := freeC hv 0 200000
  by_cases hk : ckS n X Y = 0
  · have hE : frE (ckS n X Y) 0 200000 = 0 := by unfold frE; rw [if_neg (fun h => h hk), if_neg (by omega)]
    refine ok l n X Y t (inB X Y t n) W (ckS_ok hk).1 (Lib.hid inB_iff) (Lib.hid fun w1 hb => ?_) (Lib.hid (unC hv hk)) (Lib.hid fun w1 hb => (hf w1 hb).mono ?_)
    · have h := durC (qv_keep hb hv) t
      unfold durB at h
      rw [hk, decide_eq_true rfl, Bool.true_and] at h
      exact h
    · rintro e w' ⟨⟨q, he, -, hq⟩, h⟩
      rw [hE] at he
      exact ⟨⟨q, he, hq hE⟩, h⟩
  · have hE : frE (ckS n X Y) 0 200000 = ckS n X Y := by unfold frE; rw [if_pos hk]
    refine bad l t (ckS n X Y) _ W (by simp [hk]) (by simp [hk]) (Lib.hid fun w1 hb => durC (qv_keep hb hv) t) (Lib.hid fun w1 hb => ?_) (Lib.hid fun w1 hb => (hf w1 hb).mono ?_)
    · exact union_bad l _ w1 (Lib.hid (spansC (qv_keep hb hv))) (by simp [hk]) (by simp [hk])
    · rintro e w' ⟨⟨q, he, hq, -⟩, h⟩
      rw [hq (by rw [hE]; exact hk), hE] at he
      exact ⟨he, h⟩
-- FRAME --

set_option maxRecDepth 100000 in
theorem lifted (os : Os) (started : os.Started) (H : Type) (enc : TypeId × Value → H) :
    ReturnsInHanded {} Try.checked os 7 .any (Rows.volumeUnionSpec.pre6 enc Try.prog Try.f7 Rows.volumeUnionRow.domain false) (Rows.volumeUnionSpec.post enc Try.prog Try.f7 false true false false) :=
  Frame.lifted (C := Try.checked) 7 Try.f7 Try.own started (by kernel_rfl) Try.func7 Try.laidOut rfl (by kernel_rfl) 4 rfl Try.underlying4
      (fun ds h => by match ds, h with | [_, _], _ => rfl)
      (ChangeSpec.witness6 (enc := enc) (C := Try.checked) false ⟨#[], #[.slice none 0 0, .int .i64 0], []⟩ 8 (by kernel_rfl) (by kernel_rfl) (by kernel_rfl) (by kernel_rfl))
      (fun W base args ds ps hval0 hA _ => by
        have hval : ∀ (j : Nat) t v, Try.f7.params[j]? = some t → args[j]? = some v → Value.okWide Try.prog W .any base t v := hval0
        have hA' : DataW.TrodAll enc Try.prog W 0 (fun _ => true) true Try.f7.params.toList args.toList ds ps := hA
        clear hval0 hA
        have hA := hA'
        clear hA'
        rw [Try.params7] at hA hval
        obtain ⟨v0, vs0, d0, ds0, p0, q0, ea, rfl, rfl, tr0, rest0⟩ := trodAll_cons hA
        obtain ⟨v1, vs1, d1, ds1, p1, q1, rfl, rfl, rfl, tr1, rest1⟩ := trodAll_cons rest0
        obtain ⟨rfl, rfl, rfl⟩ := trodAll_nil rest1
        obtain rfl : args = #[v0, v1] := by cases args; simp_all
        clear ea
        have sl_l : Frame.Okc W (.sl [.int, .int]) v0 := by obtain ⟨a, l, c, e⟩ := okWide_slice Try.underlying49 (hval 0 _ v0 rfl rfl); exact Frame.arg_cell (k := 8) (by kernel_rfl) (by have e2 : v0 = .slice a l c := e; rw [e2]; rfl) tr0
        obtain ⟨t, rfl, w_t⟩ := Frame.arg_int Try.underlying3 (hval 1 _ v1 rfl rfl)
        exact walk v0 t W sl_l (Frame.bd w_t))

/-- The statement. -/
theorem proved : Rows.VolumeUnionSaid :=
  OpenClaim.holds_of_wide 7 Try.f7 rfl rfl rfl rfl rfl rfl rfl ⟨rfl, rfl, rfl, rfl, rfl⟩ rfl rfl rfl rfl rfl (by kernel_rfl) Try.func7 (by kernel_rfl)
    (of_decide_eq_true (by kernel_rfl)) (by unfold Func.isWrapper; first | (rw [if_pos (by decide +kernel)]; kernel_rfl) | (rw [if_neg (by decide +kernel)]; exact ⟨rfl, rfl⟩))
    (fun os started H enc _ => lifted os started H enc)
#print axioms proved
end VolumeUnion
end Go.Proofs.Ytlokkffpmjlihaa

