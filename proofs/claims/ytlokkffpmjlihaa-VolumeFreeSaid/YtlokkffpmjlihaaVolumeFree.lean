/- VolumeFree: the lengths of the free times of an interval and of what its union has between the same ends add up to the length of the interval. For every input. -/
import Derived.Test.YtlokkffpmjlihaaVolI
namespace Go.Proofs.Ytlokkffpmjlihaa
open Go.RowKit Go.ChangeShapes Go.WideShapes
namespace VolumeFree
open Kit Plane Poly Vol
theorem qv_slice {w : World} {v : Value} {n : Nat} {X Y : Nat → Int} (h : QV w v n X Y) : ∃ A cap, v = .slice A n cap := by
  rcases h with ⟨rfl, rfl | ⟨a, cap, rfl, _⟩⟩ | ⟨_, b, off, cap, rfl, _⟩
  · exact ⟨_, _, rfl⟩
  · exact ⟨_, _, rfl⟩
  · exact ⟨_, _, rfl⟩
theorem sum_next {L : List (Int × Int)} {i : Nat} (h : i < L.length) : sumL (L.take (i + 1)) = sumL (L.take i) + (rowsL L i 1 - rowsL L i 0) := by
  rw [List.take_succ_eq_append_getElem h, sumL_app, sumL_one, ← rowsL_get h]
theorem occ_next {a b : Int} {L : List (Int × Int)} {i : Nat} (h : i < L.length) : occL a b (L.take (i + 1)) = occL a b (L.take i) + max 0 (min (rowsL L i 1) b - max (rowsL L i 0) a) := by
  rw [List.take_succ_eq_append_getElem h, occL_app, occL_one, ← rowsL_get h]
theorem sum_bd {L : List (Int × Int)} (h : ∀ i, i < L.length → 0 ≤ rowsL L i 1 - rowsL L i 0 ∧ rowsL L i 1 - rowsL L i 0 ≤ 200000) : ∀ i, i ≤ L.length → 0 ≤ sumL (L.take i) ∧ sumL (L.take i) ≤ 200000 * i
  | 0, _ => by rw [List.take_zero]; show (0 : Int) ≤ 0 ∧ (0 : Int) ≤ 200000 * 0; omega
  | i + 1, hi => by
    have h1 := sum_bd h i (by omega)
    have h2 := h i (by omega)
    rw [sum_next (by omega)]
    omega
theorem occ_bd {a b : Int} {L : List (Int × Int)} (h : ∀ i, i < L.length → 0 ≤ rowsL L i 0 ∧ rowsL L i 1 ≤ 200000) : ∀ i, i ≤ L.length → 0 ≤ occL a b (L.take i) ∧ occL a b (L.take i) ≤ 200000 * i
  | 0, _ => by rw [List.take_zero]; show (0 : Int) ≤ 0 ∧ (0 : Int) ≤ 200000 * 0; omega
  | i + 1, hi => by
    have h1 := occ_bd (a := a) (b := b) h i (by omega)
    have h2 := h i (by omega)
    rw [occ_next (by omega)]
    omega
set_option maxHeartbeats 1000000 in
theorem bad (v : Value) (a b E : Int) (w : World) (_hE1 : (E == 0) = false) (hE2 : (E != 0) = true)
    (FR : Hid (∀ w1, Below w.heap.size w w1 → Calls Try.prog 24 #[v, .int .i64 a, .int .i64 b] w1 fun e w' => e = .returned (.tuple #[.slice none 0 0, .int .i64 E]) ∧ Below w1.heap.size w1 w'))
    (UN : Hid (∀ w1, Below w.heap.size w w1 → Calls Try.prog 25 #[v] w1 fun e w' => (∃ (q : Value) (E2 : Int), e = .returned (.tuple #[q, .int .i64 E2])) ∧ Below w1.heap.size w1 w')) :
    Calls Try.prog 6 #[v, .int .i64 a, .int .i64 b] w fun e w' => e = .returned (.bool true) ∧ Below w.heap.size w w' := by
  go_enter Try.func6, Try.ntmps6
  go_wp2_with fail
  refine (volumeWorks _).mono ?_; rintro e w1 ⟨rfl, hb⟩
  have W1 := Lib.hid hb; clear hb
  go_wp2_with fail
  (with_reducible refine (FR.out _ W1.out).mono ?_); rintro e w2 ⟨rfl, hb⟩
  have W2 := Lib.hid (b_next W1.out hb); clear hb
  go_wp2_with fail
  (with_reducible refine (UN.out _ W2.out).mono ?_); rintro e w3 ⟨⟨q, E2, rfl⟩, hb⟩
  have W3 := Lib.hid (b_next W2.out hb); clear hb
  go_wp2_with fail
  all_goals (go_ret; exact ⟨by first | rfl | exact retb rfl, W3.out⟩)
set_option maxRecDepth 100000 in
set_option maxHeartbeats 4000000 in
theorem ok (v : Value) (n : Nat) (F T : Nat → Int) (a b : Int) (w : World) (hn : n ≤ 256) (h1 : 0 ≤ a) (h2 : b ≤ 200000) (h3 : a ≤ b)
    (FR : Hid (∀ w1, Below w.heap.size w w1 → Calls Try.prog 24 #[v, .int .i64 a, .int .i64 b] w1 fun e w' => (∃ q, e = .returned (.tuple #[q, .int .i64 0]) ∧ FrP w' w1.heap.size n F T a b q) ∧ Below w1.heap.size w1 w'))
    (UN : Hid (UnC v n F T w)) :
    Calls Try.prog 6 #[v, .int .i64 a, .int .i64 b] w fun e w' => e = .returned (.bool true) ∧ Below w.heap.size w w' := by
  go_enter Try.func6, Try.ntmps6
  go_wp2_with fail
  refine (volumeWorks _).mono ?_; rintro e w1 ⟨rfl, hb⟩
  have W1 := Lib.hid hb; clear hb
  go_wp2_with fail
  (with_reducible refine (FR.out _ W1.out).mono ?_); rintro e w2 ⟨⟨q, rfl, U, L, hU, hF, hLn, ho⟩, hb⟩
  have W2 := Lib.hid (b_next W1.out hb); have Q2 := Lib.hid (own_qv ho); clear hb ho
  go_wp2_with fail
  (with_reducible refine (UN.out _ W2.out).mono ?_); rintro e w3 ⟨⟨r, U', rfl, hU', ho⟩, hb⟩
  obtain rfl := uok_unique hU hU'
  have W3 := Lib.hid (b_next W2.out hb); have Q3 := Lib.hid (qv_keep hb Q2.out); have R3 := Lib.hid (own_qv ho); clear hb ho hU' Q2
  have hUn := hU.len
  have HS := Lib.hid hF.sum
  have hLb : ∀ i, i < L.length → 0 ≤ rowsL L i 0 ∧ rowsL L i 0 < rowsL L i 1 ∧ rowsL L i 1 ≤ 200000 := fun i hi => by
    have h := hF.ok L[i] (List.getElem_mem hi)
    rw [← rowsL_get hi] at h
    dsimp only at h
    omega
  have hUb : ∀ i, i < U.length → 0 ≤ rowsL U i 0 ∧ rowsL U i 0 < rowsL U i 1 ∧ rowsL U i 1 ≤ 200000 := fun i hi => by
    obtain ⟨m, hm⟩ := hU.good
    have h : okS _ _ := (hm.ok U[i] (List.getElem_mem hi)).1
    rw [← rowsL_get hi] at h
    unfold okS at h
    dsimp only at h
    omega
  have LB := Lib.hid (sum_bd (L := L) fun i hi => by have := hLb i hi; omega)
  have UB := Lib.hid (occ_bd (a := a) (b := b) (L := U) fun i hi => by have := hUb i hi; omega)
  have LX := Lib.hid hLb; have UX := Lib.hid hUb; clear hLb hUb hU hF
  obtain ⟨A, c, rfl⟩ := qv_slice Q3.out
  obtain ⟨A2, c2, rfl⟩ := qv_slice R3.out
  obtain ⟨g, off, hA, hc1, hc2, E3⟩ := qv_at Q3.out
  obtain ⟨g2, off2, hA2, hc3, hc4, E4⟩ := qv_at R3.out
  have HA := Lib.hid hA; have HA2 := Lib.hid hA2; have EE := Lib.hid E3; have EF := Lib.hid E4
  clear hA hA2 E3 E4 Q3 R3
  obtain ⟨N, hN⟩ : ∃ N, N = L.length := ⟨_, rfl⟩
  obtain ⟨M, hM⟩ : ∃ M, M = U.length := ⟨_, rfl⟩
  rw [← hN] at EE HA hc2 LB LX hLn ⊢
  rw [← hM] at EF HA2 hc4 UB UX hUn ⊢
  have HN := Lib.hid hN; have HM := Lib.hid hM; clear hN hM
  go_wp2_with fail
  go_loopw [45, 11] (fun s t wr => ∃ i : Nat, i ≤ N ∧ s = .int .i64 i ∧ t = .int .i64 (sumL (L.take i)) ∧ Below w3.heap.size w3 wr) (fun s _ _ => N - (intOf s).toNat)
  case atStart => exact ⟨0, Nat.zero_le _, rfl, rfl, Below.refl _ _⟩
  case round =>
    obtain ⟨i, hi, rfl, rfl, hbl⟩ := hrel
    by_cases hlt : i < N
    · have hl : (i : Int) < (N : Int) := by omega
      obtain rfl := HA.out (by omega)
      obtain ⟨c0, c1⟩ := e2_keep hbl (EE.out i hlt)
      have x1 := LX.out i hlt
      have x2 := LB.out i hi
      have SN := Lib.hid (sum_next (L := L) (i := i) (by rw [← HN.out]; exact hlt))
      have B1 := Lib.hid (b_alloc hbl (.cells #[.int .i64 (rowsL L i 0), .int .i64 (rowsL L i 1)] 66))
      clear hbl
      generalize rowsL L i 0 = x at *
      generalize rowsL L i 1 = y at *
      generalize hs : sumL (L.take i) = s at *
      go_wp2_with fail
      exact ⟨⟨i + 1, by omega, by go_num, by rw [SN.out], B1.out⟩, by simp [intOf]; omega⟩
    · have hin : i = N := by omega
      have hl : ¬ (i : Int) < (N : Int) := by omega
      have x2 := LB.out i hi
      have W4 := Lib.hid (b_next W3.out hbl)
      have HS2 : Hid (sumL (L.take i) + occL a b U = b - a) := Lib.hid (by rw [hin, HN.out, List.take_length]; exact HS.out)
      have B0 := Lib.hid hbl; clear hbl
      generalize sumL (L.take i) = s at *
      go_wp2_with fail
      go_loopw [59, 11] (fun u t wq => ∃ k : Nat, k ≤ M ∧ u = .int .i64 k ∧ t = .int .i64 (s + occL a b (U.take k)) ∧ Below w3.heap.size w3 wq) (fun u _ _ => M - (intOf u).toNat)
      case atStart => exact ⟨0, Nat.zero_le _, rfl, by rw [List.take_zero]; show Value.int .i64 s = Value.int .i64 (s + 0); rw [Int.add_zero], B0.out⟩
      case round =>
        obtain ⟨k, hk, rfl, rfl, hbl⟩ := hrel
        by_cases hlt : k < M
        · have hl2 : (k : Int) < (M : Int) := by omega
          obtain rfl := HA2.out (by omega)
          obtain ⟨c0, c1⟩ := e2_keep hbl (EF.out k hlt)
          have x3 := UX.out k hlt
          have x4 := UB.out k hk
          have SN := Lib.hid (occ_next (a := a) (b := b) (L := U) (i := k) (by rw [← HM.out]; exact hlt))
          have B1 := Lib.hid (b_alloc hbl (.cells #[.int .i64 (rowsL U k 0), .int .i64 (rowsL U k 1)] 66))
          clear hbl
          generalize rowsL U k 0 = x at *
          generalize rowsL U k 1 = y at *
          generalize occL a b (U.take k) = o at *
          go_wp2_with fail
          exact ⟨⟨k + 1, by omega, by go_num, by rw [SN.out, Int.add_assoc], B1.out⟩, by simp [intOf]; omega⟩
        · have hkn : k = M := by omega
          have hl2 : ¬ (k : Int) < (M : Int) := by omega
          have hs2 := HS2.out
          have x4 := UB.out k hk
          rw [show U = U.take k from by rw [hkn, HM.out, List.take_length]] at hs2
          have W5 := Lib.hid (b_next W3.out hbl); clear hbl
          generalize occL a b (U.take k) = o at *
          go_wp2_with fail
          go_ret
          exact ⟨by first | rfl | exact retb (by omega), W5.out⟩
theorem walk (l : Value) (fr : Int) (to : Int) (W : World) (h_l : Frame.Okc W (.sl [.int, .int]) l) (_h_fr : -9223372036854775808 ≤ fr ∧ fr ≤ 9223372036854775807) (_h_to : -9223372036854775808 ≤ to ∧ to ≤ 9223372036854775807) :
    Calls Try.prog 6 #[l, .int .i64 fr, .int .i64 to] W fun e w' => e = .returned (.bool true) ∧ Below W.heap.size W w' := by
  obtain ⟨n, X, Y, hv, -⟩ := qv_of h_l
  have hf := freeC hv fr to
  by_cases hE : frE (ckS n X Y) fr to = 0
  · have hk : ckS n X Y = 0 := by
      unfold frE at hE
      by_cases h : ckS n X Y = 0
      · exact h
      · rw [if_pos h] at hE; exact hE
    have hr : ¬ (fr < 0 ∨ 200000 < to ∨ to < fr) := by
      unfold frE at hE
      intro h
      rw [if_neg (fun h : ckS n X Y ≠ 0 => h hk), if_pos h] at hE
      exact absurd hE (by decide)
    refine ok l n X Y fr to W (ckS_ok hk).1 (by omega) (by omega) (by omega) (Lib.hid fun w1 hb => (hf w1 hb).mono ?_) (Lib.hid (unC hv hk))
    rintro e w' ⟨⟨q, he, -, hq⟩, h⟩
    rw [hE] at he
    exact ⟨⟨q, he, hq hE⟩, h⟩
  · refine bad l fr to (frE (ckS n X Y) fr to) W (by simp [hE]) (by simp [hE]) (Lib.hid fun w1 hb => (hf w1 hb).mono ?_) (Lib.hid fun w1 hb => ?_)
    · rintro e w' ⟨⟨q, he, hq, -⟩, h⟩
      rw [hq hE] at he
      exact ⟨he, h⟩
    · by_cases hk : ckS n X Y = 0
      · refine (unC hv hk w1 hb).mono ?_
        rintro e w' ⟨⟨q, U, he, -⟩, h⟩
        exact ⟨⟨q, 0, he⟩, h⟩
      · refine (union_bad l _ w1 (Lib.hid (spansC (qv_keep hb hv))) (by simp [hk]) (by simp [hk])).mono ?_
        rintro e w' ⟨he, h⟩
        exact ⟨⟨_, _, he⟩, h⟩
-- FRAME --

set_option maxRecDepth 100000 in
theorem lifted (os : Os) (started : os.Started) (H : Type) (enc : TypeId × Value → H) :
    ReturnsInHanded {} Try.checked os 6 .any (Rows.volumeFreeSpec.pre6 enc Try.prog Try.f6 Rows.volumeFreeRow.domain false) (Rows.volumeFreeSpec.post enc Try.prog Try.f6 false true false false) :=
  Frame.lifted (C := Try.checked) 6 Try.f6 Try.own started (by kernel_rfl) Try.func6 Try.laidOut rfl (by kernel_rfl) 4 rfl Try.underlying4
      (fun ds h => by match ds, h with | [_, _, _], _ => rfl)
      (ChangeSpec.witness6 (enc := enc) (C := Try.checked) false ⟨#[], #[.slice none 0 0, .int .i64 0, .int .i64 0], []⟩ 8 (by kernel_rfl) (by kernel_rfl) (by kernel_rfl) (by kernel_rfl))
      (fun W base args ds ps hval0 hA _ => by
        have hval : ∀ (j : Nat) t v, Try.f6.params[j]? = some t → args[j]? = some v → Value.okWide Try.prog W .any base t v := hval0
        have hA' : DataW.TrodAll enc Try.prog W 0 (fun _ => true) true Try.f6.params.toList args.toList ds ps := hA
        clear hval0 hA
        have hA := hA'
        clear hA'
        rw [Try.params6] at hA hval
        obtain ⟨v0, vs0, d0, ds0, p0, q0, ea, rfl, rfl, tr0, rest0⟩ := trodAll_cons hA
        obtain ⟨v1, vs1, d1, ds1, p1, q1, rfl, rfl, rfl, tr1, rest1⟩ := trodAll_cons rest0
        obtain ⟨v2, vs2, d2, ds2, p2, q2, rfl, rfl, rfl, tr2, rest2⟩ := trodAll_cons rest1
        obtain ⟨rfl, rfl, rfl⟩ := trodAll_nil rest2
        obtain rfl : args = #[v0, v1, v2] := by cases args; simp_all
        clear ea
        have sl_l : Frame.Okc W (.sl [.int, .int]) v0 := by obtain ⟨a, l, c, e⟩ := okWide_slice Try.underlying49 (hval 0 _ v0 rfl rfl); exact Frame.arg_cell (k := 8) (by kernel_rfl) (by have e2 : v0 = .slice a l c := e; rw [e2]; rfl) tr0
        obtain ⟨fr, rfl, w_fr⟩ := Frame.arg_int Try.underlying3 (hval 1 _ v1 rfl rfl)
        obtain ⟨to, rfl, w_to⟩ := Frame.arg_int Try.underlying3 (hval 2 _ v2 rfl rfl)
        exact walk v0 fr to W sl_l (Frame.bd w_fr) (Frame.bd w_to))

/-- The statement. -/
theorem proved : Rows.VolumeFreeSaid :=
  OpenClaim.holds_of_wide 6 Try.f6 rfl rfl rfl rfl rfl rfl rfl ⟨rfl, rfl, rfl, rfl, rfl⟩ rfl rfl rfl rfl rfl (by kernel_rfl) Try.func6 (by kernel_rfl)
    (of_decide_eq_true (by kernel_rfl)) (by unfold Func.isWrapper; first | (rw [if_pos (by decide +kernel)]; kernel_rfl) | (rw [if_neg (by decide +kernel)]; exact ⟨rfl, rfl⟩))
    (fun os started H enc _ => lifted os started H enc)
#print axioms proved
end VolumeFree
end Go.Proofs.Ytlokkffpmjlihaa

