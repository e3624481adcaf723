/- FlyBetween: between two nodes of a path, positions are those of the straight way, and heights between those of the nodes. For every input. -/
import Derived.Test.YtampbjbalenckaaFlyWorks
import Derived.Test.YtampbjbalenckaaShapes
import Derived.Test.YtampbjbalenckaaKit2
namespace Go.Proofs.Ytampbjbalenckaa
open Go.RowKit Go.ChangeShapes Go.WideShapes
namespace FlyBetween
open Kit Path Plane
set_option maxHeartbeats 1000000 in
theorem bad (v : Value) (t E : Int) (w : World) (C : Hid (∀ w1, Below w.heap.size w w1 → Calls Try.prog 16 #[v, .int .i64 t] w1 fun e w' => e = .returned (.tuple #[.agg #[.int .i64 0, .int .i64 0, .int .i64 0, .int .i64 0], .int .i64 E]) ∧ Below w1.heap.size w1 w')) (hE1 : (E == 0) = false) (hE2 : (E != 0) = true) :
    Calls Try.prog 3 #[v, .int .i64 t] w fun e w' => e = .returned (.bool true) ∧ Below w.heap.size w w' := by
  go_enter Try.func3, Try.ntmps3
  go_wp2_with fail
  refine (flyWorks _).mono ?_; rintro e w1 ⟨rfl, hw⟩
  go_wp2_with fail
  refine (C.out _ hw).mono ?_; rintro e w2 ⟨rfl, hb⟩
  replace hw := b_next hw hb; clear hb
  have hc := c4_new w2 28 0 0 0 0
  go_wp2_with fail
  go_ret
  exact ⟨retb rfl, b_alloc hw _⟩
abbrev w_cell (W : World) (b off : Nat) (n : Int) : Prop := W.cell? ⟨b, off, none⟩ = some (.int .i64 n)
theorem pairA (w : World) (ty : TypeId) (t x y h t' x' y' h' : Int) : C4 ((w.alloc (.cells #[.int .i64 t, .int .i64 x, .int .i64 y, .int .i64 h] ty)).alloc (.cells #[.int .i64 t', .int .i64 x', .int .i64 y', .int .i64 h'] ty)).drew w.heap.size t x y h :=
  c4_keep (b_drew (Below.refl _ _)) (c4_alloc _ (c4_new w ty t x y h))
theorem pairB (w : World) (ty : TypeId) (t x y h t' x' y' h' : Int) : C4 ((w.alloc (.cells #[.int .i64 t, .int .i64 x, .int .i64 y, .int .i64 h] ty)).alloc (.cells #[.int .i64 t', .int .i64 x', .int .i64 y', .int .i64 h'] ty)).drew (w.heap.size + 1) t' x' y' h' :=
  c4_keep (b_drew (Below.refl _ _)) (c4_new1 w _ ty t' x' y' h')
abbrev TwC (ax ay bx by' n d px py : Int) : Prop := ∀ w, Calls Try.prog 17 #[.agg #[.int .i64 ax, .int .i64 ay], .agg #[.int .i64 bx, .int .i64 by'], .int .i64 n, .int .i64 d] w fun e w' => e = .returned (.tuple #[.agg #[.int .i64 px, .int .i64 py], .int .i64 0]) ∧ Below w.heap.size w w'
set_option maxRecDepth 100000 in
set_option maxHeartbeats 2000000 in
theorem good (n cap b off : Nat) (T X Y H : Nat → Int) (t px py h : Int) (w : World) (h0 : 0 < n) (hn : n ≤ 64) (hc : n ≤ cap) (hm : cap ≤ 9223372036854775807) (HV : Hid (∀ k, k < n → N4 w b off k (T k) (X k) (Y k) (H k)))
    (C : Hid (∀ w1, Below w.heap.size w w1 → Calls Try.prog 16 #[.slice (some ⟨b, off, none⟩) n cap, .int .i64 t] w1 fun e w' => e = .returned (.tuple #[.agg #[.int .i64 t, .int .i64 px, .int .i64 py, .int .i64 h], .int .i64 0]) ∧ Below w1.heap.size w1 w'))
    (HT0 : T 0 ≤ t) (HTn : t ≤ T (n - 1)) (hT : Hid (∀ k, k < n → 0 ≤ T k ∧ T k ≤ 200000))
    (HQ : Hid (∀ k, k + 1 < n → T k ≤ t → t ≤ T (k + 1) → TwC (X k) (Y k) (X (k + 1)) (Y (k + 1)) (t - T k) (T (k + 1) - T k) px py ∧ min (H k) (H (k + 1)) ≤ h ∧ h ≤ max (H k) (H (k + 1))))
    (H1 : Hid (n = 1 → T 0 = t ∧ X 0 = px ∧ Y 0 = py ∧ H 0 = h)) :
    Calls Try.prog 3 #[.slice (some ⟨b, off, none⟩) n cap, .int .i64 t] w fun e w' => e = .returned (.bool true) ∧ Below w.heap.size w w' := by
  go_enter Try.func3, Try.ntmps3
  go_wp2_with fail
  refine (flyWorks _).mono ?_; rintro e w1 ⟨rfl, hw⟩
  go_wp2_with fail
  refine (C.out _ hw).mono ?_; rintro e w2 ⟨rfl, hb⟩
  replace hw := b_next hw hb; clear hb
  have hcn := c4_new w2 28 t px py h
  have hwn := b_alloc hw (.cells #[.int .i64 t, .int .i64 px, .int .i64 py, .int .i64 h] 28)
  have HW := Lib.hid hwn; have HC := Lib.hid hcn; clear hwn hcn hw
  go_wp2_with fail
  generalize hWW : (w2.alloc (.cells #[.int .i64 t, .int .i64 px, .int .i64 py, .int .i64 h] 28)) = W at *
  have HE := Lib.hid hWW; clear hWW
  go_loopw [7] (fun s wr => ∃ k : Nat, k + 1 ≤ n ∧ T k ≤ t ∧ (k = 0 ∨ T k < t) ∧ s = .int .i64 ((k : Int) + 1) ∧ Below W.heap.size W wr) (fun s _ => n - (intOf s).toNat)
  case atStart => exact ⟨0, h0, HT0, Or.inl rfl, rfl, Below.refl _ _⟩
  case round =>
    obtain ⟨k, hk, hu, hz, rfl, hbl⟩ := hrel
    have hww := b_next HW.out hbl
    have hcr := c4_keep hbl HC.out
    by_cases hlt : k + 1 < n
    · have ha4 := n4_keep hww (HV.out k (by omega))
      have hb4 := n4_keep hww (HV.out (k + 1) hlt)
      obtain ⟨⟨a0, a1⟩, a2, a3⟩ := ha4
      obtain ⟨⟨b0, b1⟩, b2, b3⟩ := hb4
      have u1 : (k : Int) + 1 < (n : Int) := by omega
      have u2 : (k : Int) < (n : Int) := by omega
      have t0 := hT.out k (by omega); have t1 := hT.out (k + 1) hlt
      have hbs : b < wr.heap.size := lt_of_cell a0
      have hbn : ¬ b = wr.heap.size := by omega
      have u3 : IntKind.i64.wrap (k : Int) = (k : Int) := by rw [IntWalk.i64_in _ (by omega)]
      go_wp2_with fail
      by_cases hle : t ≤ T (k + 1)
      · obtain ⟨CT, hmn, hmx⟩ := HQ.out k hlt hu hle
        have HT := Lib.hid CT; clear CT
        go_region
        all_goals
          go_wp2_with fail
          refine (HT.out _).mono ?_; rintro e w4 ⟨rfl, hb⟩
          first
            | (have hA := c4_keep hb (pairA wr 28 (T k) (X k) (Y k) (H k) (T (k + 1)) (X (k + 1)) (Y (k + 1)) (H (k + 1)))
               have hB := c4_keep hb (pairB wr 28 (T k) (X k) (Y k) (H k) (T (k + 1)) (X (k + 1)) (Y (k + 1)) (H (k + 1))))
            | (have hB := c4_keep hb (pairA wr 28 (T (k + 1)) (X (k + 1)) (Y (k + 1)) (H (k + 1)) (T k) (X k) (Y k) (H k))
               have hA := c4_keep hb (pairB wr 28 (T (k + 1)) (X (k + 1)) (Y (k + 1)) (H (k + 1)) (T k) (X k) (Y k) (H k)))
          have hN := c4_keep (b_next (b_drew (b_alloc (b_alloc (Below.refl _ _) _) _)) hb) hcr
          replace hww := b_next (b_drew (b_alloc (b_alloc hww _) _)) hb
          clear hb hcr a0 a1 a2 a3 b0 b1 b2 b3
          obtain ⟨⟨a0, a1⟩, a2, a3⟩ := hA
          obtain ⟨⟨b0, b1⟩, b2, b3⟩ := hB
          obtain ⟨⟨c0, c1⟩, c2, c3⟩ := hN
          have n1 := new_ne a0; have n2 := new_ne b0; have n3 := new_ne c0
          go_wp2_with fail
          all_goals (go_ret; exact ⟨retb rfl, b_alloc hww _⟩)
      · go_region
        all_goals
          go_wp2_with fail
          go_roundw
          case rel => first | exact ⟨k + 1, hlt, by omega, Or.inr (by omega), by go_num, b_drew (b_alloc (b_alloc hbl _) _)⟩ | ((repeat apply Exists.intro); exact ⟨⟨k + 1, hlt, by omega, Or.inr (by omega), by go_num, b_drew (b_alloc (b_alloc hbl _) _)⟩, rfl⟩)
          case measure => simp [intOf]; omega
    · have hk0 : k = 0 ∧ n = 1 := by
        rcases hz with hz | hz
        · omega
        · have e : n - 1 = k := by omega
          rw [e] at HTn
          omega
      obtain ⟨e1, e2⟩ := hk0
      subst e1
      subst e2
      obtain ⟨f0, f1, f2, f3⟩ := H1.out rfl
      subst f0 f1 f2 f3
      obtain ⟨⟨a0, a1⟩, a2, a3⟩ := n4_keep hww (HV.out 0 (by omega))
      rw [Nat.zero_mul, Nat.add_zero] at a0 a1 a2 a3
      obtain ⟨⟨c0, c1⟩, c2, c3⟩ := hcr
      go_wp2_with fail
      refine d_region (by kernel_rfl) (by kernel_rfl) ?_
      repeat
        first
          | (refine d_plain (by with_reducible rfl) ?_; apply Exists.intro; refine ⟨fun wq hc hq => ?_, ?_⟩)
          | (refine d_on (by with_reducible rfl) (by rfl) (by with_reducible rfl) ?_; apply Exists.intro; refine ⟨fun wq hc hq => ?_, ?_⟩)
          | (refine d_off (by with_reducible rfl) (by rfl) (by rfl) ?_)
          | (refine d_void (by with_reducible rfl) (by rfl) ?_)
        try any_goals
          (have q0 := keep hq a0; have q1 := keep hq a1; have q2 := keep hq a2; have q3 := keep hq a3; have r0 := keep hq c0; have r1 := keep hq c1; have r2 := keep hq c2; have r3 := keep hq c3; clear hc
           go_simp
           first
             | rfl)
        simp only [Act.put, List.setIfInBounds_toArray, List.set_cons_zero, List.set_cons_succ]
      refine d_nil ?_
      intro w5 hb5
      go_wp2_with fail
      go_ret
      exact ⟨retb rfl, b_next hww hb5⟩
theorem pv_of {W : World} {v : Value} (h : Frame.Okc W (.sl [.int, .int, .int, .int]) v) : ∃ n T X Y H, PV W v n T X Y H := by
  rcases h.sl_inv with rfl | ⟨a, cap, rfl, hc⟩ | ⟨b, off, len, cap, cells, rfl, h0, h1, h2, hc, ho⟩
  · exact ⟨0, fun _ => 0, fun _ => 0, fun _ => 0, fun _ => 0, Or.inl ⟨rfl, Or.inl rfl⟩⟩
  · exact ⟨0, fun _ => 0, fun _ => 0, fun _ => 0, fun _ => 0, Or.inl ⟨rfl, Or.inr ⟨a, cap, rfl, hc⟩⟩⟩
  · have z : ∀ i, i < len → ∀ j (hj : j < 4), ∃ n : Int, cells i j = .int .i64 n := fun i hi j hj => by
      have hk := ho i hi j hj
      have hj' : j = 0 ∨ j = 1 ∨ j = 2 ∨ j = 3 := by omega
      rcases hj' with rfl | rfl | rfl | rfl <;> (obtain ⟨n, e, _⟩ := hk.int_inv; exact ⟨n, e⟩)
    let g : Nat → Nat → Int := fun i j => match cells i j with | .int _ n => n | _ => 0
    have hg : ∀ i, i < len → ∀ j, j < 4 → w_cell W b (off + i * 4 + j) (g i j) := fun i hi j hj => by
      obtain ⟨n, e⟩ := z i hi j hj
      have hcc := hc i hi j hj
      show W.cell? _ = some (.int .i64 (match cells i j with | .int _ n => n | _ => 0))
      rw [e] at hcc ⊢
      exact hcc
    exact ⟨len, fun i => g i 0, fun i => g i 1, fun i => g i 2, fun i => g i 3, Or.inr ⟨h0, b, off, cap, rfl, h1, h2, fun k hk => ⟨⟨hg k hk 0 (by decide), hg k hk 1 (by decide)⟩, ⟨hg k hk 2 (by decide), hg k hk 3 (by decide)⟩⟩⟩⟩
set_option maxHeartbeats 1000000 in
theorem walk (l : Value) (t : Int) (W : World) (h_l : Frame.Okc W (.sl [.int, .int, .int, .int]) l) (h_t : -9223372036854775808 ≤ t ∧ t ≤ 9223372036854775807) :
    Calls Try.prog 3 #[l, .int .i64 t] W fun e w' => e = .returned (.bool true) ∧ Below W.heap.size W w' := by
  obtain ⟨n, T, X, Y, H, hv⟩ := pv_of h_l
  by_cases hE : atE T X Y H n t = 0
  · obtain ⟨hp, h0, h1, i, hi⟩ := atE_zero hE
    have C := fun w1 hb => fly_At_ok (pv_keep (w1 := w1) hb hv) hE hi
    rcases hv with ⟨hn, -⟩ | ⟨hn, b, off, cap, rfl, h1', h2, h3⟩
    · have := hp.1; omega
    · refine good n cap b off T X Y H t _ _ _ W hp.1 hp.2.1 h1' (Nat.le_trans h2 (by decide)) (Lib.hid h3) (Lib.hid C) h0 h1 (Lib.hid fun k hk => ⟨(hp.2.2.1 k hk).1, (hp.2.2.1 k hk).2.1⟩) (Lib.hid fun k hk ha hb => ?_) (Lib.hid fun h => ?_)
      · have q0 := hp.2.2.1 k (by omega)
        have q1 := hp.2.2.1 (k + 1) hk
        have hlt := hp.2.2.2 k hk
        have hq := quo_bd (d := H (k + 1) - H k) (n := t - T k) (N := T (k + 1) - T k) (by omega) (by omega) (by omega)
        have tc : TwC (X k) (Y k) (X (k + 1)) (Y (k + 1)) (t - T k) (T (k + 1) - T k) (tw (X k) (X (k + 1)) (t - T k) (T (k + 1) - T k)) (tw (Y k) (Y (k + 1)) (t - T k) (T (k + 1) - T k)) :=
          fun w => toward_ok _ _ _ _ _ _ w (by omega) (by omega) (by omega) (by omega) q0.2.2.1 q1.2.2.1
        by_cases he : t = T (k + 1)
        · have hik : i = k + 1 := by
            rcases Nat.lt_trichotomy i (k + 1) with hl | hl | hl
            · have := hi.2.2 (by omega)
              have := pok_le hp (i := i + 1) (j := k + 1) (by omega) hk
              omega
            · exact hl
            · have := pok_lt hp (i := k + 1) (j := i) hl hi.1
              have := hi.2.1
              omega
          subst hik
          subst he
          rw [tw_all (by omega), tw_all (by omega)] at tc
          rw [atx_at, atx_at, ath_at]
          exact ⟨tc, by omega, by omega⟩
        · have hik : i = k := by
            rcases Nat.lt_trichotomy i k with hl | hl | hl
            · have := hi.2.2 (by omega)
              have := pok_le hp (i := i + 1) (j := k) (by omega) (by omega)
              omega
            · exact hl
            · have := pok_le hp (i := k + 1) (j := i) hl hi.1
              have := hi.2.1
              omega
          subst hik
          unfold ath
          exact ⟨tc, by omega, by omega⟩
      · subst h
        have hi0 : i = 0 := by have := hi.1; omega
        subst hi0
        have ht : t = T 0 := by have := hi.2.1; simp at h1; omega
        subst ht
        rw [atx_at, atx_at, ath_at]
        exact ⟨rfl, rfl, rfl, rfl⟩
  · have C := fun w1 hb => fly_At_bad (pv_keep (w1 := w1) hb hv) hE
    exact bad l t _ W (Lib.hid C) (by simpa using hE) (by simpa using hE)
-- FRAME --

set_option maxRecDepth 100000 in
theorem lifted (os : Os) (started : os.Started) (H : Type) (enc : TypeId × Value → H) :
    ReturnsInHanded {} Try.checked os 3 .any (Rows.flyBetweenSpec.pre6 enc Try.prog Try.f3 Rows.flyBetweenRow.domain false) (Rows.flyBetweenSpec.post enc Try.prog Try.f3 false true false false) :=
  Frame.lifted (C := Try.checked) 3 Try.f3 Try.own started (by kernel_rfl) Try.func3 Try.laidOut rfl (by kernel_rfl) 4 rfl Try.underlying4
      (fun ds h => by match ds, h with | [_, _], _ => rfl)
      (ChangeSpec.witness6 (enc := enc) (C := Try.checked) false ⟨#[], #[.slice none 0 0, .int .i64 0], []⟩ 8 (by kernel_rfl) (by kernel_rfl) (by kernel_rfl) (by kernel_rfl))
      (fun W base args ds ps hval0 hA _ => by
        have hval : ∀ (j : Nat) t v, Try.f3.params[j]? = some t → args[j]? = some v → Value.okWide Try.prog W .any base t v := hval0
        have hA' : DataW.TrodAll enc Try.prog W 0 (fun _ => true) true Try.f3.params.toList args.toList ds ps := hA
        clear hval0 hA
        have hA := hA'
        clear hA'
        rw [Try.params3] at hA hval
        obtain ⟨v0, vs0, d0, ds0, p0, q0, ea, rfl, rfl, tr0, rest0⟩ := trodAll_cons hA
        obtain ⟨v1, vs1, d1, ds1, p1, q1, rfl, rfl, rfl, tr1, rest1⟩ := trodAll_cons rest0
        obtain ⟨rfl, rfl, rfl⟩ := trodAll_nil rest1
        obtain rfl : args = #[v0, v1] := by cases args; simp_all
        clear ea
        have sl_l : Frame.Okc W (.sl [.int, .int, .int, .int]) v0 := by obtain ⟨a, l, c, e⟩ := okWide_slice Try.underlying23 (hval 0 _ _ rfl rfl); exact Frame.arg_cell (k := 8) (by kernel_rfl) (by have e2 : v0 = .slice a l c := e; rw [e2]; rfl) tr0
        obtain ⟨t, rfl, w_t⟩ := Frame.arg_int Try.underlying3 (hval 1 _ _ rfl rfl)
        exact walk v0 t W sl_l (Frame.bd w_t))

/-- The statement. -/
theorem proved : Rows.FlyBetweenSaid :=
  OpenClaim.holds_of_wide 3 Try.f3 rfl rfl rfl rfl rfl rfl rfl ⟨rfl, rfl, rfl, rfl, rfl⟩ rfl rfl rfl rfl rfl (by kernel_rfl) Try.func3 (by kernel_rfl)
    (of_decide_eq_true (by kernel_rfl)) (by unfold Func.isWrapper; first | (rw [if_pos (by decide +kernel)]; kernel_rfl) | (rw [if_neg (by decide +kernel)]; exact ⟨rfl, rfl⟩))
    (fun os started H enc _ => lifted os started H enc)
#print axioms proved
end FlyBetween
end Go.Proofs.Ytampbjbalenckaa

