/- ProbeMargin: with a lateral separation of the margin there is no clash, and with one meter more there is one, if heights do not separate. For every input. -/
import Derived.Test.YtlgdcpkjobbnnaaProbeM
import Derived.Test.YtlgdcpkjobbnnaaTubeD
namespace Go.Proofs.Ytlgdcpkjobbnnaa
open Go.RowKit Go.ChangeShapes Go.WideShapes
namespace ProbeMargin
open Kit Plane Tube Probe
theorem q2_ist {w : World} {b : Nat} {u v : Value} (h : Q2 w b u v) (hu : IsT w u) (hv : IsT w v) : ∀ k, k < 2 → w.cell? ⟨b, k, none⟩ = some ((fun k => if k = 0 then u else v) k) ∧ IsT w ((fun k => if k = 0 then u else v) k) := by
  intro k hk
  rcases (show k = 0 ∨ k = 1 from by omega) with rfl | rfl
  · exact ⟨h.1, hu⟩
  · exact ⟨h.2, hv⟩
theorem ist_of {w : World} {v : Value} {n : Nat} {T X Y H R B : Nat → Int} (h : TV w v n T X Y H R B) : IsT w v := ⟨n, T, X, Y, H, R, B, h⟩
theorem fits_flat : (Try.prog.info? 71).map (fun i => (i.zero, i.size, i.bytes)) = some (some (.agg #[.int .i64 0, .int .i64 0, .int .i64 0, .int .i64 0, .int .i64 0, .int .i64 0]), 6, 48) := by kernel_rfl
theorem new6 (w : World) (ty : TypeId) (t x y h r d : Int) : ∀ j u, [Value.int .i64 t, .int .i64 x, .int .i64 y, .int .i64 h, .int .i64 r, .int .i64 d][j]? = some u → (w.alloc (.cells #[.int .i64 t, .int .i64 x, .int .i64 y, .int .i64 h, .int .i64 r, .int .i64 d] ty)).cell? ((⟨w.heap.size, 0, none⟩ : Addr).add j) = some u := by
  intro j u hj
  match j, hj with
  | 0, hj => simp at hj; subst hj; simp [Addr.add]
  | 1, hj => simp at hj; subst hj; simp [Addr.add]
  | 2, hj => simp at hj; subst hj; simp [Addr.add]
  | 3, hj => simp at hj; subst hj; simp [Addr.add]
  | 4, hj => simp at hj; subst hj; simp [Addr.add]
  | 5, hj => simp at hj; subst hj; simp [Addr.add]
theorem new6_one {t x y h r d : Int} : ∀ u ∈ [Value.int .i64 t, .int .i64 x, .int .i64 y, .int .i64 h, .int .i64 r, .int .i64 d], u.oneCell' = true := by
  intro u hu
  simp only [List.mem_cons, List.not_mem_nil, or_false] at hu
  rcases hu with rfl | rfl | rfl | rfl | rfl | rfl <;> rfl
theorem rowL_next {f : Nat → Nat → Int} {n : Nat} {t x y h r d : Int} (e : ∀ m, m < 6 → f n m = tf (fun _ => t) (fun _ => x) (fun _ => y) (fun _ => h) (fun _ => r) (fun _ => d) 0 m) : rowL 6 f n ++ [Value.int .i64 t, .int .i64 x, .int .i64 y, .int .i64 h, .int .i64 r, .int .i64 d] = rowL 6 f (n + 1) := by
  rw [rowL]
  congr 1
  have e0 := e 0 (by omega); have e1 := e 1 (by omega); have e2 := e 2 (by omega); have e3 := e 3 (by omega); have e4 := e 4 (by omega); have e5 := e 5 (by omega)
  unfold tf at e0 e1 e2 e3 e4 e5
  simp at e0 e1 e2 e3 e4 e5
  rw [show List.range 6 = [0, 1, 2, 3, 4, 5] from rfl]
  simp [e0, e1, e2, e3, e4, e5]
set_option maxRecDepth 100000 in
set_option maxHeartbeats 4000000 in
theorem flat (n cap b off : Nat) (T X Y H R B : Nat → Int) (w : World) (_h0 : 0 < n) (hn : n ≤ 64) (_hc : n ≤ cap) (_hm : cap ≤ 9223372036854775807) (HV : Hid (∀ k, k < n → S6 w b (off + k * 6) (T k) (X k) (Y k) (H k) (R k) (B k))) :
    Calls Try.prog 34 #[.slice (some ⟨b, off, none⟩) n cap] w fun e w' => (∃ q, e = .returned q ∧ Own w' w.heap.size 71 6 q n (tf T X Y (fun _ => 0) R B)) ∧ Below w.heap.size w w' := by
  obtain ⟨i0, hi', hz0, hz1, hz2⟩ := info_parts fits_flat
  have I := Lib.hid (And.intro hi' (And.intro hz0 (And.intro hz1 hz2))); clear hi' hz0 hz1 hz2
  go_enter Try.func34, Try.ntmps34
  go_wp2_with fail
  go_loopw [8, 3] (fun s u wr => ∃ k : Nat, k ≤ n ∧ s = .int .i64 k ∧ Own wr w.heap.size 71 6 u k (tf T X Y (fun _ => 0) R B) ∧ Below w.heap.size w wr) (fun s _ _ => n - (intOf s).toNat)
  case atStart => exact ⟨0, Nat.zero_le _, rfl, own_nil _ _ _ _ _, Below.refl _ _⟩
  case round =>
    obtain ⟨k, hk, rfl, ho, hbl⟩ := hrel
    have HO := Lib.hid ho; have HB := Lib.hid hbl; clear ho
    by_cases hlt : k < n
    · have hl : (k : Int) < (n : Int) := by omega
      have e0 := s6_keep hbl (HV.out k hlt); clear hbl
      have O2 := Lib.hid (own_keep (b_alloc (Below.refl (wr.alloc (.cells #[.int .i64 (T k), .int .i64 (X k), .int .i64 (Y k), .int .i64 0, .int .i64 (R k), .int .i64 (B k)] 71)).heap.size (wr.alloc (.cells #[.int .i64 (T k), .int .i64 (X k), .int .i64 (Y k), .int .i64 0, .int .i64 (R k), .int .i64 (B k)] 71))) (.cells #[.int .i64 (T k), .int .i64 (X k), .int .i64 (Y k), .int .i64 0, .int .i64 (R k), .int .i64 (B k)] 71)) (own_keep (b_alloc (Below.refl wr.heap.size wr) (.cells #[.int .i64 (T k), .int .i64 (X k), .int .i64 (Y k), .int .i64 0, .int .i64 (R k), .int .i64 (B k)] 71)) HO.out))
      have B2 := Lib.hid (b_alloc (b_alloc HB.out (.cells #[.int .i64 (T k), .int .i64 (X k), .int .i64 (Y k), .int .i64 0, .int .i64 (R k), .int .i64 (B k)] 71)) (.cells #[.int .i64 (T k), .int .i64 (X k), .int .i64 (Y k), .int .i64 0, .int .i64 (R k), .int .i64 (B k)] 71))
      have HN := new6 (wr.alloc (.cells #[.int .i64 (T k), .int .i64 (X k), .int .i64 (Y k), .int .i64 0, .int .i64 (R k), .int .i64 (B k)] 71)) 71 (T k) (X k) (Y k) 0 (R k) (B k)
      rw [World.size_alloc] at HN
      have HN' := Lib.hid HN; clear HN
      go_wp2_with (at_builtin; refine wpList_append_own_at _ rfl (.tmp 14) (.tmp 16) 59 rfl w.heap.size 71 i0 _ 6 48 Try.underlying59 I.out.1 I.out.2.1 I.out.2.2.1 I.out.2.2.2 rfl (by decide) _ k _ rfl O2.out ⟨wr.heap.size + 1, 0, none⟩ 1 1 [.int .i64 (T k), .int .i64 (X k), .int .i64 (Y k), .int .i64 0, .int .i64 (R k), .int .i64 (B k)] rfl rfl HN'.out new6_one (by unfold maxLen; omega) (by omega) B2.out.size ?_; intro v1 w5 hown1 hg1 hnil1 hat1)
      refine ⟨⟨k + 1, by omega, by go_num, ?_, grow_below B2.out O2.out hg1 (Nat.le_refl _) B2.out.size⟩, by simp [intOf]; omega⟩
      have h := hown1
      rw [rowL_next (f := tf T X Y (fun _ => 0) R B) (n := k) (fun m _ => rfl)] at h
      exact h
    · have he : k = n := by omega
      have HE := Lib.hid he
      have hl : ¬ (k : Int) < (n : Int) := by omega
      clear he hbl
      go_wp2_with fail
      go_ret
      exact ⟨⟨_, rfl, by rw [← HE.out]; exact HO.out⟩, HB.out⟩
theorem flatC {v : Value} {n : Nat} {T X Y H R B : Nat → Int} {w : World} (hv : TV w v n T X Y H R B) (hp : tok T X Y H R B n) :
    Calls Try.prog 34 #[v] w fun e w' => (∃ q, e = .returned q ∧ TV w' q n T X Y (fun _ => 0) R B) ∧ Below w.heap.size w w' := by
  rcases hv with ⟨h0, -⟩ | ⟨h0, b, off, cap, rfl, h1, h2, h3⟩
  · have := hp.pos; omega
  · refine (flat n cap b off T X Y H R B w h0 hp.small h1 (Nat.le_trans h2 (by decide)) (Lib.hid h3)).mono ?_
    rintro e w' ⟨⟨q, he, ho⟩, hb⟩
    obtain ⟨g, cap', rfl, -, -, hnc, hcm, hrow⟩ := own_row ho h0
    exact ⟨⟨_, he, tf_tv h0 hnc hcm hrow⟩, hb⟩
set_option maxRecDepth 100000 in
set_option maxHeartbeats 2000000 in
theorem bad (A A' : Option Addr) (m m' c c' : Nat) (E : Int) (w : World) (I1 : Hid (IsT w (.slice A m c))) (I2 : Hid (IsT w (.slice A' m' c')))
    (MG : Hid (∀ w1, Below w.heap.size w w1 → Calls Try.prog 33 #[.slice A m c, .slice A' m' c'] w1 fun e w' => e = .returned (.tuple #[.int .i64 0, .int .i64 E]) ∧ Below w1.heap.size w1 w')) (hE : E ≠ 0) :
    Calls Try.prog 11 #[.slice A m c, .slice A' m' c'] w fun e w' => e = .returned (.bool true) ∧ Below w.heap.size w w' := by
  obtain ⟨e1, e2⟩ := ge1 hE; clear hE
  go_enter Try.func11, Try.ntmps11
  go_wp2_with fail
  (with_reducible refine (probeWorks _).mono ?_); rintro e w1 ⟨rfl, h⟩
  have W1 := Lib.hid h; clear h
  have Q1 := Lib.hid (q2_new w1 59 (.slice A m c) (.slice A' m' c'))
  have W1' := Lib.hid (b_alloc W1.out (.cells #[.slice A m c, .slice A' m' c'] 59))
  go_wp2_with fail
  (with_reducible refine (long_any _ 2 2 _ _ (Nat.le_refl _) (by decide) (Lib.hid (q2_ist Q1.out (isT_keep W1'.out I1.out) (isT_keep W1'.out I2.out)))).mono ?_); rintro e w2 ⟨⟨r, rfl⟩, h⟩
  have W2 := Lib.hid (b_next W1'.out h); clear h
  cases r with
  | true =>
    go_wp2_with fail
    go_ret
    exact ⟨retb rfl, W2.out⟩
  | false =>
    go_wp2_with fail
    (with_reducible refine (MG.out _ W2.out).mono ?_); rintro e w3 ⟨rfl, h⟩
    have W3 := Lib.hid (b_next W2.out h); clear h
    go_wp2_with fail
    go_ret
    exact ⟨retb rfl, W3.out⟩
set_option maxRecDepth 100000 in
set_option maxHeartbeats 2000000 in
theorem out (A A' : Option Addr) (m m' c c' : Nat) (n0 : Int) (w : World) (I1 : Hid (IsT w (.slice A m c))) (I2 : Hid (IsT w (.slice A' m' c')))
    (MG : Hid (∀ w1, Below w.heap.size w w1 → Calls Try.prog 33 #[.slice A m c, .slice A' m' c'] w1 fun e w' => e = .returned (.tuple #[.int .i64 n0, .int .i64 0]) ∧ Below w1.heap.size w1 w')) (hn : n0 < 0 ∨ 1000000 ≤ n0) :
    Calls Try.prog 11 #[.slice A m c, .slice A' m' c'] w fun e w' => e = .returned (.bool true) ∧ Below w.heap.size w w' := by
  go_enter Try.func11, Try.ntmps11
  go_wp2_with fail
  (with_reducible refine (probeWorks _).mono ?_); rintro e w1 ⟨rfl, h⟩
  have W1 := Lib.hid h; clear h
  have Q1 := Lib.hid (q2_new w1 59 (.slice A m c) (.slice A' m' c'))
  have W1' := Lib.hid (b_alloc W1.out (.cells #[.slice A m c, .slice A' m' c'] 59))
  go_wp2_with fail
  (with_reducible refine (long_any _ 2 2 _ _ (Nat.le_refl _) (by decide) (Lib.hid (q2_ist Q1.out (isT_keep W1'.out I1.out) (isT_keep W1'.out I2.out)))).mono ?_); rintro e w2 ⟨⟨r, rfl⟩, h⟩
  have W2 := Lib.hid (b_next W1'.out h); clear h
  cases r with
  | true =>
    go_wp2_with fail
    go_ret
    exact ⟨retb rfl, W2.out⟩
  | false =>
    go_wp2_with fail
    (with_reducible refine (MG.out _ W2.out).mono ?_); rintro e w3 ⟨rfl, h⟩
    have W3 := Lib.hid (b_next W2.out h); clear h
    go_wp2_with fail
    all_goals first | (exfalso; omega) | (go_ret; exact ⟨retb rfl, W3.out⟩)
set_option maxRecDepth 100000 in
set_option maxHeartbeats 4000000 in
theorem body (A A' : Option Addr) (m m' c c' k k' M : Nat) (n0 : Int) (F G : Nat → Nat → Int) (T X Y H R B T' X' Y' H' R' B' : Nat → Int) (w : World) (I1 : Hid (IsT w (.slice A m c))) (I2 : Hid (IsT w (.slice A' m' c')))
    (MG : Hid (∀ w1, Below w.heap.size w w1 → Calls Try.prog 33 #[.slice A m c, .slice A' m' c'] w1 fun e w' => e = .returned (.tuple #[.int .i64 n0, .int .i64 0]) ∧ Below w1.heap.size w1 w')) (hn : 0 ≤ n0 ∧ n0 < 1000000)
    (P1 : Hid (∀ w1, Below w.heap.size w w1 → Calls Try.prog 32 #[.slice A m c, .slice A' m' c', .agg #[.int .i64 n0, .int .i64 60000]] w1 fun e w' => (∃ q, e = .returned (.tuple #[q, .int .i64 0]) ∧ Own w' w1.heap.size 67 2 q 0 F) ∧ Below w1.heap.size w1 w'))
    (F1 : Hid (∀ w1, Below w.heap.size w w1 → Calls Try.prog 34 #[.slice A m c] w1 fun e w' => (∃ q, e = .returned q ∧ TV w' q k T X Y H R B) ∧ Below w1.heap.size w1 w')) (F2 : Hid (∀ w1, Below w.heap.size w w1 → Calls Try.prog 34 #[.slice A' m' c'] w1 fun e w' => (∃ q, e = .returned q ∧ TV w' q k' T' X' Y' H' R' B') ∧ Below w1.heap.size w1 w'))
    (P2 : Hid (∀ w1 u v, TV w1 u k T X Y H R B → TV w1 v k' T' X' Y' H' R' B' → Calls Try.prog 32 #[u, v, .agg #[.int .i64 (n0 + 1), .int .i64 60000]] w1 fun e w' => (∃ q, e = .returned (.tuple #[q, .int .i64 0]) ∧ Own w' w1.heap.size 67 2 q M G) ∧ Below w1.heap.size w1 w')) (hM : 0 < M) :
    Calls Try.prog 11 #[.slice A m c, .slice A' m' c'] w fun e w' => e = .returned (.bool true) ∧ Below w.heap.size w w' := by
  have g1 : ¬ n0 < 0 := by omega
  have g2 : ¬ 1000000 ≤ n0 := by omega
  have g3 : (0 : Int) < (M : Int) := by omega
  go_enter Try.func11, Try.ntmps11
  go_wp2_with fail
  (with_reducible refine (probeWorks _).mono ?_); rintro e w1 ⟨rfl, h⟩
  have W1 := Lib.hid h; clear h
  have Q1 := Lib.hid (q2_new w1 59 (.slice A m c) (.slice A' m' c'))
  have W1' := Lib.hid (b_alloc W1.out (.cells #[.slice A m c, .slice A' m' c'] 59))
  go_wp2_with fail
  (with_reducible refine (long_any _ 2 2 _ _ (Nat.le_refl _) (by decide) (Lib.hid (q2_ist Q1.out (isT_keep W1'.out I1.out) (isT_keep W1'.out I2.out)))).mono ?_); rintro e w2 ⟨⟨r, rfl⟩, h⟩
  have W2 := Lib.hid (b_next W1'.out h); clear h
  cases r with
  | true =>
    go_wp2_with fail
    go_ret
    exact ⟨retb rfl, W2.out⟩
  | false =>
    go_wp2_with fail
    (with_reducible refine (MG.out _ W2.out).mono ?_); rintro e w3 ⟨rfl, h⟩
    have W3 := Lib.hid (b_next W2.out h); clear h
    go_wp2_with fail
    (with_reducible refine (P1.out _ W3.out).mono ?_); rintro e w4 ⟨⟨q1, rfl, o1⟩, h⟩
    have W4 := Lib.hid (b_next W3.out h); clear h
    obtain ⟨A1, c1, rfl, -, -⟩ := own_slice o1
    clear o1
    go_wp2_with fail
    (with_reducible refine (F1.out _ W4.out).mono ?_); rintro e w5 ⟨⟨u, rfl, hu⟩, h⟩
    have W5 := Lib.hid (b_next W4.out h); have V5 := Lib.hid hu; clear h hu
    go_wp2_with fail
    (with_reducible refine (F2.out _ W5.out).mono ?_); rintro e w6 ⟨⟨v, rfl, hv⟩, h⟩
    have W6 := Lib.hid (b_next W5.out h); have V6 := Lib.hid (tv_keep h V5.out); have U6 := Lib.hid hv; clear h hv
    go_wp2_with fail
    (with_reducible refine (P2.out _ _ _ V6.out U6.out).mono ?_); rintro e w7 ⟨⟨q2, rfl, o2⟩, h⟩
    have W7 := Lib.hid (b_next W6.out h); clear h
    obtain ⟨A2, c2, rfl, -, -⟩ := own_slice o2
    clear o2
    go_wp2_with fail
    go_ret
    exact ⟨retb rfl, W7.out⟩
theorem tok_flat {T X Y H R B : Nat → Int} {n : Nat} (hp : tok T X Y H R B n) : tok T X Y (fun _ => 0) R B n :=
  ⟨hp.pos, hp.small, hp.time, hp.point, fun k hk => ⟨⟨by omega, by omega⟩, (hp.nums k hk).2⟩, hp.rise⟩
section
variable {T X Y H R B T' X' Y' H' R' B' : Nat → Int} {n n' : Nat}
theorem gap_bds (hp : tok T X Y H R B n) (hp' : tok T' X' Y' H' R' B' n') {t : Int} (h0 : T 0 ≤ t) (h1 : t ≤ T (n - 1)) (h0' : T' 0 ≤ t) (h1' : t ≤ T' (n' - 1)) : -2000000 ≤ gapT T X Y R n T' X' Y' R' n' t ∧ gapT T X Y R n T' X' Y' R' n' t ≤ 1000000000 := by
  have b1 := at_bds hp (segI_spec hp.pos h0) h1
  have b2 := at_bds hp' (segI_spec hp'.pos h0') h1'
  unfold gapT gapN
  have g := sqr_near b1.1 b2.1
  have s := sqr_nonneg (tx T X (segI T n t) t) (tx T Y (segI T n t) t) (tx T' X' (segI T' n' t) t) (tx T' Y' (segI T' n' t) t)
  have r := (root_spec s).1
  have q := (dup_le s g).2
  omega
theorem no_clash {n0 t : Int} (h : n0 ≤ gapT T X Y R n T' X' Y' R' n' t) : cfT T X Y H R B n T' X' Y' H' R' B' n' n0 60000 t = false := by
  unfold gapT gapN at h
  unfold cfT sepB
  rw [decide_eq_true h]
  rfl
theorem th_flat (T : Nat → Int) (i : Nat) (t : Int) : th T (fun _ => 0) i t = 0 := by
  unfold th
  simp
theorem clash {n0 t : Int} (hp : tok T X Y H R B n) (hp' : tok T' X' Y' H' R' B' n') (h0 : T 0 ≤ t) (h1 : t ≤ T (n - 1)) (h0' : T' 0 ≤ t) (h1' : t ≤ T' (n' - 1)) (h : gapT T X Y R n T' X' Y' R' n' t = n0) : cfT T X Y (fun _ => 0) R B n T' X' Y' (fun _ => 0) R' B' n' (n0 + 1) 60000 t = true := by
  have b1 := at_bds hp (segI_spec hp.pos h0) h1
  have b2 := at_bds hp' (segI_spec hp'.pos h0') h1'
  unfold gapT gapN at h
  unfold cfT sepB
  rw [th_flat, th_flat, decide_eq_false (by omega), decide_eq_false (by omega)]
  rfl
end
theorem walk (a : Value) (b : Value) (W : World) (h_a : Frame.Okc W (.sl [.int, .int, .int, .int, .int, .int]) a) (h_b : Frame.Okc W (.sl [.int, .int, .int, .int, .int, .int]) b) :
    Calls Try.prog 11 #[a, b] W fun e w' => e = .returned (.bool true) ∧ Below W.heap.size W w' := by
  obtain ⟨n, T, X, Y, H, R, B, hu⟩ := tv_of h_a
  obtain ⟨n', T', X', Y', H', R', B', hv⟩ := tv_of h_b
  have J1 := ist_of hu
  have J2 := ist_of hv
  by_cases hE : twoE 0 0 (tck T X Y H R B n) (tck T' X' Y' H' R' B' n') = 0
  · obtain ⟨-, z1, z2⟩ := twoE_zero hE
    have hp := (tck_zero n).1 z1
    have hp' := (tck_zero n').1 z2
    by_cases hz : max (T 0) (T' 0) ≤ min (T (n - 1)) (T' (n' - 1))
    · have MG := fun (w1 : World) (hb : Below W.heap.size W w1) => marginC_ok (tv_keep hb hu) (tv_keep hb hv) hp hp' hz
      obtain ⟨K, hK⟩ : ∃ K, (min (T (n - 1)) (T' (n' - 1)) + 1 - max (T 0) (T' 0)).toNat = K := ⟨_, rfl⟩
      rw [hK] at MG
      have hK0 : 0 < K := by omega
      have rg : ∀ t, max (T 0) (T' 0) ≤ t → t < max (T 0) (T' 0) + K → T 0 ≤ t ∧ t ≤ T (n - 1) ∧ T' 0 ≤ t ∧ t ≤ T' (n' - 1) := fun t h1 h2 => by omega
      obtain ⟨n0, hn0⟩ : ∃ n0, minN (gapT T X Y R n T' X' Y' R' n') (max (T 0) (T' 0)) K = n0 := ⟨_, rfl⟩
      rw [hn0] at MG
      have F1 := fun (w1 : World) (hb : Below W.heap.size W w1) => flatC (tv_keep hb hu) hp
      have F2 := fun (w1 : World) (hb : Below W.heap.size W w1) => flatC (tv_keep hb hv) hp'
      by_cases hn : n0 < 0 ∨ 1000000 ≤ n0
      · obtain ⟨A, c, rfl, -, -⟩ := tv_slice hu
        obtain ⟨A', c', rfl, -, -⟩ := tv_slice hv
        exact out A A' n n' c c' n0 W (Lib.hid J1) (Lib.hid J2) (Lib.hid MG) hn
      · have P1 := fun (w1 : World) (hb : Below W.heap.size W w1) => pairC_ok (tv_keep hb hu) (tv_keep hb hv) hp hp' (sepE_ok (lat := n0) (ver := 60000) (by omega))
        rw [hK, span_none (cf := cfT T X Y H R B n T' X' Y' H' R' B' n' n0 60000) (fun t h1 h2 => no_clash (by rw [← hn0]; exact minN_le h1 h2))] at P1
        have P2 := fun (w1 : World) (u v : Value) (hu : TV w1 u n T X Y (fun _ => 0) R B) (hv : TV w1 v n' T' X' Y' (fun _ => 0) R' B') => pairC_ok hu hv (tok_flat hp) (tok_flat hp') (sepE_ok (lat := n0 + 1) (ver := 60000) (by omega))
        rw [hK] at P2
        obtain ⟨t, h1, h2, h3⟩ := minN_at (g := gapT T X Y R n T' X' Y' R' n') (a := max (T 0) (T' 0)) hK0 (fun t h1 h2 => by
          obtain ⟨r1, r2, r3, r4⟩ := rg t h1 h2
          exact (gap_bds hp hp' r1 r2 r3 r4).2)
        obtain ⟨r1, r2, r3, r4⟩ := rg t h1 h2
        have hM := span_some h1 h2 (clash hp hp' r1 r2 r3 r4 (h3.symm.trans hn0))
        obtain ⟨A, c, rfl, -, -⟩ := tv_slice hu
        obtain ⟨A', c', rfl, -, -⟩ := tv_slice hv
        exact body A A' n n' c c' n n' _ n0 _ _ T X Y _ R B T' X' Y' _ R' B' W (Lib.hid J1) (Lib.hid J2) (Lib.hid MG) (by omega) (Lib.hid P1) (Lib.hid F1) (Lib.hid F2) (Lib.hid P2) hM
    · have MG := fun (w1 : World) (hb : Below W.heap.size W w1) => marginC_none (tv_keep hb hu) (tv_keep hb hv) hp hp' (by omega)
      obtain ⟨A, c, rfl, -, -⟩ := tv_slice hu
      obtain ⟨A', c', rfl, -, -⟩ := tv_slice hv
      exact bad A A' n n' c c' 8 W (Lib.hid J1) (Lib.hid J2) (Lib.hid MG) (by decide)
  · have MG := fun (w1 : World) (hb : Below W.heap.size W w1) => marginC_bad (tv_keep hb hu) (tv_keep hb hv) hE
    obtain ⟨A, c, rfl, -, -⟩ := tv_slice hu
    obtain ⟨A', c', rfl, -, -⟩ := tv_slice hv
    exact bad A A' n n' c c' _ W (Lib.hid J1) (Lib.hid J2) (Lib.hid MG) hE
-- FRAME --

set_option maxRecDepth 100000 in
theorem lifted (os : Os) (started : os.Started) (H : Type) (enc : TypeId × Value → H) :
    ReturnsInHanded {} Try.checked os 11 .any (Rows.probeMarginSpec.pre6 enc Try.prog Try.f11 Rows.probeMarginRow.domain false) (Rows.probeMarginSpec.post enc Try.prog Try.f11 false true false false) :=
  Frame.lifted (C := Try.checked) 11 Try.f11 Try.own started (by kernel_rfl) Try.func11 Try.laidOut rfl (by kernel_rfl) 4 rfl Try.underlying4
      (fun ds h => by match ds, h with | [_, _], _ => rfl)
      (ChangeSpec.witness6 (enc := enc) (C := Try.checked) false ⟨#[], #[.slice none 0 0, .slice none 0 0], []⟩ 8 (by kernel_rfl) (by kernel_rfl) (by kernel_rfl) (by kernel_rfl))
      (fun W base args ds ps hval0 hA _ => by
        have hval : ∀ (j : Nat) t v, Try.f11.params[j]? = some t → args[j]? = some v → Value.okWide Try.prog W .any base t v := hval0
        have hA' : DataW.TrodAll enc Try.prog W 0 (fun _ => true) true Try.f11.params.toList args.toList ds ps := hA
        clear hval0 hA
        have hA := hA'
        clear hA'
        rw [Try.params11] at hA hval
        obtain ⟨v0, vs0, d0, ds0, p0, q0, ea, rfl, rfl, tr0, rest0⟩ := trodAll_cons hA
        obtain ⟨v1, vs1, d1, ds1, p1, q1, rfl, rfl, rfl, tr1, rest1⟩ := trodAll_cons rest0
        obtain ⟨rfl, rfl, rfl⟩ := trodAll_nil rest1
        obtain rfl : args = #[v0, v1] := by cases args; simp_all
        clear ea
        have sl_a : Frame.Okc W (.sl [.int, .int, .int, .int, .int, .int]) v0 := by obtain ⟨a, l, c, e⟩ := okWide_slice Try.underlying59 (hval 0 _ v0 rfl rfl); exact Frame.arg_cell (k := 8) (by kernel_rfl) (by have e2 : v0 = .slice a l c := e; rw [e2]; rfl) tr0
        have sl_b : Frame.Okc W (.sl [.int, .int, .int, .int, .int, .int]) v1 := by obtain ⟨a, l, c, e⟩ := okWide_slice Try.underlying59 (hval 1 _ v1 rfl rfl); exact Frame.arg_cell (k := 8) (by kernel_rfl) (by have e2 : v1 = .slice a l c := e; rw [e2]; rfl) tr1
        exact walk v0 v1 W sl_a sl_b)

/-- The statement. -/
theorem proved : Rows.ProbeMarginSaid :=
  OpenClaim.holds_of_wide 11 Try.f11 rfl rfl rfl rfl rfl rfl rfl ⟨rfl, rfl, rfl, rfl, rfl⟩ rfl rfl rfl rfl rfl (by kernel_rfl) Try.func11 (by kernel_rfl)
    (of_decide_eq_true (by kernel_rfl)) (by unfold Func.isWrapper; first | (rw [if_pos (by decide +kernel)]; kernel_rfl) | (rw [if_neg (by decide +kernel)]; exact ⟨rfl, rfl⟩))
    (fun os started H enc _ => lifted os started H enc)
#print axioms proved
end ProbeMargin
end Go.Proofs.Ytlgdcpkjobbnnaa

