/- ProbeFirst: the first clash is not separated, and all seconds before it are. For every input. -/
import Derived.Test.YtlgdcpkjobbnnaaProbeM
namespace Go.Proofs.Ytlgdcpkjobbnnaa
open Go.RowKit Go.ChangeShapes Go.WideShapes
namespace ProbeFirst
open Kit Plane Tube Probe
theorem q2_ist {w : World} {b : Nat} {u v : Value} (h : Q2 w b u v) (hu : IsT w u) (hv : IsT w v) : ∀ k, k < 2 → w.cell? ⟨b, k, none⟩ = some ((fun k => if k = 0 then u else v) k) ∧ IsT w ((fun k => if k = 0 then u else v) k) := by
  intro k hk
  rcases (show k = 0 ∨ k = 1 from by omega) with rfl | rfl
  · exact ⟨h.1, hu⟩
  · exact ⟨h.2, hv⟩
theorem ist_of {w : World} {v : Value} {n : Nat} {T X Y H R B : Nat → Int} (h : TV w v n T X Y H R B) : IsT w v := ⟨n, T, X, Y, H, R, B, h⟩
set_option maxHeartbeats 2000000 in
theorem first_bad (u v : Value) (lat ver E : Int) (w : World) (P : Hid (∀ w1, Below w.heap.size w w1 → Calls Try.prog 32 #[u, v, .agg #[.int .i64 lat, .int .i64 ver]] w1 fun e w' => e = .returned (.tuple #[.slice none 0 0, .int .i64 E]) ∧ Below w1.heap.size w1 w')) (hE : E ≠ 0) :
    Calls Try.prog 35 #[u, v, .agg #[.int .i64 lat, .int .i64 ver]] w fun e w' => e = .returned (.tuple #[.int .i64 0, .int .i64 E]) ∧ Below w.heap.size w w' := by
  obtain ⟨e1, e2⟩ := ge1 hE; clear hE
  obtain ⟨p0, p1⟩ := p2_new w 61 lat ver
  have HW := Lib.hid (b_alloc (Below.refl w.heap.size w) (.cells #[.int .i64 lat, .int .i64 ver] 61))
  clear p0 p1
  go_enter Try.func35, Try.ntmps35
  go_wp2_with fail
  (with_reducible refine (P.out _ HW.out).mono ?_); rintro e w1 ⟨rfl, h⟩
  have hw := b_next HW.out h; clear h
  go_wp2_with fail
  go_ret2
  exact ⟨rfl, hw⟩
set_option maxHeartbeats 2000000 in
theorem first_walk (u v : Value) (lat ver : Int) (M : Nat) (F : Nat → Nat → Int) (w : World) (P : Hid (∀ w1, Below w.heap.size w w1 → Calls Try.prog 32 #[u, v, .agg #[.int .i64 lat, .int .i64 ver]] w1 fun e w' => (∃ q, e = .returned (.tuple #[q, .int .i64 0]) ∧ Own w' w1.heap.size 67 2 q M F) ∧ Below w1.heap.size w1 w')) :
    Calls Try.prog 35 #[u, v, .agg #[.int .i64 lat, .int .i64 ver]] w fun e w' => e = .returned (.tuple #[.int .i64 (if M = 0 then 0 else F 0 0), .int .i64 (if M = 0 then 8 else 0)]) ∧ Below w.heap.size w w' := by
  have HW := Lib.hid (b_alloc (Below.refl w.heap.size w) (.cells #[.int .i64 lat, .int .i64 ver] 61))
  by_cases hM : M = 0
  · rw [if_pos hM, if_pos hM]
    subst hM
    go_enter Try.func35, Try.ntmps35
    go_wp2_with fail
    (with_reducible refine (P.out _ HW.out).mono ?_); rintro e w1 ⟨⟨q, rfl, ho⟩, h⟩
    have hw := b_next HW.out h; clear h
    obtain ⟨A1, c1, rfl, -, -⟩ := own_slice ho
    clear ho
    go_wp2_with fail
    go_ret2
    exact ⟨rfl, hw⟩
  · rw [if_neg hM, if_neg hM]
    go_enter Try.func35, Try.ntmps35
    go_wp2_with fail
    (with_reducible refine (P.out _ HW.out).mono ?_); rintro e w1 ⟨⟨q, rfl, ho⟩, h⟩
    have hw := b_next HW.out h; clear h
    obtain ⟨g1, cc1, rfl, -, -, -, -, hr1⟩ := own_row ho (show 0 < M by omega)
    have r1 := hr1.cell 0 (by omega) 0 (by omega)
    rw [Nat.zero_mul, Nat.add_zero] at r1
    have m1 : ((M : Int) == 0) = false := by simp; omega
    have m2 : (0 : Int) < (M : Int) := by omega
    clear ho hr1 hM
    go_wp2_with fail
    go_ret2
    exact ⟨rfl, hw⟩
/-- The variables that the closure captures. -/
structure Cap (w w1 : World) (u v : Value) (lat ver : Int) : Prop where
  a : w1.cell? ⟨w.heap.size, 0, none⟩ = some u
  b : w1.cell? ⟨w.heap.size + 1, 0, none⟩ = some v
  s : P2 w1 (w.heap.size + 1 + 1) lat ver
  w : Below w.heap.size w w1
theorem cap_keep {w w1 w2 : World} {u v : Value} {lat ver : Int} (hb : Below w1.heap.size w1 w2) (H : Cap w w1 u v lat ver) : Cap w w2 u v lat ver := ⟨keep hb H.a, keep hb H.b, p2_keep hb H.s, b_next H.w hb⟩
theorem cap_new (w : World) (u v : Value) (lat ver : Int) : Cap w (((w.alloc (.cells #[u] 59)).alloc (.cells #[v] 59)).alloc (.cells #[.int .i64 lat, .int .i64 ver] 61)) u v lat ver := by
  refine ⟨?_, ?_, ?_, b_alloc (b_alloc (b_alloc (Below.refl w.heap.size w) _) _) _⟩
  · have h : (w.alloc (.cells #[u] 59)).cell? ⟨w.heap.size, 0, none⟩ = some u := by simp
    exact keepA _ (keepA _ h)
  · have h : ((w.alloc (.cells #[u] 59)).alloc (.cells #[v] 59)).cell? ⟨(w.alloc (.cells #[u] 59)).heap.size, 0, none⟩ = some v := by simp
    rw [World.size_alloc] at h
    exact keepA _ h
  · exact p2_new2 w _ _ 61 lat ver
set_option maxRecDepth 100000 in
set_option maxHeartbeats 4000000 in
theorem apart (u v : Value) (lat ver t : Int) (is : Bool) (f g E : Int) (a0 a1 a2 a3 a4 a5 c0 c1 c2 c3 c4 c5 : Int) (W w : World) (HC : Hid (Cap W w u v lat ver))
    (A1 : Hid (∀ w1, Below W.heap.size W w1 → Calls Try.prog 37 #[u, .int .i64 t] w1 fun e w' => e = .returned (.tuple #[.agg #[.int .i64 a0, .int .i64 a1, .int .i64 a2, .int .i64 a3, .int .i64 a4, .int .i64 a5], .int .i64 f]) ∧ Below w1.heap.size w1 w'))
    (A2 : Hid (∀ w1, Below W.heap.size W w1 → Calls Try.prog 37 #[v, .int .i64 t] w1 fun e w' => e = .returned (.tuple #[.agg #[.int .i64 c0, .int .i64 c1, .int .i64 c2, .int .i64 c3, .int .i64 c4, .int .i64 c5], .int .i64 g]) ∧ Below w1.heap.size w1 w'))
    (SD : Hid (∀ w, Calls Try.prog 38 #[.agg #[.int .i64 a0, .int .i64 a1, .int .i64 a2, .int .i64 a3, .int .i64 a4, .int .i64 a5], .agg #[.int .i64 c0, .int .i64 c1, .int .i64 c2, .int .i64 c3, .int .i64 c4, .int .i64 c5], .agg #[.int .i64 lat, .int .i64 ver]] w fun e w' => e = .returned (.tuple #[.bool is, .int .i64 E]) ∧ Below w.heap.size w w')) (b : Bool) (hb : ((f == 0) = true ∧ (g == 0) = true ∧ (E == 0) = true ∧ b = true) ∨ ((f == 0) = false ∧ b = false) ∨ ((f == 0) = true ∧ (g == 0) = false ∧ b = false)) :
    Calls Try.prog 36 #[.int .i64 t, .pointer (some ⟨W.heap.size, 0, none⟩), .pointer (some ⟨W.heap.size + 1, 0, none⟩), .pointer (some ⟨W.heap.size + 1 + 1, 0, none⟩)] w fun e w' => e = .returned (.tuple #[.bool is, .bool b]) ∧ Below w.heap.size w w' := by
  obtain ⟨k0, k1, ⟨k2, k3⟩, -⟩ := HC.out
  have WB := Lib.hid (Below.refl w.heap.size w)
  go_enter Try.func36, Try.ntmps36
  go_wp2_with fail
  (with_reducible refine (A1.out _ HC.out.w).mono ?_); rintro e w1 ⟨rfl, h⟩
  have C1 := Lib.hid (cap_keep (b_alloc (Below.refl w1.heap.size w1) (.cells #[.int .i64 a0, .int .i64 a1, .int .i64 a2, .int .i64 a3, .int .i64 a4, .int .i64 a5] 71)) (cap_keep h HC.out))
  have Z1 := Lib.hid (d6_new w1 71 a0 a1 a2 a3 a4 a5)
  have W1 := Lib.hid (b_alloc (b_next WB.out h) (.cells #[.int .i64 a0, .int .i64 a1, .int .i64 a2, .int .i64 a3, .int .i64 a4, .int .i64 a5] 71))
  have kk := keep h k1
  have n1 := new_ne kk
  clear k0 k1 k2 k3 h
  go_wp2_with fail
  (with_reducible refine (A2.out _ C1.out.w).mono ?_); rintro e w2 ⟨rfl, h⟩
  have C2 := Lib.hid (cap_keep (b_alloc (Below.refl w2.heap.size w2) (.cells #[.int .i64 c0, .int .i64 c1, .int .i64 c2, .int .i64 c3, .int .i64 c4, .int .i64 c5] 71)) (cap_keep h C1.out))
  have z1 := d6_keep h Z1.out
  have n2 := new_ne z1.1.1
  have n3 := new_ne (p2_keep h C1.out.s).1
  obtain ⟨⟨x0, x1, x2⟩, x3, x4, x5⟩ := d6_keep (b_alloc (Below.refl w2.heap.size w2) (.cells #[.int .i64 c0, .int .i64 c1, .int .i64 c2, .int .i64 c3, .int .i64 c4, .int .i64 c5] 71)) z1
  obtain ⟨⟨y0, y1, y2⟩, y3, y4, y5⟩ := d6_new w2 71 c0 c1 c2 c3 c4 c5
  obtain ⟨s0, s1⟩ := C2.out.s
  have W2 := Lib.hid (b_alloc (b_next W1.out h) (.cells #[.int .i64 c0, .int .i64 c1, .int .i64 c2, .int .i64 c3, .int .i64 c4, .int .i64 c5] 71))
  clear h z1 kk n1
  go_wp2_with fail
  (with_reducible refine (SD.out _).mono ?_); rintro e w3 ⟨rfl, h⟩
  have W3 := Lib.hid (b_next W2.out h)
  clear h x0 x1 x2 x3 x4 x5 y0 y1 y2 y3 y4 y5 s0 s1 n2 n3
  rcases hb with ⟨f1, f2, f3, rfl⟩ | ⟨f1, rfl⟩ | ⟨f1, f2, rfl⟩
  all_goals
    go_wp2_with fail
    go_ret2
    exact ⟨rfl, W3.out⟩
set_option maxRecDepth 100000 in
set_option maxHeartbeats 2000000 in
theorem bad (A A' : Option Addr) (m m' c c' : Nat) (lat ver t E : Int) (w : World) (I1 : Hid (IsT w (.slice A m c))) (I2 : Hid (IsT w (.slice A' m' c')))
    (FI : Hid (∀ w1, Below w.heap.size w w1 → Calls Try.prog 35 #[.slice A m c, .slice A' m' c', .agg #[.int .i64 lat, .int .i64 ver]] w1 fun e w' => e = .returned (.tuple #[.int .i64 0, .int .i64 E]) ∧ Below w1.heap.size w1 w')) (hE : E ≠ 0) (hE8 : E ≠ 8) :
    Calls Try.prog 12 #[.slice A m c, .slice A' m' c', .agg #[.int .i64 lat, .int .i64 ver], .int .i64 t] w fun e w' => e = .returned (.bool true) ∧ Below w.heap.size w w' := by
  obtain ⟨e1, e2⟩ := ge1 hE; clear hE
  have e3 : (E == 8) = false := by simp [hE8]
  have e4 : (E != 8) = true := by simp [hE8]
  clear hE8
  have C0 := Lib.hid (cap_new w (.slice A m c) (.slice A' m' c') lat ver)
  go_enter Try.func12, Try.ntmps12
  go_wp2_with fail
  (with_reducible refine (probeWorks _).mono ?_); rintro e w1 ⟨rfl, h⟩
  have C1 := Lib.hid (cap_keep h C0.out); clear h
  have Q1 := Lib.hid (q2_new w1 59 (.slice A m c) (.slice A' m' c'))
  have C1' := Lib.hid (cap_keep (b_alloc (Below.refl w1.heap.size w1) (.cells #[.slice A m c, .slice A' m' c'] 59)) C1.out)
  obtain ⟨k0, k1, -, -⟩ := C1.out
  go_wp2_with fail
  (with_reducible refine (long_any _ 2 2 _ _ (Nat.le_refl _) (by decide) (Lib.hid (q2_ist Q1.out (isT_keep C1'.out.w I1.out) (isT_keep C1'.out.w I2.out)))).mono ?_); rintro e w2 ⟨⟨r, rfl⟩, h⟩
  have C2 := Lib.hid (cap_keep h C1'.out); clear h k0 k1
  cases r with
  | true =>
    go_wp2_with fail
    go_ret
    exact ⟨retb rfl, C2.out.w⟩
  | false =>
    obtain ⟨k0, k1, ⟨k2, k3⟩, -⟩ := C2.out
    go_wp2_with fail
    (with_reducible refine (FI.out _ C2.out.w).mono ?_); rintro e w3 ⟨rfl, h⟩
    have C3 := Lib.hid (cap_keep h C2.out); clear h k0 k1 k2 k3
    go_wp2_with fail
    go_ret
    exact ⟨retb rfl, C3.out.w⟩
abbrev ApC (u v : Value) (lat ver t : Int) (is b : Bool) (W : World) : Prop := ∀ w1, Cap W w1 u v lat ver → Calls Try.prog 36 #[.int .i64 t, .pointer (some ⟨W.heap.size, 0, none⟩), .pointer (some ⟨W.heap.size + 1, 0, none⟩), .pointer (some ⟨W.heap.size + 1 + 1, 0, none⟩)] w1 fun e w' => e = .returned (.tuple #[.bool is, .bool b]) ∧ Below w1.heap.size w1 w'
set_option maxRecDepth 100000 in
set_option maxHeartbeats 4000000 in
theorem none' (b off n cap : Nat) (A' : Option Addr) (m' c' : Nat) (T X Y H R B : Nat → Int) (lat ver t u : Int) (is kn : Bool) (w : World) (h0 : 0 < n) (HV : Hid (∀ k, k < n → S6 w b (off + k * 6) (T k) (X k) (Y k) (H k) (R k) (B k))) (I1 : Hid (IsT w (.slice (some ⟨b, off, none⟩) n cap))) (I2 : Hid (IsT w (.slice A' m' c')))
    (FI : Hid (∀ w1, Below w.heap.size w w1 → Calls Try.prog 35 #[.slice (some ⟨b, off, none⟩) n cap, .slice A' m' c', .agg #[.int .i64 lat, .int .i64 ver]] w1 fun e w' => e = .returned (.tuple #[.int .i64 0, .int .i64 8]) ∧ Below w1.heap.size w1 w'))
    (b0 : 0 ≤ T 0 ∧ T 0 ≤ 200000) (b1 : -1499 ≤ t.tmod 1500 ∧ t.tmod 1500 ≤ 1499) (hu : T 0 + t.tmod 1500 % 1500 = u) (A1 : Hid (ApC (.slice (some ⟨b, off, none⟩) n cap) (.slice A' m' c') lat ver u is kn w)) (hx : kn = false ∨ (kn = true ∧ is = true)) :
    Calls Try.prog 12 #[.slice (some ⟨b, off, none⟩) n cap, .slice A' m' c', .agg #[.int .i64 lat, .int .i64 ver], .int .i64 t] w fun e w' => e = .returned (.bool true) ∧ Below w.heap.size w w' := by
  have C0 := Lib.hid (cap_new w (.slice (some ⟨b, off, none⟩) n cap) (.slice A' m' c') lat ver)
  go_enter Try.func12, Try.ntmps12
  go_wp2_with fail
  (with_reducible refine (probeWorks _).mono ?_); rintro e w1 ⟨rfl, h⟩
  have C1 := Lib.hid (cap_keep h C0.out); clear h
  have Q1 := Lib.hid (q2_new w1 59 (.slice (some ⟨b, off, none⟩) n cap) (.slice A' m' c'))
  have C1' := Lib.hid (cap_keep (b_alloc (Below.refl w1.heap.size w1) (.cells #[.slice (some ⟨b, off, none⟩) n cap, .slice A' m' c'] 59)) C1.out)
  obtain ⟨k0, k1, -, -⟩ := C1.out
  go_wp2_with fail
  (with_reducible refine (long_any _ 2 2 _ _ (Nat.le_refl _) (by decide) (Lib.hid (q2_ist Q1.out (isT_keep C1'.out.w I1.out) (isT_keep C1'.out.w I2.out)))).mono ?_); rintro e w2 ⟨⟨r, rfl⟩, h⟩
  have C2 := Lib.hid (cap_keep h C1'.out); clear h k0 k1
  cases r with
  | true =>
    go_wp2_with fail
    go_ret
    exact ⟨retb rfl, C2.out.w⟩
  | false =>
    obtain ⟨k0, k1, ⟨k2, k3⟩, -⟩ := C2.out
    go_wp2_with fail
    (with_reducible refine (FI.out _ C2.out.w).mono ?_); rintro e w3 ⟨rfl, h⟩
    have C3 := Lib.hid (cap_keep h C2.out); clear h k0 k1 k2 k3
    have k0 := C3.out.a
    obtain ⟨⟨c0, -⟩, -⟩ := s6_keep C3.out.w (HV.out 0 h0)
    rw [Nat.zero_mul, Nat.add_zero] at c0
    have hn0 : (0 : Int) < (n : Int) := by omega
    have hmf : ∀ (fn : Fn) (first cap : Array Value) (w : World), (Instr.makeFunc fn first cap).run Try.prog w = .ok (.func fn first cap) w := fun _ _ _ _ => rfl
    go_wp2_with fail
    (with_reducible refine (A1.out _ C3.out).mono ?_); rintro e w4 ⟨rfl, h⟩
    have C4 := Lib.hid (cap_keep h C3.out); clear h k0 c0
    rcases hx with rfl | ⟨rfl, rfl⟩
    all_goals
      go_wp2_with fail
      go_ret
      exact ⟨retb rfl, C4.out.w⟩
set_option maxRecDepth 100000 in
set_option maxHeartbeats 4000000 in
theorem some' (b off n cap : Nat) (A' : Option Addr) (m' c' : Nat) (T X Y H R B : Nat → Int) (lat ver t u when : Int) (is kn : Bool) (w : World) (h0 : 0 < n) (HV : Hid (∀ k, k < n → S6 w b (off + k * 6) (T k) (X k) (Y k) (H k) (R k) (B k))) (I1 : Hid (IsT w (.slice (some ⟨b, off, none⟩) n cap))) (I2 : Hid (IsT w (.slice A' m' c')))
    (FI : Hid (∀ w1, Below w.heap.size w w1 → Calls Try.prog 35 #[.slice (some ⟨b, off, none⟩) n cap, .slice A' m' c', .agg #[.int .i64 lat, .int .i64 ver]] w1 fun e w' => e = .returned (.tuple #[.int .i64 when, .int .i64 0]) ∧ Below w1.heap.size w1 w'))
    (b0 : 0 ≤ T 0 ∧ T 0 ≤ 200000) (b1 : -1499 ≤ t.tmod 1500 ∧ t.tmod 1500 ≤ 1499) (hu : T 0 + t.tmod 1500 % 1500 = u) (A1 : Hid (ApC (.slice (some ⟨b, off, none⟩) n cap) (.slice A' m' c') lat ver u is kn w)) (A2 : Hid (ApC (.slice (some ⟨b, off, none⟩) n cap) (.slice A' m' c') lat ver when false true w)) (hx : kn = false ∨ (kn = true ∧ is = true) ∨ (kn = true ∧ is = false ∧ ¬ u < when)) :
    Calls Try.prog 12 #[.slice (some ⟨b, off, none⟩) n cap, .slice A' m' c', .agg #[.int .i64 lat, .int .i64 ver], .int .i64 t] w fun e w' => e = .returned (.bool true) ∧ Below w.heap.size w w' := by
  have C0 := Lib.hid (cap_new w (.slice (some ⟨b, off, none⟩) n cap) (.slice A' m' c') lat ver)
  go_enter Try.func12, Try.ntmps12
  go_wp2_with fail
  (with_reducible refine (probeWorks _).mono ?_); rintro e w1 ⟨rfl, h⟩
  have C1 := Lib.hid (cap_keep h C0.out); clear h
  have Q1 := Lib.hid (q2_new w1 59 (.slice (some ⟨b, off, none⟩) n cap) (.slice A' m' c'))
  have C1' := Lib.hid (cap_keep (b_alloc (Below.refl w1.heap.size w1) (.cells #[.slice (some ⟨b, off, none⟩) n cap, .slice A' m' c'] 59)) C1.out)
  obtain ⟨k0, k1, -, -⟩ := C1.out
  go_wp2_with fail
  (with_reducible refine (long_any _ 2 2 _ _ (Nat.le_refl _) (by decide) (Lib.hid (q2_ist Q1.out (isT_keep C1'.out.w I1.out) (isT_keep C1'.out.w I2.out)))).mono ?_); rintro e w2 ⟨⟨r, rfl⟩, h⟩
  have C2 := Lib.hid (cap_keep h C1'.out); clear h k0 k1
  cases r with
  | true =>
    go_wp2_with fail
    go_ret
    exact ⟨retb rfl, C2.out.w⟩
  | false =>
    obtain ⟨k0, k1, ⟨k2, k3⟩, -⟩ := C2.out
    go_wp2_with fail
    (with_reducible refine (FI.out _ C2.out.w).mono ?_); rintro e w3 ⟨rfl, h⟩
    have C3 := Lib.hid (cap_keep h C2.out); clear h k0 k1 k2 k3
    have k0 := C3.out.a
    obtain ⟨⟨c0, -⟩, -⟩ := s6_keep C3.out.w (HV.out 0 h0)
    rw [Nat.zero_mul, Nat.add_zero] at c0
    have hn0 : (0 : Int) < (n : Int) := by omega
    have hmf : ∀ (fn : Fn) (first cap : Array Value) (w : World), (Instr.makeFunc fn first cap).run Try.prog w = .ok (.func fn first cap) w := fun _ _ _ _ => rfl
    go_wp2_with fail
    (with_reducible refine (A1.out _ C3.out).mono ?_); rintro e w4 ⟨rfl, h⟩
    have C4 := Lib.hid (cap_keep h C3.out); clear h k0 c0
    rcases hx with rfl | ⟨rfl, rfl⟩ | ⟨rfl, rfl, hn⟩
    all_goals
      go_wp2_with fail
      (with_reducible refine (A2.out _ C4.out).mono ?_); rintro e w5 ⟨rfl, h⟩
      have C5 := Lib.hid (cap_keep h C4.out); clear h
      go_wp2_with fail
      go_ret
      exact ⟨retb rfl, C5.out.w⟩
theorem nodeE_ok {t x y h r d : Int} (hb : NB x y h r d) (ht : 0 ≤ t ∧ t ≤ 200000) : nodeE t x y h r d = 0 :=
  (tck_zero 1).2 ⟨by omega, by omega, fun _ _ => ht, fun _ _ => by show good x y; unfold good; exact hb.1, fun _ _ => hb.2, fun k h => by omega⟩
theorem sepd_any (t x y h r d t' x' y' h' r' d' lat ver : Int) : ∃ (is : Bool) (E : Int), ∀ w, Calls Try.prog 38 #[.agg #[.int .i64 t, .int .i64 x, .int .i64 y, .int .i64 h, .int .i64 r, .int .i64 d], .agg #[.int .i64 t', .int .i64 x', .int .i64 y', .int .i64 h', .int .i64 r', .int .i64 d'], .agg #[.int .i64 lat, .int .i64 ver]] w fun e w' => e = .returned (.tuple #[.bool is, .int .i64 E]) ∧ Below w.heap.size w w' := by
  have S := fun w => sepd_walk t x y h r d t' x' y' h' r' d' lat ver _ w rfl
  generalize twoE lat ver (nodeE t x y h r d) (nodeE t' x' y' h' r' d') = E at S
  by_cases h0 : E = 0
  · by_cases ht : t = t'
    · refine ⟨sepB x y h r d x' y' h' r' d' lat ver, 0, fun w => (S w).mono fun e w' ⟨hh, hb⟩ => ⟨?_, hb⟩⟩
      rcases hh with ⟨h, -⟩ | ⟨-, h, -⟩ | ⟨-, -, he⟩
      · exact absurd h0 h
      · exact absurd ht h
      · exact he
    · refine ⟨false, 12, fun w => (S w).mono fun e w' ⟨hh, hb⟩ => ⟨?_, hb⟩⟩
      rcases hh with ⟨h, -⟩ | ⟨-, -, he⟩ | ⟨-, h, -⟩
      · exact absurd h0 h
      · exact he
      · exact absurd h ht
  · refine ⟨false, E, fun w => (S w).mono fun e w' ⟨hh, hb⟩ => ⟨?_, hb⟩⟩
    rcases hh with ⟨-, he⟩ | ⟨h, -⟩ | ⟨h, -⟩
    · exact he
    · exact absurd h h0
    · exact absurd h h0
section
variable {u v : Value} {n n' : Nat} {T X Y H R B T' X' Y' H' R' B' : Nat → Int} {W : World} {lat ver : Int}
/-- Whether a time is in a tube. -/
theorem at_any (hu : TV W u n T X Y H R B) (hp : tok T X Y H R B n) (t : Int) : (T 0 ≤ t ∧ t ≤ T (n - 1)) ∨ (¬ (T 0 ≤ t ∧ t ≤ T (n - 1)) ∧ ∀ w1, Below W.heap.size W w1 → Calls Try.prog 37 #[u, .int .i64 t] w1 fun e w' => e = .returned (.tuple #[.agg #[.int .i64 0, .int .i64 0, .int .i64 0, .int .i64 0, .int .i64 0, .int .i64 0], .int .i64 12]) ∧ Below w1.heap.size w1 w') := by
  by_cases h : T 0 ≤ t ∧ t ≤ T (n - 1)
  · exact Or.inl h
  · refine Or.inr ⟨h, fun w1 hb => ?_⟩
    have e : tatE T X Y H R B n t = 12 := by unfold tatE; rw [(tck_zero n).2 hp, if_neg (by omega), if_pos (by omega)]
    have c := tAt_bad (tv_keep hb hu) (t := t) (by rw [e]; decide)
    rw [e] at c
    exact c
theorem apart_in (hu : TV W u n T X Y H R B) (hv : TV W v n' T' X' Y' H' R' B') (hp : tok T X Y H R B n) (hp' : tok T' X' Y' H' R' B' n') (hs : sepE lat ver = 0) {t : Int} (h0 : T 0 ≤ t) (h1 : t ≤ T (n - 1)) (h0' : T' 0 ≤ t) (h1' : t ≤ T' (n' - 1)) : ApC u v lat ver t (!cfT T X Y H R B n T' X' Y' H' R' B' n' lat ver t) true W := fun w1 hc => by
  have b1 := nd_bds hp (Int.le_refl (T 0)) (Int.le_refl (T (n - 1))) t h0 h1
  have b2 := nd_bds hp' (Int.le_refl (T' 0)) (Int.le_refl (T' (n' - 1))) t h0' h1'
  have t0 := hp.time 0 hp.pos
  have tn := hp.time (n - 1) (by have := hp.pos; omega)
  have S := fun w => sepd_walk t (tx T X (segI T n t) t) (tx T Y (segI T n t) t) (th T H (segI T n t) t) (tu T R (segI T n t) t) (tu T B (segI T n t) t) t (tx T' X' (segI T' n' t) t) (tx T' Y' (segI T' n' t) t) (th T' H' (segI T' n' t) t) (tu T' R' (segI T' n' t) t) (tu T' B' (segI T' n' t) t) lat ver 0 w (by unfold twoE; rw [nodeE_ok b1 (by omega), nodeE_ok b2 (by omega), if_neg (fun h => h hs), if_neg (fun h => h rfl)])
  refine apart u v lat ver t _ 0 0 0 _ _ _ _ _ _ _ _ _ _ _ _ W w1 (Lib.hid hc) (Lib.hid fun w2 hb => at_of hu hp (Int.le_refl _) (Int.le_refl _) w2 hb t h0 h1) (Lib.hid fun w2 hb => at_of hv hp' (Int.le_refl _) (Int.le_refl _) w2 hb t h0' h1') (Lib.hid fun w => (S w).mono fun e w' hh => ?_) true (Or.inl ⟨rfl, rfl, rfl, rfl⟩)
  obtain ⟨hh, hb⟩ := hh
  refine ⟨?_, hb⟩
  rcases hh with ⟨h, -⟩ | ⟨-, h, -⟩ | ⟨-, -, he⟩
  · exact absurd rfl h
  · exact absurd rfl h
  · rw [he]; unfold cfT; rw [Bool.not_not]
theorem apart_any (hu : TV W u n T X Y H R B) (hv : TV W v n' T' X' Y' H' R' B') (hp : tok T X Y H R B n) (hp' : tok T' X' Y' H' R' B' n') (hs : sepE lat ver = 0) (t : Int) : ∃ is b, ApC u v lat ver t is b W ∧ (b = false ∨ (b = true ∧ T 0 ≤ t ∧ t ≤ T (n - 1) ∧ T' 0 ≤ t ∧ t ≤ T' (n' - 1) ∧ is = !cfT T X Y H R B n T' X' Y' H' R' B' n' lat ver t)) := by
  rcases at_any hu hp t with h | ⟨h, A1⟩
  · rcases at_any hv hp' t with h' | ⟨h', A2⟩
    · exact ⟨_, true, apart_in hu hv hp hp' hs h.1 h.2 h'.1 h'.2, Or.inr ⟨rfl, h.1, h.2, h'.1, h'.2, rfl⟩⟩
    · have N1 := fun w2 hb => at_of hu hp (Int.le_refl _) (Int.le_refl _) w2 hb t h.1 h.2
      obtain ⟨is, E, S⟩ := sepd_any t (tx T X (segI T n t) t) (tx T Y (segI T n t) t) (th T H (segI T n t) t) (tu T R (segI T n t) t) (tu T B (segI T n t) t) 0 0 0 0 0 0 lat ver
      exact ⟨is, false, fun w1 hc => apart u v lat ver t is 0 12 E _ _ _ _ _ _ _ _ _ _ _ _ W w1 (Lib.hid hc) (Lib.hid N1) (Lib.hid A2) (Lib.hid S) false (Or.inr (Or.inr ⟨rfl, by decide, rfl⟩)), Or.inl rfl⟩
  · have A2 : ∃ g c0 c1 c2 c3 c4 c5, ∀ w1, Below W.heap.size W w1 → Calls Try.prog 37 #[v, .int .i64 t] w1 fun e w' => e = .returned (.tuple #[.agg #[.int .i64 c0, .int .i64 c1, .int .i64 c2, .int .i64 c3, .int .i64 c4, .int .i64 c5], .int .i64 g]) ∧ Below w1.heap.size w1 w' := by
      rcases at_any hv hp' t with h' | ⟨h', A2⟩
      · exact ⟨_, _, _, _, _, _, _, fun w2 hb => at_of hv hp' (Int.le_refl _) (Int.le_refl _) w2 hb t h'.1 h'.2⟩
      · exact ⟨_, _, _, _, _, _, _, A2⟩
    obtain ⟨g, c0, c1, c2, c3, c4, c5, A2⟩ := A2
    obtain ⟨is, E, S⟩ := sepd_any 0 0 0 0 0 0 c0 c1 c2 c3 c4 c5 lat ver
    exact ⟨is, false, fun w1 hc => apart u v lat ver t is 12 g E _ _ _ _ _ _ _ _ _ _ _ _ W w1 (Lib.hid hc) (Lib.hid A1) (Lib.hid A2) (Lib.hid S) false (Or.inr (Or.inl ⟨by decide, rfl⟩)), Or.inl rfl⟩
end
theorem tck8 (T X Y H R B : Nat → Int) (n : Nat) : tck T X Y H R B n ≠ 8 := by
  have h1 : ∀ i, terr T X Y H R B i ≠ 8 := fun i => by
    unfold terr
    split
    · decide
    · split
      · decide
      · split <;> decide
  have h2 : ∀ k, tchk T X Y H R B k ≠ 8 := by
    intro k
    induction k with
    | zero => show (0 : Int) ≠ 8; decide
    | succ k ih =>
      show (if tchk T X Y H R B k ≠ 0 then tchk T X Y H R B k else terr T X Y H R B k) ≠ 8
      split
      · exact ih
      · exact h1 k
  unfold tck
  split
  · decide
  · split
    · decide
    · exact h2 n
theorem twoE8 {lat ver E E' : Int} (h : E ≠ 8) (h' : E' ≠ 8) : twoE lat ver E E' ≠ 8 := by
  have h0 : sepE lat ver ≠ 8 := by unfold sepE; split <;> decide
  unfold twoE
  by_cases h1 : sepE lat ver ≠ 0
  · rw [if_pos h1]; exact h0
  · rw [if_neg h1]
    by_cases h2 : E ≠ 0
    · rw [if_pos h2]; exact h
    · rw [if_neg h2]; exact h'
theorem tm1500 (x : Int) : -1499 ≤ x.tmod 1500 ∧ x.tmod 1500 ≤ 1499 := by
  have := (Num.tdiv_facts x 1500 (by omega)).2.2.2.1 (by omega); omega
theorem walk (a : Value) (b : Value) (s_lat : Int) (s_vert : Int) (t : Int) (W : World) (h_a : Frame.Okc W (.sl [.int, .int, .int, .int, .int, .int]) a) (h_b : Frame.Okc W (.sl [.int, .int, .int, .int, .int, .int]) b) (_h_s_lat : -9223372036854775808 ≤ s_lat ∧ s_lat ≤ 9223372036854775807) (_h_s_vert : -9223372036854775808 ≤ s_vert ∧ s_vert ≤ 9223372036854775807) (_h_t : -9223372036854775808 ≤ t ∧ t ≤ 9223372036854775807) :
    Calls Try.prog 12 #[a, b, .agg #[.int .i64 s_lat, .int .i64 s_vert], .int .i64 t] W fun e w' => e = .returned (.bool true) ∧ Below W.heap.size W w' := by
  obtain ⟨n, T, X, Y, H, R, B, hu⟩ := tv_of h_a
  obtain ⟨n', T', X', Y', H', R', B', hv⟩ := tv_of h_b
  have J1 := ist_of hu
  have J2 := ist_of hv
  by_cases hE : twoE s_lat s_vert (tck T X Y H R B n) (tck T' X' Y' H' R' B' n') = 0
  · obtain ⟨z0, z1, z2⟩ := twoE_zero hE
    have hp := (tck_zero n).1 z1
    have hp' := (tck_zero n').1 z2
    obtain ⟨K, hK⟩ : ∃ K, (min (T (n - 1)) (T' (n' - 1)) + 1 - max (T 0) (T' 0)).toNat = K := ⟨_, rfl⟩
    have FI := fun (w1 : World) (hb : Below W.heap.size W w1) => first_walk a b s_lat s_vert _ _ w1 (Lib.hid fun w2 hb2 => pairC_ok (tv_keep (b_next hb hb2) hu) (tv_keep (b_next hb hb2) hv) hp hp' z0)
    rw [hK] at FI
    have ok := spanN_ok (cfT T X Y H R B n T' X' Y' H' R' B' n' s_lat s_vert) (max (T 0) (T' 0)) K
    generalize (spanN (cfT T X Y H R B n T' X' Y' H' R' B' n' s_lat s_vert) (max (T 0) (T' 0)) K).1 = M at *
    generalize (spanN (cfT T X Y H R B n T' X' Y' H' R' B' n' s_lat s_vert) (max (T 0) (T' 0)) K).2 = F at *
    have m1 := tm1500 t
    have t0 := hp.time 0 hp.pos
    obtain ⟨u, hut⟩ : ∃ u, T 0 + t.tmod 1500 % 1500 = u := ⟨_, rfl⟩
    obtain ⟨is, kn, A1, ha⟩ := apart_any hu hv hp hp' z0 u
    have hu' := hu
    have hv' := hv
    rcases hu with ⟨h0, -⟩ | ⟨h0, bk, off, cap, rfl, h1, h2, h3⟩
    · have := hp.pos; omega
    · obtain ⟨A', c', rfl, -, -⟩ := tv_slice hv
      by_cases hM : M = 0
      · rw [if_pos hM, if_pos hM] at FI
        refine none' bk off n cap A' n' c' T X Y H R B s_lat s_vert t u is kn W h0 (Lib.hid h3) (Lib.hid J1) (Lib.hid J2) (Lib.hid FI) t0 m1 hut (Lib.hid A1) ?_
        rcases ha with ha | ⟨ha, g1, g2, g3, g4, g5⟩
        · exact Or.inl ha
        · refine Or.inr ⟨ha, ?_⟩
          rw [g5]
          cases hc : cfT T X Y H R B n T' X' Y' H' R' B' n' s_lat s_vert u with
          | false => rfl
          | true =>
            obtain ⟨i, hi, -⟩ := ok.all u (by omega) (by omega) hc
            omega
      · rw [if_neg hM, if_neg hM] at FI
        have l0 := ok.le 0 (by omega)
        have c0 := ok.hit 0 (by omega) (F 0 0) (Int.le_refl _) l0.2.1
        have A2 := apart_in hu' hv' hp hp' z0 (t := F 0 0) (by omega) (by omega) (by omega) (by omega)
        rw [c0] at A2
        refine some' bk off n cap A' n' c' T X Y H R B s_lat s_vert t u (F 0 0) is kn W h0 (Lib.hid h3) (Lib.hid J1) (Lib.hid J2) (Lib.hid FI) t0 m1 hut (Lib.hid A1) (Lib.hid A2) ?_
        rcases ha with ha | ⟨ha, g1, g2, g3, g4, g5⟩
        · exact Or.inl ha
        · cases hc : cfT T X Y H R B n T' X' Y' H' R' B' n' s_lat s_vert u with
          | false => exact Or.inr (Or.inl ⟨ha, by rw [g5, hc]; rfl⟩)
          | true =>
            refine Or.inr (Or.inr ⟨ha, by rw [g5, hc]; rfl, fun hlt => ?_⟩)
            obtain ⟨i, hi, i1, i2⟩ := ok.all u (by omega) (by omega) hc
            have mono : ∀ j, j < M → F 0 0 ≤ F j 0 := by
              intro j
              induction j with
              | zero => intro _; exact Int.le_refl _
              | succ j ih =>
                intro hj
                have := ih (by omega); have := ok.gap j hj; have := ok.le j (by omega); omega
            have := mono i hi
            omega
  · have FI := fun (w1 : World) (hb : Below W.heap.size W w1) => first_bad a b s_lat s_vert _ w1 (Lib.hid fun w2 hb2 => pairC_bad (tv_keep (b_next hb hb2) hu) (tv_keep (b_next hb hb2) hv) hE) hE
    obtain ⟨A, c, rfl, -, -⟩ := tv_slice hu
    obtain ⟨A', c', rfl, -, -⟩ := tv_slice hv
    exact bad A A' n n' c c' s_lat s_vert t _ W (Lib.hid J1) (Lib.hid J2) (Lib.hid FI) hE (twoE8 (tck8 _ _ _ _ _ _ _) (tck8 _ _ _ _ _ _ _))
-- FRAME --

set_option maxRecDepth 100000 in
theorem lifted (os : Os) (started : os.Started) (H : Type) (enc : TypeId × Value → H) :
    ReturnsInHanded {} Try.checked os 12 .any (Rows.probeFirstSpec.pre6 enc Try.prog Try.f12 Rows.probeFirstRow.domain false) (Rows.probeFirstSpec.post enc Try.prog Try.f12 false true false false) :=
  Frame.lifted (C := Try.checked) 12 Try.f12 Try.own started (by kernel_rfl) Try.func12 Try.laidOut rfl (by kernel_rfl) 4 rfl Try.underlying4
      (fun ds h => by match ds, h with | [_, _, _, _], _ => rfl)
      (ChangeSpec.witness6 (enc := enc) (C := Try.checked) false ⟨#[], #[.slice none 0 0, .slice none 0 0, .agg #[.int .i64 0, .int .i64 0], .int .i64 0], []⟩ 8 (by kernel_rfl) (by kernel_rfl) (by kernel_rfl) (by kernel_rfl))
      (fun W base args ds ps hval0 hA _ => by
        have hval : ∀ (j : Nat) t v, Try.f12.params[j]? = some t → args[j]? = some v → Value.okWide Try.prog W .any base t v := hval0
        have hA' : DataW.TrodAll enc Try.prog W 0 (fun _ => true) true Try.f12.params.toList args.toList ds ps := hA
        clear hval0 hA
        have hA := hA'
        clear hA'
        rw [Try.params12] at hA hval
        obtain ⟨v0, vs0, d0, ds0, p0, q0, ea, rfl, rfl, tr0, rest0⟩ := trodAll_cons hA
        obtain ⟨v1, vs1, d1, ds1, p1, q1, rfl, rfl, rfl, tr1, rest1⟩ := trodAll_cons rest0
        obtain ⟨v2, vs2, d2, ds2, p2, q2, rfl, rfl, rfl, tr2, rest2⟩ := trodAll_cons rest1
        obtain ⟨v3, vs3, d3, ds3, p3, q3, rfl, rfl, rfl, tr3, rest3⟩ := trodAll_cons rest2
        obtain ⟨rfl, rfl, rfl⟩ := trodAll_nil rest3
        obtain rfl : args = #[v0, v1, v2, v3] := by cases args; simp_all
        clear ea
        have sl_a : Frame.Okc W (.sl [.int, .int, .int, .int, .int, .int]) v0 := by obtain ⟨a, l, c, e⟩ := okWide_slice Try.underlying59 (hval 0 _ v0 rfl rfl); exact Frame.arg_cell (k := 8) (by kernel_rfl) (by have e2 : v0 = .slice a l c := e; rw [e2]; rfl) tr0
        have sl_b : Frame.Okc W (.sl [.int, .int, .int, .int, .int, .int]) v1 := by obtain ⟨a, l, c, e⟩ := okWide_slice Try.underlying59 (hval 1 _ v1 rfl rfl); exact Frame.arg_cell (k := 8) (by kernel_rfl) (by have e2 : v1 = .slice a l c := e; rw [e2]; rfl) tr1
        obtain ⟨cs_s, e_s, hl_s, hc_s⟩ := Frame.arg_agg Try.underlying61 (k := 8) (ks := [.int, .int]) (by kernel_rfl) (hval 2 _ v2 rfl rfl) tr2
        subst e_s
        obtain ⟨c_s_lat, c_s_vert, rfl⟩ : ∃ c_s_lat c_s_vert, cs_s = [c_s_lat, c_s_vert] := by match cs_s, hl_s with | [x0, x1], _ => exact ⟨x0, x1, rfl⟩
        have o_s_lat : Frame.Okc W (.int) c_s_lat := hc_s 0 (by decide) (by simp)
        obtain ⟨s_lat, e_s_lat, w_s_lat⟩ := o_s_lat.int_inv; subst e_s_lat
        have o_s_vert : Frame.Okc W (.int) c_s_vert := hc_s 1 (by decide) (by simp)
        obtain ⟨s_vert, e_s_vert, w_s_vert⟩ := o_s_vert.int_inv; subst e_s_vert
        obtain ⟨t, rfl, w_t⟩ := Frame.arg_int Try.underlying3 (hval 3 _ v3 rfl rfl)
        exact walk v0 v1 s_lat s_vert t W sl_a sl_b w_s_lat w_s_vert (Frame.bd w_t))

/-- The statement. -/
theorem proved : Rows.ProbeFirstSaid :=
  OpenClaim.holds_of_wide 12 Try.f12 rfl rfl rfl rfl rfl rfl rfl ⟨rfl, rfl, rfl, rfl, rfl⟩ rfl rfl rfl rfl rfl (by kernel_rfl) Try.func12 (by kernel_rfl)
    (of_decide_eq_true (by kernel_rfl)) (by unfold Func.isWrapper; first | (rw [if_pos (by decide +kernel)]; kernel_rfl) | (rw [if_neg (by decide +kernel)]; exact ⟨rfl, rfl⟩))
    (fun os started H enc _ => lifted os started H enc)
#print axioms proved
end ProbeFirst
end Go.Proofs.Ytlgdcpkjobbnnaa

