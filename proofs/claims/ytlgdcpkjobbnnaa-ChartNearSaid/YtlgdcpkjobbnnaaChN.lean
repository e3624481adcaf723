/- chart.Near and chart.Find: what they return. -/
import Derived.Test.YtlgdcpkjobbnnaaChL
namespace Go.Proofs.Ytlgdcpkjobbnnaa
open Go.RowKit
namespace Chart
open Kit Plane Poly
theorem bl_irr : ∀ x : List UInt8, Op.bytesLess x x = false
  | [] => rfl
  | a :: x => by
    show (decide (a < a) || (a == a && Op.bytesLess x x)) = false
    rw [bl_irr x]; simp
theorem bl_trans : ∀ {x y z : List UInt8}, Op.bytesLess x y = true → Op.bytesLess y z = true → Op.bytesLess x z = true
  | _, [], z, h, _ => by unfold Op.bytesLess at h; cases h
  | _, b :: y, [], _, h => by unfold Op.bytesLess at h; cases h
  | [], b :: y, c :: z, _, _ => rfl
  | a :: x, b :: y, c :: z, h1, h2 => by
    have h1 : (decide (a < b) || (a == b && Op.bytesLess x y)) = true := h1
    have h2 : (decide (b < c) || (b == c && Op.bytesLess y z)) = true := h2
    show (decide (a < c) || (a == c && Op.bytesLess x z)) = true
    rw [Bool.or_eq_true, Bool.and_eq_true, decide_eq_true_eq, beq_iff_eq] at h1 h2 ⊢
    rcases h1 with h3 | ⟨h3, h4⟩
    · rcases h2 with h5 | ⟨h5, h6⟩
      · exact Or.inl (UInt8.lt_trans h3 h5)
      · exact Or.inl (h5 ▸ h3)
    · rcases h2 with h5 | ⟨h5, h6⟩
      · exact Or.inl (h3 ▸ h5)
      · exact Or.inr ⟨h3.trans h5, bl_trans h4 h6⟩
/-- Fix i is nearer than fix j, or as near and ahead of it by name. -/
def clo (d : Nat → Int) (N : Nat → ByteArray) (i j : Nat) : Bool := decide (d i < d j) || (decide (d i = d j) && Op.bytesLess (N i).toList (N j).toList)
theorem clo_irr {d : Nat → Int} {N : Nat → ByteArray} (i : Nat) : clo d N i i = false := by
  unfold clo
  rw [bl_irr, decide_eq_false (by omega), Bool.and_false]; rfl
theorem clo_trans {d : Nat → Int} {N : Nat → ByteArray} {i j k : Nat} (h1 : clo d N i j = true) (h2 : clo d N j k = true) : clo d N i k = true := by
  unfold clo at *
  rw [Bool.or_eq_true, Bool.and_eq_true, decide_eq_true_eq, decide_eq_true_eq] at *
  rcases h1 with h1 | ⟨h1, h3⟩ <;> rcases h2 with h2 | ⟨h2, h4⟩
  · exact Or.inl (by omega)
  · exact Or.inl (by omega)
  · exact Or.inl (by omega)
  · exact Or.inr ⟨by omega, bl_trans h3 h4⟩
/-- The best of the first k fixes. -/
def bst (d : Nat → Int) (N : Nat → ByteArray) : Nat → Nat
  | 0 => 0
  | k + 1 => if clo d N k (bst d N k) = true then k else bst d N k
theorem bst_lt {d : Nat → Int} {N : Nat → ByteArray} {n : Nat} (h0 : 0 < n) : ∀ k, k ≤ n → bst d N k < n
  | 0, _ => h0
  | k + 1, hk => by
    have := bst_lt (d := d) (N := N) h0 k (by omega)
    show (if clo d N k (bst d N k) = true then k else bst d N k) < n
    split <;> omega
theorem bst_best {d : Nat → Int} {N : Nat → ByteArray} : ∀ k j, j < k → clo d N j (bst d N k) = false
  | 0, j, hj => by omega
  | k + 1, j, hj => by
    show clo d N j (if clo d N k (bst d N k) = true then k else bst d N k) = false
    by_cases hc : clo d N k (bst d N k) = true
    · rw [if_pos hc]
      rcases Nat.lt_or_ge j k with hl | hl
      · cases h : clo d N j k with
        | false => rfl
        | true => have := clo_trans h hc; rw [bst_best k j hl] at this; cases this
      · rw [show j = k from by omega]; exact clo_irr k
    · rw [if_neg hc]
      rcases Nat.lt_or_ge j k with hl | hl
      · exact bst_best k j hl
      · rw [show j = k from by omega]; simpa using hc
theorem s3_set {w : World} {b : Nat} {s : ByteArray} {x y : Int} (h : S3 w b s x y) (s' : ByteArray) (x' y' : Int) : S3 (((w.setCell ⟨b, 0, none⟩ (.string s')).setCell ⟨b, 1, none⟩ (.int .i64 x')).setCell ⟨b, 2, none⟩ (.int .i64 y')) b s' x' y' := by
  have n01 : (⟨b, 0, none⟩ : Addr) ≠ ⟨b, 1, none⟩ := fun h => by injection h with _ h; omega
  have n02 : (⟨b, 0, none⟩ : Addr) ≠ ⟨b, 2, none⟩ := fun h => by injection h with _ h; omega
  have n12 : (⟨b, 1, none⟩ : Addr) ≠ ⟨b, 2, none⟩ := fun h => by injection h with _ h; omega
  exact ⟨cfar _ n02.symm (cfar _ n01.symm (cset _ h.c0)), cfar _ n12.symm (cset _ (cfar _ n01 h.c1)), cset _ (cfar _ n12 (cfar _ n02 h.c2))⟩
theorem fz3 (w : World) (a b c : Addr) (u v x : Value) (p : Addr) : (((w.setCell a u).setCell b v).setCell c x).frozen? p = w.frozen? p := by
  rw [World.frozen?_setCell, World.frozen?_setCell, World.frozen?_setCell]
abbrev NrC (fx aw : Value) (qx qy : Int) (s : ByteArray) (E : Int) (w : World) : Prop := Calls Try.prog 27 #[.agg #[fx, aw], .agg #[.int .i64 qx, .int .i64 qy]] w fun e w' => e = .returned (.tuple #[.string s, .int .i64 E]) ∧ Below w.heap.size w w'
theorem p2_after (w : World) (o : Obj) (t : TypeId) (x y : Int) : P2 ((w.alloc o).alloc (.cells #[.int .i64 x, .int .i64 y] t)) (w.heap.size + 1) x y := by
  have h := p2_new (w.alloc o) t x y
  rw [World.size_alloc] at h; exact h
set_option maxHeartbeats 1000000 in
theorem near_bad (fx aw : Value) (qx qy E : Int) (w : World) (C : Hid (CcC (.agg #[fx, aw]) E w)) (_hE1 : (E == 0) = false) (hE2 : (E != 0) = true) : NrC fx aw qx qy ⟨#[]⟩ E w := by
  have W0 := Lib.hid (b_alloc (b_alloc (Below.refl w.heap.size w) (.cells #[fx, aw] 43)) (.cells #[.int .i64 qx, .int .i64 qy] 23))
  go_enter Try.func27, Try.ntmps27
  go_wp2_with fail
  (with_reducible refine (C.out _ W0.out).mono ?_); rintro e w1 ⟨rfl, hb⟩
  have W1 := Lib.hid (b_next W0.out hb); clear hb
  go_wp2_with fail
  all_goals (go_ret2; exact ⟨rfl, W1.out⟩)
set_option maxHeartbeats 1000000 in
theorem near_far (fx aw : Value) (qx qy : Int) (w : World) (C : Hid (CcC (.agg #[fx, aw]) 0 w)) (G : Hid (Chk qx qy 4)) : NrC fx aw qx qy ⟨#[]⟩ 4 w := by
  have W0 := Lib.hid (b_alloc (b_alloc (Below.refl w.heap.size w) (.cells #[fx, aw] 43)) (.cells #[.int .i64 qx, .int .i64 qy] 23))
  have Q0 := Lib.hid (p2_after w (.cells #[fx, aw] 43) 23 qx qy)
  go_enter Try.func27, Try.ntmps27
  go_wp2_with fail
  (with_reducible refine (C.out _ W0.out).mono ?_); rintro e w1 ⟨rfl, hb⟩
  have W1 := Lib.hid (b_next W0.out hb); obtain ⟨a0, a1⟩ := p2_keep hb Q0.out; clear hb
  go_wp2_with fail
  (with_reducible refine (G.out _).mono ?_); rintro e w2 ⟨rfl, hb⟩
  have W2 := Lib.hid (b_next W1.out hb); clear hb
  go_wp2_with fail
  all_goals (go_ret2; exact ⟨rfl, W2.out⟩)
set_option maxHeartbeats 1000000 in
theorem near_none (A : Option Addr) (c : Nat) (aw : Value) (qx qy : Int) (w : World) (C : Hid (CcC (.agg #[.slice A 0 c, aw]) 0 w)) (G : Hid (Chk qx qy 0)) : NrC (.slice A 0 c) aw qx qy ⟨#[]⟩ 8 w := by
  have W0 := Lib.hid (b_alloc (b_alloc (Below.refl w.heap.size w) (.cells #[.slice A 0 c, aw] 43)) (.cells #[.int .i64 qx, .int .i64 qy] 23))
  have Q0 := Lib.hid (p2_after w (.cells #[.slice A 0 c, aw] 43) 23 qx qy)
  have B0 := Lib.hid (p2v_keep (b_alloc (Below.refl _ _) (.cells #[.int .i64 qx, .int .i64 qy] 23)) (p2v_new w 43 (.slice A 0 c) aw))
  go_enter Try.func27, Try.ntmps27
  go_wp2_with fail
  (with_reducible refine (C.out _ W0.out).mono ?_); rintro e w1 ⟨rfl, hb⟩
  have W1 := Lib.hid (b_next W0.out hb); obtain ⟨a0, a1⟩ := p2_keep hb Q0.out; have B1 := Lib.hid (p2v_keep hb B0.out); clear hb
  go_wp2_with fail
  (with_reducible refine (G.out _).mono ?_); rintro e w2 ⟨rfl, hb⟩
  have W2 := Lib.hid (b_next W1.out hb); obtain ⟨x0, x1⟩ := p2v_keep hb B1.out; clear hb a0 a1
  go_wp2_with fail
  all_goals (go_ret2; exact ⟨rfl, W2.out⟩)
set_option maxRecDepth 100000 in
set_option maxHeartbeats 8000000 in
theorem near_w (b off n c : Nat) (aw : Value) (N : Nat → ByteArray) (X Y : Nat → Int) (qx qy : Int) (w : World) (h0 : 0 < n) (hn : n ≤ 64) (hc : n ≤ c) (hm : c ≤ 9223372036854775807) (C : Hid (CcC (.agg #[.slice (some ⟨b, off, none⟩) n c, aw]) 0 w)) (G : Hid (Chk qx qy 0)) (HF : Hid (∀ k, k < n → E3 w b off k (N k) (X k) (Y k))) (SQ : Hid (∀ k, k < n → ∀ w1, Calls Try.prog 29 #[.agg #[.int .i64 qx, .int .i64 qy], .agg #[.int .i64 (X k), .int .i64 (Y k)]] w1 fun e w' => e = .returned (.int .i64 (sqr qx qy (X k) (Y k))) ∧ Below w1.heap.size w1 w')) :
    NrC (.slice (some ⟨b, off, none⟩) n c) aw qx qy (N (bst (fun k => sqr qx qy (X k) (Y k)) N n)) 0 w := by
  have W0 := Lib.hid (b_alloc (b_alloc (Below.refl w.heap.size w) (.cells #[.slice (some ⟨b, off, none⟩) n c, aw] 43)) (.cells #[.int .i64 qx, .int .i64 qy] 23))
  have Q0 := Lib.hid (p2_after w (.cells #[.slice (some ⟨b, off, none⟩) n c, aw] 43) 23 qx qy)
  have B0 := Lib.hid (p2v_keep (b_alloc (Below.refl _ _) (.cells #[.int .i64 qx, .int .i64 qy] 23)) (p2v_new w 43 (.slice (some ⟨b, off, none⟩) n c) aw))
  obtain ⟨d, hd⟩ : ∃ d : Nat → Int, d = fun k => sqr qx qy (X k) (Y k) := ⟨_, rfl⟩
  rw [← hd]
  have HD : Hid (∀ k, sqr qx qy (X k) (Y k) = d k) := Lib.hid fun k => by rw [hd]
  clear hd
  have n0 : ¬ n = 0 := by omega
  have n1 : ¬ (n : Int) = 0 := by omega
  have n2 : (0 : Int) < (n : Int) := by omega
  go_enter Try.func27, Try.ntmps27
  go_wp2_with fail
  (with_reducible refine (C.out _ W0.out).mono ?_); rintro e w1 ⟨rfl, hb⟩
  have W1 := Lib.hid (b_next W0.out hb); have Q1 := Lib.hid (p2_keep hb Q0.out); have B1 := Lib.hid (p2v_keep hb B0.out); clear hb
  obtain ⟨a0, a1⟩ := Q1.out
  go_wp2_with fail
  (with_reducible refine (G.out _).mono ?_); rintro e wA ⟨rfl, hb⟩
  have WA := Lib.hid (b_next W1.out hb); have QA := Lib.hid (p2_keep hb Q1.out); have BA := Lib.hid (p2v_keep hb B1.out); clear hb a0 a1
  obtain ⟨x0, x1⟩ := BA.out
  obtain ⟨f0, f1, f2⟩ := e3_keep WA.out (HF.out 0 h0)
  rw [Nat.zero_mul, Nat.add_zero] at f0 f1 f2
  have S80 := Lib.hid (s3_new wA 53 (N 0) (X 0) (Y 0))
  have hal := Lib.hid (b_alloc (Below.refl wA.heap.size wA) (.cells #[.string (N 0), .int .i64 (X 0), .int .i64 (Y 0)] 53))
  have nn := new_ne x0
  go_wp2_with fail
  go_loopw [34] (fun s wr => ∃ k : Nat, k ≤ n ∧ s = .int .i64 k ∧ S3 wr wA.heap.size (N (bst d N k)) (X (bst d N k)) (Y (bst d N k)) ∧ wr.frozen? ⟨wA.heap.size, 0, none⟩ = false ∧ wr.frozen? ⟨wA.heap.size, 1, none⟩ = false ∧ wr.frozen? ⟨wA.heap.size, 2, none⟩ = false ∧ Below wA.heap.size wA wr) (fun s _ => n - (intOf s).toNat)
  case atStart => exact ⟨0, Nat.zero_le _, rfl, S80.out, by simp, by simp, by simp, hal.out⟩
  case round =>
    obtain ⟨k, hk, rfl, hs8, fz0, fz1, fz2, hbl⟩ := hrel
    have S81 := Lib.hid hs8; have HB := Lib.hid hbl; have FZ := Lib.hid (And.intro fz0 (And.intro fz1 fz2)); clear hs8 fz0 fz1 fz2
    have QB1 := Lib.hid (p2_keep hbl QA.out)
    clear x0 x1 f0 f1 f2
    by_cases hlt : k < n
    · have hl : (k : Int) < (n : Int) := by omega
      obtain ⟨f0, f1, f2⟩ := e3_keep (b_next WA.out hbl) (HF.out k hlt)
      have hbt := bst_lt (d := d) (N := N) h0 k hk
      have SQ1 := Lib.hid (SQ.out k hlt)
      have SQ2 := Lib.hid (SQ.out _ hbt)
      rw [HD.out] at SQ1 SQ2
      have HB1 : Hid (bst d N (k + 1) = if (decide (d k < d (bst d N k)) || (decide (d k = d (bst d N k)) && Op.bytesLess (N k).toList (N (bst d N k)).toList)) = true then k else bst d N k) := Lib.hid rfl
      obtain ⟨j, hj⟩ : ∃ j, j = bst d N k := ⟨_, rfl⟩
      rw [← hj] at S81 SQ2 HB1
      clear hj hbt
      have al := b_alloc (Below.refl wr.heap.size wr) (.cells #[.string (N k), .int .i64 (X k), .int .i64 (Y k)] 53)
      have S10 := Lib.hid (s3_new wr 53 (N k) (X k) (Y k))
      have S8 := Lib.hid (s3_keep al S81.out); have QB := Lib.hid (p2_keep al QB1.out); have HB2 := Lib.hid (b_next HB.out al)
      have hlt8 : wA.heap.size < wr.heap.size := lt_of_cell S81.out.c0
      have FZ1 : Hid ((wr.alloc (.cells #[.string (N k), .int .i64 (X k), .int .i64 (Y k)] 53)).frozen? ⟨wA.heap.size, 0, none⟩ = false ∧ (wr.alloc (.cells #[.string (N k), .int .i64 (X k), .int .i64 (Y k)] 53)).frozen? ⟨wA.heap.size, 1, none⟩ = false ∧ (wr.alloc (.cells #[.string (N k), .int .i64 (X k), .int .i64 (Y k)] 53)).frozen? ⟨wA.heap.size, 2, none⟩ = false) := Lib.hid ⟨(al.frozen (p := ⟨wA.heap.size, 0, none⟩) hlt8).trans FZ.out.1, (al.frozen (p := ⟨wA.heap.size, 1, none⟩) hlt8).trans FZ.out.2.1, (al.frozen (p := ⟨wA.heap.size, 2, none⟩) hlt8).trans FZ.out.2.2⟩
      have hne : ¬ wA.heap.size = wr.heap.size := by omega
      have hne2 : ¬ wr.heap.size = wA.heap.size := by omega
      clear al hbl
      generalize hnk : N k = nk at *
      generalize hxk : X k = xk at *
      generalize hyk : Y k = yk at *
      generalize hnj : N j = nj at *
      generalize hxj : X j = xj at *
      generalize hyj : Y j = yj at *
      have NK := Lib.hid hnk; have XK := Lib.hid hxk; have YK := Lib.hid hyk; have NJ := Lib.hid hnj; have XJ := Lib.hid hxj; have YJ := Lib.hid hyj
      clear hnk hxk hyk hnj hxj hyj
      generalize d k = dk at *
      generalize d j = dj at *
      go_wp2_with fail
      refine d_region (by kernel_rfl) (by kernel_rfl) ?_
      repeat
        first
          | (refine d_plain (by with_reducible rfl) ?_; apply Exists.intro; refine ⟨fun wq hc hq => ?_, ?_⟩)
          | (refine d_on (by with_reducible rfl) (by rfl) (by with_reducible rfl) ?_; apply Exists.intro; refine ⟨fun wq hc hq => ?_, ?_⟩)
          | (refine d_off (by with_reducible rfl) (by rfl) (by rfl) ?_)
          | (refine d_void (by with_reducible rfl) (by rfl) ?_)
        try any_goals
          (obtain ⟨a0, a1⟩ := p2_keep (cls hq) QB.out; obtain ⟨x0, x1, x2⟩ := s3_keep (cls hq) S10.out; obtain ⟨y0, y1, y2⟩ := s3_keep (cls hq) S8.out; clear hc
           go_simp
           first
             | rfl
             | (go_at_call 29; with_reducible exact call_below hq (SQ1.out _))
             | (go_at_call 29; with_reducible exact call_below hq (SQ2.out _)))
        simp only [Act.put, List.setIfInBounds_toArray, List.set_cons_zero, List.set_cons_succ]
      refine d_nil ?_
      intro w5 hb5
      have HB5 := Lib.hid (b_next HB2.out hb5); have S85 := Lib.hid (s3_keep hb5 S8.out); have S105 := Lib.hid (s3_keep hb5 S10.out)
      have hl5 : wA.heap.size < (wr.alloc (.cells #[.string nk, .int .i64 xk, .int .i64 yk] 53)).heap.size := by rw [World.size_alloc]; omega
      have FZ5 : Hid (w5.frozen? ⟨wA.heap.size, 0, none⟩ = false ∧ w5.frozen? ⟨wA.heap.size, 1, none⟩ = false ∧ w5.frozen? ⟨wA.heap.size, 2, none⟩ = false) := Lib.hid ⟨(hb5.frozen (p := ⟨wA.heap.size, 0, none⟩) hl5).trans FZ1.out.1, (hb5.frozen (p := ⟨wA.heap.size, 1, none⟩) hl5).trans FZ1.out.2.1, (hb5.frozen (p := ⟨wA.heap.size, 2, none⟩) hl5).trans FZ1.out.2.2⟩
      clear hb5 f0 f1 f2
      obtain ⟨x0, x1, x2⟩ := S105.out; obtain ⟨y0, y1, y2⟩ := S85.out; obtain ⟨z0, z1, z2⟩ := FZ5.out
      obtain ⟨bl, hbl⟩ : ∃ bl, Op.bytesLess nk.toList nj.toList = bl := ⟨_, rfl⟩
      rw [hbl] at HB1
      by_cases c1 : dk < dj
      · have e := HB1.out
        rw [decide_eq_true c1, Bool.true_or, if_pos rfl] at e
        have HE := Lib.hid e; clear e HB1
        go_wp2_with fail
        refine ⟨⟨k + 1, by omega, by go_num, ?_, ?_, ?_, ?_, b_set (b_set (b_set HB5.out (Nat.le_refl _) _) (Nat.le_refl _) _) (Nat.le_refl _) _⟩, by simp [intOf]; omega⟩
        · rw [HE.out, NK.out, XK.out, YK.out]; exact s3_set S85.out _ _ _
        · exact (fz3 _ _ _ _ _ _ _ _).trans FZ5.out.1
        · exact (fz3 _ _ _ _ _ _ _ _).trans FZ5.out.2.1
        · exact (fz3 _ _ _ _ _ _ _ _).trans FZ5.out.2.2
      by_cases c2 : dk = dj
      · cases bl with
        | true =>
          have e := HB1.out
          rw [decide_eq_true c2, Bool.and_self, Bool.or_true, if_pos rfl] at e
          have HE := Lib.hid e; clear e HB1
          go_wp2_with fail
          refine ⟨⟨k + 1, by omega, by go_num, ?_, ?_, ?_, ?_, b_set (b_set (b_set HB5.out (Nat.le_refl _) _) (Nat.le_refl _) _) (Nat.le_refl _) _⟩, by simp [intOf]; omega⟩
          · rw [HE.out, NK.out, XK.out, YK.out]; exact s3_set S85.out _ _ _
          · exact (fz3 _ _ _ _ _ _ _ _).trans FZ5.out.1
          · exact (fz3 _ _ _ _ _ _ _ _).trans FZ5.out.2.1
          · exact (fz3 _ _ _ _ _ _ _ _).trans FZ5.out.2.2
        | false =>
          have e := HB1.out
          rw [decide_eq_false c1, Bool.and_false, Bool.or_false, if_neg (by decide)] at e
          have HE := Lib.hid e; clear e HB1
          go_wp2_with fail
          refine ⟨⟨k + 1, by omega, by go_num, ?_, FZ5.out.1, FZ5.out.2.1, FZ5.out.2.2, HB5.out⟩, by simp [intOf]; omega⟩
          rw [HE.out, NJ.out, XJ.out, YJ.out]; exact S85.out
      · have e := HB1.out
        rw [decide_eq_false c1, decide_eq_false c2, Bool.false_and, Bool.or_false, if_neg (by decide)] at e
        have HE := Lib.hid e; clear e HB1
        have e2 : (dk == dj) = false := by simp [c2]
        clear hbl
        go_wp2_with fail
        refine ⟨⟨k + 1, by omega, by go_num, ?_, FZ5.out.1, FZ5.out.2.1, FZ5.out.2.2, HB5.out⟩, by simp [intOf]; omega⟩
        rw [HE.out, NJ.out, XJ.out, YJ.out]; exact S85.out
    · have hkn : k = n := by omega
      have hl : ¬ (k : Int) < (n : Int) := by omega
      obtain ⟨y0, y1, y2⟩ := S81.out
      have W9 := Lib.hid (b_next WA.out hbl); clear hbl
      rw [hkn] at y0
      go_wp2_with fail
      all_goals (go_ret2; exact ⟨rfl, W9.out⟩)
/-- chart.Near's answer. -/
def nearR (E : Int) (n : Nat) (N : Nat → ByteArray) (X Y : Nat → Int) (qx qy : Int) : ByteArray × Int :=
  if E ≠ 0 then (⟨#[]⟩, E) else if goodB qx qy = false then (⟨#[]⟩, 4) else if n = 0 then (⟨#[]⟩, 8) else (N (bst (fun k => sqr qx qy (X k) (Y k)) N n), 0)
theorem nearC {fx aw : Value} {n : Nat} {N : Nat → ByteArray} {X Y : Nat → Int} {m : Nat} {M : Nat → ByteArray} {l : Nat → Nat} {S : Nat → Nat → ByteArray} {w : World} (hv : CV w (.agg #[fx, aw]) n N X Y m M l S) (qx qy : Int) :
    NrC fx aw qx qy (nearR (cerr n N X Y m M l S) n N X Y qx qy).1 (nearR (cerr n N X Y m M l S) n N X Y qx qy).2 w := by
  have hC : CcC (.agg #[fx, aw]) (cerr n N X Y m M l S) w := fun w1 hb => checkC (cv_keep hb hv)
  obtain ⟨fx', aw', e, h1, h2⟩ := hv.ex
  have e' : fx = fx' ∧ aw = aw' := by simpa using e
  obtain ⟨rfl, rfl⟩ := e'
  have G := chkG qx qy
  unfold nearR
  by_cases hE : cerr n N X Y m M l S ≠ 0
  · rw [if_pos hE]; exact near_bad fx aw qx qy _ w (Lib.hid hC) (by simp [hE]) (by simp [hE])
  · have hE0 := Classical.not_not.1 hE
    rw [if_neg hE]
    rw [hE0] at hC
    obtain ⟨h64, -, hfe, -⟩ := cerr_ok hE0
    cases hg : goodB qx qy with
    | false => rw [if_pos rfl]; rw [hg, if_pos rfl] at G; exact near_far fx aw qx qy w (Lib.hid hC) (Lib.hid G)
    | true =>
      rw [if_neg (by decide)]; rw [hg, if_neg (by decide)] at G
      have gq := goodB_iff.1 hg
      rcases h1 with ⟨rfl, h⟩ | ⟨h0, b, off, cap, rfl, hc1, hc2, hF⟩
      · obtain ⟨A, c, rfl⟩ := nil0_slice h
        rw [if_pos rfl]
        exact near_none A c aw qx qy w (Lib.hid hC) (Lib.hid G)
      · rw [if_neg (by omega)]
        exact near_w b off n cap aw N X Y qx qy w h0 h64 hc1 (Nat.le_trans hc2 (by decide)) (Lib.hid hC) (Lib.hid G) (Lib.hid hF) (Lib.hid fun k hk w1 => by
          have gk := (fe_ok (hfe k hk)).2.2
          exact square qx qy (X k) (Y k) w1 rfl (by unfold good at *; omega))
set_option maxHeartbeats 2000000 in
theorem find_ok (b off n c i : Nat) (aw : Value) (N : Nat → ByteArray) (X Y : Nat → Int) (s : ByteArray) (w : World) (hi : i < n) (_hc : n ≤ c) (_hm : c ≤ 9223372036854775807) (C : Hid (CcC (.agg #[.slice (some ⟨b, off, none⟩) n c, aw]) 0 w)) (HF : Hid (∀ k, k < n → E3 w b off k (N k) (X k) (Y k))) (IX : Hid (∀ w1, Below w.heap.size w w1 → Calls Try.prog 62 #[.agg #[.slice (some ⟨b, off, none⟩) n c, aw], .string s] w1 fun e w' => e = .returned (.int .i64 i) ∧ Below w1.heap.size w1 w')) :
    Calls Try.prog 28 #[.agg #[.slice (some ⟨b, off, none⟩) n c, aw], .string s] w fun e w' => e = .returned (.tuple #[.agg #[.string (N i), .int .i64 (X i), .int .i64 (Y i)], .int .i64 0]) ∧ Below w.heap.size w w' := by
  have W0 := Lib.hid (b_alloc (b_alloc (Below.refl w.heap.size w) (.cells #[.slice (some ⟨b, off, none⟩) n c, aw] 43)) (.cells #[.string ⟨#[]⟩, .int .i64 0, .int .i64 0] 53))
  have B0 := Lib.hid (p2v_keep (b_alloc (Below.refl _ _) (.cells #[.string ⟨#[]⟩, .int .i64 0, .int .i64 0] 53)) (p2v_new w 43 (.slice (some ⟨b, off, none⟩) n c) aw))
  have s0 := s3_new (w.alloc (.cells #[.slice (some ⟨b, off, none⟩) n c, aw] 43)) 53 ⟨#[]⟩ 0 0
  rw [World.size_alloc] at s0
  have S0 := Lib.hid s0; clear s0
  have Z0 : Hid (∀ k, ((w.alloc (.cells #[.slice (some ⟨b, off, none⟩) n c, aw] 43)).alloc (.cells #[.string ⟨#[]⟩, .int .i64 0, .int .i64 0] 53)).frozen? ⟨w.heap.size + 1, k, none⟩ = false) := Lib.hid fun k => by
    have : w.heap.size + 1 = (w.alloc (.cells #[.slice (some ⟨b, off, none⟩) n c, aw] 43)).heap.size := by simp
    rw [this]; simp
  have L0 : Hid (w.heap.size + 1 < ((w.alloc (.cells #[.slice (some ⟨b, off, none⟩) n c, aw] 43)).alloc (.cells #[.string ⟨#[]⟩, .int .i64 0, .int .i64 0] 53)).heap.size) := Lib.hid (by simp)
  have hl : (i : Int) < (n : Int) := by omega
  go_enter Try.func28, Try.ntmps28
  go_wp2_with fail
  (with_reducible refine (C.out _ W0.out).mono ?_); rintro e w1 ⟨rfl, hb⟩
  have W1 := Lib.hid (b_next W0.out hb); have B1 := Lib.hid (p2v_keep hb B0.out); have S1 := Lib.hid (s3_keep hb S0.out)
  have Z1 : Hid (∀ k, w1.frozen? ⟨w.heap.size + 1, k, none⟩ = false) := Lib.hid fun k => (hb.frozen (p := ⟨w.heap.size + 1, k, none⟩) L0.out).trans (Z0.out k)
  have L1 : Hid (w.heap.size + 1 < w1.heap.size) := Lib.hid (Nat.lt_of_lt_of_le L0.out hb.size)
  clear hb
  obtain ⟨x0, x1⟩ := B1.out
  go_wp2_with fail
  (with_reducible refine (IX.out _ W1.out).mono ?_); rintro e w2 ⟨rfl, hb⟩
  have W2 := Lib.hid (b_next W1.out hb); clear x0 x1
  obtain ⟨x0, x1⟩ := p2v_keep hb B1.out
  obtain ⟨y0, y1, y2⟩ := s3_keep hb S1.out
  have z := fun k => (hb.frozen (p := ⟨w.heap.size + 1, k, none⟩) L1.out).trans (Z1.out k)
  have z0 := z 0; have z1 := z 1; have z2 := z 2
  obtain ⟨f0, f1, f2⟩ := e3_keep W2.out (HF.out i hi)
  clear hb z
  go_wp2_with fail
  have S3' := s3_set ⟨y0, y1, y2⟩ (N i) (X i) (Y i)
  refine bodyPost_ret (v := .tuple #[.agg #[.string (N i), .int .i64 (X i), .int .i64 (Y i)], .int .i64 0]) (by simp [results, Try.results28, go_sem, S3'.c0, S3'.c1, S3'.c2]) rfl ⟨rfl, b_set (b_set (b_set W2.out (Nat.le_succ _) _) (Nat.le_succ _) _) (Nat.le_succ _) _⟩
end Chart
end Go.Proofs.Ytlgdcpkjobbnnaa
