/- chart.Check: what it returns. -/
import Derived.Test.YtokioemmjfjhkaaChC
import Derived.Test.YtokioemmjfjhkaaDraw
namespace Go.Proofs.Ytokioemmjfjhkaa
open Go.RowKit
namespace Chart
open Kit Plane Poly
theorem chkF (x y : Int) : Chk x y (if goodB x y = false then 4 else 0) := fun w => by
  have c := check x y w
  cases hg : goodB x y with
  | false => rw [chk_bad (fun g => by rw [goodB_iff.2 g] at hg; cases hg)] at c; rw [if_pos rfl]; exact c
  | true => rw [chk_ok (goodB_iff.1 hg)] at c; rw [if_neg (by simp)]; exact c
/-- The error at one fix. -/
def fe (n : Nat) (N : Nat → ByteArray) (X Y : Nat → Int) (k : Nat) : Int :=
  if Name.nameB (N k) = false then 5 else if fix N (N k) n < k then 7 else if goodB (X k) (Y k) = false then 4 else 0
/-- chart.Check's error. -/
def cerr (n : Nat) (N : Nat → ByteArray) (X Y : Nat → Int) (m : Nat) (M : Nat → ByteArray) (l : Nat → Nat) (S : Nat → Nat → ByteArray) : Int :=
  if 64 < n ∨ 16 < m then 2 else if ferr (fe n N X Y) n ≠ 0 then ferr (fe n N X Y) n else ferr (aerr n N X Y M l S) m
/-- Three cells. -/
structure S3 (w : World) (b : Nat) (s : ByteArray) (x y : Int) : Prop where
  c0 : w.cell? ⟨b, 0, none⟩ = some (.string s)
  c1 : w.cell? ⟨b, 1, none⟩ = some (.int .i64 x)
  c2 : w.cell? ⟨b, 2, none⟩ = some (.int .i64 y)
theorem s3_new (w : World) (t : TypeId) (s : ByteArray) (x y : Int) : S3 (w.alloc (.cells #[.string s, .int .i64 x, .int .i64 y] t)) w.heap.size s x y := ⟨by simp, by simp, by simp⟩
theorem s3_keep {W w1 : World} (hb : Below W.heap.size W w1) {b : Nat} {s : ByteArray} {x y : Int} (h : S3 W b s x y) : S3 w1 b s x y := ⟨keep hb h.c0, keep hb h.c1, keep hb h.c2⟩
theorem all_next {e : Nat → Int} {k : Nat} (h : ∀ j, j < k → e j = 0) (hk : e k = 0) : ∀ j, j < k + 1 → e j = 0 := fun j hj => by
  rcases Nat.lt_or_ge j k with hl | hl
  · exact h j hl
  · rw [show j = k from by omega]; exact hk
set_option maxHeartbeats 1000000 in
theorem check_big (A B : Option Addr) (n cf m ca : Nat) (w : World) (h : 64 < n ∨ 16 < m) :
    Calls Try.prog 35 #[.agg #[.slice A n cf, .slice B m ca]] w fun e w' => e = .returned (.int .i64 2) ∧ Below w.heap.size w w' := by
  have W0 := Lib.hid (b_alloc (Below.refl w.heap.size w) (.cells #[.slice A n cf, .slice B m ca] 37))
  go_enter Try.func35, Try.ntmps35
  rcases h with h | h
  · have h1 : (64 : Int) < (n : Int) := by omega
    go_wp2_with fail
    all_goals (go_ret; exact ⟨rfl, W0.out⟩)
  · have h1 : (16 : Int) < (m : Int) := by omega
    go_wp2_with fail
    all_goals (go_ret; exact ⟨rfl, W0.out⟩)
set_option maxRecDepth 100000 in
set_option maxHeartbeats 8000000 in
theorem check_w (A B : Option Addr) (n cf m ca : Nat) (N : Nat → ByteArray) (X Y : Nat → Int) (M : Nat → ByteArray) (l : Nat → Nat) (S : Nat → Nat → ByteArray) (w : World) (hn : n ≤ 64) (hm : m ≤ 16)
    (HF : Hid (FV w (.slice A n cf) n N X Y)) (IX : Hid (IxC (.slice A n cf) (.slice B m ca) n N w)) (CA : Hid (∀ i, i < m → ∀ w1, Below w.heap.size w w1 → Calls Try.prog 58 #[.agg #[.slice A n cf, .slice B m ca], .int .i64 i] w1 fun e w' => e = .returned (.int .i64 (aerr n N X Y M l S i)) ∧ Below w1.heap.size w1 w')) :
    Calls Try.prog 35 #[.agg #[.slice A n cf, .slice B m ca]] w fun e w' => e = .returned (.int .i64 (cerr n N X Y m M l S)) ∧ Below w.heap.size w w' := by
  have BX0 := Lib.hid (p2v_new w 37 (.slice A n cf) (.slice B m ca))
  have W0 := Lib.hid (b_alloc (Below.refl w.heap.size w) (.cells #[.slice A n cf, .slice B m ca] 37))
  obtain ⟨R, hR⟩ : ∃ R, R = cerr n N X Y m M l S := ⟨_, rfl⟩
  rw [← hR]
  unfold cerr at hR
  rw [if_neg (by omega)] at hR
  have HR := Lib.hid hR; clear hR
  have g1 : ¬ (64 : Int) < (n : Int) := by omega
  have g2 : ¬ (16 : Int) < (m : Int) := by omega
  go_enter Try.func35, Try.ntmps35
  go_wp2_with fail
  obtain ⟨w0, hw0⟩ : ∃ w0, w0 = w.alloc (.cells #[.slice A n cf, .slice B m ca] 37) := ⟨_, rfl⟩
  rw [← hw0] at BX0 W0 ⊢
  clear hw0
  go_loopw [21] (fun s wr => ∃ k : Nat, k ≤ n ∧ s = .int .i64 k ∧ (∀ j, j < k → fe n N X Y j = 0) ∧ Below w0.heap.size w0 wr) (fun s _ => n - (intOf s).toNat)
  case atStart => exact ⟨0, Nat.zero_le _, rfl, fun j hj => absurd hj (Nat.not_lt_zero j), Below.refl _ _⟩
  case round =>
    obtain ⟨k, hk, rfl, hno, hbl⟩ := hrel
    have HN := Lib.hid hno; have HB := Lib.hid hbl; have W1 := Lib.hid (b_next W0.out hbl); have BX1 := Lib.hid (p2v_keep hbl BX0.out); clear hno hbl
    obtain ⟨x0, x1⟩ := BX1.out
    by_cases hlt : k < n
    · have hl : (k : Int) < (n : Int) := by omega
      obtain ⟨b, off, c, e, hc1, hc2, HE3⟩ := fv_at (fv_keep W1.out HF.out) (by omega)
      injection e with e1 _ e3
      subst e1 e3
      have hc3 : cf ≤ 9223372036854775807 := Nat.le_trans hc2 (by decide)
      obtain ⟨c0, c1, c2⟩ := HE3 k hlt
      clear HE3
      have S31 := Lib.hid (s3_new wr 51 (N k) (X k) (Y k))
      have hal := b_alloc (Below.refl wr.heap.size wr) (.cells #[.string (N k), .int .i64 (X k), .int .i64 (Y k)] 51)
      have HB2 := Lib.hid (b_next HB.out hal); have W2 := Lib.hid (b_next W1.out hal); have BX2 := Lib.hid (p2v_keep hal BX1.out); clear hal
      have he : fe n N X Y k = if Name.nameB (N k) = false then 5 else if fix N (N k) n < k then 7 else if goodB (X k) (Y k) = false then 4 else 0 := rfl
      have HE : Hid (fe n N X Y k ≠ 0 → R = fe n N X Y k) := Lib.hid fun h => by
        have := ferr_at HN.out h hlt
        rw [HR.out, this, if_pos h]
      go_wp2_with fail
      (with_reducible refine (Name.nameC (N k) _).mono ?_); rintro e w3 ⟨rfl, hb⟩
      have HB3 := Lib.hid (b_next HB2.out hb); have W3 := Lib.hid (b_next W2.out hb); have BX3 := Lib.hid (p2v_keep hb BX2.out); have S33 := Lib.hid (s3_keep hb S31.out); clear hb c0 c1 c2 x0 x1
      obtain ⟨x0, x1⟩ := BX3.out; obtain ⟨c0, c1, c2⟩ := S33.out
      cases hnm : Name.nameB (N k) with
      | false =>
        rw [if_pos hnm] at he
        have e5 : R = 5 := by rw [HE.out (by omega), he]
        subst e5
        go_wp2_with fail
        all_goals (go_ret; exact ⟨rfl, W3.out⟩)
      | true =>
      rw [if_neg (by rw [hnm]; decide)] at he
      go_wp2_with fail
      (with_reducible refine (IX.out _ _ W3.out).mono ?_); rintro e w4 ⟨rfl, hb⟩
      have HB4 := Lib.hid (b_next HB3.out hb); have W4 := Lib.hid (b_next W3.out hb); have BX4 := Lib.hid (p2v_keep hb BX3.out); have S34 := Lib.hid (s3_keep hb S33.out); clear hb c0 c1 c2 x0 x1
      obtain ⟨x0, x1⟩ := BX4.out; obtain ⟨c0, c1, c2⟩ := S34.out
      by_cases hf : fix N (N k) n < k
      · rw [if_pos hf] at he
        have e7 : R = 7 := by rw [HE.out (by omega), he]
        subst e7
        generalize fix N (N k) n = r at *
        go_wp2_with fail
        all_goals (go_ret; exact ⟨rfl, W4.out⟩)
      rw [if_neg hf] at he
      generalize fix N (N k) n = r at *
      have G := Lib.hid (chkF (X k) (Y k))
      go_wp2_with fail
      (with_reducible refine (G.out _).mono ?_); rintro e w5 ⟨rfl, hb⟩
      have HB5 := Lib.hid (b_next HB4.out hb); have W5 := Lib.hid (b_next W4.out hb); clear hb c0 c1 c2 x0 x1
      cases hg : goodB (X k) (Y k) with
      | false =>
        rw [if_pos hg] at he
        have e4 : R = 4 := by rw [HE.out (by omega), he]
        subst e4
        rw [if_pos rfl]
        go_wp2_with fail
        all_goals (go_ret; exact ⟨rfl, W5.out⟩)
      | true =>
        rw [if_neg (by rw [hg]; decide)] at he
        have HZ := Lib.hid he; clear he
        rw [if_neg (by decide)]
        go_wp2_with fail
        exact ⟨⟨k + 1, by omega, by go_num, all_next HN.out HZ.out, HB5.out⟩, by simp [intOf]; omega⟩
    · have hkn : k = n := by omega
      have hlk : ¬ (k : Int) < (n : Int) := by omega
      have hr : R = ferr (aerr n N X Y M l S) m := by
        have := ferr_zero (e := fe n N X Y) (n := n) (fun j hj => HN.out j (by omega))
        rw [HR.out, this, if_neg (by decide)]
      have HR2 := Lib.hid hr; clear hr HR
      obtain ⟨wa, hwa⟩ : ∃ wa : World, wa = wr := ⟨_, rfl⟩
      subst hwa
      go_wp2_with fail
      go_loopw [46] (fun s wq => ∃ i : Nat, i ≤ m ∧ s = .int .i64 i ∧ (∀ j, j < i → aerr n N X Y M l S j = 0) ∧ Below wa.heap.size wa wq) (fun s _ => m - (intOf s).toNat)
      case atStart => exact ⟨0, Nat.zero_le _, rfl, fun j hj => absurd hj (Nat.not_lt_zero j), Below.refl _ _⟩
      case round =>
        obtain ⟨i, hi, rfl, hno, hbl⟩ := hrel
        have HM := Lib.hid hno; have HC := Lib.hid hbl; have W2 := Lib.hid (b_next W1.out hbl); have BX2 := Lib.hid (p2v_keep hbl BX1.out); clear hno hbl x0 x1
        obtain ⟨x0, x1⟩ := BX2.out
        by_cases hlt : i < m
        · have hl : (i : Int) < (m : Int) := by omega
          have HE : Hid (aerr n N X Y M l S i ≠ 0 → R = aerr n N X Y M l S i) := Lib.hid fun h => by rw [HR2.out]; exact ferr_at HM.out h hlt
          have CI := Lib.hid (CA.out i hlt)
          obtain ⟨ae, hae⟩ : ∃ ae, ae = aerr n N X Y M l S i := ⟨_, rfl⟩
          rw [← hae] at HE CI
          have HZ := Lib.hid hae; clear hae
          go_wp2_with fail
          (with_reducible refine (CI.out _ W2.out).mono ?_); rintro e w3 ⟨rfl, hb⟩
          have W3 := Lib.hid (b_next W2.out hb); have HC3 := Lib.hid (b_next HC.out hb); clear hb x0 x1
          by_cases h0 : ae = 0
          · subst h0
            go_wp2_with fail
            exact ⟨⟨i + 1, by omega, by go_num, all_next HM.out HZ.out.symm, HC3.out⟩, by simp [intOf]; omega⟩
          · have e1 := HE.out h0
            subst e1
            have z1 : (R == 0) = false := by simp [h0]
            have z2 : (R != 0) = true := by simp [h0]
            clear HZ
            go_wp2_with fail
            all_goals (go_ret; exact ⟨rfl, W3.out⟩)
        · have hin : i = m := by omega
          have hl : ¬ (i : Int) < (m : Int) := by omega
          have e0 : R = 0 := by rw [HR2.out]; exact ferr_zero (fun j hj => HM.out j (by omega))
          subst e0
          go_wp2_with fail
          all_goals (go_ret; exact ⟨rfl, W2.out⟩)
theorem fv_slice {w : World} {v : Value} {n : Nat} {N : Nat → ByteArray} {X Y : Nat → Int} (h : FV w v n N X Y) : ∃ A cap, v = .slice A n cap := by
  rcases h with ⟨rfl, h⟩ | ⟨h0, b, off, cap, rfl, h1, h2, h3⟩
  · exact nil0_slice h
  · exact ⟨_, _, rfl⟩
theorem av_slice {w : World} {v : Value} {m : Nat} {M : Nat → ByteArray} {l : Nat → Nat} {S : Nat → Nat → ByteArray} (h : AV w v m M l S) : ∃ A cap, v = .slice A m cap := by
  rcases h with ⟨rfl, h⟩ | ⟨h0, b, off, cap, rfl, h1, h2, h3⟩
  · exact nil0_slice h
  · exact ⟨_, _, rfl⟩
/-- A chart in memory. -/
structure CV (w : World) (c : Value) (n : Nat) (N : Nat → ByteArray) (X Y : Nat → Int) (m : Nat) (M : Nat → ByteArray) (l : Nat → Nat) (S : Nat → Nat → ByteArray) : Prop where
  ex : ∃ fx aw, c = .agg #[fx, aw] ∧ FV w fx n N X Y ∧ AV w aw m M l S
theorem cv_keep {W w1 : World} (hb : Below W.heap.size W w1) {c : Value} {n : Nat} {N : Nat → ByteArray} {X Y : Nat → Int} {m : Nat} {M : Nat → ByteArray} {l : Nat → Nat} {S : Nat → Nat → ByteArray} (h : CV W c n N X Y m M l S) : CV w1 c n N X Y m M l S := by
  obtain ⟨fx, aw, e, h1, h2⟩ := h.ex
  exact ⟨fx, aw, e, fv_keep hb h1, av_keep hb h2⟩
theorem checkC {c : Value} {n : Nat} {N : Nat → ByteArray} {X Y : Nat → Int} {m : Nat} {M : Nat → ByteArray} {l : Nat → Nat} {S : Nat → Nat → ByteArray} {w : World} (hv : CV w c n N X Y m M l S) :
    Calls Try.prog 35 #[c] w fun e w' => e = .returned (.int .i64 (cerr n N X Y m M l S)) ∧ Below w.heap.size w w' := by
  obtain ⟨fx, aw, rfl, h1, h2⟩ := hv.ex
  obtain ⟨A, cf, rfl⟩ := fv_slice h1
  obtain ⟨B, ca, rfl⟩ := av_slice h2
  by_cases hb : 64 < n ∨ 16 < m
  · unfold cerr
    rw [if_pos hb]
    exact check_big A B n cf m ca w hb
  · refine check_w A B n cf m ca N X Y M l S w (by omega) (by omega) (Lib.hid h1) (Lib.hid fun w1 s hb => indexC (fv_keep hb h1) s) (Lib.hid fun i hi w1 hb => ?_)
    rcases h2 with ⟨h0, -⟩ | ⟨h0, b, off, cap, e, hc1, hc2, hA⟩
    · omega
    · injection e with e1 _ e3
      subst e1 e3
      exact checkAirway_w _ n m ca b off i N X Y M l S w1 hi hc1 (Nat.le_trans hc2 (by decide)) (Lib.hid hc2) (by omega) (Lib.hid (fv_keep hb h1)) (Lib.hid fun k hk => a2_keep hb (hA k hk)) (Lib.hid fun w2 s hb2 => indexC (fv_keep (b_next hb hb2) h1) s)
end Chart
end Go.Proofs.Ytokioemmjfjhkaa
