/- chart.Length: what it returns. -/
import Derived.Test.YtokioemmjfjhkaaChB
namespace Go.Proofs.Ytokioemmjfjhkaa
open Go.RowKit
namespace Chart
open Kit Plane Poly
/-- The sum of the steps behind the first of k. -/
def lsum (D : Nat → Int) : Nat → Int
  | 0 => 0
  | k + 1 => if k = 0 then 0 else lsum D k + D k
theorem lsum_bd {D : Nat → Int} (h : ∀ k, 0 ≤ D k ∧ D k ≤ 3037000500) : ∀ k, 0 ≤ lsum D k ∧ lsum D k ≤ 3037000500 * k
  | 0 => by show (0 : Int) ≤ 0 ∧ (0 : Int) ≤ 3037000500 * 0; omega
  | k + 1 => by
    have h1 := lsum_bd h k
    have h2 := h k
    show 0 ≤ (if k = 0 then 0 else lsum D k + D k) ∧ (if k = 0 then 0 else lsum D k + D k) ≤ 3037000500 * ((k + 1 : Nat) : Int)
    split <;> omega
/-- The place of a name among the fixes. -/
def pos (n : Nat) (N : Nat → ByteArray) (s : ByteArray) : Nat := (fix N s n).toNat
/-- The step to name j. -/
def stp (n : Nat) (N : Nat → ByteArray) (X Y : Nat → Int) (S : Nat → ByteArray) (j : Nat) : Int :=
  dup (sqr (X (pos n N (S (j - 1)))) (Y (pos n N (S (j - 1)))) (X (pos n N (S j))) (Y (pos n N (S j))))
theorem dup_bd' (s : Int) (_h0 : 0 ≤ s) (h : s ≤ 9223372036854775807) : 0 ≤ dup s ∧ dup s ≤ 3037000500 := by
  have h1 := root_nonneg s
  have h2 := root_le h
  unfold dup
  split <;> omega
/-- The error at a name. -/
def lerr (n : Nat) (N : Nat → ByteArray) (S : Nat → ByteArray) (j : Nat) : Int := if fix N (S j) n < 0 then 6 else 0
set_option maxHeartbeats 1000000 in
theorem len_bad (fx aw v : Value) (E : Int) (w : World) (C : Hid (CcC (.agg #[fx, aw]) E w)) (_hE1 : (E == 0) = false) (hE2 : (E != 0) = true) :
    Calls Try.prog 20 #[.agg #[fx, aw], v] w fun e w' => e = .returned (.tuple #[.int .i64 0, .int .i64 E]) ∧ Below w.heap.size w w' := by
  have W0 := Lib.hid (b_alloc (Below.refl w.heap.size w) (.cells #[fx, aw] 37))
  go_enter Try.func20, Try.ntmps20
  go_wp2_with fail
  (with_reducible refine (C.out _ W0.out).mono ?_); rintro e w1 ⟨rfl, hb⟩
  have W1 := Lib.hid (b_next W0.out hb); clear hb
  go_wp2_with fail
  all_goals (go_ret2; exact ⟨rfl, W1.out⟩)
set_option maxHeartbeats 1000000 in
theorem len_big (fx aw : Value) (A : Option Addr) (r c : Nat) (w : World) (C : Hid (CcC (.agg #[fx, aw]) 0 w)) (h : 64 < r) :
    Calls Try.prog 20 #[.agg #[fx, aw], .slice A r c] w fun e w' => e = .returned (.tuple #[.int .i64 0, .int .i64 2]) ∧ Below w.heap.size w w' := by
  have W0 := Lib.hid (b_alloc (Below.refl w.heap.size w) (.cells #[fx, aw] 37))
  have h1 : (64 : Int) < (r : Int) := by omega
  go_enter Try.func20, Try.ntmps20
  go_wp2_with fail
  (with_reducible refine (C.out _ W0.out).mono ?_); rintro e w1 ⟨rfl, hb⟩
  have W1 := Lib.hid (b_next W0.out hb); clear hb
  go_wp2_with fail
  all_goals (go_ret2; exact ⟨rfl, W1.out⟩)
set_option maxRecDepth 100000 in
set_option maxHeartbeats 8000000 in
theorem len_w (fx aw : Value) (A : Option Addr) (r c n : Nat) (N : Nat → ByteArray) (X Y : Nat → Int) (S : Nat → ByteArray) (w : World) (C : Hid (CcC (.agg #[fx, aw]) 0 w)) (hr : r ≤ 64)
    (HF : Hid (FV w fx n N X Y)) (HS : Hid (SV w (.slice A r c) r S)) (IX : Hid (IxC fx aw n N w)) (HG : Hid (∀ k, k < n → good (X k) (Y k))) (HDD : Hid (∀ j, 0 ≤ stp n N X Y S j ∧ stp n N X Y S j ≤ 3037000500)) :
    Calls Try.prog 20 #[.agg #[fx, aw], .slice A r c] w fun e w' => e = .returned (if ferr (lerr n N S) r ≠ 0 then .tuple #[.int .i64 0, .int .i64 6] else .tuple #[.int .i64 (lsum (stp n N X Y S) r), .int .i64 0]) ∧ Below w.heap.size w w' := by
  have W0 := Lib.hid (b_alloc (Below.refl w.heap.size w) (.cells #[fx, aw] 37))
  have BX0 := Lib.hid (p2v_new w 37 fx aw)
  obtain ⟨R, hR⟩ : ∃ R : Value, R = if ferr (lerr n N S) r ≠ 0 then .tuple #[.int .i64 0, .int .i64 6] else .tuple #[.int .i64 (lsum (stp n N X Y S) r), .int .i64 0] := ⟨_, rfl⟩
  rw [← hR]
  have HR := Lib.hid hR; clear hR
  have h1 : ¬ (64 : Int) < (r : Int) := by omega
  go_enter Try.func20, Try.ntmps20
  go_wp2_with fail
  (with_reducible refine (C.out _ W0.out).mono ?_); rintro e w0 ⟨rfl, hb⟩
  have W1 := Lib.hid (b_next W0.out hb); have BX1 := Lib.hid (p2v_keep hb BX0.out); clear hb
  go_wp2_with fail
  go_loopw [22, 7] (fun s t wr => ∃ k : Nat, k ≤ r ∧ s = .int .i64 k ∧ t = .int .i64 (lsum (stp n N X Y S) k) ∧ (∀ j, j < k → lerr n N S j = 0) ∧ Below w0.heap.size w0 wr) (fun s _ _ => r - (intOf s).toNat)
  case atStart => exact ⟨0, Nat.zero_le _, rfl, rfl, fun j hj => absurd hj (Nat.not_lt_zero j), Below.refl _ _⟩
  case round =>
    obtain ⟨k, hk, rfl, rfl, hno, hbl⟩ := hrel
    have HN := Lib.hid hno; have HB := Lib.hid hbl; have W2 := Lib.hid (b_next W1.out hbl); have BX2 := Lib.hid (p2v_keep hbl BX1.out); clear hno hbl
    obtain ⟨x0, x1⟩ := BX2.out
    by_cases hlt : k < r
    · have hl : (k : Int) < (r : Int) := by omega
      obtain ⟨b, off, c', e, hc1, hc2, hS⟩ := sv_at (sv_keep W2.out HS.out) (by omega)
      injection e with e1 _ e3
      subst e1 e3
      have hc3 : c ≤ 9223372036854775807 := Nat.le_trans hc2 (by decide)
      have HS2 := Lib.hid hS
      have s0 := hS k hlt
      clear hS
      have hD : ∀ j, 0 ≤ stp n N X Y S j ∧ stp n N X Y S j ≤ 3037000500 := HDD.out
      have bd := lsum_bd hD k
      have bd2 := hD k
      clear hD
      have hls : lsum (stp n N X Y S) (k + 1) = if k = 0 then 0 else lsum (stp n N X Y S) k + stp n N X Y S k := rfl
      have HLS := Lib.hid hls; clear hls
      have hls0 : k = 0 → lsum (stp n N X Y S) k = 0 := fun h => by rw [h]; rfl
      have HL0 := Lib.hid hls0; clear hls0
      generalize lsum (stp n N X Y S) k = L at *
      go_wp2_with fail
      (with_reducible refine (IX.out _ _ W2.out).mono ?_); rintro e w3 ⟨rfl, hb⟩
      have W3 := Lib.hid (b_next W2.out hb); have BX3 := Lib.hid (p2v_keep hb BX2.out); have HB3 := Lib.hid (b_next HB.out hb)
      have SK := Lib.hid (keep hb s0)
      clear x0 x1 s0
      obtain ⟨x0, x1⟩ := BX3.out
      have hbd : -1 ≤ fix N (S k) n ∧ fix N (S k) n < (n : Int) := fnd_bd _ _
      by_cases hneg : fix N (S k) n < 0
      · have e6 : R = .tuple #[.int .i64 0, .int .i64 6] := by
          have he : lerr n N S k = 6 := by unfold lerr; rw [if_pos hneg]
          have := ferr_at HN.out (by rw [he]; decide) hlt
          rw [HR.out, this, he, if_pos (by decide)]
        have E6 := Lib.hid e6; clear e6
        generalize fix N (S k) n = f at *
        clear hb
        go_wp2_with fail
        all_goals (go_ret2; exact ⟨by rw [E6.out]; rfl, W3.out⟩)
      have HZ := Lib.hid (show lerr n N S k = 0 by unfold lerr; rw [if_neg hneg])
      by_cases hk0 : k = 0
      · have hz : ¬ (0 : Int) < (k : Int) := by omega
        have L0 := HL0.out hk0
        subst L0
        have hls2 := HLS.out
        rw [if_pos hk0] at hls2
        have HL2 := Lib.hid hls2; clear hls2 HLS HL0 hb bd
        generalize fix N (S k) n = f at *
        go_wp2_with fail
        exact ⟨⟨k + 1, by omega, by go_num, by rw [HL2.out], all_next HN.out HZ.out, HB3.out⟩, by simp [intOf]; omega⟩
      have hz : (0 : Int) < (k : Int) := by omega
      have SP := Lib.hid (keep hb (HS2.out (k - 1) (by omega)))
      clear hb
      have hprev : ¬ fix N (S (k - 1)) n < 0 := fun h => by
        have := HN.out (k - 1) (by omega)
        unfold lerr at this
        rw [if_pos h] at this; exact absurd this (by decide)
      have hbd2 : -1 ≤ fix N (S (k - 1)) n ∧ fix N (S (k - 1)) n < (n : Int) := fnd_bd _ _
      obtain ⟨a, ha⟩ : ∃ a : Nat, fix N (S k) n = (a : Int) := ⟨(fix N (S k) n).toNat, by omega⟩
      obtain ⟨p, hp⟩ : ∃ p : Nat, fix N (S (k - 1)) n = (p : Int) := ⟨(fix N (S (k - 1)) n).toNat, by omega⟩
      have hst : stp n N X Y S k = dup (sqr (X p) (Y p) (X a) (Y a)) := by unfold stp pos; rw [ha, hp, Int.toNat_natCast, Int.toNat_natCast]
      have IX1 := Lib.hid fun (w' : World) (hb : Below w.heap.size w w') => IX.out w' (S (k - 1)) hb
      have IX2 := Lib.hid fun (w' : World) (hb : Below w.heap.size w w') => IX.out w' (S k) hb
      rw [ha] at hneg hbd IX2 ⊢
      rw [hp] at hprev hbd2 IX1
      have hal : a < n := by omega
      have hpl : p < n := by omega
      obtain ⟨bf, of', cf, rfl, hf1, hf2, HE3⟩ := fv_at (fv_keep W3.out HF.out) (by omega)
      have hf3 : cf ≤ 9223372036854775807 := Nat.le_trans hf2 (by decide)
      have XR := Lib.hid (HE3 p hpl); have YR := Lib.hid (HE3 a hal)
      have i1 : (a : Int) < (n : Int) := by omega
      have i2 : (p : Int) < (n : Int) := by omega
      have ga := HG.out a hal; have gp := HG.out p hpl
      have DI := Lib.hid fun (w' : World) => distance (X p) (Y p) (X a) (Y a) w' rfl (by unfold good at *; omega)
      rw [← hst] at DI
      rw [if_neg hk0] at HLS
      clear hst ha hp HE3 ga gp hbd hbd2 hprev HL0 x0 x1
      obtain ⟨st, hst⟩ : ∃ st, st = stp n N X Y S k := ⟨_, rfl⟩
      rw [← hst] at DI HLS bd2
      clear hst
      generalize root (sqr (X p) (Y p) (X a) (Y a)) = ro at *
      generalize X p = xp at *
      generalize Y p = yp at *
      generalize X a = xa at *
      generalize Y a = ya at *
      have u1 : IntKind.i64.wrap ((k : Int) - 1) = ((k - 1 : Nat) : Int) := by rw [IntWalk.i64_in _ (by omega)]; omega
      have u2 : ((k - 1 : Nat) : Int) < (r : Int) := by omega
      have u3 : (k : Int) - 1 = ((k - 1 : Nat) : Int) := by omega
      have u4' : IntKind.i64.wrap ((k - 1 : Nat) : Int) = ((k - 1 : Nat) : Int) := IntWalk.i64_in _ (by omega)
      go_wp2_with fail
      refine d_region (by kernel_rfl) (by kernel_rfl) ?_
      repeat
        first
          | (refine d_plain (by with_reducible rfl) ?_; apply Exists.intro; refine ⟨fun wq hc hq => ?_, ?_⟩)
          | (refine d_on (by with_reducible rfl) (by rfl) (by with_reducible rfl) ?_; apply Exists.intro; refine ⟨fun wq hc hq => ?_, ?_⟩)
          | (refine d_off (by with_reducible rfl) (by rfl) (by rfl) ?_)
          | (refine d_void (by with_reducible rfl) (by rfl) ?_)
        try any_goals
          (obtain ⟨b0, b1⟩ := p2v_keep (cls hq) BX3.out; obtain ⟨x0, x1, x2⟩ := e3_keep (cls hq) XR.out; obtain ⟨y0, y1, y2⟩ := e3_keep (cls hq) YR.out; have s0 := keep (cls hq) SP.out; have s1 := keep (cls hq) SK.out; clear hc
           go_simp
           first
             | rfl
             | (go_at_call 36; with_reducible exact call_below hq (IX1.out _ (b_next W3.out (cls hq))))
             | (go_at_call 36; with_reducible exact call_below hq (IX2.out _ (b_next W3.out (cls hq))))
             | (go_at_call 43; with_reducible exact call_below hq (DI.out _)))
        simp only [Act.put, List.setIfInBounds_toArray, List.set_cons_zero, List.set_cons_succ]
      refine d_nil ?_
      intro w4 hb4
      have HB4 := Lib.hid (b_next HB3.out hb4); clear hb4
      go_wp2_with fail
      exact ⟨⟨k + 1, by omega, by go_num, by rw [HLS.out], all_next HN.out HZ.out, HB4.out⟩, by simp [intOf]; omega⟩
    · have hkn : k = r := by omega
      have hl : ¬ (k : Int) < (r : Int) := by omega
      have e0 : R = .tuple #[.int .i64 (lsum (stp n N X Y S) r), .int .i64 0] := by
        rw [HR.out, ferr_zero (fun j hj => HN.out j (by omega)), if_neg (by decide)]
      have E0 := Lib.hid e0; clear e0
      go_wp2_with fail
      all_goals (go_ret2; exact ⟨by rw [E0.out]; rfl, W2.out⟩)
/-- chart.Length's answer. -/
def lenR (E : Int) (n : Nat) (N : Nat → ByteArray) (X Y : Nat → Int) (r : Nat) (S : Nat → ByteArray) : Int × Int :=
  if E ≠ 0 then (0, E) else if 64 < r then (0, 2) else if ferr (lerr n N S) r ≠ 0 then (0, 6) else (lsum (stp n N X Y S) r, 0)
theorem fe_ok {n : Nat} {N : Nat → ByteArray} {X Y : Nat → Int} {k : Nat} (h : fe n N X Y k = 0) : Name.nameB (N k) = true ∧ (k : Int) ≤ fix N (N k) n ∧ good (X k) (Y k) := by
  unfold fe at h
  by_cases h1 : Name.nameB (N k) = false
  · rw [if_pos h1] at h; exact absurd h (by decide)
  · rw [if_neg h1] at h
    by_cases h2 : fix N (N k) n < k
    · rw [if_pos h2] at h; exact absurd h (by decide)
    · rw [if_neg h2] at h
      by_cases h3 : goodB (X k) (Y k) = false
      · rw [if_pos h3] at h; exact absurd h (by decide)
      · exact ⟨by simpa using h1, by omega, goodB_iff.1 (by simpa using h3)⟩
theorem pos_lt {n : Nat} {N : Nat → ByteArray} (s : ByteArray) (h0 : 0 < n) : pos n N s < n := by
  have h : -1 ≤ fix N s n ∧ fix N s n < (n : Int) := fnd_bd _ _
  unfold pos; omega
theorem stp_bd {n : Nat} {N : Nat → ByteArray} {X Y : Nat → Int} {S : Nat → ByteArray} (h0 : 0 < n) (hg : ∀ k, k < n → good (X k) (Y k)) (j : Nat) : 0 ≤ stp n N X Y S j ∧ stp n N X Y S j ≤ 3037000500 := by
  have g1 := hg _ (pos_lt (N := N) (S (j - 1)) h0)
  have g2 := hg _ (pos_lt (N := N) (S j) h0)
  have h1 := sqr_wrap (ax := X (pos n N (S (j - 1)))) (ay := Y (pos n N (S (j - 1)))) (bx := X (pos n N (S j))) (by' := Y (pos n N (S j))) (M := 1000000000) rfl (by unfold good at *; omega)
  exact dup_bd' _ (sqr_nonneg _ _ _ _) (by omega)
theorem lengthC {c v : Value} {n : Nat} {N : Nat → ByteArray} {X Y : Nat → Int} {m : Nat} {M : Nat → ByteArray} {l : Nat → Nat} {S : Nat → Nat → ByteArray} {w : World} (hv : CV w c n N X Y m M l S) {r : Nat} {T : Nat → ByteArray} (hs : SV w v r T) :
    Calls Try.prog 20 #[c, v] w fun e w' => e = .returned (.tuple #[.int .i64 (lenR (cerr n N X Y m M l S) n N X Y r T).1, .int .i64 (lenR (cerr n N X Y m M l S) n N X Y r T).2]) ∧ Below w.heap.size w w' := by
  have hC : CcC c (cerr n N X Y m M l S) w := fun w1 hb => checkC (cv_keep hb hv)
  obtain ⟨fx, aw, rfl, h1, h2⟩ := hv.ex
  obtain ⟨A, cs, rfl⟩ := sv_slice hs
  unfold lenR
  by_cases hE : cerr n N X Y m M l S ≠ 0
  · rw [if_pos hE]
    exact len_bad fx aw _ _ w (Lib.hid hC) (by simp [hE]) (by simp [hE])
  · have hE0 := Classical.not_not.1 hE
    rw [if_neg hE]
    rw [hE0] at hC
    by_cases h64 : 64 < r
    · rw [if_pos h64]
      exact len_big fx aw A r cs w (Lib.hid hC) h64
    · rw [if_neg h64]
      have hg : ∀ k, k < n → good (X k) (Y k) := fun k hk => (fe_ok ((cerr_ok hE0).2.2.1 k hk)).2.2
      have key : (∀ j, 0 ≤ stp n N X Y T j ∧ stp n N X Y T j ≤ 3037000500) ∨ n = 0 := by
        rcases Nat.eq_zero_or_pos n with h0 | h0
        · exact Or.inr h0
        · exact Or.inl (stp_bd h0 hg)
      have hIX : IxC fx aw n N w := fun w1 s hb => indexC (fv_keep hb h1) s
      rcases key with key | h0
      · refine (len_w fx aw A r cs n N X Y T w (Lib.hid hC) (by omega) (Lib.hid h1) (Lib.hid hs) (Lib.hid hIX) (Lib.hid hg) (Lib.hid key)).mono ?_
        rintro e w' ⟨rfl, h⟩
        refine ⟨?_, h⟩
        by_cases hf : ferr (lerr n N T) r ≠ 0
        · rw [if_pos hf, if_pos hf]
        · rw [if_neg hf, if_neg hf]
      · subst h0
        refine (len_w fx aw A r cs 0 N (fun _ => 0) (fun _ => 0) T w (Lib.hid hC) (by omega) (Lib.hid ?_) (Lib.hid hs) (Lib.hid hIX) (Lib.hid fun k hk => absurd hk (Nat.not_lt_zero k)) (Lib.hid fun j => ?_)).mono ?_
        · rcases h1 with h | ⟨h, -⟩
          · exact Or.inl h
          · exact absurd h (Nat.lt_irrefl 0)
        · exact dup_bd' _ (sqr_nonneg _ _ _ _) (by unfold sqr; simp)
        · rintro e w' ⟨rfl, h⟩
          refine ⟨?_, h⟩
          by_cases hf : ferr (lerr 0 N T) r ≠ 0
          · rw [if_pos hf, if_pos hf]
          · rw [if_neg hf, if_neg hf]
            have hr0 : r = 0 := by
              rcases Nat.eq_zero_or_pos r with h | h
              · exact h
              · have := ferr_inv (Classical.not_not.1 hf) 0 h
                unfold lerr at this
                rw [show fix N (T 0) 0 = -1 from rfl, if_pos (by decide)] at this
                exact absurd this (by decide)
            subst hr0
            rfl
end Chart
end Go.Proofs.Ytokioemmjfjhkaa
