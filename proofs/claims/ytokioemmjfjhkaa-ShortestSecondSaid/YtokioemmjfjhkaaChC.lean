/- chart.checkAirway and chart.Check: what they return. -/
import Derived.Test.YtokioemmjfjhkaaChA
namespace Go.Proofs.Ytokioemmjfjhkaa
open Go.RowKit
namespace Chart
open Kit Plane Poly
/-- The first error of a list. -/
def ferr (e : Nat → Int) : Nat → Int
  | 0 => 0
  | k + 1 => if ferr e k ≠ 0 then ferr e k else e k
theorem ferr_zero {e : Nat → Int} : ∀ {n : Nat}, (∀ j, j < n → e j = 0) → ferr e n = 0
  | 0, _ => rfl
  | n + 1, h => by
    show (if ferr e n ≠ 0 then ferr e n else e n) = 0
    rw [ferr_zero fun j hj => h j (by omega), if_neg (by decide)]
    exact h n (by omega)
theorem ferr_at {e : Nat → Int} {k : Nat} (h : ∀ j, j < k → e j = 0) (hk : e k ≠ 0) : ∀ {n : Nat}, k < n → ferr e n = e k
  | 0, hn => by omega
  | n + 1, hn => by
    show (if ferr e n ≠ 0 then ferr e n else e n) = e k
    rcases Nat.lt_or_ge k n with hl | hl
    · rw [ferr_at h hk hl, if_pos hk]
    · obtain rfl : k = n := by omega
      rw [ferr_zero h, if_neg (by decide)]
theorem ferr_inv {e : Nat → Int} : ∀ {n : Nat}, ferr e n = 0 → ∀ j, j < n → e j = 0
  | 0, _, j, hj => by omega
  | n + 1, h, j, hj => by
    have h : (if ferr e n ≠ 0 then ferr e n else e n) = 0 := h
    by_cases h0 : ferr e n = 0
    · rw [if_neg (fun g => g h0)] at h
      rcases Nat.lt_or_ge j n with hl | hl
      · exact ferr_inv h0 j hl
      · rw [show j = n from by omega]; exact h
    · rw [if_pos h0] at h; exact absurd h h0
/-- The error at one name of an airway. -/
def nerr (n : Nat) (N : Nat → ByteArray) (X Y : Nat → Int) (S : Nat → ByteArray) (j : Nat) : Int :=
  if fix N (S j) n < 0 then 6 else if 0 ≤ fix S (S j) j then 7 else if 0 < j ∧ X (fix N (S j) n).toNat = X (fix N (S (j - 1)) n).toNat ∧ Y (fix N (S j) n).toNat = Y (fix N (S (j - 1)) n).toNat then 10 else 0
theorem nerr_next {n : Nat} {N : Nat → ByteArray} {X Y : Nat → Int} {T : Nat → ByteArray} {k : Nat} (h : ∀ j, j < k → nerr n N X Y T j = 0) (hk : nerr n N X Y T k = 0) : ∀ j, j < k + 1 → nerr n N X Y T j = 0 := fun j hj => by
  rcases Nat.lt_or_ge j k with hl | hl
  · exact h j hl
  · rw [show j = k from by omega]; exact hk
/-- checkAirway's error. -/
def aerr (n : Nat) (N : Nat → ByteArray) (X Y : Nat → Int) (M : Nat → ByteArray) (l : Nat → Nat) (S : Nat → Nat → ByteArray) (i : Nat) : Int :=
  if Name.nameB (M i) = false then 5 else if 0 ≤ fix N (M i) n ∨ 0 ≤ fix M (M i) i then 7 else if l i < 2 ∨ 24 < l i then 3 else ferr (nerr n N X Y (S i)) (l i)
/-- Two cells. -/
abbrev P2V (w : World) (b : Nat) (u v : Value) : Prop := w.cell? ⟨b, 0, none⟩ = some u ∧ w.cell? ⟨b, 1, none⟩ = some v
theorem p2v_keep {W w1 : World} (hb : Below W.heap.size W w1) {b : Nat} {u v : Value} (h : P2V W b u v) : P2V w1 b u v := ⟨keep hb h.1, keep hb h.2⟩
theorem p2v_new (w : World) (t : TypeId) (u v : Value) : P2V (w.alloc (.cells #[u, v] t)) w.heap.size u v := ⟨by simp, by simp⟩
theorem sv_take {w : World} {b off cap l : Nat} {S : Nat → ByteArray} (h : ∀ k, k < l → w.cell? ⟨b, off + k, none⟩ = some (.string (S k))) (hc : l ≤ cap) (hm : cap ≤ maxLen) {k : Nat} (hk : k ≤ l) : SV w (.slice (some ⟨b, off, none⟩) k cap) k S := by
  rcases Nat.eq_zero_or_pos k with rfl | h0
  · exact Or.inl ⟨rfl, Or.inr ⟨_, _, rfl, hm⟩⟩
  · exact Or.inr ⟨h0, b, off, cap, rfl, by omega, hm, fun j hj => h j (by omega)⟩
theorem av_take {w : World} {b off cap m : Nat} {M : Nat → ByteArray} {l : Nat → Nat} {S : Nat → Nat → ByteArray} (h : ∀ k, k < m → A2 w b off k (M k) (l k) (S k)) (hc : m ≤ cap) (hm : cap ≤ maxLen) {k : Nat} (hk : k ≤ m) : AV w (.slice (some ⟨b, off, none⟩) k cap) k M l S := by
  rcases Nat.eq_zero_or_pos k with rfl | h0
  · exact Or.inl ⟨rfl, Or.inr ⟨_, _, rfl, hm⟩⟩
  · exact Or.inr ⟨h0, b, off, cap, rfl, by omega, hm, fun j hj => h j (by omega)⟩
abbrev IxC (fx aw : Value) (n : Nat) (N : Nat → ByteArray) (w : World) : Prop := ∀ w1 s, Below w.heap.size w w1 → Calls Try.prog 36 #[.agg #[fx, aw], .string s] w1 fun e w' => e = .returned (.int .i64 (fix N s n)) ∧ Below w1.heap.size w1 w'
theorem sv_at {w : World} {v : Value} {n : Nat} {S : Nat → ByteArray} (h : SV w v n S) (h0 : 0 < n) : ∃ b off cap, v = .slice (some ⟨b, off, none⟩) n cap ∧ n ≤ cap ∧ cap ≤ maxLen ∧ ∀ k, k < n → w.cell? ⟨b, off + k, none⟩ = some (.string (S k)) := by
  rcases h with ⟨h1, -⟩ | ⟨-, h⟩
  · omega
  · exact h
theorem fv_at {w : World} {v : Value} {n : Nat} {N : Nat → ByteArray} {X Y : Nat → Int} (h : FV w v n N X Y) (h0 : 0 < n) : ∃ b off cap, v = .slice (some ⟨b, off, none⟩) n cap ∧ n ≤ cap ∧ cap ≤ maxLen ∧ ∀ k, k < n → E3 w b off k (N k) (X k) (Y k) := by
  rcases h with ⟨h1, -⟩ | ⟨-, h⟩
  · omega
  · exact h
set_option maxRecDepth 100000 in
set_option maxHeartbeats 8000000 in
theorem checkAirway_w (fx : Value) (n m cap b off i : Nat) (N : Nat → ByteArray) (X Y : Nat → Int) (M : Nat → ByteArray) (l : Nat → Nat) (S : Nat → Nat → ByteArray) (w : World) (hi : i < m) (hc : m ≤ cap) (_hm : cap ≤ 9223372036854775807) (hm' : Hid (cap ≤ maxLen)) (_hi9 : m ≤ 9223372036854775807)
    (HF : Hid (FV w fx n N X Y)) (HV : Hid (∀ k, k < m → A2 w b off k (M k) (l k) (S k))) (IX : Hid (IxC fx (.slice (some ⟨b, off, none⟩) m cap) n N w)) :
    Calls Try.prog 58 #[.agg #[fx, .slice (some ⟨b, off, none⟩) m cap], .int .i64 i] w fun e w' => e = .returned (.int .i64 (aerr n N X Y M l S i)) ∧ Below w.heap.size w w' := by
  obtain ⟨ca0, vi, ca1, hsv⟩ := HV.out i hi
  obtain ⟨A, ci, rfl⟩ := sv_slice hsv
  have BX0 := Lib.hid (p2v_keep (b_alloc (Below.refl _ _) (.cells #[.string (M i), .slice A (l i) ci] 44)) (p2v_new w 37 fx (.slice (some ⟨b, off, none⟩) m cap)))
  have ab := p2v_new (w.alloc (.cells #[fx, .slice (some ⟨b, off, none⟩) m cap] 37)) 44 (.string (M i)) (.slice A (l i) ci)
  rw [World.size_alloc] at ab
  have AB0 := Lib.hid ab; clear ab
  have W0 := Lib.hid (b_alloc (b_alloc (Below.refl w.heap.size w) (.cells #[fx, .slice (some ⟨b, off, none⟩) m cap] 37)) (.cells #[.string (M i), .slice A (l i) ci] 44))
  obtain ⟨R, hR⟩ : ∃ R, R = aerr n N X Y M l S i := ⟨_, rfl⟩
  rw [← hR]
  have HR := Lib.hid hR; clear hR
  have d0 := keep (b_alloc (Below.refl w.heap.size w) (.cells #[fx, .slice (some ⟨b, off, none⟩) m cap] 37)) ca0
  have d1 := keep (b_alloc (Below.refl w.heap.size w) (.cells #[fx, .slice (some ⟨b, off, none⟩) m cap] 37)) ca1
  have HSV := Lib.hid hsv; clear hsv ca0 ca1
  have hl : (i : Int) < (m : Int) := by omega
  have hmf : ∀ fn first cap w, (Instr.makeFunc fn first cap).run Try.prog w = .ok (.func fn first cap) w := fun _ _ _ _ => rfl
  go_enter Try.func58, Try.ntmps58
  go_wp2_with fail
  (with_reducible refine (Name.nameC (M i) _).mono ?_); rintro e w1 ⟨rfl, hb⟩
  have W1 := Lib.hid (b_next W0.out hb); have BX1 := Lib.hid (p2v_keep hb BX0.out); have AB1 := Lib.hid (p2v_keep hb AB0.out); clear hb d0 d1
  obtain ⟨x0, x1⟩ := BX1.out; obtain ⟨y0, y1⟩ := AB1.out
  have HR1 := HR.out
  unfold aerr at HR1
  clear HR
  cases hnm : Name.nameB (M i) with
  | false =>
    rw [if_pos hnm] at HR1
    subst HR1
    go_wp2_with fail
    all_goals (go_ret; exact ⟨rfl, W1.out⟩)
  | true =>
  rw [if_neg (by rw [hnm]; decide)] at HR1
  have HR2 := Lib.hid HR1; clear HR1
  go_wp2_with fail
  (with_reducible refine (IX.out _ _ W1.out).mono ?_); rintro e w2 ⟨rfl, hb⟩
  have W2 := Lib.hid (b_next W1.out hb); have BX2 := Lib.hid (p2v_keep hb BX1.out); have AB2 := Lib.hid (p2v_keep hb AB1.out); clear hb x0 x1 y0 y1
  obtain ⟨x0, x1⟩ := BX2.out; obtain ⟨y0, y1⟩ := AB2.out
  have HR1 := HR2.out; clear HR2
  by_cases hf : 0 ≤ fix N (M i) n
  · rw [if_pos (Or.inl hf)] at HR1
    subst HR1
    generalize fix N (M i) n = r at *
    go_wp2_with fail
    all_goals (go_ret; exact ⟨rfl, W2.out⟩)
  have HR2 := Lib.hid HR1; clear HR1
  have hf' : ¬ 0 ≤ fix N (M i) n := hf
  obtain ⟨r, hr⟩ : ∃ r, r = fix N (M i) n := ⟨_, rfl⟩
  rw [← hr] at hf ⊢
  have HRF := Lib.hid hr; clear hr hf'
  have HC := Lib.hid fun (w' : World) (hb : Below w2.heap.size w2 w') => acontC (av_keep (b_next W2.out hb) (av_take HV.out hc hm'.out (Nat.le_of_lt hi))) (w.heap.size + 1) (M i) (keep hb AB2.out.1)
  go_wp2_with fail
  (with_reducible refine (HC.out _ (Below.refl _ _)).mono ?_); rintro e w3 ⟨rfl, hb⟩
  have W3 := Lib.hid (b_next W2.out hb); have BX3 := Lib.hid (p2v_keep hb BX2.out); have AB3 := Lib.hid (p2v_keep hb AB2.out); clear hb x0 x1 y0 y1 HC
  obtain ⟨x0, x1⟩ := BX3.out; obtain ⟨y0, y1⟩ := AB3.out
  have HR1 := HR2.out; clear HR2
  rw [← HRF.out] at HR1
  by_cases hf2 : 0 ≤ fix M (M i) i
  · rw [if_pos (Or.inr hf2)] at HR1
    subst HR1
    generalize fix M (M i) i = r2 at *
    go_wp2_with fail
    all_goals (go_ret; exact ⟨rfl, W3.out⟩)
  rw [if_neg (fun h => h.elim (by omega) (by omega))] at HR1
  by_cases hl2 : l i < 2 ∨ 24 < l i
  · rw [if_pos hl2] at HR1
    subst HR1
    generalize fix M (M i) i = r2 at *
    rcases hl2 with hl2 | hl2
    · have h5 : (l i : Int) < 2 := by omega
      go_wp2_with fail
      all_goals (go_ret; exact ⟨rfl, W3.out⟩)
    · have h5 : (24 : Int) < (l i : Int) := by omega
      go_wp2_with fail
      all_goals (go_ret; exact ⟨rfl, W3.out⟩)
  rw [if_neg hl2] at HR1
  have HR2 := Lib.hid HR1; clear HR1
  generalize fix M (M i) i = r2 at *
  obtain ⟨b2, off2, ci', e1, hc1, hc2, hcs⟩ := sv_at HSV.out (by omega)
  injection e1 with e1 _ e3
  subst e1 e3
  have HS3 := Lib.hid hcs; have HC2 := Lib.hid hc2; clear hcs HSV
  have hc3 : ci ≤ 9223372036854775807 := Nat.le_trans hc2 (by decide)
  clear hc2
  obtain ⟨L, hL⟩ : ∃ L, L = l i := ⟨_, rfl⟩
  obtain ⟨T, hT⟩ : ∃ T, T = S i := ⟨_, rfl⟩
  rw [← hL] at HR2 HS3 hc1 hl2 AB3 y1 ⊢
  rw [← hT] at HR2 HS3
  have h5 : ¬ (L : Int) < 2 := by omega
  have h6 : ¬ (24 : Int) < (L : Int) := by omega
  clear hL hT AB2 AB1 AB0 BX2 BX1 BX0 W0 W1 W2
  go_wp2_with fail
  go_loopw [47] (fun s wr => ∃ k : Nat, k ≤ L ∧ s = .int .i64 k ∧ (∀ j, j < k → nerr n N X Y T j = 0) ∧ Below w3.heap.size w3 wr) (fun s _ => L - (intOf s).toNat)
  case atStart => exact ⟨0, Nat.zero_le _, rfl, fun j hj => absurd hj (Nat.not_lt_zero j), Below.refl _ _⟩
  case round =>
    obtain ⟨k, hk, rfl, hno, hbl⟩ := hrel
    have HN := Lib.hid hno; have HB := Lib.hid hbl; have W4 := Lib.hid (b_next W3.out hbl); clear hno
    have BX4 := Lib.hid (p2v_keep hbl BX3.out); have AB4 := Lib.hid (p2v_keep hbl AB3.out)
    clear hbl x0 x1 y0 y1
    obtain ⟨x0, x1⟩ := BX4.out; obtain ⟨y0, y1⟩ := AB4.out
    by_cases hlt : k < L
    · have s0 := keep W4.out (HS3.out k hlt)
      have hlk : (k : Int) < (L : Int) := by omega
      have HE : Hid (nerr n N X Y T k ≠ 0 → R = nerr n N X Y T k) := Lib.hid fun h => by rw [HR2.out]; exact ferr_at HN.out h hlt
      go_wp2_with fail
      (with_reducible refine (IX.out _ _ W4.out).mono ?_); rintro e w5 ⟨rfl, hb⟩
      have W5 := Lib.hid (b_next W4.out hb); have BX := Lib.hid (p2v_keep hb BX4.out); have AB := Lib.hid (p2v_keep hb AB4.out); have HB5 := Lib.hid (b_next HB.out hb); clear hb x0 x1 y0 y1 s0
      obtain ⟨x0, x1⟩ := BX.out; obtain ⟨y0, y1⟩ := AB.out
      have s0 := keep W5.out (HS3.out k hlt)
      have hbd := fnd_bd (fun j => decide (N j = T k)) n
      have he : nerr n N X Y T k = if fix N (T k) n < 0 then 6 else if 0 ≤ fix T (T k) k then 7 else if 0 < k ∧ X (fix N (T k) n).toNat = X (fix N (T (k - 1)) n).toNat ∧ Y (fix N (T k) n).toNat = Y (fix N (T (k - 1)) n).toNat then 10 else 0 := rfl
      by_cases h1 : fix N (T k) n < 0
      · rw [if_pos h1] at he
        have e6 : R = 6 := by rw [HE.out (by omega), he]
        subst e6
        generalize fix N (T k) n = r3 at *
        clear hbd
        go_wp2_with fail
        all_goals (go_ret; exact ⟨rfl, W5.out⟩)
      rw [if_neg h1] at he
      have hbd' : -1 ≤ fix N (T k) n ∧ fix N (T k) n < (n : Int) := hbd
      clear hbd
      have SC := Lib.hid fun (w' : World) (hb : Below w5.heap.size w5 w') => scontC (sv_keep (b_next W5.out hb) (sv_take HS3.out hc1 HC2.out hk)) (T k)
      obtain ⟨rn, hrn⟩ : ∃ rn : Nat, fix N (T k) n = (rn : Int) := ⟨(fix N (T k) n).toNat, by omega⟩
      rw [hrn, Int.toNat_natCast] at he
      rw [hrn] at h1 hbd' ⊢
      have hrl : rn < n := by omega
      have HE2 := Lib.hid he; clear he
      have hk1 : (k : Int) ≤ (L : Int) := by omega
      clear hbd'
      have HRN := Lib.hid hrn; clear hrn
      go_wp2_with fail
      (with_reducible refine (SC.out _ (Below.refl _ _)).mono ?_); rintro e w6 ⟨rfl, hb⟩
      have W6 := Lib.hid (b_next W5.out hb); have BX6 := Lib.hid (p2v_keep hb BX.out); have AB6 := Lib.hid (p2v_keep hb AB.out); have HB6 := Lib.hid (b_next HB5.out hb); clear hb x0 x1 y0 y1 s0 SC
      obtain ⟨x0, x1⟩ := BX6.out; obtain ⟨y0, y1⟩ := AB6.out
      have he := HE2.out; clear HE2
      by_cases h2 : 0 ≤ fix T (T k) k
      · rw [if_pos h2] at he
        have e7 : R = 7 := by rw [HE.out (by omega), he]
        subst e7
        generalize fix T (T k) k = r3 at *
        go_wp2_with fail
        all_goals (go_ret; exact ⟨rfl, W6.out⟩)
      rw [if_neg h2] at he
      generalize fix T (T k) k = r3 at *
      obtain ⟨bf, of', cf, rfl, hf1, hf2, HE3⟩ := fv_at (fv_keep W6.out HF.out) (by omega)
      have hf3 : cf ≤ 9223372036854775807 := Nat.le_trans hf2 (by decide)
      have XR := Lib.hid (HE3 rn hrl)
      have hrl' : (rn : Int) < (n : Int) := by omega
      by_cases hk0 : 0 < k
      · have hz : (0 : Int) < (k : Int) := by omega
        have hz2 := decide_eq_true hz
        have hprev := HN.out (k - 1) (by omega)
        have hge : ¬ fix N (T (k - 1)) n < 0 := fun h => by
          unfold nerr at hprev
          rw [if_pos h] at hprev; exact absurd hprev (by decide)
        have hbd2 : -1 ≤ fix N (T (k - 1)) n ∧ fix N (T (k - 1)) n < (n : Int) := fnd_bd _ n
        obtain ⟨rp, hrp⟩ : ∃ rp : Nat, fix N (T (k - 1)) n = (rp : Int) := ⟨(fix N (T (k - 1)) n).toNat, by omega⟩
        rw [hrp, Int.toNat_natCast] at he
        have YR := Lib.hid (HE3 rp (by omega))
        have hrp' : (rp : Int) < (n : Int) := by omega
        have SP := Lib.hid (keep W6.out (HS3.out (k - 1) (by omega)))
        have IX2 := Lib.hid fun (w' : World) (hb : Below w.heap.size w w') => IX.out w' (T (k - 1)) hb
        rw [hrp] at IX2
        have u1 : IntKind.i64.wrap ((k : Int) - 1) = ((k - 1 : Nat) : Int) := by rw [IntWalk.i64_in _ (by omega)]; omega
        have u2 : ((k - 1 : Nat) : Int) < (L : Int) := by omega
        have u3 : (k : Int) - 1 = ((k - 1 : Nat) : Int) := by omega
        have u4' : IntKind.i64.wrap ((k - 1 : Nat) : Int) = ((k - 1 : Nat) : Int) := IntWalk.i64_in _ (by omega)
        clear hprev hge hbd2 hrp x0 x1 y0 y1 HE3
        have HE4 := Lib.hid he; clear he
        generalize X rn = xa at *
        generalize Y rn = ya at *
        generalize X rp = xb at *
        generalize Y rp = yb at *
        have HE5 : Hid (∀ B : Bool, ((xa == xb) && (ya == yb)) = B → nerr n N X Y T k = if B then 10 else 0) := Lib.hid fun B hB => by
          rw [HE4.out]
          subst hB
          by_cases h1 : xa = xb <;> by_cases h2 : ya = yb <;> simp [h1, h2, hk0]
        obtain ⟨bx, hbx⟩ : ∃ bx, (xa == xb) = bx := ⟨_, rfl⟩
        obtain ⟨bY, hby⟩ : ∃ bY, (ya == yb) = bY := ⟨_, rfl⟩
        have HE6 := Lib.hid (HE5.out (bx && bY) (by rw [hbx, hby]))
        clear HE5 HE4
        cases bx <;> cases bY
        all_goals
          go_wp2_with fail
          refine d_region (by kernel_rfl) (by kernel_rfl) ?_
          repeat
            first
              | (refine d_plain (by with_reducible rfl) ?_; apply Exists.intro; refine ⟨fun wq hc hq => ?_, ?_⟩)
              | (refine d_on (by with_reducible rfl) (by rfl) (by with_reducible rfl) ?_; apply Exists.intro; refine ⟨fun wq hc hq => ?_, ?_⟩)
              | (refine d_off (by with_reducible rfl) (by rfl) (by rfl) ?_)
              | (refine d_void (by with_reducible rfl) (by rfl) ?_)
            try any_goals
              (obtain ⟨b0, b1⟩ := p2v_keep (cls hq) BX6.out; obtain ⟨a0, a1⟩ := p2v_keep (cls hq) AB6.out; obtain ⟨x0, x1, x2⟩ := e3_keep (cls hq) XR.out; obtain ⟨y0, y1, y2⟩ := e3_keep (cls hq) YR.out; have s0 := keep (cls hq) SP.out; clear hc
               go_simp
               first
                 | rfl
                 | (go_at_call 36; with_reducible exact call_below hq (IX2.out _ (b_next W6.out (cls hq)))))
            simp only [Act.put, List.setIfInBounds_toArray, List.set_cons_zero, List.set_cons_succ]
          refine d_nil ?_
          intro w7 hb7
          have W7 := Lib.hid (b_next W6.out hb7); have HB7 := Lib.hid (b_next HB6.out hb7); clear hb7
          have he := HE6.out
          first
            | (have he : nerr n N X Y T k = 10 := he
               have e10 : R = 10 := by rw [HE.out (by omega), he]
               subst e10
               go_wp2_with fail
               all_goals (go_ret; exact ⟨rfl, W7.out⟩))
            | (have he0 : nerr n N X Y T k = 0 := he
               have HZ := Lib.hid he0
               clear he he0
               go_wp2_with fail
               exact ⟨⟨k + 1, by omega, by go_num, nerr_next HN.out HZ.out, HB7.out⟩, by simp [intOf]; omega⟩)
      · have hz : ¬ (0 : Int) < (k : Int) := by omega
        have hz2 := decide_eq_false hz
        rw [if_neg (fun h => hk0 h.1)] at he
        have HZ := Lib.hid he
        clear he x0 x1 y0 y1 HE3
        go_wp2_with fail
        refine d_region (by kernel_rfl) (by kernel_rfl) ?_
        repeat
          first
            | (refine d_plain (by with_reducible rfl) ?_; apply Exists.intro; refine ⟨fun wq hc hq => ?_, ?_⟩)
            | (refine d_on (by with_reducible rfl) (by rfl) (by with_reducible rfl) ?_; apply Exists.intro; refine ⟨fun wq hc hq => ?_, ?_⟩)
            | (refine d_off (by with_reducible rfl) (by rfl) (by rfl) ?_)
            | (refine d_void (by with_reducible rfl) (by rfl) ?_)
          try any_goals
            (skip; clear hc
             go_simp
             first
               | rfl)
          simp only [Act.put, List.setIfInBounds_toArray, List.set_cons_zero, List.set_cons_succ]
        refine d_nil ?_
        intro w7 hb7
        have HB7 := Lib.hid (b_next HB6.out hb7); clear hb7
        go_wp2_with fail
        exact ⟨⟨k + 1, by omega, by go_num, nerr_next HN.out HZ.out, HB7.out⟩, by simp [intOf]; omega⟩
    · have hkn : k = L := by omega
      have hlk : ¬ (k : Int) < (L : Int) := by omega
      have e0 : R = 0 := by rw [HR2.out]; exact ferr_zero (fun j hj => HN.out j (by omega))
      subst e0
      go_wp2_with fail
      all_goals (go_ret; exact ⟨rfl, W4.out⟩)
end Chart
end Go.Proofs.Ytokioemmjfjhkaa
