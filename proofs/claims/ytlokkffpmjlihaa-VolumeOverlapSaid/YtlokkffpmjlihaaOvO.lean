/- polygon.Overlap: what it returns, over a contract of enters. -/
import Derived.Test.YtlokkffpmjlihaaOvP
namespace Go.Proofs.Ytlokkffpmjlihaa
open Go.RowKit
namespace Over
open Kit Plane Poly Vol
/-- Edge i of p crosses one of the first k edges of q. -/
def xr (n : Nat) (X Y : Nat → Int) (m : Nat) (U V : Nat → Int) (i : Nat) : Nat → Bool
  | 0 => false
  | k + 1 => xr n X Y m U V i k || crossB (X i) (Y i) (X (nx n i)) (Y (nx n i)) (U k) (V k) (U (nx m k)) (V (nx m k))
/-- One of the first i edges of p crosses an edge of q. -/
def xa (n : Nat) (X Y : Nat → Int) (m : Nat) (U V : Nat → Int) : Nat → Bool
  | 0 => false
  | i + 1 => xa n X Y m U V i || xr n X Y m U V i m
section
variable {n : Nat} {X Y : Nat → Int} {m : Nat} {U V : Nat → Int}
theorem xr_iff {i : Nat} : ∀ {k : Nat}, xr n X Y m U V i k = true ↔ ∃ j, j < k ∧ crossB (X i) (Y i) (X (nx n i)) (Y (nx n i)) (U j) (V j) (U (nx m j)) (V (nx m j)) = true
  | 0 => ⟨fun h => (by cases h), fun ⟨j, hj, _⟩ => absurd hj (Nat.not_lt_zero j)⟩
  | k + 1 => by
    show (xr n X Y m U V i k || _) = true ↔ _
    rw [Bool.or_eq_true, xr_iff]
    constructor
    · rintro (⟨j, hj, h⟩ | h)
      · exact ⟨j, by omega, h⟩
      · exact ⟨k, by omega, h⟩
    · rintro ⟨j, hj, h⟩
      rcases Nat.lt_or_ge j k with hl | hl
      · exact Or.inl ⟨j, hl, h⟩
      · rw [show j = k from by omega] at h; exact Or.inr h
theorem xa_iff : ∀ {i : Nat}, xa n X Y m U V i = true ↔ ∃ a, a < i ∧ xr n X Y m U V a m = true
  | 0 => ⟨fun h => (by cases h), fun ⟨j, hj, _⟩ => absurd hj (Nat.not_lt_zero j)⟩
  | i + 1 => by
    show (xa n X Y m U V i || xr n X Y m U V i m) = true ↔ _
    rw [Bool.or_eq_true, xa_iff]
    constructor
    · rintro (⟨j, hj, h⟩ | h)
      · exact ⟨j, by omega, h⟩
      · exact ⟨i, by omega, h⟩
    · rintro ⟨j, hj, h⟩
      rcases Nat.lt_or_ge j i with hl | hl
      · exact Or.inl ⟨j, hl, h⟩
      · rw [show j = i from by omega] at h; exact Or.inr h
end
abbrev P2V (w : World) (b : Nat) (u v : Value) : Prop := w.cell? ⟨b, 0, none⟩ = some u ∧ w.cell? ⟨b, 1, none⟩ = some v
theorem p2v_keep {W w1 : World} (hb : Below W.heap.size W w1) {b : Nat} {u v : Value} (h : P2V W b u v) : P2V w1 b u v := ⟨keep hb h.1, keep hb h.2⟩
theorem p2v_new (w : World) (t : TypeId) (u v : Value) : P2V (w.alloc (.cells #[u, v] t)) w.heap.size u v := ⟨by simp, by simp⟩
set_option maxHeartbeats 2000000 in
theorem ov_bad (A B : Option Addr) (n c m d : Nat) (E F : Int) (w : World) (CP : Hid (CkC (.slice A n c) E w)) (CQ : Hid (CkC (.slice B m d) F w)) (h : E ≠ 0 ∨ F ≠ 0) :
    Calls Try.prog 31 #[.slice A n c, .slice B m d] w fun e w' => e = .returned (.tuple #[.bool false, .int .i64 (if E ≠ 0 then E else F)]) ∧ Below w.heap.size w w' := by
  have W0 := Lib.hid (b_alloc (Below.refl w.heap.size w) (.cells #[.slice A n c, .slice B m d] 46))
  have P0 := Lib.hid (p2v_new w 46 (.slice A n c) (.slice B m d))
  obtain ⟨R, hR⟩ : ∃ R, R = if E ≠ 0 then E else F := ⟨_, rfl⟩
  rw [← hR]
  have HR := Lib.hid hR; clear hR
  go_enter Try.func31, Try.ntmps31
  go_wp2_with fail
  obtain ⟨w0, hw0⟩ : ∃ w0, w0 = w.alloc (.cells #[.slice A n c, .slice B m d] 46) := ⟨_, rfl⟩
  rw [← hw0] at W0 P0 ⊢
  clear hw0
  go_loopw [15] (fun s wr => (s = .int .i64 0 ∨ (s = .int .i64 1 ∧ E = 0)) ∧ Below w0.heap.size w0 wr) (fun s _ => 2 - (intOf s).toNat)
  case atStart => exact ⟨Or.inl rfl, Below.refl _ _⟩
  case round =>
    obtain ⟨hs, hbl⟩ := hrel
    have HB := Lib.hid hbl; have W1 := Lib.hid (b_next W0.out hbl)
    obtain ⟨x0, x1⟩ := p2v_keep hbl P0.out
    clear hbl
    rcases hs with rfl | ⟨rfl, hE⟩
    · go_wp2_with fail
      (with_reducible refine (CP.out _ W1.out).mono ?_); rintro e w2 ⟨rfl, hb⟩
      have W2 := Lib.hid (b_next W1.out hb); have HB2 := Lib.hid (b_next HB.out hb); clear hb x0 x1
      by_cases hE : E = 0
      · subst hE
        go_wp2_with fail
        exact ⟨⟨Or.inr ⟨rfl, by first | rfl | trivial⟩, HB2.out⟩, by simp [intOf]⟩
      · have z1 : (E == 0) = false := by simp [hE]
        have z2 : (E != 0) = true := by simp [hE]
        have e := HR.out
        rw [if_pos hE] at e
        have HE := Lib.hid e; clear e
        go_wp2_with fail
        all_goals (go_ret2; exact ⟨by rw [HE.out]; rfl, W2.out⟩)
    · have hF : F ≠ 0 := by
        rcases h with h | h
        · exact absurd hE h
        · exact h
      go_wp2_with fail
      (with_reducible refine (CQ.out _ W1.out).mono ?_); rintro e w2 ⟨rfl, hb⟩
      have W2 := Lib.hid (b_next W1.out hb); clear hb x0 x1
      have z1 : (F == 0) = false := by simp [hF]
      have z2 : (F != 0) = true := by simp [hF]
      have e := HR.out
      rw [if_neg (fun g => g hE)] at e
      have HE := Lib.hid e; clear e
      go_wp2_with fail
      all_goals (go_ret2; exact ⟨by rw [HE.out]; rfl, W2.out⟩)
set_option maxRecDepth 100000 in
set_option maxHeartbeats 8000000 in
theorem ov_w (n c b off m d b' off' : Nat) (X Y U V : Nat → Int) (B1 B2 : Bool) (w : World) (_h0 : 0 < n) (_h1 : 0 < m) (_hn : n ≤ 16) (_hm : m ≤ 16) (hc : n ≤ c) (hd : m ≤ d) (hc9 : c ≤ 9223372036854775807) (hd9 : d ≤ 9223372036854775807)
    (CP : Hid (CkC (.slice (some ⟨b, off, none⟩) n c) 0 w)) (CQ : Hid (CkC (.slice (some ⟨b', off', none⟩) m d) 0 w)) (HP : Hid (∀ k, k < n → E2 w b off k (X k) (Y k))) (HQ : Hid (∀ k, k < m → E2 w b' off' k (U k) (V k)))
    (NPC : Hid (∀ k, k < n → NxC (.slice (some ⟨b, off, none⟩) n c) n X Y k w)) (NQC : Hid (∀ k, k < m → NxC (.slice (some ⟨b', off', none⟩) m d) m U V k w))
    (CX : Hid (∀ i, i < n → ∀ k, k < m → CrC (X i) (Y i) (X (nx n i)) (Y (nx n i)) (U k) (V k) (U (nx m k)) (V (nx m k)) (crossB (X i) (Y i) (X (nx n i)) (Y (nx n i)) (U k) (V k) (U (nx m k)) (V (nx m k)))))
    (DP : Hid (∀ w1, Below w.heap.size w w1 → Calls Try.prog 70 #[.slice (some ⟨b, off, none⟩) n c] w1 fun e w' => (∃ q, e = .returned q ∧ QV w' q n (fun k => 2 * X k) (fun k => 2 * Y k)) ∧ Below w1.heap.size w1 w'))
    (DQ : Hid (∀ w1, Below w.heap.size w w1 → Calls Try.prog 70 #[.slice (some ⟨b', off', none⟩) m d] w1 fun e w' => (∃ q, e = .returned q ∧ QV w' q m (fun k => 2 * U k) (fun k => 2 * V k)) ∧ Below w1.heap.size w1 w'))
    (EN1 : Hid (∀ w1 u v, QV w1 u n (fun k => 2 * X k) (fun k => 2 * Y k) → QV w1 v m (fun k => 2 * U k) (fun k => 2 * V k) → Calls Try.prog 71 #[u, v] w1 fun e w' => e = .returned (.bool B1) ∧ Below w1.heap.size w1 w'))
    (EN2 : Hid (∀ w1 u v, QV w1 u n (fun k => 2 * X k) (fun k => 2 * Y k) → QV w1 v m (fun k => 2 * U k) (fun k => 2 * V k) → Calls Try.prog 71 #[v, u] w1 fun e w' => e = .returned (.bool B2) ∧ Below w1.heap.size w1 w')) :
    Calls Try.prog 31 #[.slice (some ⟨b, off, none⟩) n c, .slice (some ⟨b', off', none⟩) m d] w fun e w' => e = .returned (.tuple #[.bool (xa n X Y m U V n || (B1 || B2)), .int .i64 0]) ∧ Below w.heap.size w w' := by
  have W0 := Lib.hid (b_alloc (Below.refl w.heap.size w) (.cells #[.slice (some ⟨b, off, none⟩) n c, .slice (some ⟨b', off', none⟩) m d] 46))
  have P0 := Lib.hid (p2v_new w 46 (.slice (some ⟨b, off, none⟩) n c) (.slice (some ⟨b', off', none⟩) m d))
  obtain ⟨R, hR⟩ : ∃ R, R = (xa n X Y m U V n || (B1 || B2)) := ⟨_, rfl⟩
  rw [← hR]
  have HR := Lib.hid hR; clear hR
  go_enter Try.func31, Try.ntmps31
  go_wp2_with fail
  obtain ⟨w0, hw0⟩ : ∃ w0, w0 = w.alloc (.cells #[.slice (some ⟨b, off, none⟩) n c, .slice (some ⟨b', off', none⟩) m d] 46) := ⟨_, rfl⟩
  rw [← hw0] at W0 P0 ⊢
  clear hw0
  go_loopw [15] (fun s wr => (s = .int .i64 0 ∨ s = .int .i64 1 ∨ s = .int .i64 2) ∧ Below w0.heap.size w0 wr) (fun s _ => 2 - (intOf s).toNat)
  case atStart => exact ⟨Or.inl rfl, Below.refl _ _⟩
  case round =>
    obtain ⟨hs, hbl⟩ := hrel
    have HB := Lib.hid hbl; have W1 := Lib.hid (b_next W0.out hbl)
    obtain ⟨x0, x1⟩ := p2v_keep hbl P0.out
    clear hbl
    rcases hs with rfl | rfl | rfl
    · go_wp2_with fail
      (with_reducible refine (CP.out _ W1.out).mono ?_); rintro e w2 ⟨rfl, hb⟩
      have HB2 := Lib.hid (b_next HB.out hb); clear hb x0 x1
      go_wp2_with fail
      exact ⟨⟨Or.inr (Or.inl rfl), HB2.out⟩, by simp [intOf]⟩
    · go_wp2_with fail
      (with_reducible refine (CQ.out _ W1.out).mono ?_); rintro e w2 ⟨rfl, hb⟩
      have HB2 := Lib.hid (b_next HB.out hb); clear hb x0 x1
      go_wp2_with fail
      exact ⟨⟨Or.inr (Or.inr rfl), HB2.out⟩, by simp [intOf]⟩
    · clear x0 x1
      obtain ⟨wa, hwa⟩ : ∃ wa : World, wa = wr := ⟨_, rfl⟩
      subst hwa
      go_wp2_with fail
      go_loopw [27] (fun s wq => ∃ i : Nat, i ≤ n ∧ s = .int .i64 i ∧ xa n X Y m U V i = false ∧ Below wa.heap.size wa wq) (fun s _ => n - (intOf s).toNat)
      case atStart => exact ⟨0, Nat.zero_le _, rfl, rfl, Below.refl _ _⟩
      case round =>
        obtain ⟨i, hi, rfl, hxa, hbl⟩ := hrel
        have HA := Lib.hid hxa; have HC := Lib.hid hbl; clear hxa
        by_cases hlt : i < n
        · have hl : (i : Int) < (n : Int) := by omega
          obtain ⟨we, hwe⟩ : ∃ we : World, we = wr := ⟨_, rfl⟩
          subst hwe
          have WE := Lib.hid (b_next W1.out hbl)
          clear hbl
          go_wp2_with fail
          go_loopw [32] (fun s wq => ∃ k : Nat, k ≤ m ∧ s = .int .i64 k ∧ xr n X Y m U V i k = false ∧ Below we.heap.size we wq) (fun s _ => m - (intOf s).toNat)
          case atStart => exact ⟨0, Nat.zero_le _, rfl, rfl, Below.refl _ _⟩
          case round =>
            obtain ⟨k, hk, rfl, hxr, hbl⟩ := hrel
            have HK := Lib.hid hxr; have HD := Lib.hid hbl; have W2 := Lib.hid (b_next WE.out hbl); clear hxr
            by_cases hlk : k < m
            · have hl2 : (k : Int) < (m : Int) := by omega
              have ea := e2_keep W2.out (HP.out i hlt); have eb := e2_keep W2.out (HQ.out k hlk)
              have A0 := Lib.hid ea.1; have A1 := Lib.hid ea.2; have B0 := Lib.hid eb.1; have B1' := Lib.hid eb.2
              have NP := Lib.hid (NPC.out i hlt); have NQ := Lib.hid (NQC.out k hlk); have CC := Lib.hid (CX.out i hlt k hlk)
              have HX : Hid (∀ v, crossB (X i) (Y i) (X (nx n i)) (Y (nx n i)) (U k) (V k) (U (nx m k)) (V (nx m k)) = v → (v = true → R = true) ∧ (v = false → xr n X Y m U V i (k + 1) = false)) := Lib.hid fun v hv => ⟨fun h => by
                rw [HR.out, xa_iff.2 ⟨i, hlt, xr_iff.2 ⟨k, hlk, by rw [hv, h]⟩⟩]; rfl, fun h => by
                show (xr n X Y m U V i k || crossB (X i) (Y i) (X (nx n i)) (Y (nx n i)) (U k) (V k) (U (nx m k)) (V (nx m k))) = false
                rw [HK.out, hv, h]; rfl⟩
              clear ea eb hbl
              generalize crossB (X i) (Y i) (X (nx n i)) (Y (nx n i)) (U k) (V k) (U (nx m k)) (V (nx m k)) = v at *
              have HV := Lib.hid (HX.out v rfl)
              clear HX
              go_wp2_with fail
              refine d_region (by kernel_rfl) (by kernel_rfl) ?_
              repeat
                first
                  | (refine d_plain (by with_reducible rfl) ?_; apply Exists.intro; refine ⟨fun wq hc hq => ?_, ?_⟩)
                  | (refine d_on (by with_reducible rfl) (by rfl) (by with_reducible rfl) ?_; apply Exists.intro; refine ⟨fun wq hc hq => ?_, ?_⟩)
                  | (refine d_off (by with_reducible rfl) (by rfl) (by rfl) ?_)
                  | (refine d_void (by with_reducible rfl) (by rfl) ?_)
                try any_goals
                  (have q0 := keep (cls hq) A0.out; have q1 := keep (cls hq) A1.out; have q2 := keep (cls hq) B0.out; have q3 := keep (cls hq) B1'.out; clear hc
                   go_simp
                   first
                     | rfl
                     | (go_at_call 69; with_reducible exact call_below hq (NP.out _ (b_next W2.out (cls hq))))
                     | (go_at_call 69; with_reducible exact call_below hq (NQ.out _ (b_next W2.out (cls hq))))
                     | (go_at_call 68; with_reducible exact call_below hq (CC.out _)))
                simp only [Act.put, List.setIfInBounds_toArray, List.set_cons_zero, List.set_cons_succ]
              refine d_nil ?_
              intro w3 hb3
              have W3 := Lib.hid (b_next W2.out hb3); have HD3 := Lib.hid (b_next HD.out hb3); clear hb3
              cases v with
              | true =>
                have e := HV.out.1 rfl
                subst e
                go_wp2_with fail
                all_goals (go_ret2; exact ⟨rfl, W3.out⟩)
              | false =>
                have HZ := Lib.hid (HV.out.2 rfl)
                go_wp2_with fail
                exact ⟨⟨k + 1, by omega, by go_num, HZ.out, HD3.out⟩, by simp [intOf]; omega⟩
            · have hkm : k = m := by omega
              have hl2 : ¬ (k : Int) < (m : Int) := by omega
              have HZ : Hid (xa n X Y m U V (i + 1) = false) := Lib.hid (by
                show (xa n X Y m U V i || xr n X Y m U V i m) = false
                have q := HK.out; rw [hkm] at q; rw [HA.out, q]; rfl)
              have HC2 := Lib.hid (b_next HC.out hbl); clear hbl
              go_wp2_with fail
              exact ⟨⟨i + 1, by omega, by go_num, HZ.out, HC2.out⟩, by simp [intOf]; omega⟩
        · have hin : i = n := by omega
          have hl : ¬ (i : Int) < (n : Int) := by omega
          have W2 := Lib.hid (b_next W1.out hbl); clear hbl
          have HR2 : Hid (R = (B1 || B2)) := Lib.hid (by have q := HA.out; rw [hin] at q; rw [HR.out, q]; rfl)
          go_wp2_with fail
          (with_reducible refine (DP.out _ W2.out).mono ?_); rintro e w3 ⟨⟨u, rfl, hu⟩, hb⟩
          have W3 := Lib.hid (b_next W2.out hb); have U3 := Lib.hid hu; clear hb hu
          go_wp2_with fail
          (with_reducible refine (DQ.out _ W3.out).mono ?_); rintro e w4 ⟨⟨v, rfl, hv⟩, hb⟩
          have W4 := Lib.hid (b_next W3.out hb); have U4 := Lib.hid (qv_keep hb U3.out); have V4 := Lib.hid hv; clear hb hv
          have E1 := Lib.hid (EN1.out w4 u v U4.out V4.out)
          go_wp2_with fail
          (with_reducible refine E1.out.mono ?_); rintro e w5 ⟨rfl, hb⟩
          have W5 := Lib.hid (b_next W4.out hb); have E2' := Lib.hid (EN2.out w5 u v (qv_keep hb U4.out) (qv_keep hb V4.out)); clear hb
          cases B1 with
          | true =>
            have e := HR2.out
            rw [Bool.true_or] at e
            subst e
            go_wp2_with fail
            all_goals (go_ret2; exact ⟨rfl, W5.out⟩)
          | false =>
            have e := HR2.out
            rw [Bool.false_or] at e
            subst e
            go_wp2_with fail
            (with_reducible refine E2'.out.mono ?_); rintro e w6 ⟨rfl, hb⟩
            have W6 := Lib.hid (b_next W5.out hb); clear hb
            go_wp2_with fail
            all_goals (go_ret2; exact ⟨rfl, W6.out⟩)
end Over
end Go.Proofs.Ytlokkffpmjlihaa
