/- SameTexts, the sample chart, and the fixed example of charts. -/
import Derived.Test.YtokioemmjfjhkaaChL
namespace Go.Proofs.Ytokioemmjfjhkaa
open Go.RowKit
namespace Chart
open Kit Plane Poly
def allB (p : Nat → Bool) : Nat → Bool
  | 0 => true
  | k + 1 => allB p k && p k
theorem allB_stop {p : Nat → Bool} {k : Nat} (h : p k = false) : ∀ {n : Nat}, k < n → allB p n = false
  | 0, hn => by omega
  | n + 1, hn => by
    show (allB p n && p n) = false
    rcases Nat.lt_or_ge k n with hl | hl
    · rw [allB_stop h hl]; rfl
    · rw [show n = k from by omega, h, Bool.and_false]
theorem allB_iff {p : Nat → Bool} : ∀ {n : Nat}, allB p n = true ↔ ∀ k, k < n → p k = true
  | 0 => ⟨fun _ k hk => by omega, fun _ => rfl⟩
  | n + 1 => by
    show (allB p n && p n) = true ↔ _
    rw [Bool.and_eq_true, allB_iff]
    exact ⟨fun h k hk => by
      rcases Nat.lt_or_ge k n with hl | hl
      · exact h.1 k hl
      · rw [show k = n from by omega]; exact h.2, fun h => ⟨fun k hk => h k (by omega), h n (by omega)⟩⟩
/-- Two lists of names are the same. -/
def sameB (n : Nat) (S : Nat → ByteArray) (m : Nat) (T : Nat → ByteArray) : Bool := decide (n = m) && allB (fun k => decide (S k = T k)) n
set_option maxRecDepth 100000 in
set_option maxHeartbeats 4000000 in
theorem same_w (A B : Option Addr) (n c m d : Nat) (S T : Nat → ByteArray) (w : World) (hc9 : n ≤ c ∧ c ≤ maxLen) (hd9 : m ≤ d ∧ d ≤ maxLen) (HS : Hid (SV w (.slice A n c) n S)) (HT : Hid (SV w (.slice B m d) m T)) :
    Calls Try.prog 24 #[.slice A n c, .slice B m d] w fun e w' => e = .returned (.bool (sameB n S m T)) ∧ Below w.heap.size w w' := by
  obtain ⟨R, hR⟩ : ∃ R, R = sameB n S m T := ⟨_, rfl⟩
  rw [← hR]
  unfold sameB at hR
  have k1 : maxLen ≤ 9223372036854775807 := by decide
  go_enter Try.func24, Try.ntmps24
  by_cases hnm : n = m
  · subst hnm
    rw [decide_eq_true rfl, Bool.true_and] at hR
    have HR := Lib.hid hR; clear hR
    go_wp2_with fail
    go_loopw [13] (fun s wr => ∃ k : Nat, k ≤ n ∧ s = .int .i64 k ∧ allB (fun k => decide (S k = T k)) k = true ∧ Below w.heap.size w wr) (fun s _ => n - (intOf s).toNat)
    case atStart => exact ⟨0, Nat.zero_le _, rfl, rfl, Below.refl _ _⟩
    case round =>
      obtain ⟨k, hk, rfl, hal, hbl⟩ := hrel
      have HA := Lib.hid hal; clear hal
      by_cases hlt : k < n
      · have hl : (k : Int) < (n : Int) := by omega
        obtain ⟨b1, o1, c', e, hc1, hc2, h1⟩ := sv_at (sv_keep hbl HS.out) (by omega)
        injection e with e1 _ e3
        subst e1 e3
        obtain ⟨b2, o2, d', e, hd1, hd2, h2⟩ := sv_at (sv_keep hbl HT.out) (by omega)
        injection e with e1 _ e3
        subst e1 e3
        have C0 := Lib.hid (h1 k hlt); have C1 := Lib.hid (h2 k hlt)
        have hq := seq_eq (S k) (T k)
        have hc3 : c ≤ 9223372036854775807 := by omega
        have hd3 : d ≤ 9223372036854775807 := by omega
        have HN : Hid (∀ v, decide (S k = T k) = v → (v = false → R = false) ∧ (v = true → allB (fun k => decide (S k = T k)) (k + 1) = true)) := Lib.hid fun v hv => ⟨fun h => by rw [HR.out]; exact allB_stop (by rw [← h]; exact hv) hlt, fun h => by
          show (allB (fun k => decide (S k = T k)) k && decide (S k = T k)) = true
          rw [HA.out, hv, h]; rfl⟩
        have HB := Lib.hid hbl
        clear hbl h1 h2
        obtain ⟨v, hv⟩ : ∃ v, v = decide (S k = T k) := ⟨_, rfl⟩
        have HV := Lib.hid (HN.out v hv.symm)
        rw [← hv] at hq
        clear HN hv
        generalize S k = x at *
        generalize T k = y at *
        cases v with
        | false =>
          have e0 := HV.out.1 rfl
          subst e0
          go_wp2_with fail
          refine d_region (by kernel_rfl) (by kernel_rfl) ?_
          repeat
            first
              | (refine d_plain (by with_reducible rfl) ?_; apply Exists.intro; refine ⟨fun wq hc hq => ?_, ?_⟩)
              | (refine d_on (by with_reducible rfl) (by rfl) (by with_reducible rfl) ?_; apply Exists.intro; refine ⟨fun wq hc hq => ?_, ?_⟩)
              | (refine d_off (by with_reducible rfl) (by rfl) (by rfl) ?_)
              | (refine d_void (by with_reducible rfl) (by rfl) ?_)
            try any_goals
              (have q0 := keep (cls hq) C0.out; have q1 := keep (cls hq) C1.out; clear hc
               go_simp
               first
                 | rfl)
            simp only [Act.put, List.setIfInBounds_toArray, List.set_cons_zero, List.set_cons_succ]
          refine d_nil ?_
          intro w2 hb2
          have W2 := Lib.hid (b_next HB.out hb2); clear hb2
          go_wp2_with fail
          all_goals (go_ret; exact ⟨rfl, W2.out⟩)
        | true =>
          have HZ := Lib.hid (HV.out.2 rfl)
          clear HV
          go_wp2_with fail
          refine d_region (by kernel_rfl) (by kernel_rfl) ?_
          repeat
            first
              | (refine d_plain (by with_reducible rfl) ?_; apply Exists.intro; refine ⟨fun wq hc hq => ?_, ?_⟩)
              | (refine d_on (by with_reducible rfl) (by rfl) (by with_reducible rfl) ?_; apply Exists.intro; refine ⟨fun wq hc hq => ?_, ?_⟩)
              | (refine d_off (by with_reducible rfl) (by rfl) (by rfl) ?_)
              | (refine d_void (by with_reducible rfl) (by rfl) ?_)
            try any_goals
              (have q0 := keep (cls hq) C0.out; have q1 := keep (cls hq) C1.out; clear hc
               go_simp
               first
                 | rfl)
            simp only [Act.put, List.setIfInBounds_toArray, List.set_cons_zero, List.set_cons_succ]
          refine d_nil ?_
          intro w2 hb2
          have W2 := Lib.hid (b_next HB.out hb2); clear hb2
          go_wp2_with fail
          exact ⟨⟨k + 1, by omega, by go_num, HZ.out, W2.out⟩, by simp [intOf]; omega⟩
      · have hkn : k = n := by omega
        have hl : ¬ (k : Int) < (n : Int) := by omega
        have e0 : R = true := by rw [HR.out, ← hkn]; exact HA.out
        subst e0
        go_wp2_with fail
        all_goals (go_ret; exact ⟨rfl, hbl⟩)
  · rw [decide_eq_false hnm, Bool.false_and] at hR
    subst hR
    have h1 : ¬ (n : Int) = (m : Int) := by omega
    go_wp2_with fail
    all_goals (go_ret; exact ⟨rfl, Below.refl _ _⟩)
theorem sv_len {w : World} {v : Value} {n : Nat} {S : Nat → ByteArray} (h : SV w v n S) : ∃ A cap, v = .slice A n cap ∧ n ≤ cap ∧ cap ≤ maxLen := by
  rcases h with ⟨rfl, h⟩ | ⟨h0, b, off, cap, rfl, h1, h2, h3⟩
  · rcases h with rfl | ⟨a, cap, rfl, hc⟩
    · exact ⟨_, _, rfl, Nat.le_refl _, Nat.zero_le _⟩
    · exact ⟨_, _, rfl, Nat.zero_le _, hc⟩
  · exact ⟨_, _, rfl, h1, h2⟩
theorem sameC {u v : Value} {n m : Nat} {S T : Nat → ByteArray} {w : World} (hu : SV w u n S) (hv : SV w v m T) :
    Calls Try.prog 24 #[u, v] w fun e w' => e = .returned (.bool (sameB n S m T)) ∧ Below w.heap.size w w' := by
  obtain ⟨A, c, rfl, h1, h2⟩ := sv_len hu
  obtain ⟨B, d, rfl, h3, h4⟩ := sv_len hv
  exact same_w A B n c m d S T w ⟨h1, h2⟩ ⟨h3, h4⟩ (Lib.hid hu) (Lib.hid hv)
/-- The sample chart. -/
def smN (k : Nat) : ByteArray := if k = 0 then ⟨#[65]⟩ else if k = 1 then ⟨#[66]⟩ else if k = 2 then ⟨#[67]⟩ else ⟨#[68]⟩
def smX (k : Nat) : Int := if k = 0 then 0 else if k = 1 then 3000 else 6000
def smY (k : Nat) : Int := if k = 0 then 0 else if k = 1 then 4000 else if k = 2 then 8000 else 9000
def smM (_ : Nat) : ByteArray := ⟨#[85, 76, 49]⟩
def smL (_ : Nat) : Nat := 4
def smS (_ : Nat) : Nat → ByteArray := smN
theorem sm_ok : cerr 4 smN smX smY 1 smM smL smS = 0 := by decide +kernel
/-- The blocks of the sample chart. -/
def smF : Array Value := #[.string ⟨#[65]⟩, .int .i64 0, .int .i64 0, .string ⟨#[66]⟩, .int .i64 3000, .int .i64 4000, .string ⟨#[67]⟩, .int .i64 6000, .int .i64 8000, .string ⟨#[68]⟩, .int .i64 6000, .int .i64 9000]
def smT : Array Value := #[.string ⟨#[65]⟩, .string ⟨#[66]⟩, .string ⟨#[67]⟩, .string ⟨#[68]⟩]
theorem sm_fv (w : World) (t : TypeId) : FV (w.alloc (.cells smF t)) (.slice (some ⟨w.heap.size, 0, none⟩) 4 4) 4 smN smX smY := by
  refine Or.inr ⟨by omega, w.heap.size, 0, 4, rfl, Nat.le_refl _, by decide, fun k hk => ?_⟩
  rcases (show k = 0 ∨ k = 1 ∨ k = 2 ∨ k = 3 from by omega) with rfl | rfl | rfl | rfl <;> exact ⟨by simp [smF, smN], by simp [smF, smX], by simp [smF, smY]⟩
theorem sm_sv (w : World) (t : TypeId) : SV (w.alloc (.cells smT t)) (.slice (some ⟨w.heap.size, 0, none⟩) 4 4) 4 smN := by
  refine Or.inr ⟨by omega, w.heap.size, 0, 4, rfl, Nat.le_refl _, by decide, fun k hk => ?_⟩
  rcases (show k = 0 ∨ k = 1 ∨ k = 2 ∨ k = 3 from by omega) with rfl | rfl | rfl | rfl <;> simp [smT, smN]
theorem sm_cv (w : World) (o : Obj) (t1 t2 t3 : TypeId) : CV ((((w.alloc o).alloc (.cells smF t1)).alloc (.cells smT t2)).alloc (.cells #[.string ⟨#[85, 76, 49]⟩, .slice (some ⟨w.heap.size + 1 + 1, 0, none⟩) 4 4] t3)) (.agg #[.slice (some ⟨w.heap.size + 1, 0, none⟩) 4 4, .slice (some ⟨w.heap.size + 1 + 1 + 1, 0, none⟩) 1 1]) 4 smN smX smY 1 smM smL smS := by
  have h1 := sm_fv (w.alloc o) t1
  have h2 := sm_sv ((w.alloc o).alloc (.cells smF t1)) t2
  rw [World.size_alloc] at h1 h2
  rw [World.size_alloc] at h2
  refine ⟨_, _, rfl, fv_keep (b_alloc (b_alloc (Below.refl _ _) _) _) h1, Or.inr ⟨by omega, w.heap.size + 1 + 1 + 1, 0, 1, rfl, Nat.le_refl _, by decide, fun k hk => ?_⟩⟩
  obtain rfl : k = 0 := by omega
  have h3 := p2v_new (((w.alloc o).alloc (.cells smF t1)).alloc (.cells smT t2)) t3 (.string ⟨#[85, 76, 49]⟩) (.slice (some ⟨w.heap.size + 1 + 1, 0, none⟩) 4 4)
  rw [World.size_alloc, World.size_alloc, World.size_alloc] at h3
  exact ⟨h3.1, _, h3.2, sv_keep (b_alloc (Below.refl _ _) _) h2⟩
set_option maxRecDepth 100000 in
set_option maxHeartbeats 1000000 in
theorem sampleC (w : World) : Calls Try.prog 33 #[] w fun e w' => (∃ c, e = .returned c ∧ CV w' c 4 smN smX smY 1 smM smL smS) ∧ Below w.heap.size w w' := by
  go_enter Try.func33, Try.ntmps33
  go_wp2_with fail
  have key := fun o => sm_cv w o 51 9 44
  unfold smF smT at key
  refine bodyPost_ret (v := .agg #[.slice (some ⟨w.heap.size + 1, 0, none⟩) 4 4, .slice (some ⟨w.heap.size + 1 + 1 + 1, 0, none⟩) 1 1]) (by simp [results, Try.results33, go_sem]) rfl ⟨⟨_, rfl, key _⟩, b_alloc (b_alloc (b_alloc (b_alloc (Below.refl _ _) _) _) _) _⟩
theorem lsum3 (D : Nat → Int) : lsum D 3 = 0 + D 1 + D 2 := rfl
def smQ (k : Nat) : ByteArray := if k = 0 then ⟨#[65]⟩ else if k = 1 then ⟨#[66]⟩ else ⟨#[68]⟩
theorem sm_len : lenR 0 4 smN smX smY 3 smQ = (10831, 0) := by
  unfold lenR
  rw [if_neg (by decide), if_neg (by decide), if_neg (by decide +kernel), lsum3]
  have q0 : pos 4 smN (smQ 0) = 0 := by decide +kernel
  have q1 : pos 4 smN (smQ 1) = 1 := by decide +kernel
  have q2 : pos 4 smN (smQ 2) = 3 := by decide +kernel
  have s1 : stp 4 smN smX smY smQ 1 = dup (sqr 0 0 3000 4000) := by
    unfold stp
    rw [show (1 - 1 : Nat) = 0 from rfl, q0, q1, show smX 0 = 0 from rfl, show smY 0 = 0 from rfl, show smX 1 = 3000 from rfl, show smY 1 = 4000 from rfl]
  have s2 : stp 4 smN smX smY smQ 2 = dup (sqr 3000 4000 6000 9000) := by
    unfold stp
    rw [show (2 - 1 : Nat) = 1 from rfl, q1, q2, show smX 1 = 3000 from rfl, show smY 1 = 4000 from rfl, show smX 3 = 6000 from rfl, show smY 3 = 9000 from rfl]
  rw [s1, s2]
  have r1 : root (sqr 0 0 3000 4000) = 5000 := root_unique (by decide) (by unfold sqr; decide) (by unfold sqr; decide)
  have r2 : root (sqr 3000 4000 6000 9000) = 5830 := root_unique (by decide) (by unfold sqr; decide) (by unfold sqr; decide)
  unfold dup
  rw [r1, r2]
  unfold sqr
  decide
theorem sm_bet {q : Value} {w : World} (h : betP 4 smN smX smY 1 smM smL smS ⟨#[85, 76, 49]⟩ ⟨#[68]⟩ ⟨#[66]⟩ q w) : ∃ v, q = .tuple #[v, .int .i64 0] ∧ SV w v 3 (way smN 3 1) := by
  unfold betP at h
  rw [if_neg (by rw [sm_ok]; decide), if_neg (by decide +kernel)] at h
  obtain ⟨k, hk, hk1, h⟩ := h
  obtain rfl : k = 0 := by omega
  rw [if_neg (by decide +kernel)] at h
  obtain ⟨i, j, hi, hj, v, hq, hs⟩ := h
  have e1 : fix (smS 0) ⟨#[68]⟩ (smL 0) = 3 := by decide +kernel
  have e2 : fix (smS 0) ⟨#[66]⟩ (smL 0) = 1 := by decide +kernel
  rw [e1] at hi; rw [e2] at hj
  obtain rfl : i = 3 := by omega
  obtain rfl : j = 1 := by omega
  exact ⟨v, hq, hs⟩
def t3v (s0 s1 s2 : ByteArray) (k : Nat) : ByteArray := if k = 0 then s0 else if k = 1 then s1 else s2
theorem t3_sv (w : World) (t : TypeId) (s0 s1 s2 : ByteArray) : SV (w.alloc (.cells #[.string s0, .string s1, .string s2] t)) (.slice (some ⟨w.heap.size, 0, none⟩) 3 3) 3 (t3v s0 s1 s2) := by
  refine Or.inr ⟨by omega, w.heap.size, 0, 3, rfl, Nat.le_refl _, by decide, fun k hk => ?_⟩
  rcases (show k = 0 ∨ k = 1 ∨ k = 2 from by omega) with rfl | rfl | rfl <;> simp [t3v]
set_option maxRecDepth 100000 in
set_option maxHeartbeats 4000000 in
theorem chartWorks (w : World) : Calls Try.prog 15 #[] w fun e w' => e = .returned (.bool true) ∧ Below w.heap.size w w' := by
  go_enter Try.func15, Try.ntmps15
  go_wp2_with fail
  (with_reducible refine (sampleC _).mono ?_); rintro e w1 ⟨⟨c1, rfl, hc1⟩, hb⟩
  have W1 := Lib.hid hb; have B1 := Lib.hid (betweenC hc1 ⟨#[85, 76, 49]⟩ ⟨#[68]⟩ ⟨#[66]⟩); clear hb hc1
  go_wp2_with fail
  (with_reducible refine B1.out.mono ?_); rintro e w2 ⟨⟨q, rfl, hq⟩, hb⟩
  obtain ⟨v, rfl, hs⟩ := sm_bet hq
  have W2 := Lib.hid (b_next W1.out hb); have V2 := Lib.hid hs; clear hb hs hq B1
  go_wp2_with fail
  (with_reducible refine (sampleC _).mono ?_); rintro e w3 ⟨⟨c2, rfl, hc2⟩, hb⟩
  have W3 := Lib.hid (b_next W2.out hb); have V3 := Lib.hid (sv_keep hb V2.out); clear hb
  have hal := b_alloc (Below.refl w3.heap.size w3) (.cells #[.string ⟨#[65]⟩, .string ⟨#[66]⟩, .string ⟨#[68]⟩] 9)
  have L3 := Lib.hid (lengthC (cv_keep hal hc2) (t3_sv w3 9 ⟨#[65]⟩ ⟨#[66]⟩ ⟨#[68]⟩)); have W4 := Lib.hid (b_next W3.out hal); have V4 := Lib.hid (sv_keep hal V3.out); clear hal hc2
  have l3 := L3.out
  rw [sm_ok] at l3
  rw [show lenR 0 4 smN smX smY 3 (t3v ⟨#[65]⟩ ⟨#[66]⟩ ⟨#[68]⟩) = (10831, 0) from (show t3v ⟨#[65]⟩ ⟨#[66]⟩ ⟨#[68]⟩ = smQ from rfl) ▸ sm_len] at l3
  have L4 := Lib.hid l3; clear l3 L3
  go_wp2_with fail
  (with_reducible refine L4.out.mono ?_); rintro e w5 ⟨rfl, hb⟩
  have W5 := Lib.hid (b_next W4.out hb); have V5 := Lib.hid (sv_keep hb V4.out); clear hb
  have hal := b_alloc (Below.refl w5.heap.size w5) (.cells #[.string ⟨#[68]⟩, .string ⟨#[67]⟩, .string ⟨#[66]⟩] 9)
  have S5 := Lib.hid (sameC (sv_keep hal V5.out) (t3_sv w5 9 ⟨#[68]⟩ ⟨#[67]⟩ ⟨#[66]⟩)); have W6 := Lib.hid (b_next W5.out hal); clear hal
  have s5 := S5.out
  rw [show sameB 3 (way smN 3 1) 3 (t3v ⟨#[68]⟩ ⟨#[67]⟩ ⟨#[66]⟩) = true from by decide +kernel] at s5
  have S6 := Lib.hid s5; clear s5 S5
  go_wp2_with fail
  (with_reducible refine S6.out.mono ?_); rintro e w7 ⟨rfl, hb⟩
  have W7 := Lib.hid (b_next W6.out hb); clear hb
  have nm : Name.nameB ⟨#[97]⟩ = false := by decide +kernel
  have N7 := Lib.hid (Name.nameC ⟨#[97]⟩ w7)
  rw [nm] at N7
  go_wp2_with fail
  (with_reducible refine N7.out.mono ?_); rintro e w8 ⟨rfl, hb⟩
  have W8 := Lib.hid (b_next W7.out hb); clear hb
  go_wp2_with fail
  all_goals (go_ret; exact ⟨by first | rfl | exact retb rfl, W8.out⟩)
end Chart
end Go.Proofs.Ytokioemmjfjhkaa
