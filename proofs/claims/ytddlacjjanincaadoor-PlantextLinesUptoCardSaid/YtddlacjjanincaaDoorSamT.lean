/- skywayref1.SameTexts (as in ChW, with nothing of charts). -/
import Derived.Test.YtddlacjjanincaaDoorChE
namespace Go.Proofs.YtddlacjjanincaaDoor
open Go.RowKit
namespace SamT
open Kit Chart
def allB (p : Nat → Bool) : Nat → Bool
  | 0 => true
  | k + 1 => allB p k && p k
theorem allB_stop {p : Nat → Bool} {k : Nat} (h : p k = false) : ∀ {n : Nat}, k < n → allB p n = false
  | 0, hn => by omega
  | n + 1, hn => by
    show (allB p n && p n) = false
    rcases Nat.lt_or_ge k n with hl | hl
    · rw [allB_stop h hl]; rfl
    · rw [show n = k from by omega, h, Bool.and_false]
theorem allB_iff {p : Nat → Bool} : ∀ {n : Nat}, allB p n = true ↔ ∀ k, k < n → p k = true
  | 0 => ⟨fun _ k hk => by omega, fun _ => rfl⟩
  | n + 1 => by
    show (allB p n && p n) = true ↔ _
    rw [Bool.and_eq_true, allB_iff]
    exact ⟨fun h k hk => by
      rcases Nat.lt_or_ge k n with hl | hl
      · exact h.1 k hl
      · rw [show k = n from by omega]; exact h.2, fun h => ⟨fun k hk => h k (by omega), h n (by omega)⟩⟩
/-- Two lists of names are the same. -/
def sameB (n : Nat) (S : Nat → ByteArray) (m : Nat) (T : Nat → ByteArray) : Bool := decide (n = m) && allB (fun k => decide (S k = T k)) n
set_option maxRecDepth 100000 in
set_option maxHeartbeats 4000000 in
theorem same_w (A B : Option Addr) (n c m d : Nat) (S T : Nat → ByteArray) (w : World) (hc9 : n ≤ c ∧ c ≤ maxLen) (hd9 : m ≤ d ∧ d ≤ maxLen) (HS : Hid (SV w (.slice A n c) n S)) (HT : Hid (SV w (.slice B m d) m T)) :
    Calls Tryd.prog 36 #[.slice A n c, .slice B m d] w fun e w' => e = .returned (.bool (sameB n S m T)) ∧ Below w.heap.size w w' := by
  obtain ⟨R, hR⟩ : ∃ R, R = sameB n S m T := ⟨_, rfl⟩
  rw [← hR]
  unfold sameB at hR
  have k1 : maxLen ≤ 9223372036854775807 := by decide
  go_enter Tryd.func36, Tryd.ntmps36
  by_cases hnm : n = m
  · subst hnm
    rw [decide_eq_true rfl, Bool.true_and] at hR
    have HR := Lib.hid hR; clear hR
    go_wp2_with fail
    go_loopw [13] (fun s wr => ∃ k : Nat, k ≤ n ∧ s = .int .i64 k ∧ allB (fun k => decide (S k = T k)) k = true ∧ Below w.heap.size w wr) (fun s _ => n - (intOf s).toNat)
    case atStart => exact ⟨0, Nat.zero_le _, rfl, rfl, Below.refl _ _⟩
    case round =>
      obtain ⟨k, hk, rfl, hal, hbl⟩ := hrel
      have HA := Lib.hid hal; clear hal
      by_cases hlt : k < n
      · have hl : (k : Int) < (n : Int) := by omega
        obtain ⟨b1, o1, c', e, hc1, hc2, h1⟩ := sv_at (sv_keep hbl HS.out) (by omega)
        injection e with e1 _ e3
        subst e1 e3
        obtain ⟨b2, o2, d', e, hd1, hd2, h2⟩ := sv_at (sv_keep hbl HT.out) (by omega)
        injection e with e1 _ e3
        subst e1 e3
        have C0 := Lib.hid (h1 k hlt); have C1 := Lib.hid (h2 k hlt)
        have hq := seq_eq (S k) (T k)
        have hc3 : c ≤ 9223372036854775807 := by omega
        have hd3 : d ≤ 9223372036854775807 := by omega
        have HN : Hid (∀ v, decide (S k = T k) = v → (v = false → R = false) ∧ (v = true → allB (fun k => decide (S k = T k)) (k + 1) = true)) := Lib.hid fun v hv => ⟨fun h => by rw [HR.out]; exact allB_stop (by rw [← h]; exact hv) hlt, fun h => by
          show (allB (fun k => decide (S k = T k)) k && decide (S k = T k)) = true
          rw [HA.out, hv, h]; rfl⟩
        have HB := Lib.hid hbl
        clear hbl h1 h2
        obtain ⟨v, hv⟩ : ∃ v, v = decide (S k = T k) := ⟨_, rfl⟩
        have HV := Lib.hid (HN.out v hv.symm)
        rw [← hv] at hq
        clear HN hv
        generalize S k = x at *
        generalize T k = y at *
        cases v with
        | false =>
          have e0 := HV.out.1 rfl
          subst e0
          go_wp2_with fail
          refine d_region (by kernel_rfl) (by kernel_rfl) ?_
          repeat
            first
              | (refine d_plain (by with_reducible rfl) ?_; apply Exists.intro; refine ⟨fun wq hc hq => ?_, ?_⟩)
              | (refine d_on (by with_reducible rfl) (by rfl) (by with_reducible rfl) ?_; apply Exists.intro; refine ⟨fun wq hc hq => ?_, ?_⟩)
              | (refine d_off (by with_reducible rfl) (by rfl) (by rfl) ?_)
              | (refine d_void (by with_reducible rfl) (by rfl) ?_)
            try any_goals
              (have q0 := keep (cls hq) C0.out; have q1 := keep (cls hq) C1.out; clear hc
               go_simp
               first
                 | rfl)
            simp only [Act.put, List.setIfInBounds_toArray, List.set_cons_zero, List.set_cons_succ]
          refine d_nil ?_
          intro w2 hb2
          have W2 := Lib.hid (b_next HB.out hb2); clear hb2
          go_wp2_with fail
          all_goals (go_ret; exact ⟨rfl, W2.out⟩)
        | true =>
          have HZ := Lib.hid (HV.out.2 rfl)
          clear HV
          go_wp2_with fail
          refine d_region (by kernel_rfl) (by kernel_rfl) ?_
          repeat
            first
              | (refine d_plain (by with_reducible rfl) ?_; apply Exists.intro; refine ⟨fun wq hc hq => ?_, ?_⟩)
              | (refine d_on (by with_reducible rfl) (by rfl) (by with_reducible rfl) ?_; apply Exists.intro; refine ⟨fun wq hc hq => ?_, ?_⟩)
              | (refine d_off (by with_reducible rfl) (by rfl) (by rfl) ?_)
              | (refine d_void (by with_reducible rfl) (by rfl) ?_)
            try any_goals
              (have q0 := keep (cls hq) C0.out; have q1 := keep (cls hq) C1.out; clear hc
               go_simp
               first
                 | rfl)
            simp only [Act.put, List.setIfInBounds_toArray, List.set_cons_zero, List.set_cons_succ]
          refine d_nil ?_
          intro w2 hb2
          have W2 := Lib.hid (b_next HB.out hb2); clear hb2
          go_wp2_with fail
          exact ⟨⟨k + 1, by omega, by go_num, HZ.out, W2.out⟩, by simp [intOf]; omega⟩
      · have hkn : k = n := by omega
        have hl : ¬ (k : Int) < (n : Int) := by omega
        have e0 : R = true := by rw [HR.out, ← hkn]; exact HA.out
        subst e0
        go_wp2_with fail
        all_goals (go_ret; exact ⟨rfl, hbl⟩)
  · rw [decide_eq_false hnm, Bool.false_and] at hR
    subst hR
    have h1 : ¬ (n : Int) = (m : Int) := by omega
    go_wp2_with fail
    all_goals (go_ret; exact ⟨rfl, Below.refl _ _⟩)
theorem sv_len {w : World} {v : Value} {n : Nat} {S : Nat → ByteArray} (h : SV w v n S) : ∃ A cap, v = .slice A n cap ∧ n ≤ cap ∧ cap ≤ maxLen := by
  rcases h with ⟨rfl, h⟩ | ⟨h0, b, off, cap, rfl, h1, h2, h3⟩
  · rcases h with rfl | ⟨a, cap, rfl, hc⟩
    · exact ⟨_, _, rfl, Nat.le_refl _, Nat.zero_le _⟩
    · exact ⟨_, _, rfl, Nat.zero_le _, hc⟩
  · exact ⟨_, _, rfl, h1, h2⟩
theorem sameC {u v : Value} {n m : Nat} {S T : Nat → ByteArray} {w : World} (hu : SV w u n S) (hv : SV w v m T) :
    Calls Tryd.prog 36 #[u, v] w fun e w' => e = .returned (.bool (sameB n S m T)) ∧ Below w.heap.size w w' := by
  obtain ⟨A, c, rfl, h1, h2⟩ := sv_len hu
  obtain ⟨B, d, rfl, h3, h4⟩ := sv_len hv
  exact same_w A B n c m d S T w ⟨h1, h2⟩ ⟨h3, h4⟩ (Lib.hid hu) (Lib.hid hv)
end SamT
end Go.Proofs.YtddlacjjanincaaDoor
