/- Intervals of time: what volume.CheckSpans and volume.During return. -/
import Derived.Test.YteaccanhahmclaaPolyB
namespace Go.Proofs.Yteaccanhahmclaa
open Go.RowKit
namespace Vol
open Kit Plane Poly
/-- An interval that is permitted. -/
def okS (f t : Int) : Prop := 0 ≤ f ∧ t ≤ 200000 ∧ f < t
instance (f t : Int) : Decidable (okS f t) := by unfold okS; exact inferInstance
def okAll (F T : Nat → Int) : Nat → Bool
  | 0 => true
  | k + 1 => okAll F T k && decide (okS (F k) (T k))
theorem okAll_iff {F T : Nat → Int} : ∀ {n : Nat}, okAll F T n = true ↔ ∀ k, k < n → okS (F k) (T k)
  | 0 => ⟨fun _ k hk => by omega, fun _ => rfl⟩
  | n + 1 => by
    show (okAll F T n && decide (okS (F n) (T n))) = true ↔ _
    rw [Bool.and_eq_true, okAll_iff, decide_eq_true_eq]
    exact ⟨fun h k hk => by
      rcases Nat.lt_or_ge k n with hl | hl
      · exact h.1 k hl
      · rw [show k = n from by omega]; exact h.2, fun h => ⟨fun k hk => h k (by omega), h n (by omega)⟩⟩
/-- CheckSpans' error. -/
def ckS (n : Nat) (F T : Nat → Int) : Int := if 256 < n then 2 else if okAll F T n then 0 else 12
theorem ckS_ok {n : Nat} {F T : Nat → Int} (h : ckS n F T = 0) : n ≤ 256 ∧ ∀ k, k < n → okS (F k) (T k) := by
  unfold ckS at h
  by_cases h1 : 256 < n
  · rw [if_pos h1] at h; exact absurd h (by decide)
  · rw [if_neg h1] at h
    cases ha : okAll F T n with
    | false => rw [ha] at h; exact absurd h (by decide)
    | true => exact ⟨by omega, okAll_iff.1 ha⟩
abbrev CsC (v : Value) (E : Int) (w : World) : Prop := ∀ w1, Below w.heap.size w w1 → Calls Try.prog 92 #[v] w1 fun e w' => e = .returned (.int .i64 E) ∧ Below w1.heap.size w1 w'
set_option maxHeartbeats 1000000 in
theorem spans_big (A : Option Addr) (n cap : Nat) (w : World) (hn : 256 < n) (_hc : n ≤ cap) (_hm : cap ≤ 9223372036854775807) : Calls Try.prog 92 #[.slice A n cap] w fun e w' => e = .returned (.int .i64 2) ∧ w = w' := by
  go_enter Try.func92, Try.ntmps92
  go_wp2
  go_ret
  exact ⟨rfl, rfl⟩
set_option maxHeartbeats 1000000 in
theorem spans_none (A : Option Addr) (cap : Nat) (w : World) : Calls Try.prog 92 #[.slice A 0 cap] w fun e w' => e = .returned (.int .i64 0) ∧ Below w.heap.size w w' := by
  go_enter Try.func92, Try.ntmps92
  go_wp2_with fail
  go_loopw [10] (fun s wr => s = .int .i64 0 ∧ Below w.heap.size w wr) (fun _ _ => 0)
  case atStart => exact ⟨rfl, Below.refl _ _⟩
  case round =>
    obtain ⟨rfl, hbl⟩ := hrel
    go_wp2_with fail
    all_goals (go_ret; exact ⟨rfl, hbl⟩)
set_option maxRecDepth 100000 in
set_option maxHeartbeats 4000000 in
theorem spans_w (n cap b off : Nat) (F T : Nat → Int) (E : Int) (w : World) (_h0 : 0 < n) (hn : n ≤ 256) (hc : n ≤ cap) (hm : cap ≤ 9223372036854775807) (HV : Hid (∀ k, k < n → E2 w b off k (F k) (T k))) (HE : Hid (E = if okAll F T n then 0 else 12)) :
    Calls Try.prog 92 #[.slice (some ⟨b, off, none⟩) n cap] w fun e w' => e = .returned (.int .i64 E) ∧ Below w.heap.size w w' := by
  go_enter Try.func92, Try.ntmps92
  go_wp2_with fail
  go_loopw [10] (fun s wr => ∃ k : Nat, k ≤ n ∧ s = .int .i64 k ∧ okAll F T k = true ∧ Below w.heap.size w wr) (fun s _ => n - (intOf s).toNat)
  case atStart => exact ⟨0, Nat.zero_le _, rfl, rfl, Below.refl _ _⟩
  case round =>
    obtain ⟨k, hk, rfl, hok, hbl⟩ := hrel
    have HO := Lib.hid hok; clear hok
    by_cases hlt : k < n
    · obtain ⟨c0, c1⟩ := e2_keep hbl (HV.out k hlt)
      have hl : (k : Int) < (n : Int) := by omega
      have X1 := Lib.hid (b_next hbl (b_alloc (Below.refl wr.heap.size wr) (.cells #[.int .i64 (F k), .int .i64 (T k)] 102))); clear hbl
      have hno : ¬ okS (F k) (T k) → E = 12 := fun h => by
        rw [HE.out]
        cases ha : okAll F T n with
        | true => exact absurd (okAll_iff.1 ha k hlt) h
        | false => rfl
      have HN := Lib.hid hno; clear hno
      by_cases hs : okS (F k) (T k)
      · have HO2 : Hid (okAll F T (k + 1) = true) := Lib.hid (by show (okAll F T k && decide _) = true; rw [HO.out, decide_eq_true hs]; rfl)
        unfold okS at hs
        obtain ⟨s1, s2, s3⟩ := hs
        have s1' : ¬ F k < 0 := by omega
        have s2' : ¬ 200000 < T k := by omega
        have s3' : ¬ T k ≤ F k := by omega
        go_wp2_with fail
        first
          | exact ⟨⟨k + 1, by omega, by go_num, HO2.out, X1.out⟩, by simp [intOf]; omega⟩
          | (go_roundw
             case rel => first | exact ⟨k + 1, by omega, by go_num, HO2.out, X1.out⟩ | ((repeat apply Exists.intro); exact ⟨⟨k + 1, by omega, by go_num, HO2.out, X1.out⟩, rfl⟩)
             case measure => simp [intOf]; omega)
      · have he := HN.out hs
        subst he
        unfold okS at hs
        go_wp2_with fail
        all_goals first | (exfalso; omega) | (go_ret; exact ⟨rfl, X1.out⟩)
    · have he : k = n := by omega
      have hl : ¬ (k : Int) < (n : Int) := by omega
      have h0 : E = 0 := by rw [HE.out, ← he, HO.out]; rfl
      subst h0
      go_wp2_with fail
      go_ret
      exact ⟨rfl, hbl⟩
theorem spansC {v : Value} {n : Nat} {F T : Nat → Int} {w : World} (hv : QV w v n F T) : CsC v (ckS n F T) w := fun w1 hb => by
  rcases qv_keep hb hv with ⟨rfl, h⟩ | ⟨h0, b, off, cap, rfl, hc, hm, HV⟩
  · rcases h with rfl | ⟨a, cap, rfl, -⟩
    · exact spans_none none 0 w1
    · exact spans_none (some a) cap w1
  · unfold ckS
    by_cases h : 256 < n
    · rw [if_pos h]
      exact (spans_big _ n cap w1 h hc hm).mono fun e w' ⟨he, hw⟩ => ⟨he, hw ▸ Below.refl _ _⟩
    · rw [if_neg h]
      exact spans_w n cap b off F T _ w1 h0 (by omega) hc hm (Lib.hid HV) (Lib.hid rfl)
end Vol
end Go.Proofs.Yteaccanhahmclaa
