/- Lists of names and airways: slices.Index, slices.Contains, slices.IndexFunc, slices.ContainsFunc at them. -/
import Derived.Test.YtddlacjjanincaaDoorChV
namespace Go.Proofs.YtddlacjjanincaaDoor
open Go.RowKit
namespace Chart
open Kit Plane Poly
set_option maxRecDepth 100000 in
set_option maxHeartbeats 2000000 in
theorem sidx_w (n cap b off : Nat) (S : Nat → ByteArray) (s : ByteArray) (w : World) (_hm : cap ≤ 9223372036854775807) (_hc : n ≤ cap) (HV : Hid (∀ k, k < n → w.cell? ⟨b, off + k, none⟩ = some (.string (S k)))) :
    Calls Tryd.prog 26 #[.slice (some ⟨b, off, none⟩) n cap, .string s] w fun e w' => e = .returned (.int .i64 (fix S s n)) ∧ Below w.heap.size w w' := by
  go_enter Tryd.func26, Tryd.ntmps26
  obtain ⟨r, hr⟩ : ∃ r, r = fix S s n := ⟨_, rfl⟩
  rw [← hr]
  have HR := Lib.hid hr; clear hr
  go_wp2_with fail
  go_loopw [5, 8] (fun _ t wr => ∃ k : Nat, k ≤ n ∧ t = .int .i64 k ∧ (∀ j, j < k → decide (S j = s) = false) ∧ Below w.heap.size w wr) (fun _ t _ => n - (intOf t).toNat)
  case atStart => exact ⟨0, Nat.zero_le _, rfl, fun j hj => absurd hj (Nat.not_lt_zero j), Below.refl _ _⟩
  case round =>
    obtain ⟨k, hk, rfl, hno, hbl⟩ := hrel
    have HN := Lib.hid hno; have HB := Lib.hid hbl; clear hno
    by_cases hlt : k < n
    · have c0 := keep hbl (HV.out k hlt)
      have hl : (k : Int) < (n : Int) := by omega
      have HS := Lib.hid (show ∀ hh : decide (S k = s) = false, ∀ j, j < k + 1 → decide (S j = s) = false from fun hh j hj => by
        rcases Nat.lt_or_ge j k with hl | hl
        · exact HN.out j hl
        · rw [show j = k from by omega]; exact hh)
      have HT := Lib.hid (show ∀ hh : decide (S k = s) = true, r = k from fun hh => by rw [HR.out]; exact fnd_at HN.out hh n hlt)
      have hq : (s.toList == (S k).toList) = decide (S k = s) := by rw [seq_eq]; exact decide_eq_decide.2 eq_comm
      clear hbl
      generalize decide (S k = s) = d at *
      cases d with
      | true =>
        have e := HT.out rfl
        subst e
        go_wp2_with fail
        go_ret
        exact ⟨rfl, HB.out⟩
      | false =>
        go_wp2_with fail
        exact ⟨⟨k + 1, by omega, by go_num, (by first | exact HS.out rfl | exact HS.out trivial), HB.out⟩, by simp [intOf]; omega⟩
    · have he : k = n := by omega
      have hl : ¬ (k : Int) < (n : Int) := by omega
      have e : r = -1 := by rw [HR.out]; exact fnd_no (fun j hj => HN.out j (by omega))
      subst e
      clear hbl
      go_wp2_with fail
      go_ret
      exact ⟨rfl, HB.out⟩
set_option maxHeartbeats 1000000 in
theorem sidx_none (A : Option Addr) (cap : Nat) (s : ByteArray) (w : World) :
    Calls Tryd.prog 26 #[.slice A 0 cap, .string s] w fun e w' => e = .returned (.int .i64 (-1)) ∧ Below w.heap.size w w' := by
  go_enter Tryd.func26, Tryd.ntmps26
  go_wp2_with fail
  go_loopw [8] (fun s wr => s = .int .i64 0 ∧ Below w.heap.size w wr) (fun _ _ => 0)
  case atStart => exact ⟨rfl, Below.refl _ _⟩
  case round =>
    obtain ⟨rfl, hbl⟩ := hrel
    go_wp2_with fail
    all_goals (go_ret; exact ⟨rfl, hbl⟩)
theorem sidxC {v : Value} {n : Nat} {S : Nat → ByteArray} {w : World} (hv : SV w v n S) (s : ByteArray) :
    Calls Tryd.prog 26 #[v, .string s] w fun e w' => e = .returned (.int .i64 (fix S s n)) ∧ Below w.heap.size w w' := by
  rcases hv with ⟨rfl, h⟩ | ⟨h0, b, off, cap, rfl, hc, hm, HV⟩
  · rcases h with rfl | ⟨a, cap, rfl, -⟩
    · exact sidx_none none 0 s w
    · exact sidx_none (some a) cap s w
  · exact sidx_w n cap b off S s w (Nat.le_trans hm (by decide)) hc (Lib.hid HV)
end Chart
end Go.Proofs.YtddlacjjanincaaDoor
