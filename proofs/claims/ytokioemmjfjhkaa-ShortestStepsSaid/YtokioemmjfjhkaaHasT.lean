/- skywayref1.HasText: what it returns. -/
import Derived.Test.YtokioemmjfjhkaaChE
namespace Go.Proofs.Ytokioemmjfjhkaa
open Go.RowKit
namespace HasT
open Kit Chart
set_option maxRecDepth 100000 in
set_option maxHeartbeats 8000000 in
theorem hasT_w (n cap b off : Nat) (S : Nat → ByteArray) (s : ByteArray) (w : World) (_hc : n ≤ cap) (_hm : cap ≤ 9223372036854775807) (HV : Hid (∀ k, k < n → w.cell? ⟨b, off + k, none⟩ = some (.string (S k)))) :
    Calls Try.prog 17 #[.slice (some ⟨b, off, none⟩) n cap, .string s] w fun e w' => e = .returned (.bool (decide (0 ≤ fix S s n))) ∧ Below w.heap.size w w' := by
  go_enter Try.func17, Try.ntmps17
  obtain ⟨r, hr⟩ : ∃ r, r = fix S s n := ⟨_, rfl⟩
  rw [← hr]
  have HR := Lib.hid hr; clear hr
  go_wp2_with fail
  go_loopw [9] (fun t wr => ∃ k : Nat, k ≤ n ∧ t = .int .i64 k ∧ (∀ j, j < k → decide (S j = s) = false) ∧ Below w.heap.size w wr) (fun t _ => n - (intOf t).toNat)
  case atStart => exact ⟨0, Nat.zero_le _, rfl, fun j hj => absurd hj (Nat.not_lt_zero j), Below.refl _ _⟩
  case round =>
    obtain ⟨k, hk, rfl, hno, hbl⟩ := hrel
    have HN := Lib.hid hno; have HB := Lib.hid hbl; clear hno
    by_cases hlt : k < n
    · have c0 := keep hbl (HV.out k hlt)
      have hl : (k : Int) < (n : Int) := by omega
      have HS := Lib.hid (show ∀ hh : decide (S k = s) = false, ∀ j, j < k + 1 → decide (S j = s) = false from fun hh j hj => by
        rcases Nat.lt_or_ge j k with hl | hl
        · exact HN.out j hl
        · rw [show j = k from by omega]; exact hh)
      have HT := Lib.hid (show ∀ hh : decide (S k = s) = true, r = k from fun hh => by rw [HR.out]; exact fnd_at HN.out hh n hlt)
      have hq := seq_eq (S k) s
      clear hbl
      generalize decide (S k = s) = d at *
      cases d with
      | true =>
        have e := HT.out rfl
        have E := Lib.hid e; clear e
        go_wp2_with fail
        go_ret
        exact ⟨retb (by rw [E.out]; simp), HB.out⟩
      | false =>
        go_wp2_with fail
        exact ⟨⟨k + 1, by omega, by go_num, (by first | exact HS.out rfl | exact HS.out trivial), HB.out⟩, by simp [intOf]; omega⟩
    · have he : k = n := by omega
      have hl : ¬ (k : Int) < (n : Int) := by omega
      have e : r = -1 := by rw [HR.out]; exact fnd_no (fun j hj => HN.out j (by omega))
      subst e
      clear hbl
      go_wp2_with fail
      go_ret
      exact ⟨by first | rfl | exact retb (by decide), HB.out⟩
set_option maxHeartbeats 1000000 in
theorem hasT_none (A : Option Addr) (cap : Nat) (s : ByteArray) (w : World) :
    Calls Try.prog 17 #[.slice A 0 cap, .string s] w fun e w' => e = .returned (.bool false) ∧ Below w.heap.size w w' := by
  go_enter Try.func17, Try.ntmps17
  go_wp2_with fail
  go_loopw [9] (fun s wr => s = .int .i64 0 ∧ Below w.heap.size w wr) (fun _ _ => 0)
  case atStart => exact ⟨rfl, Below.refl _ _⟩
  case round =>
    obtain ⟨rfl, hbl⟩ := hrel
    go_wp2_with fail
    all_goals (go_ret; exact ⟨rfl, hbl⟩)
theorem hasTC {v : Value} {n : Nat} {S : Nat → ByteArray} {w : World} (hv : SV w v n S) (s : ByteArray) :
    Calls Try.prog 17 #[v, .string s] w fun e w' => e = .returned (.bool (decide (0 ≤ fix S s n))) ∧ Below w.heap.size w w' := by
  rcases hv with ⟨rfl, h⟩ | ⟨h0, b, off, cap, rfl, hc, hm, HV⟩
  · rcases h with rfl | ⟨a, cap, rfl, -⟩
    · exact hasT_none none 0 s w
    · exact hasT_none (some a) cap s w
  · exact hasT_w n cap b off S s w hc (Nat.le_trans hm (by decide)) (Lib.hid HV)
end HasT
end Go.Proofs.Ytokioemmjfjhkaa
