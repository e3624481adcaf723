/- Lists of names and airways: slices.Index, slices.Contains, slices.IndexFunc, slices.ContainsFunc at them. -/
import Derived.Test.YtokioemmjfjhkaaChV
namespace Go.Proofs.Ytokioemmjfjhkaa
open Go.RowKit
namespace Chart
open Kit Plane Poly
set_option maxRecDepth 100000 in
set_option maxHeartbeats 2000000 in
theorem sidx_w (n cap b off : Nat) (S : Nat → ByteArray) (s : ByteArray) (w : World) (_hm : cap ≤ 9223372036854775807) (_hc : n ≤ cap) (HV : Hid (∀ k, k < n → w.cell? ⟨b, off + k, none⟩ = some (.string (S k)))) :
    Calls Try.prog 37 #[.slice (some ⟨b, off, none⟩) n cap, .string s] w fun e w' => e = .returned (.int .i64 (fix S s n)) ∧ Below w.heap.size w w' := by
  go_enter Try.func37, Try.ntmps37
  obtain ⟨r, hr⟩ : ∃ r, r = fix S s n := ⟨_, rfl⟩
  rw [← hr]
  have HR := Lib.hid hr; clear hr
  go_wp2_with fail
  go_loopw [5, 8] (fun _ t wr => ∃ k : Nat, k ≤ n ∧ t = .int .i64 k ∧ (∀ j, j < k → decide (S j = s) = false) ∧ Below w.heap.size w wr) (fun _ t _ => n - (intOf t).toNat)
  case atStart => exact ⟨0, Nat.zero_le _, rfl, fun j hj => absurd hj (Nat.not_lt_zero j), Below.refl _ _⟩
  case round =>
    obtain ⟨k, hk, rfl, hno, hbl⟩ := hrel
    have HN := Lib.hid hno; have HB := Lib.hid hbl; clear hno
    by_cases hlt : k < n
    · have c0 := keep hbl (HV.out k hlt)
      have hl : (k : Int) < (n : Int) := by omega
      have HS := Lib.hid (show ∀ hh : decide (S k = s) = false, ∀ j, j < k + 1 → decide (S j = s) = false from fun hh j hj => by
        rcases Nat.lt_or_ge j k with hl | hl
        · exact HN.out j hl
        · rw [show j = k from by omega]; exact hh)
      have HT := Lib.hid (show ∀ hh : decide (S k = s) = true, r = k from fun hh => by rw [HR.out]; exact fnd_at HN.out hh n hlt)
      have hq : (s.toList == (S k).toList) = decide (S k = s) := by rw [seq_eq]; exact decide_eq_decide.2 eq_comm
      clear hbl
      generalize decide (S k = s) = d at *
      cases d with
      | true =>
        have e := HT.out rfl
        subst e
        go_wp2_with fail
        go_ret
        exact ⟨rfl, HB.out⟩
      | false =>
        go_wp2_with fail
        exact ⟨⟨k + 1, by omega, by go_num, (by first | exact HS.out rfl | exact HS.out trivial), HB.out⟩, by simp [intOf]; omega⟩
    · have he : k = n := by omega
      have hl : ¬ (k : Int) < (n : Int) := by omega
      have e : r = -1 := by rw [HR.out]; exact fnd_no (fun j hj => HN.out j (by omega))
      subst e
      clear hbl
      go_wp2_with fail
      go_ret
      exact ⟨rfl, HB.out⟩
set_option maxHeartbeats 1000000 in
theorem sidx_none (A : Option Addr) (cap : Nat) (s : ByteArray) (w : World) :
    Calls Try.prog 37 #[.slice A 0 cap, .string s] w fun e w' => e = .returned (.int .i64 (-1)) ∧ Below w.heap.size w w' := by
  go_enter Try.func37, Try.ntmps37
  go_wp2_with fail
  go_loopw [8] (fun s wr => s = .int .i64 0 ∧ Below w.heap.size w wr) (fun _ _ => 0)
  case atStart => exact ⟨rfl, Below.refl _ _⟩
  case round =>
    obtain ⟨rfl, hbl⟩ := hrel
    go_wp2_with fail
    all_goals (go_ret; exact ⟨rfl, hbl⟩)
theorem sidxC {v : Value} {n : Nat} {S : Nat → ByteArray} {w : World} (hv : SV w v n S) (s : ByteArray) :
    Calls Try.prog 37 #[v, .string s] w fun e w' => e = .returned (.int .i64 (fix S s n)) ∧ Below w.heap.size w w' := by
  rcases hv with ⟨rfl, h⟩ | ⟨h0, b, off, cap, rfl, hc, hm, HV⟩
  · rcases h with rfl | ⟨a, cap, rfl, -⟩
    · exact sidx_none none 0 s w
    · exact sidx_none (some a) cap s w
  · exact sidx_w n cap b off S s w (Nat.le_trans hm (by decide)) hc (Lib.hid HV)
set_option maxHeartbeats 1000000 in
theorem scont_w (v : Value) (s : ByteArray) (r : Int) (w : World) (H : Hid (∀ w1, Below w.heap.size w w1 → Calls Try.prog 37 #[v, .string s] w1 fun e w' => e = .returned (.int .i64 r) ∧ Below w1.heap.size w1 w')) :
    Calls Try.prog 50 #[v, .string s] w fun e w' => e = .returned (.bool (decide (0 ≤ r))) ∧ Below w.heap.size w w' := by
  go_enter Try.func50, Try.ntmps50
  go_wp2_with fail
  (with_reducible refine (H.out _ (Below.refl _ _)).mono ?_); rintro e w1 ⟨rfl, hb⟩
  have HB := Lib.hid hb; clear hb
  go_wp2_with fail
  all_goals (go_ret; exact ⟨rfl, HB.out⟩)
theorem scontC {v : Value} {n : Nat} {S : Nat → ByteArray} {w : World} (hv : SV w v n S) (s : ByteArray) :
    Calls Try.prog 50 #[v, .string s] w fun e w' => e = .returned (.bool (decide (0 ≤ fix S s n))) ∧ Below w.heap.size w w' :=
  scont_w v s _ w (Lib.hid fun _ hb => sidxC (sv_keep hb hv) s)
set_option maxHeartbeats 1000000 in
theorem aidx_none (A : Option Addr) (cap : Nat) (f : Value) (w : World) :
    Calls Try.prog 53 #[.slice A 0 cap, f] w fun e w' => e = .returned (.int .i64 (-1)) ∧ Below w.heap.size w w' := by
  go_enter Try.func53, Try.ntmps53
  go_wp2_with fail
  go_loopw [8] (fun s wr => s = .int .i64 0 ∧ Below w.heap.size w wr) (fun _ _ => 0)
  case atStart => exact ⟨rfl, Below.refl _ _⟩
  case round =>
    obtain ⟨rfl, hbl⟩ := hrel
    go_wp2_with fail
    all_goals (go_ret; exact ⟨rfl, hbl⟩)
theorem aclos_c (a s : ByteArray) (A : Option Addr) (n cap b : Nat) (w : World) (hq : w.cell? ⟨b, 0, none⟩ = some (.string s)) :
    Calls Try.prog 71 #[.agg #[.string a, .slice A n cap], .pointer (some ⟨b, 0, none⟩)] w fun e w' => e = .returned (.bool (decide (a = s))) ∧ Below w.heap.size w w' := by
  have W1 := Lib.hid (b_alloc (Below.refl w.heap.size w) (.cells #[.string a, .slice A n cap] 44))
  have q1 := keep W1.out hq
  go_enter Try.func71, Try.ntmps71
  go_wp2_with fail
  go_ret
  exact ⟨b_eq (seq_eq a s), W1.out⟩
set_option maxRecDepth 100000 in
set_option maxHeartbeats 2000000 in
theorem aidx_c (n cap b off pb : Nat) (M : Nat → ByteArray) (l : Nat → Nat) (S : Nat → Nat → ByteArray) (s : ByteArray) (w : World) (hm : cap ≤ 9223372036854775807) (hc : n ≤ cap) (HV : Hid (∀ k, k < n → A2 w b off k (M k) (l k) (S k))) (HQ : Hid (w.cell? ⟨pb, 0, none⟩ = some (.string s))) :
    Calls Try.prog 53 #[.slice (some ⟨b, off, none⟩) n cap, .func (.func 71) #[] #[.pointer (some ⟨pb, 0, none⟩)]] w fun e w' => e = .returned (.int .i64 (fix M s n)) ∧ Below w.heap.size w w' := by
  go_enter Try.func53, Try.ntmps53
  obtain ⟨r, hr⟩ : ∃ r, r = fix M s n := ⟨_, rfl⟩
  rw [← hr]
  have HR := Lib.hid hr; clear hr
  go_wp2_with fail
  go_loopw [5, 8] (fun _ t wr => ∃ k : Nat, k ≤ n ∧ t = .int .i64 k ∧ (∀ j, j < k → decide (M j = s) = false) ∧ Below w.heap.size w wr) (fun _ t _ => n - (intOf t).toNat)
  case atStart => exact ⟨0, Nat.zero_le _, rfl, fun j hj => absurd hj (Nat.not_lt_zero j), Below.refl _ _⟩
  case round =>
    obtain ⟨k, hk, rfl, hno, hbl⟩ := hrel
    have HN := Lib.hid hno; have HB := Lib.hid hbl; clear hno
    by_cases hlt : k < n
    · obtain ⟨c0, v, c1, hsv⟩ := a2_keep hbl (HV.out k hlt)
      have hl : (k : Int) < (n : Int) := by omega
      obtain ⟨A, ca, rfl⟩ := sv_slice hsv
      have hcall := aclos_c (M k) s A (l k) ca pb wr (keep hbl HQ.out)
      have HS := Lib.hid (show ∀ hh : decide (M k = s) = false, ∀ j, j < k + 1 → decide (M j = s) = false from fun hh j hj => by
        rcases Nat.lt_or_ge j k with hl | hl
        · exact HN.out j hl
        · rw [show j = k from by omega]; exact hh)
      have HT := Lib.hid (show ∀ hh : decide (M k = s) = true, r = k from fun hh => by rw [HR.out]; exact fnd_at HN.out hh n hlt)
      clear hbl hsv
      generalize decide (M k = s) = d at *
      cases d with
      | true =>
        have e := HT.out rfl
        subst e
        go_wp2_with fail
        (with_reducible refine hcall.mono ?_); rintro e w' ⟨rfl, hb'⟩
        go_wp2_with fail
        go_ret
        exact ⟨rfl, b_next HB.out hb'⟩
      | false =>
        go_wp2_with fail
        (with_reducible refine hcall.mono ?_); rintro e w' ⟨rfl, hb'⟩
        go_wp2_with fail
        exact ⟨⟨k + 1, by omega, by go_num, (by first | exact HS.out rfl | exact HS.out trivial), b_next HB.out hb'⟩, by simp [intOf]; omega⟩
    · have he : k = n := by omega
      have hl : ¬ (k : Int) < (n : Int) := by omega
      have e : r = -1 := by rw [HR.out]; exact fnd_no (fun j hj => HN.out j (by omega))
      subst e
      clear hbl
      go_wp2_with fail
      go_ret
      exact ⟨rfl, HB.out⟩
theorem aidxC_c {v : Value} {n : Nat} {M : Nat → ByteArray} {l : Nat → Nat} {S : Nat → Nat → ByteArray} {w : World} (hv : AV w v n M l S) (pb : Nat) (s : ByteArray) (hq : w.cell? ⟨pb, 0, none⟩ = some (.string s)) :
    Calls Try.prog 53 #[v, .func (.func 71) #[] #[.pointer (some ⟨pb, 0, none⟩)]] w fun e w' => e = .returned (.int .i64 (fix M s n)) ∧ Below w.heap.size w w' := by
  rcases hv with ⟨rfl, h⟩ | ⟨h0, b, off, cap, rfl, hc, hm, HV⟩
  · rcases h with rfl | ⟨a, cap, rfl, -⟩
    · exact aidx_none none 0 _ w
    · exact aidx_none (some a) cap _ w
  · exact aidx_c n cap b off pb M l S s w (Nat.le_trans hm (by decide)) hc (Lib.hid HV) (Lib.hid hq)
theorem aclos_b (a s : ByteArray) (A : Option Addr) (n cap b : Nat) (w : World) (hq : w.cell? ⟨b, 0, none⟩ = some (.string s)) :
    Calls Try.prog 54 #[.agg #[.string a, .slice A n cap], .pointer (some ⟨b, 0, none⟩)] w fun e w' => e = .returned (.bool (decide (a = s))) ∧ Below w.heap.size w w' := by
  have W1 := Lib.hid (b_alloc (Below.refl w.heap.size w) (.cells #[.string a, .slice A n cap] 44))
  have q1 := keep W1.out hq
  go_enter Try.func54, Try.ntmps54
  go_wp2_with fail
  go_ret
  exact ⟨b_eq (seq_eq a s), W1.out⟩
set_option maxRecDepth 100000 in
set_option maxHeartbeats 2000000 in
theorem aidx_b (n cap b off pb : Nat) (M : Nat → ByteArray) (l : Nat → Nat) (S : Nat → Nat → ByteArray) (s : ByteArray) (w : World) (hm : cap ≤ 9223372036854775807) (hc : n ≤ cap) (HV : Hid (∀ k, k < n → A2 w b off k (M k) (l k) (S k))) (HQ : Hid (w.cell? ⟨pb, 0, none⟩ = some (.string s))) :
    Calls Try.prog 53 #[.slice (some ⟨b, off, none⟩) n cap, .func (.func 54) #[] #[.pointer (some ⟨pb, 0, none⟩)]] w fun e w' => e = .returned (.int .i64 (fix M s n)) ∧ Below w.heap.size w w' := by
  go_enter Try.func53, Try.ntmps53
  obtain ⟨r, hr⟩ : ∃ r, r = fix M s n := ⟨_, rfl⟩
  rw [← hr]
  have HR := Lib.hid hr; clear hr
  go_wp2_with fail
  go_loopw [5, 8] (fun _ t wr => ∃ k : Nat, k ≤ n ∧ t = .int .i64 k ∧ (∀ j, j < k → decide (M j = s) = false) ∧ Below w.heap.size w wr) (fun _ t _ => n - (intOf t).toNat)
  case atStart => exact ⟨0, Nat.zero_le _, rfl, fun j hj => absurd hj (Nat.not_lt_zero j), Below.refl _ _⟩
  case round =>
    obtain ⟨k, hk, rfl, hno, hbl⟩ := hrel
    have HN := Lib.hid hno; have HB := Lib.hid hbl; clear hno
    by_cases hlt : k < n
    · obtain ⟨c0, v, c1, hsv⟩ := a2_keep hbl (HV.out k hlt)
      have hl : (k : Int) < (n : Int) := by omega
      obtain ⟨A, ca, rfl⟩ := sv_slice hsv
      have hcall := aclos_b (M k) s A (l k) ca pb wr (keep hbl HQ.out)
      have HS := Lib.hid (show ∀ hh : decide (M k = s) = false, ∀ j, j < k + 1 → decide (M j = s) = false from fun hh j hj => by
        rcases Nat.lt_or_ge j k with hl | hl
        · exact HN.out j hl
        · rw [show j = k from by omega]; exact hh)
      have HT := Lib.hid (show ∀ hh : decide (M k = s) = true, r = k from fun hh => by rw [HR.out]; exact fnd_at HN.out hh n hlt)
      clear hbl hsv
      generalize decide (M k = s) = d at *
      cases d with
      | true =>
        have e := HT.out rfl
        subst e
        go_wp2_with fail
        (with_reducible refine hcall.mono ?_); rintro e w' ⟨rfl, hb'⟩
        go_wp2_with fail
        go_ret
        exact ⟨rfl, b_next HB.out hb'⟩
      | false =>
        go_wp2_with fail
        (with_reducible refine hcall.mono ?_); rintro e w' ⟨rfl, hb'⟩
        go_wp2_with fail
        exact ⟨⟨k + 1, by omega, by go_num, (by first | exact HS.out rfl | exact HS.out trivial), b_next HB.out hb'⟩, by simp [intOf]; omega⟩
    · have he : k = n := by omega
      have hl : ¬ (k : Int) < (n : Int) := by omega
      have e : r = -1 := by rw [HR.out]; exact fnd_no (fun j hj => HN.out j (by omega))
      subst e
      clear hbl
      go_wp2_with fail
      go_ret
      exact ⟨rfl, HB.out⟩
theorem aidxC_b {v : Value} {n : Nat} {M : Nat → ByteArray} {l : Nat → Nat} {S : Nat → Nat → ByteArray} {w : World} (hv : AV w v n M l S) (pb : Nat) (s : ByteArray) (hq : w.cell? ⟨pb, 0, none⟩ = some (.string s)) :
    Calls Try.prog 53 #[v, .func (.func 54) #[] #[.pointer (some ⟨pb, 0, none⟩)]] w fun e w' => e = .returned (.int .i64 (fix M s n)) ∧ Below w.heap.size w w' := by
  rcases hv with ⟨rfl, h⟩ | ⟨h0, b, off, cap, rfl, hc, hm, HV⟩
  · rcases h with rfl | ⟨a, cap, rfl, -⟩
    · exact aidx_none none 0 _ w
    · exact aidx_none (some a) cap _ w
  · exact aidx_b n cap b off pb M l S s w (Nat.le_trans hm (by decide)) hc (Lib.hid HV) (Lib.hid hq)
set_option maxHeartbeats 1000000 in
theorem acont_w (v f : Value) (r : Int) (w : World) (H : Hid (∀ w1, Below w.heap.size w w1 → Calls Try.prog 53 #[v, f] w1 fun e w' => e = .returned (.int .i64 r) ∧ Below w1.heap.size w1 w')) :
    Calls Try.prog 70 #[v, f] w fun e w' => e = .returned (.bool (decide (0 ≤ r))) ∧ Below w.heap.size w w' := by
  go_enter Try.func70, Try.ntmps70
  go_wp2_with fail
  (with_reducible refine (H.out _ (Below.refl _ _)).mono ?_); rintro e w1 ⟨rfl, hb⟩
  have HB := Lib.hid hb; clear hb
  go_wp2_with fail
  all_goals (go_ret; exact ⟨rfl, HB.out⟩)
theorem acontC {v : Value} {n : Nat} {M : Nat → ByteArray} {l : Nat → Nat} {S : Nat → Nat → ByteArray} {w : World} (hv : AV w v n M l S) (pb : Nat) (s : ByteArray) (hq : w.cell? ⟨pb, 0, none⟩ = some (.string s)) :
    Calls Try.prog 70 #[v, .func (.func 71) #[] #[.pointer (some ⟨pb, 0, none⟩)]] w fun e w' => e = .returned (.bool (decide (0 ≤ fix M s n))) ∧ Below w.heap.size w w' :=
  acont_w v _ _ w (Lib.hid fun _ hb => aidxC_c (av_keep hb hv) pb s (keep hb hq))
end Chart
end Go.Proofs.Ytokioemmjfjhkaa
