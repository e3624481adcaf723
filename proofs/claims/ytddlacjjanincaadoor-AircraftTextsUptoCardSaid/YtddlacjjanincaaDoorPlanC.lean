/- plantext.Check: what it returns. -/
import Derived.Test.YtddlacjjanincaaDoorChC
namespace Go.Proofs.YtddlacjjanincaaDoor
open Go.RowKit
namespace Plan
open Kit Chart Name
theorem bad1 (s : ByteArray) (w : World) : Calls Tryd.prog 33 #[.string s] w fun e w' => e = .returned (.bool (!nameB s)) ∧ Below w.heap.size w w' := by
  have C := Lib.hid (nameC s w)
  generalize nameB s = b at *
  go_enter Tryd.func33, Tryd.ntmps33
  go_wp2_with fail
  (with_reducible refine C.out.mono ?_); rintro e w1 ⟨rfl, hb⟩
  have W1 := Lib.hid hb; clear hb
  go_wp2_with fail
  go_ret
  exact ⟨by first | rfl | (cases b <;> rfl), W1.out⟩
/-- The first of n names that is none. -/
def bix (T : Nat → ByteArray) (n : Nat) : Int := fnd (fun k => !nameB (T k)) n
theorem bidx_none (A : Option Addr) (cap : Nat) (f : Value) (w : World) :
    Calls Tryd.prog 48 #[.slice A 0 cap, f] w fun e w' => e = .returned (.int .i64 (-1)) ∧ Below w.heap.size w w' := by
  go_enter Tryd.func48, Tryd.ntmps48
  go_wp2_with fail
  go_loopw [8] (fun t wr => t = .int .i64 0 ∧ w = wr) (fun _ _ => 0)
  case atStart => exact ⟨rfl, rfl⟩
  case round =>
    obtain ⟨rfl, rfl⟩ := hrel
    go_wp2_with fail
    go_ret
    exact ⟨rfl, Below.refl _ _⟩
theorem bidx_w (n cap b off : Nat) (T : Nat → ByteArray) (w : World) (hm : cap ≤ 9223372036854775807) (hc : n ≤ cap) (HV : Hid (∀ k, k < n → w.cell? ⟨b, off + k, none⟩ = some (.string (T k)))) :
    Calls Tryd.prog 48 #[.slice (some ⟨b, off, none⟩) n cap, .func (.func 33) #[] #[]] w fun e w' => e = .returned (.int .i64 (bix T n)) ∧ Below w.heap.size w w' := by
  go_enter Tryd.func48, Tryd.ntmps48
  obtain ⟨r, hr⟩ : ∃ r, r = bix T n := ⟨_, rfl⟩
  rw [← hr]
  have HR := Lib.hid hr; clear hr
  go_wp2_with fail
  go_loopw [5, 8] (fun _ t wr => ∃ k : Nat, k ≤ n ∧ t = .int .i64 k ∧ (∀ j, j < k → (!nameB (T j)) = false) ∧ Below w.heap.size w wr) (fun _ t _ => n - (intOf t).toNat)
  case atStart => exact ⟨0, Nat.zero_le _, rfl, fun j hj => absurd hj (Nat.not_lt_zero j), Below.refl _ _⟩
  case round =>
    obtain ⟨k, hk, rfl, hno, hbl⟩ := hrel
    have HN := Lib.hid hno; have HB := Lib.hid hbl; clear hno
    by_cases hlt : k < n
    · have c0 := keep hbl (HV.out k hlt)
      have hl : (k : Int) < (n : Int) := by omega
      have hcall := bad1 (T k) wr
      have HS := Lib.hid (show ∀ hh : (!nameB (T k)) = false, ∀ j, j < k + 1 → (!nameB (T j)) = false from fun hh j hj => by
        rcases Nat.lt_or_ge j k with hl | hl
        · exact HN.out j hl
        · rw [show j = k from by omega]; exact hh)
      have HT := Lib.hid (show ∀ hh : (!nameB (T k)) = true, r = k from fun hh => by rw [HR.out]; exact fnd_at (p := fun k => !nameB (T k)) HN.out hh n hlt)
      clear hbl
      generalize (!nameB (T k)) = d at *
      cases d with
      | true =>
        have e := HT.out rfl
        subst e
        go_wp2_with fail
        (with_reducible refine hcall.mono ?_); rintro e w' ⟨rfl, hb'⟩
        go_wp2_with fail
        go_ret
        exact ⟨rfl, b_next HB.out hb'⟩
      | false =>
        go_wp2_with fail
        (with_reducible refine hcall.mono ?_); rintro e w' ⟨rfl, hb'⟩
        go_wp2_with fail
        exact ⟨⟨k + 1, by omega, by go_num, (by first | exact HS.out rfl | exact HS.out trivial), b_next HB.out hb'⟩, by simp [intOf]; omega⟩
    · have he : k = n := by omega
      have hl : ¬ (k : Int) < (n : Int) := by omega
      have e : r = -1 := by rw [HR.out]; exact fnd_no (p := fun k => !nameB (T k)) (fun j hj => HN.out j (by omega))
      subst e
      clear hbl
      go_wp2_with fail
      go_ret
      exact ⟨rfl, HB.out⟩
theorem bcont_w (v f : Value) (r : Int) (w : World) (H : Hid (∀ w1, Below w.heap.size w w1 → Calls Tryd.prog 48 #[v, f] w1 fun e w' => e = .returned (.int .i64 r) ∧ Below w1.heap.size w1 w')) :
    Calls Tryd.prog 32 #[v, f] w fun e w' => e = .returned (.bool (decide (0 ≤ r))) ∧ Below w.heap.size w w' := by
  go_enter Tryd.func32, Tryd.ntmps32
  go_wp2_with fail
  (with_reducible refine (H.out _ (Below.refl _ _)).mono ?_); rintro e w' ⟨rfl, hb⟩
  have HB := Lib.hid hb; clear hb
  go_wp2_with fail
  all_goals (go_ret; exact ⟨by first | rfl | exact retb (by simp; omega), HB.out⟩)
theorem bcontC {v : Value} {n : Nat} {T : Nat → ByteArray} {w : World} (hv : SV w v n T) : ∀ w1, Below w.heap.size w w1 →
    Calls Tryd.prog 32 #[v, .func (.func 33) #[] #[]] w1 fun e w' => e = .returned (.bool (decide (0 ≤ bix T n))) ∧ Below w1.heap.size w1 w' := fun w1 hb => by
  refine bcont_w v _ _ w1 (Lib.hid fun w2 hb2 => ?_)
  have hv2 := sv_keep hb2 (sv_keep hb hv)
  rcases hv2 with ⟨rfl, h⟩ | ⟨h0, b, off, cap, rfl, h1, h2, h3⟩
  · obtain ⟨A, cap, rfl⟩ := nil0_slice h
    exact bidx_none A cap _ w2
  · exact bidx_w n cap b off T w2 (Nat.le_trans h2 (by decide)) h1 (Lib.hid h3)
/-- plantext.Check's error. -/
def planE (c k f t : ByteArray) (off sp h : Int) (n : Nat) (T : Nat → ByteArray) : Int :=
  if nameB c = false ∨ nameB k = false ∨ nameB f = false ∨ nameB t = false then 5 else if off < 0 ∨ 200000 < off then 12 else if sp < 1 ∨ 400 < sp ∨ h < 1 ∨ 60000 < h then 4 else if 24 < n then 2 else if 0 ≤ bix T n then 5 else 0
/-- A plan's value. -/
abbrev plan (c k f t : ByteArray) (off sp h : Int) (r : Value) : Value := .agg #[.string c, .string k, .string f, .string t, .int .i64 off, .int .i64 sp, .int .i64 h, r]
structure N8 (w : World) (b : Nat) (c k f t : ByteArray) (off sp h : Int) (r : Value) : Prop where
  c0 : w.cell? ⟨b, 0, none⟩ = some (.string c)
  c1 : w.cell? ⟨b, 1, none⟩ = some (.string k)
  c2 : w.cell? ⟨b, 2, none⟩ = some (.string f)
  c3 : w.cell? ⟨b, 3, none⟩ = some (.string t)
  c4 : w.cell? ⟨b, 4, none⟩ = some (.int .i64 off)
  c5 : w.cell? ⟨b, 5, none⟩ = some (.int .i64 sp)
  c6 : w.cell? ⟨b, 6, none⟩ = some (.int .i64 h)
  c7 : w.cell? ⟨b, 7, none⟩ = some r
theorem n8_keep {W w1 : World} (hb : Below W.heap.size W w1) {b : Nat} {c k f t : ByteArray} {off sp h : Int} {r : Value} (n : N8 W b c k f t off sp h r) : N8 w1 b c k f t off sp h r := ⟨keep hb n.c0, keep hb n.c1, keep hb n.c2, keep hb n.c3, keep hb n.c4, keep hb n.c5, keep hb n.c6, keep hb n.c7⟩
theorem n8_new (w : World) (ty : TypeId) (c k f t : ByteArray) (off sp h : Int) (r : Value) : N8 (w.alloc (.cells #[.string c, .string k, .string f, .string t, .int .i64 off, .int .i64 sp, .int .i64 h, r] ty)) w.heap.size c k f t off sp h r := ⟨by simp, by simp, by simp, by simp, by simp, by simp, by simp, by simp⟩
abbrev NmC (s : ByteArray) (b : Bool) : Prop := ∀ w, Calls Tryd.prog 29 #[.string s] w fun e w' => e = .returned (.bool b) ∧ Below w.heap.size w w'
set_option maxRecDepth 100000 in
set_option maxHeartbeats 4000000 in
theorem chk_n0 (c k f t : ByteArray) (off sp h : Int) (A : Option Addr) (n cap : Nat) (w : World) (H0 : Hid (NmC c false)) :
    Calls Tryd.prog 17 #[plan c k f t off sp h (.slice A n cap)] w fun e w' => e = .returned (.int .i64 5) ∧ Below w.heap.size w w' := by
  have N0 := Lib.hid (n8_new w 39 c k f t off sp h (.slice A n cap))
  have W0 := Lib.hid (b_alloc (Below.refl w.heap.size w) (.cells #[.string c, .string k, .string f, .string t, .int .i64 off, .int .i64 sp, .int .i64 h, .slice A n cap] 39))
  go_enter Tryd.func17, Tryd.ntmps17
  obtain ⟨c0, c1, c2, c3, c4, c5, c6, c7⟩ := N0.out
  go_wp2_with fail
  (with_reducible refine (H0.out _).mono ?_); rintro e w1 ⟨rfl, hb⟩
  have W1 := Lib.hid (b_next W0.out hb); have N1 := Lib.hid (n8_keep hb N0.out); clear hb c0 c1 c2 c3 c4 c5 c6 c7
  go_wp2_with fail
  go_ret
  exact ⟨rfl, W1.out⟩
set_option maxRecDepth 100000 in
set_option maxHeartbeats 4000000 in
theorem chk_n1 (c k f t : ByteArray) (off sp h : Int) (A : Option Addr) (n cap : Nat) (w : World) (H0 : Hid (NmC c true)) (H1 : Hid (NmC k false)) :
    Calls Tryd.prog 17 #[plan c k f t off sp h (.slice A n cap)] w fun e w' => e = .returned (.int .i64 5) ∧ Below w.heap.size w w' := by
  have N0 := Lib.hid (n8_new w 39 c k f t off sp h (.slice A n cap))
  have W0 := Lib.hid (b_alloc (Below.refl w.heap.size w) (.cells #[.string c, .string k, .string f, .string t, .int .i64 off, .int .i64 sp, .int .i64 h, .slice A n cap] 39))
  go_enter Tryd.func17, Tryd.ntmps17
  obtain ⟨c0, c1, c2, c3, c4, c5, c6, c7⟩ := N0.out
  go_wp2_with fail
  (with_reducible refine (H0.out _).mono ?_); rintro e w1 ⟨rfl, hb⟩
  have W1 := Lib.hid (b_next W0.out hb); have N1 := Lib.hid (n8_keep hb N0.out); clear hb c0 c1 c2 c3 c4 c5 c6 c7
  obtain ⟨c0, c1, c2, c3, c4, c5, c6, c7⟩ := N1.out
  go_wp2_with fail
  (with_reducible refine (H1.out _).mono ?_); rintro e w2 ⟨rfl, hb⟩
  have W2 := Lib.hid (b_next W1.out hb); have N2 := Lib.hid (n8_keep hb N1.out); clear hb c0 c1 c2 c3 c4 c5 c6 c7
  go_wp2_with fail
  go_ret
  exact ⟨rfl, W2.out⟩
set_option maxRecDepth 100000 in
set_option maxHeartbeats 4000000 in
theorem chk_n2 (c k f t : ByteArray) (off sp h : Int) (A : Option Addr) (n cap : Nat) (w : World) (H0 : Hid (NmC c true)) (H1 : Hid (NmC k true)) (H2 : Hid (NmC f false)) :
    Calls Tryd.prog 17 #[plan c k f t off sp h (.slice A n cap)] w fun e w' => e = .returned (.int .i64 5) ∧ Below w.heap.size w w' := by
  have N0 := Lib.hid (n8_new w 39 c k f t off sp h (.slice A n cap))
  have W0 := Lib.hid (b_alloc (Below.refl w.heap.size w) (.cells #[.string c, .string k, .string f, .string t, .int .i64 off, .int .i64 sp, .int .i64 h, .slice A n cap] 39))
  go_enter Tryd.func17, Tryd.ntmps17
  obtain ⟨c0, c1, c2, c3, c4, c5, c6, c7⟩ := N0.out
  go_wp2_with fail
  (with_reducible refine (H0.out _).mono ?_); rintro e w1 ⟨rfl, hb⟩
  have W1 := Lib.hid (b_next W0.out hb); have N1 := Lib.hid (n8_keep hb N0.out); clear hb c0 c1 c2 c3 c4 c5 c6 c7
  obtain ⟨c0, c1, c2, c3, c4, c5, c6, c7⟩ := N1.out
  go_wp2_with fail
  (with_reducible refine (H1.out _).mono ?_); rintro e w2 ⟨rfl, hb⟩
  have W2 := Lib.hid (b_next W1.out hb); have N2 := Lib.hid (n8_keep hb N1.out); clear hb c0 c1 c2 c3 c4 c5 c6 c7
  obtain ⟨c0, c1, c2, c3, c4, c5, c6, c7⟩ := N2.out
  go_wp2_with fail
  (with_reducible refine (H2.out _).mono ?_); rintro e w3 ⟨rfl, hb⟩
  have W3 := Lib.hid (b_next W2.out hb); have N3 := Lib.hid (n8_keep hb N2.out); clear hb c0 c1 c2 c3 c4 c5 c6 c7
  go_wp2_with fail
  go_ret
  exact ⟨rfl, W3.out⟩
set_option maxRecDepth 100000 in
set_option maxHeartbeats 4000000 in
theorem chk_n3 (c k f t : ByteArray) (off sp h : Int) (A : Option Addr) (n cap : Nat) (w : World) (H0 : Hid (NmC c true)) (H1 : Hid (NmC k true)) (H2 : Hid (NmC f true)) (H3 : Hid (NmC t false)) :
    Calls Tryd.prog 17 #[plan c k f t off sp h (.slice A n cap)] w fun e w' => e = .returned (.int .i64 5) ∧ Below w.heap.size w w' := by
  have N0 := Lib.hid (n8_new w 39 c k f t off sp h (.slice A n cap))
  have W0 := Lib.hid (b_alloc (Below.refl w.heap.size w) (.cells #[.string c, .string k, .string f, .string t, .int .i64 off, .int .i64 sp, .int .i64 h, .slice A n cap] 39))
  go_enter Tryd.func17, Tryd.ntmps17
  obtain ⟨c0, c1, c2, c3, c4, c5, c6, c7⟩ := N0.out
  go_wp2_with fail
  (with_reducible refine (H0.out _).mono ?_); rintro e w1 ⟨rfl, hb⟩
  have W1 := Lib.hid (b_next W0.out hb); have N1 := Lib.hid (n8_keep hb N0.out); clear hb c0 c1 c2 c3 c4 c5 c6 c7
  obtain ⟨c0, c1, c2, c3, c4, c5, c6, c7⟩ := N1.out
  go_wp2_with fail
  (with_reducible refine (H1.out _).mono ?_); rintro e w2 ⟨rfl, hb⟩
  have W2 := Lib.hid (b_next W1.out hb); have N2 := Lib.hid (n8_keep hb N1.out); clear hb c0 c1 c2 c3 c4 c5 c6 c7
  obtain ⟨c0, c1, c2, c3, c4, c5, c6, c7⟩ := N2.out
  go_wp2_with fail
  (with_reducible refine (H2.out _).mono ?_); rintro e w3 ⟨rfl, hb⟩
  have W3 := Lib.hid (b_next W2.out hb); have N3 := Lib.hid (n8_keep hb N2.out); clear hb c0 c1 c2 c3 c4 c5 c6 c7
  obtain ⟨c0, c1, c2, c3, c4, c5, c6, c7⟩ := N3.out
  go_wp2_with fail
  (with_reducible refine (H3.out _).mono ?_); rintro e w4 ⟨rfl, hb⟩
  have W4 := Lib.hid (b_next W3.out hb); have N4 := Lib.hid (n8_keep hb N3.out); clear hb c0 c1 c2 c3 c4 c5 c6 c7
  go_wp2_with fail
  go_ret
  exact ⟨rfl, W4.out⟩
set_option maxRecDepth 100000 in
set_option maxHeartbeats 4000000 in
theorem chk_off (c k f t : ByteArray) (off sp h : Int) (A : Option Addr) (n cap : Nat) (w : World) (H0 : Hid (NmC c true)) (H1 : Hid (NmC k true)) (H2 : Hid (NmC f true)) (H3 : Hid (NmC t true)) (ho : off < 0 ∨ 200000 < off) :
    Calls Tryd.prog 17 #[plan c k f t off sp h (.slice A n cap)] w fun e w' => e = .returned (.int .i64 12) ∧ Below w.heap.size w w' := by
  have N0 := Lib.hid (n8_new w 39 c k f t off sp h (.slice A n cap))
  have W0 := Lib.hid (b_alloc (Below.refl w.heap.size w) (.cells #[.string c, .string k, .string f, .string t, .int .i64 off, .int .i64 sp, .int .i64 h, .slice A n cap] 39))
  go_enter Tryd.func17, Tryd.ntmps17
  obtain ⟨c0, c1, c2, c3, c4, c5, c6, c7⟩ := N0.out
  go_wp2_with fail
  (with_reducible refine (H0.out _).mono ?_); rintro e w1 ⟨rfl, hb⟩
  have W1 := Lib.hid (b_next W0.out hb); have N1 := Lib.hid (n8_keep hb N0.out); clear hb c0 c1 c2 c3 c4 c5 c6 c7
  obtain ⟨c0, c1, c2, c3, c4, c5, c6, c7⟩ := N1.out
  go_wp2_with fail
  (with_reducible refine (H1.out _).mono ?_); rintro e w2 ⟨rfl, hb⟩
  have W2 := Lib.hid (b_next W1.out hb); have N2 := Lib.hid (n8_keep hb N1.out); clear hb c0 c1 c2 c3 c4 c5 c6 c7
  obtain ⟨c0, c1, c2, c3, c4, c5, c6, c7⟩ := N2.out
  go_wp2_with fail
  (with_reducible refine (H2.out _).mono ?_); rintro e w3 ⟨rfl, hb⟩
  have W3 := Lib.hid (b_next W2.out hb); have N3 := Lib.hid (n8_keep hb N2.out); clear hb c0 c1 c2 c3 c4 c5 c6 c7
  obtain ⟨c0, c1, c2, c3, c4, c5, c6, c7⟩ := N3.out
  go_wp2_with fail
  (with_reducible refine (H3.out _).mono ?_); rintro e w4 ⟨rfl, hb⟩
  have W4 := Lib.hid (b_next W3.out hb); have N4 := Lib.hid (n8_keep hb N3.out); clear hb c0 c1 c2 c3 c4 c5 c6 c7
  obtain ⟨c0, c1, c2, c3, c4, c5, c6, c7⟩ := N4.out
  go_wp2_with fail
  all_goals first | (exfalso; omega) | (go_ret; exact ⟨rfl, W4.out⟩)
set_option maxRecDepth 100000 in
set_option maxHeartbeats 4000000 in
theorem chk_rng (c k f t : ByteArray) (off sp h : Int) (A : Option Addr) (n cap : Nat) (w : World) (H0 : Hid (NmC c true)) (H1 : Hid (NmC k true)) (H2 : Hid (NmC f true)) (H3 : Hid (NmC t true)) (ho : 0 ≤ off ∧ off ≤ 200000) (hr : sp < 1 ∨ 400 < sp ∨ h < 1 ∨ 60000 < h) :
    Calls Tryd.prog 17 #[plan c k f t off sp h (.slice A n cap)] w fun e w' => e = .returned (.int .i64 4) ∧ Below w.heap.size w w' := by
  have g1 : ¬ off < 0 := by omega
  have g2 : ¬ 200000 < off := by omega
  have N0 := Lib.hid (n8_new w 39 c k f t off sp h (.slice A n cap))
  have W0 := Lib.hid (b_alloc (Below.refl w.heap.size w) (.cells #[.string c, .string k, .string f, .string t, .int .i64 off, .int .i64 sp, .int .i64 h, .slice A n cap] 39))
  go_enter Tryd.func17, Tryd.ntmps17
  obtain ⟨c0, c1, c2, c3, c4, c5, c6, c7⟩ := N0.out
  go_wp2_with fail
  (with_reducible refine (H0.out _).mono ?_); rintro e w1 ⟨rfl, hb⟩
  have W1 := Lib.hid (b_next W0.out hb); have N1 := Lib.hid (n8_keep hb N0.out); clear hb c0 c1 c2 c3 c4 c5 c6 c7
  obtain ⟨c0, c1, c2, c3, c4, c5, c6, c7⟩ := N1.out
  go_wp2_with fail
  (with_reducible refine (H1.out _).mono ?_); rintro e w2 ⟨rfl, hb⟩
  have W2 := Lib.hid (b_next W1.out hb); have N2 := Lib.hid (n8_keep hb N1.out); clear hb c0 c1 c2 c3 c4 c5 c6 c7
  obtain ⟨c0, c1, c2, c3, c4, c5, c6, c7⟩ := N2.out
  go_wp2_with fail
  (with_reducible refine (H2.out _).mono ?_); rintro e w3 ⟨rfl, hb⟩
  have W3 := Lib.hid (b_next W2.out hb); have N3 := Lib.hid (n8_keep hb N2.out); clear hb c0 c1 c2 c3 c4 c5 c6 c7
  obtain ⟨c0, c1, c2, c3, c4, c5, c6, c7⟩ := N3.out
  go_wp2_with fail
  (with_reducible refine (H3.out _).mono ?_); rintro e w4 ⟨rfl, hb⟩
  have W4 := Lib.hid (b_next W3.out hb); have N4 := Lib.hid (n8_keep hb N3.out); clear hb c0 c1 c2 c3 c4 c5 c6 c7
  obtain ⟨c0, c1, c2, c3, c4, c5, c6, c7⟩ := N4.out
  go_wp2_with fail
  all_goals first | (exfalso; omega) | (go_ret; exact ⟨rfl, W4.out⟩)
set_option maxRecDepth 100000 in
set_option maxHeartbeats 4000000 in
theorem chk_big (c k f t : ByteArray) (off sp h : Int) (A : Option Addr) (n cap : Nat) (w : World) (H0 : Hid (NmC c true)) (H1 : Hid (NmC k true)) (H2 : Hid (NmC f true)) (H3 : Hid (NmC t true)) (ho : 0 ≤ off ∧ off ≤ 200000) (hr : (1 ≤ sp ∧ sp ≤ 400) ∧ 1 ≤ h ∧ h ≤ 60000) (hn : 24 < n) :
    Calls Tryd.prog 17 #[plan c k f t off sp h (.slice A n cap)] w fun e w' => e = .returned (.int .i64 2) ∧ Below w.heap.size w w' := by
  have g0 : (24 : Int) < (n : Int) := by omega
  have g1 : ¬ off < 0 := by omega
  have g2 : ¬ 200000 < off := by omega
  have g3 : ¬ sp < 1 := by omega
  have g4 : ¬ 400 < sp := by omega
  have g5 : ¬ h < 1 := by omega
  have g6 : ¬ 60000 < h := by omega
  have N0 := Lib.hid (n8_new w 39 c k f t off sp h (.slice A n cap))
  have W0 := Lib.hid (b_alloc (Below.refl w.heap.size w) (.cells #[.string c, .string k, .string f, .string t, .int .i64 off, .int .i64 sp, .int .i64 h, .slice A n cap] 39))
  go_enter Tryd.func17, Tryd.ntmps17
  obtain ⟨c0, c1, c2, c3, c4, c5, c6, c7⟩ := N0.out
  go_wp2_with fail
  (with_reducible refine (H0.out _).mono ?_); rintro e w1 ⟨rfl, hb⟩
  have W1 := Lib.hid (b_next W0.out hb); have N1 := Lib.hid (n8_keep hb N0.out); clear hb c0 c1 c2 c3 c4 c5 c6 c7
  obtain ⟨c0, c1, c2, c3, c4, c5, c6, c7⟩ := N1.out
  go_wp2_with fail
  (with_reducible refine (H1.out _).mono ?_); rintro e w2 ⟨rfl, hb⟩
  have W2 := Lib.hid (b_next W1.out hb); have N2 := Lib.hid (n8_keep hb N1.out); clear hb c0 c1 c2 c3 c4 c5 c6 c7
  obtain ⟨c0, c1, c2, c3, c4, c5, c6, c7⟩ := N2.out
  go_wp2_with fail
  (with_reducible refine (H2.out _).mono ?_); rintro e w3 ⟨rfl, hb⟩
  have W3 := Lib.hid (b_next W2.out hb); have N3 := Lib.hid (n8_keep hb N2.out); clear hb c0 c1 c2 c3 c4 c5 c6 c7
  obtain ⟨c0, c1, c2, c3, c4, c5, c6, c7⟩ := N3.out
  go_wp2_with fail
  (with_reducible refine (H3.out _).mono ?_); rintro e w4 ⟨rfl, hb⟩
  have W4 := Lib.hid (b_next W3.out hb); have N4 := Lib.hid (n8_keep hb N3.out); clear hb c0 c1 c2 c3 c4 c5 c6 c7
  obtain ⟨c0, c1, c2, c3, c4, c5, c6, c7⟩ := N4.out
  go_wp2_with fail
  all_goals first | (exfalso; omega) | (go_ret; exact ⟨rfl, W4.out⟩)
set_option maxRecDepth 100000 in
set_option maxHeartbeats 4000000 in
theorem chk_bad (c k f t : ByteArray) (off sp h : Int) (A : Option Addr) (n cap : Nat) (w : World) (H0 : Hid (NmC c true)) (H1 : Hid (NmC k true)) (H2 : Hid (NmC f true)) (H3 : Hid (NmC t true)) (ho : 0 ≤ off ∧ off ≤ 200000) (hr : (1 ≤ sp ∧ sp ≤ 400) ∧ 1 ≤ h ∧ h ≤ 60000) (hn : n ≤ 24) (B : Hid (∀ w1, Below w.heap.size w w1 → Calls Tryd.prog 32 #[.slice A n cap, .func (.func 33) #[] #[]] w1 fun e w' => e = .returned (.bool true) ∧ Below w1.heap.size w1 w')) :
    Calls Tryd.prog 17 #[plan c k f t off sp h (.slice A n cap)] w fun e w' => e = .returned (.int .i64 5) ∧ Below w.heap.size w w' := by
  have g0 : ¬ (24 : Int) < (n : Int) := by omega
  have g1 : ¬ off < 0 := by omega
  have g2 : ¬ 200000 < off := by omega
  have g3 : ¬ sp < 1 := by omega
  have g4 : ¬ 400 < sp := by omega
  have g5 : ¬ h < 1 := by omega
  have g6 : ¬ 60000 < h := by omega
  have N0 := Lib.hid (n8_new w 39 c k f t off sp h (.slice A n cap))
  have W0 := Lib.hid (b_alloc (Below.refl w.heap.size w) (.cells #[.string c, .string k, .string f, .string t, .int .i64 off, .int .i64 sp, .int .i64 h, .slice A n cap] 39))
  go_enter Tryd.func17, Tryd.ntmps17
  obtain ⟨c0, c1, c2, c3, c4, c5, c6, c7⟩ := N0.out
  go_wp2_with fail
  (with_reducible refine (H0.out _).mono ?_); rintro e w1 ⟨rfl, hb⟩
  have W1 := Lib.hid (b_next W0.out hb); have N1 := Lib.hid (n8_keep hb N0.out); clear hb c0 c1 c2 c3 c4 c5 c6 c7
  obtain ⟨c0, c1, c2, c3, c4, c5, c6, c7⟩ := N1.out
  go_wp2_with fail
  (with_reducible refine (H1.out _).mono ?_); rintro e w2 ⟨rfl, hb⟩
  have W2 := Lib.hid (b_next W1.out hb); have N2 := Lib.hid (n8_keep hb N1.out); clear hb c0 c1 c2 c3 c4 c5 c6 c7
  obtain ⟨c0, c1, c2, c3, c4, c5, c6, c7⟩ := N2.out
  go_wp2_with fail
  (with_reducible refine (H2.out _).mono ?_); rintro e w3 ⟨rfl, hb⟩
  have W3 := Lib.hid (b_next W2.out hb); have N3 := Lib.hid (n8_keep hb N2.out); clear hb c0 c1 c2 c3 c4 c5 c6 c7
  obtain ⟨c0, c1, c2, c3, c4, c5, c6, c7⟩ := N3.out
  go_wp2_with fail
  (with_reducible refine (H3.out _).mono ?_); rintro e w4 ⟨rfl, hb⟩
  have W4 := Lib.hid (b_next W3.out hb); have N4 := Lib.hid (n8_keep hb N3.out); clear hb c0 c1 c2 c3 c4 c5 c6 c7
  obtain ⟨c0, c1, c2, c3, c4, c5, c6, c7⟩ := N4.out
  go_wp2_with fail
  all_goals try (exfalso; omega)
  (with_reducible refine (B.out _ W4.out).mono ?_); rintro e w5 ⟨rfl, hb⟩
  have W5 := Lib.hid (b_next W4.out hb); clear hb
  go_wp2_with fail
  go_ret
  exact ⟨rfl, W5.out⟩
set_option maxRecDepth 100000 in
set_option maxHeartbeats 4000000 in
theorem chk_ok (c k f t : ByteArray) (off sp h : Int) (A : Option Addr) (n cap : Nat) (w : World) (H0 : Hid (NmC c true)) (H1 : Hid (NmC k true)) (H2 : Hid (NmC f true)) (H3 : Hid (NmC t true)) (ho : 0 ≤ off ∧ off ≤ 200000) (hr : (1 ≤ sp ∧ sp ≤ 400) ∧ 1 ≤ h ∧ h ≤ 60000) (hn : n ≤ 24) (B : Hid (∀ w1, Below w.heap.size w w1 → Calls Tryd.prog 32 #[.slice A n cap, .func (.func 33) #[] #[]] w1 fun e w' => e = .returned (.bool false) ∧ Below w1.heap.size w1 w')) :
    Calls Tryd.prog 17 #[plan c k f t off sp h (.slice A n cap)] w fun e w' => e = .returned (.int .i64 0) ∧ Below w.heap.size w w' := by
  have g0 : ¬ (24 : Int) < (n : Int) := by omega
  have g1 : ¬ off < 0 := by omega
  have g2 : ¬ 200000 < off := by omega
  have g3 : ¬ sp < 1 := by omega
  have g4 : ¬ 400 < sp := by omega
  have g5 : ¬ h < 1 := by omega
  have g6 : ¬ 60000 < h := by omega
  have N0 := Lib.hid (n8_new w 39 c k f t off sp h (.slice A n cap))
  have W0 := Lib.hid (b_alloc (Below.refl w.heap.size w) (.cells #[.string c, .string k, .string f, .string t, .int .i64 off, .int .i64 sp, .int .i64 h, .slice A n cap] 39))
  go_enter Tryd.func17, Tryd.ntmps17
  obtain ⟨c0, c1, c2, c3, c4, c5, c6, c7⟩ := N0.out
  go_wp2_with fail
  (with_reducible refine (H0.out _).mono ?_); rintro e w1 ⟨rfl, hb⟩
  have W1 := Lib.hid (b_next W0.out hb); have N1 := Lib.hid (n8_keep hb N0.out); clear hb c0 c1 c2 c3 c4 c5 c6 c7
  obtain ⟨c0, c1, c2, c3, c4, c5, c6, c7⟩ := N1.out
  go_wp2_with fail
  (with_reducible refine (H1.out _).mono ?_); rintro e w2 ⟨rfl, hb⟩
  have W2 := Lib.hid (b_next W1.out hb); have N2 := Lib.hid (n8_keep hb N1.out); clear hb c0 c1 c2 c3 c4 c5 c6 c7
  obtain ⟨c0, c1, c2, c3, c4, c5, c6, c7⟩ := N2.out
  go_wp2_with fail
  (with_reducible refine (H2.out _).mono ?_); rintro e w3 ⟨rfl, hb⟩
  have W3 := Lib.hid (b_next W2.out hb); have N3 := Lib.hid (n8_keep hb N2.out); clear hb c0 c1 c2 c3 c4 c5 c6 c7
  obtain ⟨c0, c1, c2, c3, c4, c5, c6, c7⟩ := N3.out
  go_wp2_with fail
  (with_reducible refine (H3.out _).mono ?_); rintro e w4 ⟨rfl, hb⟩
  have W4 := Lib.hid (b_next W3.out hb); have N4 := Lib.hid (n8_keep hb N3.out); clear hb c0 c1 c2 c3 c4 c5 c6 c7
  obtain ⟨c0, c1, c2, c3, c4, c5, c6, c7⟩ := N4.out
  go_wp2_with fail
  all_goals try (exfalso; omega)
  (with_reducible refine (B.out _ W4.out).mono ?_); rintro e w5 ⟨rfl, hb⟩
  have W5 := Lib.hid (b_next W4.out hb); clear hb
  go_wp2_with fail
  go_ret
  exact ⟨rfl, W5.out⟩
theorem checkC {c k f t : ByteArray} {off sp h : Int} {r : Value} {n : Nat} {T : Nat → ByteArray} {w : World} (hv : SV w r n T) : ∀ w1, Below w.heap.size w w1 →
    Calls Tryd.prog 17 #[plan c k f t off sp h r] w1 fun e w' => e = .returned (.int .i64 (planE c k f t off sp h n T)) ∧ Below w1.heap.size w1 w' := fun w1 hb => by
  have B := bcontC (sv_keep hb hv)
  obtain ⟨A, cap, rfl⟩ := sv_slice hv
  unfold planE
  have key : ∀ s, (nameB s = false → Hid (NmC s false)) ∧ (¬ nameB s = false → Hid (NmC s true)) := fun s => ⟨fun h => Lib.hid fun w => by have c := nameC s w; rw [h] at c; exact c, fun h => Lib.hid fun w => by have c := nameC s w; rw [Bool.not_eq_false] at h; rw [h] at c; exact c⟩
  by_cases h0 : nameB c = false
  · rw [if_pos (Or.inl h0)]; exact chk_n0 c k f t off sp h A n cap w1 ((key c).1 h0)
  have H0 := (key c).2 h0
  by_cases h1 : nameB k = false
  · rw [if_pos (Or.inr (Or.inl h1))]; exact chk_n1 c k f t off sp h A n cap w1 H0 ((key k).1 h1)
  have H1 := (key k).2 h1
  by_cases h2 : nameB f = false
  · rw [if_pos (Or.inr (Or.inr (Or.inl h2)))]; exact chk_n2 c k f t off sp h A n cap w1 H0 H1 ((key f).1 h2)
  have H2 := (key f).2 h2
  by_cases h3 : nameB t = false
  · rw [if_pos (Or.inr (Or.inr (Or.inr h3)))]; exact chk_n3 c k f t off sp h A n cap w1 H0 H1 H2 ((key t).1 h3)
  have H3 := (key t).2 h3
  rw [if_neg (by rintro (h | h | h | h) <;> contradiction)]
  by_cases h4 : off < 0 ∨ 200000 < off
  · rw [if_pos h4]; exact chk_off c k f t off sp h A n cap w1 H0 H1 H2 H3 h4
  rw [if_neg h4]
  by_cases h5 : sp < 1 ∨ 400 < sp ∨ h < 1 ∨ 60000 < h
  · rw [if_pos h5]; exact chk_rng c k f t off sp h A n cap w1 H0 H1 H2 H3 (by omega) h5
  rw [if_neg h5]
  by_cases h6 : 24 < n
  · rw [if_pos h6]; exact chk_big c k f t off sp h A n cap w1 H0 H1 H2 H3 (by omega) (by omega) h6
  rw [if_neg h6]
  by_cases h7 : 0 ≤ bix T n
  · rw [if_pos h7]; rw [decide_eq_true h7] at B
    exact chk_bad c k f t off sp h A n cap w1 H0 H1 H2 H3 (by omega) (by omega) (by omega) (Lib.hid B)
  · rw [if_neg h7]; rw [decide_eq_false h7] at B
    exact chk_ok c k f t off sp h A n cap w1 H0 H1 H2 H3 (by omega) (by omega) (by omega) (Lib.hid B)
end Plan
end Go.Proofs.YtddlacjjanincaaDoor
