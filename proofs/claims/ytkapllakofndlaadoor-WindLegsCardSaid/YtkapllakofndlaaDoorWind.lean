/- wind.Check: what it returns. -/
import Derived.Test.YtkapllakofndlaaDoorDraw
import Derived.Test.YtkapllakofndlaaDoorKit2
import Derived.Test.YtkapllakofndlaaDoorShapes
namespace Go.Proofs.YtkapllakofndlaaDoor
open Go.RowKit
namespace Wind
open Kit
/-- A band in memory. -/
structure N5 (w : World) (b o : Nat) (l h x y e : Int) : Prop where
  c0 : w.cell? ⟨b, o, none⟩ = some (.int .i64 l)
  c1 : w.cell? ⟨b, o + 1, none⟩ = some (.int .i64 h)
  c2 : w.cell? ⟨b, o + 2, none⟩ = some (.int .i64 x)
  c3 : w.cell? ⟨b, o + 3, none⟩ = some (.int .i64 y)
  c4 : w.cell? ⟨b, o + 4, none⟩ = some (.int .i64 e)
theorem n5_keep {W w1 : World} (hb : Below W.heap.size W w1) {b o : Nat} {l h x y e : Int} (n : N5 W b o l h x y e) : N5 w1 b o l h x y e := ⟨keep hb n.c0, keep hb n.c1, keep hb n.c2, keep hb n.c3, keep hb n.c4⟩
theorem n5_new (w : World) (t : TypeId) (l h x y e : Int) : N5 (w.alloc (.cells #[.int .i64 l, .int .i64 h, .int .i64 x, .int .i64 y, .int .i64 e] t)) w.heap.size 0 l h x y e := ⟨by simp, by simp, by simp, by simp, by simp⟩
/-- A slice of bands in memory. -/
def WV (w : World) (v : Value) (n : Nat) (L H X Y E : Nat → Int) : Prop :=
  (n = 0 ∧ (v = .slice none 0 0 ∨ ∃ a cap, v = .slice (some a) 0 cap ∧ cap ≤ maxLen)) ∨ (0 < n ∧ ∃ b off cap, v = .slice (some ⟨b, off, none⟩) n cap ∧ n ≤ cap ∧ cap ≤ maxLen ∧ ∀ k, k < n → N5 w b (off + k * 5) (L k) (H k) (X k) (Y k) (E k))
theorem wv_keep {W w1 : World} (hb : Below W.heap.size W w1) {v : Value} {n : Nat} {L H X Y E : Nat → Int} (h : WV W v n L H X Y E) : WV w1 v n L H X Y E := by
  rcases h with h | ⟨h0, b, off, cap, hv, h1, h2, h3⟩
  · exact Or.inl h
  · exact Or.inr ⟨h0, b, off, cap, hv, h1, h2, fun k hk => n5_keep hb (h3 k hk)⟩
def outB (n : Int) : Bool := decide (n < -150 ∨ 150 < n)
abbrev OuC (n : Int) (b : Bool) : Prop := ∀ w, Calls Tryd.prog 73 #[.int .i64 n] w fun e w' => e = .returned (.bool b) ∧ w = w'
theorem out_w (n : Int) : OuC n (outB n) := fun w => by
  unfold outB
  by_cases h1 : n < -150
  · rw [decide_eq_true (Or.inl h1)]
    have q := decide_eq_true h1
    go_enter Tryd.func73, Tryd.ntmps73
    go_wp2
    all_goals first | (exfalso; omega) | (go_ret; exact ⟨by first | rfl | trivial, rfl⟩)
  · by_cases h2 : 150 < n
    · rw [decide_eq_true (Or.inr h2)]
      have q := decide_eq_false h1; have q2 := decide_eq_true h2
      go_enter Tryd.func73, Tryd.ntmps73
      go_wp2
      all_goals first | (exfalso; omega) | (go_ret; exact ⟨by first | rfl | trivial | exact retb (by simp; omega), rfl⟩)
    · rw [decide_eq_false (by omega)]
      have q := decide_eq_false h1; have q2 := decide_eq_false h2
      go_enter Tryd.func73, Tryd.ntmps73
      go_wp2
      all_goals first | (exfalso; omega) | (go_ret; exact ⟨by first | rfl | trivial | exact retb (by simp; omega), rfl⟩)
section
variable (L H X Y E : Nat → Int)
/-- What wind.Check says of band i. -/
def werr (i : Nat) : Int := if (L i < 0 ∨ 60001 < H i ∨ H i ≤ L i) ∨ outB (X i) = true ∨ outB (Y i) = true ∨ (E i < 0 ∨ 100 < E i) then 4 else if 0 < i ∧ L i < H (i - 1) then 3 else 0
def wchk : Nat → Int
  | 0 => 0
  | k + 1 => if wchk k ≠ 0 then wchk k else werr L H X Y E k
/-- wind.Check's error. -/
def wck (n : Nat) : Int := if 16 < n then 2 else wchk L H X Y E n
variable {L H X Y E}
theorem wchk_stays {k : Nat} (h : wchk L H X Y E k ≠ 0) : ∀ m, k ≤ m → wchk L H X Y E m = wchk L H X Y E k := by
  intro m
  induction m with
  | zero => intro hk; rw [show k = 0 from by omega]
  | succ m ih =>
    intro hk
    rcases Nat.lt_or_ge m k with hl | hl
    · rw [show m + 1 = k from by omega]
    · have e := ih hl
      show (if wchk L H X Y E m ≠ 0 then _ else _) = _
      rw [if_pos (by rw [e]; exact h), e]
theorem wchk_step {k : Nat} (h : wchk L H X Y E k = 0) : wchk L H X Y E (k + 1) = werr L H X Y E k := by
  show (if wchk L H X Y E k ≠ 0 then _ else _) = _
  rw [if_neg (fun e => e h)]
theorem wchk_stop {k n : Nat} (hk : k < n) (h : wchk L H X Y E k = 0) (he : werr L H X Y E k ≠ 0) : wchk L H X Y E n = werr L H X Y E k := by
  have e := wchk_step h
  rw [wchk_stays (k := k + 1) (by rw [e]; exact he) n hk, e]
end
set_option maxRecDepth 100000 in
set_option maxHeartbeats 4000000 in
theorem check_w (n cap b off : Nat) (L H X Y E : Nat → Int) (w : World) (_h0 : 0 < n) (hn : n ≤ 16) (hc : n ≤ cap) (hm : cap ≤ 9223372036854775807) (HV : Hid (∀ k, k < n → N5 w b (off + k * 5) (L k) (H k) (X k) (Y k) (E k))) :
    Calls Tryd.prog 39 #[.slice (some ⟨b, off, none⟩) n cap] w fun e w' => e = .returned (.int .i64 (wchk L H X Y E n)) ∧ Below w.heap.size w w' := by
  obtain ⟨R, hR⟩ : ∃ R, R = wchk L H X Y E n := ⟨_, rfl⟩
  rw [← hR]
  have HR := Lib.hid hR; clear hR
  go_enter Tryd.func39, Tryd.ntmps39
  go_wp2_with fail
  go_loopw [11] (fun s wr => ∃ k : Nat, k ≤ n ∧ s = .int .i64 k ∧ wchk L H X Y E k = 0 ∧ Below w.heap.size w wr) (fun s _ => n - (intOf s).toNat)
  case atStart => exact ⟨0, Nat.zero_le _, rfl, rfl, Below.refl _ _⟩
  case round =>
    obtain ⟨k, hk, rfl, hz, hbl⟩ := hrel
    have HZ := Lib.hid hz; have WR := Lib.hid hbl; clear hz
    by_cases hlt : k < n
    · have hl : (k : Int) < (n : Int) := by omega
      obtain ⟨c0, c1, c2, c3, c4⟩ := n5_keep hbl (HV.out k hlt)
      have PN := Lib.hid (n5_new wr 38 (L k) (H k) (X k) (Y k) (E k))
      have W1 := Lib.hid (b_alloc WR.out (.cells #[.int .i64 (L k), .int .i64 (H k), .int .i64 (X k), .int .i64 (Y k), .int .i64 (E k)] 38))
      have BAD : Hid (werr L H X Y E k ≠ 0 → R = werr L H X Y E k) := Lib.hid fun h => by rw [HR.out]; exact wchk_stop hlt HZ.out h
      have NXT : Hid (werr L H X Y E k = 0 → wchk L H X Y E (k + 1) = 0) := Lib.hid fun h => by rw [wchk_step HZ.out, h]
      have PRE : Hid (0 < k → w.cell? ⟨b, off + (k - 1) * 5 + 1, none⟩ = some (.int .i64 (H (k - 1)))) := Lib.hid fun h => (HV.out (k - 1) (by omega)).c1
      have OX := Lib.hid (out_w (X k)); have OY := Lib.hid (out_w (Y k))
      obtain ⟨v, hv⟩ : ∃ v, v = werr L H X Y E k := ⟨_, rfl⟩
      rw [← hv] at BAD NXT
      unfold werr at hv
      obtain ⟨ph, hph⟩ : ∃ ph, ph = H (k - 1) := ⟨_, rfl⟩
      rw [← hph] at hv PRE
      generalize L k = l at *
      generalize H k = h at *
      generalize X k = x at *
      generalize Y k = y at *
      generalize E k = e at *
      generalize outB x = ox at *
      generalize outB y = oy at *
      have HE := Lib.hid hv; clear hv hph hbl
      by_cases p1 : l < 0 ∨ 60001 < h ∨ h ≤ l
      · have q := HE.out
        rw [if_pos (Or.inl p1)] at q
        have HB := Lib.hid (BAD.out (by rw [q]; decide))
        rw [q] at HB
        have e2 := HB.out
        subst e2
        clear q HE BAD NXT
        go_wp2_with fail
        all_goals first | (exfalso; omega) | (go_ret; exact ⟨rfl, W1.out⟩)
      · have n1 : ¬ l < 0 := by omega
        have n2 : ¬ 60001 < h := by omega
        have n3 : ¬ h ≤ l := by omega
        go_wp2_with fail
        (with_reducible refine (OX.out _).mono ?_); rintro ed v0 ⟨rfl, rfl⟩
        cases ox with
        | true =>
          have q := HE.out
          rw [if_pos (Or.inr (Or.inl rfl))] at q
          have HB := Lib.hid (BAD.out (by rw [q]; decide))
          rw [q] at HB
          have e2 := HB.out
          subst e2
          clear q HE BAD NXT
          go_wp2_with fail
          all_goals first | (exfalso; omega) | (go_ret; exact ⟨rfl, W1.out⟩)
        | false =>
          go_wp2_with fail
          (with_reducible refine (OY.out _).mono ?_); rintro ed v0 ⟨rfl, rfl⟩
          cases oy with
          | true =>
            have q := HE.out
            rw [if_pos (Or.inr (Or.inr (Or.inl rfl)))] at q
            have HB := Lib.hid (BAD.out (by rw [q]; decide))
            rw [q] at HB
            have e2 := HB.out
            subst e2
            clear q HE BAD NXT
            go_wp2_with fail
            all_goals first | (exfalso; omega) | (go_ret; exact ⟨rfl, W1.out⟩)
          | false =>
            by_cases p2 : e < 0 ∨ 100 < e
            · have q := HE.out
              rw [if_pos (Or.inr (Or.inr (Or.inr p2)))] at q
              have HB := Lib.hid (BAD.out (by rw [q]; decide))
              rw [q] at HB
              have e2 := HB.out
              subst e2
              clear q HE BAD NXT
              go_wp2_with fail
              all_goals first | (exfalso; omega) | (go_ret; exact ⟨rfl, W1.out⟩)
            · have m1 : ¬ e < 0 := by omega
              have m2 : ¬ 100 < e := by omega
              have q := HE.out
              rw [if_neg (fun h => by rcases h with h | h | h | h <;> first | exact p1 h | exact p2 h | cases h)] at q
              have HE2 := Lib.hid q; clear q HE
              by_cases p3 : 0 < k
              · have PH := Lib.hid (keep W1.out (PRE.out p3))
                obtain ⟨j, hj⟩ : ∃ j, j = k - 1 := ⟨_, rfl⟩
                rw [← hj] at PH
                have u0 : (j : Int) < (n : Int) := by omega
                have u1 : IntKind.i64.wrap ((k : Int) - 1) = (j : Int) := by rw [IntWalk.i64_in _ (by omega)]; omega
                have u2 : (k : Int) - 1 = (j : Int) := by omega
                have u4 : IntKind.i64.wrap (j : Int) = (j : Int) := IntWalk.i64_in _ (by omega)
                have u5 : 0 < (k : Int) := by omega
                have u6 := decide_eq_true u5
                have u7 := decide_eq_true p3
                clear hj
                by_cases p4 : l < ph
                · have q := HE2.out
                  rw [if_pos ⟨p3, p4⟩] at q
                  have HB := Lib.hid (BAD.out (by rw [q]; decide))
                  rw [q] at HB
                  have e2 := HB.out
                  subst e2
                  have q4 := decide_eq_true p4
                  clear q HE2 BAD NXT
                  go_wp2_with fail
                  refine d_region (by kernel_rfl) (by kernel_rfl) ?_
                  repeat
                    first
                      | (refine d_plain (by with_reducible rfl) ?_; apply Exists.intro; refine ⟨fun wq hc hq => ?_, ?_⟩)
                      | (refine d_on (by with_reducible rfl) (by rfl) (by with_reducible rfl) ?_; apply Exists.intro; refine ⟨fun wq hc hq => ?_, ?_⟩)
                      | (refine d_off (by with_reducible rfl) (by rfl) (by rfl) ?_)
                      | (refine d_void (by with_reducible rfl) (by rfl) ?_)
                    try any_goals
                      (obtain ⟨q0, q1, q2, q3, q4⟩ := n5_keep (cls hq) PN.out; have q5 := keep (cls hq) PH.out; clear hc
                       go_simp
                       first
                         | rfl)
                    simp only [Act.put, List.setIfInBounds_toArray, List.set_cons_zero, List.set_cons_succ]
                  refine d_nil ?_
                  intro w7 hb7
                  have W7 := Lib.hid (b_next W1.out hb7); clear hb7
                  go_wp2_with fail
                  all_goals first | (exfalso; omega) | (go_ret; exact ⟨rfl, W7.out⟩)
                · have q := HE2.out
                  rw [if_neg (fun h => p4 h.2)] at q
                  have NX := Lib.hid (NXT.out q)
                  have q4 := decide_eq_false p4
                  clear q HE2 BAD NXT
                  go_wp2_with fail
                  refine d_region (by kernel_rfl) (by kernel_rfl) ?_
                  repeat
                    first
                      | (refine d_plain (by with_reducible rfl) ?_; apply Exists.intro; refine ⟨fun wq hc hq => ?_, ?_⟩)
                      | (refine d_on (by with_reducible rfl) (by rfl) (by with_reducible rfl) ?_; apply Exists.intro; refine ⟨fun wq hc hq => ?_, ?_⟩)
                      | (refine d_off (by with_reducible rfl) (by rfl) (by rfl) ?_)
                      | (refine d_void (by with_reducible rfl) (by rfl) ?_)
                    try any_goals
                      (obtain ⟨q0, q1, q2, q3, q4⟩ := n5_keep (cls hq) PN.out; have q5 := keep (cls hq) PH.out; clear hc
                       go_simp
                       first
                         | rfl)
                    simp only [Act.put, List.setIfInBounds_toArray, List.set_cons_zero, List.set_cons_succ]
                  refine d_nil ?_
                  intro w7 hb7
                  have W7 := Lib.hid (b_next W1.out hb7); clear hb7
                  go_wp2_with fail
                  all_goals first | (exfalso; omega) | exact ⟨⟨k + 1, by omega, by go_num, NX.out, W7.out⟩, by simp [intOf]; omega⟩
              · have q := HE2.out
                rw [if_neg (fun h => p3 h.1)] at q
                have NX := Lib.hid (NXT.out q)
                have hk0 : k = 0 := by omega
                subst hk0
                clear q HE2 BAD NXT
                go_wp2_with fail
                refine d_region (by kernel_rfl) (by kernel_rfl) ?_
                repeat
                  first
                    | (refine d_plain (by with_reducible rfl) ?_; apply Exists.intro; refine ⟨fun wq hc hq => ?_, ?_⟩)
                    | (refine d_on (by with_reducible rfl) (by rfl) (by with_reducible rfl) ?_; apply Exists.intro; refine ⟨fun wq hc hq => ?_, ?_⟩)
                    | (refine d_off (by with_reducible rfl) (by rfl) (by rfl) ?_)
                    | (refine d_void (by with_reducible rfl) (by rfl) ?_)
                  try any_goals
                    (obtain ⟨q0, q1, q2, q3, q4⟩ := n5_keep (cls hq) PN.out; clear hc
                     go_simp
                     first
                       | rfl)
                  simp only [Act.put, List.setIfInBounds_toArray, List.set_cons_zero, List.set_cons_succ]
                refine d_nil ?_
                intro w7 hb7
                have W7 := Lib.hid (b_next W1.out hb7); clear hb7
                go_wp2_with fail
                all_goals first | (exfalso; omega) | exact ⟨⟨0 + 1, by omega, by go_num, NX.out, W7.out⟩, by simp [intOf]; omega⟩
    · have hkn : k = n := by omega
      have hl : ¬ (k : Int) < (n : Int) := by omega
      have HF : Hid (R = 0) := Lib.hid (by rw [HR.out, ← hkn]; exact HZ.out)
      have e := HF.out
      subst e
      clear hbl
      go_wp2_with fail
      go_ret
      exact ⟨rfl, WR.out⟩
end Wind
end Go.Proofs.YtkapllakofndlaaDoor
