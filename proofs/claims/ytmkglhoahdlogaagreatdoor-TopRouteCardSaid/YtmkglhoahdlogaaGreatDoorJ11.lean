/- Joined texts: Profile, Wind, WindC, FlyK, FlyP. -/
import Derived.Test.YtmkglhoahdlogaaGreatDoorKind
import Derived.Test.YtmkglhoahdlogaaGreatDoorJ01
import Derived.Test.YtmkglhoahdlogaaGreatDoorJ07
import Derived.Test.YtmkglhoahdlogaaGreatDoorJ09
import Derived.Test.YtmkglhoahdlogaaGreatDoorFlyI
namespace Go.Proofs.YtmkglhoahdlogaaGreatDoor
open Go.RowKit
namespace Kind
open Kit Name
/-- fly.Profile's answer for a type that Check accepts. -/
def prof (ceil climb desc height total t : Int) : Int × Int :=
  if ceil < height then (0, 20) else if height < 0 ∨ 60000 < height ∨ total < 0 ∨ 200000 < total ∨ t < 0 ∨ total < t then (0, 4) else (min height (min (climb * t) (desc * (total - t))), 0)
abbrev KindC (s : ByteArray) (wake ceil climb desc slow fast E : Int) : Prop := ∀ w, Calls Tryz.prog 90 #[.agg #[.string s, .int .i64 wake, .int .i64 ceil, .int .i64 climb, .int .i64 desc, .int .i64 slow, .int .i64 fast]] w fun e w' => e = .returned (.int .i64 E) ∧ Below w.heap.size w w'
theorem mul_bd {a b A B : Int} (h0 : 0 ≤ a) (h1 : a ≤ A) (h2 : 0 ≤ b) (h3 : b ≤ B) : 0 ≤ a * b ∧ a * b ≤ A * B :=
  ⟨Int.mul_nonneg h0 h2, Int.mul_le_mul h1 h3 h2 (by omega)⟩
set_option maxHeartbeats 1000000 in
theorem prof_ok (s : ByteArray) (wake ceil climb desc slow fast height total t : Int) (w : World) (K : Hid (KindC s wake ceil climb desc slow fast 0))
   (a2 : 1 ≤ climb ∧ climb ≤ 200) (a3 : 1 ≤ desc ∧ desc ≤ 200) (b1 : ¬ ceil < height) (b2 : 0 ≤ height) (b3 : height ≤ 60000) (b4 : 0 ≤ total) (b5 : total ≤ 200000) (b6 : 0 ≤ t) (b7 : t ≤ total) :
    Calls Tryz.prog 62 #[.agg #[.string s, .int .i64 wake, .int .i64 ceil, .int .i64 climb, .int .i64 desc, .int .i64 slow, .int .i64 fast], .int .i64 height, .int .i64 total, .int .i64 t] w fun e w' => e = .returned (.tuple #[.int .i64 (min height (min (climb * t) (desc * (total - t)))), .int .i64 0]) ∧ Below w.heap.size w w' := by
  have p1 := mul_bd (by omega) a2.2 b6 (show t ≤ 200000 by omega)
  have p2 := mul_bd (by omega) a3.2 (show 0 ≤ total - t by omega) (show total - t ≤ 200000 by omega)
  go_enter Tryz.func62, Tryz.ntmps62
  have hk := k7_new w 52 s wake ceil climb desc slow fast
  have hw := b_alloc (Below.refl w.heap.size w) (.cells #[.string s, .int .i64 wake, .int .i64 ceil, .int .i64 climb, .int .i64 desc, .int .i64 slow, .int .i64 fast] 52)
  go_wp2_with fail
  refine (K.out _).mono ?_; rintro e w1 ⟨rfl, hb⟩
  replace hk := k7_keep hb hk
  replace hw := b_next hw hb
  obtain ⟨k0, k1, k2, k3, k4, k5, k6⟩ := hk
  clear hb
  go_wp2_with fail
  all_goals go_ret2
  all_goals exact ⟨ret2 (by omega) rfl, hw⟩
set_option maxHeartbeats 1000000 in
theorem prof_no (s : ByteArray) (wake ceil climb desc slow fast height total t : Int) (w : World) (K : Hid (KindC s wake ceil climb desc slow fast 0))
   (b : ceil < height ∨ height < 0 ∨ 60000 < height ∨ total < 0 ∨ 200000 < total ∨ t < 0 ∨ total < t) :
    Calls Tryz.prog 62 #[.agg #[.string s, .int .i64 wake, .int .i64 ceil, .int .i64 climb, .int .i64 desc, .int .i64 slow, .int .i64 fast], .int .i64 height, .int .i64 total, .int .i64 t] w fun e w' => e = .returned (.tuple #[.int .i64 0, .int .i64 (if ceil < height then 20 else 4)]) ∧ Below w.heap.size w w' := by
  go_enter Tryz.func62, Tryz.ntmps62
  have hk := k7_new w 52 s wake ceil climb desc slow fast
  have hw := b_alloc (Below.refl w.heap.size w) (.cells #[.string s, .int .i64 wake, .int .i64 ceil, .int .i64 climb, .int .i64 desc, .int .i64 slow, .int .i64 fast] 52)
  go_wp2_with fail
  refine (K.out _).mono ?_; rintro e w1 ⟨rfl, hb⟩
  replace hk := k7_keep hb hk
  replace hw := b_next hw hb
  obtain ⟨k0, k1, k2, k3, k4, k5, k6⟩ := hk
  clear hb
  go_wp2_with fail
  all_goals first | (exfalso; omega) | (go_ret2; exact ⟨ret2 rfl (by first | rfl | omega | (split <;> omega)), hw⟩)
set_option maxHeartbeats 1000000 in
theorem prof_bad (s : ByteArray) (wake ceil climb desc slow fast height total t E : Int) (w : World) (K : Hid (KindC s wake ceil climb desc slow fast E)) (_hE1 : (E == 0) = false) (hE2 : (E != 0) = true) :
    Calls Tryz.prog 62 #[.agg #[.string s, .int .i64 wake, .int .i64 ceil, .int .i64 climb, .int .i64 desc, .int .i64 slow, .int .i64 fast], .int .i64 height, .int .i64 total, .int .i64 t] w fun e w' => e = .returned (.tuple #[.int .i64 0, .int .i64 E]) ∧ Below w.heap.size w w' := by
  go_enter Tryz.func62, Tryz.ntmps62
  have hk := k7_new w 52 s wake ceil climb desc slow fast
  have hw := b_alloc (Below.refl w.heap.size w) (.cells #[.string s, .int .i64 wake, .int .i64 ceil, .int .i64 climb, .int .i64 desc, .int .i64 slow, .int .i64 fast] 52)
  go_wp2_with fail
  refine (K.out _).mono ?_; rintro e w1 ⟨rfl, hb⟩
  replace hk := k7_keep hb hk
  replace hw := b_next hw hb
  obtain ⟨k0, k1, k2, k3, k4, k5, k6⟩ := hk
  clear hb
  go_wp2_with fail
  all_goals (go_ret2; exact ⟨ret2 rfl rfl, hw⟩)
/-- fly.Profile's answer. -/
def profE (s : ByteArray) (wake ceil climb desc slow fast height total t : Int) : Int × Int :=
  if kchk s wake ceil climb desc slow fast = 0 then prof ceil climb desc height total t else (0, kchk s wake ceil climb desc slow fast)
theorem kchk_ok {s : ByteArray} {wake ceil climb desc slow fast : Int} (h : kchk s wake ceil climb desc slow fast = 0) :
    nameB s = true ∧ (0 ≤ wake ∧ wake ≤ 3) ∧ (1 ≤ ceil ∧ ceil ≤ 60000) ∧ (1 ≤ climb ∧ climb ≤ 200) ∧ (1 ≤ desc ∧ desc ≤ 200) ∧ (1 ≤ slow ∧ slow ≤ 400) ∧ (1 ≤ fast ∧ fast ≤ 400) ∧ slow ≤ fast := by
  unfold kchk outB at h
  simp only [decide_eq_true_eq] at h
  split at h
  · omega
  · rename_i h0
    split at h
    · omega
    · split at h
      · omega
      · split at h
        · omega
        · exact ⟨by simpa using h0, by omega, by omega, by omega, by omega, by omega, by omega, by omega⟩
theorem profC (s : ByteArray) (wake ceil climb desc slow fast height total t : Int) (w : World) :
    Calls Tryz.prog 62 #[.agg #[.string s, .int .i64 wake, .int .i64 ceil, .int .i64 climb, .int .i64 desc, .int .i64 slow, .int .i64 fast], .int .i64 height, .int .i64 total, .int .i64 t] w fun e w' => e = .returned (.tuple #[.int .i64 (profE s wake ceil climb desc slow fast height total t).1, .int .i64 (profE s wake ceil climb desc slow fast height total t).2]) ∧ Below w.heap.size w w' := by
  have K : KindC s wake ceil climb desc slow fast (kchk s wake ceil climb desc slow fast) := fun w => kindC s wake ceil climb desc slow fast w
  by_cases hE : kchk s wake ceil climb desc slow fast = 0
  · obtain ⟨-, -, a1, a2, a3, -⟩ := kchk_ok hE
    rw [hE] at K
    unfold profE
    rw [if_pos hE]
    unfold prof
    by_cases b : ceil < height ∨ height < 0 ∨ 60000 < height ∨ total < 0 ∨ 200000 < total ∨ t < 0 ∨ total < t
    · refine (prof_no s wake ceil climb desc slow fast height total t w (Lib.hid K) b).mono ?_
      rintro e w' ⟨rfl, hb⟩
      refine ⟨?_, hb⟩
      by_cases c : ceil < height
      · rw [if_pos c, if_pos c]
      · rw [if_neg c, if_neg c, if_pos (by omega)]
    · rw [if_neg (by omega), if_neg (by omega)]
      exact prof_ok s wake ceil climb desc slow fast height total t w (Lib.hid K) a2 a3 (by omega) (by omega) (by omega) (by omega) (by omega) (by omega) (by omega)
  · unfold profE
    rw [if_neg hE]
    exact prof_bad s wake ceil climb desc slow fast height total t _ w (Lib.hid K) (by simpa using hE) (by simpa using hE)
end Kind
end Go.Proofs.YtmkglhoahdlogaaGreatDoor
namespace Go.Proofs.YtmkglhoahdlogaaGreatDoor
open Go.RowKit
namespace Wind
open Kit
/-- A band in memory. -/
structure N5 (w : World) (b o : Nat) (l h x y e : Int) : Prop where
  c0 : w.cell? ⟨b, o, none⟩ = some (.int .i64 l)
  c1 : w.cell? ⟨b, o + 1, none⟩ = some (.int .i64 h)
  c2 : w.cell? ⟨b, o + 2, none⟩ = some (.int .i64 x)
  c3 : w.cell? ⟨b, o + 3, none⟩ = some (.int .i64 y)
  c4 : w.cell? ⟨b, o + 4, none⟩ = some (.int .i64 e)
theorem n5_keep {W w1 : World} (hb : Below W.heap.size W w1) {b o : Nat} {l h x y e : Int} (n : N5 W b o l h x y e) : N5 w1 b o l h x y e := ⟨keep hb n.c0, keep hb n.c1, keep hb n.c2, keep hb n.c3, keep hb n.c4⟩
theorem n5_new (w : World) (t : TypeId) (l h x y e : Int) : N5 (w.alloc (.cells #[.int .i64 l, .int .i64 h, .int .i64 x, .int .i64 y, .int .i64 e] t)) w.heap.size 0 l h x y e := ⟨by simp, by simp, by simp, by simp, by simp⟩
/-- A slice of bands in memory. -/
def WV (w : World) (v : Value) (n : Nat) (L H X Y E : Nat → Int) : Prop :=
  (n = 0 ∧ (v = .slice none 0 0 ∨ ∃ a cap, v = .slice (some a) 0 cap ∧ cap ≤ maxLen)) ∨ (0 < n ∧ ∃ b off cap, v = .slice (some ⟨b, off, none⟩) n cap ∧ n ≤ cap ∧ cap ≤ maxLen ∧ ∀ k, k < n → N5 w b (off + k * 5) (L k) (H k) (X k) (Y k) (E k))
theorem wv_keep {W w1 : World} (hb : Below W.heap.size W w1) {v : Value} {n : Nat} {L H X Y E : Nat → Int} (h : WV W v n L H X Y E) : WV w1 v n L H X Y E := by
  rcases h with h | ⟨h0, b, off, cap, hv, h1, h2, h3⟩
  · exact Or.inl h
  · exact Or.inr ⟨h0, b, off, cap, hv, h1, h2, fun k hk => n5_keep hb (h3 k hk)⟩
def outB (n : Int) : Bool := decide (n < -150 ∨ 150 < n)
abbrev OuC (n : Int) (b : Bool) : Prop := ∀ w, Calls Tryz.prog 107 #[.int .i64 n] w fun e w' => e = .returned (.bool b) ∧ w = w'
theorem out_w (n : Int) : OuC n (outB n) := fun w => by
  unfold outB
  by_cases h1 : n < -150
  · rw [decide_eq_true (Or.inl h1)]
    have q := decide_eq_true h1
    go_enter Tryz.func107, Tryz.ntmps107
    go_wp2
    all_goals first | (exfalso; omega) | (go_ret; exact ⟨by first | rfl | trivial, rfl⟩)
  · by_cases h2 : 150 < n
    · rw [decide_eq_true (Or.inr h2)]
      have q := decide_eq_false h1; have q2 := decide_eq_true h2
      go_enter Tryz.func107, Tryz.ntmps107
      go_wp2
      all_goals first | (exfalso; omega) | (go_ret; exact ⟨by first | rfl | trivial | exact retb (by simp; omega), rfl⟩)
    · rw [decide_eq_false (by omega)]
      have q := decide_eq_false h1; have q2 := decide_eq_false h2
      go_enter Tryz.func107, Tryz.ntmps107
      go_wp2
      all_goals first | (exfalso; omega) | (go_ret; exact ⟨by first | rfl | trivial | exact retb (by simp; omega), rfl⟩)
section
variable (L H X Y E : Nat → Int)
/-- What wind.Check says of band i. -/
def werr (i : Nat) : Int := if (L i < 0 ∨ 60001 < H i ∨ H i ≤ L i) ∨ outB (X i) = true ∨ outB (Y i) = true ∨ (E i < 0 ∨ 100 < E i) then 4 else if 0 < i ∧ L i < H (i - 1) then 3 else 0
def wchk : Nat → Int
  | 0 => 0
  | k + 1 => if wchk k ≠ 0 then wchk k else werr L H X Y E k
/-- wind.Check's error. -/
def wck (n : Nat) : Int := if 16 < n then 2 else wchk L H X Y E n
variable {L H X Y E}
theorem wchk_stays {k : Nat} (h : wchk L H X Y E k ≠ 0) : ∀ m, k ≤ m → wchk L H X Y E m = wchk L H X Y E k := by
  intro m
  induction m with
  | zero => intro hk; rw [show k = 0 from by omega]
  | succ m ih =>
    intro hk
    rcases Nat.lt_or_ge m k with hl | hl
    · rw [show m + 1 = k from by omega]
    · have e := ih hl
      show (if wchk L H X Y E m ≠ 0 then _ else _) = _
      rw [if_pos (by rw [e]; exact h), e]
theorem wchk_step {k : Nat} (h : wchk L H X Y E k = 0) : wchk L H X Y E (k + 1) = werr L H X Y E k := by
  show (if wchk L H X Y E k ≠ 0 then _ else _) = _
  rw [if_neg (fun e => e h)]
theorem wchk_stop {k n : Nat} (hk : k < n) (h : wchk L H X Y E k = 0) (he : werr L H X Y E k ≠ 0) : wchk L H X Y E n = werr L H X Y E k := by
  have e := wchk_step h
  rw [wchk_stays (k := k + 1) (by rw [e]; exact he) n hk, e]
end
set_option maxRecDepth 100000 in
set_option maxHeartbeats 4000000 in
theorem check_w (n cap b off : Nat) (L H X Y E : Nat → Int) (w : World) (_h0 : 0 < n) (hn : n ≤ 16) (hc : n ≤ cap) (hm : cap ≤ 9223372036854775807) (HV : Hid (∀ k, k < n → N5 w b (off + k * 5) (L k) (H k) (X k) (Y k) (E k))) :
    Calls Tryz.prog 91 #[.slice (some ⟨b, off, none⟩) n cap] w fun e w' => e = .returned (.int .i64 (wchk L H X Y E n)) ∧ Below w.heap.size w w' := by
  obtain ⟨R, hR⟩ : ∃ R, R = wchk L H X Y E n := ⟨_, rfl⟩
  rw [← hR]
  have HR := Lib.hid hR; clear hR
  go_enter Tryz.func91, Tryz.ntmps91
  go_wp2_with fail
  go_loopw [11] (fun s wr => ∃ k : Nat, k ≤ n ∧ s = .int .i64 k ∧ wchk L H X Y E k = 0 ∧ Below w.heap.size w wr) (fun s _ => n - (intOf s).toNat)
  case atStart => exact ⟨0, Nat.zero_le _, rfl, rfl, Below.refl _ _⟩
  case round =>
    obtain ⟨k, hk, rfl, hz, hbl⟩ := hrel
    have HZ := Lib.hid hz; have WR := Lib.hid hbl; clear hz
    by_cases hlt : k < n
    · have hl : (k : Int) < (n : Int) := by omega
      obtain ⟨c0, c1, c2, c3, c4⟩ := n5_keep hbl (HV.out k hlt)
      have PN := Lib.hid (n5_new wr 158 (L k) (H k) (X k) (Y k) (E k))
      have W1 := Lib.hid (b_alloc WR.out (.cells #[.int .i64 (L k), .int .i64 (H k), .int .i64 (X k), .int .i64 (Y k), .int .i64 (E k)] 158))
      have BAD : Hid (werr L H X Y E k ≠ 0 → R = werr L H X Y E k) := Lib.hid fun h => by rw [HR.out]; exact wchk_stop hlt HZ.out h
      have NXT : Hid (werr L H X Y E k = 0 → wchk L H X Y E (k + 1) = 0) := Lib.hid fun h => by rw [wchk_step HZ.out, h]
      have PRE : Hid (0 < k → w.cell? ⟨b, off + (k - 1) * 5 + 1, none⟩ = some (.int .i64 (H (k - 1)))) := Lib.hid fun h => (HV.out (k - 1) (by omega)).c1
      have OX := Lib.hid (out_w (X k)); have OY := Lib.hid (out_w (Y k))
      obtain ⟨v, hv⟩ : ∃ v, v = werr L H X Y E k := ⟨_, rfl⟩
      rw [← hv] at BAD NXT
      unfold werr at hv
      obtain ⟨ph, hph⟩ : ∃ ph, ph = H (k - 1) := ⟨_, rfl⟩
      rw [← hph] at hv PRE
      generalize L k = l at *
      generalize H k = h at *
      generalize X k = x at *
      generalize Y k = y at *
      generalize E k = e at *
      generalize outB x = ox at *
      generalize outB y = oy at *
      have HE := Lib.hid hv; clear hv hph hbl
      by_cases p1 : l < 0 ∨ 60001 < h ∨ h ≤ l
      · have q := HE.out
        rw [if_pos (Or.inl p1)] at q
        have HB := Lib.hid (BAD.out (by rw [q]; decide))
        rw [q] at HB
        have e2 := HB.out
        subst e2
        clear q HE BAD NXT
        go_wp2_with fail
        all_goals first | (exfalso; omega) | (go_ret; exact ⟨rfl, W1.out⟩)
      · have n1 : ¬ l < 0 := by omega
        have n2 : ¬ 60001 < h := by omega
        have n3 : ¬ h ≤ l := by omega
        go_wp2_with fail
        (with_reducible refine (OX.out _).mono ?_); rintro ed v0 ⟨rfl, rfl⟩
        cases ox with
        | true =>
          have q := HE.out
          rw [if_pos (Or.inr (Or.inl rfl))] at q
          have HB := Lib.hid (BAD.out (by rw [q]; decide))
          rw [q] at HB
          have e2 := HB.out
          subst e2
          clear q HE BAD NXT
          go_wp2_with fail
          all_goals first | (exfalso; omega) | (go_ret; exact ⟨rfl, W1.out⟩)
        | false =>
          go_wp2_with fail
          (with_reducible refine (OY.out _).mono ?_); rintro ed v0 ⟨rfl, rfl⟩
          cases oy with
          | true =>
            have q := HE.out
            rw [if_pos (Or.inr (Or.inr (Or.inl rfl)))] at q
            have HB := Lib.hid (BAD.out (by rw [q]; decide))
            rw [q] at HB
            have e2 := HB.out
            subst e2
            clear q HE BAD NXT
            go_wp2_with fail
            all_goals first | (exfalso; omega) | (go_ret; exact ⟨rfl, W1.out⟩)
          | false =>
            by_cases p2 : e < 0 ∨ 100 < e
            · have q := HE.out
              rw [if_pos (Or.inr (Or.inr (Or.inr p2)))] at q
              have HB := Lib.hid (BAD.out (by rw [q]; decide))
              rw [q] at HB
              have e2 := HB.out
              subst e2
              clear q HE BAD NXT
              go_wp2_with fail
              all_goals first | (exfalso; omega) | (go_ret; exact ⟨rfl, W1.out⟩)
            · have m1 : ¬ e < 0 := by omega
              have m2 : ¬ 100 < e := by omega
              have q := HE.out
              rw [if_neg (fun h => by rcases h with h | h | h | h <;> first | exact p1 h | exact p2 h | cases h)] at q
              have HE2 := Lib.hid q; clear q HE
              by_cases p3 : 0 < k
              · have PH := Lib.hid (keep W1.out (PRE.out p3))
                obtain ⟨j, hj⟩ : ∃ j, j = k - 1 := ⟨_, rfl⟩
                rw [← hj] at PH
                have u0 : (j : Int) < (n : Int) := by omega
                have u1 : IntKind.i64.wrap ((k : Int) - 1) = (j : Int) := by rw [IntWalk.i64_in _ (by omega)]; omega
                have u2 : (k : Int) - 1 = (j : Int) := by omega
                have u4 : IntKind.i64.wrap (j : Int) = (j : Int) := IntWalk.i64_in _ (by omega)
                have u5 : 0 < (k : Int) := by omega
                have u6 := decide_eq_true u5
                have u7 := decide_eq_true p3
                clear hj
                by_cases p4 : l < ph
                · have q := HE2.out
                  rw [if_pos ⟨p3, p4⟩] at q
                  have HB := Lib.hid (BAD.out (by rw [q]; decide))
                  rw [q] at HB
                  have e2 := HB.out
                  subst e2
                  have q4 := decide_eq_true p4
                  clear q HE2 BAD NXT
                  go_wp2_with fail
                  refine d_region (by kernel_rfl) (by kernel_rfl) ?_
                  repeat
                    first
                      | (refine d_plain (by with_reducible rfl) ?_; apply Exists.intro; refine ⟨fun wq hc hq => ?_, ?_⟩)
                      | (refine d_on (by with_reducible rfl) (by rfl) (by with_reducible rfl) ?_; apply Exists.intro; refine ⟨fun wq hc hq => ?_, ?_⟩)
                      | (refine d_off (by with_reducible rfl) (by rfl) (by rfl) ?_)
                      | (refine d_void (by with_reducible rfl) (by rfl) ?_)
                    try any_goals
                      (obtain ⟨q0, q1, q2, q3, q4⟩ := n5_keep (cls hq) PN.out; have q5 := keep (cls hq) PH.out; clear hc
                       go_simp
                       first
                         | rfl)
                    simp only [Act.put, List.setIfInBounds_toArray, List.set_cons_zero, List.set_cons_succ]
                  refine d_nil ?_
                  intro w7 hb7
                  have W7 := Lib.hid (b_next W1.out hb7); clear hb7
                  go_wp2_with fail
                  all_goals first | (exfalso; omega) | (go_ret; exact ⟨rfl, W7.out⟩)
                · have q := HE2.out
                  rw [if_neg (fun h => p4 h.2)] at q
                  have NX := Lib.hid (NXT.out q)
                  have q4 := decide_eq_false p4
                  clear q HE2 BAD NXT
                  go_wp2_with fail
                  refine d_region (by kernel_rfl) (by kernel_rfl) ?_
                  repeat
                    first
                      | (refine d_plain (by with_reducible rfl) ?_; apply Exists.intro; refine ⟨fun wq hc hq => ?_, ?_⟩)
                      | (refine d_on (by with_reducible rfl) (by rfl) (by with_reducible rfl) ?_; apply Exists.intro; refine ⟨fun wq hc hq => ?_, ?_⟩)
                      | (refine d_off (by with_reducible rfl) (by rfl) (by rfl) ?_)
                      | (refine d_void (by with_reducible rfl) (by rfl) ?_)
                    try any_goals
                      (obtain ⟨q0, q1, q2, q3, q4⟩ := n5_keep (cls hq) PN.out; have q5 := keep (cls hq) PH.out; clear hc
                       go_simp
                       first
                         | rfl)
                    simp only [Act.put, List.setIfInBounds_toArray, List.set_cons_zero, List.set_cons_succ]
                  refine d_nil ?_
                  intro w7 hb7
                  have W7 := Lib.hid (b_next W1.out hb7); clear hb7
                  go_wp2_with fail
                  all_goals first | (exfalso; omega) | exact ⟨⟨k + 1, by omega, by go_num, NX.out, W7.out⟩, by simp [intOf]; omega⟩
              · have q := HE2.out
                rw [if_neg (fun h => p3 h.1)] at q
                have NX := Lib.hid (NXT.out q)
                have hk0 : k = 0 := by omega
                subst hk0
                clear q HE2 BAD NXT
                go_wp2_with fail
                refine d_region (by kernel_rfl) (by kernel_rfl) ?_
                repeat
                  first
                    | (refine d_plain (by with_reducible rfl) ?_; apply Exists.intro; refine ⟨fun wq hc hq => ?_, ?_⟩)
                    | (refine d_on (by with_reducible rfl) (by rfl) (by with_reducible rfl) ?_; apply Exists.intro; refine ⟨fun wq hc hq => ?_, ?_⟩)
                    | (refine d_off (by with_reducible rfl) (by rfl) (by rfl) ?_)
                    | (refine d_void (by with_reducible rfl) (by rfl) ?_)
                  try any_goals
                    (obtain ⟨q0, q1, q2, q3, q4⟩ := n5_keep (cls hq) PN.out; clear hc
                     go_simp
                     first
                       | rfl)
                  simp only [Act.put, List.setIfInBounds_toArray, List.set_cons_zero, List.set_cons_succ]
                refine d_nil ?_
                intro w7 hb7
                have W7 := Lib.hid (b_next W1.out hb7); clear hb7
                go_wp2_with fail
                all_goals first | (exfalso; omega) | exact ⟨⟨0 + 1, by omega, by go_num, NX.out, W7.out⟩, by simp [intOf]; omega⟩
    · have hkn : k = n := by omega
      have hl : ¬ (k : Int) < (n : Int) := by omega
      have HF : Hid (R = 0) := Lib.hid (by rw [HR.out, ← hkn]; exact HZ.out)
      have e := HF.out
      subst e
      clear hbl
      go_wp2_with fail
      go_ret
      exact ⟨rfl, WR.out⟩
end Wind
end Go.Proofs.YtmkglhoahdlogaaGreatDoor
namespace Go.Proofs.YtmkglhoahdlogaaGreatDoor
open Go.RowKit
namespace Wind
open Kit
theorem wv_of {W : World} {v : Value} (h : Frame.Okc W (.sl [.int, .int, .int, .int, .int]) v) : ∃ n L H X Y E, WV W v n L H X Y E ∧ ∀ k, ((-9223372036854775808 ≤ L k ∧ L k ≤ 9223372036854775807) ∧ (-9223372036854775808 ≤ H k ∧ H k ≤ 9223372036854775807)) ∧ (-9223372036854775808 ≤ X k ∧ X k ≤ 9223372036854775807) ∧ (-9223372036854775808 ≤ Y k ∧ Y k ≤ 9223372036854775807) ∧ (-9223372036854775808 ≤ E k ∧ E k ≤ 9223372036854775807) := by
  rcases h.sl_inv with rfl | ⟨a, cap, rfl, hc⟩ | ⟨b, off, len, cap, cells, rfl, h0, h1, h2, hc, ho⟩
  · exact ⟨0, fun _ => 0, fun _ => 0, fun _ => 0, fun _ => 0, fun _ => 0, Or.inl ⟨rfl, Or.inl rfl⟩, fun _ => by simp⟩
  · exact ⟨0, fun _ => 0, fun _ => 0, fun _ => 0, fun _ => 0, fun _ => 0, Or.inl ⟨rfl, Or.inr ⟨a, cap, rfl, hc⟩⟩, fun _ => by simp⟩
  · have z : ∀ i, i < len → ∀ j (hj : j < 5), ∃ n : Int, cells i j = .int .i64 n ∧ -9223372036854775808 ≤ n ∧ n ≤ 9223372036854775807 := fun i hi j hj => by
      have hk := ho i hi j hj
      have hj' : j = 0 ∨ j = 1 ∨ j = 2 ∨ j = 3 ∨ j = 4 := by omega
      rcases hj' with rfl | rfl | rfl | rfl | rfl <;> exact hk.int_inv
    let g : Nat → Nat → Int := fun i j => if i < len ∧ j < 5 then match cells i j with | .int _ n => n | _ => 0 else 0
    have hg : ∀ i, i < len → ∀ j, j < 5 → W.cell? ⟨b, off + i * 5 + j, none⟩ = some (.int .i64 (g i j)) := fun i hi j hj => by
      obtain ⟨n, e, _⟩ := z i hi j hj
      have hcc := hc i hi j hj
      show W.cell? _ = some (.int .i64 (if i < len ∧ j < 5 then match cells i j with | .int _ n => n | _ => 0 else 0))
      rw [if_pos ⟨hi, hj⟩]
      rw [e] at hcc ⊢
      exact hcc
    have hgb : ∀ i j, -9223372036854775808 ≤ g i j ∧ g i j ≤ 9223372036854775807 := fun i j => by
      show -9223372036854775808 ≤ (if i < len ∧ j < 5 then match cells i j with | .int _ n => n | _ => 0 else 0) ∧ (if i < len ∧ j < 5 then match cells i j with | .int _ n => n | _ => 0 else 0) ≤ 9223372036854775807
      split
      · rename_i hh
        obtain ⟨n, e, hb⟩ := z i hh.1 j hh.2
        rw [e]
        exact hb
      · omega
    exact ⟨len, fun i => g i 0, fun i => g i 1, fun i => g i 2, fun i => g i 3, fun i => g i 4, Or.inr ⟨h0, b, off, cap, rfl, h1, h2, fun k hk => ⟨hg k hk 0 (by decide), hg k hk 1 (by decide), hg k hk 2 (by decide), hg k hk 3 (by decide), hg k hk 4 (by decide)⟩⟩, fun k => ⟨⟨hgb k 0, hgb k 1⟩, hgb k 2, hgb k 3, hgb k 4⟩⟩
theorem check_big (A : Option Addr) (n cap : Nat) (w : World) (hn : 16 < n) (_hc : n ≤ cap) (_hm : cap ≤ 9223372036854775807) : Calls Tryz.prog 91 #[.slice A n cap] w fun e w' => e = .returned (.int .i64 2) ∧ w = w' := by
  have h : (16 : Int) < (n : Int) := by omega
  go_enter Tryz.func91, Tryz.ntmps91
  go_wp2
  all_goals first | (exfalso; omega) | (go_ret; exact ⟨rfl, rfl⟩)
theorem check_none (A : Option Addr) (cap : Nat) (w : World) : Calls Tryz.prog 91 #[.slice A 0 cap] w fun e w' => e = .returned (.int .i64 0) ∧ Below w.heap.size w w' := by
  go_enter Tryz.func91, Tryz.ntmps91
  go_wp2_with fail
  go_loopw [11] (fun s wr => s = .int .i64 0 ∧ w = wr) (fun _ _ => 0)
  case atStart => exact ⟨rfl, rfl⟩
  case round =>
    obtain ⟨rfl, rfl⟩ := hrel
    go_wp2_with fail
    go_ret
    exact ⟨rfl, Below.refl _ _⟩
theorem checkC {v : Value} {n : Nat} {L H X Y E : Nat → Int} {w : World} (hv : WV w v n L H X Y E) : ∀ w1, Below w.heap.size w w1 → Calls Tryz.prog 91 #[v] w1 fun e w' => e = .returned (.int .i64 (wck L H X Y E n)) ∧ Below w1.heap.size w1 w' := fun w1 hb => by
  unfold wck
  rcases wv_keep hb hv with ⟨h0, hs⟩ | ⟨h0, b, off, cap, rfl, h1, h2, h3⟩
  · subst h0
    rw [if_neg (by decide)]
    rcases hs with rfl | ⟨a, cap, rfl, -⟩
    · exact check_none _ _ w1
    · exact check_none _ _ w1
  · by_cases hn : 16 < n
    · rw [if_pos hn]
      exact (check_big _ n cap w1 hn h1 (Nat.le_trans h2 (by decide))).mono fun _ _ ⟨he, hw⟩ => ⟨he, hw ▸ Below.refl _ _⟩
    · rw [if_neg hn]
      exact check_w n cap b off L H X Y E w1 h0 (by omega) h1 (Nat.le_trans h2 (by decide)) (Lib.hid h3)
end Wind
end Go.Proofs.YtmkglhoahdlogaaGreatDoor
namespace Go.Proofs.YtmkglhoahdlogaaGreatDoor
open Go.RowKit
namespace Fly
open Kit Plane Chart Route Kind
/-- Two fixes at one place. -/
def zat (X Y : Nat → Int) (j : Nat) : Int := if 0 < j ∧ X j = X (j - 1) ∧ Y j = Y (j - 1) then 10 else 0
/-- fly.check's error, told by those of its callees. -/
def fck (n : Nat) (X Y : Nat → Int) (E1 E2 E3 E4 sp h ceil slow fast : Int) : Int :=
  if n < 2 then 3 else if 62 < n then 2 else if E1 ≠ 0 then E1 else if E2 ≠ 0 then E2 else if E3 ≠ 0 then E3 else if ceil < h then 20 else if sp < slow ∨ fast < sp then 4 else if E4 ≠ 0 then E4 else ferr (zat X Y) n
set_option maxRecDepth 100000 in
set_option maxHeartbeats 8000000 in
theorem check_w (cl kd f t ks : ByteArray) (off sp h kw ceil climb desc slow fast : Int) (A2 A3 : Option Addr) (n2 c2 n3 c3 : Nat) (A : Option Addr) (n c : Nat) (N : Nat → ByteArray) (X Y : Nat → Int) (L E1 E2 E3 E4 E : Int) (w : World) (HE : Hid (E = fck n X Y E1 E2 E3 E4 sp h ceil slow fast)) (HV : Hid (FV w (.slice A n c) n N X Y))
    (RL : Hid (∀ w1, Below w.heap.size w w1 → Calls Tryz.prog 7 #[.slice A n c] w1 fun e w' => e = .returned (.tuple #[.int .i64 L, .int .i64 E1]) ∧ Below w1.heap.size w1 w')) (PC : Hid (∀ w1, Below w.heap.size w w1 → Calls Tryz.prog 13 #[Plan.plan cl kd f t off sp h (.slice A2 n2 c2)] w1 fun e w' => e = .returned (.int .i64 E2) ∧ Below w1.heap.size w1 w')) (KC : Hid (∀ w1, Below w.heap.size w w1 → Calls Tryz.prog 90 #[.agg #[.string ks, .int .i64 kw, .int .i64 ceil, .int .i64 climb, .int .i64 desc, .int .i64 slow, .int .i64 fast]] w1 fun e w' => e = .returned (.int .i64 E3) ∧ Below w1.heap.size w1 w')) (WC : Hid (∀ w1, Below w.heap.size w w1 → Calls Tryz.prog 91 #[.slice A3 n3 c3] w1 fun e w' => e = .returned (.int .i64 E4) ∧ Below w1.heap.size w1 w')) :
    Calls Tryz.prog 55 #[.slice A n c, Plan.plan cl kd f t off sp h (.slice A2 n2 c2), .agg #[.string ks, .int .i64 kw, .int .i64 ceil, .int .i64 climb, .int .i64 desc, .int .i64 slow, .int .i64 fast], .slice A3 n3 c3] w fun e w' => e = .returned (.int .i64 E) ∧ Below w.heap.size w w' := by
  have n8 := Plan.n8_new w 24 cl kd f t off sp h (.slice A2 n2 c2)
  have N0 : Hid (Plan.N8 ((w.alloc (.cells #[.string cl, .string kd, .string f, .string t, .int .i64 off, .int .i64 sp, .int .i64 h, .slice A2 n2 c2] 24)).alloc (.cells #[.string ks, .int .i64 kw, .int .i64 ceil, .int .i64 climb, .int .i64 desc, .int .i64 slow, .int .i64 fast] 52)) w.heap.size cl kd f t off sp h (.slice A2 n2 c2)) := Lib.hid (Plan.n8_keep (b_alloc (Below.refl _ _) _) n8)
  have k7 := k7_new (w.alloc (.cells #[.string cl, .string kd, .string f, .string t, .int .i64 off, .int .i64 sp, .int .i64 h, .slice A2 n2 c2] 24)) 52 ks kw ceil climb desc slow fast
  rw [World.size_alloc] at k7
  have K0 := Lib.hid k7
  have W0 := Lib.hid (b_alloc (b_alloc (Below.refl w.heap.size w) (.cells #[.string cl, .string kd, .string f, .string t, .int .i64 off, .int .i64 sp, .int .i64 h, .slice A2 n2 c2] 24)) (.cells #[.string ks, .int .i64 kw, .int .i64 ceil, .int .i64 climb, .int .i64 desc, .int .i64 slow, .int .i64 fast] 52))
  clear n8 k7
  by_cases h1 : n < 2
  · have e := HE.out
    unfold fck at e; rw [if_pos h1] at e
    subst e
    have g : (n : Int) < 2 := by omega
    go_enter Tryz.func55, Tryz.ntmps55
    go_wp2_with fail
    all_goals first | (exfalso; omega) | (go_ret; exact ⟨rfl, W0.out⟩)
  by_cases h2 : 62 < n
  · have e := HE.out
    unfold fck at e; rw [if_neg h1, if_pos h2] at e
    subst e
    have g : ¬ (n : Int) < 2 := by omega
    have g2 : (62 : Int) < (n : Int) := by omega
    go_enter Tryz.func55, Tryz.ntmps55
    go_wp2_with fail
    all_goals first | (exfalso; omega) | (go_ret; exact ⟨rfl, W0.out⟩)
  have g : ¬ (n : Int) < 2 := by omega
  have g2 : ¬ (62 : Int) < (n : Int) := by omega
  go_enter Tryz.func55, Tryz.ntmps55
  go_wp2_with fail
  (with_reducible refine (RL.out _ W0.out).mono ?_); rintro e w1 ⟨rfl, hb⟩
  have W1 := Lib.hid (b_next W0.out hb); have N1 := Lib.hid (Plan.n8_keep hb N0.out); have K1 := Lib.hid (k7_keep hb K0.out); clear hb
  by_cases z1 : E1 ≠ 0
  · have e := HE.out
    unfold fck at e; rw [if_neg h1, if_neg h2, if_pos z1] at e
    subst e
    have y1 : (E == 0) = false := by simpa using z1
    have y2 : (E != 0) = true := by simpa using z1
    clear z1
    go_wp2_with fail
    all_goals (go_ret; exact ⟨rfl, W1.out⟩)
  obtain rfl : E1 = 0 := Classical.not_not.1 z1
  clear z1
  obtain ⟨x0, x1, x2, x3, x4, x5, x6, x7⟩ := N1.out
  go_wp2_with fail
  (with_reducible refine (PC.out _ W1.out).mono ?_); rintro e w2 ⟨rfl, hb⟩
  have W2 := Lib.hid (b_next W1.out hb); have N2 := Lib.hid (Plan.n8_keep hb N1.out); have K2 := Lib.hid (k7_keep hb K1.out); clear hb x0 x1 x2 x3 x4 x5 x6 x7
  by_cases z2 : E2 ≠ 0
  · have e := HE.out
    unfold fck at e; rw [if_neg h1, if_neg h2, if_neg (by decide), if_pos z2] at e
    subst e
    have y1 : (E == 0) = false := by simpa using z2
    have y2 : (E != 0) = true := by simpa using z2
    clear z2
    go_wp2_with fail
    all_goals (go_ret; exact ⟨rfl, W2.out⟩)
  obtain rfl : E2 = 0 := Classical.not_not.1 z2
  clear z2
  obtain ⟨x0, x1, x2, x3, x4, x5, x6⟩ := K2.out
  go_wp2_with fail
  (with_reducible refine (KC.out _ W2.out).mono ?_); rintro e w3 ⟨rfl, hb⟩
  have W3 := Lib.hid (b_next W2.out hb); have N3 := Lib.hid (Plan.n8_keep hb N2.out); have K3 := Lib.hid (k7_keep hb K2.out); clear hb x0 x1 x2 x3 x4 x5 x6
  by_cases z3 : E3 ≠ 0
  · have e := HE.out
    unfold fck at e; rw [if_neg h1, if_neg h2, if_neg (by decide), if_neg (by decide), if_pos z3] at e
    subst e
    have y1 : (E == 0) = false := by simpa using z3
    have y2 : (E != 0) = true := by simpa using z3
    clear z3
    go_wp2_with fail
    all_goals (go_ret; exact ⟨rfl, W3.out⟩)
  obtain rfl : E3 = 0 := Classical.not_not.1 z3
  clear z3
  obtain ⟨x0, x1, x2, x3, x4, x5, x6⟩ := K3.out
  obtain ⟨y0, y1, y2, y3, y4, y5, y6, y7⟩ := N3.out
  by_cases h4 : ceil < h
  · have e := HE.out
    unfold fck at e; rw [if_neg h1, if_neg h2, if_neg (by decide), if_neg (by decide), if_neg (by decide), if_pos h4] at e
    subst e
    go_wp2_with fail
    all_goals first | (exfalso; omega) | (go_ret; exact ⟨rfl, W3.out⟩)
  by_cases h5 : sp < slow
  · have e := HE.out
    unfold fck at e; rw [if_neg h1, if_neg h2, if_neg (by decide), if_neg (by decide), if_neg (by decide), if_neg h4, if_pos (Or.inl h5)] at e
    subst e
    go_wp2_with fail
    all_goals first | (exfalso; omega) | (go_ret; exact ⟨rfl, W3.out⟩)
  by_cases h6 : fast < sp
  · have e := HE.out
    unfold fck at e; rw [if_neg h1, if_neg h2, if_neg (by decide), if_neg (by decide), if_neg (by decide), if_neg h4, if_pos (Or.inr h6)] at e
    subst e
    go_wp2_with fail
    all_goals first | (exfalso; omega) | (go_ret; exact ⟨rfl, W3.out⟩)
  have e := HE.out
  unfold fck at e; rw [if_neg h1, if_neg h2, if_neg (by decide), if_neg (by decide), if_neg (by decide), if_neg h4, if_neg (by omega)] at e
  clear HE
  have HE := Lib.hid e; clear e
  go_wp2_with fail
  all_goals try (exfalso; omega)
  (with_reducible refine (WC.out _ W3.out).mono ?_); rintro e w4 ⟨rfl, hb⟩
  have W4 := Lib.hid (b_next W3.out hb); clear hb x0 x1 x2 x3 x4 x5 x6 y0 y1 y2 y3 y4 y5 y6 y7
  by_cases z4 : E4 ≠ 0
  · have e := HE.out
    rw [if_pos z4] at e
    subst e
    have y1 : (E == 0) = false := by simpa using z4
    have y2 : (E != 0) = true := by simpa using z4
    clear z4
    go_wp2_with fail
    all_goals (go_ret; exact ⟨rfl, W4.out⟩)
  obtain rfl : E4 = 0 := Classical.not_not.1 z4
  clear z4
  have e := HE.out
  rw [if_neg (by decide)] at e
  clear HE
  have HE := Lib.hid e; clear e
  go_wp2_with fail
  go_loopw [14] (fun s wr => ∃ k : Nat, 1 ≤ k ∧ k ≤ n ∧ s = .int .i64 k ∧ (∀ j, j < k → zat X Y j = 0) ∧ Below w4.heap.size w4 wr) (fun s _ => n - (intOf s).toNat)
  case atStart => exact ⟨1, Nat.le_refl _, by omega, rfl, fun j hj => by unfold zat; rw [if_neg (by omega)], Below.refl _ _⟩
  case round =>
    obtain ⟨k, hk1, hk, rfl, hno, hbl⟩ := hrel
    have HN := Lib.hid hno; have WR := Lib.hid hbl; clear hno
    by_cases hlt : k < n
    · have hl : (k : Int) < (n : Int) := by omega
      obtain ⟨b, o, c', e, hc1, hc2, h3⟩ := fv_at (fv_keep (b_next W4.out hbl) HV.out) (by omega)
      injection e with e1 _ e3
      subst e1 e3
      have hc3 : c ≤ 9223372036854775807 := Nat.le_trans hc2 (by decide)
      obtain ⟨P, hP⟩ : ∃ P, P = k - 1 := ⟨_, rfl⟩
      obtain ⟨-, f1, f2⟩ := h3 k hlt
      obtain ⟨-, p1, p2⟩ := h3 P (by omega)
      have G1 := Lib.hid (And.intro f1 f2); have G2 := Lib.hid (And.intro p1 p2)
      have BAD : Hid (zat X Y k ≠ 0 → E = zat X Y k) := Lib.hid fun h => by rw [HE.out]; exact ferr_at HN.out h hlt
      have GO : Hid (zat X Y k = 0 → ∀ j, j < k + 1 → zat X Y j = 0) := Lib.hid fun h j hj => by
        rcases Nat.lt_or_ge j k with hl | hl
        · exact HN.out j hl
        · rw [show j = k from by omega]; exact h
      have HZ : Hid (zat X Y k = if 0 < k ∧ X k = X P ∧ Y k = Y P then 10 else 0) := Lib.hid (by unfold zat; rw [← hP])
      have bP : (P : Int) < (n : Int) := by omega
      have u1' : IntKind.i64.wrap ((k : Int) - 1) = (P : Int) := by rw [IntWalk.i64_in _ (by omega)]; omega
      have U := Lib.hid u1'
      clear hbl h3 f1 f2 p1 p2 hP u1'
      generalize X k = xk at *
      generalize Y k = yk at *
      generalize X P = xp at *
      generalize Y P = yp at *
      by_cases hx : xk = xp
      · subst hx
        by_cases hy : yk = yp
        · subst hy
          have e := BAD.out (by rw [HZ.out, if_pos ⟨by omega, rfl, rfl⟩]; decide)
          rw [HZ.out, if_pos ⟨by omega, rfl, rfl⟩] at e
          have HX := Lib.hid e; clear e BAD GO HZ
          have u1 := U.out
          go_wp2_with fail
          refine d_region (by kernel_rfl) (by kernel_rfl) ?_
          repeat
            first
              | (refine d_plain (by with_reducible rfl) ?_; apply Exists.intro; refine ⟨fun wq hc hq => ?_, ?_⟩)
              | (refine d_on (by with_reducible rfl) (by rfl) (by with_reducible rfl) ?_; apply Exists.intro; refine ⟨fun wq hc hq => ?_, ?_⟩)
              | (refine d_off (by with_reducible rfl) (by rfl) (by rfl) ?_)
              | (refine d_void (by with_reducible rfl) (by rfl) ?_)
            try any_goals
              (have q0 := keep (cls hq) G1.out.1; have q1 := keep (cls hq) G1.out.2; have q2 := keep (cls hq) G2.out.1; have q3 := keep (cls hq) G2.out.2; clear hc
               go_simp
               first
                 | rfl)
            simp only [Act.put, List.setIfInBounds_toArray, List.set_cons_zero, List.set_cons_succ]
          refine d_nil ?_
          intro w9 hbz
          clear u1
          go_wp2_with fail
          go_ret
          exact ⟨by rw [HX.out]; rfl, b_next W4.out (b_next WR.out hbz)⟩
        · have e := GO.out (by rw [HZ.out, if_neg (fun h => hy h.2.2)])
          have HN' := Lib.hid e; clear e BAD GO HZ
          have u1 := U.out
          go_wp2_with fail
          refine d_region (by kernel_rfl) (by kernel_rfl) ?_
          repeat
            first
              | (refine d_plain (by with_reducible rfl) ?_; apply Exists.intro; refine ⟨fun wq hc hq => ?_, ?_⟩)
              | (refine d_on (by with_reducible rfl) (by rfl) (by with_reducible rfl) ?_; apply Exists.intro; refine ⟨fun wq hc hq => ?_, ?_⟩)
              | (refine d_off (by with_reducible rfl) (by rfl) (by rfl) ?_)
              | (refine d_void (by with_reducible rfl) (by rfl) ?_)
            try any_goals
              (have q0 := keep (cls hq) G1.out.1; have q1 := keep (cls hq) G1.out.2; have q2 := keep (cls hq) G2.out.1; have q3 := keep (cls hq) G2.out.2; clear hc
               go_simp
               first
                 | rfl)
            simp only [Act.put, List.setIfInBounds_toArray, List.set_cons_zero, List.set_cons_succ]
          refine d_nil ?_
          intro w9 hbz
          clear u1
          go_wp2_with fail
          go_roundw
          case rel => exact ⟨k + 1, by omega, by omega, by go_num, HN'.out, b_next WR.out hbz⟩
          case measure => simp [intOf]; omega
      · have e := GO.out (by rw [HZ.out, if_neg (fun h => hx h.2.1)])
        have HN' := Lib.hid e; clear e BAD GO HZ
        have u1 := U.out
        go_wp2_with fail
        refine d_region (by kernel_rfl) (by kernel_rfl) ?_
        repeat
          first
            | (refine d_plain (by with_reducible rfl) ?_; apply Exists.intro; refine ⟨fun wq hc hq => ?_, ?_⟩)
            | (refine d_on (by with_reducible rfl) (by rfl) (by with_reducible rfl) ?_; apply Exists.intro; refine ⟨fun wq hc hq => ?_, ?_⟩)
            | (refine d_off (by with_reducible rfl) (by rfl) (by rfl) ?_)
            | (refine d_void (by with_reducible rfl) (by rfl) ?_)
          try any_goals
            (have q0 := keep (cls hq) G1.out.1; have q1 := keep (cls hq) G1.out.2; have q2 := keep (cls hq) G2.out.1; have q3 := keep (cls hq) G2.out.2; clear hc
             go_simp
             first
               | rfl)
          simp only [Act.put, List.setIfInBounds_toArray, List.set_cons_zero, List.set_cons_succ]
        refine d_nil ?_
        intro w9 hbz
        clear u1
        go_wp2_with fail
        go_roundw
        case rel => exact ⟨k + 1, by omega, by omega, by go_num, HN'.out, b_next WR.out hbz⟩
        case measure => simp [intOf]; omega
    · have hkn : k = n := by omega
      have e : E = 0 := by rw [HE.out]; exact ferr_zero fun j hj => HN.out j (by omega)
      have HX := Lib.hid e; clear e HN hbl
      go_wp2_with fail
      go_ret
      exact ⟨by rw [HX.out]; rfl, b_next W4.out WR.out⟩
theorem checkK {cl kd f t ks : ByteArray} {off sp h kw ceil climb desc slow fast : Int} {r ww v : Value} {n nr nw : Nat} {RT : Nat → ByteArray} {N : Nat → ByteArray} {X Y : Nat → Int} {WL WH WX WY WE : Nat → Int} {w : World} (hr : SV w r nr RT) (hv : FV w v n N X Y) (hw : Wind.WV w ww nw WL WH WX WY WE) : ∀ w1, Below w.heap.size w w1 →
    Calls Tryz.prog 55 #[v, Plan.plan cl kd f t off sp h r, .agg #[.string ks, .int .i64 kw, .int .i64 ceil, .int .i64 climb, .int .i64 desc, .int .i64 slow, .int .i64 fast], ww] w1 fun e w' => e = .returned (.int .i64 (fck n X Y (rlen n X Y).2 (Plan.planE cl kd f t off sp h nr RT) (kchk ks kw ceil climb desc slow fast) (Wind.wck WL WH WX WY WE nw) sp h ceil slow fast)) ∧ Below w1.heap.size w1 w' := fun w1 hb => by
  have RL := rlenC (fv_keep hb hv)
  have PC := Plan.checkC (c := cl) (k := kd) (f := f) (t := t) (off := off) (sp := sp) (h := h) (sv_keep hb hr)
  have WC := Wind.checkC (Wind.wv_keep hb hw)
  have hv1 := fv_keep hb hv
  obtain ⟨A, c, rfl⟩ := fv_slice hv
  obtain ⟨A2, c2, rfl⟩ := sv_slice hr
  have hws : ∃ A c, ww = .slice A nw c := by
    rcases hw with ⟨h0, rfl | ⟨a, cap, rfl, -⟩⟩ | ⟨h0, b, off, cap, rfl, -⟩
    · exact ⟨_, _, by rw [h0]⟩
    · exact ⟨_, _, by rw [h0]⟩
    · exact ⟨_, _, rfl⟩
  obtain ⟨A3, c3, rfl⟩ := hws
  exact check_w cl kd f t ks off sp h kw ceil climb desc slow fast A2 A3 nr c2 nw c3 A n c N X Y _ _ _ _ _ _ w1 (Lib.hid rfl) (Lib.hid hv1) (Lib.hid RL) (Lib.hid PC) (Lib.hid fun w2 _ => kindC ks kw ceil climb desc slow fast w2) (Lib.hid WC)
end Fly
end Go.Proofs.YtmkglhoahdlogaaGreatDoor
namespace Go.Proofs.YtmkglhoahdlogaaGreatDoor
open Go.RowKit
namespace Fly
open Kit Plane Num
abbrev Nd := Nat → Nat → Int
/-- When fix k is reached. -/
def tm (off : Int) (D : Nat → Int) : Nat → Int
  | 0 => off
  | k + 1 => tm off D k + max 1 (D (k + 1))
theorem tm_lt {off : Int} {D : Nat → Int} (k : Nat) : tm off D k < tm off D (k + 1) := by show tm off D k < tm off D k + max 1 (D (k + 1)); omega
theorem tm_ge {off : Int} {D : Nat → Int} : ∀ k, off ≤ tm off D k
  | 0 => Int.le_refl _
  | k + 1 => by have := tm_ge (off := off) (D := D) k; have := tm_lt (off := off) (D := D) k; omega
theorem tm_bd {off : Int} {D : Nat → Int} {n : Nat} (hD : ∀ k, k < n → D k ≤ 3000000) : ∀ k, k < n → tm off D k ≤ off + 3000000 * k
  | 0, _ => by show off ≤ _; omega
  | k + 1, hk => by
    have h1 := tm_bd (off := off) hD k (by omega)
    have h2 := hD (k + 1) hk
    show tm off D k + max 1 (D (k + 1)) ≤ _
    omega
/-- The fixes as nodes. -/
def nd0 (off : Int) (D X Y : Nat → Int) : Nd := fun k j => if j = 0 then tm off D k else if j = 1 then X k else if j = 2 then Y k else 0
/-- Where a time belongs. -/
def fx (f : Nd) (t : Int) : Nat → Nat
  | 0 => 0
  | k + 1 => if f k 0 < t then k + 1 else fx f t k
/-- Nodes as they ought to be, from off to en. -/
structure Ok (off en : Int) (n : Nat) (f : Nd) : Prop where
  two : 2 ≤ n
  first : f 0 0 = off
  last : f (n - 1) 0 = en
  inc : ∀ k, k + 1 < n → f k 0 < f (k + 1) 0
  good : ∀ k, k < n → good (f k 1) (f k 2)
  zero : ∀ k, k < n → f k 3 = 0
theorem Ok.lt {off en : Int} {n : Nat} {f : Nd} (o : Ok off en n f) {i : Nat} : ∀ {j : Nat}, i < j → j < n → f i 0 < f j 0
  | 0, h, _ => absurd h (Nat.not_lt_zero _)
  | j + 1, h, hj => by
    have h1 := o.inc j hj
    rcases Nat.lt_or_ge i j with hl | hl
    · have := o.lt (j := j) hl (by omega); omega
    · rw [show i = j by omega]; exact h1
theorem Ok.le {off en : Int} {n : Nat} {f : Nd} (o : Ok off en n f) {i j : Nat} (h : i ≤ j) (hj : j < n) : f i 0 ≤ f j 0 := by
  rcases Nat.lt_or_ge i j with hl | hl
  · exact Int.le_of_lt (o.lt hl hj)
  · rw [show i = j by omega]; exact Int.le_refl _
theorem fx_le (f : Nd) (t : Int) : ∀ n, fx f t n ≤ n
  | 0 => Nat.le_refl _
  | k + 1 => by
    show (if f k 0 < t then k + 1 else fx f t k) ≤ k + 1
    split
    · exact Nat.le_refl _
    · exact Nat.le_succ_of_le (fx_le f t k)
theorem fx_right (f : Nd) (t : Int) : ∀ n k, fx f t n ≤ k → k < n → t ≤ f k 0
  | 0, k, _, h => absurd h (Nat.not_lt_zero _)
  | n + 1, k, h, hk => by
    change (if f n 0 < t then n + 1 else fx f t n) ≤ k at h
    split at h
    · omega
    · rcases Nat.lt_or_ge k n with hl | hl
      · exact fx_right f t n k h hl
      · rw [show k = n by omega]; omega
theorem fx_at (f : Nd) (t : Int) : ∀ n, 0 < fx f t n → f (fx f t n - 1) 0 < t
  | 0, h => absurd h (Nat.not_lt_zero _)
  | n + 1, h => by
    change 0 < (if f n 0 < t then n + 1 else fx f t n) at h
    show f ((if f n 0 < t then n + 1 else fx f t n) - 1) 0 < t
    split at h
    · rename_i hl; rw [if_pos hl]; exact hl
    · rename_i hl; rw [if_neg hl]; exact fx_at f t n h
theorem fx_spec {off en t : Int} {n : Nat} {f : Nd} (o : Ok off en n f) (h1 : off < t) (h2 : t < en) : 0 < fx f t n ∧ fx f t n < n ∧ (∀ k, k < fx f t n → f k 0 < t) ∧ ∀ k, fx f t n ≤ k → k < n → t ≤ f k 0 := by
  have hp : 0 < fx f t n := by
    rcases Nat.eq_zero_or_pos (fx f t n) with h | h
    · have := fx_right f t n 0 (by omega) (by have := o.two; omega)
      rw [o.first] at this; omega
    · exact h
  have hl : fx f t n < n := by
    rcases Nat.lt_or_ge (fx f t n) n with h | h
    · exact h
    · have e : fx f t n = n := Nat.le_antisymm (fx_le f t n) h
      have := fx_at f t n hp
      rw [e, o.last] at this; omega
  refine ⟨hp, hl, fun k hk => ?_, fx_right f t n⟩
  have := fx_at f t n hp
  have := o.le (i := k) (j := fx f t n - 1) (by omega) (by omega)
  omega
/-- A node more, at time t, unless there is one. -/
def sN (t : Int) (n : Nat) (f : Nd) : Nat := if f (fx f t n) 0 = t then n else n + 1
def sF (t : Int) (n : Nat) (f : Nd) : Nd := if f (fx f t n) 0 = t then f else
  insR f (fx f t n) t (tw (f (fx f t n - 1) 1) (f (fx f t n) 1) (t - f (fx f t n - 1) 0) (f (fx f t n) 0 - f (fx f t n - 1) 0)) (tw (f (fx f t n - 1) 2) (f (fx f t n) 2) (t - f (fx f t n - 1) 0) (f (fx f t n) 0 - f (fx f t n - 1) 0)) 0
theorem insR_lo {f : Nd} {i k j : Nat} {t x y h : Int} (hk : k < i) : insR f i t x y h k j = f k j := by unfold insR; rw [if_pos hk]
theorem insR_eq {f : Nd} {i j : Nat} {t x y h : Int} : insR f i t x y h i j = if j = 0 then t else if j = 1 then x else if j = 2 then y else h := by unfold insR; rw [if_neg (Nat.lt_irrefl _), if_pos rfl]
theorem insR_hi {f : Nd} {i k j : Nat} {t x y h : Int} (hk : i < k) : insR f i t x y h k j = f (k - 1) j := by unfold insR; rw [if_neg (by omega), if_neg (by omega)]
theorem ok_ins {off en t x y : Int} {n i : Nat} {f : Nd} (o : Ok off en n f) (h0 : 0 < i) (hi : i < n) (hl : f (i - 1) 0 < t) (hr : t < f i 0) (hg : Plane.good x y) : Ok off en (n + 1) (insR f i t x y 0) := by
  refine ⟨by have := o.two; omega, ?_, ?_, fun k hk => ?_, fun k hk => ?_, fun k hk => ?_⟩
  · rw [insR_lo h0]; exact o.first
  · rw [Nat.add_sub_cancel, insR_hi hi]; exact o.last
  · rcases Nat.lt_trichotomy k i with h | h | h
    · rw [insR_lo h]
      rcases Nat.lt_or_ge (k + 1) i with h2 | h2
      · rw [insR_lo h2]; exact o.inc k (by omega)
      · have e : k + 1 = i := by omega
        rw [e, insR_eq, if_pos rfl, show k = i - 1 by omega]; exact hl
    · subst h
      rw [insR_eq, if_pos rfl, insR_hi (Nat.lt_succ_self _)]; exact hr
    · rw [insR_hi h, insR_hi (by omega)]
      have := o.inc (k - 1) (by omega)
      rw [show k - 1 + 1 = k + 1 - 1 by omega] at this; exact this
  · rcases Nat.lt_trichotomy k i with h | h | h
    · rw [insR_lo h, insR_lo h]; exact o.good k (by omega)
    · subst h; rw [insR_eq, insR_eq]; exact hg
    · rw [insR_hi h, insR_hi h]; exact o.good (k - 1) (by omega)
  · rcases Nat.lt_trichotomy k i with h | h | h
    · rw [insR_lo h]; exact o.zero k (by omega)
    · subst h; rw [insR_eq]; rfl
    · rw [insR_hi h]; exact o.zero (k - 1) (by omega)
theorem tw_good {ax ay bx by' n d : Int} (hd : 0 < d) (hn : 0 ≤ n) (hnd : n ≤ d) (ga : Plane.good ax ay) (gb : Plane.good bx by') : Plane.good (tw ax bx n d) (tw ay by' n d) := by
  have h1 := tw_bd (a := ax) (b := bx) hd hn hnd
  have h2 := tw_bd (a := ay) (b := by') hd hn hnd
  unfold Plane.good at *
  omega
theorem ok_step {off en t : Int} {n : Nat} {f : Nd} (o : Ok off en n f) (h1 : off < t) (h2 : t < en) : Ok off en (sN t n f) (sF t n f) ∧ sN t n f ≤ n + 1 ∧ n ≤ sN t n f := by
  obtain ⟨a, b, c, d⟩ := fx_spec o h1 h2
  unfold sN sF
  by_cases h : f (fx f t n) 0 = t
  · rw [if_pos h, if_pos h]; exact ⟨o, by omega, Nat.le_refl _⟩
  · rw [if_neg h, if_neg h]
    have e1 := c (fx f t n - 1) (by omega)
    have e2 := d (fx f t n) (Nat.le_refl _) b
    refine ⟨ok_ins o a b e1 (by omega) (tw_good (by omega) (by omega) (by omega) (o.good _ (by omega)) (o.good _ b)), Nat.le_refl _, by omega⟩
theorem ok_nd0 {off : Int} {D X Y : Nat → Int} {n : Nat} (h2 : 2 ≤ n) (hg : ∀ k, k < n → Plane.good (X k) (Y k)) : Ok off (tm off D (n - 1)) n (nd0 off D X Y) :=
  ⟨h2, rfl, rfl, fun k _ => tm_lt k, fun k hk => hg k hk, fun _ _ => rfl⟩
/-- The fixes lie on the nodes, in order. -/
def Emb (m : Nat) (X Y : Nat → Int) (n : Nat) (f : Nd) : Prop := ∃ e : Nat → Nat, (∀ a, a < m → e a < n ∧ f (e a) 1 = X a ∧ f (e a) 2 = Y a) ∧ ∀ a, a + 1 < m → e a < e (a + 1)
theorem emb_nd0 (off : Int) (D X Y : Nat → Int) (n : Nat) : Emb n X Y n (nd0 off D X Y) := ⟨fun a => a, fun _ h => ⟨h, rfl, rfl⟩, fun a _ => Nat.lt_succ_self a⟩
theorem emb_step {m : Nat} {X Y : Nat → Int} {n : Nat} {f : Nd} (h : Emb m X Y n f) (t : Int) : Emb m X Y (sN t n f) (sF t n f) := by
  unfold sN sF
  by_cases ht : f (fx f t n) 0 = t
  · rw [if_pos ht, if_pos ht]; exact h
  · rw [if_neg ht, if_neg ht]
    obtain ⟨e, h1, h2⟩ := h
    refine ⟨fun a => if e a < fx f t n then e a else e a + 1, fun a ha => ?_, fun a ha => ?_⟩
    · obtain ⟨g1, g2, g3⟩ := h1 a ha
      dsimp only
      by_cases hl : e a < fx f t n
      · rw [if_pos hl, insR_lo hl, insR_lo hl]; exact ⟨by omega, g2, g3⟩
      · rw [if_neg hl, insR_hi (by omega), insR_hi (by omega), Nat.add_sub_cancel]; exact ⟨by omega, g2, g3⟩
    · have := h2 a ha
      show (if e a < fx f t n then e a else e a + 1) < (if e (a + 1) < fx f t n then e (a + 1) else e (a + 1) + 1)
      split <;> split <;> omega
section
variable (off h climb desc : Int) (D X Y : Nat → Int) (n : Nat)
/-- When the flight ends; how long it is; the two times at which heights turn. -/
def fen : Int := tm off D (n - 1)
def ft1 : Int := off + du h climb
def ft2 : Int := off + (fen off D n - off - du h desc)
/-- The nodes after k of the two insertions. -/
def stN : Nat → Nat
  | 0 => n
  | 1 => sN (ft1 off h climb) n (nd0 off D X Y)
  | _ => sN (ft2 off h desc D n) (sN (ft1 off h climb) n (nd0 off D X Y)) (sF (ft1 off h climb) n (nd0 off D X Y))
def stF : Nat → Nd
  | 0 => nd0 off D X Y
  | 1 => sF (ft1 off h climb) n (nd0 off D X Y)
  | _ => sF (ft2 off h desc D n) (sN (ft1 off h climb) n (nd0 off D X Y)) (sF (ft1 off h climb) n (nd0 off D X Y))
/-- How many insertions there are. -/
def stK : Nat := if du h climb ≤ fen off D n - off - du h desc then 2 else 0
/-- The heights. -/
def fin (ceil tot : Int) (f : Nd) : Nd := fun k j => if j = 3 then (Kind.prof ceil climb desc h tot (f k 0 - off)).1 else f k j
end
end Fly
end Go.Proofs.YtmkglhoahdlogaaGreatDoor
