/- Joined texts: PathP, Path, At, FlyAt, FlyAtC. -/
import Derived.Test.YtkapllakofndlaaDoorM02
import Derived.Test.YtkapllakofndlaaDoorM01
namespace Go.Proofs.YtkapllakofndlaaDoor
open Go.RowKit
namespace Path
open Kit Plane
section
variable (T X Y H : Nat → Int)
/-- What is wrong with node i. -/
def nerr (i : Nat) : Int := if T i < 0 ∨ 200000 < T i ∨ (0 < i ∧ T i ≤ T (i - 1)) then 12 else if ¬ good (X i) (Y i) then 4 else if H i < 0 ∨ 60000 < H i then 4 else 0
def nchk : Nat → Int
  | 0 => 0
  | k + 1 => if nchk k ≠ 0 then nchk k else nerr T X Y H k
/-- fly.Check's error. -/
def pchk (n : Nat) : Int := if 64 < n then 2 else if n = 0 then 3 else nchk T X Y H n
/-- A path that Check accepts. -/
def pok (n : Nat) : Prop := 0 < n ∧ n ≤ 64 ∧ (∀ k, k < n → 0 ≤ T k ∧ T k ≤ 200000 ∧ good (X k) (Y k) ∧ 0 ≤ H k ∧ H k ≤ 60000) ∧ ∀ k, k + 1 < n → T k < T (k + 1)
variable {T X Y H}
theorem nerr_ok {i : Nat} : nerr T X Y H i = 0 ↔ (0 ≤ T i ∧ T i ≤ 200000 ∧ (0 < i → T (i - 1) < T i)) ∧ good (X i) (Y i) ∧ 0 ≤ H i ∧ H i ≤ 60000 := by
  unfold nerr
  constructor
  · intro h
    split at h
    · omega
    · rename_i h1
      split at h
      · omega
      · rename_i h2
        split at h
        · omega
        · rename_i h3
          refine ⟨⟨by omega, by omega, fun h => by omega⟩, Classical.not_not.1 h2, by omega, by omega⟩
  · rintro ⟨⟨a, b, c⟩, d, e, f⟩
    have hn : ¬ (T i < 0 ∨ 200000 < T i ∨ (0 < i ∧ T i ≤ T (i - 1))) := by
      intro h
      rcases h with h | h | ⟨h, h'⟩
      · omega
      · omega
      · have := c h; omega
    rw [if_neg hn, if_neg (fun h => h d), if_neg (by omega)]
theorem nchk_step {k : Nat} (h : nchk T X Y H k = 0) : nchk T X Y H (k + 1) = nerr T X Y H k := by
  show (if nchk T X Y H k ≠ 0 then _ else _) = _
  rw [if_neg (fun e => e h)]
theorem nchk_stays {k : Nat} (h : nchk T X Y H k ≠ 0) : ∀ m, k ≤ m → nchk T X Y H m = nchk T X Y H k := by
  intro m
  induction m with
  | zero => intro hk; rw [show k = 0 from by omega]
  | succ m ih =>
    intro hk
    rcases Nat.lt_or_ge m k with hl | hl
    · rw [show m + 1 = k from by omega]
    · have e := ih hl
      show (if nchk T X Y H m ≠ 0 then _ else _) = _
      rw [if_pos (by rw [e]; exact h), e]
theorem nchk_zero : ∀ n, nchk T X Y H n = 0 ↔ ∀ k, k < n → nerr T X Y H k = 0 := by
  intro n
  induction n with
  | zero => exact ⟨fun _ k hk => absurd hk (Nat.not_lt_zero _), fun _ => rfl⟩
  | succ n ih =>
    constructor
    · intro h
      have h0 : nchk T X Y H n = 0 := by
        by_cases h0 : nchk T X Y H n = 0
        · exact h0
        · rw [nchk_stays h0 (n + 1) (by omega)] at h; exact absurd h h0
      intro k hk
      rcases Nat.lt_or_ge k n with hl | hl
      · exact ih.1 h0 k hl
      · rw [show k = n from by omega, ← nchk_step h0]; exact h
    · intro h
      have h0 := ih.2 fun k hk => h k (by omega)
      rw [nchk_step h0]; exact h n (by omega)
theorem pchk_zero (n : Nat) : pchk T X Y H n = 0 ↔ pok T X Y H n := by
  unfold pchk pok
  by_cases h1 : 64 < n
  · rw [if_pos h1]; exact ⟨fun h => by omega, fun h => by omega⟩
  · rw [if_neg h1]
    by_cases h2 : n = 0
    · rw [if_pos h2]; exact ⟨fun h => by omega, fun h => by omega⟩
    · rw [if_neg h2, nchk_zero]
      constructor
      · intro h
        refine ⟨by omega, by omega, fun k hk => ?_, fun k hk => ?_⟩
        · have := nerr_ok.1 (h k hk); exact ⟨this.1.1, this.1.2.1, this.2.1, this.2.2⟩
        · have := (nerr_ok.1 (h (k + 1) hk)).1.2.2 (by omega); rw [show k + 1 - 1 = k from by omega] at this; exact this
      · rintro ⟨_, _, h3, h4⟩ k hk
        obtain ⟨a, b, c, d⟩ := h3 k hk
        refine nerr_ok.2 ⟨⟨a, b, fun hp => ?_⟩, c, d⟩
        have := h4 (k - 1) (by omega); rw [show k - 1 + 1 = k from by omega] at this; exact this
theorem nchk_cases (n : Nat) : nchk T X Y H n = 2 ∨ nchk T X Y H n = 12 ∨ nchk T X Y H n = 4 ∨ nchk T X Y H n = 0 := by
  induction n with
  | zero => exact Or.inr (Or.inr (Or.inr rfl))
  | succ n ih =>
    by_cases h : nchk T X Y H n = 0
    · rw [nchk_step h]; unfold nerr; split <;> (try split) <;> (try split) <;> omega
    · rw [nchk_stays h (n + 1) (by omega)]; exact ih
theorem stop {k n : Nat} {E : Int} (h0 : nchk T X Y H k = 0) (hk : k < n) (e : nerr T X Y H k = E) (hE : E ≠ 0) : nchk T X Y H n = E := by
  have h1 := nchk_step h0
  rw [e] at h1
  rw [nchk_stays (by rw [h1]; exact hE) n (by omega), h1]
theorem nerr_time {k : Nat} (h : T k < 0 ∨ 200000 < T k ∨ (0 < k ∧ T k ≤ T (k - 1))) : nerr T X Y H k = 12 := if_pos h
theorem nerr_point {k : Nat} (h : ¬ (T k < 0 ∨ 200000 < T k ∨ (0 < k ∧ T k ≤ T (k - 1)))) (g : ¬ good (X k) (Y k)) : nerr T X Y H k = 4 := by unfold nerr; rw [if_neg h, if_pos g]
theorem nerr_height {k : Nat} (h : ¬ (T k < 0 ∨ 200000 < T k ∨ (0 < k ∧ T k ≤ T (k - 1)))) (g : good (X k) (Y k)) (h' : H k < 0 ∨ 60000 < H k) : nerr T X Y H k = 4 := by unfold nerr; rw [if_neg h, if_neg (fun e => e g), if_pos h']
theorem nerr_none {k : Nat} (h : ¬ (T k < 0 ∨ 200000 < T k ∨ (0 < k ∧ T k ≤ T (k - 1)))) (g : good (X k) (Y k)) (h' : ¬ (H k < 0 ∨ 60000 < H k)) : nerr T X Y H k = 0 := by unfold nerr; rw [if_neg h, if_neg (fun e => e g), if_neg h']
/-- Times rise. -/
theorem pok_lt {n : Nat} (h : pok T X Y H n) : ∀ {i j : Nat}, i < j → j < n → T i < T j := by
  intro i j hij hj
  induction j with
  | zero => omega
  | succ j ih =>
    have := h.2.2.2 j hj
    rcases Nat.lt_or_ge i j with hl | hl
    · have := ih hl (by omega); omega
    · rw [show i = j from by omega]; exact this
end
/-- Four cells of node k. -/
abbrev N4 (w : World) (b off k : Nat) (t x y h : Int) : Prop := (w.cell? ⟨b, off + k * 4, none⟩ = some (.int .i64 t) ∧ w.cell? ⟨b, off + k * 4 + 1, none⟩ = some (.int .i64 x)) ∧ (w.cell? ⟨b, off + k * 4 + 2, none⟩ = some (.int .i64 y) ∧ w.cell? ⟨b, off + k * 4 + 3, none⟩ = some (.int .i64 h))
theorem n4_keep {W w1 : World} (hb : Below W.heap.size W w1) {b off k : Nat} {t x y h : Int} (hn : N4 W b off k t x y h) : N4 w1 b off k t x y h := ⟨⟨keep hb hn.1.1, keep hb hn.1.2⟩, ⟨keep hb hn.2.1, keep hb hn.2.2⟩⟩
/-- A node in a block of its own. -/
abbrev C4 (w : World) (b : Nat) (t x y h : Int) : Prop := (w.cell? ⟨b, 0, none⟩ = some (.int .i64 t) ∧ w.cell? ⟨b, 1, none⟩ = some (.int .i64 x)) ∧ (w.cell? ⟨b, 2, none⟩ = some (.int .i64 y) ∧ w.cell? ⟨b, 3, none⟩ = some (.int .i64 h))
theorem c4_keep {W w1 : World} (hb : Below W.heap.size W w1) {b : Nat} {t x y h : Int} (hn : C4 W b t x y h) : C4 w1 b t x y h := ⟨⟨keep hb hn.1.1, keep hb hn.1.2⟩, ⟨keep hb hn.2.1, keep hb hn.2.2⟩⟩
theorem c4_alloc {W : World} (o : Obj) {b : Nat} {t x y h : Int} (hn : C4 W b t x y h) : C4 (W.alloc o) b t x y h := c4_keep (b_alloc (Below.refl _ _) o) hn
theorem c4_new (w : World) (ty : TypeId) (t x y h : Int) : C4 (w.alloc (.cells #[.int .i64 t, .int .i64 x, .int .i64 y, .int .i64 h] ty)) w.heap.size t x y h := ⟨⟨by simp, by simp⟩, ⟨by simp, by simp⟩⟩
end Path
end Go.Proofs.YtkapllakofndlaaDoor
namespace Go.Proofs.YtkapllakofndlaaDoor
open Go.RowKit
namespace Path
open Kit Plane
/-- A path in memory: nil, empty, or n nodes from an address on. -/
def PV (w : World) (v : Value) (n : Nat) (T X Y H : Nat → Int) : Prop :=
  (n = 0 ∧ (v = .slice none 0 0 ∨ ∃ a cap, v = .slice (some a) 0 cap ∧ cap ≤ maxLen)) ∨ (0 < n ∧ ∃ b off cap, v = .slice (some ⟨b, off, none⟩) n cap ∧ n ≤ cap ∧ cap ≤ maxLen ∧ ∀ k, k < n → N4 w b off k (T k) (X k) (Y k) (H k))
theorem pv_keep {W w1 : World} (hb : Below W.heap.size W w1) {v : Value} {n : Nat} {T X Y H : Nat → Int} (h : PV W v n T X Y H) : PV w1 v n T X Y H := by
  rcases h with h | ⟨h0, b, off, cap, hv, h1, h2, h3⟩
  · exact Or.inl h
  · exact Or.inr ⟨h0, b, off, cap, hv, h1, h2, fun k hk => n4_keep hb (h3 k hk)⟩
set_option maxHeartbeats 600000 in
theorem check_large (n cap b off : Nat) (w : World) (hn : 64 < n) (_hc : n ≤ cap) (_hm : cap ≤ 9223372036854775807) :
    Calls Tryd.prog 29 #[.slice (some ⟨b, off, none⟩) n cap] w fun e w' => e = .returned (.int .i64 2) ∧ w = w' := by
  go_enter Tryd.func29, Tryd.ntmps29
  go_wp2
  go_ret
  exact ⟨rfl, rfl⟩
set_option maxHeartbeats 600000 in
theorem check_nil (w : World) :
    Calls Tryd.prog 29 #[.slice none 0 0] w fun e w' => e = .returned (.int .i64 3) ∧ w = w' := by
  go_enter Tryd.func29, Tryd.ntmps29
  go_wp2
  go_ret
  exact ⟨rfl, rfl⟩
set_option maxHeartbeats 600000 in
theorem check_empty (a : Addr) (cap : Nat) (w : World) :
    Calls Tryd.prog 29 #[.slice (some a) 0 cap] w fun e w' => e = .returned (.int .i64 3) ∧ w = w' := by
  go_enter Tryd.func29, Tryd.ntmps29
  go_wp2
  go_ret
  exact ⟨rfl, rfl⟩
set_option maxHeartbeats 2000000 in
theorem check_nodes (n cap b off : Nat) (T X Y H : Nat → Int) (w : World) (h0 : 0 < n) (hn : n ≤ 64) (hc : n ≤ cap) (hm : cap ≤ 9223372036854775807) (HV : Hid (∀ k, k < n → N4 w b off k (T k) (X k) (Y k) (H k))) :
    Calls Tryd.prog 29 #[.slice (some ⟨b, off, none⟩) n cap] w fun e w' => e = .returned (.int .i64 (nchk T X Y H n)) ∧ Below w.heap.size w w' := by
  go_enter Tryd.func29, Tryd.ntmps29
  have hz : ((n : Int) == 0) = false := by simp; omega
  go_wp2
  go_loopw [16] (fun i wr => ∃ k : Nat, k ≤ n ∧ nchk T X Y H k = 0 ∧ i = .int .i64 k ∧ Below w.heap.size w wr) (fun i _ => n - (intOf i).toNat)
  case atStart => exact ⟨0, Nat.zero_le _, rfl, rfl, Below.refl _ _⟩
  case round =>
    obtain ⟨k, hk, hg, rfl, hbl⟩ := hrel
    have HG := Lib.hid hg; clear hg
    by_cases hlt : k < n
    · obtain ⟨⟨c0, c1⟩, c2, c3⟩ := n4_keep hbl (HV.out k hlt)
      by_cases hk0 : 0 < (k : Int)
      · have hpv := n4_keep hbl (HV.out (k - 1) (by omega))
        have hwk : IntKind.i64.wrap ((k : Int) - 1) = ((k - 1 : Nat) : Int) := by rw [IntWalk.i64_in _ (by omega)]; omega
        have hwl : ((k - 1 : Nat) : Int) < (n : Int) := by omega
        have HW := Lib.hid hwl
        by_cases a1 : T k < 0
        · have d1 := decide_eq_true a1
          have HF := Lib.hid (stop (n := n) HG.out hlt (nerr_time (Or.inl a1)) (by omega))
          have hn4 := c4_new wr 65 (T k) (X k) (Y k) (H k)
          have hp4 := n4_keep (b_alloc (Below.refl _ wr) (.cells #[.int .i64 (T k), .int .i64 (X k), .int .i64 (Y k), .int .i64 (H k)] 65)) hpv
          go_wp2_with fail
          refine d_region (by kernel_rfl) (by kernel_rfl) ?_
          repeat
            first
              | (refine d_plain (by with_reducible rfl) ?_; apply Exists.intro; refine ⟨fun wq hc hq => ?_, ?_⟩)
              | (refine d_on (by with_reducible rfl) (by rfl) (by with_reducible rfl) ?_; apply Exists.intro; refine ⟨fun wq hc hq => ?_, ?_⟩)
              | (refine d_off (by with_reducible rfl) (by rfl) (by rfl) ?_)
              | (refine d_void (by with_reducible rfl) (by rfl) ?_)
            try any_goals
              (have q0 := c4_keep hq hn4; have q1 := n4_keep hq hp4; clear hc
               go_simp
               first
                 | rfl)
            simp only [Act.put, List.setIfInBounds_toArray, List.set_cons_zero, List.set_cons_succ]
          refine d_nil ?_
          intro w1 hb1
          go_wp2_with fail
          go_ret
          exact ⟨ret1 (HF.out).symm, b_next (b_alloc hbl _) hb1⟩
        · have d1 := decide_eq_false a1
          by_cases a2 : 200000 < T k
          · have d2 := decide_eq_true a2
            have HF := Lib.hid (stop (n := n) HG.out hlt (nerr_time (Or.inr (Or.inl a2))) (by omega))
            have hn4 := c4_new wr 65 (T k) (X k) (Y k) (H k)
            have hp4 := n4_keep (b_alloc (Below.refl _ wr) (.cells #[.int .i64 (T k), .int .i64 (X k), .int .i64 (Y k), .int .i64 (H k)] 65)) hpv
            go_wp2_with fail
            refine d_region (by kernel_rfl) (by kernel_rfl) ?_
            repeat
              first
                | (refine d_plain (by with_reducible rfl) ?_; apply Exists.intro; refine ⟨fun wq hc hq => ?_, ?_⟩)
                | (refine d_on (by with_reducible rfl) (by rfl) (by with_reducible rfl) ?_; apply Exists.intro; refine ⟨fun wq hc hq => ?_, ?_⟩)
                | (refine d_off (by with_reducible rfl) (by rfl) (by rfl) ?_)
                | (refine d_void (by with_reducible rfl) (by rfl) ?_)
              try any_goals
                (have q0 := c4_keep hq hn4; have q1 := n4_keep hq hp4; clear hc
                 go_simp
                 first
                   | rfl)
              simp only [Act.put, List.setIfInBounds_toArray, List.set_cons_zero, List.set_cons_succ]
            refine d_nil ?_
            intro w1 hb1
            go_wp2_with fail
            go_ret
            exact ⟨ret1 (HF.out).symm, b_next (b_alloc hbl _) hb1⟩
          · have d2 := decide_eq_false a2
            have d0 := decide_eq_true hk0; have d0n : decide (0 < k) = true := decide_eq_true (by omega)
            by_cases a3 : T k ≤ T (k - 1)
            · have d3 := decide_eq_true a3
              have HF := Lib.hid (stop (n := n) HG.out hlt (nerr_time (Or.inr (Or.inr ⟨by omega, a3⟩))) (by omega))
              have hn4 := c4_new wr 65 (T k) (X k) (Y k) (H k)
              have hp4 := n4_keep (b_alloc (Below.refl _ wr) (.cells #[.int .i64 (T k), .int .i64 (X k), .int .i64 (Y k), .int .i64 (H k)] 65)) hpv
              go_wp2_with fail
              refine d_region (by kernel_rfl) (by kernel_rfl) ?_
              repeat
                first
                  | (refine d_plain (by with_reducible rfl) ?_; apply Exists.intro; refine ⟨fun wq hc hq => ?_, ?_⟩)
                  | (refine d_on (by with_reducible rfl) (by rfl) (by with_reducible rfl) ?_; apply Exists.intro; refine ⟨fun wq hc hq => ?_, ?_⟩)
                  | (refine d_off (by with_reducible rfl) (by rfl) (by rfl) ?_)
                  | (refine d_void (by with_reducible rfl) (by rfl) ?_)
                try any_goals
                  (have q0 := c4_keep hq hn4; have q1 := n4_keep hq hp4; clear hc
                   go_simp
                   first
                     | rfl)
                simp only [Act.put, List.setIfInBounds_toArray, List.set_cons_zero, List.set_cons_succ]
              refine d_nil ?_
              intro w1 hb1
              go_wp2_with fail
              go_ret
              exact ⟨ret1 (HF.out).symm, b_next (b_alloc hbl _) hb1⟩
            · have d3 := decide_eq_false a3
              have hn4 := c4_new wr 65 (T k) (X k) (Y k) (H k)
              have hp4 := n4_keep (b_alloc (Below.refl _ wr) (.cells #[.int .i64 (T k), .int .i64 (X k), .int .i64 (Y k), .int .i64 (H k)] 65)) hpv
              cases hg : goodB (X k) (Y k) with
              | false =>
                have gb : ¬ good (X k) (Y k) := fun e => by rw [goodB_iff.2 e] at hg; cases hg
                have HF := Lib.hid (stop (n := n) HG.out hlt (nerr_point (by intro h; rcases h with h | h | ⟨h, h'⟩ <;> omega) gb) (by omega))
                have C : Hid (Chk (X k) (Y k) 4) := fun w => by have c := check (X k) (Y k) w; rw [chk_bad gb] at c; exact c
                clear gb hg
                go_wp2_with fail
                refine d_region (by kernel_rfl) (by kernel_rfl) ?_
                repeat
                  first
                    | (refine d_plain (by with_reducible rfl) ?_; apply Exists.intro; refine ⟨fun wq hc hq => ?_, ?_⟩)
                    | (refine d_on (by with_reducible rfl) (by rfl) (by with_reducible rfl) ?_; apply Exists.intro; refine ⟨fun wq hc hq => ?_, ?_⟩)
                    | (refine d_off (by with_reducible rfl) (by rfl) (by rfl) ?_)
                    | (refine d_void (by with_reducible rfl) (by rfl) ?_)
                  try any_goals
                    (have q0 := c4_keep hq hn4; have q1 := n4_keep hq hp4; clear hc
                     go_simp
                     first
                       | rfl)
                  simp only [Act.put, List.setIfInBounds_toArray, List.set_cons_zero, List.set_cons_succ]
                refine d_nil ?_
                intro w1 hb1
                replace hn4 := c4_keep hb1 hn4
                go_wp2_with fail
                refine (C.out _).mono ?_; rintro e w2 ⟨rfl, hb2⟩
                replace hn4 := c4_keep hb2 hn4
                go_wp2_with fail
                go_ret
                exact ⟨ret1 (HF.out).symm, b_next (b_next (b_alloc hbl _) hb1) hb2⟩
              | true =>
                have ga : good (X k) (Y k) := goodB_iff.1 hg
                have C : Hid (Chk (X k) (Y k) 0) := fun w => by have c := check (X k) (Y k) w; rw [chk_ok ga] at c; exact c
                have GA := Lib.hid ga
                clear hg ga
                by_cases b1 : H k < 0
                · have HF := Lib.hid (stop (n := n) HG.out hlt (nerr_height (by intro h; rcases h with h | h | ⟨h, h'⟩ <;> omega) GA.out (by omega)) (by omega))
                  go_wp2_with fail
                  refine d_region (by kernel_rfl) (by kernel_rfl) ?_
                  repeat
                    first
                      | (refine d_plain (by with_reducible rfl) ?_; apply Exists.intro; refine ⟨fun wq hc hq => ?_, ?_⟩)
                      | (refine d_on (by with_reducible rfl) (by rfl) (by with_reducible rfl) ?_; apply Exists.intro; refine ⟨fun wq hc hq => ?_, ?_⟩)
                      | (refine d_off (by with_reducible rfl) (by rfl) (by rfl) ?_)
                      | (refine d_void (by with_reducible rfl) (by rfl) ?_)
                    try any_goals
                      (have q0 := c4_keep hq hn4; have q1 := n4_keep hq hp4; clear hc
                       go_simp
                       first
                         | rfl)
                    simp only [Act.put, List.setIfInBounds_toArray, List.set_cons_zero, List.set_cons_succ]
                  refine d_nil ?_
                  intro w1 hb1
                  replace hn4 := c4_keep hb1 hn4
                  go_wp2_with fail
                  refine (C.out _).mono ?_; rintro e w2 ⟨rfl, hb2⟩
                  replace hn4 := c4_keep hb2 hn4
                  go_wp2_with fail
                  go_ret
                  exact ⟨ret1 (HF.out).symm, b_next (b_next (b_alloc hbl _) hb1) hb2⟩
                · by_cases b2 : 60000 < H k
                  · have HF := Lib.hid (stop (n := n) HG.out hlt (nerr_height (by intro h; rcases h with h | h | ⟨h, h'⟩ <;> omega) GA.out (by omega)) (by omega))
                    go_wp2_with fail
                    refine d_region (by kernel_rfl) (by kernel_rfl) ?_
                    repeat
                      first
                        | (refine d_plain (by with_reducible rfl) ?_; apply Exists.intro; refine ⟨fun wq hc hq => ?_, ?_⟩)
                        | (refine d_on (by with_reducible rfl) (by rfl) (by with_reducible rfl) ?_; apply Exists.intro; refine ⟨fun wq hc hq => ?_, ?_⟩)
                        | (refine d_off (by with_reducible rfl) (by rfl) (by rfl) ?_)
                        | (refine d_void (by with_reducible rfl) (by rfl) ?_)
                      try any_goals
                        (have q0 := c4_keep hq hn4; have q1 := n4_keep hq hp4; clear hc
                         go_simp
                         first
                           | rfl)
                      simp only [Act.put, List.setIfInBounds_toArray, List.set_cons_zero, List.set_cons_succ]
                    refine d_nil ?_
                    intro w1 hb1
                    replace hn4 := c4_keep hb1 hn4
                    go_wp2_with fail
                    refine (C.out _).mono ?_; rintro e w2 ⟨rfl, hb2⟩
                    replace hn4 := c4_keep hb2 hn4
                    go_wp2_with fail
                    go_ret
                    exact ⟨ret1 (HF.out).symm, b_next (b_next (b_alloc hbl _) hb1) hb2⟩
                  · have HO := Lib.hid ((nchk_step HG.out).trans (nerr_none (by intro h; rcases h with h | h | ⟨h, h'⟩ <;> omega) GA.out (by omega)))
                    go_wp2_with fail
                    refine d_region (by kernel_rfl) (by kernel_rfl) ?_
                    repeat
                      first
                        | (refine d_plain (by with_reducible rfl) ?_; apply Exists.intro; refine ⟨fun wq hc hq => ?_, ?_⟩)
                        | (refine d_on (by with_reducible rfl) (by rfl) (by with_reducible rfl) ?_; apply Exists.intro; refine ⟨fun wq hc hq => ?_, ?_⟩)
                        | (refine d_off (by with_reducible rfl) (by rfl) (by rfl) ?_)
                        | (refine d_void (by with_reducible rfl) (by rfl) ?_)
                      try any_goals
                        (have q0 := c4_keep hq hn4; have q1 := n4_keep hq hp4; clear hc
                         go_simp
                         first
                           | rfl)
                      simp only [Act.put, List.setIfInBounds_toArray, List.set_cons_zero, List.set_cons_succ]
                    refine d_nil ?_
                    intro w1 hb1
                    replace hn4 := c4_keep hb1 hn4
                    go_wp2_with fail
                    refine (C.out _).mono ?_; rintro e w2 ⟨rfl, hb2⟩
                    replace hn4 := c4_keep hb2 hn4
                    go_wp2_with fail
                    go_roundw
                    case rel => first | exact ⟨k + 1, by omega, HO.out, by go_num, b_next (b_next (b_alloc hbl _) hb1) hb2⟩ | ((repeat apply Exists.intro); exact ⟨⟨k + 1, by omega, HO.out, by go_num, b_next (b_next (b_alloc hbl _) hb1) hb2⟩, rfl⟩)
                    case measure => simp [intOf]; omega
      · by_cases a1 : T k < 0
        · have d1 := decide_eq_true a1
          have HF := Lib.hid (stop (n := n) HG.out hlt (nerr_time (Or.inl a1)) (by omega))
          have hn4 := c4_new wr 65 (T k) (X k) (Y k) (H k)
          go_wp2_with fail
          refine d_region (by kernel_rfl) (by kernel_rfl) ?_
          repeat
            first
              | (refine d_plain (by with_reducible rfl) ?_; apply Exists.intro; refine ⟨fun wq hc hq => ?_, ?_⟩)
              | (refine d_on (by with_reducible rfl) (by rfl) (by with_reducible rfl) ?_; apply Exists.intro; refine ⟨fun wq hc hq => ?_, ?_⟩)
              | (refine d_off (by with_reducible rfl) (by rfl) (by rfl) ?_)
              | (refine d_void (by with_reducible rfl) (by rfl) ?_)
            try any_goals
              (have q0 := c4_keep hq hn4; clear hc
               go_simp
               first
                 | rfl)
            simp only [Act.put, List.setIfInBounds_toArray, List.set_cons_zero, List.set_cons_succ]
          refine d_nil ?_
          intro w1 hb1
          go_wp2_with fail
          go_ret
          exact ⟨ret1 (HF.out).symm, b_next (b_alloc hbl _) hb1⟩
        · have d1 := decide_eq_false a1
          by_cases a2 : 200000 < T k
          · have d2 := decide_eq_true a2
            have HF := Lib.hid (stop (n := n) HG.out hlt (nerr_time (Or.inr (Or.inl a2))) (by omega))
            have hn4 := c4_new wr 65 (T k) (X k) (Y k) (H k)
            go_wp2_with fail
            refine d_region (by kernel_rfl) (by kernel_rfl) ?_
            repeat
              first
                | (refine d_plain (by with_reducible rfl) ?_; apply Exists.intro; refine ⟨fun wq hc hq => ?_, ?_⟩)
                | (refine d_on (by with_reducible rfl) (by rfl) (by with_reducible rfl) ?_; apply Exists.intro; refine ⟨fun wq hc hq => ?_, ?_⟩)
                | (refine d_off (by with_reducible rfl) (by rfl) (by rfl) ?_)
                | (refine d_void (by with_reducible rfl) (by rfl) ?_)
              try any_goals
                (have q0 := c4_keep hq hn4; clear hc
                 go_simp
                 first
                   | rfl)
              simp only [Act.put, List.setIfInBounds_toArray, List.set_cons_zero, List.set_cons_succ]
            refine d_nil ?_
            intro w1 hb1
            go_wp2_with fail
            go_ret
            exact ⟨ret1 (HF.out).symm, b_next (b_alloc hbl _) hb1⟩
          · have d2 := decide_eq_false a2
            have d0 := decide_eq_false hk0; have d0n : decide (0 < k) = false := decide_eq_false (by omega)
            have hn4 := c4_new wr 65 (T k) (X k) (Y k) (H k)
            cases hg : goodB (X k) (Y k) with
            | false =>
              have gb : ¬ good (X k) (Y k) := fun e => by rw [goodB_iff.2 e] at hg; cases hg
              have HF := Lib.hid (stop (n := n) HG.out hlt (nerr_point (by intro h; rcases h with h | h | ⟨h, h'⟩ <;> omega) gb) (by omega))
              have C : Hid (Chk (X k) (Y k) 4) := fun w => by have c := check (X k) (Y k) w; rw [chk_bad gb] at c; exact c
              clear gb hg
              go_wp2_with fail
              refine d_region (by kernel_rfl) (by kernel_rfl) ?_
              repeat
                first
                  | (refine d_plain (by with_reducible rfl) ?_; apply Exists.intro; refine ⟨fun wq hc hq => ?_, ?_⟩)
                  | (refine d_on (by with_reducible rfl) (by rfl) (by with_reducible rfl) ?_; apply Exists.intro; refine ⟨fun wq hc hq => ?_, ?_⟩)
                  | (refine d_off (by with_reducible rfl) (by rfl) (by rfl) ?_)
                  | (refine d_void (by with_reducible rfl) (by rfl) ?_)
                try any_goals
                  (have q0 := c4_keep hq hn4; clear hc
                   go_simp
                   first
                     | rfl)
                simp only [Act.put, List.setIfInBounds_toArray, List.set_cons_zero, List.set_cons_succ]
              refine d_nil ?_
              intro w1 hb1
              replace hn4 := c4_keep hb1 hn4
              go_wp2_with fail
              refine (C.out _).mono ?_; rintro e w2 ⟨rfl, hb2⟩
              replace hn4 := c4_keep hb2 hn4
              go_wp2_with fail
              go_ret
              exact ⟨ret1 (HF.out).symm, b_next (b_next (b_alloc hbl _) hb1) hb2⟩
            | true =>
              have ga : good (X k) (Y k) := goodB_iff.1 hg
              have C : Hid (Chk (X k) (Y k) 0) := fun w => by have c := check (X k) (Y k) w; rw [chk_ok ga] at c; exact c
              have GA := Lib.hid ga
              clear hg ga
              by_cases b1 : H k < 0
              · have HF := Lib.hid (stop (n := n) HG.out hlt (nerr_height (by intro h; rcases h with h | h | ⟨h, h'⟩ <;> omega) GA.out (by omega)) (by omega))
                go_wp2_with fail
                refine d_region (by kernel_rfl) (by kernel_rfl) ?_
                repeat
                  first
                    | (refine d_plain (by with_reducible rfl) ?_; apply Exists.intro; refine ⟨fun wq hc hq => ?_, ?_⟩)
                    | (refine d_on (by with_reducible rfl) (by rfl) (by with_reducible rfl) ?_; apply Exists.intro; refine ⟨fun wq hc hq => ?_, ?_⟩)
                    | (refine d_off (by with_reducible rfl) (by rfl) (by rfl) ?_)
                    | (refine d_void (by with_reducible rfl) (by rfl) ?_)
                  try any_goals
                    (have q0 := c4_keep hq hn4; clear hc
                     go_simp
                     first
                       | rfl)
                  simp only [Act.put, List.setIfInBounds_toArray, List.set_cons_zero, List.set_cons_succ]
                refine d_nil ?_
                intro w1 hb1
                replace hn4 := c4_keep hb1 hn4
                go_wp2_with fail
                refine (C.out _).mono ?_; rintro e w2 ⟨rfl, hb2⟩
                replace hn4 := c4_keep hb2 hn4
                go_wp2_with fail
                go_ret
                exact ⟨ret1 (HF.out).symm, b_next (b_next (b_alloc hbl _) hb1) hb2⟩
              · by_cases b2 : 60000 < H k
                · have HF := Lib.hid (stop (n := n) HG.out hlt (nerr_height (by intro h; rcases h with h | h | ⟨h, h'⟩ <;> omega) GA.out (by omega)) (by omega))
                  go_wp2_with fail
                  refine d_region (by kernel_rfl) (by kernel_rfl) ?_
                  repeat
                    first
                      | (refine d_plain (by with_reducible rfl) ?_; apply Exists.intro; refine ⟨fun wq hc hq => ?_, ?_⟩)
                      | (refine d_on (by with_reducible rfl) (by rfl) (by with_reducible rfl) ?_; apply Exists.intro; refine ⟨fun wq hc hq => ?_, ?_⟩)
                      | (refine d_off (by with_reducible rfl) (by rfl) (by rfl) ?_)
                      | (refine d_void (by with_reducible rfl) (by rfl) ?_)
                    try any_goals
                      (have q0 := c4_keep hq hn4; clear hc
                       go_simp
                       first
                         | rfl)
                    simp only [Act.put, List.setIfInBounds_toArray, List.set_cons_zero, List.set_cons_succ]
                  refine d_nil ?_
                  intro w1 hb1
                  replace hn4 := c4_keep hb1 hn4
                  go_wp2_with fail
                  refine (C.out _).mono ?_; rintro e w2 ⟨rfl, hb2⟩
                  replace hn4 := c4_keep hb2 hn4
                  go_wp2_with fail
                  go_ret
                  exact ⟨ret1 (HF.out).symm, b_next (b_next (b_alloc hbl _) hb1) hb2⟩
                · have HO := Lib.hid ((nchk_step HG.out).trans (nerr_none (by intro h; rcases h with h | h | ⟨h, h'⟩ <;> omega) GA.out (by omega)))
                  go_wp2_with fail
                  refine d_region (by kernel_rfl) (by kernel_rfl) ?_
                  repeat
                    first
                      | (refine d_plain (by with_reducible rfl) ?_; apply Exists.intro; refine ⟨fun wq hc hq => ?_, ?_⟩)
                      | (refine d_on (by with_reducible rfl) (by rfl) (by with_reducible rfl) ?_; apply Exists.intro; refine ⟨fun wq hc hq => ?_, ?_⟩)
                      | (refine d_off (by with_reducible rfl) (by rfl) (by rfl) ?_)
                      | (refine d_void (by with_reducible rfl) (by rfl) ?_)
                    try any_goals
                      (have q0 := c4_keep hq hn4; clear hc
                       go_simp
                       first
                         | rfl)
                    simp only [Act.put, List.setIfInBounds_toArray, List.set_cons_zero, List.set_cons_succ]
                  refine d_nil ?_
                  intro w1 hb1
                  replace hn4 := c4_keep hb1 hn4
                  go_wp2_with fail
                  refine (C.out _).mono ?_; rintro e w2 ⟨rfl, hb2⟩
                  replace hn4 := c4_keep hb2 hn4
                  go_wp2_with fail
                  go_roundw
                  case rel => first | exact ⟨k + 1, by omega, HO.out, by go_num, b_next (b_next (b_alloc hbl _) hb1) hb2⟩ | ((repeat apply Exists.intro); exact ⟨⟨k + 1, by omega, HO.out, by go_num, b_next (b_next (b_alloc hbl _) hb1) hb2⟩, rfl⟩)
                  case measure => simp [intOf]; omega
    · have he : k = n := by omega
      have HE := Lib.hid he; clear he
      go_wp2_with fail
      go_ret
      exact ⟨ret1 (by rw [← HE.out, HG.out]), hbl⟩
end Path
end Go.Proofs.YtkapllakofndlaaDoor
namespace Go.Proofs.YtkapllakofndlaaDoor
open Go.RowKit
namespace Path
open Kit Plane
/-- Four cells that may be written. -/
abbrev F4 (w : World) (b : Nat) : Prop := (w.frozen? ⟨b, 0, none⟩ = false ∧ w.frozen? ⟨b, 1, none⟩ = false) ∧ (w.frozen? ⟨b, 2, none⟩ = false ∧ w.frozen? ⟨b, 3, none⟩ = false)
theorem f4_new (w : World) (ty : TypeId) (t x y h : Int) : F4 (w.alloc (.cells #[.int .i64 t, .int .i64 x, .int .i64 y, .int .i64 h] ty)) w.heap.size := ⟨⟨by simp, by simp⟩, ⟨by simp, by simp⟩⟩
/-- Four cells of zeros that may be written. -/
abbrev Z4 (w : World) (b : Nat) : Prop := C4 w b 0 0 0 0 ∧ F4 w b
theorem z4_new (w : World) (ty : TypeId) : Z4 (w.alloc (.cells #[.int .i64 0, .int .i64 0, .int .i64 0, .int .i64 0] ty)) w.heap.size := ⟨c4_new w ty 0 0 0 0, f4_new w ty 0 0 0 0⟩
theorem z4_keep {W w1 : World} (hb : Below W.heap.size W w1) {b : Nat} (h : Z4 W b) : Z4 w1 b :=
  ⟨c4_keep hb h.1, ⟨keepF hb h.1.1.1 h.2.1.1, keepF hb h.1.1.2 h.2.1.2⟩, ⟨keepF hb h.1.2.1 h.2.2.1, keepF hb h.1.2.2 h.2.2.2⟩⟩
theorem c4_new1 (w : World) (o : Obj) (ty : TypeId) (t x y h : Int) : C4 ((w.alloc o).alloc (.cells #[.int .i64 t, .int .i64 x, .int .i64 y, .int .i64 h] ty)) (w.heap.size + 1) t x y h := by
  have c := c4_new (w.alloc o) ty t x y h; rw [World.size_alloc] at c; exact c
theorem c4_new2 (w : World) (o o' : Obj) (ty : TypeId) (t x y h : Int) : C4 (((w.alloc o).alloc o').alloc (.cells #[.int .i64 t, .int .i64 x, .int .i64 y, .int .i64 h] ty)) (w.heap.size + 1 + 1) t x y h := by
  have c := c4_new1 (w.alloc o) o' ty t x y h; rw [World.size_alloc] at c; exact c
theorem c4_set {W : World} {b : Nat} {t x y h : Int} (t' x' y' h' : Int) (hc : C4 W b t x y h) :
    C4 ((((W.setCell ⟨b, 0, none⟩ (.int .i64 t')).setCell ⟨b, 1, none⟩ (.int .i64 x')).setCell ⟨b, 2, none⟩ (.int .i64 y')).setCell ⟨b, 3, none⟩ (.int .i64 h')) b t' x' y' h' :=
  ⟨⟨cfar _ (by simp) (cfar _ (by simp) (cfar _ (by simp) (cset _ hc.1.1))), cfar _ (by simp) (cfar _ (by simp) (cset _ (cfar _ (by simp) hc.1.2)))⟩,
   ⟨cfar _ (by simp) (cset _ (cfar _ (by simp) (cfar _ (by simp) hc.2.1))), cset _ (cfar _ (by simp) (cfar _ (by simp) (cfar _ (by simp) hc.2.2)))⟩⟩
set_option maxHeartbeats 1000000 in
theorem at_exact (n cap b off i : Nat) (t : Int) (T X Y H : Nat → Int) (w : World) (hi : i < n) (_hn : n ≤ 64) (hc : n ≤ cap) (hm : cap ≤ 9223372036854775807) (HV : Hid (∀ k, k < n → N4 w b off k (T k) (X k) (Y k) (H k))) (HU : Hid (∀ k, k ≤ i → T k ≤ t)) (HN : Hid (i + 1 < n → t < T (i + 1))) (he : T i = t) :
    Calls Tryd.prog 74 #[.slice (some ⟨b, off, none⟩) n cap, .int .i64 t] w fun e w' => e = .returned (.agg #[.int .i64 (T i), .int .i64 (X i), .int .i64 (Y i), .int .i64 (H i)]) ∧ Below w.heap.size w w' := by
  go_enter Tryd.func74, Tryd.ntmps74
  go_wp2
  have hb0 : Below w.heap.size w (w.alloc (.cells #[.int .i64 0, .int .i64 0, .int .i64 0, .int .i64 0] 65)) := b_alloc (Below.refl _ _) _
  have F0 : F4 (w.alloc (.cells #[.int .i64 0, .int .i64 0, .int .i64 0, .int .i64 0] 65)) w.heap.size := f4_new w 65 0 0 0 0
  have HB0 := Lib.hid hb0; have HF0 := Lib.hid F0; clear hb0 F0
  go_loopw [5] (fun s wr => ∃ k : Nat, k ≤ i ∧ s = .int .i64 k ∧ wr = w.alloc (.cells #[.int .i64 0, .int .i64 0, .int .i64 0, .int .i64 0] 65)) (fun s _ => i - (intOf s).toNat)
  case atStart => exact ⟨0, Nat.zero_le _, rfl, rfl⟩
  case round =>
    obtain ⟨k, hk, rfl, rfl⟩ := hrel
    have hbl := HB0.out
    have hn4 := n4_keep hbl (HV.out k (by omega))
    obtain ⟨⟨c0, c1⟩, c2, c3⟩ := hn4
    have hw1 : IntKind.i64.wrap ((k : Int) + 1) = ((k + 1 : Nat) : Int) := by rw [IntWalk.i64_in _ (by omega)]; omega
    by_cases hlt : k < i
    · have hp4 := n4_keep hbl (HV.out (k + 1) (by omega))
      obtain ⟨⟨e0, e1⟩, e2, e3⟩ := hp4
      have d1 : decide ((k : Int) + 1 < (n : Int)) = true := decide_eq_true (by omega)
      have u2 : T (k + 1) ≤ t := HU.out _ (by omega)
      have d4 : ((k + 1 : Nat) : Int) < (n : Int) := by omega
      go_wp2_with fail
      go_roundw
      case rel => exact ⟨k + 1, by omega, by go_num, trivial⟩
      case measure => simp [intOf]; omega
    · have he : k = i := by omega
      subst he
      have d5 : (k : Int) < (n : Int) := by omega
      by_cases hl : k + 1 < n
      · have hp4 := n4_keep hbl (HV.out (k + 1) hl)
        obtain ⟨⟨e0, e1⟩, e2, e3⟩ := hp4
        have u1 : (k : Int) + 1 < (n : Int) := by omega
        have u2 : ¬ T (k + 1) ≤ t := by have := HN.out hl; omega
        have d4 : ((k + 1 : Nat) : Int) < (n : Int) := by omega
        skip
        go_wp2_with fail
        refine bodyPost_ret (v := .agg #[.int .i64 t, .int .i64 (X k), .int .i64 (Y k), .int .i64 (H k)]) (by simp [results, Tryd.results74, go_sem]) rfl ⟨rfl, b_alloc (b_alloc (Below.refl _ _) _) _⟩
      · have u1 : ¬ (k : Int) + 1 < (n : Int) := by omega
        go_wp2_with fail
        refine bodyPost_ret (v := .agg #[.int .i64 t, .int .i64 (X k), .int .i64 (Y k), .int .i64 (H k)]) (by simp [results, Tryd.results74, go_sem]) rfl ⟨rfl, b_alloc (b_alloc (Below.refl _ _) _) _⟩

set_option maxHeartbeats 1000000 in
theorem at_between (n cap b off i : Nat) (t : Int) (T X Y H : Nat → Int) (w : World) (hi : i < n) (_hn : n ≤ 64) (hc : n ≤ cap) (hm : cap ≤ 9223372036854775807) (HV : Hid (∀ k, k < n → N4 w b off k (T k) (X k) (Y k) (H k))) (HU : Hid (∀ k, k ≤ i → T k ≤ t)) (HN : Hid (i + 1 < n → t < T (i + 1))) (px py q : Int) (HL : Hid (i + 1 < n)) (BT : Hid (T i < t ∧ 0 ≤ T i ∧ t ≤ 200000 ∧ T (i + 1) ≤ 200000)) (BH : Hid (0 ≤ H i ∧ H i ≤ 60000 ∧ 0 ≤ H (i + 1) ∧ H (i + 1) ≤ 60000 ∧ -60000 ≤ q ∧ q ≤ 60000))
    (TW : Hid (∀ w : World, Calls Tryd.prog 62 #[.agg #[.int .i64 (X i), .int .i64 (Y i)], .agg #[.int .i64 (X (i + 1)), .int .i64 (Y (i + 1))], .int .i64 (t - T i), .int .i64 (T (i + 1) - T i)] w fun e w' => e = .returned (.tuple #[.agg #[.int .i64 px, .int .i64 py], .int .i64 0]) ∧ Below w.heap.size w w'))
    (DH : Hid (Dv ((H (i + 1) - H i) * (t - T i)) (T (i + 1) - T i) q)) (MH : Hid (-12000000000 ≤ (H (i + 1) - H i) * (t - T i) ∧ (H (i + 1) - H i) * (t - T i) ≤ 12000000000)) :
    Calls Tryd.prog 74 #[.slice (some ⟨b, off, none⟩) n cap, .int .i64 t] w fun e w' => e = .returned (.agg #[.int .i64 t, .int .i64 px, .int .i64 py, .int .i64 (H i + q)]) ∧ Below w.heap.size w w' := by
  have he : ¬ T i = t := by have := BT.out; omega
  go_enter Tryd.func74, Tryd.ntmps74
  go_wp2
  have hb0 : Below w.heap.size w (w.alloc (.cells #[.int .i64 0, .int .i64 0, .int .i64 0, .int .i64 0] 65)) := b_alloc (Below.refl _ _) _
  have F0 : F4 (w.alloc (.cells #[.int .i64 0, .int .i64 0, .int .i64 0, .int .i64 0] 65)) w.heap.size := f4_new w 65 0 0 0 0
  have HB0 := Lib.hid hb0; have HF0 := Lib.hid F0; clear hb0 F0
  go_loopw [5] (fun s wr => ∃ k : Nat, k ≤ i ∧ s = .int .i64 k ∧ wr = w.alloc (.cells #[.int .i64 0, .int .i64 0, .int .i64 0, .int .i64 0] 65)) (fun s _ => i - (intOf s).toNat)
  case atStart => exact ⟨0, Nat.zero_le _, rfl, rfl⟩
  case round =>
    obtain ⟨k, hk, rfl, rfl⟩ := hrel
    have hbl := HB0.out
    have hn4 := n4_keep hbl (HV.out k (by omega))
    obtain ⟨⟨c0, c1⟩, c2, c3⟩ := hn4
    have hw1 : IntKind.i64.wrap ((k : Int) + 1) = ((k + 1 : Nat) : Int) := by rw [IntWalk.i64_in _ (by omega)]; omega
    by_cases hlt : k < i
    · have hp4 := n4_keep hbl (HV.out (k + 1) (by omega))
      obtain ⟨⟨e0, e1⟩, e2, e3⟩ := hp4
      have d1 : decide ((k : Int) + 1 < (n : Int)) = true := decide_eq_true (by omega)
      have u2 : T (k + 1) ≤ t := HU.out _ (by omega)
      have d4 : ((k + 1 : Nat) : Int) < (n : Int) := by omega
      go_wp2_with fail
      go_roundw
      case rel => exact ⟨k + 1, by omega, by go_num, trivial⟩
      case measure => simp [intOf]; omega
    · have he : k = i := by omega
      subst he
      have d5 : (k : Int) < (n : Int) := by omega
      by_cases hl : k + 1 < n
      · have hp4 := n4_keep hbl (HV.out (k + 1) hl)
        obtain ⟨⟨e0, e1⟩, e2, e3⟩ := hp4
        have u1 : (k : Int) + 1 < (n : Int) := by omega
        have u2 : ¬ T (k + 1) ≤ t := by have := HN.out hl; omega
        have d4 : ((k + 1 : Nat) : Int) < (n : Int) := by omega
        have bt := BT.out; have bh := BH.out; have mh := MH.out
        obtain ⟨⟨g0, g1⟩, g2, g3⟩ := n4_keep (b_alloc (Below.refl _ _) (.cells #[.int .i64 (T k), .int .i64 (X k), .int .i64 (Y k), .int .i64 (H k)] 65)) (n4_keep hbl (HV.out (k + 1) hl))
        have W := Lib.hid (b_alloc (b_alloc (b_alloc (Below.refl w.heap.size w) (.cells #[.int .i64 0, .int .i64 0, .int .i64 0, .int .i64 0] 65)) (.cells #[.int .i64 (T k), .int .i64 (X k), .int .i64 (Y k), .int .i64 (H k)] 65)) (.cells #[.int .i64 (T (k + 1)), .int .i64 (X (k + 1)), .int .i64 (Y (k + 1)), .int .i64 (H (k + 1))] 65))
        have Z := Lib.hid (z4_keep (b_alloc (Below.refl _ _) (.cells #[.int .i64 (T (k + 1)), .int .i64 (X (k + 1)), .int .i64 (Y (k + 1)), .int .i64 (H (k + 1))] 65)) (z4_keep (b_alloc (Below.refl _ _) (.cells #[.int .i64 (T k), .int .i64 (X k), .int .i64 (Y k), .int .i64 (H k)] 65)) (z4_new w 65)))
        have A := Lib.hid (c4_alloc (.cells #[.int .i64 (T (k + 1)), .int .i64 (X (k + 1)), .int .i64 (Y (k + 1)), .int .i64 (H (k + 1))] 65) (c4_new1 w (.cells #[.int .i64 0, .int .i64 0, .int .i64 0, .int .i64 0] 65) 65 (T k) (X k) (Y k) (H k)))
        have B := Lib.hid (c4_new2 w (.cells #[.int .i64 0, .int .i64 0, .int .i64 0, .int .i64 0] 65) (.cells #[.int .i64 (T k), .int .i64 (X k), .int .i64 (Y k), .int .i64 (H k)] 65) 65 (T (k + 1)) (X (k + 1)) (Y (k + 1)) (H (k + 1)))
        go_wp2_with fail
        refine (TW.out _).mono ?_; rintro e w3 ⟨rfl, hb⟩
        have hz := z4_keep hb Z.out; have ha := c4_keep hb A.out; have hc' := c4_keep hb B.out
        have hw := b_alloc (b_next W.out hb) (.cells #[.int .i64 px, .int .i64 py] 28)
        replace hz := z4_keep (b_alloc (Below.refl _ w3) (.cells #[.int .i64 px, .int .i64 py] 28)) hz
        replace ha := c4_alloc (.cells #[.int .i64 px, .int .i64 py] 28) ha
        replace hc' := c4_alloc (.cells #[.int .i64 px, .int .i64 py] 28) hc'
        have hp := p2_new w3 28 px py
        clear hb
        go_wp2_with fail
        refine (DH.out _).mono ?_; rintro e w4 ⟨rfl, hb⟩
        subst hb
        go_wp2_with fail
        have c := c4_set t px py (H k + q) hz.1
        refine bodyPost_ret (v := .agg #[.int .i64 t, .int .i64 px, .int .i64 py, .int .i64 (H k + q)]) (by simp [results, Tryd.results74, go_sem, c.1.1, c.1.2, c.2.1, c.2.2]) rfl ⟨rfl, b_set (b_set (b_set (b_set hw (Nat.le_refl _) _) (Nat.le_refl _) _) (Nat.le_refl _) _) (Nat.le_refl _) _⟩
      · have u1 : ¬ (k : Int) + 1 < (n : Int) := by omega
        go_wp2_with fail
        all_goals exact absurd HL.out hl

end Path
end Go.Proofs.YtkapllakofndlaaDoor
namespace Go.Proofs.YtkapllakofndlaaDoor
open Go.RowKit
namespace Path
open Kit Plane
abbrev CkC (v : Value) (E : Int) (w : World) : Prop := ∀ w1 : World, Below w.heap.size w w1 → Calls Tryd.prog 29 #[v] w1 fun e w' => e = .returned (.int .i64 E) ∧ Below w1.heap.size w1 w'
theorem checkC {v : Value} {n : Nat} {T X Y H : Nat → Int} {w : World} (hv : PV w v n T X Y H) : CkC v (pchk T X Y H n) w := fun w1 hb => by
  rcases hv with ⟨h0, hv⟩ | ⟨h0, b, off, cap, hv, h1, h2, h3⟩
  · subst h0
    have e : pchk T X Y H 0 = 3 := rfl
    rw [e]
    rcases hv with hv | ⟨a, cap, hv, _⟩
    · subst hv; exact (check_nil w1).mono fun e w' ⟨he, hw⟩ => ⟨he, hw ▸ Below.refl _ _⟩
    · subst hv; exact (check_empty a cap w1).mono fun e w' ⟨he, hw⟩ => ⟨he, hw ▸ Below.refl _ _⟩
  · subst hv
    have hm : cap ≤ 9223372036854775807 := Nat.le_trans h2 (by decide)
    by_cases hl : 64 < n
    · have e : pchk T X Y H n = 2 := if_pos hl
      rw [e]
      exact (check_large n cap b off w1 hl h1 hm).mono fun e w' ⟨he, hw⟩ => ⟨he, hw ▸ Below.refl _ _⟩
    · have e : pchk T X Y H n = nchk T X Y H n := by unfold pchk; rw [if_neg hl, if_neg (by omega)]
      rw [e]
      exact check_nodes n cap b off T X Y H w1 h0 (by omega) h1 hm (Lib.hid fun k hk => n4_keep hb (h3 k hk))
set_option maxHeartbeats 600000 in
theorem At_bad (v : Value) (t E : Int) (w : World) (C : Hid (CkC v E w)) (_hE1 : (E == 0) = false) (hE2 : (E != 0) = true) :
    Calls Tryd.prog 45 #[v, .int .i64 t] w fun e w' => e = .returned (.tuple #[.agg #[.int .i64 0, .int .i64 0, .int .i64 0, .int .i64 0], .int .i64 E]) ∧ Below w.heap.size w w' := by
  go_enter Tryd.func45, Tryd.ntmps45
  have hz := z4_new w 65
  have hw := b_alloc (Below.refl w.heap.size w) (.cells #[.int .i64 0, .int .i64 0, .int .i64 0, .int .i64 0] 65)
  go_wp2_with fail
  refine (C.out _ hw).mono ?_; rintro e w1 ⟨rfl, hb⟩
  replace hz := z4_keep hb hz
  replace hw := b_next hw hb
  clear hb
  go_wp2_with fail
  have c := c4_set (0) (0) (0) (0) hz.1
  refine bodyPost_ret (v := .tuple #[.agg #[.int .i64 (0), .int .i64 (0), .int .i64 (0), .int .i64 (0)], .int .i64 (E)]) (by simp [results, Tryd.results45, go_sem, c.1.1, c.1.2, c.2.1, c.2.2]) rfl ⟨rfl, b_set (b_set (b_set (b_set hw (Nat.le_refl _) _) (Nat.le_refl _) _) (Nat.le_refl _) _) (Nat.le_refl _) _⟩
abbrev AtC (v : Value) (t px py h : Int) (w : World) : Prop := ∀ w1 : World, Below w.heap.size w w1 → Calls Tryd.prog 74 #[v, .int .i64 t] w1 fun e w' => e = .returned (.agg #[.int .i64 t, .int .i64 px, .int .i64 py, .int .i64 h]) ∧ Below w1.heap.size w1 w'
set_option maxHeartbeats 600000 in
theorem At_early (n cap b off : Nat) (T X Y H : Nat → Int) (t : Int) (w : World) (h0 : 0 < n) (hn : n ≤ 64) (_hc : n ≤ cap) (HV : Hid (∀ k, k < n → N4 w b off k (T k) (X k) (Y k) (H k))) (C : Hid (CkC (.slice (some ⟨b, off, none⟩) n cap) 0 w)) (ht : t < T 0) :
    Calls Tryd.prog 45 #[.slice (some ⟨b, off, none⟩) n cap, .int .i64 t] w fun e w' => e = .returned (.tuple #[.agg #[.int .i64 0, .int .i64 0, .int .i64 0, .int .i64 0], .int .i64 12]) ∧ Below w.heap.size w w' := by
  go_enter Tryd.func45, Tryd.ntmps45
  have hz := z4_new w 65
  have hw := b_alloc (Below.refl w.heap.size w) (.cells #[.int .i64 0, .int .i64 0, .int .i64 0, .int .i64 0] 65)
  go_wp2_with fail
  refine (C.out _ hw).mono ?_; rintro e w1 ⟨rfl, hb⟩
  replace hz := z4_keep hb hz
  replace hw := b_next hw hb
  obtain ⟨⟨c0, c1⟩, c2, c3⟩ := n4_keep hw (HV.out 0 h0)
  rw [Nat.zero_mul, Nat.add_zero] at c0
  clear hb
  have u0 : (0 : Int) < (n : Int) := by omega
  go_wp2_with fail
  have c := c4_set (0) (0) (0) (0) hz.1
  refine bodyPost_ret (v := .tuple #[.agg #[.int .i64 (0), .int .i64 (0), .int .i64 (0), .int .i64 (0)], .int .i64 (12)]) (by simp [results, Tryd.results45, go_sem, c.1.1, c.1.2, c.2.1, c.2.2]) rfl ⟨rfl, b_set (b_set (b_set (b_set hw (Nat.le_refl _) _) (Nat.le_refl _) _) (Nat.le_refl _) _) (Nat.le_refl _) _⟩
set_option maxHeartbeats 600000 in
theorem At_late (n cap b off : Nat) (T X Y H : Nat → Int) (t : Int) (w : World) (h0 : 0 < n) (hn : n ≤ 64) (_hc : n ≤ cap) (HV : Hid (∀ k, k < n → N4 w b off k (T k) (X k) (Y k) (H k))) (C : Hid (CkC (.slice (some ⟨b, off, none⟩) n cap) 0 w)) (ht : ¬ t < T 0) (ht2 : T (n - 1) < t) :
    Calls Tryd.prog 45 #[.slice (some ⟨b, off, none⟩) n cap, .int .i64 t] w fun e w' => e = .returned (.tuple #[.agg #[.int .i64 0, .int .i64 0, .int .i64 0, .int .i64 0], .int .i64 12]) ∧ Below w.heap.size w w' := by
  go_enter Tryd.func45, Tryd.ntmps45
  have hz := z4_new w 65
  have hw := b_alloc (Below.refl w.heap.size w) (.cells #[.int .i64 0, .int .i64 0, .int .i64 0, .int .i64 0] 65)
  go_wp2_with fail
  refine (C.out _ hw).mono ?_; rintro e w1 ⟨rfl, hb⟩
  replace hz := z4_keep hb hz
  replace hw := b_next hw hb
  obtain ⟨⟨c0, c1⟩, c2, c3⟩ := n4_keep hw (HV.out 0 h0)
  rw [Nat.zero_mul, Nat.add_zero] at c0
  clear hb
  obtain ⟨⟨e0, e1⟩, e2, e3⟩ := n4_keep hw (HV.out (n - 1) (by omega))
  have u0 : (0 : Int) < (n : Int) := by omega
  have u1 : IntKind.i64.wrap ((n : Int) - 1) = ((n - 1 : Nat) : Int) := by rw [IntWalk.i64_in _ (by omega)]; omega
  have u2 : ((n - 1 : Nat) : Int) < (n : Int) := by omega
  have u3 : (n : Int) - 1 = ((n - 1 : Nat) : Int) := by omega
  go_wp2_with fail
  have c := c4_set (0) (0) (0) (0) hz.1
  refine bodyPost_ret (v := .tuple #[.agg #[.int .i64 (0), .int .i64 (0), .int .i64 (0), .int .i64 (0)], .int .i64 (12)]) (by simp [results, Tryd.results45, go_sem, c.1.1, c.1.2, c.2.1, c.2.2]) rfl ⟨rfl, b_set (b_set (b_set (b_set hw (Nat.le_refl _) _) (Nat.le_refl _) _) (Nat.le_refl _) _) (Nat.le_refl _) _⟩
set_option maxHeartbeats 600000 in
theorem At_ok (n cap b off : Nat) (T X Y H : Nat → Int) (t px py h : Int) (w : World) (h0 : 0 < n) (hn : n ≤ 64) (_hc : n ≤ cap) (HV : Hid (∀ k, k < n → N4 w b off k (T k) (X k) (Y k) (H k))) (C : Hid (CkC (.slice (some ⟨b, off, none⟩) n cap) 0 w)) (ht : ¬ t < T 0) (ht2 : ¬ T (n - 1) < t) (A : Hid (AtC (.slice (some ⟨b, off, none⟩) n cap) t px py h w)) :
    Calls Tryd.prog 45 #[.slice (some ⟨b, off, none⟩) n cap, .int .i64 t] w fun e w' => e = .returned (.tuple #[.agg #[.int .i64 t, .int .i64 px, .int .i64 py, .int .i64 h], .int .i64 0]) ∧ Below w.heap.size w w' := by
  go_enter Tryd.func45, Tryd.ntmps45
  have hz := z4_new w 65
  have hw := b_alloc (Below.refl w.heap.size w) (.cells #[.int .i64 0, .int .i64 0, .int .i64 0, .int .i64 0] 65)
  go_wp2_with fail
  refine (C.out _ hw).mono ?_; rintro e w1 ⟨rfl, hb⟩
  replace hz := z4_keep hb hz
  replace hw := b_next hw hb
  obtain ⟨⟨c0, c1⟩, c2, c3⟩ := n4_keep hw (HV.out 0 h0)
  rw [Nat.zero_mul, Nat.add_zero] at c0
  clear hb
  obtain ⟨⟨e0, e1⟩, e2, e3⟩ := n4_keep hw (HV.out (n - 1) (by omega))
  have u0 : (0 : Int) < (n : Int) := by omega
  have u1 : IntKind.i64.wrap ((n : Int) - 1) = ((n - 1 : Nat) : Int) := by rw [IntWalk.i64_in _ (by omega)]; omega
  have u2 : ((n - 1 : Nat) : Int) < (n : Int) := by omega
  have u3 : (n : Int) - 1 = ((n - 1 : Nat) : Int) := by omega
  go_wp2_with fail
  refine (A.out _ hw).mono ?_; rintro e w2 ⟨rfl, hb⟩
  replace hz := z4_keep hb hz
  replace hw := b_next hw hb
  clear hb
  go_wp2_with fail
  have c := c4_set (t) (px) (py) (h) hz.1
  refine bodyPost_ret (v := .tuple #[.agg #[.int .i64 (t), .int .i64 (px), .int .i64 (py), .int .i64 (h)], .int .i64 (0)]) (by simp [results, Tryd.results45, go_sem, c.1.1, c.1.2, c.2.1, c.2.2]) rfl ⟨rfl, b_set (b_set (b_set (b_set hw (Nat.le_refl _) _) (Nat.le_refl _) _) (Nat.le_refl _) _) (Nat.le_refl _) _⟩
end Path
end Go.Proofs.YtkapllakofndlaaDoor
namespace Go.Proofs.YtkapllakofndlaaDoor
open Go.RowKit
namespace Path
open Kit Plane
/-- fly.At's error. -/
def atE (T X Y H : Nat → Int) (n : Nat) (t : Int) : Int := if pchk T X Y H n ≠ 0 then pchk T X Y H n else if t < T 0 ∨ T (n - 1) < t then 12 else 0
/-- Node i is the last one that is not later than t. -/
def seg (T : Nat → Int) (n : Nat) (t : Int) (i : Nat) : Prop := i < n ∧ T i ≤ t ∧ (i + 1 < n → t < T (i + 1))
theorem seg_ex {T : Nat → Int} {t : Int} : ∀ {n : Nat}, 0 < n → T 0 ≤ t → ∃ i, seg T n t i := by
  intro n
  induction n with
  | zero => intro h; exact absurd h (by omega)
  | succ n ih =>
    intro _ h0
    rcases Nat.eq_zero_or_pos n with hn | hn
    · subst hn; exact ⟨0, by omega, h0, fun h => by omega⟩
    · by_cases hl : T n ≤ t
      · exact ⟨n, by omega, hl, fun h => by omega⟩
      · obtain ⟨i, h1, h2, h3⟩ := ih hn h0
        refine ⟨i, by omega, h2, fun h => ?_⟩
        rcases Nat.lt_or_ge (i + 1) n with h4 | h4
        · exact h3 h4
        · rw [show i + 1 = n from by omega]; omega
theorem atE_zero {T X Y H : Nat → Int} {n : Nat} {t : Int} (h : atE T X Y H n t = 0) : pok T X Y H n ∧ T 0 ≤ t ∧ t ≤ T (n - 1) ∧ ∃ i, seg T n t i := by
  unfold atE at h
  split at h
  · rename_i h1; exact absurd h h1
  · rename_i h1
    split at h
    · omega
    · have hp := (pchk_zero n).1 (Classical.not_not.1 h1)
      exact ⟨hp, by omega, by omega, seg_ex hp.1 (by omega)⟩
theorem pok_le {T X Y H : Nat → Int} {n : Nat} (h : pok T X Y H n) {i j : Nat} (hij : i ≤ j) (hj : j < n) : T i ≤ T j := by
  rcases Nat.lt_or_ge i j with hl | hl
  · have := pok_lt h hl hj; omega
  · rw [show i = j from by omega]; exact Int.le_refl _
/-- Position and height at t, from node i on. -/
def atx (T X : Nat → Int) (i : Nat) (t : Int) : Int := tw (X i) (X (i + 1)) (t - T i) (T (i + 1) - T i)
def ath (T H : Nat → Int) (i : Nat) (t : Int) : Int := H i + (H (i + 1) - H i) * (t - T i) / (T (i + 1) - T i)
theorem atx_at {T X : Nat → Int} {i : Nat} : atx T X i (T i) = X i := by unfold atx; rw [Int.sub_self, tw_zero]
theorem ath_at {T H : Nat → Int} {i : Nat} : ath T H i (T i) = H i := by unfold ath; rw [Int.sub_self, Int.mul_zero, Int.zero_ediv, Int.add_zero]
/-- What lies between is between. -/
theorem quo_bd {d n N : Int} (hN : 0 < N) (h0 : 0 ≤ n) (h1 : n ≤ N) : (0 ≤ d * n / N ∨ d ≤ d * n / N) ∧ (d * n / N ≤ 0 ∨ d * n / N ≤ d) := by
  have e := tw_bd (a := 0) (b := d) hN h0 h1
  unfold tw at e
  rw [Int.sub_zero, Int.zero_add] at e
  exact e
theorem atC_mk {v : Value} {n : Nat} {T X Y H : Nat → Int} {w : World} (hv : PV w v n T X Y H) {t : Int} {i : Nat} (hp : pok T X Y H n) (hs : seg T n t i) (hl : t ≤ T (n - 1)) :
    AtC v t (atx T X i t) (atx T Y i t) (ath T H i t) w := fun w1 hb => by
  rcases hv with ⟨h0, -⟩ | ⟨h0, b, off, cap, hv, h1, h2, h3⟩
  · have := hp.1; omega
  · subst hv
    have hm : cap ≤ 9223372036854775807 := Nat.le_trans h2 (by decide)
    have HV : Hid (∀ k, k < n → N4 w1 b off k (T k) (X k) (Y k) (H k)) := Lib.hid fun k hk => n4_keep hb (h3 k hk)
    have HU : Hid (∀ k, k ≤ i → T k ≤ t) := Lib.hid fun k hk => Int.le_trans (pok_le hp hk hs.1) hs.2.1
    by_cases he : T i = t
    · subst he
      rw [atx_at, atx_at, ath_at]
      exact at_exact n cap b off i (T i) T X Y H w1 hs.1 hp.2.1 h1 hm HV HU (Lib.hid hs.2.2) rfl
    · have hin : i + 1 < n := by
        rcases Nat.lt_or_ge (i + 1) n with h | h
        · exact h
        · have : i = n - 1 := by have := hs.1; omega
          subst this
          have := hs.2.1; omega
      have hlt := hs.2.2 hin
      have q0 := hp.2.2.1 i hs.1
      have q1 := hp.2.2.1 (i + 1) hin
      have hle := hs.2.1
      have hq := quo_bd (d := H (i + 1) - H i) (n := t - T i) (N := T (i + 1) - T i) (by omega) (by omega) (by omega)
      refine at_between n cap b off i t T X Y H w1 hs.1 hp.2.1 h1 hm HV HU (Lib.hid hs.2.2) _ _ _ (Lib.hid hin) (Lib.hid ⟨by omega, by omega, by omega, by omega⟩)
        (Lib.hid ⟨q0.2.2.2.1, q0.2.2.2.2, q1.2.2.2.1, q1.2.2.2.2, by omega, by omega⟩) (Lib.hid fun w => ?_) (Lib.hid ?_) (Lib.hid ?_)
      · exact toward_ok _ _ _ _ _ _ w (by omega) (by omega) (by omega) (by omega) q0.2.2.1 q1.2.2.1
      · have hm := mul_bd (x := H (i + 1) - H i) (y := t - T i) (M := 60000) (N := 200000) (by omega) (by omega)
        exact dv _ _ (by omega) (by omega)
      · have hm := mul_bd (x := H (i + 1) - H i) (y := t - T i) (M := 60000) (N := 200000) (by omega) (by omega)
        omega
theorem fly_At_ok {v : Value} {n : Nat} {T X Y H : Nat → Int} {w : World} (hv : PV w v n T X Y H) {t : Int} {i : Nat} (h : atE T X Y H n t = 0) (hs : seg T n t i) :
    Calls Tryd.prog 45 #[v, .int .i64 t] w fun e w' => e = .returned (.tuple #[.agg #[.int .i64 t, .int .i64 (atx T X i t), .int .i64 (atx T Y i t), .int .i64 (ath T H i t)], .int .i64 0]) ∧ Below w.heap.size w w' := by
  obtain ⟨hp, h0, h1, -⟩ := atE_zero h
  have A := atC_mk hv hp hs h1
  have C := checkC hv
  rw [(pchk_zero n).2 hp] at C
  rcases hv with ⟨h0, -⟩ | ⟨hn, b, off, cap, hv, h1', h2, h3⟩
  · have := hp.1; omega
  · subst hv
    exact At_ok n cap b off T X Y H t _ _ _ w hp.1 hp.2.1 h1' (Lib.hid h3) (Lib.hid C) (by omega) (by omega) (Lib.hid A)
theorem fly_At_bad {v : Value} {n : Nat} {T X Y H : Nat → Int} {w : World} (hv : PV w v n T X Y H) {t : Int} (h : atE T X Y H n t ≠ 0) :
    Calls Tryd.prog 45 #[v, .int .i64 t] w fun e w' => e = .returned (.tuple #[.agg #[.int .i64 0, .int .i64 0, .int .i64 0, .int .i64 0], .int .i64 (atE T X Y H n t)]) ∧ Below w.heap.size w w' := by
  have C := checkC hv
  unfold atE at h ⊢
  by_cases hE : pchk T X Y H n ≠ 0
  · rw [if_pos hE]
    exact At_bad v t _ w (Lib.hid C) (by simpa using hE) (by simpa using hE)
  · rw [if_neg hE] at h ⊢
    by_cases ht : t < T 0 ∨ T (n - 1) < t
    · rw [if_pos ht]
      have hE := Classical.not_not.1 hE
      have hp := (pchk_zero n).1 hE
      rw [hE] at C
      rcases hv with ⟨h0, -⟩ | ⟨hn, b, off, cap, hv, h1', h2, h3⟩
      · have := hp.1; omega
      · subst hv
        by_cases hc : t < T 0
        · exact At_early n cap b off T X Y H t w hp.1 hp.2.1 h1' (Lib.hid h3) (Lib.hid C) hc
        · exact At_late n cap b off T X Y H t w hp.1 hp.2.1 h1' (Lib.hid h3) (Lib.hid C) hc (by omega)
    · rw [if_neg ht] at h; exact absurd rfl h
end Path
end Go.Proofs.YtkapllakofndlaaDoor
