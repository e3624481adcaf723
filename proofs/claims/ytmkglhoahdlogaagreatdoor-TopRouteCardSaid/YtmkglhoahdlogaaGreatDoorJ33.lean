/- Joined texts: TubeP, TubeC, TubeS. -/
import Derived.Test.YtmkglhoahdlogaaGreatDoorJ03
import Derived.Test.YtmkglhoahdlogaaGreatDoorJ01
import Derived.Test.YtmkglhoahdlogaaGreatDoorJ07
namespace Go.Proofs.YtmkglhoahdlogaaGreatDoor
open Go.RowKit
namespace Tube
open Kit Plane
section
variable (T X Y H R B : Nat → Int)
/-- What tube.Check says of node i. -/
def terr (i : Nat) : Int := if T i < 0 ∨ 200000 < T i ∨ (0 < i ∧ T i ≤ T (i - 1)) then 12 else if ¬ good (X i) (Y i) then 4 else if H i < 0 ∨ 60000 < H i ∨ R i < 0 ∨ 1000000 < R i ∨ B i < 0 ∨ 60000 < B i then 4 else 0
def tchk : Nat → Int
  | 0 => 0
  | k + 1 => if tchk k ≠ 0 then tchk k else terr T X Y H R B k
/-- tube.Check's error. -/
def tck (n : Nat) : Int := if 64 < n then 2 else if n = 0 then 3 else tchk T X Y H R B n
/-- A tube that Check accepts. -/
structure tok (n : Nat) : Prop where
  pos : 0 < n
  small : n ≤ 64
  time : ∀ k, k < n → 0 ≤ T k ∧ T k ≤ 200000
  point : ∀ k, k < n → good (X k) (Y k)
  nums : ∀ k, k < n → (0 ≤ H k ∧ H k ≤ 60000) ∧ (0 ≤ R k ∧ R k ≤ 1000000) ∧ (0 ≤ B k ∧ B k ≤ 60000)
  rise : ∀ k, k + 1 < n → T k < T (k + 1)
variable {T X Y H R B}
theorem terr_ok {i : Nat} : terr T X Y H R B i = 0 ↔ (0 ≤ T i ∧ T i ≤ 200000 ∧ (0 < i → T (i - 1) < T i)) ∧ good (X i) (Y i) ∧ (0 ≤ H i ∧ H i ≤ 60000) ∧ (0 ≤ R i ∧ R i ≤ 1000000) ∧ (0 ≤ B i ∧ B i ≤ 60000) := by
  unfold terr
  constructor
  · intro h
    split at h
    · omega
    · rename_i h1
      split at h
      · omega
      · rename_i h2
        split at h
        · omega
        · rename_i h3
          refine ⟨⟨by omega, by omega, fun h => by omega⟩, Classical.not_not.1 h2, by omega, by omega, by omega⟩
  · rintro ⟨⟨a, b, c⟩, d, e, f, g⟩
    have hn : ¬ (T i < 0 ∨ 200000 < T i ∨ (0 < i ∧ T i ≤ T (i - 1))) := by
      intro h
      rcases h with h | h | ⟨h, h'⟩
      · omega
      · omega
      · have := c h; omega
    rw [if_neg hn, if_neg (fun h => h d), if_neg (by omega)]
theorem tchk_step {k : Nat} (h : tchk T X Y H R B k = 0) : tchk T X Y H R B (k + 1) = terr T X Y H R B k := by
  show (if tchk T X Y H R B k ≠ 0 then _ else _) = _
  rw [if_neg (fun e => e h)]
theorem tchk_stays {k : Nat} (h : tchk T X Y H R B k ≠ 0) : ∀ m, k ≤ m → tchk T X Y H R B m = tchk T X Y H R B k := by
  intro m
  induction m with
  | zero => intro hk; rw [show k = 0 from by omega]
  | succ m ih =>
    intro hk
    rcases Nat.lt_or_ge m k with hl | hl
    · rw [show m + 1 = k from by omega]
    · have e := ih hl
      show (if tchk T X Y H R B m ≠ 0 then _ else _) = _
      rw [if_pos (by rw [e]; exact h), e]
theorem tchk_zero : ∀ n, tchk T X Y H R B n = 0 ↔ ∀ k, k < n → terr T X Y H R B k = 0 := by
  intro n
  induction n with
  | zero => exact ⟨fun _ k hk => absurd hk (Nat.not_lt_zero _), fun _ => rfl⟩
  | succ n ih =>
    constructor
    · intro h
      have h0 : tchk T X Y H R B n = 0 := by
        by_cases h0 : tchk T X Y H R B n = 0
        · exact h0
        · rw [tchk_stays h0 (n + 1) (by omega)] at h; exact absurd h h0
      intro k hk
      rcases Nat.lt_or_ge k n with hl | hl
      · exact ih.1 h0 k hl
      · rw [show k = n from by omega, ← tchk_step h0]; exact h
    · intro h
      have h0 := ih.2 fun k hk => h k (by omega)
      rw [tchk_step h0]; exact h n (by omega)
theorem tck_zero (n : Nat) : tck T X Y H R B n = 0 ↔ tok T X Y H R B n := by
  unfold tck
  by_cases h1 : 64 < n
  · rw [if_pos h1]; exact ⟨fun h => by omega, fun h => by have := h.small; omega⟩
  · rw [if_neg h1]
    by_cases h2 : n = 0
    · rw [if_pos h2]; exact ⟨fun h => by omega, fun h => by have := h.pos; omega⟩
    · rw [if_neg h2, tchk_zero]
      constructor
      · intro h
        refine ⟨by omega, by omega, fun k hk => ?_, fun k hk => ?_, fun k hk => ?_, fun k hk => ?_⟩
        · have := terr_ok.1 (h k hk); exact ⟨this.1.1, this.1.2.1⟩
        · exact (terr_ok.1 (h k hk)).2.1
        · exact (terr_ok.1 (h k hk)).2.2
        · have := (terr_ok.1 (h (k + 1) hk)).1.2.2 (by omega); rw [show k + 1 - 1 = k from by omega] at this; exact this
      · intro h k hk
        refine terr_ok.2 ⟨⟨(h.time k hk).1, (h.time k hk).2, fun hp => ?_⟩, h.point k hk, h.nums k hk⟩
        have := h.rise (k - 1) (by omega); rw [show k - 1 + 1 = k from by omega] at this; exact this
theorem tstop {k n : Nat} {E : Int} (h0 : tchk T X Y H R B k = 0) (hk : k < n) (e : terr T X Y H R B k = E) (hE : E ≠ 0) : tchk T X Y H R B n = E := by
  have h1 := tchk_step h0
  rw [e] at h1
  rw [tchk_stays (by rw [h1]; exact hE) n (by omega), h1]
theorem terr_time {k : Nat} (h : T k < 0 ∨ 200000 < T k ∨ (0 < k ∧ T k ≤ T (k - 1))) : terr T X Y H R B k = 12 := if_pos h
theorem terr_point {k : Nat} (h : ¬ (T k < 0 ∨ 200000 < T k ∨ (0 < k ∧ T k ≤ T (k - 1)))) (g : ¬ good (X k) (Y k)) : terr T X Y H R B k = 4 := by unfold terr; rw [if_neg h, if_pos g]
theorem terr_nums {k : Nat} (h : ¬ (T k < 0 ∨ 200000 < T k ∨ (0 < k ∧ T k ≤ T (k - 1)))) (g : good (X k) (Y k)) (h' : H k < 0 ∨ 60000 < H k ∨ R k < 0 ∨ 1000000 < R k ∨ B k < 0 ∨ 60000 < B k) : terr T X Y H R B k = 4 := by unfold terr; rw [if_neg h, if_neg (fun e => e g), if_pos h']
theorem terr_none {k : Nat} (h : ¬ (T k < 0 ∨ 200000 < T k ∨ (0 < k ∧ T k ≤ T (k - 1)))) (g : good (X k) (Y k)) (h' : ¬ (H k < 0 ∨ 60000 < H k ∨ R k < 0 ∨ 1000000 < R k ∨ B k < 0 ∨ 60000 < B k)) : terr T X Y H R B k = 0 := by unfold terr; rw [if_neg h, if_neg (fun e => e g), if_neg h']
theorem tok_lt {n : Nat} (h : tok T X Y H R B n) : ∀ {i j : Nat}, i < j → j < n → T i < T j := by
  intro i j hij hj
  induction j with
  | zero => omega
  | succ j ih =>
    have := h.rise j hj
    rcases Nat.lt_or_ge i j with hl | hl
    · have := ih hl (by omega); omega
    · rw [show i = j from by omega]; exact this
theorem tok_le {n : Nat} (h : tok T X Y H R B n) {i j : Nat} (hij : i ≤ j) (hj : j < n) : T i ≤ T j := by
  rcases Nat.lt_or_ge i j with hl | hl
  · have := tok_lt h hl hj; omega
  · rw [show i = j from by omega]; exact Int.le_refl _
end
/-- Six cells from an address on. -/
abbrev S6 (w : World) (b o : Nat) (t x y h r d : Int) : Prop := (w.cell? ⟨b, o, none⟩ = some (.int .i64 t) ∧ w.cell? ⟨b, o + 1, none⟩ = some (.int .i64 x) ∧ w.cell? ⟨b, o + 2, none⟩ = some (.int .i64 y)) ∧ (w.cell? ⟨b, o + 3, none⟩ = some (.int .i64 h) ∧ w.cell? ⟨b, o + 4, none⟩ = some (.int .i64 r) ∧ w.cell? ⟨b, o + 5, none⟩ = some (.int .i64 d))
theorem s6_keep {W w1 : World} (hb : Below W.heap.size W w1) {b o : Nat} {t x y h r d : Int} (hn : S6 W b o t x y h r d) : S6 w1 b o t x y h r d := ⟨⟨keep hb hn.1.1, keep hb hn.1.2.1, keep hb hn.1.2.2⟩, ⟨keep hb hn.2.1, keep hb hn.2.2.1, keep hb hn.2.2.2⟩⟩
/-- A node in a block of its own. -/
abbrev D6 (w : World) (b : Nat) (t x y h r d : Int) : Prop := (w.cell? ⟨b, 0, none⟩ = some (.int .i64 t) ∧ w.cell? ⟨b, 1, none⟩ = some (.int .i64 x) ∧ w.cell? ⟨b, 2, none⟩ = some (.int .i64 y)) ∧ (w.cell? ⟨b, 3, none⟩ = some (.int .i64 h) ∧ w.cell? ⟨b, 4, none⟩ = some (.int .i64 r) ∧ w.cell? ⟨b, 5, none⟩ = some (.int .i64 d))
theorem d6_keep {W w1 : World} (hb : Below W.heap.size W w1) {b : Nat} {t x y h r d : Int} (hn : D6 W b t x y h r d) : D6 w1 b t x y h r d := ⟨⟨keep hb hn.1.1, keep hb hn.1.2.1, keep hb hn.1.2.2⟩, ⟨keep hb hn.2.1, keep hb hn.2.2.1, keep hb hn.2.2.2⟩⟩
theorem d6_new (w : World) (ty : TypeId) (t x y h r d : Int) : D6 (w.alloc (.cells #[.int .i64 t, .int .i64 x, .int .i64 y, .int .i64 h, .int .i64 r, .int .i64 d] ty)) w.heap.size t x y h r d := ⟨⟨by simp, by simp, by simp⟩, ⟨by simp, by simp, by simp⟩⟩
/-- A tube in memory: nil, empty, or n nodes from an address on. -/
def TV (w : World) (v : Value) (n : Nat) (T X Y H R B : Nat → Int) : Prop :=
  (n = 0 ∧ (v = .slice none 0 0 ∨ ∃ a cap, v = .slice (some a) 0 cap ∧ cap ≤ maxLen)) ∨ (0 < n ∧ ∃ b off cap, v = .slice (some ⟨b, off, none⟩) n cap ∧ n ≤ cap ∧ cap ≤ maxLen ∧ ∀ k, k < n → S6 w b (off + k * 6) (T k) (X k) (Y k) (H k) (R k) (B k))
theorem tv_keep {W w1 : World} (hb : Below W.heap.size W w1) {v : Value} {n : Nat} {T X Y H R B : Nat → Int} (h : TV W v n T X Y H R B) : TV w1 v n T X Y H R B := by
  rcases h with h | ⟨h0, b, off, cap, hv, h1, h2, h3⟩
  · exact Or.inl h
  · exact Or.inr ⟨h0, b, off, cap, hv, h1, h2, fun k hk => s6_keep hb (h3 k hk)⟩
theorem tv_slice {w : World} {v : Value} {n : Nat} {T X Y H R B : Nat → Int} (h : TV w v n T X Y H R B) : ∃ A cap, v = .slice A n cap ∧ n ≤ cap ∧ cap ≤ maxLen := by
  rcases h with ⟨h0, rfl | ⟨a, cap, rfl, hc⟩⟩ | ⟨h0, b, off, cap, rfl, h1, h2, h3⟩
  · exact ⟨none, 0, by rw [h0], by omega, by decide⟩
  · exact ⟨some a, cap, by rw [h0], by omega, hc⟩
  · exact ⟨_, cap, rfl, h1, h2⟩
theorem tv_of {W : World} {v : Value} (h : Frame.Okc W (.sl [.int, .int, .int, .int, .int, .int]) v) : ∃ n T X Y H R B, TV W v n T X Y H R B := by
  rcases h.sl_inv with rfl | ⟨a, cap, rfl, hc⟩ | ⟨b, off, len, cap, cells, rfl, h0, h1, h2, hc, ho⟩
  · exact ⟨0, fun _ => 0, fun _ => 0, fun _ => 0, fun _ => 0, fun _ => 0, fun _ => 0, Or.inl ⟨rfl, Or.inl rfl⟩⟩
  · exact ⟨0, fun _ => 0, fun _ => 0, fun _ => 0, fun _ => 0, fun _ => 0, fun _ => 0, Or.inl ⟨rfl, Or.inr ⟨a, cap, rfl, hc⟩⟩⟩
  · have z : ∀ i, i < len → ∀ j (hj : j < 6), ∃ n : Int, cells i j = .int .i64 n := fun i hi j hj => by
      have hk := ho i hi j hj
      have hj' : j = 0 ∨ j = 1 ∨ j = 2 ∨ j = 3 ∨ j = 4 ∨ j = 5 := by omega
      rcases hj' with rfl | rfl | rfl | rfl | rfl | rfl <;> (obtain ⟨n, e, _⟩ := hk.int_inv; exact ⟨n, e⟩)
    let g : Nat → Nat → Int := fun i j => match cells i j with | .int _ n => n | _ => 0
    have hg : ∀ i, i < len → ∀ j, j < 6 → W.cell? ⟨b, off + i * 6 + j, none⟩ = some (.int .i64 (g i j)) := fun i hi j hj => by
      obtain ⟨n, e⟩ := z i hi j hj
      have hcc := hc i hi j hj
      show W.cell? _ = some (.int .i64 (match cells i j with | .int _ n => n | _ => 0))
      rw [e] at hcc ⊢
      exact hcc
    exact ⟨len, fun i => g i 0, fun i => g i 1, fun i => g i 2, fun i => g i 3, fun i => g i 4, fun i => g i 5, Or.inr ⟨h0, b, off, cap, rfl, h1, h2, fun k hk => ⟨⟨hg k hk 0 (by decide), hg k hk 1 (by decide), hg k hk 2 (by decide)⟩, ⟨hg k hk 3 (by decide), hg k hk 4 (by decide), hg k hk 5 (by decide)⟩⟩⟩⟩
end Tube
end Go.Proofs.YtmkglhoahdlogaaGreatDoor
namespace Go.Proofs.YtmkglhoahdlogaaGreatDoor
open Go.RowKit
namespace Tube
open Kit Plane
set_option maxHeartbeats 600000 in
theorem check_big (A : Option Addr) (n cap : Nat) (w : World) (hn : 64 < n) (_hc : n ≤ cap) (_hm : cap ≤ 9223372036854775807) : Calls Tryz.prog 32 #[.slice A n cap] w fun e w' => e = .returned (.int .i64 2) ∧ w = w' := by
  go_enter Tryz.func32, Tryz.ntmps32
  go_wp2
  go_ret
  exact ⟨rfl, rfl⟩
set_option maxHeartbeats 600000 in
theorem check_none (A : Option Addr) (cap : Nat) (w : World) : Calls Tryz.prog 32 #[.slice A 0 cap] w fun e w' => e = .returned (.int .i64 3) ∧ w = w' := by
  go_enter Tryz.func32, Tryz.ntmps32
  go_wp2
  go_ret
  exact ⟨rfl, rfl⟩
set_option maxRecDepth 100000 in
set_option maxHeartbeats 4000000 in
theorem check_nodes (n cap b off : Nat) (T X Y H R B : Nat → Int) (w : World) (h0 : 0 < n) (hn : n ≤ 64) (hc : n ≤ cap) (hm : cap ≤ 9223372036854775807) (HV : Hid (∀ k, k < n → S6 w b (off + k * 6) (T k) (X k) (Y k) (H k) (R k) (B k))) :
    Calls Tryz.prog 32 #[.slice (some ⟨b, off, none⟩) n cap] w fun e w' => e = .returned (.int .i64 (tchk T X Y H R B n)) ∧ Below w.heap.size w w' := by
  go_enter Tryz.func32, Tryz.ntmps32
  have hz : ((n : Int) == 0) = false := by simp; omega
  go_wp2
  go_loopw [16] (fun i wr => ∃ k : Nat, k ≤ n ∧ tchk T X Y H R B k = 0 ∧ i = .int .i64 k ∧ Below w.heap.size w wr) (fun i _ => n - (intOf i).toNat)
  case atStart => exact ⟨0, Nat.zero_le _, rfl, rfl, Below.refl _ _⟩
  case round =>
    obtain ⟨k, hk, hg, rfl, hbl⟩ := hrel
    have HG := Lib.hid hg; clear hg
    by_cases hlt : k < n
    · obtain ⟨⟨c0, c1, c2⟩, c3, c4, c5⟩ := s6_keep hbl (HV.out k hlt)
      have hl0 : (k : Int) < (n : Int) := by omega
      by_cases hk0 : 0 < (k : Int)
      · have hpv := s6_keep hbl (HV.out (k - 1) (by omega))
        have hwk : IntKind.i64.wrap ((k : Int) - 1) = ((k - 1 : Nat) : Int) := by rw [IntWalk.i64_in _ (by omega)]; omega
        have hwl : ((k - 1 : Nat) : Int) < (n : Int) := by omega
        by_cases a1 : T k < 0
        · have d1 := decide_eq_true a1
          have HF := Lib.hid (tstop (n := n) HG.out hlt (terr_time (Or.inl a1)) (by omega))
          have hn6 := d6_new wr 57 (T k) (X k) (Y k) (H k) (R k) (B k)
          have hp6 := s6_keep (b_alloc (Below.refl _ wr) (.cells #[.int .i64 (T k), .int .i64 (X k), .int .i64 (Y k), .int .i64 (H k), .int .i64 (R k), .int .i64 (B k)] 57)) hpv
          have HN6 := Lib.hid hn6; clear hn6
          have HP6 := Lib.hid hp6; clear hp6
          go_wp2_with fail
          have hn6 := HN6.out; have hp6 := HP6.out
          refine d_region (by kernel_rfl) (by kernel_rfl) ?_
          repeat
            first
              | (refine d_plain (by with_reducible rfl) ?_; apply Exists.intro; refine ⟨fun wq hc hq => ?_, ?_⟩)
              | (refine d_on (by with_reducible rfl) (by rfl) (by with_reducible rfl) ?_; apply Exists.intro; refine ⟨fun wq hc hq => ?_, ?_⟩)
              | (refine d_off (by with_reducible rfl) (by rfl) (by rfl) ?_)
              | (refine d_void (by with_reducible rfl) (by rfl) ?_)
            try any_goals
              (have q0 := d6_keep (cls hq) hn6; have q1 := s6_keep (cls hq) hp6; clear hc
               go_simp
               first
                 | rfl)
            simp only [Act.put, List.setIfInBounds_toArray, List.set_cons_zero, List.set_cons_succ]
          refine d_nil ?_
          intro w1 hb1
          go_wp2_with fail
          go_ret
          exact ⟨ret1 (HF.out).symm, b_next (b_alloc hbl _) hb1⟩
        · have d1 := decide_eq_false a1
          by_cases a2 : 200000 < T k
          · have d2 := decide_eq_true a2
            have HF := Lib.hid (tstop (n := n) HG.out hlt (terr_time (Or.inr (Or.inl a2))) (by omega))
            have hn6 := d6_new wr 57 (T k) (X k) (Y k) (H k) (R k) (B k)
            have hp6 := s6_keep (b_alloc (Below.refl _ wr) (.cells #[.int .i64 (T k), .int .i64 (X k), .int .i64 (Y k), .int .i64 (H k), .int .i64 (R k), .int .i64 (B k)] 57)) hpv
            have HN6 := Lib.hid hn6; clear hn6
            have HP6 := Lib.hid hp6; clear hp6
            go_wp2_with fail
            have hn6 := HN6.out; have hp6 := HP6.out
            refine d_region (by kernel_rfl) (by kernel_rfl) ?_
            repeat
              first
                | (refine d_plain (by with_reducible rfl) ?_; apply Exists.intro; refine ⟨fun wq hc hq => ?_, ?_⟩)
                | (refine d_on (by with_reducible rfl) (by rfl) (by with_reducible rfl) ?_; apply Exists.intro; refine ⟨fun wq hc hq => ?_, ?_⟩)
                | (refine d_off (by with_reducible rfl) (by rfl) (by rfl) ?_)
                | (refine d_void (by with_reducible rfl) (by rfl) ?_)
              try any_goals
                (have q0 := d6_keep (cls hq) hn6; have q1 := s6_keep (cls hq) hp6; clear hc
                 go_simp
                 first
                   | rfl)
              simp only [Act.put, List.setIfInBounds_toArray, List.set_cons_zero, List.set_cons_succ]
            refine d_nil ?_
            intro w1 hb1
            go_wp2_with fail
            go_ret
            exact ⟨ret1 (HF.out).symm, b_next (b_alloc hbl _) hb1⟩
          · have d2 := decide_eq_false a2
            have d0 := decide_eq_true hk0; have d0n : decide (0 < k) = true := decide_eq_true (by omega)
            by_cases a3 : T k ≤ T (k - 1)
            · have d3 := decide_eq_true a3
              have HF := Lib.hid (tstop (n := n) HG.out hlt (terr_time (Or.inr (Or.inr ⟨by omega, a3⟩))) (by omega))
              have hn6 := d6_new wr 57 (T k) (X k) (Y k) (H k) (R k) (B k)
              have hp6 := s6_keep (b_alloc (Below.refl _ wr) (.cells #[.int .i64 (T k), .int .i64 (X k), .int .i64 (Y k), .int .i64 (H k), .int .i64 (R k), .int .i64 (B k)] 57)) hpv
              have HN6 := Lib.hid hn6; clear hn6
              have HP6 := Lib.hid hp6; clear hp6
              go_wp2_with fail
              have hn6 := HN6.out; have hp6 := HP6.out
              refine d_region (by kernel_rfl) (by kernel_rfl) ?_
              repeat
                first
                  | (refine d_plain (by with_reducible rfl) ?_; apply Exists.intro; refine ⟨fun wq hc hq => ?_, ?_⟩)
                  | (refine d_on (by with_reducible rfl) (by rfl) (by with_reducible rfl) ?_; apply Exists.intro; refine ⟨fun wq hc hq => ?_, ?_⟩)
                  | (refine d_off (by with_reducible rfl) (by rfl) (by rfl) ?_)
                  | (refine d_void (by with_reducible rfl) (by rfl) ?_)
                try any_goals
                  (have q0 := d6_keep (cls hq) hn6; have q1 := s6_keep (cls hq) hp6; clear hc
                   go_simp
                   first
                     | rfl)
                simp only [Act.put, List.setIfInBounds_toArray, List.set_cons_zero, List.set_cons_succ]
              refine d_nil ?_
              intro w1 hb1
              go_wp2_with fail
              go_ret
              exact ⟨ret1 (HF.out).symm, b_next (b_alloc hbl _) hb1⟩
            · have d3 := decide_eq_false a3
              have hn6 := d6_new wr 57 (T k) (X k) (Y k) (H k) (R k) (B k)
              have hp6 := s6_keep (b_alloc (Below.refl _ wr) (.cells #[.int .i64 (T k), .int .i64 (X k), .int .i64 (Y k), .int .i64 (H k), .int .i64 (R k), .int .i64 (B k)] 57)) hpv
              have HN6 := Lib.hid hn6; clear hn6
              have HP6 := Lib.hid hp6; clear hp6
              cases hg : goodB (X k) (Y k) with
              | false =>
                have gb : ¬ good (X k) (Y k) := fun e => by rw [goodB_iff.2 e] at hg; cases hg
                have HF := Lib.hid (tstop (n := n) HG.out hlt (terr_point (by intro h; rcases h with h | h | ⟨h, h'⟩ <;> omega) gb) (by omega))
                have C : Hid (Chk (X k) (Y k) 4) := fun w => by have c := check (X k) (Y k) w; rw [chk_bad gb] at c; exact c
                clear gb hg
                go_wp2_with fail
                have hn6 := HN6.out; have hp6 := HP6.out
                refine d_region (by kernel_rfl) (by kernel_rfl) ?_
                repeat
                  first
                    | (refine d_plain (by with_reducible rfl) ?_; apply Exists.intro; refine ⟨fun wq hc hq => ?_, ?_⟩)
                    | (refine d_on (by with_reducible rfl) (by rfl) (by with_reducible rfl) ?_; apply Exists.intro; refine ⟨fun wq hc hq => ?_, ?_⟩)
                    | (refine d_off (by with_reducible rfl) (by rfl) (by rfl) ?_)
                    | (refine d_void (by with_reducible rfl) (by rfl) ?_)
                  try any_goals
                    (have q0 := d6_keep (cls hq) hn6; have q1 := s6_keep (cls hq) hp6; clear hc
                     go_simp
                     first
                       | rfl)
                  simp only [Act.put, List.setIfInBounds_toArray, List.set_cons_zero, List.set_cons_succ]
                refine d_nil ?_
                intro w1 hb1
                replace hn6 := d6_keep hb1 hn6
                go_wp2_with fail
                refine (C.out _).mono ?_; rintro e w2 ⟨rfl, hb2⟩
                replace hn6 := d6_keep hb2 hn6
                go_wp2_with fail
                go_ret
                exact ⟨ret1 (HF.out).symm, b_next (b_next (b_alloc hbl _) hb1) hb2⟩
              | true =>
                have ga : good (X k) (Y k) := goodB_iff.1 hg
                have C : Hid (Chk (X k) (Y k) 0) := fun w => by have c := check (X k) (Y k) w; rw [chk_ok ga] at c; exact c
                have GA := Lib.hid ga
                clear hg ga
                by_cases b1 : H k < 0 ∨ 60000 < H k ∨ R k < 0 ∨ 1000000 < R k ∨ B k < 0 ∨ 60000 < B k
                · have HF := Lib.hid (tstop (n := n) HG.out hlt (terr_nums (by intro h; rcases h with h | h | ⟨h, h'⟩ <;> omega) GA.out b1) (by omega))
                  go_wp2_with fail
                  have hn6 := HN6.out; have hp6 := HP6.out
                  refine d_region (by kernel_rfl) (by kernel_rfl) ?_
                  repeat
                    first
                      | (refine d_plain (by with_reducible rfl) ?_; apply Exists.intro; refine ⟨fun wq hc hq => ?_, ?_⟩)
                      | (refine d_on (by with_reducible rfl) (by rfl) (by with_reducible rfl) ?_; apply Exists.intro; refine ⟨fun wq hc hq => ?_, ?_⟩)
                      | (refine d_off (by with_reducible rfl) (by rfl) (by rfl) ?_)
                      | (refine d_void (by with_reducible rfl) (by rfl) ?_)
                    try any_goals
                      (have q0 := d6_keep (cls hq) hn6; have q1 := s6_keep (cls hq) hp6; clear hc
                       go_simp
                       first
                         | rfl)
                    simp only [Act.put, List.setIfInBounds_toArray, List.set_cons_zero, List.set_cons_succ]
                  refine d_nil ?_
                  intro w1 hb1
                  replace hn6 := d6_keep hb1 hn6
                  go_wp2_with fail
                  refine (C.out _).mono ?_; rintro e w2 ⟨rfl, hb2⟩
                  replace hn6 := d6_keep hb2 hn6
                  go_wp2_with fail
                  all_goals first | (exfalso; omega) | (go_ret; exact ⟨ret1 (HF.out).symm, b_next (b_next (b_alloc hbl _) hb1) hb2⟩)
                · have HO := Lib.hid ((tchk_step HG.out).trans (terr_none (by intro h; rcases h with h | h | ⟨h, h'⟩ <;> omega) GA.out b1))
                  have v1 : 0 ≤ H k ∧ H k ≤ 60000 ∧ 0 ≤ R k ∧ R k ≤ 1000000 ∧ 0 ≤ B k ∧ B k ≤ 60000 := by omega
                  obtain ⟨v1, v2, v3, v4, v5, v6⟩ := v1
                  clear b1
                  go_wp2_with fail
                  have hn6 := HN6.out; have hp6 := HP6.out
                  refine d_region (by kernel_rfl) (by kernel_rfl) ?_
                  repeat
                    first
                      | (refine d_plain (by with_reducible rfl) ?_; apply Exists.intro; refine ⟨fun wq hc hq => ?_, ?_⟩)
                      | (refine d_on (by with_reducible rfl) (by rfl) (by with_reducible rfl) ?_; apply Exists.intro; refine ⟨fun wq hc hq => ?_, ?_⟩)
                      | (refine d_off (by with_reducible rfl) (by rfl) (by rfl) ?_)
                      | (refine d_void (by with_reducible rfl) (by rfl) ?_)
                    try any_goals
                      (have q0 := d6_keep (cls hq) hn6; have q1 := s6_keep (cls hq) hp6; clear hc
                       go_simp
                       first
                         | rfl)
                    simp only [Act.put, List.setIfInBounds_toArray, List.set_cons_zero, List.set_cons_succ]
                  refine d_nil ?_
                  intro w1 hb1
                  replace hn6 := d6_keep hb1 hn6
                  go_wp2_with fail
                  refine (C.out _).mono ?_; rintro e w2 ⟨rfl, hb2⟩
                  replace hn6 := d6_keep hb2 hn6
                  go_wp2_with fail
                  go_roundw
                  case rel => first | exact ⟨k + 1, by omega, HO.out, by go_num, b_next (b_next (b_alloc hbl _) hb1) hb2⟩ | ((repeat apply Exists.intro); exact ⟨⟨k + 1, by omega, HO.out, by go_num, b_next (b_next (b_alloc hbl _) hb1) hb2⟩, rfl⟩)
                  case measure => simp [intOf]; omega
      · by_cases a1 : T k < 0
        · have d1 := decide_eq_true a1
          have HF := Lib.hid (tstop (n := n) HG.out hlt (terr_time (Or.inl a1)) (by omega))
          have hn6 := d6_new wr 57 (T k) (X k) (Y k) (H k) (R k) (B k)
          have HN6 := Lib.hid hn6; clear hn6
          go_wp2_with fail
          have hn6 := HN6.out
          refine d_region (by kernel_rfl) (by kernel_rfl) ?_
          repeat
            first
              | (refine d_plain (by with_reducible rfl) ?_; apply Exists.intro; refine ⟨fun wq hc hq => ?_, ?_⟩)
              | (refine d_on (by with_reducible rfl) (by rfl) (by with_reducible rfl) ?_; apply Exists.intro; refine ⟨fun wq hc hq => ?_, ?_⟩)
              | (refine d_off (by with_reducible rfl) (by rfl) (by rfl) ?_)
              | (refine d_void (by with_reducible rfl) (by rfl) ?_)
            try any_goals
              (have q0 := d6_keep (cls hq) hn6; clear hc
               go_simp
               first
                 | rfl)
            simp only [Act.put, List.setIfInBounds_toArray, List.set_cons_zero, List.set_cons_succ]
          refine d_nil ?_
          intro w1 hb1
          go_wp2_with fail
          go_ret
          exact ⟨ret1 (HF.out).symm, b_next (b_alloc hbl _) hb1⟩
        · have d1 := decide_eq_false a1
          by_cases a2 : 200000 < T k
          · have d2 := decide_eq_true a2
            have HF := Lib.hid (tstop (n := n) HG.out hlt (terr_time (Or.inr (Or.inl a2))) (by omega))
            have hn6 := d6_new wr 57 (T k) (X k) (Y k) (H k) (R k) (B k)
            have HN6 := Lib.hid hn6; clear hn6
            go_wp2_with fail
            have hn6 := HN6.out
            refine d_region (by kernel_rfl) (by kernel_rfl) ?_
            repeat
              first
                | (refine d_plain (by with_reducible rfl) ?_; apply Exists.intro; refine ⟨fun wq hc hq => ?_, ?_⟩)
                | (refine d_on (by with_reducible rfl) (by rfl) (by with_reducible rfl) ?_; apply Exists.intro; refine ⟨fun wq hc hq => ?_, ?_⟩)
                | (refine d_off (by with_reducible rfl) (by rfl) (by rfl) ?_)
                | (refine d_void (by with_reducible rfl) (by rfl) ?_)
              try any_goals
                (have q0 := d6_keep (cls hq) hn6; clear hc
                 go_simp
                 first
                   | rfl)
              simp only [Act.put, List.setIfInBounds_toArray, List.set_cons_zero, List.set_cons_succ]
            refine d_nil ?_
            intro w1 hb1
            go_wp2_with fail
            go_ret
            exact ⟨ret1 (HF.out).symm, b_next (b_alloc hbl _) hb1⟩
          · have d2 := decide_eq_false a2
            have d0 := decide_eq_false hk0; have d0n : decide (0 < k) = false := decide_eq_false (by omega)
            have hn6 := d6_new wr 57 (T k) (X k) (Y k) (H k) (R k) (B k)
            have HN6 := Lib.hid hn6; clear hn6
            cases hg : goodB (X k) (Y k) with
            | false =>
              have gb : ¬ good (X k) (Y k) := fun e => by rw [goodB_iff.2 e] at hg; cases hg
              have HF := Lib.hid (tstop (n := n) HG.out hlt (terr_point (by intro h; rcases h with h | h | ⟨h, h'⟩ <;> omega) gb) (by omega))
              have C : Hid (Chk (X k) (Y k) 4) := fun w => by have c := check (X k) (Y k) w; rw [chk_bad gb] at c; exact c
              clear gb hg
              go_wp2_with fail
              have hn6 := HN6.out
              refine d_region (by kernel_rfl) (by kernel_rfl) ?_
              repeat
                first
                  | (refine d_plain (by with_reducible rfl) ?_; apply Exists.intro; refine ⟨fun wq hc hq => ?_, ?_⟩)
                  | (refine d_on (by with_reducible rfl) (by rfl) (by with_reducible rfl) ?_; apply Exists.intro; refine ⟨fun wq hc hq => ?_, ?_⟩)
                  | (refine d_off (by with_reducible rfl) (by rfl) (by rfl) ?_)
                  | (refine d_void (by with_reducible rfl) (by rfl) ?_)
                try any_goals
                  (have q0 := d6_keep (cls hq) hn6; clear hc
                   go_simp
                   first
                     | rfl)
                simp only [Act.put, List.setIfInBounds_toArray, List.set_cons_zero, List.set_cons_succ]
              refine d_nil ?_
              intro w1 hb1
              replace hn6 := d6_keep hb1 hn6
              go_wp2_with fail
              refine (C.out _).mono ?_; rintro e w2 ⟨rfl, hb2⟩
              replace hn6 := d6_keep hb2 hn6
              go_wp2_with fail
              go_ret
              exact ⟨ret1 (HF.out).symm, b_next (b_next (b_alloc hbl _) hb1) hb2⟩
            | true =>
              have ga : good (X k) (Y k) := goodB_iff.1 hg
              have C : Hid (Chk (X k) (Y k) 0) := fun w => by have c := check (X k) (Y k) w; rw [chk_ok ga] at c; exact c
              have GA := Lib.hid ga
              clear hg ga
              by_cases b1 : H k < 0 ∨ 60000 < H k ∨ R k < 0 ∨ 1000000 < R k ∨ B k < 0 ∨ 60000 < B k
              · have HF := Lib.hid (tstop (n := n) HG.out hlt (terr_nums (by intro h; rcases h with h | h | ⟨h, h'⟩ <;> omega) GA.out b1) (by omega))
                go_wp2_with fail
                have hn6 := HN6.out
                refine d_region (by kernel_rfl) (by kernel_rfl) ?_
                repeat
                  first
                    | (refine d_plain (by with_reducible rfl) ?_; apply Exists.intro; refine ⟨fun wq hc hq => ?_, ?_⟩)
                    | (refine d_on (by with_reducible rfl) (by rfl) (by with_reducible rfl) ?_; apply Exists.intro; refine ⟨fun wq hc hq => ?_, ?_⟩)
                    | (refine d_off (by with_reducible rfl) (by rfl) (by rfl) ?_)
                    | (refine d_void (by with_reducible rfl) (by rfl) ?_)
                  try any_goals
                    (have q0 := d6_keep (cls hq) hn6; clear hc
                     go_simp
                     first
                       | rfl)
                  simp only [Act.put, List.setIfInBounds_toArray, List.set_cons_zero, List.set_cons_succ]
                refine d_nil ?_
                intro w1 hb1
                replace hn6 := d6_keep hb1 hn6
                go_wp2_with fail
                refine (C.out _).mono ?_; rintro e w2 ⟨rfl, hb2⟩
                replace hn6 := d6_keep hb2 hn6
                go_wp2_with fail
                all_goals first | (exfalso; omega) | (go_ret; exact ⟨ret1 (HF.out).symm, b_next (b_next (b_alloc hbl _) hb1) hb2⟩)
              · have HO := Lib.hid ((tchk_step HG.out).trans (terr_none (by intro h; rcases h with h | h | ⟨h, h'⟩ <;> omega) GA.out b1))
                have v1 : 0 ≤ H k ∧ H k ≤ 60000 ∧ 0 ≤ R k ∧ R k ≤ 1000000 ∧ 0 ≤ B k ∧ B k ≤ 60000 := by omega
                obtain ⟨v1, v2, v3, v4, v5, v6⟩ := v1
                clear b1
                go_wp2_with fail
                have hn6 := HN6.out
                refine d_region (by kernel_rfl) (by kernel_rfl) ?_
                repeat
                  first
                    | (refine d_plain (by with_reducible rfl) ?_; apply Exists.intro; refine ⟨fun wq hc hq => ?_, ?_⟩)
                    | (refine d_on (by with_reducible rfl) (by rfl) (by with_reducible rfl) ?_; apply Exists.intro; refine ⟨fun wq hc hq => ?_, ?_⟩)
                    | (refine d_off (by with_reducible rfl) (by rfl) (by rfl) ?_)
                    | (refine d_void (by with_reducible rfl) (by rfl) ?_)
                  try any_goals
                    (have q0 := d6_keep (cls hq) hn6; clear hc
                     go_simp
                     first
                       | rfl)
                  simp only [Act.put, List.setIfInBounds_toArray, List.set_cons_zero, List.set_cons_succ]
                refine d_nil ?_
                intro w1 hb1
                replace hn6 := d6_keep hb1 hn6
                go_wp2_with fail
                refine (C.out _).mono ?_; rintro e w2 ⟨rfl, hb2⟩
                replace hn6 := d6_keep hb2 hn6
                go_wp2_with fail
                go_roundw
                case rel => first | exact ⟨k + 1, by omega, HO.out, by go_num, b_next (b_next (b_alloc hbl _) hb1) hb2⟩ | ((repeat apply Exists.intro); exact ⟨⟨k + 1, by omega, HO.out, by go_num, b_next (b_next (b_alloc hbl _) hb1) hb2⟩, rfl⟩)
                case measure => simp [intOf]; omega
    · have he : k = n := by omega
      have HE := Lib.hid he; clear he
      go_wp2_with fail
      go_ret
      exact ⟨ret1 (by rw [← HE.out, HG.out]), hbl⟩
abbrev CkC (v : Value) (E : Int) (w : World) : Prop := ∀ w1 : World, Below w.heap.size w w1 → Calls Tryz.prog 32 #[v] w1 fun e w' => e = .returned (.int .i64 E) ∧ Below w1.heap.size w1 w'
theorem checkC {v : Value} {n : Nat} {T X Y H R B : Nat → Int} {w : World} (hv : TV w v n T X Y H R B) : CkC v (tck T X Y H R B n) w := fun w1 hb => by
  obtain ⟨A, cap, e, hc, hm⟩ := tv_slice hv
  have hm' : cap ≤ 9223372036854775807 := Nat.le_trans hm (by decide)
  by_cases h64 : 64 < n
  · subst e
    have e : tck T X Y H R B n = 2 := if_pos h64
    rw [e]
    exact (check_big A n cap w1 h64 hc hm').mono fun e w' ⟨he, hw⟩ => ⟨he, hw ▸ Below.refl _ _⟩
  · by_cases h0 : n = 0
    · subst h0
      subst e
      have e : tck T X Y H R B 0 = 3 := rfl
      rw [e]
      exact (check_none A cap w1).mono fun e w' ⟨he, hw⟩ => ⟨he, hw ▸ Below.refl _ _⟩
    · have e1 : tck T X Y H R B n = tchk T X Y H R B n := by unfold tck; rw [if_neg h64, if_neg h0]
      rw [e1]
      rcases tv_keep hb hv with ⟨h0', -⟩ | ⟨h0', b, off, cap', rfl, h1, h2, h3⟩
      · omega
      · exact check_nodes n cap' b off T X Y H R B w1 h0' (by omega) h1 (Nat.le_trans h2 (by decide)) (Lib.hid h3)
end Tube
end Go.Proofs.YtmkglhoahdlogaaGreatDoor
namespace Go.Proofs.YtmkglhoahdlogaaGreatDoor
open Go.RowKit
namespace Tube
open Kit Plane
set_option maxHeartbeats 600000 in
theorem cmp (t x y h r d u : Int) (w : World) (ht : 0 ≤ t ∧ t ≤ 200000) (hu : -200000 ≤ u ∧ u ≤ 400000) :
    Calls Tryz.prog 65 #[.agg #[.int .i64 t, .int .i64 x, .int .i64 y, .int .i64 h, .int .i64 r, .int .i64 d], .int .i64 u] w fun e w' => e = .returned (.int .i64 (t - u)) ∧ Below w.heap.size w w' := by
  go_enter Tryz.func65, Tryz.ntmps65
  go_wp2_with fail
  go_ret
  exact ⟨ret1 rfl, b_alloc (Below.refl _ _) _⟩
set_option maxRecDepth 100000 in
set_option maxHeartbeats 2000000 in
theorem search_yes (n cap b off : Nat) (T X Y H R B : Nat → Int) (t : Int) (i : Nat) (w : World) (hi : i < n) (hn : n ≤ 64) (hc : n ≤ cap) (hm : cap ≤ 9223372036854775807) (HV : Hid (∀ k, k < n → S6 w b (off + k * 6) (T k) (X k) (Y k) (H k) (R k) (B k)))
    (HL : Hid (∀ k, k < i → T k < t)) (HR : Hid (∀ k, i ≤ k → k < n → t ≤ T k)) (HT : Hid (∀ k, k < n → 0 ≤ T k ∧ T k ≤ 200000)) (ht : -200000 ≤ t ∧ t ≤ 400000) (hf : T i = t) :
    Calls Tryz.prog 64 #[.slice (some ⟨b, off, none⟩) n cap, .int .i64 t, .func (.func 65) #[] #[]] w fun e w' => e = .returned (.tuple #[.int .i64 i, .bool true]) ∧ Below w.heap.size w w' := by
  have HFF := Lib.hid hf; clear hf
  go_enter Tryz.func64, Tryz.ntmps64
  go_wp2_with fail
  go_loopw [9, 10] (fun s u wr => ∃ lo hi : Nat, lo ≤ i ∧ i ≤ hi ∧ hi ≤ n ∧ s = .int .i64 lo ∧ u = .int .i64 hi ∧ Below w.heap.size w wr) (fun s u _ => (intOf u).toNat - (intOf s).toNat)
  case atStart => exact ⟨0, n, Nat.zero_le _, by omega, Nat.le_refl _, rfl, rfl, Below.refl _ _⟩
  case round =>
    obtain ⟨lo, hh, h1, h2, h3, rfl, rfl, hbl⟩ := hrel
    by_cases hlt : lo < hh
    · have hl : (lo : Int) < (hh : Int) := by omega
      obtain ⟨md, hmd⟩ : ∃ md, md = (lo + hh) / 2 := ⟨_, rfl⟩
      have hm1 : lo ≤ md ∧ md < hh := by omega
      obtain ⟨c0, c1⟩ := s6_keep hbl (HV.out md (by omega))
      have tb := HT.out md (by omega)
      have hmn : (md : Int) < (n : Int) := by omega
      have hmx : ((lo : Int) + (hh : Int)) / 2 = (md : Int) := by omega
      have HMD := Lib.hid hmd; clear hmd
      go_wp2_with fail
      refine (cmp _ _ _ _ _ _ _ _ tb ht).mono ?_; rintro e w1 ⟨rfl, h⟩
      have hb1 := b_next hbl h; clear h
      by_cases hcm : T md < t
      · have hmi : md < i := by
          rcases Nat.lt_or_ge md i with h | h
          · exact h
          · have := HR.out md h (by omega); omega
        have d1 : T md - t < 0 := by omega
        go_wp2_with fail
        go_roundw
        case rel => first | exact ⟨md + 1, hh, by omega, h2, h3, by go_num, rfl, hb1⟩ | ((repeat apply Exists.intro); exact ⟨⟨md + 1, hh, by omega, h2, h3, by go_num, rfl, hb1⟩, rfl⟩)
        case measure => simp [intOf]; omega
      · have hmi : i ≤ md := by
          rcases Nat.lt_or_ge md i with h | h
          · have := HL.out md h; omega
          · exact h
        have d1 : ¬ T md - t < 0 := by omega
        go_wp2_with fail
        go_roundw
        case rel => first | exact ⟨lo, md, h1, hmi, by omega, rfl, by go_num, hb1⟩ | ((repeat apply Exists.intro); exact ⟨⟨lo, md, h1, hmi, by omega, rfl, by go_num, hb1⟩, rfl⟩)
        case measure => simp [intOf]; omega
    · have e1 : lo = i := by omega
      subst e1
      obtain ⟨c0, c1⟩ := s6_keep hbl (HV.out lo hi)
      have tb := HT.out lo hi
      have hl : ¬ (lo : Int) < (hh : Int) := by omega
      have hln : (lo : Int) < (n : Int) := by omega
      go_wp2_with fail
      refine (cmp _ _ _ _ _ _ _ _ tb ht).mono ?_; rintro e w1 ⟨rfl, h⟩
      have hb1 := b_next hbl h; clear h
      have hf := HFF.out
      have hz : (T lo - t == 0) = true := by simp; omega
      go_wp2_with fail
      go_ret2
      exact ⟨by first | rfl | simp, hb1⟩
set_option maxRecDepth 100000 in
set_option maxHeartbeats 2000000 in
theorem search_no (n cap b off : Nat) (T X Y H R B : Nat → Int) (t : Int) (i : Nat) (w : World) (hi : i < n) (hn : n ≤ 64) (hc : n ≤ cap) (hm : cap ≤ 9223372036854775807) (HV : Hid (∀ k, k < n → S6 w b (off + k * 6) (T k) (X k) (Y k) (H k) (R k) (B k)))
    (HL : Hid (∀ k, k < i → T k < t)) (HR : Hid (∀ k, i ≤ k → k < n → t ≤ T k)) (HT : Hid (∀ k, k < n → 0 ≤ T k ∧ T k ≤ 200000)) (ht : -200000 ≤ t ∧ t ≤ 400000) (hf : ¬ T i = t) :
    Calls Tryz.prog 64 #[.slice (some ⟨b, off, none⟩) n cap, .int .i64 t, .func (.func 65) #[] #[]] w fun e w' => e = .returned (.tuple #[.int .i64 i, .bool false]) ∧ Below w.heap.size w w' := by
  have HFF := Lib.hid hf; clear hf
  go_enter Tryz.func64, Tryz.ntmps64
  go_wp2_with fail
  go_loopw [9, 10] (fun s u wr => ∃ lo hi : Nat, lo ≤ i ∧ i ≤ hi ∧ hi ≤ n ∧ s = .int .i64 lo ∧ u = .int .i64 hi ∧ Below w.heap.size w wr) (fun s u _ => (intOf u).toNat - (intOf s).toNat)
  case atStart => exact ⟨0, n, Nat.zero_le _, by omega, Nat.le_refl _, rfl, rfl, Below.refl _ _⟩
  case round =>
    obtain ⟨lo, hh, h1, h2, h3, rfl, rfl, hbl⟩ := hrel
    by_cases hlt : lo < hh
    · have hl : (lo : Int) < (hh : Int) := by omega
      obtain ⟨md, hmd⟩ : ∃ md, md = (lo + hh) / 2 := ⟨_, rfl⟩
      have hm1 : lo ≤ md ∧ md < hh := by omega
      obtain ⟨c0, c1⟩ := s6_keep hbl (HV.out md (by omega))
      have tb := HT.out md (by omega)
      have hmn : (md : Int) < (n : Int) := by omega
      have hmx : ((lo : Int) + (hh : Int)) / 2 = (md : Int) := by omega
      have HMD := Lib.hid hmd; clear hmd
      go_wp2_with fail
      refine (cmp _ _ _ _ _ _ _ _ tb ht).mono ?_; rintro e w1 ⟨rfl, h⟩
      have hb1 := b_next hbl h; clear h
      by_cases hcm : T md < t
      · have hmi : md < i := by
          rcases Nat.lt_or_ge md i with h | h
          · exact h
          · have := HR.out md h (by omega); omega
        have d1 : T md - t < 0 := by omega
        go_wp2_with fail
        go_roundw
        case rel => first | exact ⟨md + 1, hh, by omega, h2, h3, by go_num, rfl, hb1⟩ | ((repeat apply Exists.intro); exact ⟨⟨md + 1, hh, by omega, h2, h3, by go_num, rfl, hb1⟩, rfl⟩)
        case measure => simp [intOf]; omega
      · have hmi : i ≤ md := by
          rcases Nat.lt_or_ge md i with h | h
          · have := HL.out md h; omega
          · exact h
        have d1 : ¬ T md - t < 0 := by omega
        go_wp2_with fail
        go_roundw
        case rel => first | exact ⟨lo, md, h1, hmi, by omega, rfl, by go_num, hb1⟩ | ((repeat apply Exists.intro); exact ⟨⟨lo, md, h1, hmi, by omega, rfl, by go_num, hb1⟩, rfl⟩)
        case measure => simp [intOf]; omega
    · have e1 : lo = i := by omega
      subst e1
      obtain ⟨c0, c1⟩ := s6_keep hbl (HV.out lo hi)
      have tb := HT.out lo hi
      have hl : ¬ (lo : Int) < (hh : Int) := by omega
      have hln : (lo : Int) < (n : Int) := by omega
      go_wp2_with fail
      refine (cmp _ _ _ _ _ _ _ _ tb ht).mono ?_; rintro e w1 ⟨rfl, h⟩
      have hb1 := b_next hbl h; clear h
      have hf := HFF.out
      have hz : (T lo - t == 0) = false := by simp; omega
      go_wp2_with fail
      go_ret2
      exact ⟨by first | rfl | simp, hb1⟩
end Tube
end Go.Proofs.YtmkglhoahdlogaaGreatDoor
