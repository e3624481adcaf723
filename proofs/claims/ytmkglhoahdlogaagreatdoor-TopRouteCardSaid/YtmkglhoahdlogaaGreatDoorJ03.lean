/- Joined texts: Plane, Toward, PathP. -/
import Derived.Test.YtmkglhoahdlogaaGreatDoorJ02
import Derived.Test.YtmkglhoahdlogaaGreatDoorJ01
namespace Go.Proofs.YtmkglhoahdlogaaGreatDoor
open Go.RowKit
namespace Plane
open Kit
set_option maxHeartbeats 400000 in
theorem sub (ax ay bx by' : Int) (w : World) :
    Calls Tryz.prog 81 #[.agg #[.int .i64 ax, .int .i64 ay], .agg #[.int .i64 bx, .int .i64 by']] w fun e w' => e = .returned (.agg #[.int .i64 (wrap64 (ax - bx)), .int .i64 (wrap64 (ay - by'))]) ∧ Below w.heap.size w w' := by
  go_enter Tryz.func81, Tryz.ntmps81
  go_wp2
  exact bodyPost_ret (v := .agg #[.int .i64 (wrap64 (ax - bx)), .int .i64 (wrap64 (ay - by'))]) (by simp [results, Tryz.results81, go_sem]) rfl ⟨rfl, b_alloc (b_alloc (b_alloc (Below.refl _ _) _) _) _⟩
set_option maxHeartbeats 400000 in
theorem dot (ax ay bx by' : Int) (w : World) :
    Calls Tryz.prog 82 #[.agg #[.int .i64 ax, .int .i64 ay], .agg #[.int .i64 bx, .int .i64 by']] w fun e w' => e = .returned (.int .i64 (wrap64 (wrap64 (ax * bx) + wrap64 (ay * by')))) ∧ Below w.heap.size w w' := by
  go_enter Tryz.func82, Tryz.ntmps82
  go_wp2
  go_ret
  exact ⟨rfl, b_alloc (b_alloc (Below.refl _ _) _) _⟩
set_option maxHeartbeats 400000 in
theorem square_any (ax ay bx by' : Int) (w : World) :
    Calls Tryz.prog 49 #[.agg #[.int .i64 ax, .int .i64 ay], .agg #[.int .i64 bx, .int .i64 by']] w fun e w' => e = .returned (.int .i64 (wrap64 (wrap64 (wrap64 (ax - bx) * wrap64 (ax - bx)) + wrap64 (wrap64 (ay - by') * wrap64 (ay - by'))))) ∧ Below w.heap.size w w' := by
  go_enter Tryz.func49, Tryz.ntmps49
  go_wp2_with fail
  refine (sub ax ay bx by' _).mono ?_; rintro e w1 ⟨rfl, hb⟩
  go_wp2_with fail
  refine (dot _ _ _ _ _).mono ?_; rintro e w2 ⟨rfl, hb2⟩
  go_wp2_with fail
  go_ret
  exact ⟨rfl, b_next (b_alloc (b_next (b_alloc (b_alloc (Below.refl _ _) _) _) hb) _) hb2⟩
theorem square (ax ay bx by' : Int) (w : World) {M : Int} (hM : M = 1000000000) (h : (-M ≤ ax ∧ ax ≤ M) ∧ (-M ≤ ay ∧ ay ≤ M) ∧ (-M ≤ bx ∧ bx ≤ M) ∧ (-M ≤ by' ∧ by' ≤ M)) :
    Calls Tryz.prog 49 #[.agg #[.int .i64 ax, .int .i64 ay], .agg #[.int .i64 bx, .int .i64 by']] w fun e w' => e = .returned (.int .i64 (sqr ax ay bx by')) ∧ Below w.heap.size w w' := by
  have c := square_any ax ay bx by' w
  rw [(sqr_wrap hM h).1] at c
  exact c
set_option maxHeartbeats 1000000 in
theorem rootC (n : Int) (w : World) (hn : -9223372036854775808 ≤ n ∧ n ≤ 9223372036854775807) :
    Calls Tryz.prog 50 #[.int .i64 n] w fun e w' => e = .returned (.int .i64 (root n)) ∧ w = w' := by
  by_cases h0 : n ≤ 0
  · have hr : root n = 0 := by unfold root; rw [Int.toNat_of_nonpos h0]; rfl
    have HR := Lib.hid hr; clear hr
    go_enter Tryz.func50, Tryz.ntmps50
    go_wp2
    go_ret
    exact ⟨ret1 HR.out.symm, rfl⟩
  · go_enter Tryz.func50, Tryz.ntmps50
    go_wp2
    go_loop [3, 4] (fun l h => ∃ lo hi : Int, 0 ≤ lo ∧ lo ≤ hi ∧ hi ≤ 3037000499 ∧ lo * lo ≤ n ∧ n < (hi + 1) * (hi + 1) ∧ l = .int .i64 lo ∧ h = .int .i64 hi) (fun l h => (intOf h - intOf l).toNat)
    case atStart => exact ⟨0, 3037000499, by omega, by omega, by omega, by omega, by omega, rfl, rfl⟩
    case round =>
      obtain ⟨lo, hi, h1, h2, h3, h4, h5, rfl, rfl⟩ := hrel
      by_cases hlt : lo < hi
      · have hm : lo + 1 ≤ lo + (hi - lo + 1) / 2 ∧ lo + (hi - lo + 1) / 2 ≤ hi := by omega
        have hmm : (lo + (hi - lo + 1) / 2) * (lo + (hi - lo + 1) / 2) ≤ 9223372036854775807 ∧ 0 ≤ (lo + (hi - lo + 1) / 2) * (lo + (hi - lo + 1) / 2) := by
          have := sq_le_of (x := lo + (hi - lo + 1) / 2) (M := 3037000499) (by omega)
          have := sq_nonneg (lo + (hi - lo + 1) / 2)
          generalize (lo + (hi - lo + 1) / 2) * (lo + (hi - lo + 1) / 2) = t at *
          omega
        by_cases hc : (lo + (hi - lo + 1) / 2) * (lo + (hi - lo + 1) / 2) ≤ n
        · go_wp2
          go_round
          case rel => exact ⟨_, _, by omega, hm.2, h3, hc, h5, rfl, rfl⟩
          case measure => simp [intOf]; omega
        · go_wp2
          go_round
          case rel => exact ⟨_, _, h1, by omega, by omega, h4, by rw [show lo + (hi - lo + 1) / 2 - 1 + 1 = lo + (hi - lo + 1) / 2 from by omega]; omega, rfl, rfl⟩
          case measure => simp [intOf]; omega
      · have he : lo = hi := by omega
        have hr : root n = lo := root_unique h1 h4 (by rw [he]; exact h5)
        have HR := Lib.hid hr; clear hr he
        go_wp2
        go_ret
        exact ⟨ret1 HR.out.symm, rfl⟩
set_option maxHeartbeats 1000000 in
theorem distance (ax ay bx by' : Int) (w : World) {M : Int} (hM : M = 1000000000) (h : (-M ≤ ax ∧ ax ≤ M) ∧ (-M ≤ ay ∧ ay ≤ M) ∧ (-M ≤ bx ∧ bx ≤ M) ∧ (-M ≤ by' ∧ by' ≤ M)) :
    Calls Tryz.prog 26 #[.agg #[.int .i64 ax, .int .i64 ay], .agg #[.int .i64 bx, .int .i64 by']] w fun e w' => e = .returned (.tuple #[.int .i64 (root (sqr ax ay bx by')), .int .i64 (dup (sqr ax ay bx by'))]) ∧ Below w.heap.size w w' := by
  have hs := (sqr_wrap hM h).2
  have hs0 := sqr_nonneg ax ay bx by'
  have c := fun w => square ax ay bx by' w hM h
  generalize sqr ax ay bx by' = s at *
  obtain ⟨r0, r1, _⟩ := root_spec hs0
  have r2 := root_le (n := s) (by omega)
  have C := Lib.hid c
  clear c h hM
  by_cases hlt : root s * root s < s
  · have hd : dup s = root s + 1 := if_pos hlt
    have HD := Lib.hid hd; clear hd
    have r3 : root s * root s ≤ 8000000000000000000 ∧ 0 ≤ root s * root s := ⟨by omega, sq_nonneg _⟩
    go_enter Tryz.func26, Tryz.ntmps26
    go_wp2_with fail
    refine (C.out _).mono ?_; rintro e w1 ⟨rfl, hb⟩
    go_wp2_with fail
    refine (rootC s _ (by omega)).mono ?_; rintro e w2 ⟨rfl, rfl⟩
    go_wp2_with fail
    go_ret2
    exact ⟨ret2 rfl HD.out.symm, b_next (b_alloc (b_alloc (Below.refl _ _) _) _) hb⟩
  · have hd : dup s = root s := if_neg hlt
    have HD := Lib.hid hd; clear hd
    have r3 : root s * root s ≤ 8000000000000000000 ∧ 0 ≤ root s * root s := ⟨by omega, sq_nonneg _⟩
    go_enter Tryz.func26, Tryz.ntmps26
    go_wp2_with fail
    refine (C.out _).mono ?_; rintro e w1 ⟨rfl, hb⟩
    go_wp2_with fail
    refine (rootC s _ (by omega)).mono ?_; rintro e w2 ⟨rfl, rfl⟩
    go_wp2_with fail
    go_ret2
    exact ⟨ret2 rfl HD.out.symm, b_next (b_alloc (b_alloc (Below.refl _ _) _) _) hb⟩
end Plane
end Go.Proofs.YtmkglhoahdlogaaGreatDoor
namespace Go.Proofs.YtmkglhoahdlogaaGreatDoor
open Go.RowKit
namespace Plane
open Kit
set_option maxHeartbeats 1000000 in
theorem check (x y : Int) (w : World) : Calls Tryz.prog 38 #[.agg #[.int .i64 x, .int .i64 y]] w fun e w' => e = .returned (.int .i64 (chk x y)) ∧ Below w.heap.size w w' := by
  by_cases h1 : x < -1000000
  · have H := Lib.hid (chk_bad (x := x) (y := y) (by omega))
    go_enter Tryz.func38, Tryz.ntmps38
    go_wp2_with fail
    go_ret
    exact ⟨ret1 H.out.symm, b_alloc (Below.refl _ _) _⟩
  · by_cases h2 : 1000000 < x
    · have H := Lib.hid (chk_bad (x := x) (y := y) (by omega))
      go_enter Tryz.func38, Tryz.ntmps38
      go_wp2_with fail
      go_ret
      exact ⟨ret1 H.out.symm, b_alloc (Below.refl _ _) _⟩
    · by_cases h3 : y < -1000000
      · have H := Lib.hid (chk_bad (x := x) (y := y) (by omega))
        go_enter Tryz.func38, Tryz.ntmps38
        go_wp2_with fail
        go_ret
        exact ⟨ret1 H.out.symm, b_alloc (Below.refl _ _) _⟩
      · by_cases h4 : 1000000 < y
        · have H := Lib.hid (chk_bad (x := x) (y := y) (by omega))
          go_enter Tryz.func38, Tryz.ntmps38
          go_wp2_with fail
          go_ret
          exact ⟨ret1 H.out.symm, b_alloc (Below.refl _ _) _⟩
        · have H := Lib.hid (chk_ok (x := x) (y := y) (by omega))
          go_enter Tryz.func38, Tryz.ntmps38
          go_wp2_with fail
          go_ret
          exact ⟨ret1 H.out.symm, b_alloc (Below.refl _ _) _⟩
abbrev Chk (x y r : Int) : Prop := ∀ w : World, Calls Tryz.prog 38 #[.agg #[.int .i64 x, .int .i64 y]] w fun e w' => e = .returned (.int .i64 r) ∧ Below w.heap.size w w'
abbrev Dv (a b q : Int) : Prop := ∀ w : World, Calls Tryz.prog 66 #[.int .i64 a, .int .i64 b] w fun e w' => e = .returned (.tuple #[.int .i64 q, .int .i64 0]) ∧ w = w'
theorem dv (a b : Int) (ha : -9223372036854775808 ≤ a ∧ a ≤ 9223372036854775807) (hb : 0 < b ∧ b ≤ 9223372036854775807) : Dv a b (a / b) := fun w => by
  have c := Num.divDown a b w ha (by omega)
  rw [(Num.dd_ok (by omega) (by omega)).1, (Num.dd_ok (by omega) (by omega)).2, Num.fd_pos hb.1] at c
  exact c
set_option maxHeartbeats 2000000 in
theorem toward_ok (ax ay bx by' n d : Int) (w : World) (h0 : 0 < d) (h1 : d ≤ 200000) (h2 : 0 ≤ n) (h3 : n ≤ d) (ga : good ax ay) (gb : good bx by') :
    Calls Tryz.prog 60 #[.agg #[.int .i64 ax, .int .i64 ay], .agg #[.int .i64 bx, .int .i64 by'], .int .i64 n, .int .i64 d] w fun e w' => e = .returned (.tuple #[.agg #[.int .i64 (tw ax bx n d), .int .i64 (tw ay by' n d)], .int .i64 0]) ∧ Below w.heap.size w w' := by
  have C1 : Hid (Chk ax ay 0) := fun w => by have c := check ax ay w; rw [chk_ok ga] at c; exact c
  have C2 : Hid (Chk bx by' 0) := fun w => by have c := check bx by' w; rw [chk_ok gb] at c; exact c
  have m1 := mul_bd (x := bx - ax) (y := n) (M := 2000000) (N := 200000) (by omega) (by omega)
  have m2 := mul_bd (x := by' - ay) (y := n) (M := 2000000) (N := 200000) (by omega) (by omega)
  have D1 : Hid (Dv ((bx - ax) * n) d ((bx - ax) * n / d)) := dv _ _ (by omega) (by omega)
  have D2 : Hid (Dv ((by' - ay) * n) d ((by' - ay) * n / d)) := dv _ _ (by omega) (by omega)
  have q1 := Num.fd_bd (a := (bx - ax) * n) (b := d) (by omega) (by omega) (by omega)
  have q2 := Num.fd_bd (a := (by' - ay) * n) (b := d) (by omega) (by omega) (by omega)
  have q3 : -400000000000 ≤ (bx - ax) * n / d ∧ (bx - ax) * n / d ≤ 400000000000 :=
    ⟨(Int.le_ediv_iff_mul_le h0).2 (by have := Int.mul_le_mul_of_nonneg_left (show (1 : Int) ≤ d by omega) (show (0 : Int) ≤ 400000000000 by omega); omega), by
      have := Int.ediv_lt_iff_lt_mul (a := (bx - ax) * n) (b := 400000000001) h0
      have e : (bx - ax) * n < 400000000001 * d := by omega
      have := this.2 e; omega⟩
  have q4 : -400000000000 ≤ (by' - ay) * n / d ∧ (by' - ay) * n / d ≤ 400000000000 :=
    ⟨(Int.le_ediv_iff_mul_le h0).2 (by have := Int.mul_le_mul_of_nonneg_left (show (1 : Int) ≤ d by omega) (show (0 : Int) ≤ 400000000000 by omega); omega), by
      have := Int.ediv_lt_iff_lt_mul (a := (by' - ay) * n) (b := 400000000001) h0
      have e : (by' - ay) * n < 400000000001 * d := by omega
      have := this.2 e; omega⟩
  clear q1 q2
  unfold tw
  generalize (bx - ax) * n / d = Q1 at *
  generalize (by' - ay) * n / d = Q2 at *
  go_enter Tryz.func60, Tryz.ntmps60
  go_wp2_with fail
  refine (C1.out _).mono ?_; rintro e w1 ⟨rfl, hb⟩
  have hw := b_next (b_alloc (b_alloc (b_alloc (Below.refl _ w) _) _) _) hb
  have pa := p2_keep hb (p2_alloc _ (p2_alloc _ (p2_new w _ ax ay)))
  have pb := p2_keep hb (p2_alloc _ (p2_new1 w _ _ bx by'))
  have pr := b2_keep hb (b2_new2 w _ _ _ 0 0)
  clear hb
  go_wp2_with fail
  refine (C2.out _).mono ?_; rintro e w2 ⟨rfl, hb⟩
  replace hw := b_next hw hb
  replace pa := p2_keep hb pa; replace pb := p2_keep hb pb; replace pr := b2_keep hb pr
  clear hb
  go_wp2_with fail
  refine (D1.out _).mono ?_; rintro e w3 ⟨rfl, rfl⟩
  go_wp2_with fail
  refine (D2.out _).mono ?_; rintro e w3 ⟨rfl, rfl⟩
  go_wp2_with fail
  have hr := b2_set1 (ay + Q2) (b2_set0 (ax + Q1) pr)
  refine bodyPost_ret (v := .tuple #[.agg #[.int .i64 (ax + Q1), .int .i64 (ay + Q2)], .int .i64 0]) ?_ rfl ⟨rfl, b_set (b_set hw (by simp; omega) _) (by simp; omega) _⟩
  simp [results, Tryz.results60, go_sem, hr.1.1, hr.1.2]
set_option maxHeartbeats 2000000 in
theorem toward_far (ax ay bx by' n d : Int) (w : World) (h0 : 0 < d) (h1 : d ≤ 200000) (h2 : 0 ≤ n) (h3 : n ≤ d) (hg : ¬ (good ax ay ∧ good bx by')) :
    Calls Tryz.prog 60 #[.agg #[.int .i64 ax, .int .i64 ay], .agg #[.int .i64 bx, .int .i64 by'], .int .i64 n, .int .i64 d] w fun e w' => e = .returned (.tuple #[.agg #[.int .i64 0, .int .i64 0], .int .i64 4]) ∧ Below w.heap.size w w' := by
  by_cases ga : good ax ay
  · have gb : ¬ good bx by' := fun h => hg ⟨ga, h⟩
    have C1 : Hid (Chk ax ay 0) := fun w => by have c := check ax ay w; rw [chk_ok ga] at c; exact c
    have C2 : Hid (Chk bx by' 4) := fun w => by have c := check bx by' w; rw [chk_bad gb] at c; exact c
    clear ga gb hg
    go_enter Tryz.func60, Tryz.ntmps60
    go_wp2_with fail
    refine (C1.out _).mono ?_; rintro e w1 ⟨rfl, hb⟩
    have hw := b_next (b_alloc (b_alloc (b_alloc (Below.refl _ w) _) _) _) hb
    have pb := p2_keep hb (p2_alloc _ (p2_new1 w _ _ bx by'))
    have pr := b2_keep hb (b2_new2 w _ _ _ 0 0)
    clear hb
    go_wp2_with fail
    refine (C2.out _).mono ?_; rintro e w2 ⟨rfl, hb⟩
    replace hw := b_next hw hb
    replace pb := p2_keep hb pb; replace pr := b2_keep hb pr
    clear hb
    go_wp2_with fail
    refine (C2.out _).mono ?_; rintro e w2 ⟨rfl, hb⟩
    replace hw := b_next hw hb
    replace pr := b2_keep hb pr
    clear hb pb
    go_wp2_with fail
    have hr := b2_set1 0 (b2_set0 0 pr)
    refine bodyPost_ret (v := .tuple #[.agg #[.int .i64 0, .int .i64 0], .int .i64 4]) ?_ rfl ⟨rfl, b_set (b_set hw (by simp; omega) _) (by simp; omega) _⟩
    simp [results, Tryz.results60, go_sem, hr.1.1, hr.1.2]
  · have C1 : Hid (Chk ax ay 4) := fun w => by have c := check ax ay w; rw [chk_bad ga] at c; exact c
    clear ga hg
    go_enter Tryz.func60, Tryz.ntmps60
    go_wp2_with fail
    refine (C1.out _).mono ?_; rintro e w1 ⟨rfl, hb⟩
    have hw := b_next (b_alloc (b_alloc (b_alloc (Below.refl _ w) _) _) _) hb
    have pa := p2_keep hb (p2_alloc _ (p2_alloc _ (p2_new w _ ax ay)))
    have pr := b2_keep hb (b2_new2 w _ _ _ 0 0)
    clear hb
    go_wp2_with fail
    refine (C1.out _).mono ?_; rintro e w2 ⟨rfl, hb⟩
    replace hw := b_next hw hb
    replace pr := b2_keep hb pr
    clear hb pa
    go_wp2_with fail
    have hr := b2_set1 0 (b2_set0 0 pr)
    refine bodyPost_ret (v := .tuple #[.agg #[.int .i64 0, .int .i64 0], .int .i64 4]) ?_ rfl ⟨rfl, b_set (b_set hw (by simp; omega) _) (by simp; omega) _⟩
    simp [results, Tryz.results60, go_sem, hr.1.1, hr.1.2]
end Plane
end Go.Proofs.YtmkglhoahdlogaaGreatDoor
namespace Go.Proofs.YtmkglhoahdlogaaGreatDoor
open Go.RowKit
namespace Path
open Kit Plane
section
variable (T X Y H : Nat → Int)
/-- What is wrong with node i. -/
def nerr (i : Nat) : Int := if T i < 0 ∨ 200000 < T i ∨ (0 < i ∧ T i ≤ T (i - 1)) then 12 else if ¬ good (X i) (Y i) then 4 else if H i < 0 ∨ 60000 < H i then 4 else 0
def nchk : Nat → Int
  | 0 => 0
  | k + 1 => if nchk k ≠ 0 then nchk k else nerr T X Y H k
/-- fly.Check's error. -/
def pchk (n : Nat) : Int := if 64 < n then 2 else if n = 0 then 3 else nchk T X Y H n
/-- A path that Check accepts. -/
def pok (n : Nat) : Prop := 0 < n ∧ n ≤ 64 ∧ (∀ k, k < n → 0 ≤ T k ∧ T k ≤ 200000 ∧ good (X k) (Y k) ∧ 0 ≤ H k ∧ H k ≤ 60000) ∧ ∀ k, k + 1 < n → T k < T (k + 1)
variable {T X Y H}
theorem nerr_ok {i : Nat} : nerr T X Y H i = 0 ↔ (0 ≤ T i ∧ T i ≤ 200000 ∧ (0 < i → T (i - 1) < T i)) ∧ good (X i) (Y i) ∧ 0 ≤ H i ∧ H i ≤ 60000 := by
  unfold nerr
  constructor
  · intro h
    split at h
    · omega
    · rename_i h1
      split at h
      · omega
      · rename_i h2
        split at h
        · omega
        · rename_i h3
          refine ⟨⟨by omega, by omega, fun h => by omega⟩, Classical.not_not.1 h2, by omega, by omega⟩
  · rintro ⟨⟨a, b, c⟩, d, e, f⟩
    have hn : ¬ (T i < 0 ∨ 200000 < T i ∨ (0 < i ∧ T i ≤ T (i - 1))) := by
      intro h
      rcases h with h | h | ⟨h, h'⟩
      · omega
      · omega
      · have := c h; omega
    rw [if_neg hn, if_neg (fun h => h d), if_neg (by omega)]
theorem nchk_step {k : Nat} (h : nchk T X Y H k = 0) : nchk T X Y H (k + 1) = nerr T X Y H k := by
  show (if nchk T X Y H k ≠ 0 then _ else _) = _
  rw [if_neg (fun e => e h)]
theorem nchk_stays {k : Nat} (h : nchk T X Y H k ≠ 0) : ∀ m, k ≤ m → nchk T X Y H m = nchk T X Y H k := by
  intro m
  induction m with
  | zero => intro hk; rw [show k = 0 from by omega]
  | succ m ih =>
    intro hk
    rcases Nat.lt_or_ge m k with hl | hl
    · rw [show m + 1 = k from by omega]
    · have e := ih hl
      show (if nchk T X Y H m ≠ 0 then _ else _) = _
      rw [if_pos (by rw [e]; exact h), e]
theorem nchk_zero : ∀ n, nchk T X Y H n = 0 ↔ ∀ k, k < n → nerr T X Y H k = 0 := by
  intro n
  induction n with
  | zero => exact ⟨fun _ k hk => absurd hk (Nat.not_lt_zero _), fun _ => rfl⟩
  | succ n ih =>
    constructor
    · intro h
      have h0 : nchk T X Y H n = 0 := by
        by_cases h0 : nchk T X Y H n = 0
        · exact h0
        · rw [nchk_stays h0 (n + 1) (by omega)] at h; exact absurd h h0
      intro k hk
      rcases Nat.lt_or_ge k n with hl | hl
      · exact ih.1 h0 k hl
      · rw [show k = n from by omega, ← nchk_step h0]; exact h
    · intro h
      have h0 := ih.2 fun k hk => h k (by omega)
      rw [nchk_step h0]; exact h n (by omega)
theorem pchk_zero (n : Nat) : pchk T X Y H n = 0 ↔ pok T X Y H n := by
  unfold pchk pok
  by_cases h1 : 64 < n
  · rw [if_pos h1]; exact ⟨fun h => by omega, fun h => by omega⟩
  · rw [if_neg h1]
    by_cases h2 : n = 0
    · rw [if_pos h2]; exact ⟨fun h => by omega, fun h => by omega⟩
    · rw [if_neg h2, nchk_zero]
      constructor
      · intro h
        refine ⟨by omega, by omega, fun k hk => ?_, fun k hk => ?_⟩
        · have := nerr_ok.1 (h k hk); exact ⟨this.1.1, this.1.2.1, this.2.1, this.2.2⟩
        · have := (nerr_ok.1 (h (k + 1) hk)).1.2.2 (by omega); rw [show k + 1 - 1 = k from by omega] at this; exact this
      · rintro ⟨_, _, h3, h4⟩ k hk
        obtain ⟨a, b, c, d⟩ := h3 k hk
        refine nerr_ok.2 ⟨⟨a, b, fun hp => ?_⟩, c, d⟩
        have := h4 (k - 1) (by omega); rw [show k - 1 + 1 = k from by omega] at this; exact this
theorem nchk_cases (n : Nat) : nchk T X Y H n = 2 ∨ nchk T X Y H n = 12 ∨ nchk T X Y H n = 4 ∨ nchk T X Y H n = 0 := by
  induction n with
  | zero => exact Or.inr (Or.inr (Or.inr rfl))
  | succ n ih =>
    by_cases h : nchk T X Y H n = 0
    · rw [nchk_step h]; unfold nerr; split <;> (try split) <;> (try split) <;> omega
    · rw [nchk_stays h (n + 1) (by omega)]; exact ih
theorem stop {k n : Nat} {E : Int} (h0 : nchk T X Y H k = 0) (hk : k < n) (e : nerr T X Y H k = E) (hE : E ≠ 0) : nchk T X Y H n = E := by
  have h1 := nchk_step h0
  rw [e] at h1
  rw [nchk_stays (by rw [h1]; exact hE) n (by omega), h1]
theorem nerr_time {k : Nat} (h : T k < 0 ∨ 200000 < T k ∨ (0 < k ∧ T k ≤ T (k - 1))) : nerr T X Y H k = 12 := if_pos h
theorem nerr_point {k : Nat} (h : ¬ (T k < 0 ∨ 200000 < T k ∨ (0 < k ∧ T k ≤ T (k - 1)))) (g : ¬ good (X k) (Y k)) : nerr T X Y H k = 4 := by unfold nerr; rw [if_neg h, if_pos g]
theorem nerr_height {k : Nat} (h : ¬ (T k < 0 ∨ 200000 < T k ∨ (0 < k ∧ T k ≤ T (k - 1)))) (g : good (X k) (Y k)) (h' : H k < 0 ∨ 60000 < H k) : nerr T X Y H k = 4 := by unfold nerr; rw [if_neg h, if_neg (fun e => e g), if_pos h']
theorem nerr_none {k : Nat} (h : ¬ (T k < 0 ∨ 200000 < T k ∨ (0 < k ∧ T k ≤ T (k - 1)))) (g : good (X k) (Y k)) (h' : ¬ (H k < 0 ∨ 60000 < H k)) : nerr T X Y H k = 0 := by unfold nerr; rw [if_neg h, if_neg (fun e => e g), if_neg h']
/-- Times rise. -/
theorem pok_lt {n : Nat} (h : pok T X Y H n) : ∀ {i j : Nat}, i < j → j < n → T i < T j := by
  intro i j hij hj
  induction j with
  | zero => omega
  | succ j ih =>
    have := h.2.2.2 j hj
    rcases Nat.lt_or_ge i j with hl | hl
    · have := ih hl (by omega); omega
    · rw [show i = j from by omega]; exact this
end
/-- Four cells of node k. -/
abbrev N4 (w : World) (b off k : Nat) (t x y h : Int) : Prop := (w.cell? ⟨b, off + k * 4, none⟩ = some (.int .i64 t) ∧ w.cell? ⟨b, off + k * 4 + 1, none⟩ = some (.int .i64 x)) ∧ (w.cell? ⟨b, off + k * 4 + 2, none⟩ = some (.int .i64 y) ∧ w.cell? ⟨b, off + k * 4 + 3, none⟩ = some (.int .i64 h))
theorem n4_keep {W w1 : World} (hb : Below W.heap.size W w1) {b off k : Nat} {t x y h : Int} (hn : N4 W b off k t x y h) : N4 w1 b off k t x y h := ⟨⟨keep hb hn.1.1, keep hb hn.1.2⟩, ⟨keep hb hn.2.1, keep hb hn.2.2⟩⟩
/-- A node in a block of its own. -/
abbrev C4 (w : World) (b : Nat) (t x y h : Int) : Prop := (w.cell? ⟨b, 0, none⟩ = some (.int .i64 t) ∧ w.cell? ⟨b, 1, none⟩ = some (.int .i64 x)) ∧ (w.cell? ⟨b, 2, none⟩ = some (.int .i64 y) ∧ w.cell? ⟨b, 3, none⟩ = some (.int .i64 h))
theorem c4_keep {W w1 : World} (hb : Below W.heap.size W w1) {b : Nat} {t x y h : Int} (hn : C4 W b t x y h) : C4 w1 b t x y h := ⟨⟨keep hb hn.1.1, keep hb hn.1.2⟩, ⟨keep hb hn.2.1, keep hb hn.2.2⟩⟩
theorem c4_alloc {W : World} (o : Obj) {b : Nat} {t x y h : Int} (hn : C4 W b t x y h) : C4 (W.alloc o) b t x y h := c4_keep (b_alloc (Below.refl _ _) o) hn
theorem c4_new (w : World) (ty : TypeId) (t x y h : Int) : C4 (w.alloc (.cells #[.int .i64 t, .int .i64 x, .int .i64 y, .int .i64 h] ty)) w.heap.size t x y h := ⟨⟨by simp, by simp⟩, ⟨by simp, by simp⟩⟩
end Path
end Go.Proofs.YtmkglhoahdlogaaGreatDoor
