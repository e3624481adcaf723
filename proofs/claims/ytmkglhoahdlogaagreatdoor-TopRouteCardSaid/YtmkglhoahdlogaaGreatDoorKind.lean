/- Kind. -/
import Derived.Test.YtmkglhoahdlogaaGreatDoorJ07
namespace Go.Proofs.YtmkglhoahdlogaaGreatDoor
open Go.RowKit
namespace Kind
open Kit Name
abbrev K7 (w : World) (b : Nat) (s : ByteArray) (wake ceil climb desc slow fast : Int) : Prop := w.cell? ⟨b, 0, none⟩ = some (.string s) ∧ w.cell? ⟨b, 1, none⟩ = some (.int .i64 wake) ∧ w.cell? ⟨b, 2, none⟩ = some (.int .i64 ceil) ∧ w.cell? ⟨b, 3, none⟩ = some (.int .i64 climb) ∧ w.cell? ⟨b, 4, none⟩ = some (.int .i64 desc) ∧ w.cell? ⟨b, 5, none⟩ = some (.int .i64 slow) ∧ w.cell? ⟨b, 6, none⟩ = some (.int .i64 fast)
theorem k7_new (w : World) (ty : TypeId) (s : ByteArray) (wake ceil climb desc slow fast : Int) : K7 (w.alloc (.cells #[.string s, .int .i64 wake, .int .i64 ceil, .int .i64 climb, .int .i64 desc, .int .i64 slow, .int .i64 fast] ty)) w.heap.size s wake ceil climb desc slow fast := ⟨by simp, by simp, by simp, by simp, by simp, by simp, by simp⟩
theorem k7_keep {W w1 : World} (hb : Below W.heap.size W w1) {b : Nat} {s : ByteArray} {wake ceil climb desc slow fast : Int} (h : K7 W b s wake ceil climb desc slow fast) : K7 w1 b s wake ceil climb desc slow fast :=
  ⟨keep hb h.1, keep hb h.2.1, keep hb h.2.2.1, keep hb h.2.2.2.1, keep hb h.2.2.2.2.1, keep hb h.2.2.2.2.2.1, keep hb h.2.2.2.2.2.2⟩
abbrev NmC (s : ByteArray) (b : Bool) : Prop := ∀ w : World, Calls Tryz.prog 35 #[.string s] w fun e w' => e = .returned (.bool b) ∧ Below w.heap.size w w'
abbrev OutC (n high : Int) (b : Bool) : Prop := ∀ w : World, Calls Tryz.prog 106 #[.int .i64 n, .int .i64 high] w fun e w' => e = .returned (.bool b) ∧ w = w'
theorem out_low (n high : Int) (h : n < 1) : OutC n high true := fun w => by
  go_enter Tryz.func106, Tryz.ntmps106
  go_wp2_with fail
  go_ret
  exact ⟨rfl, rfl⟩
theorem out_high (n high : Int) (h : ¬ n < 1) (h2 : high < n) : OutC n high true := fun w => by
  go_enter Tryz.func106, Tryz.ntmps106
  go_wp2_with fail
  go_ret
  exact ⟨rfl, rfl⟩
theorem out_not (n high : Int) (h : ¬ n < 1) (h2 : ¬ high < n) : OutC n high false := fun w => by
  go_enter Tryz.func106, Tryz.ntmps106
  go_wp2_with fail
  go_ret
  exact ⟨rfl, rfl⟩
def outB (n high : Int) : Bool := decide (n < 1 ∨ high < n)
theorem outC (n high : Int) : OutC n high (outB n high) := by
  by_cases h : n < 1
  · rw [show outB n high = true from decide_eq_true (Or.inl h)]; exact out_low n high h
  · by_cases h2 : high < n
    · rw [show outB n high = true from decide_eq_true (Or.inr h2)]; exact out_high n high h h2
    · rw [show outB n high = false from decide_eq_false (by omega)]; exact out_not n high h h2
set_option maxHeartbeats 600000 in
theorem k_name (s : ByteArray) (wake ceil climb desc slow fast : Int) (w : World) (N : Hid (NmC s false)) :
    Calls Tryz.prog 90 #[.agg #[.string s, .int .i64 wake, .int .i64 ceil, .int .i64 climb, .int .i64 desc, .int .i64 slow, .int .i64 fast]] w fun e w' => e = .returned (.int .i64 5) ∧ Below w.heap.size w w' := by
  go_enter Tryz.func90, Tryz.ntmps90
  have hk := k7_new w 52 s wake ceil climb desc slow fast
  have hw := b_alloc (Below.refl w.heap.size w) (.cells #[.string s, .int .i64 wake, .int .i64 ceil, .int .i64 climb, .int .i64 desc, .int .i64 slow, .int .i64 fast] 52)
  go_wp2_with fail
  refine (N.out _).mono ?_; rintro e w1 ⟨rfl, hb⟩
  replace hk := k7_keep hb hk
  replace hw := b_next hw hb
  obtain ⟨k0, k1, k2, k3, k4, k5, k6⟩ := hk
  clear hb
  go_wp2_with fail
  go_ret
  exact ⟨rfl, hw⟩
set_option maxHeartbeats 600000 in
theorem k_wake0 (s : ByteArray) (wake ceil climb desc slow fast : Int) (w : World) (N : Hid (NmC s true)) (hw1 : wake < 0) :
    Calls Tryz.prog 90 #[.agg #[.string s, .int .i64 wake, .int .i64 ceil, .int .i64 climb, .int .i64 desc, .int .i64 slow, .int .i64 fast]] w fun e w' => e = .returned (.int .i64 1) ∧ Below w.heap.size w w' := by
  go_enter Tryz.func90, Tryz.ntmps90
  have hk := k7_new w 52 s wake ceil climb desc slow fast
  have hw := b_alloc (Below.refl w.heap.size w) (.cells #[.string s, .int .i64 wake, .int .i64 ceil, .int .i64 climb, .int .i64 desc, .int .i64 slow, .int .i64 fast] 52)
  go_wp2_with fail
  refine (N.out _).mono ?_; rintro e w1 ⟨rfl, hb⟩
  replace hk := k7_keep hb hk
  replace hw := b_next hw hb
  obtain ⟨k0, k1, k2, k3, k4, k5, k6⟩ := hk
  clear hb
  go_wp2_with fail
  go_ret
  exact ⟨rfl, hw⟩
set_option maxHeartbeats 600000 in
theorem k_wake1 (s : ByteArray) (wake ceil climb desc slow fast : Int) (w : World) (N : Hid (NmC s true)) (hw1 : ¬ wake < 0) (hw2 : 3 < wake) :
    Calls Tryz.prog 90 #[.agg #[.string s, .int .i64 wake, .int .i64 ceil, .int .i64 climb, .int .i64 desc, .int .i64 slow, .int .i64 fast]] w fun e w' => e = .returned (.int .i64 1) ∧ Below w.heap.size w w' := by
  go_enter Tryz.func90, Tryz.ntmps90
  have hk := k7_new w 52 s wake ceil climb desc slow fast
  have hw := b_alloc (Below.refl w.heap.size w) (.cells #[.string s, .int .i64 wake, .int .i64 ceil, .int .i64 climb, .int .i64 desc, .int .i64 slow, .int .i64 fast] 52)
  go_wp2_with fail
  refine (N.out _).mono ?_; rintro e w1 ⟨rfl, hb⟩
  replace hk := k7_keep hb hk
  replace hw := b_next hw hb
  obtain ⟨k0, k1, k2, k3, k4, k5, k6⟩ := hk
  clear hb
  go_wp2_with fail
  go_ret
  exact ⟨rfl, hw⟩
set_option maxHeartbeats 600000 in
theorem k_out0 (s : ByteArray) (wake ceil climb desc slow fast : Int) (w : World) (N : Hid (NmC s true)) (hw1 : ¬ wake < 0) (hw2 : ¬ 3 < wake)  (O0 : Hid (OutC ceil 60000 true)) :
    Calls Tryz.prog 90 #[.agg #[.string s, .int .i64 wake, .int .i64 ceil, .int .i64 climb, .int .i64 desc, .int .i64 slow, .int .i64 fast]] w fun e w' => e = .returned (.int .i64 4) ∧ Below w.heap.size w w' := by
  go_enter Tryz.func90, Tryz.ntmps90
  have hk := k7_new w 52 s wake ceil climb desc slow fast
  have hw := b_alloc (Below.refl w.heap.size w) (.cells #[.string s, .int .i64 wake, .int .i64 ceil, .int .i64 climb, .int .i64 desc, .int .i64 slow, .int .i64 fast] 52)
  go_wp2_with fail
  refine (N.out _).mono ?_; rintro e w1 ⟨rfl, hb⟩
  replace hk := k7_keep hb hk
  replace hw := b_next hw hb
  obtain ⟨k0, k1, k2, k3, k4, k5, k6⟩ := hk
  clear hb
  go_wp2_with fail
  refine (O0.out _).mono ?_; rintro e w2 ⟨rfl, rfl⟩
  go_wp2_with fail
  go_ret
  exact ⟨rfl, hw⟩
set_option maxHeartbeats 600000 in
theorem k_out1 (s : ByteArray) (wake ceil climb desc slow fast : Int) (w : World) (N : Hid (NmC s true)) (hw1 : ¬ wake < 0) (hw2 : ¬ 3 < wake) (O0 : Hid (OutC ceil 60000 false)) (O1 : Hid (OutC climb 200 true)) :
    Calls Tryz.prog 90 #[.agg #[.string s, .int .i64 wake, .int .i64 ceil, .int .i64 climb, .int .i64 desc, .int .i64 slow, .int .i64 fast]] w fun e w' => e = .returned (.int .i64 4) ∧ Below w.heap.size w w' := by
  go_enter Tryz.func90, Tryz.ntmps90
  have hk := k7_new w 52 s wake ceil climb desc slow fast
  have hw := b_alloc (Below.refl w.heap.size w) (.cells #[.string s, .int .i64 wake, .int .i64 ceil, .int .i64 climb, .int .i64 desc, .int .i64 slow, .int .i64 fast] 52)
  go_wp2_with fail
  refine (N.out _).mono ?_; rintro e w1 ⟨rfl, hb⟩
  replace hk := k7_keep hb hk
  replace hw := b_next hw hb
  obtain ⟨k0, k1, k2, k3, k4, k5, k6⟩ := hk
  clear hb
  go_wp2_with fail
  refine (O0.out _).mono ?_; rintro e w2 ⟨rfl, rfl⟩
  go_wp2_with fail
  refine (O1.out _).mono ?_; rintro e w2 ⟨rfl, rfl⟩
  go_wp2_with fail
  go_ret
  exact ⟨rfl, hw⟩
set_option maxHeartbeats 600000 in
theorem k_out2 (s : ByteArray) (wake ceil climb desc slow fast : Int) (w : World) (N : Hid (NmC s true)) (hw1 : ¬ wake < 0) (hw2 : ¬ 3 < wake) (O0 : Hid (OutC ceil 60000 false)) (O1 : Hid (OutC climb 200 false)) (O2 : Hid (OutC desc 200 true)) :
    Calls Tryz.prog 90 #[.agg #[.string s, .int .i64 wake, .int .i64 ceil, .int .i64 climb, .int .i64 desc, .int .i64 slow, .int .i64 fast]] w fun e w' => e = .returned (.int .i64 4) ∧ Below w.heap.size w w' := by
  go_enter Tryz.func90, Tryz.ntmps90
  have hk := k7_new w 52 s wake ceil climb desc slow fast
  have hw := b_alloc (Below.refl w.heap.size w) (.cells #[.string s, .int .i64 wake, .int .i64 ceil, .int .i64 climb, .int .i64 desc, .int .i64 slow, .int .i64 fast] 52)
  go_wp2_with fail
  refine (N.out _).mono ?_; rintro e w1 ⟨rfl, hb⟩
  replace hk := k7_keep hb hk
  replace hw := b_next hw hb
  obtain ⟨k0, k1, k2, k3, k4, k5, k6⟩ := hk
  clear hb
  go_wp2_with fail
  refine (O0.out _).mono ?_; rintro e w2 ⟨rfl, rfl⟩
  go_wp2_with fail
  refine (O1.out _).mono ?_; rintro e w2 ⟨rfl, rfl⟩
  go_wp2_with fail
  refine (O2.out _).mono ?_; rintro e w2 ⟨rfl, rfl⟩
  go_wp2_with fail
  go_ret
  exact ⟨rfl, hw⟩
set_option maxHeartbeats 600000 in
theorem k_out3 (s : ByteArray) (wake ceil climb desc slow fast : Int) (w : World) (N : Hid (NmC s true)) (hw1 : ¬ wake < 0) (hw2 : ¬ 3 < wake) (O0 : Hid (OutC ceil 60000 false)) (O1 : Hid (OutC climb 200 false)) (O2 : Hid (OutC desc 200 false)) (O3 : Hid (OutC slow 400 true)) :
    Calls Tryz.prog 90 #[.agg #[.string s, .int .i64 wake, .int .i64 ceil, .int .i64 climb, .int .i64 desc, .int .i64 slow, .int .i64 fast]] w fun e w' => e = .returned (.int .i64 4) ∧ Below w.heap.size w w' := by
  go_enter Tryz.func90, Tryz.ntmps90
  have hk := k7_new w 52 s wake ceil climb desc slow fast
  have hw := b_alloc (Below.refl w.heap.size w) (.cells #[.string s, .int .i64 wake, .int .i64 ceil, .int .i64 climb, .int .i64 desc, .int .i64 slow, .int .i64 fast] 52)
  go_wp2_with fail
  refine (N.out _).mono ?_; rintro e w1 ⟨rfl, hb⟩
  replace hk := k7_keep hb hk
  replace hw := b_next hw hb
  obtain ⟨k0, k1, k2, k3, k4, k5, k6⟩ := hk
  clear hb
  go_wp2_with fail
  refine (O0.out _).mono ?_; rintro e w2 ⟨rfl, rfl⟩
  go_wp2_with fail
  refine (O1.out _).mono ?_; rintro e w2 ⟨rfl, rfl⟩
  go_wp2_with fail
  refine (O2.out _).mono ?_; rintro e w2 ⟨rfl, rfl⟩
  go_wp2_with fail
  refine (O3.out _).mono ?_; rintro e w2 ⟨rfl, rfl⟩
  go_wp2_with fail
  go_ret
  exact ⟨rfl, hw⟩
set_option maxHeartbeats 600000 in
theorem k_out4 (s : ByteArray) (wake ceil climb desc slow fast : Int) (w : World) (N : Hid (NmC s true)) (hw1 : ¬ wake < 0) (hw2 : ¬ 3 < wake) (O0 : Hid (OutC ceil 60000 false)) (O1 : Hid (OutC climb 200 false)) (O2 : Hid (OutC desc 200 false)) (O3 : Hid (OutC slow 400 false)) (O4 : Hid (OutC fast 400 true)) :
    Calls Tryz.prog 90 #[.agg #[.string s, .int .i64 wake, .int .i64 ceil, .int .i64 climb, .int .i64 desc, .int .i64 slow, .int .i64 fast]] w fun e w' => e = .returned (.int .i64 4) ∧ Below w.heap.size w w' := by
  go_enter Tryz.func90, Tryz.ntmps90
  have hk := k7_new w 52 s wake ceil climb desc slow fast
  have hw := b_alloc (Below.refl w.heap.size w) (.cells #[.string s, .int .i64 wake, .int .i64 ceil, .int .i64 climb, .int .i64 desc, .int .i64 slow, .int .i64 fast] 52)
  go_wp2_with fail
  refine (N.out _).mono ?_; rintro e w1 ⟨rfl, hb⟩
  replace hk := k7_keep hb hk
  replace hw := b_next hw hb
  obtain ⟨k0, k1, k2, k3, k4, k5, k6⟩ := hk
  clear hb
  go_wp2_with fail
  refine (O0.out _).mono ?_; rintro e w2 ⟨rfl, rfl⟩
  go_wp2_with fail
  refine (O1.out _).mono ?_; rintro e w2 ⟨rfl, rfl⟩
  go_wp2_with fail
  refine (O2.out _).mono ?_; rintro e w2 ⟨rfl, rfl⟩
  go_wp2_with fail
  refine (O3.out _).mono ?_; rintro e w2 ⟨rfl, rfl⟩
  go_wp2_with fail
  refine (O4.out _).mono ?_; rintro e w2 ⟨rfl, rfl⟩
  go_wp2_with fail
  go_ret
  exact ⟨rfl, hw⟩
set_option maxHeartbeats 600000 in
theorem k_form (s : ByteArray) (wake ceil climb desc slow fast : Int) (w : World) (N : Hid (NmC s true)) (hw1 : ¬ wake < 0) (hw2 : ¬ 3 < wake) (O0 : Hid (OutC ceil 60000 false)) (O1 : Hid (OutC climb 200 false)) (O2 : Hid (OutC desc 200 false)) (O3 : Hid (OutC slow 400 false)) (O4 : Hid (OutC fast 400 false)) (hs : fast < slow) :
    Calls Tryz.prog 90 #[.agg #[.string s, .int .i64 wake, .int .i64 ceil, .int .i64 climb, .int .i64 desc, .int .i64 slow, .int .i64 fast]] w fun e w' => e = .returned (.int .i64 3) ∧ Below w.heap.size w w' := by
  go_enter Tryz.func90, Tryz.ntmps90
  have hk := k7_new w 52 s wake ceil climb desc slow fast
  have hw := b_alloc (Below.refl w.heap.size w) (.cells #[.string s, .int .i64 wake, .int .i64 ceil, .int .i64 climb, .int .i64 desc, .int .i64 slow, .int .i64 fast] 52)
  go_wp2_with fail
  refine (N.out _).mono ?_; rintro e w1 ⟨rfl, hb⟩
  replace hk := k7_keep hb hk
  replace hw := b_next hw hb
  obtain ⟨k0, k1, k2, k3, k4, k5, k6⟩ := hk
  clear hb
  go_wp2_with fail
  refine (O0.out _).mono ?_; rintro e w2 ⟨rfl, rfl⟩
  go_wp2_with fail
  refine (O1.out _).mono ?_; rintro e w2 ⟨rfl, rfl⟩
  go_wp2_with fail
  refine (O2.out _).mono ?_; rintro e w2 ⟨rfl, rfl⟩
  go_wp2_with fail
  refine (O3.out _).mono ?_; rintro e w2 ⟨rfl, rfl⟩
  go_wp2_with fail
  refine (O4.out _).mono ?_; rintro e w2 ⟨rfl, rfl⟩
  go_wp2_with fail
  go_ret
  exact ⟨rfl, hw⟩
set_option maxHeartbeats 600000 in
theorem k_ok (s : ByteArray) (wake ceil climb desc slow fast : Int) (w : World) (N : Hid (NmC s true)) (hw1 : ¬ wake < 0) (hw2 : ¬ 3 < wake) (O0 : Hid (OutC ceil 60000 false)) (O1 : Hid (OutC climb 200 false)) (O2 : Hid (OutC desc 200 false)) (O3 : Hid (OutC slow 400 false)) (O4 : Hid (OutC fast 400 false)) (hs : ¬ fast < slow) :
    Calls Tryz.prog 90 #[.agg #[.string s, .int .i64 wake, .int .i64 ceil, .int .i64 climb, .int .i64 desc, .int .i64 slow, .int .i64 fast]] w fun e w' => e = .returned (.int .i64 0) ∧ Below w.heap.size w w' := by
  go_enter Tryz.func90, Tryz.ntmps90
  have hk := k7_new w 52 s wake ceil climb desc slow fast
  have hw := b_alloc (Below.refl w.heap.size w) (.cells #[.string s, .int .i64 wake, .int .i64 ceil, .int .i64 climb, .int .i64 desc, .int .i64 slow, .int .i64 fast] 52)
  go_wp2_with fail
  refine (N.out _).mono ?_; rintro e w1 ⟨rfl, hb⟩
  replace hk := k7_keep hb hk
  replace hw := b_next hw hb
  obtain ⟨k0, k1, k2, k3, k4, k5, k6⟩ := hk
  clear hb
  go_wp2_with fail
  refine (O0.out _).mono ?_; rintro e w2 ⟨rfl, rfl⟩
  go_wp2_with fail
  refine (O1.out _).mono ?_; rintro e w2 ⟨rfl, rfl⟩
  go_wp2_with fail
  refine (O2.out _).mono ?_; rintro e w2 ⟨rfl, rfl⟩
  go_wp2_with fail
  refine (O3.out _).mono ?_; rintro e w2 ⟨rfl, rfl⟩
  go_wp2_with fail
  refine (O4.out _).mono ?_; rintro e w2 ⟨rfl, rfl⟩
  go_wp2_with fail
  go_ret
  exact ⟨rfl, hw⟩
/-- aircraft.Check's error. -/
def kchk (s : ByteArray) (wake ceil climb desc slow fast : Int) : Int := if nameB s = false then 5 else if wake < 0 ∨ 3 < wake then 1 else if outB ceil 60000 = true ∨ outB climb 200 = true ∨ outB desc 200 = true ∨ outB slow 400 = true ∨ outB fast 400 = true then 4 else if fast < slow then 3 else 0
theorem kindC (s : ByteArray) (wake ceil climb desc slow fast : Int) (w : World) : Calls Tryz.prog 90 #[.agg #[.string s, .int .i64 wake, .int .i64 ceil, .int .i64 climb, .int .i64 desc, .int .i64 slow, .int .i64 fast]] w fun e w' => e = .returned (.int .i64 (kchk s wake ceil climb desc slow fast)) ∧ Below w.heap.size w w' := by
  have N : Hid (NmC s (nameB s)) := Lib.hid fun w => nameC s w
  have O0 := Lib.hid (outC ceil 60000); have O1 := Lib.hid (outC climb 200); have O2 := Lib.hid (outC desc 200); have O3 := Lib.hid (outC slow 400); have O4 := Lib.hid (outC fast 400)
  unfold kchk
  generalize nameB s = nb at *
  generalize outB ceil 60000 = b0 at *; generalize outB climb 200 = b1 at *; generalize outB desc 200 = b2 at *; generalize outB slow 400 = b3 at *; generalize outB fast 400 = b4 at *
  cases nb
  · rw [if_pos rfl]; exact k_name s wake ceil climb desc slow fast w N
  · rw [if_neg (by simp)]
    by_cases h1 : wake < 0
    · rw [if_pos (Or.inl h1)]; exact k_wake0 s wake ceil climb desc slow fast w N h1
    · by_cases h2 : 3 < wake
      · rw [if_pos (Or.inr h2)]; exact k_wake1 s wake ceil climb desc slow fast w N h1 h2
      · rw [if_neg (by omega)]
        cases b0
        · cases b1
          · cases b2
            · cases b3
              · cases b4
                · rw [if_neg (by simp)]
                  by_cases h3 : fast < slow
                  · rw [if_pos h3]; exact k_form s wake ceil climb desc slow fast w N h1 h2 O0 O1 O2 O3 O4 h3
                  · rw [if_neg h3]; exact k_ok s wake ceil climb desc slow fast w N h1 h2 O0 O1 O2 O3 O4 h3
                · rw [if_pos (by simp)]; exact k_out4 s wake ceil climb desc slow fast w N h1 h2 O0 O1 O2 O3 O4
              · rw [if_pos (by simp)]; exact k_out3 s wake ceil climb desc slow fast w N h1 h2 O0 O1 O2 O3
            · rw [if_pos (by simp)]; exact k_out2 s wake ceil climb desc slow fast w N h1 h2 O0 O1 O2
          · rw [if_pos (by simp)]; exact k_out1 s wake ceil climb desc slow fast w N h1 h2 O0 O1
        · rw [if_pos (by simp)]; exact k_out0 s wake ceil climb desc slow fast w N h1 h2 O0
end Kind
end Go.Proofs.YtmkglhoahdlogaaGreatDoor
