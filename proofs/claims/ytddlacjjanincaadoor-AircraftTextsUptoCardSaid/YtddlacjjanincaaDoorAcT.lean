/- aircraft.Text: its contract. -/
import Derived.Test.YtddlacjjanincaaDoorPtN
import Derived.Test.YtddlacjjanincaaDoorKind
import Derived.Test.YtddlacjjanincaaDoorDraw
namespace Go.Proofs.YtddlacjjanincaaDoor
open Go.RowKit
namespace Ac
open Kit Name Kind Pt
abbrev sp1 : ByteArray := ⟨#[32]⟩
/-- The text behind k numbers. -/
def acc (B : ByteArray) (N : Nat → Int) : Nat → ByteArray
  | 0 => B
  | k + 1 => acc B N k ++ (sp1 ++ txt (N k))
abbrev kv (s : ByteArray) (q : Int) (N : Nat → Int) : Value := .agg #[.string s, .int .i64 q, .int .i64 (N 0), .int .i64 (N 1), .int .i64 (N 2), .int .i64 (N 3), .int .i64 (N 4)]
abbrev kE (s : ByteArray) (q : Int) (N : Nat → Int) : Int := kchk s q (N 0) (N 1) (N 2) (N 3) (N 4)
theorem text_bad (s : ByteArray) (q : Int) (N : Nat → Int) (w : World) (E : Int) (hE : kE s q N = E) (_h1 : (E == 0) = false) (h2 : (E != 0) = true) : Calls Tryd.prog 12 #[kv s q N] w fun e w' => e = .returned (.tuple #[.string ⟨#[]⟩, .int .i64 E]) ∧ Below w.heap.size w w' := by
  have KC := Lib.hid fun w => kindC s q (N 0) (N 1) (N 2) (N 3) (N 4) w
  rw [show kchk s q (N 0) (N 1) (N 2) (N 3) (N 4) = _ from hE] at KC
  clear hE
  unfold kv
  generalize N 0 = n0 at *; generalize N 1 = n1 at *; generalize N 2 = n2 at *; generalize N 3 = n3 at *; generalize N 4 = n4 at *
  have B0 := Lib.hid (b_alloc (Below.refl w.heap.size w) (.cells #[.string s, .int .i64 q, .int .i64 n0, .int .i64 n1, .int .i64 n2, .int .i64 n3, .int .i64 n4] 23))
  obtain ⟨c0, c1, c2, c3, c4, c5, c6⟩ := k7_new w 23 s q n0 n1 n2 n3 n4
  go_enter Tryd.func12, Tryd.ntmps12
  go_wp2_with fail
  (with_reducible refine (KC.out _).mono ?_); rintro e w1 ⟨rfl, hb⟩
  have B1 := Lib.hid (b_next B0.out hb); clear hb
  go_wp2_with fail
  go_ret2
  exact ⟨rfl, B1.out⟩
theorem txt_size {n : Int} (h0 : 0 ≤ n) (h1 : n ≤ 60000) : (txt n).size ≤ 5 := by
  obtain ⟨u, rfl⟩ : ∃ u : Nat, n = u := ⟨n.toNat, by omega⟩
  have := NumT.itoa_len (u := u) (k := 5) (by omega) (by decide)
  show (Lib.itoa (u : Int)).toArray.size ≤ 5
  simpa using this
theorem acc_size {B : ByteArray} {N : Nat → Int} (hN : ∀ k, k < 5 → 0 ≤ N k ∧ N k ≤ 60000) (hB : B.size ≤ 17) : ∀ {k : Nat}, k ≤ 5 → (acc B N k).size ≤ 17 + 6 * k
  | 0, _ => hB
  | k + 1, h => by
    have ih := acc_size hN hB (k := k) (by omega)
    have q := txt_size (hN k (by omega)).1 (hN k (by omega)).2
    show (acc B N k ++ (sp1 ++ txt (N k))).size ≤ _
    rw [ByteArray.size_append, ByteArray.size_append]
    show (acc B N k).size + (1 + (txt (N k)).size) ≤ _
    omega
set_option maxRecDepth 100000 in
set_option maxHeartbeats 4000000 in
theorem text_w (s wk : ByteArray) (q : Nat) (N : Nat → Int) (w : World) (_hq : q < 4) (hs8 : s.size ≤ 8) (hw8 : wk.size ≤ 8) (hE : kE s q N = 0) (HN : Hid (∀ k, k < 5 → 0 ≤ N k ∧ N k ≤ 60000))
    (GW : Hid (w.cell? ⟨0, q, none⟩ = some (.string wk)))
    (IT : Hid (∀ w1 n, 0 ≤ n → n ≤ 60000 → Below w.heap.size w w1 → Calls Tryd.prog 24 #[.int .i64 n] w1 fun e w' => e = .returned (.string (txt n)) ∧ Below w1.heap.size w1 w')) :
    Calls Tryd.prog 12 #[kv s q N] w fun e w' => e = .returned (.tuple #[.string (acc (s ++ sp1 ++ wk) N 5), .int .i64 0]) ∧ Below w.heap.size w w' := by
  have KC := Lib.hid fun w => kindC s q (N 0) (N 1) (N 2) (N 3) (N 4) w
  rw [show kchk s q (N 0) (N 1) (N 2) (N 3) (N 4) = _ from hE] at KC
  clear hE
  unfold kv
  obtain ⟨n0, e0⟩ : ∃ n, n = N 0 := ⟨_, rfl⟩; obtain ⟨n1, e1⟩ : ∃ n, n = N 1 := ⟨_, rfl⟩; obtain ⟨n2, e2⟩ : ∃ n, n = N 2 := ⟨_, rfl⟩; obtain ⟨n3, e3⟩ : ∃ n, n = N 3 := ⟨_, rfl⟩; obtain ⟨n4, e4⟩ : ∃ n, n = N 4 := ⟨_, rfl⟩
  rw [← e0, ← e1, ← e2, ← e3, ← e4] at KC ⊢
  have HE := Lib.hid (And.intro e0 (And.intro e1 (And.intro e2 (And.intro e3 e4))))
  clear e0 e1 e2 e3 e4
  have hq2 : (q : Int) < 4 := by omega
  have z1 : ¬ 9223372036854775807 < s.size + 1 := by omega
  have z2 : ¬ 9223372036854775807 < s.size + 1 + wk.size := by omega
  have B0 := Lib.hid (b_alloc (Below.refl w.heap.size w) (.cells #[.string s, .int .i64 q, .int .i64 n0, .int .i64 n1, .int .i64 n2, .int .i64 n3, .int .i64 n4] 23))
  have K0 := Lib.hid (k7_new w 23 s q n0 n1 n2 n3 n4)
  obtain ⟨c0, c1, c2, c3, c4, c5, c6⟩ := K0.out
  go_enter Tryd.func12, Tryd.ntmps12
  go_wp2_with fail
  (with_reducible refine (KC.out _).mono ?_); rintro e w1 ⟨rfl, hb⟩
  have B1 := Lib.hid (b_next B0.out hb); have K1 := Lib.hid (k7_keep hb K0.out); clear hb c0 c1 c2 c3 c4 c5 c6
  have G1 := Lib.hid (keep B1.out GW.out)
  obtain ⟨c0, c1, c2, c3, c4, c5, c6⟩ := K1.out
  go_wp2_with fail
  refine d_region (by kernel_rfl) (by kernel_rfl) ?_
  repeat
    first
      | (refine d_plain (by with_reducible rfl) ?_; apply Exists.intro; refine ⟨fun wq hc hq => ?_, ?_⟩)
      | (refine d_on (by with_reducible rfl) (by rfl) (by with_reducible rfl) ?_; apply Exists.intro; refine ⟨fun wq hc hq => ?_, ?_⟩)
      | (refine d_off (by with_reducible rfl) (by rfl) (by rfl) ?_)
      | (refine d_void (by with_reducible rfl) (by rfl) ?_)
    try any_goals
      (obtain ⟨c0, c1, c2, c3, c4, c5, c6⟩ := k7_keep (cls hq) K1.out; have g0 := keep (cls hq) G1.out; clear hc
       go_simp
       first
         | rfl)
    simp only [Act.put, List.setIfInBounds_toArray, List.set_cons_zero, List.set_cons_succ]
  refine d_nil ?_
  intro w2 hb2
  have B2 := Lib.hid (b_next B1.out hb2); have K2 := Lib.hid (k7_keep hb2 K1.out); clear hb2 c0 c1 c2 c3 c4 c5 c6
  obtain ⟨c0, c1, c2, c3, c4, c5, c6⟩ := K2.out
  go_wp2_with fail
  have C5 : Hid (∀ k, k < 5 → (w2.alloc (.cells #[.int .i64 n0, .int .i64 n1, .int .i64 n2, .int .i64 n3, .int .i64 n4] 3)).cell? ⟨w2.heap.size, k, none⟩ = some (.int .i64 (N k))) := Lib.hid fun k hk => by
    obtain ⟨e0, e1, e2, e3, e4⟩ := HE.out
    rcases (show k = 0 ∨ k = 1 ∨ k = 2 ∨ k = 3 ∨ k = 4 by omega) with rfl | rfl | rfl | rfl | rfl <;> simp [e0, e1, e2, e3, e4]
  have B3 := Lib.hid (b_alloc B2.out (.cells #[.int .i64 n0, .int .i64 n1, .int .i64 n2, .int .i64 n3, .int .i64 n4] 3))
  have hB : (s ++ ⟨#[32]⟩ ++ wk).size ≤ 17 := by rw [ByteArray.size_append, ByteArray.size_append]; show s.size + 1 + wk.size ≤ 17; omega
  generalize hBB : s ++ ⟨#[32]⟩ ++ wk = B at *
  have HBB := Lib.hid hBB; clear hBB
  generalize w2.alloc (.cells #[.int .i64 n0, .int .i64 n1, .int .i64 n2, .int .i64 n3, .int .i64 n4] 3) = w3 at *
  generalize w2.heap.size = b at *
  clear c0 c1 c2 c3 c4 c5 c6 z1 z2 K0 K1 K2 B0 B1 B2 G1
  go_loopw [5, 33] (fun o s wr => ∃ k : Nat, k ≤ 5 ∧ s = .int .i64 k ∧ o = .string (acc B N k) ∧ Below w3.heap.size w3 wr) (fun _ s _ => 5 - (intOf s).toNat)
  case atStart => exact ⟨0, Nat.zero_le _, rfl, rfl, Below.refl _ _⟩
  case round =>
    obtain ⟨k, hk, rfl, rfl, hbl⟩ := hrel
    by_cases hlt : k < 5
    · have hl : (k : Int) < 5 := by omega
      have c0 := keep hbl (C5.out k hlt)
      have nk := HN.out k hlt
      have IK := Lib.hid fun w1 (hb : Below w.heap.size w w1) => IT.out w1 (N k) nk.1 nk.2 hb
      have zk := acc_size HN.out hB hk
      have zt := txt_size nk.1 nk.2
      have HT := Lib.hid (show acc B N (k + 1) = acc B N k ++ (sp1 ++ txt (N k)) from rfl)
      have B4 := Lib.hid (b_next B3.out hbl); have BL := Lib.hid hbl
      clear hbl nk
      generalize acc B N k = T0 at *
      generalize txt (N k) = U at *
      generalize N k = n at *
      have z1 : ¬ 9223372036854775807 < 1 + U.size := by omega
      have z2 : ¬ 9223372036854775807 < T0.size + (1 + U.size) := by omega
      clear zk zt
      go_wp2_with fail
      (with_reducible refine (IK.out _ B4.out).mono ?_); rintro e w5 ⟨rfl, hb⟩
      have B5 := Lib.hid (b_next BL.out hb); clear hb
      go_wp2_with fail
      go_roundw
      case rel => exact ⟨k + 1, by omega, by go_num, by rw [HT.out], B5.out⟩
      case measure => simp [intOf]; omega
    · obtain rfl : k = 5 := by omega
      have BL := Lib.hid (b_next B3.out hbl); clear hbl
      go_wp2_with fail
      go_ret2
      exact ⟨by rw [show s ++ sp1 ++ wk = B from HBB.out]; rfl, BL.out⟩
end Ac
end Go.Proofs.YtddlacjjanincaaDoor
