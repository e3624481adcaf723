/- Joined texts: At, FlyAt, FlyAtC. -/
import Derived.Test.YteieagihdflapaaGreatDoorPath
namespace Go.Proofs.YteieagihdflapaaGreatDoor
open Go.RowKit
namespace Path
open Kit Plane
/-- Four cells that may be written. -/
abbrev F4 (w : World) (b : Nat) : Prop := (w.frozen? ⟨b, 0, none⟩ = false ∧ w.frozen? ⟨b, 1, none⟩ = false) ∧ (w.frozen? ⟨b, 2, none⟩ = false ∧ w.frozen? ⟨b, 3, none⟩ = false)
theorem f4_new (w : World) (ty : TypeId) (t x y h : Int) : F4 (w.alloc (.cells #[.int .i64 t, .int .i64 x, .int .i64 y, .int .i64 h] ty)) w.heap.size := ⟨⟨by simp, by simp⟩, ⟨by simp, by simp⟩⟩
/-- Four cells of zeros that may be written. -/
abbrev Z4 (w : World) (b : Nat) : Prop := C4 w b 0 0 0 0 ∧ F4 w b
theorem z4_new (w : World) (ty : TypeId) : Z4 (w.alloc (.cells #[.int .i64 0, .int .i64 0, .int .i64 0, .int .i64 0] ty)) w.heap.size := ⟨c4_new w ty 0 0 0 0, f4_new w ty 0 0 0 0⟩
theorem z4_keep {W w1 : World} (hb : Below W.heap.size W w1) {b : Nat} (h : Z4 W b) : Z4 w1 b :=
  ⟨c4_keep hb h.1, ⟨keepF hb h.1.1.1 h.2.1.1, keepF hb h.1.1.2 h.2.1.2⟩, ⟨keepF hb h.1.2.1 h.2.2.1, keepF hb h.1.2.2 h.2.2.2⟩⟩
theorem c4_new1 (w : World) (o : Obj) (ty : TypeId) (t x y h : Int) : C4 ((w.alloc o).alloc (.cells #[.int .i64 t, .int .i64 x, .int .i64 y, .int .i64 h] ty)) (w.heap.size + 1) t x y h := by
  have c := c4_new (w.alloc o) ty t x y h; rw [World.size_alloc] at c; exact c
theorem c4_new2 (w : World) (o o' : Obj) (ty : TypeId) (t x y h : Int) : C4 (((w.alloc o).alloc o').alloc (.cells #[.int .i64 t, .int .i64 x, .int .i64 y, .int .i64 h] ty)) (w.heap.size + 1 + 1) t x y h := by
  have c := c4_new1 (w.alloc o) o' ty t x y h; rw [World.size_alloc] at c; exact c
theorem c4_set {W : World} {b : Nat} {t x y h : Int} (t' x' y' h' : Int) (hc : C4 W b t x y h) :
    C4 ((((W.setCell ⟨b, 0, none⟩ (.int .i64 t')).setCell ⟨b, 1, none⟩ (.int .i64 x')).setCell ⟨b, 2, none⟩ (.int .i64 y')).setCell ⟨b, 3, none⟩ (.int .i64 h')) b t' x' y' h' :=
  ⟨⟨cfar _ (by simp) (cfar _ (by simp) (cfar _ (by simp) (cset _ hc.1.1))), cfar _ (by simp) (cfar _ (by simp) (cset _ (cfar _ (by simp) hc.1.2)))⟩,
   ⟨cfar _ (by simp) (cset _ (cfar _ (by simp) (cfar _ (by simp) hc.2.1))), cset _ (cfar _ (by simp) (cfar _ (by simp) (cfar _ (by simp) hc.2.2)))⟩⟩
set_option maxHeartbeats 1000000 in
theorem at_exact (n cap b off i : Nat) (t : Int) (T X Y H : Nat → Int) (w : World) (hi : i < n) (_hn : n ≤ 64) (hc : n ≤ cap) (hm : cap ≤ 9223372036854775807) (HV : Hid (∀ k, k < n → N4 w b off k (T k) (X k) (Y k) (H k))) (HU : Hid (∀ k, k ≤ i → T k ≤ t)) (HN : Hid (i + 1 < n → t < T (i + 1))) (he : T i = t) :
    Calls Tryz.prog 56 #[.slice (some ⟨b, off, none⟩) n cap, .int .i64 t] w fun e w' => e = .returned (.agg #[.int .i64 (T i), .int .i64 (X i), .int .i64 (Y i), .int .i64 (H i)]) ∧ Below w.heap.size w w' := by
  go_enter Tryz.func56, Tryz.ntmps56
  go_wp2
  have hb0 : Below w.heap.size w (w.alloc (.cells #[.int .i64 0, .int .i64 0, .int .i64 0, .int .i64 0] 56)) := b_alloc (Below.refl _ _) _
  have F0 : F4 (w.alloc (.cells #[.int .i64 0, .int .i64 0, .int .i64 0, .int .i64 0] 56)) w.heap.size := f4_new w 56 0 0 0 0
  have HB0 := Lib.hid hb0; have HF0 := Lib.hid F0; clear hb0 F0
  go_loopw [5] (fun s wr => ∃ k : Nat, k ≤ i ∧ s = .int .i64 k ∧ wr = w.alloc (.cells #[.int .i64 0, .int .i64 0, .int .i64 0, .int .i64 0] 56)) (fun s _ => i - (intOf s).toNat)
  case atStart => exact ⟨0, Nat.zero_le _, rfl, rfl⟩
  case round =>
    obtain ⟨k, hk, rfl, rfl⟩ := hrel
    have hbl := HB0.out
    have hn4 := n4_keep hbl (HV.out k (by omega))
    obtain ⟨⟨c0, c1⟩, c2, c3⟩ := hn4
    have hw1 : IntKind.i64.wrap ((k : Int) + 1) = ((k + 1 : Nat) : Int) := by rw [IntWalk.i64_in _ (by omega)]; omega
    by_cases hlt : k < i
    · have hp4 := n4_keep hbl (HV.out (k + 1) (by omega))
      obtain ⟨⟨e0, e1⟩, e2, e3⟩ := hp4
      have d1 : decide ((k : Int) + 1 < (n : Int)) = true := decide_eq_true (by omega)
      have u2 : T (k + 1) ≤ t := HU.out _ (by omega)
      have d4 : ((k + 1 : Nat) : Int) < (n : Int) := by omega
      go_wp2_with fail
      go_roundw
      case rel => exact ⟨k + 1, by omega, by go_num, trivial⟩
      case measure => simp [intOf]; omega
    · have he : k = i := by omega
      subst he
      have d5 : (k : Int) < (n : Int) := by omega
      by_cases hl : k + 1 < n
      · have hp4 := n4_keep hbl (HV.out (k + 1) hl)
        obtain ⟨⟨e0, e1⟩, e2, e3⟩ := hp4
        have u1 : (k : Int) + 1 < (n : Int) := by omega
        have u2 : ¬ T (k + 1) ≤ t := by have := HN.out hl; omega
        have d4 : ((k + 1 : Nat) : Int) < (n : Int) := by omega
        skip
        go_wp2_with fail
        refine bodyPost_ret (v := .agg #[.int .i64 t, .int .i64 (X k), .int .i64 (Y k), .int .i64 (H k)]) (by simp [results, Tryz.results56, go_sem]) rfl ⟨rfl, b_alloc (b_alloc (Below.refl _ _) _) _⟩
      · have u1 : ¬ (k : Int) + 1 < (n : Int) := by omega
        go_wp2_with fail
        refine bodyPost_ret (v := .agg #[.int .i64 t, .int .i64 (X k), .int .i64 (Y k), .int .i64 (H k)]) (by simp [results, Tryz.results56, go_sem]) rfl ⟨rfl, b_alloc (b_alloc (Below.refl _ _) _) _⟩

set_option maxHeartbeats 1000000 in
theorem at_between (n cap b off i : Nat) (t : Int) (T X Y H : Nat → Int) (w : World) (hi : i < n) (_hn : n ≤ 64) (hc : n ≤ cap) (hm : cap ≤ 9223372036854775807) (HV : Hid (∀ k, k < n → N4 w b off k (T k) (X k) (Y k) (H k))) (HU : Hid (∀ k, k ≤ i → T k ≤ t)) (HN : Hid (i + 1 < n → t < T (i + 1))) (px py q : Int) (HL : Hid (i + 1 < n)) (BT : Hid (T i < t ∧ 0 ≤ T i ∧ t ≤ 200000 ∧ T (i + 1) ≤ 200000)) (BH : Hid (0 ≤ H i ∧ H i ≤ 60000 ∧ 0 ≤ H (i + 1) ∧ H (i + 1) ≤ 60000 ∧ -60000 ≤ q ∧ q ≤ 60000))
    (TW : Hid (∀ w : World, Calls Tryz.prog 51 #[.agg #[.int .i64 (X i), .int .i64 (Y i)], .agg #[.int .i64 (X (i + 1)), .int .i64 (Y (i + 1))], .int .i64 (t - T i), .int .i64 (T (i + 1) - T i)] w fun e w' => e = .returned (.tuple #[.agg #[.int .i64 px, .int .i64 py], .int .i64 0]) ∧ Below w.heap.size w w'))
    (DH : Hid (Dv ((H (i + 1) - H i) * (t - T i)) (T (i + 1) - T i) q)) (MH : Hid (-12000000000 ≤ (H (i + 1) - H i) * (t - T i) ∧ (H (i + 1) - H i) * (t - T i) ≤ 12000000000)) :
    Calls Tryz.prog 56 #[.slice (some ⟨b, off, none⟩) n cap, .int .i64 t] w fun e w' => e = .returned (.agg #[.int .i64 t, .int .i64 px, .int .i64 py, .int .i64 (H i + q)]) ∧ Below w.heap.size w w' := by
  have he : ¬ T i = t := by have := BT.out; omega
  go_enter Tryz.func56, Tryz.ntmps56
  go_wp2
  have hb0 : Below w.heap.size w (w.alloc (.cells #[.int .i64 0, .int .i64 0, .int .i64 0, .int .i64 0] 56)) := b_alloc (Below.refl _ _) _
  have F0 : F4 (w.alloc (.cells #[.int .i64 0, .int .i64 0, .int .i64 0, .int .i64 0] 56)) w.heap.size := f4_new w 56 0 0 0 0
  have HB0 := Lib.hid hb0; have HF0 := Lib.hid F0; clear hb0 F0
  go_loopw [5] (fun s wr => ∃ k : Nat, k ≤ i ∧ s = .int .i64 k ∧ wr = w.alloc (.cells #[.int .i64 0, .int .i64 0, .int .i64 0, .int .i64 0] 56)) (fun s _ => i - (intOf s).toNat)
  case atStart => exact ⟨0, Nat.zero_le _, rfl, rfl⟩
  case round =>
    obtain ⟨k, hk, rfl, rfl⟩ := hrel
    have hbl := HB0.out
    have hn4 := n4_keep hbl (HV.out k (by omega))
    obtain ⟨⟨c0, c1⟩, c2, c3⟩ := hn4
    have hw1 : IntKind.i64.wrap ((k : Int) + 1) = ((k + 1 : Nat) : Int) := by rw [IntWalk.i64_in _ (by omega)]; omega
    by_cases hlt : k < i
    · have hp4 := n4_keep hbl (HV.out (k + 1) (by omega))
      obtain ⟨⟨e0, e1⟩, e2, e3⟩ := hp4
      have d1 : decide ((k : Int) + 1 < (n : Int)) = true := decide_eq_true (by omega)
      have u2 : T (k + 1) ≤ t := HU.out _ (by omega)
      have d4 : ((k + 1 : Nat) : Int) < (n : Int) := by omega
      go_wp2_with fail
      go_roundw
      case rel => exact ⟨k + 1, by omega, by go_num, trivial⟩
      case measure => simp [intOf]; omega
    · have he : k = i := by omega
      subst he
      have d5 : (k : Int) < (n : Int) := by omega
      by_cases hl : k + 1 < n
      · have hp4 := n4_keep hbl (HV.out (k + 1) hl)
        obtain ⟨⟨e0, e1⟩, e2, e3⟩ := hp4
        have u1 : (k : Int) + 1 < (n : Int) := by omega
        have u2 : ¬ T (k + 1) ≤ t := by have := HN.out hl; omega
        have d4 : ((k + 1 : Nat) : Int) < (n : Int) := by omega
        have bt := BT.out; have bh := BH.out; have mh := MH.out
        obtain ⟨⟨g0, g1⟩, g2, g3⟩ := n4_keep (b_alloc (Below.refl _ _) (.cells #[.int .i64 (T k), .int .i64 (X k), .int .i64 (Y k), .int .i64 (H k)] 56)) (n4_keep hbl (HV.out (k + 1) hl))
        have W := Lib.hid (b_alloc (b_alloc (b_alloc (Below.refl w.heap.size w) (.cells #[.int .i64 0, .int .i64 0, .int .i64 0, .int .i64 0] 56)) (.cells #[.int .i64 (T k), .int .i64 (X k), .int .i64 (Y k), .int .i64 (H k)] 56)) (.cells #[.int .i64 (T (k + 1)), .int .i64 (X (k + 1)), .int .i64 (Y (k + 1)), .int .i64 (H (k + 1))] 56))
        have Z := Lib.hid (z4_keep (b_alloc (Below.refl _ _) (.cells #[.int .i64 (T (k + 1)), .int .i64 (X (k + 1)), .int .i64 (Y (k + 1)), .int .i64 (H (k + 1))] 56)) (z4_keep (b_alloc (Below.refl _ _) (.cells #[.int .i64 (T k), .int .i64 (X k), .int .i64 (Y k), .int .i64 (H k)] 56)) (z4_new w 56)))
        have A := Lib.hid (c4_alloc (.cells #[.int .i64 (T (k + 1)), .int .i64 (X (k + 1)), .int .i64 (Y (k + 1)), .int .i64 (H (k + 1))] 56) (c4_new1 w (.cells #[.int .i64 0, .int .i64 0, .int .i64 0, .int .i64 0] 56) 56 (T k) (X k) (Y k) (H k)))
        have B := Lib.hid (c4_new2 w (.cells #[.int .i64 0, .int .i64 0, .int .i64 0, .int .i64 0] 56) (.cells #[.int .i64 (T k), .int .i64 (X k), .int .i64 (Y k), .int .i64 (H k)] 56) 56 (T (k + 1)) (X (k + 1)) (Y (k + 1)) (H (k + 1)))
        go_wp2_with fail
        refine (TW.out _).mono ?_; rintro e w3 ⟨rfl, hb⟩
        have hz := z4_keep hb Z.out; have ha := c4_keep hb A.out; have hc' := c4_keep hb B.out
        have hw := b_alloc (b_next W.out hb) (.cells #[.int .i64 px, .int .i64 py] 54)
        replace hz := z4_keep (b_alloc (Below.refl _ w3) (.cells #[.int .i64 px, .int .i64 py] 54)) hz
        replace ha := c4_alloc (.cells #[.int .i64 px, .int .i64 py] 54) ha
        replace hc' := c4_alloc (.cells #[.int .i64 px, .int .i64 py] 54) hc'
        have hp := p2_new w3 54 px py
        clear hb
        go_wp2_with fail
        refine (DH.out _).mono ?_; rintro e w4 ⟨rfl, hb⟩
        subst hb
        go_wp2_with fail
        have c := c4_set t px py (H k + q) hz.1
        refine bodyPost_ret (v := .agg #[.int .i64 t, .int .i64 px, .int .i64 py, .int .i64 (H k + q)]) (by simp [results, Tryz.results56, go_sem, c.1.1, c.1.2, c.2.1, c.2.2]) rfl ⟨rfl, b_set (b_set (b_set (b_set hw (Nat.le_refl _) _) (Nat.le_refl _) _) (Nat.le_refl _) _) (Nat.le_refl _) _⟩
      · have u1 : ¬ (k : Int) + 1 < (n : Int) := by omega
        go_wp2_with fail
        all_goals exact absurd HL.out hl

end Path
end Go.Proofs.YteieagihdflapaaGreatDoor
namespace Go.Proofs.YteieagihdflapaaGreatDoor
open Go.RowKit
namespace Path
open Kit Plane
abbrev CkC (v : Value) (E : Int) (w : World) : Prop := ∀ w1 : World, Below w.heap.size w w1 → Calls Tryz.prog 54 #[v] w1 fun e w' => e = .returned (.int .i64 E) ∧ Below w1.heap.size w1 w'
theorem checkC {v : Value} {n : Nat} {T X Y H : Nat → Int} {w : World} (hv : PV w v n T X Y H) : CkC v (pchk T X Y H n) w := fun w1 hb => by
  rcases hv with ⟨h0, hv⟩ | ⟨h0, b, off, cap, hv, h1, h2, h3⟩
  · subst h0
    have e : pchk T X Y H 0 = 3 := rfl
    rw [e]
    rcases hv with hv | ⟨a, cap, hv, _⟩
    · subst hv; exact (check_nil w1).mono fun e w' ⟨he, hw⟩ => ⟨he, hw ▸ Below.refl _ _⟩
    · subst hv; exact (check_empty a cap w1).mono fun e w' ⟨he, hw⟩ => ⟨he, hw ▸ Below.refl _ _⟩
  · subst hv
    have hm : cap ≤ 9223372036854775807 := Nat.le_trans h2 (by decide)
    by_cases hl : 64 < n
    · have e : pchk T X Y H n = 2 := if_pos hl
      rw [e]
      exact (check_large n cap b off w1 hl h1 hm).mono fun e w' ⟨he, hw⟩ => ⟨he, hw ▸ Below.refl _ _⟩
    · have e : pchk T X Y H n = nchk T X Y H n := by unfold pchk; rw [if_neg hl, if_neg (by omega)]
      rw [e]
      exact check_nodes n cap b off T X Y H w1 h0 (by omega) h1 hm (Lib.hid fun k hk => n4_keep hb (h3 k hk))
set_option maxHeartbeats 600000 in
theorem At_bad (v : Value) (t E : Int) (w : World) (C : Hid (CkC v E w)) (_hE1 : (E == 0) = false) (hE2 : (E != 0) = true) :
    Calls Tryz.prog 16 #[v, .int .i64 t] w fun e w' => e = .returned (.tuple #[.agg #[.int .i64 0, .int .i64 0, .int .i64 0, .int .i64 0], .int .i64 E]) ∧ Below w.heap.size w w' := by
  go_enter Tryz.func16, Tryz.ntmps16
  have hz := z4_new w 56
  have hw := b_alloc (Below.refl w.heap.size w) (.cells #[.int .i64 0, .int .i64 0, .int .i64 0, .int .i64 0] 56)
  go_wp2_with fail
  refine (C.out _ hw).mono ?_; rintro e w1 ⟨rfl, hb⟩
  replace hz := z4_keep hb hz
  replace hw := b_next hw hb
  clear hb
  go_wp2_with fail
  have c := c4_set (0) (0) (0) (0) hz.1
  refine bodyPost_ret (v := .tuple #[.agg #[.int .i64 (0), .int .i64 (0), .int .i64 (0), .int .i64 (0)], .int .i64 (E)]) (by simp [results, Tryz.results16, go_sem, c.1.1, c.1.2, c.2.1, c.2.2]) rfl ⟨rfl, b_set (b_set (b_set (b_set hw (Nat.le_refl _) _) (Nat.le_refl _) _) (Nat.le_refl _) _) (Nat.le_refl _) _⟩
abbrev AtC (v : Value) (t px py h : Int) (w : World) : Prop := ∀ w1 : World, Below w.heap.size w w1 → Calls Tryz.prog 56 #[v, .int .i64 t] w1 fun e w' => e = .returned (.agg #[.int .i64 t, .int .i64 px, .int .i64 py, .int .i64 h]) ∧ Below w1.heap.size w1 w'
set_option maxHeartbeats 600000 in
theorem At_early (n cap b off : Nat) (T X Y H : Nat → Int) (t : Int) (w : World) (h0 : 0 < n) (hn : n ≤ 64) (_hc : n ≤ cap) (HV : Hid (∀ k, k < n → N4 w b off k (T k) (X k) (Y k) (H k))) (C : Hid (CkC (.slice (some ⟨b, off, none⟩) n cap) 0 w)) (ht : t < T 0) :
    Calls Tryz.prog 16 #[.slice (some ⟨b, off, none⟩) n cap, .int .i64 t] w fun e w' => e = .returned (.tuple #[.agg #[.int .i64 0, .int .i64 0, .int .i64 0, .int .i64 0], .int .i64 12]) ∧ Below w.heap.size w w' := by
  go_enter Tryz.func16, Tryz.ntmps16
  have hz := z4_new w 56
  have hw := b_alloc (Below.refl w.heap.size w) (.cells #[.int .i64 0, .int .i64 0, .int .i64 0, .int .i64 0] 56)
  go_wp2_with fail
  refine (C.out _ hw).mono ?_; rintro e w1 ⟨rfl, hb⟩
  replace hz := z4_keep hb hz
  replace hw := b_next hw hb
  obtain ⟨⟨c0, c1⟩, c2, c3⟩ := n4_keep hw (HV.out 0 h0)
  rw [Nat.zero_mul, Nat.add_zero] at c0
  clear hb
  have u0 : (0 : Int) < (n : Int) := by omega
  go_wp2_with fail
  have c := c4_set (0) (0) (0) (0) hz.1
  refine bodyPost_ret (v := .tuple #[.agg #[.int .i64 (0), .int .i64 (0), .int .i64 (0), .int .i64 (0)], .int .i64 (12)]) (by simp [results, Tryz.results16, go_sem, c.1.1, c.1.2, c.2.1, c.2.2]) rfl ⟨rfl, b_set (b_set (b_set (b_set hw (Nat.le_refl _) _) (Nat.le_refl _) _) (Nat.le_refl _) _) (Nat.le_refl _) _⟩
set_option maxHeartbeats 600000 in
theorem At_late (n cap b off : Nat) (T X Y H : Nat → Int) (t : Int) (w : World) (h0 : 0 < n) (hn : n ≤ 64) (_hc : n ≤ cap) (HV : Hid (∀ k, k < n → N4 w b off k (T k) (X k) (Y k) (H k))) (C : Hid (CkC (.slice (some ⟨b, off, none⟩) n cap) 0 w)) (ht : ¬ t < T 0) (ht2 : T (n - 1) < t) :
    Calls Tryz.prog 16 #[.slice (some ⟨b, off, none⟩) n cap, .int .i64 t] w fun e w' => e = .returned (.tuple #[.agg #[.int .i64 0, .int .i64 0, .int .i64 0, .int .i64 0], .int .i64 12]) ∧ Below w.heap.size w w' := by
  go_enter Tryz.func16, Tryz.ntmps16
  have hz := z4_new w 56
  have hw := b_alloc (Below.refl w.heap.size w) (.cells #[.int .i64 0, .int .i64 0, .int .i64 0, .int .i64 0] 56)
  go_wp2_with fail
  refine (C.out _ hw).mono ?_; rintro e w1 ⟨rfl, hb⟩
  replace hz := z4_keep hb hz
  replace hw := b_next hw hb
  obtain ⟨⟨c0, c1⟩, c2, c3⟩ := n4_keep hw (HV.out 0 h0)
  rw [Nat.zero_mul, Nat.add_zero] at c0
  clear hb
  obtain ⟨⟨e0, e1⟩, e2, e3⟩ := n4_keep hw (HV.out (n - 1) (by omega))
  have u0 : (0 : Int) < (n : Int) := by omega
  have u1 : IntKind.i64.wrap ((n : Int) - 1) = ((n - 1 : Nat) : Int) := by rw [IntWalk.i64_in _ (by omega)]; omega
  have u2 : ((n - 1 : Nat) : Int) < (n : Int) := by omega
  have u3 : (n : Int) - 1 = ((n - 1 : Nat) : Int) := by omega
  go_wp2_with fail
  have c := c4_set (0) (0) (0) (0) hz.1
  refine bodyPost_ret (v := .tuple #[.agg #[.int .i64 (0), .int .i64 (0), .int .i64 (0), .int .i64 (0)], .int .i64 (12)]) (by simp [results, Tryz.results16, go_sem, c.1.1, c.1.2, c.2.1, c.2.2]) rfl ⟨rfl, b_set (b_set (b_set (b_set hw (Nat.le_refl _) _) (Nat.le_refl _) _) (Nat.le_refl _) _) (Nat.le_refl _) _⟩
set_option maxHeartbeats 600000 in
theorem At_ok (n cap b off : Nat) (T X Y H : Nat → Int) (t px py h : Int) (w : World) (h0 : 0 < n) (hn : n ≤ 64) (_hc : n ≤ cap) (HV : Hid (∀ k, k < n → N4 w b off k (T k) (X k) (Y k) (H k))) (C : Hid (CkC (.slice (some ⟨b, off, none⟩) n cap) 0 w)) (ht : ¬ t < T 0) (ht2 : ¬ T (n - 1) < t) (A : Hid (AtC (.slice (some ⟨b, off, none⟩) n cap) t px py h w)) :
    Calls Tryz.prog 16 #[.slice (some ⟨b, off, none⟩) n cap, .int .i64 t] w fun e w' => e = .returned (.tuple #[.agg #[.int .i64 t, .int .i64 px, .int .i64 py, .int .i64 h], .int .i64 0]) ∧ Below w.heap.size w w' := by
  go_enter Tryz.func16, Tryz.ntmps16
  have hz := z4_new w 56
  have hw := b_alloc (Below.refl w.heap.size w) (.cells #[.int .i64 0, .int .i64 0, .int .i64 0, .int .i64 0] 56)
  go_wp2_with fail
  refine (C.out _ hw).mono ?_; rintro e w1 ⟨rfl, hb⟩
  replace hz := z4_keep hb hz
  replace hw := b_next hw hb
  obtain ⟨⟨c0, c1⟩, c2, c3⟩ := n4_keep hw (HV.out 0 h0)
  rw [Nat.zero_mul, Nat.add_zero] at c0
  clear hb
  obtain ⟨⟨e0, e1⟩, e2, e3⟩ := n4_keep hw (HV.out (n - 1) (by omega))
  have u0 : (0 : Int) < (n : Int) := by omega
  have u1 : IntKind.i64.wrap ((n : Int) - 1) = ((n - 1 : Nat) : Int) := by rw [IntWalk.i64_in _ (by omega)]; omega
  have u2 : ((n - 1 : Nat) : Int) < (n : Int) := by omega
  have u3 : (n : Int) - 1 = ((n - 1 : Nat) : Int) := by omega
  go_wp2_with fail
  refine (A.out _ hw).mono ?_; rintro e w2 ⟨rfl, hb⟩
  replace hz := z4_keep hb hz
  replace hw := b_next hw hb
  clear hb
  go_wp2_with fail
  have c := c4_set (t) (px) (py) (h) hz.1
  refine bodyPost_ret (v := .tuple #[.agg #[.int .i64 (t), .int .i64 (px), .int .i64 (py), .int .i64 (h)], .int .i64 (0)]) (by simp [results, Tryz.results16, go_sem, c.1.1, c.1.2, c.2.1, c.2.2]) rfl ⟨rfl, b_set (b_set (b_set (b_set hw (Nat.le_refl _) _) (Nat.le_refl _) _) (Nat.le_refl _) _) (Nat.le_refl _) _⟩
end Path
end Go.Proofs.YteieagihdflapaaGreatDoor
namespace Go.Proofs.YteieagihdflapaaGreatDoor
open Go.RowKit
namespace Path
open Kit Plane
/-- fly.At's error. -/
def atE (T X Y H : Nat → Int) (n : Nat) (t : Int) : Int := if pchk T X Y H n ≠ 0 then pchk T X Y H n else if t < T 0 ∨ T (n - 1) < t then 12 else 0
/-- Node i is the last one that is not later than t. -/
def seg (T : Nat → Int) (n : Nat) (t : Int) (i : Nat) : Prop := i < n ∧ T i ≤ t ∧ (i + 1 < n → t < T (i + 1))
theorem seg_ex {T : Nat → Int} {t : Int} : ∀ {n : Nat}, 0 < n → T 0 ≤ t → ∃ i, seg T n t i := by
  intro n
  induction n with
  | zero => intro h; exact absurd h (by omega)
  | succ n ih =>
    intro _ h0
    rcases Nat.eq_zero_or_pos n with hn | hn
    · subst hn; exact ⟨0, by omega, h0, fun h => by omega⟩
    · by_cases hl : T n ≤ t
      · exact ⟨n, by omega, hl, fun h => by omega⟩
      · obtain ⟨i, h1, h2, h3⟩ := ih hn h0
        refine ⟨i, by omega, h2, fun h => ?_⟩
        rcases Nat.lt_or_ge (i + 1) n with h4 | h4
        · exact h3 h4
        · rw [show i + 1 = n from by omega]; omega
theorem atE_zero {T X Y H : Nat → Int} {n : Nat} {t : Int} (h : atE T X Y H n t = 0) : pok T X Y H n ∧ T 0 ≤ t ∧ t ≤ T (n - 1) ∧ ∃ i, seg T n t i := by
  unfold atE at h
  split at h
  · rename_i h1; exact absurd h h1
  · rename_i h1
    split at h
    · omega
    · have hp := (pchk_zero n).1 (Classical.not_not.1 h1)
      exact ⟨hp, by omega, by omega, seg_ex hp.1 (by omega)⟩
theorem pok_le {T X Y H : Nat → Int} {n : Nat} (h : pok T X Y H n) {i j : Nat} (hij : i ≤ j) (hj : j < n) : T i ≤ T j := by
  rcases Nat.lt_or_ge i j with hl | hl
  · have := pok_lt h hl hj; omega
  · rw [show i = j from by omega]; exact Int.le_refl _
/-- Position and height at t, from node i on. -/
def atx (T X : Nat → Int) (i : Nat) (t : Int) : Int := tw (X i) (X (i + 1)) (t - T i) (T (i + 1) - T i)
def ath (T H : Nat → Int) (i : Nat) (t : Int) : Int := H i + (H (i + 1) - H i) * (t - T i) / (T (i + 1) - T i)
theorem atx_at {T X : Nat → Int} {i : Nat} : atx T X i (T i) = X i := by unfold atx; rw [Int.sub_self, tw_zero]
theorem ath_at {T H : Nat → Int} {i : Nat} : ath T H i (T i) = H i := by unfold ath; rw [Int.sub_self, Int.mul_zero, Int.zero_ediv, Int.add_zero]
/-- What lies between is between. -/
theorem quo_bd {d n N : Int} (hN : 0 < N) (h0 : 0 ≤ n) (h1 : n ≤ N) : (0 ≤ d * n / N ∨ d ≤ d * n / N) ∧ (d * n / N ≤ 0 ∨ d * n / N ≤ d) := by
  have e := tw_bd (a := 0) (b := d) hN h0 h1
  unfold tw at e
  rw [Int.sub_zero, Int.zero_add] at e
  exact e
theorem atC_mk {v : Value} {n : Nat} {T X Y H : Nat → Int} {w : World} (hv : PV w v n T X Y H) {t : Int} {i : Nat} (hp : pok T X Y H n) (hs : seg T n t i) (hl : t ≤ T (n - 1)) :
    AtC v t (atx T X i t) (atx T Y i t) (ath T H i t) w := fun w1 hb => by
  rcases hv with ⟨h0, -⟩ | ⟨h0, b, off, cap, hv, h1, h2, h3⟩
  · have := hp.1; omega
  · subst hv
    have hm : cap ≤ 9223372036854775807 := Nat.le_trans h2 (by decide)
    have HV : Hid (∀ k, k < n → N4 w1 b off k (T k) (X k) (Y k) (H k)) := Lib.hid fun k hk => n4_keep hb (h3 k hk)
    have HU : Hid (∀ k, k ≤ i → T k ≤ t) := Lib.hid fun k hk => Int.le_trans (pok_le hp hk hs.1) hs.2.1
    by_cases he : T i = t
    · subst he
      rw [atx_at, atx_at, ath_at]
      exact at_exact n cap b off i (T i) T X Y H w1 hs.1 hp.2.1 h1 hm HV HU (Lib.hid hs.2.2) rfl
    · have hin : i + 1 < n := by
        rcases Nat.lt_or_ge (i + 1) n with h | h
        · exact h
        · have : i = n - 1 := by have := hs.1; omega
          subst this
          have := hs.2.1; omega
      have hlt := hs.2.2 hin
      have q0 := hp.2.2.1 i hs.1
      have q1 := hp.2.2.1 (i + 1) hin
      have hle := hs.2.1
      have hq := quo_bd (d := H (i + 1) - H i) (n := t - T i) (N := T (i + 1) - T i) (by omega) (by omega) (by omega)
      refine at_between n cap b off i t T X Y H w1 hs.1 hp.2.1 h1 hm HV HU (Lib.hid hs.2.2) _ _ _ (Lib.hid hin) (Lib.hid ⟨by omega, by omega, by omega, by omega⟩)
        (Lib.hid ⟨q0.2.2.2.1, q0.2.2.2.2, q1.2.2.2.1, q1.2.2.2.2, by omega, by omega⟩) (Lib.hid fun w => ?_) (Lib.hid ?_) (Lib.hid ?_)
      · exact toward_ok _ _ _ _ _ _ w (by omega) (by omega) (by omega) (by omega) q0.2.2.1 q1.2.2.1
      · have hm := mul_bd (x := H (i + 1) - H i) (y := t - T i) (M := 60000) (N := 200000) (by omega) (by omega)
        exact dv _ _ (by omega) (by omega)
      · have hm := mul_bd (x := H (i + 1) - H i) (y := t - T i) (M := 60000) (N := 200000) (by omega) (by omega)
        omega
theorem fly_At_ok {v : Value} {n : Nat} {T X Y H : Nat → Int} {w : World} (hv : PV w v n T X Y H) {t : Int} {i : Nat} (h : atE T X Y H n t = 0) (hs : seg T n t i) :
    Calls Tryz.prog 16 #[v, .int .i64 t] w fun e w' => e = .returned (.tuple #[.agg #[.int .i64 t, .int .i64 (atx T X i t), .int .i64 (atx T Y i t), .int .i64 (ath T H i t)], .int .i64 0]) ∧ Below w.heap.size w w' := by
  obtain ⟨hp, h0, h1, -⟩ := atE_zero h
  have A := atC_mk hv hp hs h1
  have C := checkC hv
  rw [(pchk_zero n).2 hp] at C
  rcases hv with ⟨h0, -⟩ | ⟨hn, b, off, cap, hv, h1', h2, h3⟩
  · have := hp.1; omega
  · subst hv
    exact At_ok n cap b off T X Y H t _ _ _ w hp.1 hp.2.1 h1' (Lib.hid h3) (Lib.hid C) (by omega) (by omega) (Lib.hid A)
theorem fly_At_bad {v : Value} {n : Nat} {T X Y H : Nat → Int} {w : World} (hv : PV w v n T X Y H) {t : Int} (h : atE T X Y H n t ≠ 0) :
    Calls Tryz.prog 16 #[v, .int .i64 t] w fun e w' => e = .returned (.tuple #[.agg #[.int .i64 0, .int .i64 0, .int .i64 0, .int .i64 0], .int .i64 (atE T X Y H n t)]) ∧ Below w.heap.size w w' := by
  have C := checkC hv
  unfold atE at h ⊢
  by_cases hE : pchk T X Y H n ≠ 0
  · rw [if_pos hE]
    exact At_bad v t _ w (Lib.hid C) (by simpa using hE) (by simpa using hE)
  · rw [if_neg hE] at h ⊢
    by_cases ht : t < T 0 ∨ T (n - 1) < t
    · rw [if_pos ht]
      have hE := Classical.not_not.1 hE
      have hp := (pchk_zero n).1 hE
      rw [hE] at C
      rcases hv with ⟨h0, -⟩ | ⟨hn, b, off, cap, hv, h1', h2, h3⟩
      · have := hp.1; omega
      · subst hv
        by_cases hc : t < T 0
        · exact At_early n cap b off T X Y H t w hp.1 hp.2.1 h1' (Lib.hid h3) (Lib.hid C) hc
        · exact At_late n cap b off T X Y H t w hp.1 hp.2.1 h1' (Lib.hid h3) (Lib.hid C) hc (by omega)
    · rw [if_neg ht] at h; exact absurd rfl h
end Path
end Go.Proofs.YteieagihdflapaaGreatDoor
