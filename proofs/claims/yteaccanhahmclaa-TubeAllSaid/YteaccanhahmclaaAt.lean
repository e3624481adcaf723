/- What fly.at returns. -/
import Derived.Test.YteaccanhahmclaaPath
namespace Go.Proofs.Yteaccanhahmclaa
open Go.RowKit
namespace Path
open Kit Plane
/-- Four cells that may be written. -/
abbrev F4 (w : World) (b : Nat) : Prop := (w.frozen? ⟨b, 0, none⟩ = false ∧ w.frozen? ⟨b, 1, none⟩ = false) ∧ (w.frozen? ⟨b, 2, none⟩ = false ∧ w.frozen? ⟨b, 3, none⟩ = false)
theorem f4_new (w : World) (ty : TypeId) (t x y h : Int) : F4 (w.alloc (.cells #[.int .i64 t, .int .i64 x, .int .i64 y, .int .i64 h] ty)) w.heap.size := ⟨⟨by simp, by simp⟩, ⟨by simp, by simp⟩⟩
/-- Four cells of zeros that may be written. -/
abbrev Z4 (w : World) (b : Nat) : Prop := C4 w b 0 0 0 0 ∧ F4 w b
theorem z4_new (w : World) (ty : TypeId) : Z4 (w.alloc (.cells #[.int .i64 0, .int .i64 0, .int .i64 0, .int .i64 0] ty)) w.heap.size := ⟨c4_new w ty 0 0 0 0, f4_new w ty 0 0 0 0⟩
theorem z4_keep {W w1 : World} (hb : Below W.heap.size W w1) {b : Nat} (h : Z4 W b) : Z4 w1 b :=
  ⟨c4_keep hb h.1, ⟨keepF hb h.1.1.1 h.2.1.1, keepF hb h.1.1.2 h.2.1.2⟩, ⟨keepF hb h.1.2.1 h.2.2.1, keepF hb h.1.2.2 h.2.2.2⟩⟩
theorem c4_new1 (w : World) (o : Obj) (ty : TypeId) (t x y h : Int) : C4 ((w.alloc o).alloc (.cells #[.int .i64 t, .int .i64 x, .int .i64 y, .int .i64 h] ty)) (w.heap.size + 1) t x y h := by
  have c := c4_new (w.alloc o) ty t x y h; rw [World.size_alloc] at c; exact c
theorem c4_new2 (w : World) (o o' : Obj) (ty : TypeId) (t x y h : Int) : C4 (((w.alloc o).alloc o').alloc (.cells #[.int .i64 t, .int .i64 x, .int .i64 y, .int .i64 h] ty)) (w.heap.size + 1 + 1) t x y h := by
  have c := c4_new1 (w.alloc o) o' ty t x y h; rw [World.size_alloc] at c; exact c
theorem c4_set {W : World} {b : Nat} {t x y h : Int} (t' x' y' h' : Int) (hc : C4 W b t x y h) :
    C4 ((((W.setCell ⟨b, 0, none⟩ (.int .i64 t')).setCell ⟨b, 1, none⟩ (.int .i64 x')).setCell ⟨b, 2, none⟩ (.int .i64 y')).setCell ⟨b, 3, none⟩ (.int .i64 h')) b t' x' y' h' :=
  ⟨⟨cfar _ (by simp) (cfar _ (by simp) (cfar _ (by simp) (cset _ hc.1.1))), cfar _ (by simp) (cfar _ (by simp) (cset _ (cfar _ (by simp) hc.1.2)))⟩,
   ⟨cfar _ (by simp) (cset _ (cfar _ (by simp) (cfar _ (by simp) hc.2.1))), cset _ (cfar _ (by simp) (cfar _ (by simp) (cfar _ (by simp) hc.2.2)))⟩⟩
set_option maxHeartbeats 1000000 in
theorem at_exact (n cap b off i : Nat) (t : Int) (T X Y H : Nat → Int) (w : World) (hi : i < n) (_hn : n ≤ 64) (hc : n ≤ cap) (hm : cap ≤ 9223372036854775807) (HV : Hid (∀ k, k < n → N4 w b off k (T k) (X k) (Y k) (H k))) (HU : Hid (∀ k, k ≤ i → T k ≤ t)) (HN : Hid (i + 1 < n → t < T (i + 1))) (he : T i = t) :
    Calls Try.prog 90 #[.slice (some ⟨b, off, none⟩) n cap, .int .i64 t] w fun e w' => e = .returned (.agg #[.int .i64 (T i), .int .i64 (X i), .int .i64 (Y i), .int .i64 (H i)]) ∧ Below w.heap.size w w' := by
  go_enter Try.func90, Try.ntmps90
  go_wp2
  have hb0 : Below w.heap.size w (w.alloc (.cells #[.int .i64 0, .int .i64 0, .int .i64 0, .int .i64 0] 68)) := b_alloc (Below.refl _ _) _
  have F0 : F4 (w.alloc (.cells #[.int .i64 0, .int .i64 0, .int .i64 0, .int .i64 0] 68)) w.heap.size := f4_new w 68 0 0 0 0
  have HB0 := Lib.hid hb0; have HF0 := Lib.hid F0; clear hb0 F0
  go_loopw [5] (fun s wr => ∃ k : Nat, k ≤ i ∧ s = .int .i64 k ∧ wr = w.alloc (.cells #[.int .i64 0, .int .i64 0, .int .i64 0, .int .i64 0] 68)) (fun s _ => i - (intOf s).toNat)
  case atStart => exact ⟨0, Nat.zero_le _, rfl, rfl⟩
  case round =>
    obtain ⟨k, hk, rfl, rfl⟩ := hrel
    have hbl := HB0.out
    have hn4 := n4_keep hbl (HV.out k (by omega))
    obtain ⟨⟨c0, c1⟩, c2, c3⟩ := hn4
    have hw1 : IntKind.i64.wrap ((k : Int) + 1) = ((k + 1 : Nat) : Int) := by rw [IntWalk.i64_in _ (by omega)]; omega
    by_cases hlt : k < i
    · have hp4 := n4_keep hbl (HV.out (k + 1) (by omega))
      obtain ⟨⟨e0, e1⟩, e2, e3⟩ := hp4
      have d1 : decide ((k : Int) + 1 < (n : Int)) = true := decide_eq_true (by omega)
      have u2 : T (k + 1) ≤ t := HU.out _ (by omega)
      have d4 : ((k + 1 : Nat) : Int) < (n : Int) := by omega
      go_wp2_with fail
      go_roundw
      case rel => exact ⟨k + 1, by omega, by go_num, trivial⟩
      case measure => simp [intOf]; omega
    · have he : k = i := by omega
      subst he
      have d5 : (k : Int) < (n : Int) := by omega
      by_cases hl : k + 1 < n
      · have hp4 := n4_keep hbl (HV.out (k + 1) hl)
        obtain ⟨⟨e0, e1⟩, e2, e3⟩ := hp4
        have u1 : (k : Int) + 1 < (n : Int) := by omega
        have u2 : ¬ T (k + 1) ≤ t := by have := HN.out hl; omega
        have d4 : ((k + 1 : Nat) : Int) < (n : Int) := by omega
        skip
        go_wp2_with fail
        refine bodyPost_ret (v := .agg #[.int .i64 t, .int .i64 (X k), .int .i64 (Y k), .int .i64 (H k)]) (by simp [results, Try.results90, go_sem]) rfl ⟨rfl, b_alloc (b_alloc (Below.refl _ _) _) _⟩
      · have u1 : ¬ (k : Int) + 1 < (n : Int) := by omega
        go_wp2_with fail
        refine bodyPost_ret (v := .agg #[.int .i64 t, .int .i64 (X k), .int .i64 (Y k), .int .i64 (H k)]) (by simp [results, Try.results90, go_sem]) rfl ⟨rfl, b_alloc (b_alloc (Below.refl _ _) _) _⟩

set_option maxHeartbeats 1000000 in
theorem at_between (n cap b off i : Nat) (t : Int) (T X Y H : Nat → Int) (w : World) (hi : i < n) (_hn : n ≤ 64) (hc : n ≤ cap) (hm : cap ≤ 9223372036854775807) (HV : Hid (∀ k, k < n → N4 w b off k (T k) (X k) (Y k) (H k))) (HU : Hid (∀ k, k ≤ i → T k ≤ t)) (HN : Hid (i + 1 < n → t < T (i + 1))) (px py q : Int) (HL : Hid (i + 1 < n)) (BT : Hid (T i < t ∧ 0 ≤ T i ∧ t ≤ 200000 ∧ T (i + 1) ≤ 200000)) (BH : Hid (0 ≤ H i ∧ H i ≤ 60000 ∧ 0 ≤ H (i + 1) ∧ H (i + 1) ≤ 60000 ∧ -60000 ≤ q ∧ q ≤ 60000))
    (TW : Hid (∀ w : World, Calls Try.prog 135 #[.agg #[.int .i64 (X i), .int .i64 (Y i)], .agg #[.int .i64 (X (i + 1)), .int .i64 (Y (i + 1))], .int .i64 (t - T i), .int .i64 (T (i + 1) - T i)] w fun e w' => e = .returned (.tuple #[.agg #[.int .i64 px, .int .i64 py], .int .i64 0]) ∧ Below w.heap.size w w'))
    (DH : Hid (Dv ((H (i + 1) - H i) * (t - T i)) (T (i + 1) - T i) q)) (MH : Hid (-12000000000 ≤ (H (i + 1) - H i) * (t - T i) ∧ (H (i + 1) - H i) * (t - T i) ≤ 12000000000)) :
    Calls Try.prog 90 #[.slice (some ⟨b, off, none⟩) n cap, .int .i64 t] w fun e w' => e = .returned (.agg #[.int .i64 t, .int .i64 px, .int .i64 py, .int .i64 (H i + q)]) ∧ Below w.heap.size w w' := by
  have he : ¬ T i = t := by have := BT.out; omega
  go_enter Try.func90, Try.ntmps90
  go_wp2
  have hb0 : Below w.heap.size w (w.alloc (.cells #[.int .i64 0, .int .i64 0, .int .i64 0, .int .i64 0] 68)) := b_alloc (Below.refl _ _) _
  have F0 : F4 (w.alloc (.cells #[.int .i64 0, .int .i64 0, .int .i64 0, .int .i64 0] 68)) w.heap.size := f4_new w 68 0 0 0 0
  have HB0 := Lib.hid hb0; have HF0 := Lib.hid F0; clear hb0 F0
  go_loopw [5] (fun s wr => ∃ k : Nat, k ≤ i ∧ s = .int .i64 k ∧ wr = w.alloc (.cells #[.int .i64 0, .int .i64 0, .int .i64 0, .int .i64 0] 68)) (fun s _ => i - (intOf s).toNat)
  case atStart => exact ⟨0, Nat.zero_le _, rfl, rfl⟩
  case round =>
    obtain ⟨k, hk, rfl, rfl⟩ := hrel
    have hbl := HB0.out
    have hn4 := n4_keep hbl (HV.out k (by omega))
    obtain ⟨⟨c0, c1⟩, c2, c3⟩ := hn4
    have hw1 : IntKind.i64.wrap ((k : Int) + 1) = ((k + 1 : Nat) : Int) := by rw [IntWalk.i64_in _ (by omega)]; omega
    by_cases hlt : k < i
    · have hp4 := n4_keep hbl (HV.out (k + 1) (by omega))
      obtain ⟨⟨e0, e1⟩, e2, e3⟩ := hp4
      have d1 : decide ((k : Int) + 1 < (n : Int)) = true := decide_eq_true (by omega)
      have u2 : T (k + 1) ≤ t := HU.out _ (by omega)
      have d4 : ((k + 1 : Nat) : Int) < (n : Int) := by omega
      go_wp2_with fail
      go_roundw
      case rel => exact ⟨k + 1, by omega, by go_num, trivial⟩
      case measure => simp [intOf]; omega
    · have he : k = i := by omega
      subst he
      have d5 : (k : Int) < (n : Int) := by omega
      by_cases hl : k + 1 < n
      · have hp4 := n4_keep hbl (HV.out (k + 1) hl)
        obtain ⟨⟨e0, e1⟩, e2, e3⟩ := hp4
        have u1 : (k : Int) + 1 < (n : Int) := by omega
        have u2 : ¬ T (k + 1) ≤ t := by have := HN.out hl; omega
        have d4 : ((k + 1 : Nat) : Int) < (n : Int) := by omega
        have bt := BT.out; have bh := BH.out; have mh := MH.out
        obtain ⟨⟨g0, g1⟩, g2, g3⟩ := n4_keep (b_alloc (Below.refl _ _) (.cells #[.int .i64 (T k), .int .i64 (X k), .int .i64 (Y k), .int .i64 (H k)] 68)) (n4_keep hbl (HV.out (k + 1) hl))
        have W := Lib.hid (b_alloc (b_alloc (b_alloc (Below.refl w.heap.size w) (.cells #[.int .i64 0, .int .i64 0, .int .i64 0, .int .i64 0] 68)) (.cells #[.int .i64 (T k), .int .i64 (X k), .int .i64 (Y k), .int .i64 (H k)] 68)) (.cells #[.int .i64 (T (k + 1)), .int .i64 (X (k + 1)), .int .i64 (Y (k + 1)), .int .i64 (H (k + 1))] 68))
        have Z := Lib.hid (z4_keep (b_alloc (Below.refl _ _) (.cells #[.int .i64 (T (k + 1)), .int .i64 (X (k + 1)), .int .i64 (Y (k + 1)), .int .i64 (H (k + 1))] 68)) (z4_keep (b_alloc (Below.refl _ _) (.cells #[.int .i64 (T k), .int .i64 (X k), .int .i64 (Y k), .int .i64 (H k)] 68)) (z4_new w 68)))
        have A := Lib.hid (c4_alloc (.cells #[.int .i64 (T (k + 1)), .int .i64 (X (k + 1)), .int .i64 (Y (k + 1)), .int .i64 (H (k + 1))] 68) (c4_new1 w (.cells #[.int .i64 0, .int .i64 0, .int .i64 0, .int .i64 0] 68) 68 (T k) (X k) (Y k) (H k)))
        have B := Lib.hid (c4_new2 w (.cells #[.int .i64 0, .int .i64 0, .int .i64 0, .int .i64 0] 68) (.cells #[.int .i64 (T k), .int .i64 (X k), .int .i64 (Y k), .int .i64 (H k)] 68) 68 (T (k + 1)) (X (k + 1)) (Y (k + 1)) (H (k + 1)))
        go_wp2_with fail
        refine (TW.out _).mono ?_; rintro e w3 ⟨rfl, hb⟩
        have hz := z4_keep hb Z.out; have ha := c4_keep hb A.out; have hc' := c4_keep hb B.out
        have hw := b_alloc (b_next W.out hb) (.cells #[.int .i64 px, .int .i64 py] 43)
        replace hz := z4_keep (b_alloc (Below.refl _ w3) (.cells #[.int .i64 px, .int .i64 py] 43)) hz
        replace ha := c4_alloc (.cells #[.int .i64 px, .int .i64 py] 43) ha
        replace hc' := c4_alloc (.cells #[.int .i64 px, .int .i64 py] 43) hc'
        have hp := p2_new w3 43 px py
        clear hb
        go_wp2_with fail
        refine (DH.out _).mono ?_; rintro e w4 ⟨rfl, hb⟩
        subst hb
        go_wp2_with fail
        have c := c4_set t px py (H k + q) hz.1
        refine bodyPost_ret (v := .agg #[.int .i64 t, .int .i64 px, .int .i64 py, .int .i64 (H k + q)]) (by simp [results, Try.results90, go_sem, c.1.1, c.1.2, c.2.1, c.2.2]) rfl ⟨rfl, b_set (b_set (b_set (b_set hw (Nat.le_refl _) _) (Nat.le_refl _) _) (Nat.le_refl _) _) (Nat.le_refl _) _⟩
      · have u1 : ¬ (k : Int) + 1 < (n : Int) := by omega
        go_wp2_with fail
        all_goals exact absurd HL.out hl

end Path
end Go.Proofs.Yteaccanhahmclaa
