/- TopRoute: the law walked, over what its callees answer. -/
import Derived.Test.YtmkglhoahdlogaaGreatDoorJ29
import Derived.Test.YtmkglhoahdlogaaGreatDoorJ01
import Derived.Deep.RegionHeld3
namespace Go.Proofs.YtmkglhoahdlogaaGreatDoor
open Go.RowKit
namespace TopRoute
open Kit Chart Route
set_option maxRecDepth 100000 in
set_option maxHeartbeats 8000000 in
theorem core_bad (cl kd f t : ByteArray) (off sp h : Int) (A1 A2 A3 : Option Addr) (n k1 m k2 nr k3 : Nat) (E : Int) (w : World) (hE1 : (E != 0) = true) (WK : Hid (∀ w1, Below w.heap.size w w1 → Calls Tryz.prog 4 #[] w1 fun e w' => e = .returned (.bool true) ∧ Below w1.heap.size w1 w'))
    (EX : Hid (∀ w1, Below w.heap.size w w1 → Calls Tryz.prog 5 #[Plan.plan cl kd f t off sp h (.slice A3 nr k3), .agg #[.slice A1 n k1, .slice A2 m k2]] w1 fun e w' => e = .returned (.tuple #[.slice none 0 0, .int .i64 E]) ∧ Below w1.heap.size w1 w')) :
    Calls Tryz.prog 3 #[Plan.plan cl kd f t off sp h (.slice A3 nr k3), .agg #[.slice A1 n k1, .slice A2 m k2]] w fun e w' => e = .returned (.bool true) ∧ Below w.heap.size w w' := by
  have hE0 : (E == 0) = false := by simpa using hE1
  have n8 := Plan.n8_new w 24 cl kd f t off sp h (.slice A3 nr k3)
  have N0 : Hid (Plan.N8 ((w.alloc (.cells #[.string cl, .string kd, .string f, .string t, .int .i64 off, .int .i64 sp, .int .i64 h, .slice A3 nr k3] 24)).alloc (.cells #[.slice A1 n k1, .slice A2 m k2] 28)) w.heap.size cl kd f t off sp h (.slice A3 nr k3)) := Lib.hid (Plan.n8_keep (b_alloc (Below.refl _ _) _) n8)
  have p2 := p2v_new (w.alloc (.cells #[.string cl, .string kd, .string f, .string t, .int .i64 off, .int .i64 sp, .int .i64 h, .slice A3 nr k3] 24)) 28 (.slice A1 n k1) (.slice A2 m k2)
  rw [World.size_alloc] at p2
  have C0 := Lib.hid p2
  have W0 := Lib.hid (b_alloc (b_alloc (Below.refl w.heap.size w) (.cells #[.string cl, .string kd, .string f, .string t, .int .i64 off, .int .i64 sp, .int .i64 h, .slice A3 nr k3] 24)) (.cells #[.slice A1 n k1, .slice A2 m k2] 28))
  obtain ⟨n0, hn0⟩ : ∃ n0, n0 = w.heap.size := ⟨_, rfl⟩
  clear n8 p2
  go_enter Tryz.func3, Tryz.ntmps3
  go_wp2_with fail
  rw [← hn0] at N0 C0 ⊢
  clear hn0
  (with_reducible refine (WK.out _ W0.out).mono ?_); rintro e w1 ⟨rfl, hb⟩
  have W1 := Lib.hid (b_next W0.out hb); have N1 := Lib.hid (Plan.n8_keep hb N0.out); have C1 := Lib.hid (p2v_keep hb C0.out); clear hb
  obtain ⟨x0, x1, x2, x3, x4, x5, x6, x7⟩ := N1.out
  obtain ⟨y0, y1⟩ := C1.out
  go_wp2_with fail
  (with_reducible refine (EX.out _ W1.out).mono ?_); rintro e w2 ⟨rfl, hb⟩
  have W2 := Lib.hid (b_next W1.out hb)
  clear hb x0 x1 x2 x3 x4 x5 x6 x7 y0 y1
  go_wp2_with fail
  go_ret
  exact ⟨by first | rfl | exact retb rfl, W2.out⟩
/-- Whether a name is among the first c ones of a list. -/
def among (L : List ByteArray) (s : ByteArray) (c : Nat) : Bool := (L.take c).any fun x => x.toList == s.toList
theorem among_step {L : List ByteArray} {s : ByteArray} {c : Nat} (h : c < L.length) : among L s (c + 1) = (among L s c || (L.getD c ⟨#[]⟩).toList == s.toList) := by
  unfold among
  rw [List.take_add_one, List.any_append, List.getD_eq_getElem?_getD, List.getElem?_eq_getElem h]
  simp
theorem among_all {L : List ByteArray} {s : ByteArray} (h : among L s L.length = true) : s ∈ L := by
  unfold among at h
  rw [List.take_length, List.any_eq_true] at h
  obtain ⟨x, hx, e⟩ := h
  have : x = s := by simpa [seq_eq] using e
  rw [← this]; exact hx
set_option maxRecDepth 100000 in
set_option maxHeartbeats 8000000 in
theorem core (cl kd f t : ByteArray) (off sp h : Int) (A1 A2 A3 : Option Addr) (n k1 m k2 nr k3 : Nat) (k : Nat) (T : Nat → ByteArray) (FXx FYy : Nat → Int) (LK : Nat → List ByteArray) (R : Int) (w : World) (hk1 : 1 ≤ k) (hk : k ≤ 62) (HLK : Hid (∀ j, j < k → (LK j).length ≤ 64)) (WK : Hid (∀ w1, Below w.heap.size w w1 → Calls Tryz.prog 4 #[] w1 fun e w' => e = .returned (.bool true) ∧ Below w1.heap.size w1 w'))
    (EX : Hid (∀ w1, Below w.heap.size w w1 → Calls Tryz.prog 5 #[Plan.plan cl kd f t off sp h (.slice A3 nr k3), .agg #[.slice A1 n k1, .slice A2 m k2]] w1 fun e w' => (∃ v, e = .returned (.tuple #[v, .int .i64 0]) ∧ FV w' v k T FXx FYy) ∧ Below w1.heap.size w1 w'))
    (LC : Hid (∀ w1 j, Below w.heap.size w w1 → j < k → Calls Tryz.prog 6 #[.agg #[.slice A1 n k1, .slice A2 m k2], .string (T j)] w1 fun e w' => (∃ v, e = .returned (.tuple #[v, .int .i64 0]) ∧ SL w' v (LK j)) ∧ Below w1.heap.size w1 w'))
    (RL : Hid (∀ w1 v, FV w1 v k T FXx FYy → Calls Tryz.prog 7 #[v] w1 fun e w' => e = .returned (.tuple #[.int .i64 R, .int .i64 0]) ∧ Below w1.heap.size w1 w'))
    (PA : Hid ((∀ j, j + 1 < k → T (j + 1) ∈ LK j) → ∀ w1, Below w.heap.size w w1 → Calls Tryz.prog 8 #[.agg #[.slice A1 n k1, .slice A2 m k2], .string f, .string t] w1 fun e w' => (∃ u q, e = .returned (.tuple #[u, .int .i64 q, .int .i64 0]) ∧ q ≤ R) ∧ Below w1.heap.size w1 w')) :
    Calls Tryz.prog 3 #[Plan.plan cl kd f t off sp h (.slice A3 nr k3), .agg #[.slice A1 n k1, .slice A2 m k2]] w fun e w' => e = .returned (.bool true) ∧ Below w.heap.size w w' := by
  have n8 := Plan.n8_new w 24 cl kd f t off sp h (.slice A3 nr k3)
  have N0 : Hid (Plan.N8 ((w.alloc (.cells #[.string cl, .string kd, .string f, .string t, .int .i64 off, .int .i64 sp, .int .i64 h, .slice A3 nr k3] 24)).alloc (.cells #[.slice A1 n k1, .slice A2 m k2] 28)) w.heap.size cl kd f t off sp h (.slice A3 nr k3)) := Lib.hid (Plan.n8_keep (b_alloc (Below.refl _ _) _) n8)
  have p2 := p2v_new (w.alloc (.cells #[.string cl, .string kd, .string f, .string t, .int .i64 off, .int .i64 sp, .int .i64 h, .slice A3 nr k3] 24)) 28 (.slice A1 n k1) (.slice A2 m k2)
  rw [World.size_alloc] at p2
  have C0 := Lib.hid p2
  have W0 := Lib.hid (b_alloc (b_alloc (Below.refl w.heap.size w) (.cells #[.string cl, .string kd, .string f, .string t, .int .i64 off, .int .i64 sp, .int .i64 h, .slice A3 nr k3] 24)) (.cells #[.slice A1 n k1, .slice A2 m k2] 28))
  obtain ⟨n0, hn0⟩ : ∃ n0, n0 = w.heap.size := ⟨_, rfl⟩
  clear n8 p2
  go_enter Tryz.func3, Tryz.ntmps3
  go_wp2_with fail
  rw [← hn0] at N0 C0 ⊢
  clear hn0
  (with_reducible refine (WK.out _ W0.out).mono ?_); rintro e w1 ⟨rfl, hb⟩
  have W1 := Lib.hid (b_next W0.out hb); have N1 := Lib.hid (Plan.n8_keep hb N0.out); have C1 := Lib.hid (p2v_keep hb C0.out); clear hb
  obtain ⟨x0, x1, x2, x3, x4, x5, x6, x7⟩ := N1.out
  obtain ⟨y0, y1⟩ := C1.out
  go_wp2_with fail
  (with_reducible refine (EX.out _ W1.out).mono ?_); rintro e w2 ⟨⟨v, rfl, hfv⟩, hb⟩
  have W2 := Lib.hid (b_next W1.out hb); have N2 := Lib.hid (Plan.n8_keep hb N1.out); have C2 := Lib.hid (p2v_keep hb C1.out)
  clear hb x0 x1 x2 x3 x4 x5 x6 x7 y0 y1
  have FV2 := Lib.hid hfv
  obtain ⟨b, o, c, rfl, hc1, hc2, h3⟩ := fv_at hfv (by omega)
  have H3 := Lib.hid h3
  have hc3 : c ≤ 9223372036854775807 := Nat.le_trans hc2 (by decide)
  clear h3 hfv N1 C1
  go_wp2_with fail
  go_loopw [7] (fun s wr => ∃ j : Nat, 1 ≤ j ∧ j ≤ k ∧ s = .int .i64 j ∧ (∀ a, a + 1 < j → T (a + 1) ∈ LK a) ∧ Below w2.heap.size w2 wr) (fun s _ => k - (intOf s).toNat)
  case atStart => exact ⟨1, Nat.le_refl _, hk1, rfl, fun a h => by omega, Below.refl _ _⟩
  case round =>
    obtain ⟨j, hj1, hj, rfl, hall, hbl⟩ := hrel
    have WR := Lib.hid (b_next W2.out hbl); have BL := Lib.hid hbl; have ALL := Lib.hid hall
    clear hall
    by_cases hlt : j < k
    · obtain ⟨i, hi⟩ : ∃ i, j = i + 1 := ⟨j - 1, by omega⟩
      have hl : (j : Int) < (k : Int) := by omega
      have hji : (j : Int) - 1 = (i : Int) := by omega
      have hik : (i : Int) < (k : Int) := by omega
      have hik' : i < k := by omega
      have hng : ¬ (i : Int) < 0 := by omega
      have hwr : IntKind.i64.wrap ((j : Int) - 1) = (i : Int) := by rw [IntWalk.i64_in _ (by omega), hji]
      have hwi : IntKind.i64.wrap (i : Int) = (i : Int) := IntWalk.i64_in _ (by omega)
      have HI := Lib.hid hi
      have e0 := (e3_keep hbl (H3.out i (by omega))).c0
      have e1 := (e3_keep hbl (H3.out j hlt)).c0
      have HLi := HLK.out i (by omega)
      have LCi := Lib.hid fun (w1 : World) (hb : Below wr.heap.size wr w1) => LC.out w1 i (b_next WR.out hb) (by omega)
      have MM : Hid (among (LK i) (T j) (LK i).length = true → T (i + 1) ∈ LK i) := Lib.hid fun q => by rw [← hi]; exact among_all q
      obtain ⟨y0, y1⟩ := p2v_keep hbl C2.out
      clear hbl hi
      generalize hLL : LK i = LL at *
      have HLL := Lib.hid hLL
      generalize hT1 : T i = s1 at *
      generalize hT2 : T j = s2 at *
      clear hT1 hT2 hLL
      have KP : Hid (∀ w', Below wr.heap.size wr w' → w'.cell? ⟨n0 + 1, 0, none⟩ = some (.slice A1 n k1) ∧ w'.cell? ⟨n0 + 1, 1, none⟩ = some (.slice A2 m k2) ∧ w'.cell? ⟨b, o + i * 3, none⟩ = some (.string s1) ∧ Below wr.heap.size wr w') := Lib.hid fun w' hb => ⟨keep hb y0, keep hb y1, keep hb e0, hb⟩
      go_wp2_with fail
      go_region_held3 (fun w' => w'.cell? ⟨n0 + 1, 0, none⟩ = some (.slice A1 n k1) ∧ w'.cell? ⟨n0 + 1, 1, none⟩ = some (.slice A2 m k2) ∧ w'.cell? ⟨b, o + i * 3, none⟩ = some (.string s1) ∧ Below wr.heap.size wr w')
        (first
          | exact KP.out _ (by first | ((repeat (first | exact hb3 | exact Below.refl _ _ | refine b_drew ?_)); done) | fail)
          | assumption)
        ((first
          | (go_at_call 6; (with_reducible refine (LCi.out _ (b_drew (Below.refl _ _))).mono ?_); rintro e w3 ⟨⟨u, rfl, hsl⟩, hb3'⟩; have hb3 := b_next (b_drew (Below.refl wr.heap.size wr)) hb3'; clear hb3')))
      have W3 := Lib.hid (b_next WR.out hb3); have B3 := Lib.hid (b_next BL.out hb3)
      have SL3 := Lib.hid hsl
      have E1 := Lib.hid (keep hb3 e1)
      obtain ⟨lA, lc, rfl⟩ := sl_slice hsl
      clear hsl hb3 KP LCi y0 y1 e0 e1
      have hln : (LL.length : Int) ≤ 64 := by omega
      go_wp2_with fail
      go_loopw [10, 50] (fun v s wr => ∃ a : Nat, a ≤ LL.length ∧ v = .bool (among LL s2 a) ∧ s = .int .i64 a ∧ Below w3.heap.size w3 wr) (fun _ s _ => LL.length - (intOf s).toNat)
      case atStart => exact ⟨0, Nat.zero_le _, rfl, rfl, Below.refl _ _⟩
      case round =>
        obtain ⟨a, ha, rfl, rfl, hbl⟩ := hrel
        have BX := Lib.hid hbl
        by_cases hla : a < LL.length
        · have hl2 : (a : Int) < (LL.length : Int) := by omega
          obtain ⟨lb, lo, lc', e, hlc1, hlc2, hcs⟩ := sv_at (sl_keep hbl SL3.out) (by omega)
          injection e with e1 _ e3
          subst e1 e3
          have hlc3 : lc ≤ 9223372036854775807 := Nat.le_trans hlc2 (by decide)
          have c0 := hcs a hla
          have q1 := keep hbl E1.out
          have ST := Lib.hid (among_step (s := s2) hla)
          clear hbl hcs
          generalize LL.getD a ⟨#[]⟩ = x at *
          generalize hA : among LL s2 a = A at *
          generalize hA' : among LL s2 (a + 1) = A' at *
          generalize hEq : (x.toList == s2.toList) = Q at *
          cases A with
          | true =>
            have ST' : A' = true := by have := ST.out; simpa using this
            go_wp2_with fail
            go_roundw
            case rel => exact ⟨a + 1, hla, by rw [hA']; rw [ST'], by go_num, BX.out⟩
            case measure => simp [intOf]; omega
          | false =>
            have ST' : A' = Q := by have := ST.out; simpa using this
            go_wp2_with fail
            go_roundw
            case rel => exact ⟨a + 1, hla, by rw [hA']; rw [ST'], by go_num, BX.out⟩
            case measure => simp [intOf]; omega
        · obtain rfl : a = LL.length := by omega
          have hl2 : ¬ (LL.length : Int) < (LL.length : Int) := by omega
          clear hbl
          generalize hA : among LL s2 LL.length = A at *
          cases A with
          | false =>
            go_wp2_with fail
            go_ret
            exact ⟨by first | rfl | exact retb rfl, b_next W3.out BX.out⟩
          | true =>
            have M := Lib.hid (MM.out rfl)
            go_wp2_with fail
            go_roundw
            case rel =>
              refine ⟨j + 1, by omega, by omega, by go_num, fun z hz => ?_, b_next B3.out BX.out⟩
              by_cases e : z = i
              · subst e; rw [HLL.out]; exact M.out
              · exact ALL.out z (by have := HI.out; omega)
            case measure => simp [intOf]; omega
    · obtain rfl : k = j := by omega
      have hl : ¬ (k : Int) < (k : Int) := by omega
      have RL1 := Lib.hid fun (w1 : World) (hb : Below wr.heap.size wr w1) => RL.out w1 _ (fv_keep (b_next BL.out hb) FV2.out)
      have PA1 := Lib.hid (PA.out ALL.out)
      have NR := Lib.hid (Plan.n8_keep hbl N2.out); have CR := Lib.hid (p2v_keep hbl C2.out)
      clear hbl
      go_wp2_with fail
      (with_reducible refine (RL1.out _ (Below.refl _ _)).mono ?_); rintro e w3 ⟨rfl, hb⟩
      have W3 := Lib.hid (b_next WR.out hb)
      obtain ⟨x0, x1, x2, x3, x4, x5, x6, x7⟩ := Plan.n8_keep hb NR.out
      obtain ⟨y0, y1⟩ := p2v_keep hb CR.out
      clear hb
      go_wp2_with fail
      (with_reducible refine (PA1.out _ W3.out).mono ?_); rintro e w4 ⟨⟨u, q, rfl, hq⟩, hb⟩
      have W4 := Lib.hid (b_next W3.out hb)
      have hq1 : decide (q ≤ R) = true := decide_eq_true hq
      clear hb x0 x1 x2 x3 x4 x5 x6 x7 y0 y1
      go_wp2_with fail
      go_ret
      exact ⟨by first | rfl | exact retb rfl | exact retb (by simpa using hq), W4.out⟩
end TopRoute
end Go.Proofs.YtmkglhoahdlogaaGreatDoor
