/- What tube.Of returns. -/
import Derived.Test.YteaccanhahmclaaTubeH
import Derived.Test.YteaccanhahmclaaRowM
import Derived.Test.YteaccanhahmclaaFlyAtC
namespace Go.Proofs.Yteaccanhahmclaa
open Go.RowKit
namespace Tube
open Kit Plane Path
theorem info_tn : (Try.prog.info? 70).map (fun i => (i.zero, i.size, i.bytes)) = some (some (.agg #[.int .i64 0, .int .i64 0, .int .i64 0, .int .i64 0, .int .i64 0, .int .i64 0]), 6, 48) := by kernel_rfl
set_option maxHeartbeats 1000000 in
theorem Of_bad (v : Value) (r g d E : Int) (w : World) (C : Hid (Path.CkC v E w)) (_hE1 : (E == 0) = false) (hE2 : (E != 0) = true) :
    Calls Try.prog 78 #[v, .int .i64 r, .int .i64 g, .int .i64 d] w fun e w' => e = .returned (.tuple #[.slice none 0 0, .int .i64 E]) ∧ Below w.heap.size w w' := by
  go_enter Try.func78, Try.ntmps78
  go_wp2_with fail
  (with_reducible refine (C.out _ (Below.refl _ _)).mono ?_); rintro e w1 ⟨rfl, hw⟩
  go_wp2_with fail
  go_ret2
  exact ⟨rfl, hw⟩
set_option maxHeartbeats 1000000 in
theorem Of_no (n cap b off : Nat) (_T _X _Y _H : Nat → Int) (r g d : Int) (w : World) (_h0 : 0 < n) (_hn : n ≤ 64) (_hc : n ≤ cap) (_hm : cap ≤ 9223372036854775807) (C : Hid (Path.CkC (.slice (some ⟨b, off, none⟩) n cap) 0 w)) (hx : r < 0 ∨ 1000000 < r ∨ g < 0 ∨ 1000000 < g ∨ d < 0 ∨ 60000 < d) :
    Calls Try.prog 78 #[.slice (some ⟨b, off, none⟩) n cap, .int .i64 r, .int .i64 g, .int .i64 d] w fun e w' => e = .returned (.tuple #[.slice none 0 0, .int .i64 4]) ∧ Below w.heap.size w w' := by
  go_enter Try.func78, Try.ntmps78
  go_wp2_with fail
  (with_reducible refine (C.out _ (Below.refl _ _)).mono ?_); rintro e w1 ⟨rfl, hw⟩
  go_wp2_with fail
  all_goals first | (exfalso; omega) | (go_ret2; exact ⟨rfl, hw⟩)
/-- The numbers of a tube made of a path. -/
def ofF (T X Y H : Nat → Int) (r d : Int) (wd : Nat → Int) : Nat → Nat → Int := fun i j => if j = 0 then T i else if j = 1 then X i else if j = 2 then Y i else if j = 3 then H i else if j = 4 then r + wd i else d
theorem new6 (w : World) (ty : TypeId) (t x y h r d : Int) : ∀ j u, [Value.int .i64 t, .int .i64 x, .int .i64 y, .int .i64 h, .int .i64 r, .int .i64 d][j]? = some u → (w.alloc (.cells #[.int .i64 t, .int .i64 x, .int .i64 y, .int .i64 h, .int .i64 r, .int .i64 d] ty)).cell? ((⟨w.heap.size, 0, none⟩ : Addr).add j) = some u := by
  intro j u hj
  match j, hj with
  | 0, hj => simp [Addr.add] at hj ⊢; exact hj
  | 1, hj => simp [Addr.add] at hj ⊢; exact hj
  | 2, hj => simp [Addr.add] at hj ⊢; exact hj
  | 3, hj => simp [Addr.add] at hj ⊢; exact hj
  | 4, hj => simp [Addr.add] at hj ⊢; exact hj
  | 5, hj => simp [Addr.add] at hj ⊢; exact hj
  | j + 6, hj => simp at hj
theorem new6_one {t x y h r d : Int} : ∀ u ∈ [Value.int .i64 t, .int .i64 x, .int .i64 y, .int .i64 h, .int .i64 r, .int .i64 d], u.oneCell' = true := by
  intro u hu
  simp at hu
  rcases hu with rfl | rfl | rfl | rfl | rfl | rfl <;> rfl
set_option maxRecDepth 100000 in
set_option maxHeartbeats 2000000 in
theorem Of_walk (n cap b off : Nat) (T X Y H : Nat → Int) (r g d : Int) (wd : Nat → Int) (w : World) (h0 : 0 < n) (hn : n ≤ 64) (hc : n ≤ cap) (hm : cap ≤ 9223372036854775807) (C : Hid (Path.CkC (.slice (some ⟨b, off, none⟩) n cap) 0 w)) (HV : Hid (∀ k, k < n → N4 w b off k (T k) (X k) (Y k) (H k)))
    (b1 : 0 ≤ r ∧ r ≤ 1000000) (b2 : 0 ≤ g ∧ g ≤ 1000000) (b3 : 0 ≤ d ∧ d ≤ 60000) (D : Hid (∀ k, k < n → ∀ w : World, Calls Try.prog 131 #[.int .i64 (g * (T k - T 0)), .int .i64 60] w fun e w' => e = .returned (.tuple #[.int .i64 (wd k), .int .i64 0]) ∧ Below w.heap.size w w'))
    (HB : Hid (∀ k, k < n → 0 ≤ T k ∧ T k ≤ 200000 ∧ -1000000000000 ≤ g * (T k - T 0) ∧ g * (T k - T 0) ≤ 1000000000000 ∧ -100000000000 ≤ wd k ∧ wd k ≤ 100000000000)) :
    Calls Try.prog 78 #[.slice (some ⟨b, off, none⟩) n cap, .int .i64 r, .int .i64 g, .int .i64 d] w fun e w' =>
      ((e = .returned (.tuple #[.slice none 0 0, .int .i64 4]) ∧ ∃ k, k < n ∧ 1000000 < r + wd k) ∨ (∃ v, e = .returned (.tuple #[v, .int .i64 0]) ∧ Own w' w.heap.size 70 6 v n (ofF T X Y H r d wd) ∧ ∀ k, k < n → r + wd k ≤ 1000000)) ∧ Below w.heap.size w w' := by
  obtain ⟨i0, hi, hz0, hz1, hz2⟩ := info_parts info_tn
  have I := Lib.hid (And.intro hi (And.intro hz0 (And.intro hz1 hz2))); clear hi hz0 hz1 hz2
  go_enter Try.func78, Try.ntmps78
  go_wp2_with fail
  (with_reducible refine (C.out _ (Below.refl _ _)).mono ?_); rintro e w1 ⟨rfl, hw⟩
  go_wp2_with fail
  all_goals first | (exfalso; omega) | skip
  go_loopw [45, 11] (fun s u wr => ∃ k : Nat, k ≤ n ∧ s = .int .i64 k ∧ Own wr w.heap.size 70 6 u k (ofF T X Y H r d wd) ∧ Below w.heap.size w wr ∧ ∀ j, j < k → r + wd j ≤ 1000000) (fun s _ _ => n - (intOf s).toNat)
  case atStart => exact ⟨0, Nat.zero_le _, rfl, own_nil _ _ _ _ _, hw, fun j h => absurd h (Nat.not_lt_zero _)⟩
  case round =>
    obtain ⟨k, hk, rfl, ho, hbl, hj⟩ := hrel
    have HO := Lib.hid ho; have HJ := Lib.hid hj; have HL := Lib.hid hbl; clear ho hj
    by_cases hlt : k < n
    · have hl : (k : Int) < (n : Int) := by omega
      have hB := HB.out k hlt
      have hB0 := HB.out 0 h0
      have e0 := n4_keep hbl (HV.out k hlt); clear hbl
      have Z := Lib.hid (c4_new wr 68 (T k) (X k) (Y k) (H k))
      have N0 := Lib.hid (n4_keep (b_alloc HL.out (.cells #[.int .i64 (T k), .int .i64 (X k), .int .i64 (Y k), .int .i64 (H k)] 68)) (HV.out 0 h0))
      have W0 := Lib.hid (b_alloc HL.out (.cells #[.int .i64 (T k), .int .i64 (X k), .int .i64 (Y k), .int .i64 (H k)] 68))
      have O0 := Lib.hid (own_keep (b_alloc (Below.refl wr.heap.size wr) (.cells #[.int .i64 (T k), .int .i64 (X k), .int .i64 (Y k), .int .i64 (H k)] 68)) HO.out)
      have v1 : IntKind.i64.wrap (T k - T 0) = T k - T 0 := IntWalk.i64_in _ (by omega)
      have v2 : IntKind.i64.wrap (g * (T k - T 0)) = g * (T k - T 0) := IntWalk.i64_in _ (by omega)
      go_wp2_with fail
      refine d_region (by kernel_rfl) (by kernel_rfl) ?_
      repeat
        first
          | (refine d_plain (by with_reducible rfl) ?_; apply Exists.intro; refine ⟨fun wq hc hq => ?_, ?_⟩)
          | (refine d_on (by with_reducible rfl) (by rfl) (by with_reducible rfl) ?_; apply Exists.intro; refine ⟨fun wq hc hq => ?_, ?_⟩)
          | (refine d_off (by with_reducible rfl) (by rfl) (by rfl) ?_)
          | (refine d_void (by with_reducible rfl) (by rfl) ?_)
        try any_goals
          (have q0 := c4_keep (cls hq) Z.out; obtain ⟨⟨c0, -⟩, -⟩ := n4_keep (cls hq) N0.out; rw [Nat.zero_mul, Nat.add_zero] at c0; clear hc
           go_simp
           first
             | rfl
             | (go_at_call 131; with_reducible exact call_below hq (D.out k hlt _)))
        simp only [Act.put, List.setIfInBounds_toArray, List.set_cons_zero, List.set_cons_succ]
      refine d_nil ?_
      intro w2 hb2
      have hw2 := b_next W0.out hb2
      have ho2 := own_keep hb2 O0.out
      have z2 := c4_keep hb2 Z.out
      clear hb2
      have n2 := new_ne z2.1.1
      have ho3 := own_keep (b_alloc (Below.refl w2.heap.size w2) (.cells #[.int .i64 (T k), .int .i64 (X k), .int .i64 (Y k), .int .i64 (H k), .int .i64 (r + wd k), .int .i64 d] 70)) ho2
      have HN := Lib.hid (new6 w2 70 (T k) (X k) (Y k) (H k) (r + wd k) d)
      have HO3 := Lib.hid ho3; have HW2 := Lib.hid hw2; have HW3 := Lib.hid (b_alloc hw2 (.cells #[.int .i64 (T k), .int .i64 (X k), .int .i64 (Y k), .int .i64 (H k), .int .i64 (r + wd k), .int .i64 d] 70)); clear ho3 ho2 hw2
      go_wp2_with (at_builtin; refine wpList_append_own_at _ rfl (.tmp 66) (.tmp 73) 62 rfl w.heap.size 70 i0 _ 6 48 Try.underlying62 I.out.1 I.out.2.1 I.out.2.2.1 I.out.2.2.2 rfl (by decide) _ k _ rfl HO3.out ⟨w2.heap.size, 0, none⟩ 1 1 [.int .i64 (T k), .int .i64 (X k), .int .i64 (Y k), .int .i64 (H k), .int .i64 (r + wd k), .int .i64 d] rfl rfl HN.out new6_one (by unfold maxLen; omega) (by omega) HW3.out.size ?_; intro v1 w3 hown1 hg1 hnil1 hat1)
      · go_ret2
        exact ⟨Or.inl ⟨rfl, k, hlt, by omega⟩, HW2.out⟩
      · refine ⟨⟨k + 1, by omega, by go_num, hown1, grow_below HW3.out HO3.out hg1 (Nat.le_refl _) HW3.out.size, fun j hj => ?_⟩, by simp [intOf]; omega⟩
        rcases Nat.lt_or_ge j k with h | h
        · exact HJ.out j h
        · have : j = k := by omega
          subst this; omega
    · have he : k = n := by omega
      have hl : ¬ (k : Int) < (n : Int) := by omega
      go_wp2_with fail
      go_ret2
      subst he
      exact ⟨Or.inr ⟨_, rfl, HO.out, HJ.out⟩, hbl⟩
end Tube
end Go.Proofs.Yteaccanhahmclaa
