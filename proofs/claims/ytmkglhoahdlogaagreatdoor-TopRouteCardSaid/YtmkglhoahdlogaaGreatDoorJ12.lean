/- Joined texts: FlyQ, FlyS. -/
import Derived.Test.YtmkglhoahdlogaaGreatDoorJ11
import Derived.Test.YtmkglhoahdlogaaGreatDoorFlyI
namespace Go.Proofs.YtmkglhoahdlogaaGreatDoor
open Go.RowKit
namespace Fly
open Kit Plane Num
/-- How many fixes the first k nodes have passed. -/
def gr (X Y : Nat → Int) (m : Nat) (f : Nd) : Nat → Nat
  | 0 => 0
  | k + 1 => if gr X Y m f k < m ∧ f k 1 = X (gr X Y m f k) ∧ f k 2 = Y (gr X Y m f k) then gr X Y m f k + 1 else gr X Y m f k
section
variable {X Y : Nat → Int} {m : Nat} {f : Nd}
theorem gr_le : ∀ k, gr X Y m f k ≤ m
  | 0 => Nat.zero_le _
  | k + 1 => by
    have := gr_le k
    unfold gr
    split <;> omega
theorem gr_succ (k : Nat) : gr X Y m f k ≤ gr X Y m f (k + 1) := by
  show gr X Y m f k ≤ if gr X Y m f k < m ∧ f k 1 = X (gr X Y m f k) ∧ f k 2 = Y (gr X Y m f k) then gr X Y m f k + 1 else gr X Y m f k
  split <;> omega
theorem gr_mono {i : Nat} : ∀ {j : Nat}, i ≤ j → gr X Y m f i ≤ gr X Y m f j
  | 0, h => by rw [show i = 0 by omega]; exact Nat.le_refl _
  | j + 1, h => by
    rcases Nat.lt_or_ge i (j + 1) with hl | hl
    · exact Nat.le_trans (gr_mono (i := i) (j := j) (by omega)) (gr_succ j)
    · rw [show i = j + 1 by omega]; exact Nat.le_refl _
theorem gr_emb {e : Nat → Nat} (h1 : ∀ a, a < m → f (e a) 1 = X a ∧ f (e a) 2 = Y a) (h2 : ∀ a, a + 1 < m → e a < e (a + 1)) : ∀ a, a < m → a + 1 ≤ gr X Y m f (e a + 1)
  | 0, ha => by
    rcases Nat.eq_zero_or_pos (gr X Y m f (e 0)) with h | h
    · have : gr X Y m f (e 0 + 1) = gr X Y m f (e 0) + 1 := by
        show (if _ then _ else _) = _
        rw [if_pos ⟨by omega, by rw [h]; exact (h1 0 ha).1, by rw [h]; exact (h1 0 ha).2⟩]
      omega
    · exact Nat.le_trans h (gr_succ _)
  | a + 1, ha => by
    have hp := gr_emb h1 h2 a (by omega)
    have hm : gr X Y m f (e a + 1) ≤ gr X Y m f (e (a + 1)) := gr_mono (h2 a ha)
    rcases Nat.lt_or_ge (a + 1) (gr X Y m f (e (a + 1))) with h | h
    · exact Nat.le_trans h (gr_succ _)
    · have hq : gr X Y m f (e (a + 1)) = a + 1 := by omega
      have : gr X Y m f (e (a + 1) + 1) = gr X Y m f (e (a + 1)) + 1 := by
        show (if _ then _ else _) = _
        rw [if_pos ⟨by omega, by rw [hq]; exact (h1 (a + 1) ha).1, by rw [hq]; exact (h1 (a + 1) ha).2⟩]
      omega
theorem gr_all {n : Nat} (h : Emb m X Y n f) : gr X Y m f n = m := by
  obtain ⟨e, h1, h2⟩ := h
  rcases Nat.eq_zero_or_pos m with h0 | h0
  · have := gr_le (X := X) (Y := Y) (m := m) (f := f) n; omega
  · have hl := gr_emb (fun a ha => (h1 a ha).2) h2 (m - 1) (by omega)
    have h3 := (h1 (m - 1) (by omega)).1
    have h4 : gr X Y m f (e (m - 1) + 1) ≤ gr X Y m f n := gr_mono h3
    have h5 := gr_le (X := X) (Y := Y) (m := m) (f := f) n
    omega
theorem gr_congr {g : Nd} (h : ∀ k j, j < 3 → f k j = g k j) : ∀ k, gr X Y m f k = gr X Y m g k
  | 0 => rfl
  | k + 1 => by
    show (if _ then _ else _) = (if _ then _ else _)
    rw [gr_congr h k, h k 1 (by decide), h k 2 (by decide)]
end
section
variable {off h climb desc : Int} {D X Y : Nat → Int} {n : Nat}
/-- The nodes after all insertions. -/
theorem ok_st (h2 : 2 ≤ n) (hg : ∀ k, k < n → Plane.good (X k) (Y k)) (hu : 1 ≤ du h climb) (hd : 1 ≤ du h desc) : ∀ k, k ≤ stK off h climb desc D n →
    Ok off (fen off D n) (stN off h climb desc D X Y n k) (stF off h climb desc D X Y n k) ∧ stN off h climb desc D X Y n k ≤ n + k ∧ Emb n X Y (stN off h climb desc D X Y n k) (stF off h climb desc D X Y n k) := by
  intro k hk
  have o0 : Ok off (fen off D n) n (nd0 off D X Y) := ok_nd0 h2 hg
  have e0 : Emb n X Y n (nd0 off D X Y) := emb_nd0 off D X Y n
  unfold stK at hk
  rcases Nat.eq_zero_or_pos k with h0 | h0
  · subst h0; exact ⟨o0, Nat.le_refl _, e0⟩
  · split at hk
    · rename_i hfl
      have o1 := ok_step o0 (t := ft1 off h climb) (by unfold ft1; omega) (by unfold ft1; omega)
      have e1 := emb_step e0 (ft1 off h climb)
      rcases (show k = 1 ∨ k = 2 by omega) with rfl | rfl
      · exact ⟨o1.1, by have := o1.2.1; exact this, e1⟩
      · have o2 := ok_step o1.1 (t := ft2 off h desc D n) (by unfold ft2; omega) (by unfold ft2; omega)
        have e2 := emb_step e1 (ft2 off h desc D n)
        exact ⟨o2.1, Nat.le_trans o2.2.1 (by have := o1.2.1; omega), e2⟩
    · omega
end
/-- The flight is a path. -/
theorem fin_ok {off en h climb desc ceil : Int} {n : Nat} {f : Nd} (o : Ok off en n f) (h64 : n ≤ 64) (b0 : 0 ≤ off) (b1 : en ≤ 200000) (hh : 1 ≤ h ∧ h ≤ 60000 ∧ h ≤ ceil) (hc : 1 ≤ climb) (hd : 1 ≤ desc) :
    Path.pok (fun k => fin off h climb desc ceil (en - off) f k 0) (fun k => fin off h climb desc ceil (en - off) f k 1) (fun k => fin off h climb desc ceil (en - off) f k 2) (fun k => fin off h climb desc ceil (en - off) f k 3) n ∧
    (∀ k, k < n → fin off h climb desc ceil (en - off) f k 3 ≤ h) ∧ fin off h climb desc ceil (en - off) f 0 3 = 0 ∧ fin off h climb desc ceil (en - off) f (n - 1) 3 = 0 ∧ fin off h climb desc ceil (en - off) f 0 0 = off ∧ fin off h climb desc ceil (en - off) f (n - 1) 0 = en := by
  have e0 : ∀ k, fin off h climb desc ceil (en - off) f k 0 = f k 0 := fun k => if_neg (by decide)
  have e1 : ∀ k, fin off h climb desc ceil (en - off) f k 1 = f k 1 := fun k => if_neg (by decide)
  have e2 : ∀ k, fin off h climb desc ceil (en - off) f k 2 = f k 2 := fun k => if_neg (by decide)
  have e3 : ∀ k, fin off h climb desc ceil (en - off) f k 3 = (Kind.prof ceil climb desc h (en - off) (f k 0 - off)).1 := fun k => if_pos rfl
  have tb : ∀ k, k < n → off ≤ f k 0 ∧ f k 0 ≤ en := fun k hk => by
    have a := o.le (Nat.zero_le k) hk
    have b := o.le (i := k) (j := n - 1) (by omega) (by have := o.two; omega)
    rw [o.first] at a; rw [o.last] at b
    exact ⟨a, b⟩
  have pf : ∀ k, k < n → (Kind.prof ceil climb desc h (en - off) (f k 0 - off)).1 = min h (min (climb * (f k 0 - off)) (desc * (en - off - (f k 0 - off)))) := fun k hk => by
    have := tb k hk
    unfold Kind.prof
    rw [if_neg (by omega), if_neg (by omega)]
  have two := o.two
  have mulpos : ∀ a b : Int, 0 ≤ a → 0 ≤ b → 0 ≤ a * b := fun a b ha hb => Int.mul_nonneg ha hb
  have bd : ∀ k, k < n → 0 ≤ fin off h climb desc ceil (en - off) f k 3 ∧ fin off h climb desc ceil (en - off) f k 3 ≤ h := fun k hk => by
    have := tb k hk
    rw [e3, pf k hk]
    have a := mulpos climb (f k 0 - off) (by omega) (by omega)
    have b := mulpos desc (en - off - (f k 0 - off)) (by omega) (by omega)
    omega
  refine ⟨⟨by omega, h64, fun k hk => ?_, fun k hk => ?_⟩, fun k hk => (bd k hk).2, ?_, ?_, ?_, ?_⟩
  · have := tb k hk; have := bd k hk
    dsimp only
    rw [e0, e1, e2]
    exact ⟨by omega, by omega, o.good k hk, by omega, by omega⟩
  · dsimp only; rw [e0, e0]; exact o.inc k hk
  · rw [e3, pf 0 (by omega), o.first, Int.sub_self, Int.mul_zero]
    have b := mulpos desc (en - off - 0) (by omega) (by have := tb 0 (by omega); omega)
    omega
  · rw [e3, pf (n - 1) (by omega), o.last, Int.sub_self, Int.mul_zero]
    have b := mulpos climb (en - off) (by omega) (by have := tb 0 (by omega); omega)
    omega
  · rw [e0, o.first]
  · rw [e0, o.last]
end Fly
end Go.Proofs.YtmkglhoahdlogaaGreatDoor
namespace Go.Proofs.YtmkglhoahdlogaaGreatDoor
open Go.RowKit
namespace Fly
open Kit Plane Path
set_option maxHeartbeats 600000 in
theorem cmp (t x y h u : Int) (w : World) (ht : 0 ≤ t ∧ t ≤ 200000) (hu : -200000 ≤ u ∧ u ≤ 400000) :
    Calls Tryz.prog 59 #[.agg #[.int .i64 t, .int .i64 x, .int .i64 y, .int .i64 h], .int .i64 u] w fun e w' => e = .returned (.int .i64 (t - u)) ∧ Below w.heap.size w w' := by
  go_enter Tryz.func59, Tryz.ntmps59
  go_wp2_with fail
  go_ret
  exact ⟨ret1 rfl, b_alloc (Below.refl _ _) _⟩
set_option maxRecDepth 100000 in
set_option maxHeartbeats 2000000 in
theorem search_yes (n cap b off : Nat) (T X Y H : Nat → Int) (t : Int) (i : Nat) (w : World) (hi : i < n) (hn : n ≤ 64) (hc : n ≤ cap) (hm : cap ≤ 9223372036854775807) (HV : Hid (∀ k, k < n → N4 w b off k (T k) (X k) (Y k) (H k)))
    (HL : Hid (∀ k, k < i → T k < t)) (HR : Hid (∀ k, i ≤ k → k < n → t ≤ T k)) (HT : Hid (∀ k, k < n → 0 ≤ T k ∧ T k ≤ 200000)) (ht : -200000 ≤ t ∧ t ≤ 400000) (hf : T i = t) :
    Calls Tryz.prog 58 #[.slice (some ⟨b, off, none⟩) n cap, .int .i64 t, .func (.func 59) #[] #[]] w fun e w' => e = .returned (.tuple #[.int .i64 i, .bool true]) ∧ Below w.heap.size w w' := by
  have HFF := Lib.hid hf; clear hf
  go_enter Tryz.func58, Tryz.ntmps58
  go_wp2_with fail
  go_loopw [9, 10] (fun s u wr => ∃ lo hi : Nat, lo ≤ i ∧ i ≤ hi ∧ hi ≤ n ∧ s = .int .i64 lo ∧ u = .int .i64 hi ∧ Below w.heap.size w wr) (fun s u _ => (intOf u).toNat - (intOf s).toNat)
  case atStart => exact ⟨0, n, Nat.zero_le _, by omega, Nat.le_refl _, rfl, rfl, Below.refl _ _⟩
  case round =>
    obtain ⟨lo, hh, h1, h2, h3, rfl, rfl, hbl⟩ := hrel
    by_cases hlt : lo < hh
    · have hl : (lo : Int) < (hh : Int) := by omega
      obtain ⟨md, hmd⟩ : ∃ md, md = (lo + hh) / 2 := ⟨_, rfl⟩
      have hm1 : lo ≤ md ∧ md < hh := by omega
      obtain ⟨⟨c0, c1⟩, c2, c3⟩ := n4_keep hbl (HV.out md (by omega))
      have tb := HT.out md (by omega)
      have hmn : (md : Int) < (n : Int) := by omega
      have hmx : ((lo : Int) + (hh : Int)) / 2 = (md : Int) := by omega
      have HMD := Lib.hid hmd; clear hmd
      go_wp2_with fail
      refine (cmp _ _ _ _ _ _ tb ht).mono ?_; rintro e w1 ⟨rfl, h⟩
      have hb1 := b_next hbl h; clear h
      by_cases hcm : T md < t
      · have hmi : md < i := by
          rcases Nat.lt_or_ge md i with h | h
          · exact h
          · have := HR.out md h (by omega); omega
        have d1 : T md - t < 0 := by omega
        go_wp2_with fail
        go_roundw
        case rel => first | exact ⟨md + 1, hh, by omega, h2, h3, by go_num, rfl, hb1⟩ | ((repeat apply Exists.intro); exact ⟨⟨md + 1, hh, by omega, h2, h3, by go_num, rfl, hb1⟩, rfl⟩)
        case measure => simp [intOf]; omega
      · have hmi : i ≤ md := by
          rcases Nat.lt_or_ge md i with h | h
          · have := HL.out md h; omega
          · exact h
        have d1 : ¬ T md - t < 0 := by omega
        go_wp2_with fail
        go_roundw
        case rel => first | exact ⟨lo, md, h1, hmi, by omega, rfl, by go_num, hb1⟩ | ((repeat apply Exists.intro); exact ⟨⟨lo, md, h1, hmi, by omega, rfl, by go_num, hb1⟩, rfl⟩)
        case measure => simp [intOf]; omega
    · have e1 : lo = i := by omega
      subst e1
      obtain ⟨⟨c0, c1⟩, c2, c3⟩ := n4_keep hbl (HV.out lo hi)
      have tb := HT.out lo hi
      have hl : ¬ (lo : Int) < (hh : Int) := by omega
      have hln : (lo : Int) < (n : Int) := by omega
      go_wp2_with fail
      refine (cmp _ _ _ _ _ _ tb ht).mono ?_; rintro e w1 ⟨rfl, h⟩
      have hb1 := b_next hbl h; clear h
      have hf := HFF.out
      have hz : (T lo - t == 0) = true := by simp; omega
      go_wp2_with fail
      go_ret2
      exact ⟨by first | rfl | simp, hb1⟩
set_option maxRecDepth 100000 in
set_option maxHeartbeats 2000000 in
theorem search_no (n cap b off : Nat) (T X Y H : Nat → Int) (t : Int) (i : Nat) (w : World) (hi : i < n) (hn : n ≤ 64) (hc : n ≤ cap) (hm : cap ≤ 9223372036854775807) (HV : Hid (∀ k, k < n → N4 w b off k (T k) (X k) (Y k) (H k)))
    (HL : Hid (∀ k, k < i → T k < t)) (HR : Hid (∀ k, i ≤ k → k < n → t ≤ T k)) (HT : Hid (∀ k, k < n → 0 ≤ T k ∧ T k ≤ 200000)) (ht : -200000 ≤ t ∧ t ≤ 400000) (hf : ¬ T i = t) :
    Calls Tryz.prog 58 #[.slice (some ⟨b, off, none⟩) n cap, .int .i64 t, .func (.func 59) #[] #[]] w fun e w' => e = .returned (.tuple #[.int .i64 i, .bool false]) ∧ Below w.heap.size w w' := by
  have HFF := Lib.hid hf; clear hf
  go_enter Tryz.func58, Tryz.ntmps58
  go_wp2_with fail
  go_loopw [9, 10] (fun s u wr => ∃ lo hi : Nat, lo ≤ i ∧ i ≤ hi ∧ hi ≤ n ∧ s = .int .i64 lo ∧ u = .int .i64 hi ∧ Below w.heap.size w wr) (fun s u _ => (intOf u).toNat - (intOf s).toNat)
  case atStart => exact ⟨0, n, Nat.zero_le _, by omega, Nat.le_refl _, rfl, rfl, Below.refl _ _⟩
  case round =>
    obtain ⟨lo, hh, h1, h2, h3, rfl, rfl, hbl⟩ := hrel
    by_cases hlt : lo < hh
    · have hl : (lo : Int) < (hh : Int) := by omega
      obtain ⟨md, hmd⟩ : ∃ md, md = (lo + hh) / 2 := ⟨_, rfl⟩
      have hm1 : lo ≤ md ∧ md < hh := by omega
      obtain ⟨⟨c0, c1⟩, c2, c3⟩ := n4_keep hbl (HV.out md (by omega))
      have tb := HT.out md (by omega)
      have hmn : (md : Int) < (n : Int) := by omega
      have hmx : ((lo : Int) + (hh : Int)) / 2 = (md : Int) := by omega
      have HMD := Lib.hid hmd; clear hmd
      go_wp2_with fail
      refine (cmp _ _ _ _ _ _ tb ht).mono ?_; rintro e w1 ⟨rfl, h⟩
      have hb1 := b_next hbl h; clear h
      by_cases hcm : T md < t
      · have hmi : md < i := by
          rcases Nat.lt_or_ge md i with h | h
          · exact h
          · have := HR.out md h (by omega); omega
        have d1 : T md - t < 0 := by omega
        go_wp2_with fail
        go_roundw
        case rel => first | exact ⟨md + 1, hh, by omega, h2, h3, by go_num, rfl, hb1⟩ | ((repeat apply Exists.intro); exact ⟨⟨md + 1, hh, by omega, h2, h3, by go_num, rfl, hb1⟩, rfl⟩)
        case measure => simp [intOf]; omega
      · have hmi : i ≤ md := by
          rcases Nat.lt_or_ge md i with h | h
          · have := HL.out md h; omega
          · exact h
        have d1 : ¬ T md - t < 0 := by omega
        go_wp2_with fail
        go_roundw
        case rel => first | exact ⟨lo, md, h1, hmi, by omega, rfl, by go_num, hb1⟩ | ((repeat apply Exists.intro); exact ⟨⟨lo, md, h1, hmi, by omega, rfl, by go_num, hb1⟩, rfl⟩)
        case measure => simp [intOf]; omega
    · have e1 : lo = i := by omega
      subst e1
      obtain ⟨⟨c0, c1⟩, c2, c3⟩ := n4_keep hbl (HV.out lo hi)
      have tb := HT.out lo hi
      have hl : ¬ (lo : Int) < (hh : Int) := by omega
      have hln : (lo : Int) < (n : Int) := by omega
      go_wp2_with fail
      refine (cmp _ _ _ _ _ _ tb ht).mono ?_; rintro e w1 ⟨rfl, h⟩
      have hb1 := b_next hbl h; clear h
      have hf := HFF.out
      have hz : (T lo - t == 0) = false := by simp; omega
      go_wp2_with fail
      go_ret2
      exact ⟨by first | rfl | simp, hb1⟩
end Fly
end Go.Proofs.YtmkglhoahdlogaaGreatDoor
