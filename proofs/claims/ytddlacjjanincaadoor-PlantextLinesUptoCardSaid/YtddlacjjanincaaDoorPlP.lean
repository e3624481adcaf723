/- plantext.PrintAll: its contract. -/
import Derived.Test.YtddlacjjanincaaDoorPlV
import Derived.Test.YtddlacjjanincaaDoorPtS
import Derived.Test.YtddlacjjanincaaDoorDraw
namespace Go.Proofs.YtddlacjjanincaaDoor
open Go.RowKit
namespace Pt
open Kit Chart Route Plan Name
/-- The text of k plans, a line each. -/
def tA (P : Nat → Pl) : Nat → ByteArray
  | 0 => ⟨#[]⟩
  | k + 1 => tA P k ++ ((P k).txt ++ ⟨#[10]⟩)
/-- k plans that may be printed. -/
structure Fits (P : Nat → Pl) (k : Nat) : Prop where
  ok : ∀ i, i < k → (P i).ok
  one : ∀ i, i < k → ∀ j, j < i → (P j).c ≠ (P i).c
theorem fits_next {P : Nat → Pl} {k : Nat} (h : Fits P k) (h1 : (P k).ok) (h2 : hasC P k (P k).c = false) : Fits P (k + 1) :=
  ⟨fun i hi => by
    rcases Nat.lt_or_ge i k with h3 | h3
    · exact h.ok i h3
    · rw [show i = k from by omega]; exact h1, fun i hi j hj e => by
    rcases Nat.lt_or_ge i k with h3 | h3
    · exact h.one i h3 j hj e
    · obtain rfl : i = k := by omega
      have := hasC_iff.2 ⟨j, hj, e⟩
      rw [h2] at this; cases this⟩
theorem tA_size {P : Nat → Pl} : ∀ {k : Nat}, Fits P k → (tA P k).size ≤ 683 * k
  | 0, _ => Nat.le_refl _
  | k + 1, h => by
    have ih := tA_size (P := P) (k := k) ⟨fun i hi => h.ok i (by omega), fun i hi j hj => h.one i (by omega) j hj⟩
    have q : (P k).txt.size ≤ 682 := text_len (h.ok k (by omega))
    show (tA P k ++ ((P k).txt ++ ⟨#[10]⟩)).size ≤ _
    rw [ByteArray.size_append, ByteArray.size_append]
    show (tA P k).size + ((P k).txt.size + 1) ≤ _
    omega
/-- What PrintAll answers. -/
def PrA (P : Nat → Pl) (n : Nat) (e : Ending) : Prop :=
  (∃ E : Int, E ≠ 0 ∧ e = .returned (.tuple #[.string ⟨#[]⟩, .int .i64 E]) ∧ ¬ (n ≤ 24 ∧ Fits P n)) ∨ (n ≤ 24 ∧ Fits P n ∧ e = .returned (.tuple #[.string (tA P n), .int .i64 0]))
abbrev erP (p : Pl) : Int := planE p.c p.k p.f p.t p.x p.y p.z p.r.length (rtF p.r)
abbrev PrAC (A : Option Addr) (n c : Nat) (P : Nat → Pl) (w : World) : Prop := Calls Tryd.prog 20 #[.slice A n c] w fun e w' => PrA P n e ∧ Below w.heap.size w w'
theorem pra_long (A : Option Addr) (n c : Nat) (P : Nat → Pl) (w : World) (h : 24 < n) : PrAC A n c P w := by
  have h1 : (24 : Int) < (n : Int) := by omega
  have h2 : ¬ (n ≤ 24 ∧ Fits P n) := fun q => by omega
  have H := Lib.hid h2; clear h2
  go_enter Tryd.func20, Tryd.ntmps20
  go_wp2_with fail
  go_ret2
  exact ⟨Or.inl ⟨2, by decide, rfl, H.out⟩, Below.refl _ _⟩
set_option maxRecDepth 100000 in
set_option maxHeartbeats 4000000 in
theorem pra_w (A : Option Addr) (n c : Nat) (P : Nat → Pl) (w : World) (hn : n ≤ 24) (hc : n ≤ c) (hcm : c ≤ 9223372036854775807) (HV : Hid (PV w (.slice A n c) n P))
    (PR : Hid (∀ w1 k v, Below w.heap.size w w1 → SL w1 v (P k).r → Calls Tryd.prog 16 #[(P k).val v] w1 fun e w' => e = .returned (.tuple #[.string (if erP (P k) = 0 then (P k).txt else ⟨#[]⟩), .int .i64 (erP (P k))]) ∧ Below w1.heap.size w1 w'))
    (KW : Hid (∀ w1 k s, k ≤ n → Below w.heap.size w w1 → Calls Tryd.prog 37 #[.slice A k c, .string s] w1 fun e w' => e = .returned (.bool (hasC P k s)) ∧ Below w1.heap.size w1 w')) : PrAC A n c P w := by
  have h1 : ¬ (24 : Int) < (n : Int) := by omega
  go_enter Tryd.func20, Tryd.ntmps20
  go_wp2_with fail
  go_loopw [4, 14] (fun o s wr => ∃ k : Nat, k ≤ n ∧ s = .int .i64 k ∧ o = .string (tA P k) ∧ Fits P k ∧ Below w.heap.size w wr) (fun _ s _ => n - (intOf s).toNat)
  case atStart => exact ⟨0, Nat.zero_le _, rfl, rfl, ⟨fun i hi => absurd hi (Nat.not_lt_zero i), fun i hi => absurd hi (Nat.not_lt_zero i)⟩, Below.refl _ _⟩
  case round =>
    obtain ⟨k, hk, rfl, rfl, hfit, hbl⟩ := hrel
    have HF := Lib.hid hfit; have HB := Lib.hid hbl; clear hfit
    by_cases hlt : k < n
    · have hl : (k : Int) < (n : Int) := by omega
      have hkc : k ≤ c := by omega
      have hr : ∃ b off, A = some ⟨b, off, none⟩ ∧ P8 wr b off k (P k) := by
        rcases HV.out with ⟨h, -⟩ | ⟨-, b, off, cap, he, -, -, h3⟩
        · omega
        · injection he with h4; exact ⟨b, off, h4, p8_keep hbl (h3 k hlt)⟩
      obtain ⟨b, off, rfl, c0, c1, c2, c3, c4, c5, c6, v, c7, hsv⟩ := hr
      have KN := Lib.hid fun w1 (hb : Below w.heap.size w w1) => KW.out w1 k (P k).c hk hb
      have PK := Lib.hid fun w1 v' (hb : Below w.heap.size w w1) (hs : SL w1 v' (P k).r) => PR.out w1 k v' hb hs
      have HX := Lib.hid (show ∀ (h1 : erP (P k) = 0) (h2 : hasC P k (P k).c = false), Fits P (k + 1) from fun h1 h2 => fits_next HF.out (plan_ok h1) h2)
      have HY := Lib.hid (show ∀ (h1 : erP (P k) = 0), hasC P k (P k).c = true → ¬ (n ≤ 24 ∧ Fits P n) from fun h1 h2 q => by
        obtain ⟨j, hj, e⟩ := hasC_iff.1 h2
        exact q.2.one k hlt j hj e)
      have HZ := Lib.hid (show erP (P k) ≠ 0 → ¬ (n ≤ 24 ∧ Fits P n) from fun h1 q => h1 (plan_zero (q.2.ok k hlt)))
      have HS := Lib.hid (show erP (P k) = 0 → (P k).txt.size ≤ 682 from fun h => text_len (plan_ok h))
      have HO := Lib.hid (tA_size HF.out)
      have HT := Lib.hid (show tA P (k + 1) = tA P k ++ ((P k).txt ++ ⟨#[10]⟩) from rfl)
      generalize tA P k = T0 at *
      generalize hasC P k (P k).c = kn at *
      generalize hP : P k = p at *
      clear hP
      obtain ⟨pc, pk, pf, pt, px, py, pz, pr⟩ := p
      dsimp only at *
      obtain ⟨A', ca, rfl⟩ := sl_slice hsv
      generalize pr.length = nr at *
      have SV2 := Lib.hid hsv
      have N1 := Lib.hid (n8_new wr 39 pc pk pf pt px py pz (.slice A' nr ca))
      have B1 := Lib.hid (b_alloc hbl (.cells #[.string pc, .string pk, .string pf, .string pt, .int .i64 px, .int .i64 py, .int .i64 pz, .slice A' nr ca] 39))
      have S1 := Lib.hid (sl_keep (b_alloc (Below.refl _ _) (.cells #[.string pc, .string pk, .string pf, .string pt, .int .i64 px, .int .i64 py, .int .i64 pz, .slice A' nr ca] 39)) hsv)
      have B0 := Lib.hid hbl
      clear hsv hbl
      obtain ⟨y0, y1, y2, y3, y4, y5, y6, y7⟩ := N1.out
      go_wp2_with fail
      (with_reducible refine (PK.out _ _ B1.out S1.out).mono ?_); rintro e w2 ⟨rfl, hb⟩
      have B2 := Lib.hid (b_next B1.out hb); have N7 := Lib.hid (n8_keep hb N1.out); have B7 := Lib.hid (b_next B1.out hb); clear hb
      clear y0 y1 y2 y3 y4 y5 y6 y7 c0 c1 c2 c3 c4 c5 c6 c7
      obtain ⟨y0, y1, y2, y3, y4, y5, y6, y7⟩ := N7.out
      have zt := HS.out
      have zo := HO.out
      generalize erP _ = E at *
      by_cases hE : E = 0
      · subst hE
        rw [if_pos rfl]
        have HXk := Lib.hid (HX.out rfl); have HYk := Lib.hid (HY.out rfl)
        have zt := zt rfl
        generalize Pl.txt _ = tx at *
        have z1 : ¬ 9223372036854775807 < tx.size + 1 := by omega
        have z2 : ¬ 9223372036854775807 < T0.size + (tx.size + 1) := by omega
        clear zt zo HS HO HX HY HZ
        cases kn with
        | true =>
          go_wp2_with fail
          refine d_region (by kernel_rfl) (by kernel_rfl) ?_
          repeat
            first
              | (refine d_plain (by with_reducible rfl) ?_; apply Exists.intro; refine ⟨fun wq hc hq => ?_, ?_⟩)
              | (refine d_on (by with_reducible rfl) (by rfl) (by with_reducible rfl) ?_; apply Exists.intro; refine ⟨fun wq hc hq => ?_, ?_⟩)
              | (refine d_off (by with_reducible rfl) (by rfl) (by rfl) ?_)
              | (refine d_void (by with_reducible rfl) (by rfl) ?_)
            try any_goals
              (obtain ⟨y0, y1, y2, y3, y4, y5, y6, y7⟩ := n8_keep (cls hq) N7.out; clear hc
               go_simp
               first
                 | rfl
                 | (go_at_call 37; with_reducible exact call_below hq (KN.out _ (b_next B7.out (cls hq)))))
            simp only [Act.put, List.setIfInBounds_toArray, List.set_cons_zero, List.set_cons_succ]
          refine d_nil ?_
          intro w8 hb8
          have B8 := Lib.hid (b_next B7.out hb8); clear hb8
          go_wp2_with fail
          go_ret2
          exact ⟨Or.inl ⟨7, by decide, rfl, by first | exact HYk.out rfl | exact HYk.out trivial⟩, B8.out⟩
        | false =>
          go_wp2_with fail
          refine d_region (by kernel_rfl) (by kernel_rfl) ?_
          repeat
            first
              | (refine d_plain (by with_reducible rfl) ?_; apply Exists.intro; refine ⟨fun wq hc hq => ?_, ?_⟩)
              | (refine d_on (by with_reducible rfl) (by rfl) (by with_reducible rfl) ?_; apply Exists.intro; refine ⟨fun wq hc hq => ?_, ?_⟩)
              | (refine d_off (by with_reducible rfl) (by rfl) (by rfl) ?_)
              | (refine d_void (by with_reducible rfl) (by rfl) ?_)
            try any_goals
              (obtain ⟨y0, y1, y2, y3, y4, y5, y6, y7⟩ := n8_keep (cls hq) N7.out; clear hc
               go_simp
               first
                 | rfl
                 | (go_at_call 37; with_reducible exact call_below hq (KN.out _ (b_next B7.out (cls hq)))))
            simp only [Act.put, List.setIfInBounds_toArray, List.set_cons_zero, List.set_cons_succ]
          refine d_nil ?_
          intro w8 hb8
          have B8 := Lib.hid (b_next B7.out hb8); clear hb8
          go_wp2_with fail
          go_roundw
          case rel => exact ⟨k + 1, by omega, by go_num, by rw [HT.out], (by first | exact HXk.out rfl | exact HXk.out trivial), B8.out⟩
          case measure => simp [intOf]; omega
      · rw [if_neg hE]
        have h3 : (E == 0) = false := by simpa using hE
        have h4 : (E != 0) = true := by simpa using hE
        have HZk := Lib.hid (HZ.out hE); have HE := Lib.hid hE
        clear HX HY HZ hE zt zo HS HO
        go_wp2_with fail
        go_ret2
        exact ⟨Or.inl ⟨E, HE.out, rfl, HZk.out⟩, B2.out⟩
    · have he : k = n := by omega
      have hl : ¬ (k : Int) < (n : Int) := by omega
      subst he
      have e : tA P k = tA P k := rfl
      clear e hbl
      go_wp2_with fail
      go_ret2
      exact ⟨Or.inr ⟨hn, HF.out, rfl⟩, HB.out⟩
end Pt
end Go.Proofs.YtddlacjjanincaaDoor
