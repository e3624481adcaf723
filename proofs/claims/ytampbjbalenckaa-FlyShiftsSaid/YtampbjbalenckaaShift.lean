/- What fly.Shift returns. -/
import Derived.Test.YtampbjbalenckaaFlyAtC
import Derived.Test.YtampbjbalenckaaRowK
namespace Go.Proofs.Ytampbjbalenckaa
open Go.RowKit
namespace Path
open Kit Plane
theorem info_path : (Try.prog.info? 28).map (fun i => (i.zero, i.size, i.bytes)) = some (some (.agg #[.int .i64 0, .int .i64 0, .int .i64 0, .int .i64 0]), 4, 32) := by kernel_rfl
set_option maxRecDepth 100000 in
set_option maxHeartbeats 1000000 in
theorem clone_path (n cap b off : Nat) (f : Nat → Nat → Int) (w : World) (h0 : 0 < n) (hn : n ≤ 1000) (hc : n ≤ cap) (HV : Hid (∀ i, i < n → ∀ j, j < 4 → w.cell? ⟨b, off + i * 4 + j, none⟩ = some (.int .i64 (f i j)))) :
    Calls Try.prog 47 #[.slice (some ⟨b, off, none⟩) n cap] w fun e w' => ∃ v, e = .returned v ∧ Own w' w.heap.size 28 4 v n f ∧ Below w.heap.size w w' := by
  obtain ⟨i0, hi, hz0, hz1, hz2⟩ := info_parts info_path
  have hnil := fun W : World => Lib.run_eql_slice_nil (P := Try.prog) W 23 28 (some ⟨b, off, none⟩) n cap 0 0 Try.underlying23
  go_enter Try.func47, Try.ntmps47
  have hs := src_rows HV.out
  have hb0 := b_alloc (Below.refl w.heap.size w) (.cells #[] 28)
  have hs' : ∀ j u, (rowL 4 f n)[j]? = some u → (w.alloc (.cells #[] 28)).cell? ((⟨b, off, none⟩ : Addr).add j) = some u := fun j u h => keep hb0 (hs j u h)
  have HS := Lib.hid hs'; have HB := Lib.hid hb0; clear hs hs' hb0
  have hlen := rowL_len 4 f n
  have HL := Lib.hid hlen; clear hlen
  go_wp2_with (at_builtin; refine wpList_append_own_at _ rfl (.tmp 5) (.tmp 6) 23 rfl w.heap.size 28 i0 _ 4 32 Try.underlying23 hi hz0 hz1 hz2 rfl (by decide) (.slice (some ⟨w.heap.size, 0, none⟩) 0 0) 0 [] rfl (World.ownsRow_made w #[] 0 (Nat.le_refl _) (by decide) rfl) ⟨b, off, none⟩ n cap (rowL 4 f n) rfl HL.out HS.out rowL_one (by unfold maxLen; omega) (by omega) (by simp) ?_; intro v1 w1 hown1 hg1 hnil1 hat1)
  go_ret
  refine ⟨v1, rfl, ?_, ?_⟩
  · have := hown1; rw [Nat.zero_add, List.nil_append] at this; exact this
  · exact HB.out.grown hg1 HB.out.size (fun k hk => by simp [Value.ownBlock] at hk; omega)
/-- fly.Shift's error. -/
def shE (T X Y H : Nat → Int) (n : Nat) (later : Int) : Int := if pchk T X Y H n ≠ 0 then pchk T X Y H n else if later < -200000 ∨ 200000 < later ∨ T 0 + later < 0 ∨ 200000 < T (n - 1) + later then 12 else 0
set_option maxHeartbeats 1000000 in
theorem shift_bad (v : Value) (later E : Int) (w : World) (C : Hid (CkC v E w)) (hE1 : (E == 0) = false) (hE2 : (E != 0) = true) :
    Calls Try.prog 20 #[v, .int .i64 later] w fun e w' => e = .returned (.tuple #[.slice none 0 0, .int .i64 E]) ∧ Below w.heap.size w w' := by
  go_enter Try.func20, Try.ntmps20
  go_wp2_with fail
  refine (C.out _ (Below.refl _ _)).mono ?_; rintro e w1 ⟨rfl, hw⟩
  go_wp2_with fail
  go_ret2
  exact ⟨rfl, hw⟩
set_option maxHeartbeats 2000000 in
theorem shift_no (n cap b off : Nat) (T X Y H : Nat → Int) (later : Int) (w : World) (h0 : 0 < n) (hn : n ≤ 64) (hc : n ≤ cap) (hm : cap ≤ 9223372036854775807) (HV : Hid (∀ k, k < n → N4 w b off k (T k) (X k) (Y k) (H k))) (C : Hid (CkC (.slice (some ⟨b, off, none⟩) n cap) 0 w)) (ht0 : 0 ≤ T 0 ∧ T 0 ≤ 200000) (htn : 0 ≤ T (n - 1) ∧ T (n - 1) ≤ 200000) (hl : later < -200000 ∨ 200000 < later ∨ T 0 + later < 0 ∨ 200000 < T (n - 1) + later) :
    Calls Try.prog 20 #[.slice (some ⟨b, off, none⟩) n cap, .int .i64 later] w fun e w' => e = .returned (.tuple #[.slice none 0 0, .int .i64 12]) ∧ Below w.heap.size w w' := by
  go_enter Try.func20, Try.ntmps20
  go_wp2_with fail
  refine (C.out _ (Below.refl _ _)).mono ?_; rintro e w1 ⟨rfl, hw⟩
  obtain ⟨⟨c0, c1⟩, c2, c3⟩ := n4_keep hw (HV.out 0 h0)
  rw [Nat.zero_mul, Nat.add_zero] at c0
  obtain ⟨⟨e0, e1⟩, e2, e3⟩ := n4_keep hw (HV.out (n - 1) (by omega))
  have u0 : (0 : Int) < (n : Int) := by omega
  have u1 : IntKind.i64.wrap ((n : Int) - 1) = ((n - 1 : Nat) : Int) := by rw [IntWalk.i64_in _ (by omega)]; omega
  have u2 : ((n - 1 : Nat) : Int) < (n : Int) := by omega
  have u3 : (n : Int) - 1 = ((n - 1 : Nat) : Int) := by omega
  go_wp2_with fail
  all_goals first | (exfalso; omega) | (go_ret2; exact ⟨rfl, hw⟩)
/-- The numbers of a path, by places. -/
def pf (T X Y H : Nat → Int) : Nat → Nat → Int := fun i j => if j = 0 then T i else if j = 1 then X i else if j = 2 then Y i else H i
theorem pf_src {w : World} {n b off : Nat} {T X Y H : Nat → Int} (h : ∀ k, k < n → N4 w b off k (T k) (X k) (Y k) (H k)) : ∀ i, i < n → ∀ j, j < 4 → w.cell? ⟨b, off + i * 4 + j, none⟩ = some (.int .i64 (pf T X Y H i j)) := by
  intro i hi j hj
  have hh := h i hi
  rcases (show j = 0 ∨ j = 1 ∨ j = 2 ∨ j = 3 from by omega) with rfl | rfl | rfl | rfl
  · exact hh.1.1
  · exact hh.1.2
  · exact hh.2.1
  · exact hh.2.2
/-- The first i times moved. -/
def moved (T X Y H : Nat → Int) (later : Int) (i : Nat) : Nat → Nat → Int := fun a b => if a < i ∧ b = 0 then T a + later else pf T X Y H a b
set_option maxHeartbeats 2000000 in
theorem shift_ok (n cap b off : Nat) (T X Y H : Nat → Int) (later : Int) (w : World) (h0 : 0 < n) (hn : n ≤ 64) (hc : n ≤ cap) (hm : cap ≤ 9223372036854775807) (HV : Hid (∀ k, k < n → N4 w b off k (T k) (X k) (Y k) (H k))) (C : Hid (CkC (.slice (some ⟨b, off, none⟩) n cap) 0 w)) (ht0 : 0 ≤ T 0 ∧ T 0 ≤ 200000) (htn : 0 ≤ T (n - 1) ∧ T (n - 1) ≤ 200000) (hl1 : -200000 ≤ later) (hl2 : later ≤ 200000) (hl3 : 0 ≤ T 0 + later) (hl4 : T (n - 1) + later ≤ 200000) (HT : Hid (∀ k, k < n → 0 ≤ T k ∧ T k ≤ 200000)) :
    Calls Try.prog 20 #[.slice (some ⟨b, off, none⟩) n cap, .int .i64 later] w fun e w' => ∃ g cap', e = .returned (.tuple #[.slice (some ⟨g, 0, none⟩) n cap', .int .i64 0]) ∧ w.heap.size ≤ g ∧ n ≤ cap' ∧ cap' ≤ maxLen ∧ RowAt w' g n 4 (moved T X Y H later n) ∧ Below w.heap.size w w' := by
  go_enter Try.func20, Try.ntmps20
  go_wp2_with fail
  refine (C.out _ (Below.refl _ _)).mono ?_; rintro e w1 ⟨rfl, hw⟩
  obtain ⟨⟨c0, c1⟩, c2, c3⟩ := n4_keep hw (HV.out 0 h0)
  rw [Nat.zero_mul, Nat.add_zero] at c0
  obtain ⟨⟨e0, e1⟩, e2, e3⟩ := n4_keep hw (HV.out (n - 1) (by omega))
  have u0 : (0 : Int) < (n : Int) := by omega
  have u1 : IntKind.i64.wrap ((n : Int) - 1) = ((n - 1 : Nat) : Int) := by rw [IntWalk.i64_in _ (by omega)]; omega
  have u2 : ((n - 1 : Nat) : Int) < (n : Int) := by omega
  have u3 : (n : Int) - 1 = ((n - 1 : Nat) : Int) := by omega
  go_wp2_with fail
  have hcl := clone_path n cap b off (pf T X Y H) w1 h0 (by omega) hc (Lib.hid (pf_src fun k hk => n4_keep hw (HV.out k hk)))
  refine hcl.mono ?_
  rintro e w2 ⟨v, rfl, hown, hb⟩
  obtain ⟨g, cap', rfl, hg1, hg2, hnc, hcm, hrow⟩ := own_row hown h0
  have hw2 := b_next hw hb
  have hgw : w.heap.size ≤ g := Nat.le_trans hw.size hg1
  clear hb hown c0 c1 c2 c3 e0 e1 e2 e3
  have hcm' : cap' ≤ 9223372036854775807 := Nat.le_trans hcm (by decide)
  have HR := Lib.hid hrow; have HC := Lib.hid hcm; clear hrow hcm
  obtain ⟨wb, rfl⟩ : ∃ wb : World, wb = w2 := ⟨_, rfl⟩
  go_wp2_with fail
  go_loopw [45] (fun s wr => ∃ i : Nat, i ≤ n ∧ s = .int .i64 i ∧ RowAt wr g n 4 (moved T X Y H later i) ∧ Below w.heap.size w wr) (fun s _ => n - (intOf s).toNat)
  case atStart => exact ⟨0, Nat.zero_le _, rfl, by
    have e : moved T X Y H later 0 = pf T X Y H := by funext a b; unfold moved; rw [if_neg (by omega)]
    rw [e]; exact HR.out, hw2⟩
  case round =>
    obtain ⟨i, hi, rfl, hr, hbl⟩ := hrel
    have HRR := Lib.hid hr; clear hr
    by_cases hlt : i < n
    · have hl : (i : Int) < (n : Int) := by omega
      have k0 : wr.cell? ⟨g, i * 4, none⟩ = some (.int .i64 (T i)) := by
        have := HRR.out.cell i hlt 0 (by omega)
        rw [Nat.add_zero] at this
        rw [this]; unfold moved; rw [if_neg (by omega)]; rfl
      have k1 := HRR.out.free (i * 4)
      have ht := HT.out i hlt
      go_wp2_with fail
      go_roundw
      case rel =>
        have hset := row_set HRR.out hlt (show 0 < 4 by omega) (T i + later)
        rw [Nat.add_zero] at hset
        have e : upd (moved T X Y H later i) i 0 (T i + later) = moved T X Y H later (i + 1) := by
          funext a b
          unfold upd moved
          by_cases h1 : a = i ∧ b = 0
          · rw [if_pos h1, if_pos ⟨by omega, h1.2⟩, h1.1]
          · rw [if_neg h1]
            by_cases h2 : a < i ∧ b = 0
            · rw [if_pos h2, if_pos ⟨by omega, h2.2⟩]
            · rw [if_neg h2, if_neg (by omega)]
        rw [e] at hset
        exact ⟨i + 1, by omega, by go_num, hset, b_set hbl hgw _⟩
      case measure => simp [intOf]; omega
    · have he : i = n := by omega
      have HE := Lib.hid he; clear he
      have hl : ¬ (i : Int) < (n : Int) := by omega
      go_wp2_with fail
      go_ret2
      exact ⟨g, cap', rfl, hgw, hnc, HC.out, by have := HRR.out; rw [HE.out] at this; exact this, hbl⟩
theorem pv_moved {w : World} {g n cap : Nat} {T X Y H : Nat → Int} {later : Int} (h0 : 0 < n) (hc : n ≤ cap) (hm : cap ≤ maxLen) (h : RowAt w g n 4 (moved T X Y H later n)) : PV w (.slice (some ⟨g, 0, none⟩) n cap) n (fun k => T k + later) X Y H := by
  refine Or.inr ⟨h0, g, 0, cap, rfl, hc, hm, fun k hk => ?_⟩
  have c0 := h.cell k hk 0 (by omega); have c1 := h.cell k hk 1 (by omega); have c2 := h.cell k hk 2 (by omega); have c3 := h.cell k hk 3 (by omega)
  unfold moved at c0 c1 c2 c3
  rw [if_pos ⟨hk, rfl⟩, Nat.add_zero] at c0
  rw [if_neg (by omega)] at c1 c2 c3
  unfold N4
  simp only [Nat.zero_add]
  exact ⟨⟨c0, c1⟩, ⟨c2, c3⟩⟩
end Path
end Go.Proofs.Ytampbjbalenckaa
