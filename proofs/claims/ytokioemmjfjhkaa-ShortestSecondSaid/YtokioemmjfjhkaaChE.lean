/- Lists of names that a call has made: slices.Clone, slices.Reverse, SameTexts. -/
import Derived.Test.YtokioemmjfjhkaaChC
import Derived.Test.YtokioemmjfjhkaaRowM
import Derived.Test.YtokioemmjfjhkaaTail
namespace Go.Proofs.Ytokioemmjfjhkaa
open Go.RowKit
namespace Chart
open Kit Plane Poly
def srow (S : Nat → ByteArray) (n : Nat) : List Value := (List.range n).map fun k => .string (S k)
theorem srow_len (S : Nat → ByteArray) (n : Nat) : (srow S n).length = n := by unfold srow; rw [List.length_map, List.length_range]
theorem srow_at {S : Nat → ByteArray} {n k : Nat} (h : k < n) : (srow S n)[k]? = some (.string (S k)) := by
  unfold srow; rw [List.getElem?_map, List.getElem?_range h]; rfl
theorem srow_one {S : Nat → ByteArray} {n : Nat} : ∀ u ∈ srow S n, u.oneCell' = true := by
  intro u hu
  unfold srow at hu
  obtain ⟨k, -, rfl⟩ := List.mem_map.1 hu
  rfl
/-- Names in a block of its own. -/
structure SRow (w : World) (g n : Nat) (S : Nat → ByteArray) : Prop where
  cell : ∀ k, k < n → w.cell? ⟨g, k, none⟩ = some (.string (S k))
  free : ∀ k, w.frozen? ⟨g, k, none⟩ = false
theorem srow_of {w : World} {base : Nat} {E : TypeId} {v : Value} {n : Nat} {S : Nat → ByteArray} (h : w.ownsRow base E 1 v n (srow S n)) (h0 : 0 < n) : ∃ g cap, v = .slice (some ⟨g, 0, none⟩) n cap ∧ base ≤ g ∧ g < w.heap.size ∧ n ≤ cap ∧ cap ≤ maxLen ∧ SRow w g n S := by
  have hh := h
  rcases h.2 with ⟨_, h1⟩ | ⟨g, cap, cur, hv, hb, hg, hnc, hcm, _⟩
  · omega
  · subst hv
    have hlt : g < w.heap.size := by
      rcases Nat.lt_or_ge g w.heap.size with hl | hl
      · exact hl
      · rw [Array.getElem?_eq_none hl] at hg; cases hg
    refine ⟨g, cap, rfl, hb, hlt, hnc, hcm, fun k hk => ?_, fun k => hh.frozenAt k⟩
    rw [hh.cellAt k (by omega)]
    exact srow_at hk
theorem srow_keep {w w1 : World} {g n : Nat} {S : Nat → ByteArray} (hb : Below w.heap.size w w1) (hg : g < w.heap.size) (h : SRow w g n S) : SRow w1 g n S :=
  ⟨fun k hk => keep hb (h.cell k hk), fun k => (hb.frozen (p := ⟨g, k, none⟩) hg).trans (h.free k)⟩
theorem srow_set {w : World} {g n : Nat} {S : Nat → ByteArray} (h : SRow w g n S) {i : Nat} (hi : i < n) (s : ByteArray) : SRow (w.setCell ⟨g, i, none⟩ (.string s)) g n (fun k => if k = i then s else S k) := by
  refine ⟨fun k hk => ?_, fun k => (World.frozen?_setCell _ _ _ _).trans (h.free k)⟩
  by_cases e : k = i
  · subst e; rw [if_pos rfl]; exact cset _ (h.cell k hk)
  · rw [if_neg e]
    refine cfar _ (fun he => e ?_) (h.cell k hk)
    injection he with _ h2; omega
theorem info_str : (Try.prog.info? 9).map (fun i => (i.zero, i.size, i.bytes)) = some (some (.string ⟨#[]⟩), 1, 16) := by kernel_rfl
set_option maxRecDepth 100000 in
set_option maxHeartbeats 1000000 in
theorem clone_w (n cap b off : Nat) (S : Nat → ByteArray) (w : World) (h0 : 0 < n) (hn : n ≤ 1000) (_hc : n ≤ cap) (HV : Hid (∀ i, i < n → w.cell? ⟨b, off + i, none⟩ = some (.string (S i)))) :
    Calls Try.prog 55 #[.slice (some ⟨b, off, none⟩) n cap] w fun e w' => (∃ g c, e = .returned (.slice (some ⟨g, 0, none⟩) n c) ∧ w.heap.size ≤ g ∧ g < w'.heap.size ∧ n ≤ c ∧ c ≤ maxLen ∧ SRow w' g n S) ∧ Below w.heap.size w w' := by
  obtain ⟨i0, hi, hz0, hz1, hz2⟩ := info_parts info_str
  have hnil := fun W : World => Lib.run_eql_slice_nil (P := Try.prog) W 38 9 (some ⟨b, off, none⟩) n cap 0 0 Try.underlying38
  go_enter Try.func55, Try.ntmps55
  have hb0 := b_alloc (Below.refl w.heap.size w) (.cells #[] 9)
  have hs' : ∀ j u, (srow S n)[j]? = some u → (w.alloc (.cells #[] 9)).cell? ((⟨b, off, none⟩ : Addr).add j) = some u := fun j u h => by
    have hj : j < n := by
      have := (List.getElem?_eq_some_iff.1 h).1
      rwa [srow_len] at this
    rw [srow_at hj] at h
    rw [← Option.some.inj h, Go.WideShapes.add_plain]
    exact keep hb0 (HV.out j hj)
  have HS := Lib.hid hs'; have HB := Lib.hid hb0; clear hs' hb0
  have hlen : (srow S n).length = n * 1 := by rw [srow_len, Nat.mul_one]
  have HL := Lib.hid hlen; clear hlen
  go_wp2_with (at_builtin; refine wpList_append_own_at _ rfl (.tmp 5) (.tmp 6) 38 rfl w.heap.size 9 i0 _ 1 16 Try.underlying38 hi hz0 hz1 hz2 rfl (by decide) (.slice (some ⟨w.heap.size, 0, none⟩) 0 0) 0 [] rfl (World.ownsRow_made w #[] 0 (Nat.le_refl _) (by decide) rfl) ⟨b, off, none⟩ n cap (srow S n) rfl HL.out HS.out srow_one (by unfold maxLen; omega) (by omega) (by simp) ?_; intro v1 w1 hown1 hg1 hnil1 hat1)
  go_ret
  have hown2 : w1.ownsRow w.heap.size 9 1 v1 n (srow S n) := by
    have := hown1; rw [Nat.zero_add, List.nil_append] at this; exact this
  obtain ⟨g, c, rfl, h1, h2, h3, h4, h5⟩ := srow_of hown2 h0
  refine ⟨⟨g, c, rfl, h1, h2, h3, h4, h5⟩, ?_⟩
  exact HB.out.grown hg1 HB.out.size (fun k hk => by simp [Value.ownBlock] at hk; omega)
/-- What Reverse has done after k steps. -/
def revS (S : Nat → ByteArray) (n k : Nat) : Nat → ByteArray := fun i => if i < k ∨ n ≤ i + k then S (n - 1 - i) else S i
set_option maxRecDepth 100000 in
set_option maxHeartbeats 4000000 in
theorem reverse_w (n cap g : Nat) (S : Nat → ByteArray) (w : World) (h0 : 0 < n) (hn : n ≤ 1000) (_hc : n ≤ cap) (_hm : cap ≤ 9223372036854775807) (hg : g < w.heap.size) (HV : Hid (SRow w g n S)) :
    Calls Try.prog 56 #[.slice (some ⟨g, 0, none⟩) n cap] w fun e w' => e = .returned (.tuple #[]) ∧ SRow w' g n (fun i => S (n - 1 - i)) ∧ (∀ W : World, W.heap.size ≤ g → Below W.heap.size W w → Below W.heap.size W w') ∧ w.heap.size ≤ w'.heap.size := by
  go_enter Try.func56, Try.ntmps56
  have z1 : IntKind.i64.wrap ((n : Int) - 1) = ((n - 1 : Nat) : Int) := by rw [IntWalk.i64_in _ (by omega)]; omega
  go_wp2_with fail
  go_loopw [2, 3] (fun s t wr => ∃ k J : Nat, 2 * k ≤ n ∧ J + k + 1 = n ∧ s = .int .i64 k ∧ t = .int .i64 J ∧ SRow wr g n (revS S n k) ∧ (∀ W : World, W.heap.size ≤ g → Below W.heap.size W w → Below W.heap.size W wr) ∧ w.heap.size ≤ wr.heap.size) (fun s _ _ => n - (intOf s).toNat)
  case atStart => exact ⟨0, n - 1, by omega, by omega, rfl, rfl, ⟨fun k hk => by unfold revS; rw [if_neg (by omega)]; exact HV.out.cell k hk, HV.out.free⟩, fun W _ h => h, Nat.le_refl _⟩
  case round =>
    obtain ⟨k, J, hk, hJ, rfl, rfl, hr, hb, hs⟩ := hrel
    have HR := Lib.hid hr; have HB := Lib.hid hb; have HSZ := Lib.hid hs; clear hb hs
    by_cases hlt : k < J
    · have hl : (k : Int) < (J : Int) := by omega
      have i1 : (k : Int) < (n : Int) := by omega
      have i2 : (J : Int) < (n : Int) := by omega
      have hne : ¬ k = J := by omega
      have hne2 : ¬ J = k := by omega
      have c0 := hr.cell k (by omega)
      have c1 := hr.cell J (by omega)
      have e0 : revS S n k k = S k := by unfold revS; rw [if_neg (by omega)]
      have e1 : revS S n k J = S J := by unfold revS; rw [if_neg (by omega)]
      rw [e0] at c0
      rw [e1] at c1
      have f0 := hr.free k
      have f1 := hr.free J
      have C0 := Lib.hid c0; have C1 := Lib.hid c1; have F0 := Lib.hid f0; have F1 := Lib.hid f1
      have hgw : g < wr.heap.size := Nat.lt_of_lt_of_le hg HSZ.out
      have EV : Hid (∀ i, i < n → revS S n (k + 1) i = if i = J then S k else if i = k then S J else revS S n k i) := Lib.hid fun i hi => by
        unfold revS
        by_cases h1 : i = J
        · rw [if_pos h1, if_pos (by omega), show n - 1 - i = k from by omega]
        · rw [if_neg h1]
          by_cases h2 : i = k
          · rw [if_pos h2, if_pos (by omega), show n - 1 - i = J from by omega]
          · rw [if_neg h2]
            by_cases h3 : i < k ∨ n ≤ i + k
            · rw [if_pos h3, if_pos (by omega)]
            · rw [if_neg h3, if_neg (by omega)]
      clear c0 c1 e0 e1 hr f0 f1
      obtain ⟨x, hx⟩ : ∃ x, x = S k := ⟨_, rfl⟩
      obtain ⟨y, hy⟩ : ∃ y, y = S J := ⟨_, rfl⟩
      rw [← hx] at C0 EV
      rw [← hy] at C1 EV
      clear hx hy
      go_wp2_with fail
      refine Tail.tail_region (by kernel_rfl) (by kernel_rfl) ?_
      apply Tail.Gq.p
      · intro wq
        (go_simp; first | exact Tail.pv_value | exact Tail.pv_skip)
      simp only [Act.put, List.setIfInBounds_toArray, List.set_cons_zero, List.set_cons_succ]
      apply Tail.Gq.p
      · intro wq
        (go_simp; first | exact Tail.pv_value | exact Tail.pv_skip)
      simp only [Act.put, List.setIfInBounds_toArray, List.set_cons_zero, List.set_cons_succ]
      apply Tail.Gq.p
      · intro wq
        (go_simp; first | exact Tail.pv_value | exact Tail.pv_skip)
      simp only [Act.put, List.setIfInBounds_toArray, List.set_cons_zero, List.set_cons_succ]
      apply Tail.Gq.p
      · intro wq
        (go_simp; first | exact Tail.pv_value | exact Tail.pv_skip)
      simp only [Act.put, List.setIfInBounds_toArray, List.set_cons_zero, List.set_cons_succ]
      apply Tail.Gq.p
      · intro wq
        (go_simp; first | exact Tail.pv_value | exact Tail.pv_skip)
      simp only [Act.put, List.setIfInBounds_toArray, List.set_cons_zero, List.set_cons_succ]
      apply Tail.Gq.p
      · intro wq
        (go_simp; first | exact Tail.pv_value | exact Tail.pv_skip)
      simp only [Act.put, List.setIfInBounds_toArray, List.set_cons_zero, List.set_cons_succ]
      apply Tail.Gq.p
      · intro wq
        (go_simp; first | exact Tail.pv_value | exact Tail.pv_skip)
      simp only [Act.put, List.setIfInBounds_toArray, List.set_cons_zero, List.set_cons_succ]
      apply Tail.Gq.r
      · intro wq hc hq
        (have q0 := keep (cls hq) C0.out; have q1 := keep (cls hq) C1.out; clear hc; go_simp; first | exact q2_value | exact q2_skip)
      simp only [Act.put, List.setIfInBounds_toArray, List.set_cons_zero, List.set_cons_succ]
      apply Tail.Gq.p
      · intro wq
        (go_simp; first | exact Tail.pv_value | exact Tail.pv_skip)
      simp only [Act.put, List.setIfInBounds_toArray, List.set_cons_zero, List.set_cons_succ]
      apply Tail.Gq.p
      · intro wq
        (go_simp; first | exact Tail.pv_value | exact Tail.pv_skip)
      simp only [Act.put, List.setIfInBounds_toArray, List.set_cons_zero, List.set_cons_succ]
      apply Tail.Gq.p
      · intro wq
        (go_simp; first | exact Tail.pv_value | exact Tail.pv_skip)
      simp only [Act.put, List.setIfInBounds_toArray, List.set_cons_zero, List.set_cons_succ]
      apply Tail.Gq.r
      · intro wq hc hq
        (have q0 := keep (cls hq) C0.out; have q1 := keep (cls hq) C1.out; clear hc; go_simp; first | exact q2_value | exact q2_skip)
      simp only [Act.put, List.setIfInBounds_toArray, List.set_cons_zero, List.set_cons_succ]
      apply Tail.Gq.p
      · intro wq
        (go_simp; first | exact Tail.pv_value | exact Tail.pv_skip)
      simp only [Act.put, List.setIfInBounds_toArray, List.set_cons_zero, List.set_cons_succ]
      apply Tail.Gq.t
      apply Tail.Gq.t
      apply Tail.Gq.t
      refine Tail.Gq.nil ⟨by kernel_rfl, fun w2 hb2 => ?_⟩
      simp only [List.reverse_cons, List.reverse_nil, List.nil_append, List.cons_append]
      have R2 := srow_keep hb2 hgw HR.out
      have c0 := keep hb2 C0.out; have c1 := keep hb2 C1.out; have f0 := R2.free k; have f1 := R2.free J
      have R3 := Lib.hid (srow_set (srow_set R2 (show k < n by omega) y) (show J < n by omega) x)
      have B2 : Hid (∀ W : World, W.heap.size ≤ g → Below W.heap.size W w → Below W.heap.size W w2) := Lib.hid fun W h1 h2 => b_next (HB.out W h1 h2) hb2
      have S2 := Lib.hid (Nat.le_trans HSZ.out hb2.size)
      clear hb2 R2
      go_wp2_with fail
      simp only [Kit.Ends]
      go_wp2_with fail
      refine ⟨⟨k + 1, J - 1, by omega, by omega, by go_num, by (congr 1; omega), ⟨fun i hi => ?_, R3.out.free⟩, fun W h1 h2 => b_set (b_set (B2.out W h1 h2) h1 _) h1 _, ?_⟩, by simp [intOf]; omega⟩
      · rw [EV.out i hi]; exact R3.out.cell i hi
      · simp; exact S2.out
    · have hl : ¬ (k : Int) < (J : Int) := by omega
      clear hr
      go_wp2_with fail
      go_end0
      refine ⟨rfl, ⟨fun i hi => ?_, HR.out.free⟩, HB.out, HSZ.out⟩
      have e : S (n - 1 - i) = revS S n k i := by
        unfold revS
        by_cases h : i < k ∨ n ≤ i + k
        · rw [if_pos h]
        · rw [if_neg h, show n - 1 - i = i from by omega]
      rw [e]
      exact HR.out.cell i hi
end Chart
end Go.Proofs.Ytokioemmjfjhkaa
