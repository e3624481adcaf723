/- Lists of names that a call has made: slices.Clone, slices.Reverse, SameTexts. -/
import Derived.Test.YtddlacjjanincaaDoorChC
import Derived.Test.YtddlacjjanincaaDoorRowM
import Derived.Test.YtddlacjjanincaaDoorTail
namespace Go.Proofs.YtddlacjjanincaaDoor
open Go.RowKit
namespace Chart
open Kit Plane Poly
def srow (S : Nat → ByteArray) (n : Nat) : List Value := (List.range n).map fun k => .string (S k)
theorem srow_len (S : Nat → ByteArray) (n : Nat) : (srow S n).length = n := by unfold srow; rw [List.length_map, List.length_range]
theorem srow_at {S : Nat → ByteArray} {n k : Nat} (h : k < n) : (srow S n)[k]? = some (.string (S k)) := by
  unfold srow; rw [List.getElem?_map, List.getElem?_range h]; rfl
theorem srow_one {S : Nat → ByteArray} {n : Nat} : ∀ u ∈ srow S n, u.oneCell' = true := by
  intro u hu
  unfold srow at hu
  obtain ⟨k, -, rfl⟩ := List.mem_map.1 hu
  rfl
/-- Names in a block of its own. -/
structure SRow (w : World) (g n : Nat) (S : Nat → ByteArray) : Prop where
  cell : ∀ k, k < n → w.cell? ⟨g, k, none⟩ = some (.string (S k))
  free : ∀ k, w.frozen? ⟨g, k, none⟩ = false
theorem srow_of {w : World} {base : Nat} {E : TypeId} {v : Value} {n : Nat} {S : Nat → ByteArray} (h : w.ownsRow base E 1 v n (srow S n)) (h0 : 0 < n) : ∃ g cap, v = .slice (some ⟨g, 0, none⟩) n cap ∧ base ≤ g ∧ g < w.heap.size ∧ n ≤ cap ∧ cap ≤ maxLen ∧ SRow w g n S := by
  have hh := h
  rcases h.2 with ⟨_, h1⟩ | ⟨g, cap, cur, hv, hb, hg, hnc, hcm, _⟩
  · omega
  · subst hv
    have hlt : g < w.heap.size := by
      rcases Nat.lt_or_ge g w.heap.size with hl | hl
      · exact hl
      · rw [Array.getElem?_eq_none hl] at hg; cases hg
    refine ⟨g, cap, rfl, hb, hlt, hnc, hcm, fun k hk => ?_, fun k => hh.frozenAt k⟩
    rw [hh.cellAt k (by omega)]
    exact srow_at hk
theorem srow_keep {w w1 : World} {g n : Nat} {S : Nat → ByteArray} (hb : Below w.heap.size w w1) (hg : g < w.heap.size) (h : SRow w g n S) : SRow w1 g n S :=
  ⟨fun k hk => keep hb (h.cell k hk), fun k => (hb.frozen (p := ⟨g, k, none⟩) hg).trans (h.free k)⟩
theorem srow_set {w : World} {g n : Nat} {S : Nat → ByteArray} (h : SRow w g n S) {i : Nat} (hi : i < n) (s : ByteArray) : SRow (w.setCell ⟨g, i, none⟩ (.string s)) g n (fun k => if k = i then s else S k) := by
  refine ⟨fun k hk => ?_, fun k => (World.frozen?_setCell _ _ _ _).trans (h.free k)⟩
  by_cases e : k = i
  · subst e; rw [if_pos rfl]; exact cset _ (h.cell k hk)
  · rw [if_neg e]
    refine cfar _ (fun he => e ?_) (h.cell k hk)
    injection he with _ h2; omega
theorem info_str : (Tryd.prog.info? 9).map (fun i => (i.zero, i.size, i.bytes)) = some (some (.string ⟨#[]⟩), 1, 16) := by kernel_rfl
set_option maxRecDepth 100000 in
set_option maxHeartbeats 1000000 in
theorem clone_w (n cap b off : Nat) (S : Nat → ByteArray) (w : World) (h0 : 0 < n) (hn : n ≤ 1000) (_hc : n ≤ cap) (HV : Hid (∀ i, i < n → w.cell? ⟨b, off + i, none⟩ = some (.string (S i)))) :
    Calls Tryd.prog 34 #[.slice (some ⟨b, off, none⟩) n cap] w fun e w' => (∃ g c, e = .returned (.slice (some ⟨g, 0, none⟩) n c) ∧ w.heap.size ≤ g ∧ g < w'.heap.size ∧ n ≤ c ∧ c ≤ maxLen ∧ SRow w' g n S) ∧ Below w.heap.size w w' := by
  obtain ⟨i0, hi, hz0, hz1, hz2⟩ := info_parts info_str
  have hnil := fun W : World => Lib.run_eql_slice_nil (P := Tryd.prog) W 37 9 (some ⟨b, off, none⟩) n cap 0 0 Tryd.underlying37
  go_enter Tryd.func34, Tryd.ntmps34
  have hb0 := b_alloc (Below.refl w.heap.size w) (.cells #[] 9)
  have hs' : ∀ j u, (srow S n)[j]? = some u → (w.alloc (.cells #[] 9)).cell? ((⟨b, off, none⟩ : Addr).add j) = some u := fun j u h => by
    have hj : j < n := by
      have := (List.getElem?_eq_some_iff.1 h).1
      rwa [srow_len] at this
    rw [srow_at hj] at h
    rw [← Option.some.inj h, Go.WideShapes.add_plain]
    exact keep hb0 (HV.out j hj)
  have HS := Lib.hid hs'; have HB := Lib.hid hb0; clear hs' hb0
  have hlen : (srow S n).length = n * 1 := by rw [srow_len, Nat.mul_one]
  have HL := Lib.hid hlen; clear hlen
  go_wp2_with (at_builtin; refine wpList_append_own_at _ rfl (.tmp 5) (.tmp 6) 37 rfl w.heap.size 9 i0 _ 1 16 Tryd.underlying37 hi hz0 hz1 hz2 rfl (by decide) (.slice (some ⟨w.heap.size, 0, none⟩) 0 0) 0 [] rfl (World.ownsRow_made w #[] 0 (Nat.le_refl _) (by decide) rfl) ⟨b, off, none⟩ n cap (srow S n) rfl HL.out HS.out srow_one (by unfold maxLen; omega) (by omega) (by simp) ?_; intro v1 w1 hown1 hg1 hnil1 hat1)
  go_ret
  have hown2 : w1.ownsRow w.heap.size 9 1 v1 n (srow S n) := by
    have := hown1; rw [Nat.zero_add, List.nil_append] at this; exact this
  obtain ⟨g, c, rfl, h1, h2, h3, h4, h5⟩ := srow_of hown2 h0
  refine ⟨⟨g, c, rfl, h1, h2, h3, h4, h5⟩, ?_⟩
  exact HB.out.grown hg1 HB.out.size (fun k hk => by simp [Value.ownBlock] at hk; omega)
/-- What Reverse has done after k steps. -/
def revS (S : Nat → ByteArray) (n k : Nat) : Nat → ByteArray := fun i => if i < k ∨ n ≤ i + k then S (n - 1 - i) else S i
end Chart
end Go.Proofs.YtddlacjjanincaaDoor
