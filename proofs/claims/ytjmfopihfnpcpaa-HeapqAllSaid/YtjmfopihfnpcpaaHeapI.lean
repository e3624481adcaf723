/- slices.Clone at the items of a queue; the states of a queue that is popped again and again. -/
import Derived.Test.YtjmfopihfnpcpaaHeapG
import Derived.Lib.SliceRun
namespace Go.Proofs.Ytjmfopihfnpcpaa
open Go.RowKit
namespace Heap
open Kit
/-- The heap behind k pops, n items at first. -/
def pops (n : Nat) (f : Hp) : Nat → Hp
  | 0 => f
  | k + 1 => popF (n - k) (pops n f k)
namespace Ki
theorem one_cel {f : Hp} {n : Nat} (h : ∀ i, i < n → KV (f i).v) : ∀ u ∈ rowG 3 (cel f) n, u.oneCell' = true := by
  intro u hu
  obtain ⟨k, hk⟩ := List.getElem?_of_mem hu
  obtain ⟨h1, h2, h3⟩ := rowG_at hk
  rw [h3]
  unfold cel
  split
  · rfl
  · split
    · rfl
    · obtain ⟨z, hz⟩ := h _ h1
      rw [hz]; rfl
set_option maxRecDepth 100000 in
set_option maxHeartbeats 1000000 in
theorem clone_some (n cap b base : Nat) (f : Hp) (w : World) (h0 : 0 < n) (hn : n ≤ 1000) (HV : Hid (OwnG w base 43 3 (.slice (some ⟨b, 0, none⟩) n cap) n (cel f))) (HK : Hid (∀ i, i < n → KV (f i).v)) :
    Calls Try.prog 17 #[.slice (some ⟨b, 0, none⟩) n cap] w fun e w' => (∃ g c, e = .returned (.slice (some ⟨g, 0, none⟩) n c) ∧ OwnG w' w.heap.size 43 3 (.slice (some ⟨g, 0, none⟩) n c) n (cel f)) ∧ Below w.heap.size w w' := by
  obtain ⟨i0, hi, hz0, hz1, hz2⟩ := info_parts info_it
  obtain ⟨b', c', e, -, -, -, -, hat⟩ := ownG_row HV.out h0
  injection e with e1 _ e3
  injection e1 with e1
  injection e1 with e1 _ _
  subst e1 e3
  have hnil := fun W : World => Lib.run_eql_slice_nil (P := Try.prog) W 39 43 (some ⟨b, 0, none⟩) n cap 0 0 Try.underlying39
  go_enter Try.func17, Try.ntmps17
  have hb0 := b_alloc (Below.refl w.heap.size w) (.cells #[] 43)
  have HS := Lib.hid (src_G (C := 3) (f := cel f) (w := w.alloc (.cells #[] 43)) (b := b) (off := 0) (n := n) fun i hi j hj => by
    rw [Nat.zero_add]; exact keep hb0 (hat.cell i hi j hj))
  have HB := Lib.hid hb0; clear hb0
  have HL := Lib.hid (rowG_len 3 (cel f) n)
  have H1 := Lib.hid (one_cel HK.out)
  clear hat
  go_wp2_with (at_builtin; refine wpList_append_own_at _ rfl (.tmp 5) (.tmp 6) 39 rfl w.heap.size 43 i0 _ 3 24 Try.underlying39 hi hz0 hz1 hz2 rfl (by decide) (.slice (some ⟨w.heap.size, 0, none⟩) 0 0) 0 [] rfl (World.ownsRow_made w #[] 0 (Nat.le_refl _) (by decide) rfl) ⟨b, 0, none⟩ n cap (rowG 3 (cel f) n) rfl HL.out HS.out H1.out (by unfold maxLen; omega) (by omega) (by simp) ?_; intro v1 w1 hown1 hg1 hnil1 hat1)
  go_ret
  have hown2 : OwnG w1 w.heap.size 43 3 v1 n (cel f) := by
    have := hown1; rw [Nat.zero_add, List.nil_append] at this; exact this
  obtain ⟨g, c, rfl, h1, h2, h3, h4, h5⟩ := ownG_row hown2 h0
  exact ⟨⟨g, c, rfl, hown2⟩, HB.out.grown hg1 HB.out.size (fun k hk => by simp [Value.ownBlock] at hk; omega)⟩
end Ki
end Heap
end Go.Proofs.Ytjmfopihfnpcpaa
