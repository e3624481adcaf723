/- slices.Clone at marks. -/
import Derived.Test.YtokioemmjfjhkaaNetA
import Derived.Test.YtokioemmjfjhkaaRowG
import Derived.Lib.SliceRun
namespace Go.Proofs.Ytokioemmjfjhkaa
open Go.RowKit
namespace Net
open Kit Chart
/-- Marks that may be turned. -/
def OB (w : World) (g N : Nat) (f : Nat → Bool) : Prop := ∀ k, k < N → w.cell? ⟨g, k, none⟩ = some (.bool (f k)) ∧ w.frozen? ⟨g, k, none⟩ = false
theorem ob_bv {w : World} {g N c : Nat} {f : Nat → Bool} (h : OB w g N f) (h0 : 0 < N) (hc : N ≤ c) (hm : c ≤ maxLen) : BV w (.slice (some ⟨g, 0, none⟩) N c) N f := Or.inr ⟨h0, g, 0, c, rfl, hc, hm, fun k hk => by rw [Nat.zero_add]; exact (h k hk).1⟩
theorem ob_set {w : World} {g N : Nat} {f : Nat → Bool} (h : OB w g N f) (k : Nat) : OB (w.setCell ⟨g, k, none⟩ (.bool true)) g N (Short.shut f k) := fun j hj => by
  refine ⟨?_, by rw [World.frozen?_setCell]; exact (h j hj).2⟩
  by_cases e : j = k
  · subst e; rw [Short.shut_same]; exact cset _ (h j hj).1
  · rw [Short.shut_ne e]; exact cfar _ (fun q => e (by injection q with _ q; exact q.symm)) (h j hj).1
theorem info_bool : (Try.prog.info? 4).map (fun i => (i.zero, i.size, i.bytes)) = some (some (.bool false), 1, 1) := by kernel_rfl
set_option maxRecDepth 100000 in
set_option maxHeartbeats 1000000 in
theorem cloneB (n cap b off : Nat) (f : Nat → Bool) (w : World) (h0 : 0 < n) (hn : n ≤ 1000) (_hc : n ≤ cap) (HV : Hid (∀ i, i < n → w.cell? ⟨b, off + i, none⟩ = some (.bool (f i)))) :
    Calls Try.prog 67 #[.slice (some ⟨b, off, none⟩) n cap] w fun e w' => (∃ g c, e = .returned (.slice (some ⟨g, 0, none⟩) n c) ∧ w.heap.size ≤ g ∧ n ≤ c ∧ c ≤ maxLen ∧ OB w' g n f) ∧ Below w.heap.size w w' := by
  obtain ⟨i0, hi, hz0, hz1, hz2⟩ := info_parts info_bool
  have hnil := fun W : World => Lib.run_eql_slice_nil (P := Try.prog) W 87 4 (some ⟨b, off, none⟩) n cap 0 0 Try.underlying87
  go_enter Try.func67, Try.ntmps67
  have hb0 := b_alloc (Below.refl w.heap.size w) (.cells #[] 4)
  have HS := Lib.hid (src_G (C := 1) (f := fun i _ => Value.bool (f i)) (w := w.alloc (.cells #[] 4)) (b := b) (off := off) (n := n) fun i hi j hj => by
    rw [show off + i * 1 + j = off + i from by omega]; exact keep hb0 (HV.out i hi))
  have HB := Lib.hid hb0; clear hb0
  have HL := Lib.hid (rowG_len 1 (fun i _ => Value.bool (f i)) n)
  have H1 := Lib.hid (rowG_one (C := 1) (n := n) (f := fun i _ => Value.bool (f i)) fun _ _ => rfl)
  go_wp2_with (at_builtin; refine wpList_append_own_at _ rfl (.tmp 5) (.tmp 6) 87 rfl w.heap.size 4 i0 _ 1 1 Try.underlying87 hi hz0 hz1 hz2 rfl (by decide) (.slice (some ⟨w.heap.size, 0, none⟩) 0 0) 0 [] rfl (World.ownsRow_made w #[] 0 (Nat.le_refl _) (by decide) rfl) ⟨b, off, none⟩ n cap (rowG 1 (fun i _ => Value.bool (f i)) n) rfl HL.out HS.out H1.out (by unfold maxLen; omega) (by omega) (by simp) ?_; intro v1 w1 hown1 hg1 hnil1 hat1)
  go_ret
  have hown2 : OwnG w1 w.heap.size 4 1 v1 n (fun i _ => Value.bool (f i)) := by
    have := hown1; rw [Nat.zero_add, List.nil_append] at this; exact this
  obtain ⟨g, c, rfl, h1, h2, h3, h4, h5⟩ := ownG_row hown2 h0
  refine ⟨⟨g, c, rfl, h1, h3, h4, fun k hk => ⟨?_, h5.free k⟩⟩, ?_⟩
  · have := h5.cell k hk 0 (by decide)
    rw [show k * 1 + 0 = k from by omega] at this; exact this
  · exact HB.out.grown hg1 HB.out.size (fun k hk => by simp [Value.ownBlock] at hk; omega)
end Net
end Go.Proofs.Ytokioemmjfjhkaa
