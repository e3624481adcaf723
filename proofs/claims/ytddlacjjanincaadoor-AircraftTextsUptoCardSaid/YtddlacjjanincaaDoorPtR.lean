/- slices.Clone of the fields of a route, from the shelf: any number of them. -/
import Derived.Test.YtddlacjjanincaaDoorPtS
import Derived.Shelf.Slices.Clone
import Derived.Ground.Names2Prog
namespace Go.Proofs.YtddlacjjanincaaDoor
open Go.RowKit Go.Shelf
shelf_lay Lays2.n16 Nm2 16 at Tryd as cloneLays
namespace Pt
open Kit Chart Route Plan Name
/-- What Clone gives hangs on its own cells alone. -/
def ClR (r : Nat) (L : List ByteArray) (h0 : Nat) (e : Ending) (w' : World) : Prop := ∃ Av cv, e = .returned (.slice Av r cv) ∧ ∀ W : World, (∀ a u, h0 ≤ a.block → w'.cell? a = some u → W.cell? a = some u) → SL W (.slice Av r cv) L
theorem clr_own {w' : World} {h0 : Nat} {E : TypeId} {v : Value} {L : List ByteArray} (h : w'.ownsRow h0 E 1 v L.length (vs L)) : ∃ Av cv, v = .slice Av L.length cv ∧ ∀ W : World, (∀ a u, h0 ≤ a.block → w'.cell? a = some u → W.cell? a = some u) → SL W (.slice Av L.length cv) L := by
  have hh := h
  rcases h.2 with ⟨hv, h0⟩ | ⟨g, cap, cur, hv, hb, hg, hnc, hcm, -⟩
  · refine ⟨none, 0, by rw [hv, h0], fun W _ => Or.inl ⟨h0, by rw [h0]; exact Or.inl rfl⟩⟩
  · refine ⟨_, _, hv, fun W hW => ?_⟩
    rcases Nat.eq_zero_or_pos L.length with h0 | h0
    · exact Or.inl ⟨h0, Or.inr ⟨⟨g, 0, none⟩, cap, by rw [h0], hcm⟩⟩
    · refine Or.inr ⟨h0, g, 0, cap, rfl, hnc, hcm, fun k hk => hW _ _ hb ?_⟩
      subst hv
      have hc := hh.cellAt k (by omega)
      rw [Nat.zero_add, hc, List.getElem?_map, List.getElem?_eq_getElem hk]
      show some (Value.string L[k]) = some (.string (L.getD k ⟨#[]⟩))
      rw [List.getD_eq_getElem?_getD, List.getElem?_eq_getElem hk]
      rfl
theorem cloneC (L : List ByteArray) (b off c : Nat) (w : World) (hn : L.length ≤ 1000000) (hc : ∀ j, j < L.length → w.cell? ⟨b, off + j, none⟩ = some (.string (L.getD j ⟨#[]⟩))) :
    Calls Tryd.prog 34 #[.slice (some ⟨b, off, none⟩) L.length c] w fun e w' => ClR L.length L w.heap.size e w' ∧ Below w.heap.size w w' := by
  have q := Any.slices_Clone_string cloneLays b off L.length c L w (Nat.le_refl _) (by omega) hc
  change Calls Tryd.prog 34 _ _ _ at q
  refine q.mono ?_
  rintro e w' ⟨v, rfl, ho, -, hb⟩
  rw [List.take_of_length_le (Nat.le_refl _)] at ho
  obtain ⟨Av, cv, hv, hk⟩ := clr_own ho
  exact ⟨⟨Av, cv, by rw [hv], hk⟩, hb⟩
theorem sp_len (c : UInt8) : ∀ s : List UInt8, (Spl.sp c s).length ≤ s.length + 1 ∧ ∀ x ∈ Spl.sp c s, x.length ≤ s.length
  | [] => by
    refine ⟨by simp [Spl.sp], fun x hx => ?_⟩
    simp [Spl.sp] at hx
    simp [hx]
  | b :: l => by
    obtain ⟨h1, h2⟩ := sp_len c l
    by_cases e : b = c
    · subst e
      rw [Spl.sp_hit]
      refine ⟨by simpa using h1, fun x hx => ?_⟩
      rcases List.mem_cons.1 hx with rfl | hx
      · simp
      · have := h2 x hx; simp only [List.length_cons]; omega
    · obtain ⟨h, t, ht⟩ := Spl.sp_ne c l
      rw [Spl.sp_miss e ht]
      rw [ht] at h1 h2
      refine ⟨by simp only [List.length_cons] at h1 ⊢; omega, fun x hx => ?_⟩
      rcases List.mem_cons.1 hx with rfl | hx
      · have := h2 h (by simp); simp only [List.length_cons]; omega
      · have := h2 x (by simp [hx]); simp only [List.length_cons]; omega
theorem parts (s : ByteArray) : ∃ F : List ByteArray, raw F = Spl.sp 32 s.data.toList ∧ F.length ≤ s.size + 1 ∧ ∀ k, (F.getD k ⟨#[]⟩).size ≤ s.size := by
  refine ⟨(Spl.sp 32 s.data.toList).map fun l => ⟨l.toArray⟩, ?_, ?_, fun k => ?_⟩
  · show List.map _ (List.map _ _) = _
    rw [List.map_map]
    exact (List.map_congr_left (g := id) fun l _ => rfl).trans (List.map_id _)
  · rw [List.length_map]
    exact (sp_len 32 _).1
  · rw [List.getD_eq_getElem?_getD, List.getElem?_map]
    cases q : (Spl.sp 32 s.data.toList)[k]? with
    | none => exact Nat.zero_le _
    | some l =>
      obtain ⟨h, e⟩ := List.getElem?_eq_some_iff.1 q
      exact (sp_len 32 _).2 l (e ▸ List.getElem_mem h)
end Pt
end Go.Proofs.YtddlacjjanincaaDoor
