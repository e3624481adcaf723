/- slices.Sort and slices.Compact at names of the call's own. -/
import Derived.Test.YtokioemmjfjhkaaLnkP
import Derived.Test.YtokioemmjfjhkaaExpB
import Derived.Shelf.Sort.Plain
import Derived.Shelf.Slices.Cells
import Derived.Shelf.Slices.CompactS
import Derived.Shelf.Slices.In.SortNone
import Derived.Shelf.Lay
namespace Go.Proofs.Ytokioemmjfjhkaa
open Go.RowKit Go.Shelf
shelf_lay Lays.n190 Nm 190 at Try as sortLays
shelf_lay Lays.n194 Nm 194 at Try as compactLays
namespace Lnk
open Kit Chart Route
theorem vs_srow (L : List ByteArray) : vs L = srow (fun k => L.getD k ⟨#[]⟩) L.length := by
  apply List.ext_getElem?
  intro i
  rcases Nat.lt_or_ge i L.length with h | h
  · rw [srow_at h, List.getElem?_map, List.getElem?_eq_getElem h, List.getD_eq_getElem?_getD, List.getElem?_eq_getElem h]; rfl
  · rw [List.getElem?_eq_none (by rw [List.length_map]; exact h), List.getElem?_eq_none (by rw [srow_len]; exact h)]
theorem below_put {N : Nat} {w0 w : World} {g q : Nat} {d : Array (List UInt8)} {os : Array Obj} (h : Below N w0 w) (hN : N ≤ w0.heap.size) (hg : N ≤ g) : Below N w0 (Go.Sort.grow (Go.Sort.putRow encStr (Go.Sort.ahead w q) g 0 d) os) := by
  have hp : Below N w0 (Go.Sort.putRow encStr (Go.Sort.ahead w q) g 0 d) :=
    ⟨h.os, h.tape, h.output, by simpa [Go.Sort.putRow, Go.Sort.mapBlock, Go.Sort.ahead] using h.size, fun k hk => by
      rw [← h.block k hk]
      simp [Go.Sort.putRow, Go.Sort.mapBlock, Go.Sort.ahead, Array.getElem?_modify, show g ≠ k by omega]⟩
  refine ⟨hp.os, hp.tape, hp.output, ?_, fun k hk => ?_⟩
  · rw [Go.Sort.size_grow]; exact Nat.le_trans hp.size (Nat.le_add_right _ _)
  · rw [← hp.block k hk]
    exact Go.Sort.heap_grow_old _ _ (Nat.lt_of_lt_of_le hk (Nat.le_trans hN hp.size))
/-- Names sorted. -/
def srt (L : List ByteArray) : List (List UInt8) := (L.map fun x => x.data.toList).mergeSort fun x y => decide (x ≤ y)
theorem uni_nil : uni (srt []) = [] := by simp [srt, uni, Lib.compact, Lib.compactUpTo]
theorem srt_len (L : List ByteArray) : (srt L).length = L.length := by unfold srt; rw [List.length_mergeSort, List.length_map]
/-- Cells of names that may be turned. -/
def Row (w : World) (g n : Nat) (S : Nat → ByteArray) : Prop := ∀ k, k < n → w.cell? ⟨g, k, none⟩ = some (.string (S k)) ∧ w.frozen? ⟨g, k, none⟩ = false
def nth (zs : List (List UInt8)) (k : Nat) : ByteArray := ⟨(zs.getD k []).toArray⟩
theorem row_of {w : World} {base : Nat} {E : TypeId} {v : Value} {L : List ByteArray} (h : w.ownsRow base E 1 v L.length (vs L)) (h0 : 0 < L.length) : ∃ g cap, v = .slice (some ⟨g, 0, none⟩) L.length cap ∧ base ≤ g ∧ g < w.heap.size ∧ L.length ≤ cap ∧ cap ≤ maxLen ∧ Row w g L.length (fun k => L.getD k ⟨#[]⟩) := by
  rw [vs_srow] at h
  obtain ⟨g, cap, e, h1, h2, h3, h4, h5⟩ := srow_of h h0
  exact ⟨g, cap, e, h1, h2, h3, h4, fun k hk => ⟨h5.cell k hk, h5.free k⟩⟩
theorem row_keep {w w1 : World} (hb : Below w.heap.size w w1) {g n : Nat} {S : Nat → ByteArray} (h : Row w g n S) : Row w1 g n S := fun k hk => ⟨keep hb (h k hk).1, keepF hb (h k hk).1 (h k hk).2⟩
theorem sortC {w : World} {base : Nat} {E : TypeId} {v : Value} {L : List ByteArray} (h : w.ownsRow base E 1 v L.length (vs L)) (hn : L.length ≤ 1000000) :
    Calls Try.prog 38 #[v] w fun e w' => e = .returned (.tuple #[]) ∧ (0 < L.length → ∀ g cap, v = .slice (some ⟨g, 0, none⟩) L.length cap → Row w' g L.length (nth (srt L))) ∧ w.heap.size ≤ w'.heap.size ∧ ∀ N w0, N ≤ base → N ≤ w0.heap.size → Below N w0 w → Below N w0 w' := by
  rcases Nat.eq_zero_or_pos L.length with h0 | h0
  · have hq : ∃ A cap, v = .slice A 0 cap := by
      rw [h0] at h
      rcases h.2 with ⟨hv, -⟩ | ⟨g, cap, cur, hv, -⟩
      · exact ⟨none, 0, hv⟩
      · exact ⟨_, cap, hv⟩
    obtain ⟨A, cap, rfl⟩ := hq
    have hcon := Any.slices_Sort_string_none sortLays A cap w
    change Calls Try.prog 38 _ _ _ at hcon
    refine hcon.mono ?_
    rintro e w' ⟨rfl, rfl⟩
    exact ⟨rfl, fun h => absurd h (by omega), Nat.le_refl _, fun N w0 _ _ h => h⟩
  · obtain ⟨g, cap, rfl, hb, hg, h1, h2, hr⟩ := row_of h h0
    obtain ⟨zs, hzs⟩ : ∃ zs, zs = L.map fun x => x.data.toList := ⟨_, rfl⟩
    have hzl : zs.length = L.length := by rw [hzs, List.length_map]
    have hH : Go.Sort.Holds encStr w g 0 zs.toArray := by
      intro j hj
      have hj' : j < L.length := by rw [← hzl]; simpa using hj
      rw [Nat.zero_add]
      refine ⟨?_, (hr j hj').2⟩
      rw [(hr j hj').1, getElem!_pos zs.toArray j hj]
      subst hzs
      simp [encStr, hj']
    have hcon := Any.slices_Sort_string sortLays g 0 cap zs w hH hg (by omega)
    change Calls Try.prog 38 _ _ _ at hcon
    rw [hzl] at hcon
    refine hcon.mono ?_
    rintro e w' ⟨rfl, n, os, rfl⟩
    have hsz : (zs.mergeSort fun x y => decide (x ≤ y)).toArray.size = zs.toArray.size := by simp
    have hp := Go.Sort.holds_putRow encStr (Go.Sort.ahead w n) g 0 zs.toArray (zs.mergeSort fun x y => decide (x ≤ y)).toArray hH hsz
    have hgr := Go.Sort.holds_grow encStr _ os g 0 _ (by simpa [Go.Sort.putRow, Go.Sort.mapBlock, Go.Sort.ahead] using hg) hp
    refine ⟨rfl, fun _ g' cap' he k hk => ?_, ?_, fun N w0 h3 h4 h5 => below_put h5 h4 (Nat.le_trans h3 hb)⟩
    · injection he with e1
      injection e1 with e1
      injection e1 with e1 _
      subst e1
      have q := hgr k (by simp [hzl, hk])
      rw [Nat.zero_add] at q
      refine ⟨?_, q.2⟩
      rw [q.1, getElem!_pos _ k (by simp [hzl, hk])]
      have hk2 : k < (srt L).length := by rw [srt_len]; exact hk
      unfold nth
      rw [List.getD_eq_getElem?_getD, List.getElem?_eq_getElem hk2]
      subst hzs
      rfl
    · rw [Go.Sort.size_grow]
      simp [Go.Sort.putRow, Go.Sort.mapBlock, Go.Sort.ahead]
theorem below_sets {N g : Nat} {w0 : World} (hg : N ≤ g) : ∀ (vs : List Value) (o : Nat) (w : World), Below N w0 w → Below N w0 (w.setCells g o vs)
  | [], _, _, h => h
  | v :: vs, o, _, h => below_sets hg vs (o + 1) _ (h.setCell (p := ⟨g, o, none⟩) hg v)
theorem compactC {w : World} {base g cap : Nat} {L : List ByteArray} (h : Row w g L.length (nth (srt L))) (_h0 : 0 < L.length) (hn : L.length ≤ 1000000) (hc : L.length ≤ cap) (hm : cap ≤ maxLen) (hb : base ≤ g) :
    Calls Try.prog 39 #[.slice (some ⟨g, 0, none⟩) L.length cap] w fun e w' => (∃ v, e = .returned v ∧ SL w' v (uni (srt L))) ∧ ∀ N w0, N ≤ base → N ≤ w0.heap.size → Below N w0 w → Below N w0 w' := by
  have hcon := Any.slices_Compact_string_cells compactLays g 0 L.length cap (nth (srt L)) w (by omega) hc (fun i hi => by rw [Nat.zero_add]; exact (h i hi).1) (fun i hi => by rw [Nat.zero_add]; exact (h i hi).2)
  change Calls Try.prog 39 _ _ _ at hcon
  have hs : Lib.strsOf (nth (srt L)) L.length = srt L := by
    apply List.ext_getElem
    · rw [Lib.strsOf_length, srt_len]
    · intro i h1 h2
      simp [Lib.strsOf, nth, List.getD_eq_getElem?_getD, List.getElem?_eq_getElem h2]
  rw [hs] at hcon
  have hle := Lib.compact_length_le (srt L)
  rw [srt_len] at hle
  have hul : (uni (srt L)).length = (Lib.compact (srt L)).length := by unfold uni; rw [List.length_map]
  refine hcon.mono ?_
  rintro e w' ⟨rfl, q, rfl⟩
  refine ⟨⟨_, rfl, ?_⟩, fun N w0 h1 h2 h3 => below_sets (Nat.le_trans h1 hb) _ _ _ ⟨h3.os, h3.tape, h3.output, h3.size, h3.block⟩⟩
  rcases Nat.eq_zero_or_pos (Lib.compact (srt L)).length with h0 | h0
  · refine Or.inl ⟨by rw [hul, h0], Or.inr ⟨_, cap, by rw [h0], hm⟩⟩
  · refine Or.inr ⟨by rw [hul]; exact h0, g, 0, cap, by rw [hul], by rw [hul]; omega, hm, fun k hk => ?_⟩
    rw [hul] at hk
    have hlen : ((Lib.compact (srt L) ++ List.replicate (L.length - (Lib.compact (srt L)).length) []).map encStr).length = L.length := by simp; omega
    rw [World.cell?_setCells_in g _ 0 (w.drewN q) (fun t ht => by
      rw [hlen] at ht
      show (w.cell? ⟨g, 0 + t, none⟩).isSome = true
      rw [Nat.zero_add, (h t ht).1]; rfl) k (by rw [hlen]; omega)]
    rw [List.getElem_map, List.getElem_append_left hk]
    unfold uni
    show some (encStr (Lib.compact (srt L))[k]) = some (Value.string (((Lib.compact (srt L)).map fun u => (⟨u.toArray⟩ : ByteArray)).getD k ⟨#[]⟩))
    rw [List.getD_eq_getElem?_getD, List.getElem?_map, List.getElem?_eq_getElem hk]
    rfl
end Lnk
end Go.Proofs.Ytokioemmjfjhkaa
