/- Lists of names that grow by append from any list; slices.Grow, slices.Concat. -/
import Derived.Test.YtokioemmjfjhkaaChE
import Derived.Laws.AppendOwnNone
import Derived.Lib.AppendZeros
namespace Go.Proofs.Ytokioemmjfjhkaa
open Go.RowKit
namespace Route
open Kit Chart
/-- The cells of a list of names. -/
abbrev vs (L : List ByteArray) : List Value := L.map Value.string
theorem vs_one {L : List ByteArray} : ∀ u ∈ vs L, u.oneCell' = true := by
  intro u hu
  obtain ⟨s, -, rfl⟩ := List.mem_map.1 hu
  rfl
/-- A slice that reads as a list of names. -/
def SL (w : World) (v : Value) (L : List ByteArray) : Prop := SV w v L.length (fun k => L.getD k ⟨#[]⟩)
theorem sl_keep {W w1 : World} (hb : Below W.heap.size W w1) {v : Value} {L : List ByteArray} (h : SL W v L) : SL w1 v L := sv_keep hb h
theorem sl_cells {w : World} {b off : Nat} {L : List ByteArray} (h : ∀ k, k < L.length → w.cell? ⟨b, off + k, none⟩ = some (.string (L.getD k ⟨#[]⟩))) : ∀ j u, (vs L)[j]? = some u → w.cell? ((⟨b, off, none⟩ : Addr).add j) = some u := fun j u hu => by
  have hj : j < L.length := by
    have := (List.getElem?_eq_some_iff.1 hu).1
    rwa [List.length_map] at this
  rw [Go.WideShapes.add_plain, h j hj]
  rw [List.getElem?_map, List.getElem?_eq_getElem hj] at hu
  rw [← Option.some.inj hu, List.getD_eq_getElem?_getD, List.getElem?_eq_getElem hj]
  rfl
/-- What a call owns reads as a list. -/
theorem sl_own {w : World} {base : Nat} {E : TypeId} {v : Value} {L : List ByteArray} (h : w.ownsRow base E 1 v L.length (vs L)) : SL w v L := by
  have hh := h
  rcases Nat.eq_zero_or_pos L.length with h0 | h0
  · refine Or.inl ⟨h0, ?_⟩
    rcases h.2 with ⟨hv, -⟩ | ⟨g, cap, cur, hv, hb, hg, hnc, hcm, -⟩
    · exact Or.inl hv
    · exact Or.inr ⟨⟨g, 0, none⟩, cap, by rw [hv, h0], hcm⟩
  · rcases h.2 with ⟨-, h1⟩ | ⟨g, cap, cur, hv, hb, hg, hnc, hcm, -⟩
    · omega
    · refine Or.inr ⟨h0, g, 0, cap, hv, hnc, hcm, fun k hk => ?_⟩
      subst hv
      have hc := hh.cellAt k (by omega)
      rw [Nat.zero_add, hc, List.getElem?_map, List.getElem?_eq_getElem hk]
      show some (Value.string L[k]) = some (.string (L.getD k ⟨#[]⟩))
      rw [List.getD_eq_getElem?_getD, List.getElem?_eq_getElem hk]
      rfl
theorem sl_slice {w : World} {v : Value} {L : List ByteArray} (h : SL w v L) : ∃ A cap, v = .slice A L.length cap := sv_slice h
section
variable {P : Program} {w : World}
theorem grown_refl (w : World) (row : Option Nat) : w.grownBy w row := ⟨rfl, rfl, rfl, Nat.le_refl _, fun _ _ _ => rfl⟩
/-- append(v, u...), the source a list of names in memory, nil or not. -/
theorem append_sl {ops : Array Oper} {rest : List Oper} {o : Oper} {a : Act} {Q : Exit → Act → World → Prop} (hgd : o.guard = none) (s x : Operand) (t : TypeId)
    (ho : o.op = .call { callee := .builtin .append, args := #[s, x], argTypes := #[t, t] })
    (base : Nat) (e : TypeId) (i : TypeInfo) (z : Value) (ht : P.underlying t = some (.slice e)) (hi : P.info? e = some i) (hz : i.zero = some z)
    (hsize : i.size = 1) (hby : i.bytes = 16) (hzs : z.cells.size = 1)
    (v : Value) (L : List ByteArray) (hs : a.eval s = v) (hown : w.ownsRow base e 1 v L.length (vs L))
    (u : Value) (M : List ByteArray) (hx : a.eval x = u) (hu : SL w u M) (hlen : L.length + M.length ≤ 1000000) (hbase : base ≤ w.heap.size)
    (h : ∀ v' w', w'.ownsRow base e 1 v' (L ++ M).length (vs (L ++ M)) → w.grownBy w' v.ownBlock → wpList P ops Q rest (a.put o.dst v') w') : wpList P ops Q (o :: rest) a w := by
  have key : ∀ (ad : Addr) (c : Nat), u = .slice (some ad) M.length c → (∀ j y, (vs M)[j]? = some y → w.cell? (ad.add j) = some y) → wpList P ops Q (o :: rest) a w := fun ad c hu' hc => by
    subst hu'
    refine wpList_append_own w hgd s x t ho base e i z 1 16 ht hi hz hsize hby hzs (by decide) v L.length (vs L) hs hown ad M.length c (vs M) hx (by rw [List.length_map, Nat.mul_one]) hc vs_one (by unfold maxLen; omega) (by omega) hbase fun v' w' h2 h3 _ => h v' w' ?_ h3
    show w'.ownsRow base e 1 v' _ ((L ++ M).map Value.string)
    rw [List.length_append, List.map_append]
    exact h2
  rcases hu with ⟨h0, rfl | ⟨ad, c, rfl, hc⟩⟩ | ⟨h0, b, off, c, rfl, h1, h2, h3⟩
  · obtain rfl : M = [] := List.length_eq_zero_iff.1 h0
    refine wpList_append_own_none hgd s x t ho base e i 1 ht hi v L.length (vs L) hs hown hx ?_
    have := h v w (by rw [List.append_nil]; exact hown) (grown_refl w _)
    exact this
  · obtain rfl : M = [] := List.length_eq_zero_iff.1 h0
    exact key ad c rfl fun j y hy => by simp at hy
  · exact key ⟨b, off, none⟩ c rfl (sl_cells h3)
end
/-- The slices of a slice of three. -/
abbrev T3 (w : World) (b : Nat) (U : Nat → Value) : Prop := ∀ k, k < 3 → w.cell? ⟨b, k, none⟩ = some (U k)
/-- The first k of three lists, one behind the other. -/
def pre (L : Nat → List ByteArray) : Nat → List ByteArray
  | 0 => []
  | k + 1 => pre L k ++ L k
theorem pre_len {L : Nat → List ByteArray} (h : ∀ k, (L k).length ≤ 1000) : ∀ k, (pre L k).length ≤ 1000 * k
  | 0 => Nat.le_refl _
  | k + 1 => by
    show (pre L k ++ L k).length ≤ _
    rw [List.length_append]
    have := pre_len h k; have := h k; omega
end Route
end Go.Proofs.Ytokioemmjfjhkaa
