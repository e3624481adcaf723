/- The names of the wakes, and what a text of a type reads of the library's variables. -/
import Derived.Test.YtddlacjjanincaaDoorPtN
import Derived.LaidHandle
namespace Go.Proofs.YtddlacjjanincaaDoor
open Go.ChangeShapes Go.WideShapes Go.RowKit Go.Shelf
namespace Ac
open Kit Pt
/-- The wakes' names. -/
def wkL : List (List UInt8) := [[76, 73, 71, 72, 84], [77, 69, 68, 73, 85, 77], [72, 69, 65, 86, 89], [83, 85, 80, 69, 82]]
def wkS (q : Nat) : ByteArray := ⟨(wkL.getD q []).toArray⟩
theorem cells_of_strs {H : Type} {enc : TypeId × Value → H} {P : Program} {w : World} {base : Nat} {sp : Nat → Bool} {held : Bool} {fuel : Nat} {t e : TypeId} {n : Nat} {cs : List Value} {ss : List (List UInt8)} {p : List MemPlace}
    (ht : P.underlying t = some (.array n e)) (he : P.underlying e = some .string) (hce : P.cellsOf e = 1) (hct : P.cellsOf t = n)
    (h : DataW.trod enc P w base sp held fuel t cs = some (.agg (ss.map fun s => .lit (.string s)), p)) : ∀ i, i < ss.length → cs[i]? = some (.string ⟨(ss.getD i []).toArray⟩) := by
  cases fuel with
  | zero => simp [DataW.trod] at h
  | succ fuel =>
    simp only [DataW.trod, ht, hce, hct, Nat.mul_one] at h
    split at h
    · rename_i hl
      obtain ⟨xs, hm, hx⟩ := Option.map_eq_some_iff.1 h
      have hxs : xs.map (·.1) = ss.map fun s => (DataW.lit (.string s) : DataW H) := by
        have := congrArg Prod.fst hx
        simpa using this
      have hxl : xs.length = n := by simpa using Lib.mapM_length hm
      intro i hi
      have hin : i < n := by
        have := congrArg List.length hxs
        simp at this
        omega
      obtain ⟨b, hb, hf⟩ := Lib.mapM_at hm i i (by simp [hin])
      obtain ⟨s, hc, rfl, _⟩ := DataW.trod_string he hf
      have h1 : cs[i]? = some (.string s) := by
        have := congrArg (·[0]?) hc
        simpa [List.getElem?_take, List.getElem?_drop] using this
      have h2 : (xs.map (·.1))[i]? = some (DataW.lit (.string s.data.toList) : DataW H) := by simp [hb]
      rw [hxs] at h2
      simp only [List.getElem?_map, Option.map_eq_some_iff, DataW.lit.injEq, Lit.string.injEq] at h2
      obtain ⟨z, hz, hzs⟩ := h2
      rw [h1, List.getD_eq_getElem?_getD, hz]
      show some (Value.string s) = some (Value.string ⟨z.toArray⟩)
      rw [hzs]
    · cases h
theorem strs_of_head {P : Program} {W : World} {name : String} {ss : List (List UInt8)} {rest : List (String × DataW Unit)} {g : Nat} {t e : TypeId} {n : Nat}
    (hg : P.globalNamed name = some g) (hty : (P.globals[g]?).map (·.type) = some t) (ht : P.underlying t = some (.array n e)) (he : P.underlying e = some .string) (hce : P.cellsOf e = 1) (hct : P.cellsOf t = n)
    (h : laidMet P ((name, .agg (ss.map fun s => .lit (.string s))) :: rest) W) (i : Nat) (hi : i < ss.length) : W.cell? ⟨g, i, none⟩ = some (.string ⟨(ss.getD i []).toArray⟩) := by
  obtain ⟨ps, ⟨g', t', cs, fuel, p, q, hg', ht', hvar, hd, _, _⟩, _⟩ := h
  obtain rfl := Option.some.inj (hg.symm.trans hg')
  obtain rfl := Option.some.inj (hty.symm.trans ht')
  have hc := World.var?_cell hg hvar i
  have := cells_of_strs ht he hce hct hd i hi
  rw [hc, List.getElem?_toArray, this]
/-- What the texts of types read. -/
structure VarsA (w : World) : Prop where
  tab : Lib.TabIs Tryd.prog w "internal/strconv.uint64pow10" .u64 Lib.pow10Tab
  wk : ∀ q, q < 4 → w.cell? ⟨0, q, none⟩ = some (.string (wkS q))
theorem varsA_keep {w w1 : World} (hb : Below w.heap.size w w1) (h : VarsA w) : VarsA w1 :=
  ⟨var_keep hb (g := 1) (by kernel_rfl) h.tab (by decide), fun q hq => keep hb (h.wk q hq)⟩
theorem itoaA {w : World} (V : VarsA w) (n : Int) (h0 : -9223372036854775808 ≤ n) (h1 : n ≤ 9223372036854775807) : Calls Tryd.prog 24 #[.int .i64 n] w fun e w' => e = .returned (.string (txt n)) ∧ Below w.heap.size w w' := by
  have hcon := Any.strconv_Itoa itoaLays n h0 h1 w V.tab
  change Calls Tryd.prog 24 _ _ _ at hcon
  refine hcon.mono ?_
  rintro e w' ⟨rfl, k, os, rfl⟩
  exact ⟨rfl, below_grow (Below.refl _ _) (Nat.le_refl _) k os⟩
end Ac
end Go.Proofs.YtddlacjjanincaaDoor
