/- What the rows of the Bits laws list: a world that meets it; what a walk has of it. -/
import Derived.Test.YtoafljgcmloilaaDoorBwk
import Derived.Test.YtoafljgcmloilaaDoorFrameE
import Derived.LaidHandle
import Derived.Lay
import Derived.Stop.LaidErr
import Derived.Shelf.Strings.Shaped
namespace Go.Proofs.YtoafljgcmloilaaDoor
open Go.ChangeShapes Go.WideShapes Go.RowKit Go.Shelf
shelf_lay LaysM.n145 Nm 145 at Tryd as cutLaysM
namespace DoorB
abbrev laid : List (String × DataW Unit) := [("math/bits.deBruijn32tab", Rows.laid_math_bits_deBruijn32tab), ("math/bits.deBruijn64tab", Rows.laid_math_bits_deBruijn64tab), ("internal/strconv.optimize", Rows.laid_internal_strconv_optimize), ("internal/strconv.uint64pow10", Rows.laid_internal_strconv_uint64pow10), ("unicode/utf8.acceptRanges", Rows.laid_unicode_utf8_acceptRanges), ("internal/strconv.leftcheats", Rows.laid_internal_strconv_leftcheats), ("internal/strconv.pow10Tab", Rows.laid_internal_strconv_pow10Tab), ("unicode/utf8.first", Rows.laid_unicode_utf8_first)]
noncomputable def laidWorld (os : Os) : World := World.laidAll Tryd.prog os laid
theorem laidWorld_met (os : Os) (args : Array Value) : laidMetH Tryd.prog laid ((laidWorld os).forCall (fun _ _ => 0) ⟨#[], args, []⟩).memory := by
  have e : (laid.filter fun x => x.2.handleName?.isNone) = laid := by kernel_rfl
  exact laidMetH_of_parts (by rw [e]; exact laidMet_laidAll args (by kernel_rfl) (by kernel_rfl)) (by kernel_rfl)
theorem laidWorld_shaped (os : Os) (args : Array Value) : ((laidWorld os).forCall (fun _ _ => 0) ⟨#[], args, []⟩).Shaped Tryd.prog := World.shaped_of_ZipB (by kernel_rfl) (by kernel_rfl)
theorem u64_nat {n : Int} (h : (Lit.int .u64 n).wf = true) : ∃ k : Nat, n = (k : Nat) ∧ k < 18446744073709551616 := by
  simp only [Lit.wf, Bool.and_eq_true, decide_eq_true_eq] at h
  have h' : 0 ≤ n ∧ n ≤ 18446744073709551615 := by simpa [IntKind.min, IntKind.max, IntKind.signed, IntKind.bits] using h
  obtain ⟨k, rfl⟩ := Int.eq_ofNat_of_zero_le h'.1
  exact ⟨k, rfl, by omega⟩
theorem cell_of_bool {H : Type} {enc : TypeId × Value → H} {P : Program} {w : World} {base : Nat} {sp : Nat → Bool} {held : Bool} {fuel : Nat} {t : TypeId} {cs : List Value} {b : Bool} {p : List MemPlace}
    (ht : P.underlying t = some .bool) (h : DataW.trod enc P w base sp held fuel t cs = some (.lit (.bool b), p)) : cs[0]? = some (.bool b) := by
  cases fuel with
  | zero => simp [DataW.trod] at h
  | succ fuel =>
    simp only [DataW.trod, ht] at h
    split at h <;> simp_all
theorem bool_of {P : Program} {W : World} {l : List (String × DataW Unit)} {name : String} {b : Bool} {g : Nat} {t : TypeId}
    (hg : P.globalNamed name = some g) (hty : (P.globals[g]?).map (·.type) = some t) (ht : P.underlying t = some .bool)
    (hm : (name, .lit (.bool b)) ∈ l) (h : laidMet P l W) : W.cell? ⟨g, 0, none⟩ = some (.bool b) := by
  obtain ⟨ps, hv, -⟩ := h
  have key : ∀ (l : List (String × DataW Unit)) (ps : List MemPlace), DataW.LaidVars P W l ps → (name, DataW.lit (.bool b)) ∈ l → W.cell? ⟨g, 0, none⟩ = some (.bool b) := by
    intro l
    induction l with
    | nil => intro _ _ hm; cases hm
    | cons x r ih =>
      intro ps hv hm
      obtain ⟨g', t', cs, fuel, p, q, hg', ht', hvar, hd, hq, rfl⟩ := hv
      rcases List.mem_cons.1 hm with e | hm
      · subst e
        obtain rfl := Option.some.inj (hg.symm.trans hg')
        obtain rfl := Option.some.inj (hty.symm.trans ht')
        have := World.var?_cell hg hvar 0
        rw [this]
        have c := cell_of_bool ht hd
        simpa using c
      · exact ih q hq hm
  exact key l ps hv hm
theorem vars_of {W : World} (h : laidMetH Tryd.prog laid W ∧ W.ShapedOpen Tryd.prog) : Txt.VB W := by
  have h' : laidMet Tryd.prog laid W := h.1
  exact ⟨bool_of (name := "internal/strconv.optimize") (g := 2) (by kernel_rfl) (t := 4) (by kernel_rfl) Tryd.underlying4 (by simp only [laid, List.mem_cons]; exact Or.inr (Or.inr (Or.inl rfl))) h', cutLaysM.s1_3 W h.2⟩
end DoorB
end Go.Proofs.YtoafljgcmloilaaDoor
