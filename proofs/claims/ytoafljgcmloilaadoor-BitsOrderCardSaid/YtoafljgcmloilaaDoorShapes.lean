/- Arguments of every shape that occurs: ints, strings, structs and slices of them, opened to cells. -/
import Derived.Test.YtoafljgcmloilaaDoorFrame
import Derived.Deep.Slices
namespace Go.Proofs.YtoafljgcmloilaaDoor
open Go.ChangeShapes Go.WideShapes Go.RowKit Go.Deep
namespace Frame
/-- The kind of a cell: an int, a string, or a slice whose elements have cells of these kinds. -/
inductive Kd where
  | int | str | sl (ks : List Kd)
/-- The kinds of the cells of fields, one behind the other. -/
def fieldsK (P : Program) (go : TypeId → Option (List Kd)) : List Field → List Kd → Option (List Kd)
  | [], acc => some acc
  | f :: fs, acc => if f.offset = acc.length then match go f.type with
      | some kf => if P.cellsOf f.type = kf.length then fieldsK P go fs (acc ++ kf) else none
      | none => none
    else none
/-- The kinds of the cells of a type. -/
def kindsB (P : Program) : Nat → TypeId → Option (List Kd)
  | 0, _ => none
  | n + 1, t => match P.underlying t with
    | some (.int .i64) => some [.int]
    | some .string => some [.str]
    | some (.slice e) => match kindsB P n e with
      | some ks => if P.cellsOf e = ks.length ∧ 0 < ks.length then some [.sl ks] else none
      | none => none
    | some (.struct fs) => match fieldsK P (kindsB P n) fs.toList [] with
      | some ks => if P.cellsOf t = ks.length then some ks else none
      | none => none
    | _ => none
/-- A cell's value is of a kind. -/
inductive Okc (w : World) : Kd → Value → Prop
  | int (n : Int) (h : -9223372036854775808 ≤ n ∧ n ≤ 9223372036854775807) : Okc w .int (.int .i64 n)
  | str (s : ByteArray) (h : s.size ≤ maxLen) : Okc w .str (.string s)
  | nil (ks : List Kd) : Okc w (.sl ks) (.slice none 0 0)
  | empty (ks : List Kd) (a : Addr) (cap : Nat) (h : cap ≤ maxLen) : Okc w (.sl ks) (.slice (some a) 0 cap)
  | rows (ks : List Kd) (b off len cap : Nat) (cells : Nat → Nat → Value) (h0 : 0 < len) (h1 : len ≤ cap) (h2 : cap ≤ maxLen)
      (hc : ∀ i, i < len → ∀ j, j < ks.length → w.cell? ⟨b, off + i * ks.length + j, none⟩ = some (cells i j))
      (ho : ∀ i, i < len → ∀ j (hj : j < ks.length), Okc w ks[j] (cells i j)) : Okc w (.sl ks) (.slice (some ⟨b, off, none⟩) len cap)
theorem Okc.int_inv {w : World} {v : Value} (h : Okc w .int v) : ∃ n : Int, v = .int .i64 n ∧ -9223372036854775808 ≤ n ∧ n ≤ 9223372036854775807 := by
  cases h with | int n h => exact ⟨n, rfl, h⟩
theorem Okc.str_inv {w : World} {v : Value} (h : Okc w .str v) : ∃ s : ByteArray, v = .string s ∧ s.size ≤ maxLen := by
  cases h with | str n h => exact ⟨n, rfl, h⟩
theorem Okc.sl_inv {w : World} {v : Value} {ks : List Kd} (h : Okc w (.sl ks) v) :
    v = .slice none 0 0 ∨ (∃ a cap, v = .slice (some a) 0 cap ∧ cap ≤ maxLen) ∨ ∃ (b off len cap : Nat) (cells : Nat → Nat → Value), v = .slice (some ⟨b, off, none⟩) len cap ∧ 0 < len ∧ len ≤ cap ∧ cap ≤ maxLen ∧
      (∀ i, i < len → ∀ j, j < ks.length → w.cell? ⟨b, off + i * ks.length + j, none⟩ = some (cells i j)) ∧ ∀ i, i < len → ∀ j (hj : j < ks.length), Okc w ks[j] (cells i j) := by
  cases h with
  | nil => exact Or.inl rfl
  | empty ks a cap h => exact Or.inr (Or.inl ⟨a, cap, rfl, h⟩)
  | rows ks b off len cap cells h0 h1 h2 hc ho => exact Or.inr (Or.inr ⟨b, off, len, cap, cells, rfl, h0, h1, h2, hc, ho⟩)
section
variable {H : Type} {enc : TypeId × Value → H} {P : Program} {w : World} {base : Nat} {spare : Nat → Bool} {held : Bool}
theorem fieldsK_spec {go : TypeId → Option (List Kd)} : ∀ (fs : List Field) (acc ks : List Kd), fieldsK P go fs acc = some ks →
    (∀ j, j < acc.length → ks[j]? = acc[j]?) ∧ acc.length ≤ ks.length ∧
    ∀ j, acc.length ≤ j → j < ks.length → ∃ f ∈ fs, f.offset ≤ j ∧ j < f.offset + P.cellsOf f.type ∧ ∃ kf, go f.type = some kf ∧ kf.length = P.cellsOf f.type ∧ ks[j]? = kf[j - f.offset]?
  | [], acc, ks, h => by
    obtain rfl := Option.some.inj h
    exact ⟨fun _ _ => rfl, Nat.le_refl _, fun j h1 h2 => by omega⟩
  | f :: fs, acc, ks, h => by
    unfold fieldsK at h
    split at h
    · rename_i ho
      split at h
      · rename_i kf hkf
        split at h
        · rename_i hl
          obtain ⟨h1, h2, h3⟩ := fieldsK_spec fs (acc ++ kf) ks h
          rw [List.length_append] at h2
          refine ⟨fun j hj => ?_, by omega, fun j hj hjk => ?_⟩
          · rw [h1 j (by rw [List.length_append]; omega), List.getElem?_append_left hj]
          · rcases Nat.lt_or_ge j (acc.length + kf.length) with hlt | hge
            · refine ⟨f, List.mem_cons_self, by omega, by omega, kf, hkf, hl.symm, ?_⟩
              rw [h1 j (by rw [List.length_append]; omega), List.getElem?_append_right hj, ho]
            · obtain ⟨g, hg, h4, h5, h6⟩ := h3 j (by rw [List.length_append]; omega) hjk
              exact ⟨g, List.mem_cons_of_mem _ hg, h4, h5, h6⟩
        · cases h
      · cases h
    · cases h
theorem kinds_trod : ∀ (n : Nat) (t : TypeId) (cs : List Value) (x : DataW H × List MemPlace) (fuel : Nat) (ks : List Kd), kindsB P n t = some ks → DataW.trod enc P w base spare held fuel t cs = some x →
    cs.length = ks.length ∧ ∀ j (h : j < ks.length) (h' : j < cs.length), Okc w ks[j] cs[j]
  | 0, _, _, _, _, _, h, _ => by cases h
  | n + 1, t, cs, x, fuel, ks, h, ht => by
    unfold kindsB at h
    split at h
    · rename_i hu
      obtain rfl := Option.some.inj h
      obtain ⟨m, rfl, _, hw⟩ := DataW.trod_int hu ht
      refine ⟨rfl, fun j h h' => ?_⟩
      have hj : j = 0 := by simpa using h
      subst hj
      exact .int m (bd hw)
    · rename_i hu
      obtain rfl := Option.some.inj h
      obtain ⟨s, rfl, _, hw⟩ := DataW.trod_string hu ht
      refine ⟨rfl, fun j h h' => ?_⟩
      have hj : j = 0 := by simpa using h
      subst hj
      exact .str s hw
    · rename_i e hu
      split at h
      · rename_i ke hke
        split at h
        · rename_i hl
          obtain rfl := Option.some.inj h
          have key : ∃ v, cs = [v] ∧ Okc w (.sl ke) v := by
            rcases open_slice hu ht with ⟨rfl, _⟩ | ⟨a, len, cap, m, k, D, Pl, rfl, hb, hle, hcap, hm, hx, hi⟩
            · exact ⟨_, rfl, .nil _⟩
            · refine ⟨_, rfl, ?_⟩
              by_cases hpos : 0 < len
              · have hlm : len ≤ m := by rw [hm]; split <;> omega
                have cell : ∀ i, i < len → ∀ j (hj : j < ke.length), ∃ z : Value, w.cell? (a.add (i * ke.length + j)) = some z ∧ Okc w ke[j] z := by
                  intro i hil j hj
                  obtain ⟨cs', hc, htr⟩ := hi i (by omega)
                  rw [hl.1] at hc
                  obtain ⟨_, hcl, hat⟩ := World.cells?_some hc
                  have hcj := hat j hj
                  have hcj' : cs'[j]? = some (cs'[j]'(by omega)) := List.getElem?_eq_getElem (by omega)
                  obtain ⟨_, h2⟩ := kinds_trod n e cs' _ k ke hke htr
                  exact ⟨_, by rw [← add_add]; exact hcj.trans hcj', h2 j hj (by omega)⟩
                obtain ⟨b, off, spot⟩ := a
                obtain ⟨z, hz, _⟩ := cell 0 hpos 0 hl.2
                have hspot : spot = none := by simpa [Addr.add] using World.cell?_spot hz
                subst hspot
                classical
                refine .rows ke b off len cap (fun i j => if h : i < len ∧ j < ke.length then Classical.choose (cell i h.1 j h.2) else .bool false) hpos hle hcap (fun i hil j hj => ?_) (fun i hil j hj => ?_)
                · have hs := Classical.choose_spec (cell i hil j hj)
                  simp only [dif_pos (show i < len ∧ j < ke.length from ⟨hil, hj⟩)]
                  rw [show off + i * ke.length + j = off + (i * ke.length + j) from by omega, ← Go.WideShapes.add_plain]
                  exact hs.1
                · have hs := Classical.choose_spec (cell i hil j hj)
                  simp only [dif_pos (show i < len ∧ j < ke.length from ⟨hil, hj⟩)]
                  exact hs.2
              · rw [show len = 0 from by omega]
                exact .empty _ _ _ hcap
          obtain ⟨v, rfl, hv⟩ := key
          refine ⟨rfl, fun j h h' => ?_⟩
          have hj : j = 0 := by simpa using h
          subst hj
          exact hv
        · cases h
      · cases h
    · rename_i fs hu
      split at h
      · rename_i ks' hks
        split at h
        · rename_i hl
          obtain rfl := Option.some.inj h
          obtain ⟨xs, k, _, _, hlen, hxs, hf⟩ := DataW.trod_struct hu ht
          refine ⟨by omega, fun j h h' => ?_⟩
          obtain ⟨f, hfm, h4, h5, kf, hkf, hkl, hat⟩ := (fieldsK_spec _ _ _ hks).2.2 j (Nat.zero_le _) h
          obtain ⟨i, hi, hfi⟩ := List.mem_iff_getElem.1 hfm
          have hfi' : fs[i]? = some f := by
            rw [Array.getElem?_eq_getElem (by simpa using hi)]
            simpa using hfi
          have ht' := hf i f hfi'
          have hlt : i < xs.length := by rw [hxs]; simpa using hi
          rw [List.getElem?_eq_getElem hlt] at ht'
          obtain ⟨h6, h7⟩ := kinds_trod n f.type _ _ k kf hkf ht'
          have h8 := h7 (j - f.offset) (by omega) (by omega)
          have e1 : kf[j - f.offset]'(by omega) = ks'[j] := by
            rw [List.getElem?_eq_getElem h, List.getElem?_eq_getElem (by omega)] at hat
            exact (Option.some.inj hat).symm
          have e2 : ((cs.drop f.offset).take (P.cellsOf f.type))[j - f.offset]'(by omega) = cs[j] := by
            simp only [List.getElem_take, List.getElem_drop]
            congr 1
            omega
          rw [e1, e2] at h8
          exact h8
        · cases h
      · cases h
    · cases h
/-- An argument of one cell. -/
theorem arg_cell {t : TypeId} {k : Nat} {kd : Kd} {v : Value} {d : DataW H} {ps : List MemPlace} (hk : kindsB P k t = some [kd]) (hv : v.cells = #[v])
    (h : DataW.Trod enc P w base spare held t v d ps) : Okc w kd v := by
  obtain ⟨fuel, hf⟩ := h
  rw [hv] at hf
  exact (kinds_trod k t _ _ _ _ hk hf).2 0 (by simp) (by simp)
/-- A struct argument. -/
theorem arg_agg {t : TypeId} {k : Nat} {ks : List Kd} {v : Value} {d : DataW H} {ps : List MemPlace} {r : Reach} {b0 : Nat} {fs : Array Field} (hs : P.underlying t = some (.struct fs)) (hk : kindsB P k t = some ks) (hv : Value.okWide P w r b0 t v)
    (h : DataW.Trod enc P w base spare held t v d ps) : ∃ cs : List Value, v = .agg cs.toArray ∧ cs.length = ks.length ∧ ∀ j (h : j < ks.length) (h' : j < cs.length), Okc w ks[j] cs[j] := by
  obtain ⟨cs, rfl, hsz⟩ := okWide_struct hs hv
  obtain ⟨l⟩ := cs
  obtain ⟨fuel, hf⟩ := h
  have hh := kinds_trod k t _ _ _ _ hk hf
  exact ⟨l, rfl, by simpa [Value.cells] using hh.1, fun j h h' => by simpa [Value.cells] using hh.2 j h (by simpa [Value.cells] using h')⟩
end
end Frame
end Go.Proofs.YtoafljgcmloilaaDoor
