/- Joined texts: NameW, Shapes, ChV, ChA, ChC. -/
import Derived.Test.YtmkglhoahdlogaaGreatDoorProg
import Derived.Test.YtmkglhoahdlogaaGreatDoorJ01
import Derived.Laws.IdiomStrings
import Derived.Test.YtmkglhoahdlogaaGreatDoorJ02
import Derived.Deep.Slices
import Derived.Test.YtmkglhoahdlogaaGreatDoorJ03
namespace Go.Proofs.YtmkglhoahdlogaaGreatDoor
open Go.RowKit
namespace Name
open Kit
/-- A byte that a name may hold at place k. -/
def okc (k : Nat) (c : Int) : Prop := (65 ≤ c ∧ c ≤ 90) ∨ (0 < k ∧ 48 ≤ c ∧ c ≤ 57)
instance (k : Nat) (c : Int) : Decidable (okc k c) := by unfold okc; exact inferInstance
def byte (s : ByteArray) (k : Nat) : Int := ((s.data[k]?.getD 0).toNat : Int)
def good (m : Nat) (B : Nat → Int) : Prop := 1 ≤ m ∧ m ≤ 8 ∧ ∀ k, k < m → okc k (B k)
instance (m : Nat) (B : Nat → Int) : Decidable (good m B) := by unfold good; exact inferInstance
theorem okc_next {k : Nat} {B : Nat → Int} (h : ∀ j, j < k → okc j (B j)) (h' : okc k (B k)) : ∀ j, j < k + 1 → okc j (B j) := fun j hj => by
  by_cases e : j = k
  · rw [e]; exact h'
  · exact h j (by omega)
set_option maxHeartbeats 600000 in
theorem bad_len (s : ByteArray) (w : World) (h : s.size < 1 ∨ 8 < s.size) :
    Calls Tryz.prog 35 #[.string s] w fun e w' => e = .returned (.bool false) ∧ w = w' := by
  by_cases h1 : (s.size : Int) < 1
  · go_enter Tryz.func35, Tryz.ntmps35
    go_wp2_with fail
    go_ret
    exact ⟨rfl, rfl⟩
  · have h2 : (8 : Int) < (s.size : Int) := by omega
    go_enter Tryz.func35, Tryz.ntmps35
    go_wp2_with fail
    go_ret
    exact ⟨rfl, rfl⟩
set_option maxHeartbeats 1000000 in
theorem some_len (s : ByteArray) (m cap : Nat) (C : Array Value) (fr : Nat × Nat) (B : Nat → Int) (w : World) (hm : s.size = m) (h1 : 1 ≤ m) (h8 : m ≤ 8) (_hcap : m ≤ cap) (_hmx : cap ≤ 9223372036854775807)
    (hconv : (convert 9 128 (.string s)).run Tryz.prog w = .ok (.slice (some ⟨w.heap.size, 0, none⟩) m cap) (w.drew.alloc (.cells C 5 fr)))
    (HC : Hid (∀ k, k < m → (w.alloc (.cells C 5 fr)).cell? ⟨w.heap.size, k, none⟩ = some (.int .u8 (B k)))) :
    Calls Tryz.prog 35 #[.string s] w fun e w' => e = .returned (.bool (decide (good m B))) ∧ Below w.heap.size w w' := by
  have g1 : ¬ (m : Int) < 1 := by omega
  have g2 : ¬ (8 : Int) < (m : Int) := by omega
  go_enter Tryz.func35, Tryz.ntmps35
  go_wp2
  have hb0 : Below (w.alloc (.cells C 5 fr)).heap.size (w.alloc (.cells C 5 fr)) (w.alloc (.cells C 5 fr)).drew := b_drew (Below.refl _ _)
  have hbw : Below w.heap.size w (w.alloc (.cells C 5 fr)).drew := b_drew (b_alloc (Below.refl _ _) _)
  have HW := Lib.hid (And.intro hb0 hbw); clear hb0 hbw
  go_loopw [16] (fun i wr => ∃ k : Nat, k ≤ m ∧ (∀ j, j < k → okc j (B j)) ∧ i = .int .i64 k ∧ Below (w.alloc (.cells C 5 fr)).heap.size (w.alloc (.cells C 5 fr)) wr ∧ Below w.heap.size w wr) (fun i _ => m - (intOf i).toNat)
  case atStart => exact ⟨0, Nat.zero_le _, fun j hj => absurd hj (Nat.not_lt_zero _), rfl, HW.out.1, HW.out.2⟩
  case round =>
    obtain ⟨k, hk, hg, rfl, hb1, hb2⟩ := hrel
    have HG := Lib.hid hg; clear hg
    by_cases hlt : k < m
    · have hc := keep hb1 (HC.out k hlt)
      have hl : (k : Int) < (m : Int) := by omega
      by_cases a0 : 65 ≤ B k
      · by_cases a1 : B k ≤ 90
        · have O : Hid (okc k (B k)) := Lib.hid (by unfold okc; omega)
          go_wp2_with fail
          go_roundw
          case rel => first | exact ⟨k + 1, by omega, okc_next HG.out O.out, by go_num, hb1, hb2⟩ | ((repeat apply Exists.intro); exact ⟨⟨k + 1, by omega, okc_next HG.out O.out, by go_num, hb1, hb2⟩, rfl⟩)
          case measure => simp [intOf]; omega
        · by_cases a2 : 0 < (k : Int)
          · have z1 : 0 < k := by omega
            by_cases a3 : 48 ≤ B k
            · by_cases a4 : B k ≤ 57
              · have O : Hid (okc k (B k)) := Lib.hid (by unfold okc; omega)
                go_wp2_with fail
                go_roundw
                case rel => first | exact ⟨k + 1, by omega, okc_next HG.out O.out, by go_num, hb1, hb2⟩ | ((repeat apply Exists.intro); exact ⟨⟨k + 1, by omega, okc_next HG.out O.out, by go_num, hb1, hb2⟩, rfl⟩)
                case measure => simp [intOf]; omega
              · have O : Hid (decide (good m B) = false) := Lib.hid (decide_eq_false fun h => by have := h.2.2 _ hlt; unfold okc at this; omega)
                go_wp2_with fail
                go_ret
                exact ⟨retb O.out.symm, hb2⟩
            · have O : Hid (decide (good m B) = false) := Lib.hid (decide_eq_false fun h => by have := h.2.2 _ hlt; unfold okc at this; omega)
              go_wp2_with fail
              go_ret
              exact ⟨retb O.out.symm, hb2⟩
          · have z1 : k = 0 := by omega
            subst z1
            have O : Hid (decide (good m B) = false) := Lib.hid (decide_eq_false fun h => by have := h.2.2 _ hlt; unfold okc at this; omega)
            go_wp2_with fail
            go_ret
            exact ⟨retb O.out.symm, hb2⟩
      · by_cases a1 : 0 < (k : Int)
        · have z1 : 0 < k := by omega
          by_cases a2 : 48 ≤ B k
          · by_cases a3 : B k ≤ 57
            · have O : Hid (okc k (B k)) := Lib.hid (by unfold okc; omega)
              go_wp2_with fail
              go_roundw
              case rel => first | exact ⟨k + 1, by omega, okc_next HG.out O.out, by go_num, hb1, hb2⟩ | ((repeat apply Exists.intro); exact ⟨⟨k + 1, by omega, okc_next HG.out O.out, by go_num, hb1, hb2⟩, rfl⟩)
              case measure => simp [intOf]; omega
            · have O : Hid (decide (good m B) = false) := Lib.hid (decide_eq_false fun h => by have := h.2.2 _ hlt; unfold okc at this; omega)
              go_wp2_with fail
              go_ret
              exact ⟨retb O.out.symm, hb2⟩
          · have O : Hid (decide (good m B) = false) := Lib.hid (decide_eq_false fun h => by have := h.2.2 _ hlt; unfold okc at this; omega)
            go_wp2_with fail
            go_ret
            exact ⟨retb O.out.symm, hb2⟩
        · have z1 : k = 0 := by omega
          subst z1
          have O : Hid (decide (good m B) = false) := Lib.hid (decide_eq_false fun h => by have := h.2.2 _ hlt; unfold okc at this; omega)
          go_wp2_with fail
          go_ret
          exact ⟨retb O.out.symm, hb2⟩
    · have hk' : m = k := by omega
      have O : Hid (decide (good m B) = true) := Lib.hid (decide_eq_true ⟨h1, h8, fun j hj => HG.out j (by omega)⟩)
      have hl : ¬ (k : Int) < (m : Int) := by omega
      clear hk'
      go_wp2_with fail
      go_ret
      exact ⟨retb O.out.symm, hb2⟩
/-- What chart.Name answers. -/
def nameB (s : ByteArray) : Bool := decide (good s.size (byte s))
theorem nameC (s : ByteArray) (w : World) : Calls Tryz.prog 35 #[.string s] w fun e w' => e = .returned (.bool (nameB s)) ∧ Below w.heap.size w w' := by
  by_cases h : s.size < 1 ∨ 8 < s.size
  · have e : nameB s = false := decide_eq_false fun g => by have h1 := g.1; have h2 := g.2.1; omega
    rw [e]
    exact (bad_len s w h).mono fun e w' ⟨he, hw⟩ => ⟨he, hw ▸ Below.refl _ _⟩
  · have hs : s.size = s.data.size := rfl
    exact some_len s s.size (grownCap w s.size 0 5) (bytesRow s (grownCap w s.size 0 5)) _ (byte s) w rfl (by omega) (by omega) (grownCap_ge w s.size 0 _)
      (Nat.le_trans (grownCap_le_maxLen w s.size 0 _ (Nat.le_trans (show s.size ≤ 8 by omega) (by decide))) (by decide))
      (run_bytes_of_string w 9 128 5 s Tryz.underlying9 Tryz.underlying128 Tryz.underlying5)
      (Lib.hid fun k hk => by
        have hb := bytesRow_at s (grownCap w s.size 0 5) k (hs ▸ hk)
        have e : byte s k = (s.data[k].toNat : Int) := by unfold byte; rw [Array.getElem?_eq_getElem (hs ▸ hk)]; rfl
        rw [e]
        exact (World.cell?_alloc_mark _ _ _ _ _).trans hb)
end Name
end Go.Proofs.YtmkglhoahdlogaaGreatDoor
namespace Go.Proofs.YtmkglhoahdlogaaGreatDoor
open Go.ChangeShapes Go.WideShapes Go.RowKit Go.Deep
namespace Frame
/-- The kind of a cell: an int, a string, or a slice whose elements have cells of these kinds. -/
inductive Kd where
  | int | str | sl (ks : List Kd)
/-- The kinds of the cells of fields, one behind the other. -/
def fieldsK (P : Program) (go : TypeId → Option (List Kd)) : List Field → List Kd → Option (List Kd)
  | [], acc => some acc
  | f :: fs, acc => if f.offset = acc.length then match go f.type with
      | some kf => if P.cellsOf f.type = kf.length then fieldsK P go fs (acc ++ kf) else none
      | none => none
    else none
/-- The kinds of the cells of a type. -/
def kindsB (P : Program) : Nat → TypeId → Option (List Kd)
  | 0, _ => none
  | n + 1, t => match P.underlying t with
    | some (.int .i64) => some [.int]
    | some .string => some [.str]
    | some (.slice e) => match kindsB P n e with
      | some ks => if P.cellsOf e = ks.length ∧ 0 < ks.length then some [.sl ks] else none
      | none => none
    | some (.struct fs) => match fieldsK P (kindsB P n) fs.toList [] with
      | some ks => if P.cellsOf t = ks.length then some ks else none
      | none => none
    | _ => none
/-- A cell's value is of a kind. -/
inductive Okc (w : World) : Kd → Value → Prop
  | int (n : Int) (h : -9223372036854775808 ≤ n ∧ n ≤ 9223372036854775807) : Okc w .int (.int .i64 n)
  | str (s : ByteArray) (h : s.size ≤ maxLen) : Okc w .str (.string s)
  | nil (ks : List Kd) : Okc w (.sl ks) (.slice none 0 0)
  | empty (ks : List Kd) (a : Addr) (cap : Nat) (h : cap ≤ maxLen) : Okc w (.sl ks) (.slice (some a) 0 cap)
  | rows (ks : List Kd) (b off len cap : Nat) (cells : Nat → Nat → Value) (h0 : 0 < len) (h1 : len ≤ cap) (h2 : cap ≤ maxLen)
      (hc : ∀ i, i < len → ∀ j, j < ks.length → w.cell? ⟨b, off + i * ks.length + j, none⟩ = some (cells i j))
      (ho : ∀ i, i < len → ∀ j (hj : j < ks.length), Okc w ks[j] (cells i j)) : Okc w (.sl ks) (.slice (some ⟨b, off, none⟩) len cap)
theorem Okc.int_inv {w : World} {v : Value} (h : Okc w .int v) : ∃ n : Int, v = .int .i64 n ∧ -9223372036854775808 ≤ n ∧ n ≤ 9223372036854775807 := by
  cases h with | int n h => exact ⟨n, rfl, h⟩
theorem Okc.str_inv {w : World} {v : Value} (h : Okc w .str v) : ∃ s : ByteArray, v = .string s ∧ s.size ≤ maxLen := by
  cases h with | str n h => exact ⟨n, rfl, h⟩
theorem Okc.sl_inv {w : World} {v : Value} {ks : List Kd} (h : Okc w (.sl ks) v) :
    v = .slice none 0 0 ∨ (∃ a cap, v = .slice (some a) 0 cap ∧ cap ≤ maxLen) ∨ ∃ (b off len cap : Nat) (cells : Nat → Nat → Value), v = .slice (some ⟨b, off, none⟩) len cap ∧ 0 < len ∧ len ≤ cap ∧ cap ≤ maxLen ∧
      (∀ i, i < len → ∀ j, j < ks.length → w.cell? ⟨b, off + i * ks.length + j, none⟩ = some (cells i j)) ∧ ∀ i, i < len → ∀ j (hj : j < ks.length), Okc w ks[j] (cells i j) := by
  cases h with
  | nil => exact Or.inl rfl
  | empty ks a cap h => exact Or.inr (Or.inl ⟨a, cap, rfl, h⟩)
  | rows ks b off len cap cells h0 h1 h2 hc ho => exact Or.inr (Or.inr ⟨b, off, len, cap, cells, rfl, h0, h1, h2, hc, ho⟩)
section
variable {H : Type} {enc : TypeId × Value → H} {P : Program} {w : World} {base : Nat} {spare : Nat → Bool} {held : Bool}
theorem fieldsK_spec {go : TypeId → Option (List Kd)} : ∀ (fs : List Field) (acc ks : List Kd), fieldsK P go fs acc = some ks →
    (∀ j, j < acc.length → ks[j]? = acc[j]?) ∧ acc.length ≤ ks.length ∧
    ∀ j, acc.length ≤ j → j < ks.length → ∃ f ∈ fs, f.offset ≤ j ∧ j < f.offset + P.cellsOf f.type ∧ ∃ kf, go f.type = some kf ∧ kf.length = P.cellsOf f.type ∧ ks[j]? = kf[j - f.offset]?
  | [], acc, ks, h => by
    obtain rfl := Option.some.inj h
    exact ⟨fun _ _ => rfl, Nat.le_refl _, fun j h1 h2 => by omega⟩
  | f :: fs, acc, ks, h => by
    unfold fieldsK at h
    split at h
    · rename_i ho
      split at h
      · rename_i kf hkf
        split at h
        · rename_i hl
          obtain ⟨h1, h2, h3⟩ := fieldsK_spec fs (acc ++ kf) ks h
          rw [List.length_append] at h2
          refine ⟨fun j hj => ?_, by omega, fun j hj hjk => ?_⟩
          · rw [h1 j (by rw [List.length_append]; omega), List.getElem?_append_left hj]
          · rcases Nat.lt_or_ge j (acc.length + kf.length) with hlt | hge
            · refine ⟨f, List.mem_cons_self, by omega, by omega, kf, hkf, hl.symm, ?_⟩
              rw [h1 j (by rw [List.length_append]; omega), List.getElem?_append_right hj, ho]
            · obtain ⟨g, hg, h4, h5, h6⟩ := h3 j (by rw [List.length_append]; omega) hjk
              exact ⟨g, List.mem_cons_of_mem _ hg, h4, h5, h6⟩
        · cases h
      · cases h
    · cases h
theorem kinds_trod : ∀ (n : Nat) (t : TypeId) (cs : List Value) (x : DataW H × List MemPlace) (fuel : Nat) (ks : List Kd), kindsB P n t = some ks → DataW.trod enc P w base spare held fuel t cs = some x →
    cs.length = ks.length ∧ ∀ j (h : j < ks.length) (h' : j < cs.length), Okc w ks[j] cs[j]
  | 0, _, _, _, _, _, h, _ => by cases h
  | n + 1, t, cs, x, fuel, ks, h, ht => by
    unfold kindsB at h
    split at h
    · rename_i hu
      obtain rfl := Option.some.inj h
      obtain ⟨m, rfl, _, hw⟩ := DataW.trod_int hu ht
      refine ⟨rfl, fun j h h' => ?_⟩
      have hj : j = 0 := by simpa using h
      subst hj
      exact .int m (bd hw)
    · rename_i hu
      obtain rfl := Option.some.inj h
      obtain ⟨s, rfl, _, hw⟩ := DataW.trod_string hu ht
      refine ⟨rfl, fun j h h' => ?_⟩
      have hj : j = 0 := by simpa using h
      subst hj
      exact .str s hw
    · rename_i e hu
      split at h
      · rename_i ke hke
        split at h
        · rename_i hl
          obtain rfl := Option.some.inj h
          have key : ∃ v, cs = [v] ∧ Okc w (.sl ke) v := by
            rcases open_slice hu ht with ⟨rfl, _⟩ | ⟨a, len, cap, m, k, D, Pl, rfl, hb, hle, hcap, hm, hx, hi⟩
            · exact ⟨_, rfl, .nil _⟩
            · refine ⟨_, rfl, ?_⟩
              by_cases hpos : 0 < len
              · have hlm : len ≤ m := by rw [hm]; split <;> omega
                have cell : ∀ i, i < len → ∀ j (hj : j < ke.length), ∃ z : Value, w.cell? (a.add (i * ke.length + j)) = some z ∧ Okc w ke[j] z := by
                  intro i hil j hj
                  obtain ⟨cs', hc, htr⟩ := hi i (by omega)
                  rw [hl.1] at hc
                  obtain ⟨_, hcl, hat⟩ := World.cells?_some hc
                  have hcj := hat j hj
                  have hcj' : cs'[j]? = some (cs'[j]'(by omega)) := List.getElem?_eq_getElem (by omega)
                  obtain ⟨_, h2⟩ := kinds_trod n e cs' _ k ke hke htr
                  exact ⟨_, by rw [← add_add]; exact hcj.trans hcj', h2 j hj (by omega)⟩
                obtain ⟨b, off, spot⟩ := a
                obtain ⟨z, hz, _⟩ := cell 0 hpos 0 hl.2
                have hspot : spot = none := by simpa [Addr.add] using World.cell?_spot hz
                subst hspot
                classical
                refine .rows ke b off len cap (fun i j => if h : i < len ∧ j < ke.length then Classical.choose (cell i h.1 j h.2) else .bool false) hpos hle hcap (fun i hil j hj => ?_) (fun i hil j hj => ?_)
                · have hs := Classical.choose_spec (cell i hil j hj)
                  simp only [dif_pos (show i < len ∧ j < ke.length from ⟨hil, hj⟩)]
                  rw [show off + i * ke.length + j = off + (i * ke.length + j) from by omega, ← Go.WideShapes.add_plain]
                  exact hs.1
                · have hs := Classical.choose_spec (cell i hil j hj)
                  simp only [dif_pos (show i < len ∧ j < ke.length from ⟨hil, hj⟩)]
                  exact hs.2
              · rw [show len = 0 from by omega]
                exact .empty _ _ _ hcap
          obtain ⟨v, rfl, hv⟩ := key
          refine ⟨rfl, fun j h h' => ?_⟩
          have hj : j = 0 := by simpa using h
          subst hj
          exact hv
        · cases h
      · cases h
    · rename_i fs hu
      split at h
      · rename_i ks' hks
        split at h
        · rename_i hl
          obtain rfl := Option.some.inj h
          obtain ⟨xs, k, _, _, hlen, hxs, hf⟩ := DataW.trod_struct hu ht
          refine ⟨by omega, fun j h h' => ?_⟩
          obtain ⟨f, hfm, h4, h5, kf, hkf, hkl, hat⟩ := (fieldsK_spec _ _ _ hks).2.2 j (Nat.zero_le _) h
          obtain ⟨i, hi, hfi⟩ := List.mem_iff_getElem.1 hfm
          have hfi' : fs[i]? = some f := by
            rw [Array.getElem?_eq_getElem (by simpa using hi)]
            simpa using hfi
          have ht' := hf i f hfi'
          have hlt : i < xs.length := by rw [hxs]; simpa using hi
          rw [List.getElem?_eq_getElem hlt] at ht'
          obtain ⟨h6, h7⟩ := kinds_trod n f.type _ _ k kf hkf ht'
          have h8 := h7 (j - f.offset) (by omega) (by omega)
          have e1 : kf[j - f.offset]'(by omega) = ks'[j] := by
            rw [List.getElem?_eq_getElem h, List.getElem?_eq_getElem (by omega)] at hat
            exact (Option.some.inj hat).symm
          have e2 : ((cs.drop f.offset).take (P.cellsOf f.type))[j - f.offset]'(by omega) = cs[j] := by
            simp only [List.getElem_take, List.getElem_drop]
            congr 1
            omega
          rw [e1, e2] at h8
          exact h8
        · cases h
      · cases h
    · cases h
/-- An argument of one cell. -/
theorem arg_cell {t : TypeId} {k : Nat} {kd : Kd} {v : Value} {d : DataW H} {ps : List MemPlace} (hk : kindsB P k t = some [kd]) (hv : v.cells = #[v])
    (h : DataW.Trod enc P w base spare held t v d ps) : Okc w kd v := by
  obtain ⟨fuel, hf⟩ := h
  rw [hv] at hf
  exact (kinds_trod k t _ _ _ _ hk hf).2 0 (by simp) (by simp)
/-- A struct argument. -/
theorem arg_agg {t : TypeId} {k : Nat} {ks : List Kd} {v : Value} {d : DataW H} {ps : List MemPlace} {r : Reach} {b0 : Nat} {fs : Array Field} (hs : P.underlying t = some (.struct fs)) (hk : kindsB P k t = some ks) (hv : Value.okWide P w r b0 t v)
    (h : DataW.Trod enc P w base spare held t v d ps) : ∃ cs : List Value, v = .agg cs.toArray ∧ cs.length = ks.length ∧ ∀ j (h : j < ks.length) (h' : j < cs.length), Okc w ks[j] cs[j] := by
  obtain ⟨cs, rfl, hsz⟩ := okWide_struct hs hv
  obtain ⟨l⟩ := cs
  obtain ⟨fuel, hf⟩ := h
  have hh := kinds_trod k t _ _ _ _ hk hf
  exact ⟨l, rfl, by simpa [Value.cells] using hh.1, fun j h h' => by simpa [Value.cells] using hh.2 j h (by simpa [Value.cells] using h')⟩
end
end Frame
end Go.Proofs.YtmkglhoahdlogaaGreatDoor
namespace Go.Proofs.YtmkglhoahdlogaaGreatDoor
open Go.RowKit
namespace Poly
end Poly
namespace Chart
open Kit Plane Poly
/-- One fix. -/
structure E3 (w : World) (b off k : Nat) (s : ByteArray) (x y : Int) : Prop where
  c0 : w.cell? ⟨b, off + k * 3, none⟩ = some (.string s)
  c1 : w.cell? ⟨b, off + k * 3 + 1, none⟩ = some (.int .i64 x)
  c2 : w.cell? ⟨b, off + k * 3 + 2, none⟩ = some (.int .i64 y)
theorem e3_keep {W w1 : World} (hb : Below W.heap.size W w1) {b off k : Nat} {s : ByteArray} {x y : Int} (h : E3 W b off k s x y) : E3 w1 b off k s x y := ⟨keep hb h.c0, keep hb h.c1, keep hb h.c2⟩
/-- A slice of no length. -/
def Nil0 (v : Value) : Prop := v = .slice none 0 0 ∨ ∃ a cap, v = .slice (some a) 0 cap ∧ cap ≤ maxLen
/-- Fixes. -/
def FV (w : World) (v : Value) (n : Nat) (N : Nat → ByteArray) (X Y : Nat → Int) : Prop :=
  (n = 0 ∧ Nil0 v) ∨ (0 < n ∧ ∃ b off cap, v = .slice (some ⟨b, off, none⟩) n cap ∧ n ≤ cap ∧ cap ≤ maxLen ∧ ∀ k, k < n → E3 w b off k (N k) (X k) (Y k))
/-- Names. -/
def SV (w : World) (v : Value) (n : Nat) (S : Nat → ByteArray) : Prop :=
  (n = 0 ∧ Nil0 v) ∨ (0 < n ∧ ∃ b off cap, v = .slice (some ⟨b, off, none⟩) n cap ∧ n ≤ cap ∧ cap ≤ maxLen ∧ ∀ k, k < n → w.cell? ⟨b, off + k, none⟩ = some (.string (S k)))
/-- One airway. -/
def A2 (w : World) (b off k : Nat) (s : ByteArray) (l : Nat) (S : Nat → ByteArray) : Prop :=
  w.cell? ⟨b, off + k * 2, none⟩ = some (.string s) ∧ ∃ v, w.cell? ⟨b, off + k * 2 + 1, none⟩ = some v ∧ SV w v l S
/-- Airways. -/
def AV (w : World) (v : Value) (m : Nat) (M : Nat → ByteArray) (l : Nat → Nat) (S : Nat → Nat → ByteArray) : Prop :=
  (m = 0 ∧ Nil0 v) ∨ (0 < m ∧ ∃ b off cap, v = .slice (some ⟨b, off, none⟩) m cap ∧ m ≤ cap ∧ cap ≤ maxLen ∧ ∀ k, k < m → A2 w b off k (M k) (l k) (S k))
theorem fv_keep {W w1 : World} (hb : Below W.heap.size W w1) {v : Value} {n : Nat} {N : Nat → ByteArray} {X Y : Nat → Int} (h : FV W v n N X Y) : FV w1 v n N X Y := by
  rcases h with h | ⟨h0, b, off, cap, hv, h1, h2, h3⟩
  · exact Or.inl h
  · exact Or.inr ⟨h0, b, off, cap, hv, h1, h2, fun k hk => e3_keep hb (h3 k hk)⟩
theorem sv_keep {W w1 : World} (hb : Below W.heap.size W w1) {v : Value} {n : Nat} {S : Nat → ByteArray} (h : SV W v n S) : SV w1 v n S := by
  rcases h with h | ⟨h0, b, off, cap, hv, h1, h2, h3⟩
  · exact Or.inl h
  · exact Or.inr ⟨h0, b, off, cap, hv, h1, h2, fun k hk => keep hb (h3 k hk)⟩
theorem a2_keep {W w1 : World} (hb : Below W.heap.size W w1) {b off k l : Nat} {s : ByteArray} {S : Nat → ByteArray} (h : A2 W b off k s l S) : A2 w1 b off k s l S := by
  obtain ⟨h1, v, h2, h3⟩ := h
  exact ⟨keep hb h1, v, keep hb h2, sv_keep hb h3⟩
theorem av_keep {W w1 : World} (hb : Below W.heap.size W w1) {v : Value} {m : Nat} {M : Nat → ByteArray} {l : Nat → Nat} {S : Nat → Nat → ByteArray} (h : AV W v m M l S) : AV w1 v m M l S := by
  rcases h with h | ⟨h0, b, off, cap, hv, h1, h2, h3⟩
  · exact Or.inl h
  · exact Or.inr ⟨h0, b, off, cap, hv, h1, h2, fun k hk => a2_keep hb (h3 k hk)⟩
theorem nil0_slice {v : Value} (h : Nil0 v) : ∃ A cap, v = .slice A 0 cap := by
  rcases h with rfl | ⟨a, cap, rfl, -⟩
  · exact ⟨_, _, rfl⟩
  · exact ⟨_, _, rfl⟩
theorem sv_slice {w : World} {v : Value} {n : Nat} {S : Nat → ByteArray} (h : SV w v n S) : ∃ A cap, v = .slice A n cap := by
  rcases h with ⟨rfl, h⟩ | ⟨h0, b, off, cap, rfl, h1, h2, h3⟩
  · exact nil0_slice h
  · exact ⟨_, _, rfl⟩
/-- The first place below n where p holds, or -1. -/
def fnd (p : Nat → Bool) : Nat → Int
  | 0 => -1
  | k + 1 => if 0 ≤ fnd p k then fnd p k else if p k then (k : Int) else -1
theorem fnd_bd (p : Nat → Bool) : ∀ n, -1 ≤ fnd p n ∧ fnd p n < n
  | 0 => by show (-1 : Int) ≤ -1 ∧ (-1 : Int) < 0; omega
  | k + 1 => by
    have h := fnd_bd p k
    show -1 ≤ (if 0 ≤ fnd p k then fnd p k else if p k then (k : Int) else -1) ∧ (if 0 ≤ fnd p k then fnd p k else if p k then (k : Int) else -1) < ((k + 1 : Nat) : Int)
    by_cases h1 : 0 ≤ fnd p k
    · rw [if_pos h1]; omega
    · rw [if_neg h1]; split <;> omega
theorem fnd_no {p : Nat → Bool} : ∀ {n : Nat}, (∀ k, k < n → p k = false) → fnd p n = -1
  | 0, _ => rfl
  | n + 1, h => by
    show (if 0 ≤ fnd p n then fnd p n else if p n then (n : Int) else -1) = -1
    rw [fnd_no fun k hk => h k (by omega), if_neg (by decide), h n (by omega)]
    rfl
theorem fnd_at {p : Nat → Bool} {k : Nat} (hk : ∀ j, j < k → p j = false) (h : p k = true) : ∀ n, k < n → fnd p n = k
  | 0, hn => by omega
  | n + 1, hn => by
    show (if 0 ≤ fnd p n then fnd p n else if p n then (n : Int) else -1) = k
    rcases Nat.lt_or_ge k n with hl | hl
    · rw [fnd_at hk h n hl, if_pos (by omega)]
    · obtain rfl : k = n := by omega
      rw [fnd_no hk, if_neg (by decide), h, if_pos rfl]
theorem fnd_neg {p : Nat → Bool} {n : Nat} (h : fnd p n < 0) : ∀ k, k < n → p k = false := by
  intro k
  induction k using Nat.strongRecOn with
  | ind k ih =>
    intro hk
    cases hp : p k with
    | false => rfl
    | true => have := fnd_at (fun j hj => ih j hj (by omega)) hp n hk; omega
theorem fnd_pos {p : Nat → Bool} {n : Nat} (h : 0 ≤ fnd p n) : ∃ k, k < n ∧ fnd p n = k ∧ p k = true ∧ ∀ j, j < k → p j = false := by
  induction n with
  | zero => exact absurd h (show ¬ (0 : Int) ≤ -1 by decide)
  | succ n ih =>
    have e : fnd p (n + 1) = if 0 ≤ fnd p n then fnd p n else if p n then (n : Int) else -1 := rfl
    by_cases h1 : 0 ≤ fnd p n
    · rw [if_pos h1] at e
      obtain ⟨k, h2, h3, h4, h5⟩ := ih h1
      exact ⟨k, by omega, by rw [e, h3], h4, h5⟩
    · rw [if_neg h1] at e
      cases hp : p n with
      | false => rw [hp, if_neg (by decide)] at e; rw [e] at h; exact absurd h (by decide)
      | true => rw [hp, if_pos rfl] at e; exact ⟨n, by omega, e, hp, fnd_neg (by omega)⟩
/-- Where a name is among the fixes. -/
def fix (N : Nat → ByteArray) (s : ByteArray) (n : Nat) : Int := fnd (fun k => decide (N k = s)) n
theorem b_eq {a b : Bool} (h : a = b) : Ending.returned (.bool a) = Ending.returned (.bool b) := by rw [h]
theorem seq_eq (a b : ByteArray) : (a.toList == b.toList) = decide (a = b) := by
  rw [ByteArray.toList_eq, ByteArray.toList_eq]
  by_cases h : a = b
  · rw [decide_eq_true h, h]; simp
  · rw [decide_eq_false h]
    have h2 : ¬ a.data.toList = b.data.toList := fun e => h (by
      obtain ⟨⟨x⟩⟩ := a
      obtain ⟨⟨y⟩⟩ := b
      have e : x = y := e
      rw [e])
    simpa using h2
theorem clos_w (a s : ByteArray) (x y : Int) (b : Nat) (w : World) (hq : w.cell? ⟨b, 0, none⟩ = some (.string s)) :
    Calls Tryz.prog 46 #[.agg #[.string a, .int .i64 x, .int .i64 y], .pointer (some ⟨b, 0, none⟩)] w fun e w' => e = .returned (.bool (decide (a = s))) ∧ Below w.heap.size w w' := by
  have W1 := Lib.hid (b_alloc (Below.refl w.heap.size w) (.cells #[.string a, .int .i64 x, .int .i64 y] 38))
  have q1 := keep W1.out hq
  go_enter Tryz.func46, Tryz.ntmps46
  go_wp2_with fail
  go_ret
  exact ⟨b_eq (seq_eq a s), W1.out⟩
set_option maxRecDepth 100000 in
set_option maxHeartbeats 2000000 in
theorem idx_w (n cap b off pb : Nat) (N : Nat → ByteArray) (X Y : Nat → Int) (s : ByteArray) (w : World) (hm : cap ≤ 9223372036854775807) (hc : n ≤ cap) (HV : Hid (∀ k, k < n → E3 w b off k (N k) (X k) (Y k))) (HQ : Hid (w.cell? ⟨pb, 0, none⟩ = some (.string s))) :
    Calls Tryz.prog 45 #[.slice (some ⟨b, off, none⟩) n cap, .func (.func 46) #[] #[.pointer (some ⟨pb, 0, none⟩)]] w fun e w' => e = .returned (.int .i64 (fix N s n)) ∧ Below w.heap.size w w' := by
  go_enter Tryz.func45, Tryz.ntmps45
  obtain ⟨r, hr⟩ : ∃ r, r = fix N s n := ⟨_, rfl⟩
  rw [← hr]
  have HR := Lib.hid hr; clear hr
  go_wp2_with fail
  go_loopw [5, 8] (fun _ t wr => ∃ k : Nat, k ≤ n ∧ t = .int .i64 k ∧ (∀ j, j < k → decide (N j = s) = false) ∧ Below w.heap.size w wr) (fun _ t _ => n - (intOf t).toNat)
  case atStart => exact ⟨0, Nat.zero_le _, rfl, fun j hj => absurd hj (Nat.not_lt_zero j), Below.refl _ _⟩
  case round =>
    obtain ⟨k, hk, rfl, hno, hbl⟩ := hrel
    have HN := Lib.hid hno; have HB := Lib.hid hbl; clear hno
    by_cases hlt : k < n
    · obtain ⟨c0, c1, c2⟩ := e3_keep hbl (HV.out k hlt)
      have hl : (k : Int) < (n : Int) := by omega
      have hcall := clos_w (N k) s (X k) (Y k) pb wr (keep hbl HQ.out)
      have HS := Lib.hid (show ∀ hh : decide (N k = s) = false, ∀ j, j < k + 1 → decide (N j = s) = false from fun hh j hj => by
        rcases Nat.lt_or_ge j k with hl | hl
        · exact HN.out j hl
        · rw [show j = k from by omega]; exact hh)
      have HT := Lib.hid (show ∀ hh : decide (N k = s) = true, r = k from fun hh => by rw [HR.out]; exact fnd_at HN.out hh n hlt)
      clear hbl
      generalize decide (N k = s) = d at *
      cases d with
      | true =>
        have e := HT.out rfl
        subst e
        go_wp2_with fail
        (with_reducible refine hcall.mono ?_); rintro e w' ⟨rfl, hb'⟩
        go_wp2_with fail
        go_ret
        exact ⟨rfl, b_next HB.out hb'⟩
      | false =>
        go_wp2_with fail
        (with_reducible refine hcall.mono ?_); rintro e w' ⟨rfl, hb'⟩
        go_wp2_with fail
        exact ⟨⟨k + 1, by omega, by go_num, (by first | exact HS.out rfl | exact HS.out trivial), b_next HB.out hb'⟩, by simp [intOf]; omega⟩
    · have he : k = n := by omega
      have hl : ¬ (k : Int) < (n : Int) := by omega
      have e : r = -1 := by rw [HR.out]; exact fnd_no (fun j hj => HN.out j (by omega))
      subst e
      clear hbl
      go_wp2_with fail
      go_ret
      exact ⟨rfl, HB.out⟩
set_option maxHeartbeats 1000000 in
theorem idx_none (A : Option Addr) (cap : Nat) (f : Value) (w : World) :
    Calls Tryz.prog 45 #[.slice A 0 cap, f] w fun e w' => e = .returned (.int .i64 (-1)) ∧ Below w.heap.size w w' := by
  go_enter Tryz.func45, Tryz.ntmps45
  go_wp2_with fail
  go_loopw [8] (fun s wr => s = .int .i64 0 ∧ Below w.heap.size w wr) (fun _ _ => 0)
  case atStart => exact ⟨rfl, Below.refl _ _⟩
  case round =>
    obtain ⟨rfl, hbl⟩ := hrel
    go_wp2_with fail
    all_goals (go_ret; exact ⟨rfl, hbl⟩)
theorem idxC {v : Value} {n : Nat} {N : Nat → ByteArray} {X Y : Nat → Int} {w : World} (hv : FV w v n N X Y) (pb : Nat) (s : ByteArray) (hq : w.cell? ⟨pb, 0, none⟩ = some (.string s)) :
    Calls Tryz.prog 45 #[v, .func (.func 46) #[] #[.pointer (some ⟨pb, 0, none⟩)]] w fun e w' => e = .returned (.int .i64 (fix N s n)) ∧ Below w.heap.size w w' := by
  rcases hv with ⟨rfl, h⟩ | ⟨h0, b, off, cap, rfl, hc, hm, HV⟩
  · rcases h with rfl | ⟨a, cap, rfl, -⟩
    · exact idx_none none 0 _ w
    · exact idx_none (some a) cap _ w
  · exact idx_w n cap b off pb N X Y s w (Nat.le_trans hm (by decide)) hc (Lib.hid HV) (Lib.hid hq)
set_option maxHeartbeats 1000000 in
theorem index_w (fx aw : Value) (r : Int) (s : ByteArray) (w : World) (H : Hid (∀ w1 pb, Below w.heap.size w w1 → w1.cell? ⟨pb, 0, none⟩ = some (.string s) → Calls Tryz.prog 45 #[fx, .func (.func 46) #[] #[.pointer (some ⟨pb, 0, none⟩)]] w1 fun e w' => e = .returned (.int .i64 r) ∧ Below w1.heap.size w1 w')) :
    Calls Tryz.prog 21 #[.agg #[fx, aw], .string s] w fun e w' => e = .returned (.int .i64 r) ∧ Below w.heap.size w w' := by
  have W1 := Lib.hid (b_alloc (b_alloc (Below.refl w.heap.size w) (.cells #[fx, aw] 28)) (.cells #[.string s] 9))
  have q : ((w.alloc (.cells #[fx, aw] 28)).alloc (.cells #[.string s] 9)).cell? ⟨w.heap.size + 1, 0, none⟩ = some (.string s) := by simp
  have Q1 := Lib.hid q; clear q
  have hmf : ∀ fn first cap w, (Instr.makeFunc fn first cap).run Tryz.prog w = .ok (.func fn first cap) w := fun _ _ _ _ => rfl
  go_enter Tryz.func21, Tryz.ntmps21
  go_wp2_with fail
  (with_reducible refine (H.out _ _ W1.out Q1.out).mono ?_); rintro e w2 ⟨rfl, hb⟩
  have W2 := Lib.hid (b_next W1.out hb); clear hb
  go_wp2_with fail
  go_ret
  exact ⟨rfl, W2.out⟩
theorem indexC {fx aw : Value} {n : Nat} {N : Nat → ByteArray} {X Y : Nat → Int} {w : World} (hv : FV w fx n N X Y) (s : ByteArray) :
    Calls Tryz.prog 21 #[.agg #[fx, aw], .string s] w fun e w' => e = .returned (.int .i64 (fix N s n)) ∧ Below w.heap.size w w' :=
  index_w fx aw _ s w (Lib.hid fun _ pb hb hq => idxC (fv_keep hb hv) pb s hq)
end Chart
end Go.Proofs.YtmkglhoahdlogaaGreatDoor
namespace Go.Proofs.YtmkglhoahdlogaaGreatDoor
open Go.RowKit
namespace Chart
open Kit Plane Poly
set_option maxRecDepth 100000 in
set_option maxHeartbeats 2000000 in
theorem sidx_w (n cap b off : Nat) (S : Nat → ByteArray) (s : ByteArray) (w : World) (_hm : cap ≤ 9223372036854775807) (_hc : n ≤ cap) (HV : Hid (∀ k, k < n → w.cell? ⟨b, off + k, none⟩ = some (.string (S k)))) :
    Calls Tryz.prog 22 #[.slice (some ⟨b, off, none⟩) n cap, .string s] w fun e w' => e = .returned (.int .i64 (fix S s n)) ∧ Below w.heap.size w w' := by
  go_enter Tryz.func22, Tryz.ntmps22
  obtain ⟨r, hr⟩ : ∃ r, r = fix S s n := ⟨_, rfl⟩
  rw [← hr]
  have HR := Lib.hid hr; clear hr
  go_wp2_with fail
  go_loopw [5, 8] (fun _ t wr => ∃ k : Nat, k ≤ n ∧ t = .int .i64 k ∧ (∀ j, j < k → decide (S j = s) = false) ∧ Below w.heap.size w wr) (fun _ t _ => n - (intOf t).toNat)
  case atStart => exact ⟨0, Nat.zero_le _, rfl, fun j hj => absurd hj (Nat.not_lt_zero j), Below.refl _ _⟩
  case round =>
    obtain ⟨k, hk, rfl, hno, hbl⟩ := hrel
    have HN := Lib.hid hno; have HB := Lib.hid hbl; clear hno
    by_cases hlt : k < n
    · have c0 := keep hbl (HV.out k hlt)
      have hl : (k : Int) < (n : Int) := by omega
      have HS := Lib.hid (show ∀ hh : decide (S k = s) = false, ∀ j, j < k + 1 → decide (S j = s) = false from fun hh j hj => by
        rcases Nat.lt_or_ge j k with hl | hl
        · exact HN.out j hl
        · rw [show j = k from by omega]; exact hh)
      have HT := Lib.hid (show ∀ hh : decide (S k = s) = true, r = k from fun hh => by rw [HR.out]; exact fnd_at HN.out hh n hlt)
      have hq : (s.toList == (S k).toList) = decide (S k = s) := by rw [seq_eq]; exact decide_eq_decide.2 eq_comm
      clear hbl
      generalize decide (S k = s) = d at *
      cases d with
      | true =>
        have e := HT.out rfl
        subst e
        go_wp2_with fail
        go_ret
        exact ⟨rfl, HB.out⟩
      | false =>
        go_wp2_with fail
        exact ⟨⟨k + 1, by omega, by go_num, (by first | exact HS.out rfl | exact HS.out trivial), HB.out⟩, by simp [intOf]; omega⟩
    · have he : k = n := by omega
      have hl : ¬ (k : Int) < (n : Int) := by omega
      have e : r = -1 := by rw [HR.out]; exact fnd_no (fun j hj => HN.out j (by omega))
      subst e
      clear hbl
      go_wp2_with fail
      go_ret
      exact ⟨rfl, HB.out⟩
set_option maxHeartbeats 1000000 in
theorem sidx_none (A : Option Addr) (cap : Nat) (s : ByteArray) (w : World) :
    Calls Tryz.prog 22 #[.slice A 0 cap, .string s] w fun e w' => e = .returned (.int .i64 (-1)) ∧ Below w.heap.size w w' := by
  go_enter Tryz.func22, Tryz.ntmps22
  go_wp2_with fail
  go_loopw [8] (fun s wr => s = .int .i64 0 ∧ Below w.heap.size w wr) (fun _ _ => 0)
  case atStart => exact ⟨rfl, Below.refl _ _⟩
  case round =>
    obtain ⟨rfl, hbl⟩ := hrel
    go_wp2_with fail
    all_goals (go_ret; exact ⟨rfl, hbl⟩)
theorem sidxC {v : Value} {n : Nat} {S : Nat → ByteArray} {w : World} (hv : SV w v n S) (s : ByteArray) :
    Calls Tryz.prog 22 #[v, .string s] w fun e w' => e = .returned (.int .i64 (fix S s n)) ∧ Below w.heap.size w w' := by
  rcases hv with ⟨rfl, h⟩ | ⟨h0, b, off, cap, rfl, hc, hm, HV⟩
  · rcases h with rfl | ⟨a, cap, rfl, -⟩
    · exact sidx_none none 0 s w
    · exact sidx_none (some a) cap s w
  · exact sidx_w n cap b off S s w (Nat.le_trans hm (by decide)) hc (Lib.hid HV)
set_option maxHeartbeats 1000000 in
theorem scont_w (v : Value) (s : ByteArray) (r : Int) (w : World) (H : Hid (∀ w1, Below w.heap.size w w1 → Calls Tryz.prog 22 #[v, .string s] w1 fun e w' => e = .returned (.int .i64 r) ∧ Below w1.heap.size w1 w')) :
    Calls Tryz.prog 69 #[v, .string s] w fun e w' => e = .returned (.bool (decide (0 ≤ r))) ∧ Below w.heap.size w w' := by
  go_enter Tryz.func69, Tryz.ntmps69
  go_wp2_with fail
  (with_reducible refine (H.out _ (Below.refl _ _)).mono ?_); rintro e w1 ⟨rfl, hb⟩
  have HB := Lib.hid hb; clear hb
  go_wp2_with fail
  all_goals (go_ret; exact ⟨rfl, HB.out⟩)
theorem scontC {v : Value} {n : Nat} {S : Nat → ByteArray} {w : World} (hv : SV w v n S) (s : ByteArray) :
    Calls Tryz.prog 69 #[v, .string s] w fun e w' => e = .returned (.bool (decide (0 ≤ fix S s n))) ∧ Below w.heap.size w w' :=
  scont_w v s _ w (Lib.hid fun _ hb => sidxC (sv_keep hb hv) s)
set_option maxHeartbeats 1000000 in
theorem aidx_none (A : Option Addr) (cap : Nat) (f : Value) (w : World) :
    Calls Tryz.prog 41 #[.slice A 0 cap, f] w fun e w' => e = .returned (.int .i64 (-1)) ∧ Below w.heap.size w w' := by
  go_enter Tryz.func41, Tryz.ntmps41
  go_wp2_with fail
  go_loopw [8] (fun s wr => s = .int .i64 0 ∧ Below w.heap.size w wr) (fun _ _ => 0)
  case atStart => exact ⟨rfl, Below.refl _ _⟩
  case round =>
    obtain ⟨rfl, hbl⟩ := hrel
    go_wp2_with fail
    all_goals (go_ret; exact ⟨rfl, hbl⟩)
theorem aclos_c (a s : ByteArray) (A : Option Addr) (n cap b : Nat) (w : World) (hq : w.cell? ⟨b, 0, none⟩ = some (.string s)) :
    Calls Tryz.prog 68 #[.agg #[.string a, .slice A n cap], .pointer (some ⟨b, 0, none⟩)] w fun e w' => e = .returned (.bool (decide (a = s))) ∧ Below w.heap.size w w' := by
  have W1 := Lib.hid (b_alloc (Below.refl w.heap.size w) (.cells #[.string a, .slice A n cap] 65))
  have q1 := keep W1.out hq
  go_enter Tryz.func68, Tryz.ntmps68
  go_wp2_with fail
  go_ret
  exact ⟨b_eq (seq_eq a s), W1.out⟩
set_option maxRecDepth 100000 in
set_option maxHeartbeats 2000000 in
theorem aidx_c (n cap b off pb : Nat) (M : Nat → ByteArray) (l : Nat → Nat) (S : Nat → Nat → ByteArray) (s : ByteArray) (w : World) (hm : cap ≤ 9223372036854775807) (hc : n ≤ cap) (HV : Hid (∀ k, k < n → A2 w b off k (M k) (l k) (S k))) (HQ : Hid (w.cell? ⟨pb, 0, none⟩ = some (.string s))) :
    Calls Tryz.prog 41 #[.slice (some ⟨b, off, none⟩) n cap, .func (.func 68) #[] #[.pointer (some ⟨pb, 0, none⟩)]] w fun e w' => e = .returned (.int .i64 (fix M s n)) ∧ Below w.heap.size w w' := by
  go_enter Tryz.func41, Tryz.ntmps41
  obtain ⟨r, hr⟩ : ∃ r, r = fix M s n := ⟨_, rfl⟩
  rw [← hr]
  have HR := Lib.hid hr; clear hr
  go_wp2_with fail
  go_loopw [5, 8] (fun _ t wr => ∃ k : Nat, k ≤ n ∧ t = .int .i64 k ∧ (∀ j, j < k → decide (M j = s) = false) ∧ Below w.heap.size w wr) (fun _ t _ => n - (intOf t).toNat)
  case atStart => exact ⟨0, Nat.zero_le _, rfl, fun j hj => absurd hj (Nat.not_lt_zero j), Below.refl _ _⟩
  case round =>
    obtain ⟨k, hk, rfl, hno, hbl⟩ := hrel
    have HN := Lib.hid hno; have HB := Lib.hid hbl; clear hno
    by_cases hlt : k < n
    · obtain ⟨c0, v, c1, hsv⟩ := a2_keep hbl (HV.out k hlt)
      have hl : (k : Int) < (n : Int) := by omega
      obtain ⟨A, ca, rfl⟩ := sv_slice hsv
      have hcall := aclos_c (M k) s A (l k) ca pb wr (keep hbl HQ.out)
      have HS := Lib.hid (show ∀ hh : decide (M k = s) = false, ∀ j, j < k + 1 → decide (M j = s) = false from fun hh j hj => by
        rcases Nat.lt_or_ge j k with hl | hl
        · exact HN.out j hl
        · rw [show j = k from by omega]; exact hh)
      have HT := Lib.hid (show ∀ hh : decide (M k = s) = true, r = k from fun hh => by rw [HR.out]; exact fnd_at HN.out hh n hlt)
      clear hbl hsv
      generalize decide (M k = s) = d at *
      cases d with
      | true =>
        have e := HT.out rfl
        subst e
        go_wp2_with fail
        (with_reducible refine hcall.mono ?_); rintro e w' ⟨rfl, hb'⟩
        go_wp2_with fail
        go_ret
        exact ⟨rfl, b_next HB.out hb'⟩
      | false =>
        go_wp2_with fail
        (with_reducible refine hcall.mono ?_); rintro e w' ⟨rfl, hb'⟩
        go_wp2_with fail
        exact ⟨⟨k + 1, by omega, by go_num, (by first | exact HS.out rfl | exact HS.out trivial), b_next HB.out hb'⟩, by simp [intOf]; omega⟩
    · have he : k = n := by omega
      have hl : ¬ (k : Int) < (n : Int) := by omega
      have e : r = -1 := by rw [HR.out]; exact fnd_no (fun j hj => HN.out j (by omega))
      subst e
      clear hbl
      go_wp2_with fail
      go_ret
      exact ⟨rfl, HB.out⟩
theorem aidxC_c {v : Value} {n : Nat} {M : Nat → ByteArray} {l : Nat → Nat} {S : Nat → Nat → ByteArray} {w : World} (hv : AV w v n M l S) (pb : Nat) (s : ByteArray) (hq : w.cell? ⟨pb, 0, none⟩ = some (.string s)) :
    Calls Tryz.prog 41 #[v, .func (.func 68) #[] #[.pointer (some ⟨pb, 0, none⟩)]] w fun e w' => e = .returned (.int .i64 (fix M s n)) ∧ Below w.heap.size w w' := by
  rcases hv with ⟨rfl, h⟩ | ⟨h0, b, off, cap, rfl, hc, hm, HV⟩
  · rcases h with rfl | ⟨a, cap, rfl, -⟩
    · exact aidx_none none 0 _ w
    · exact aidx_none (some a) cap _ w
  · exact aidx_c n cap b off pb M l S s w (Nat.le_trans hm (by decide)) hc (Lib.hid HV) (Lib.hid hq)
theorem aclos_b (a s : ByteArray) (A : Option Addr) (n cap b : Nat) (w : World) (hq : w.cell? ⟨b, 0, none⟩ = some (.string s)) :
    Calls Tryz.prog 42 #[.agg #[.string a, .slice A n cap], .pointer (some ⟨b, 0, none⟩)] w fun e w' => e = .returned (.bool (decide (a = s))) ∧ Below w.heap.size w w' := by
  have W1 := Lib.hid (b_alloc (Below.refl w.heap.size w) (.cells #[.string a, .slice A n cap] 65))
  have q1 := keep W1.out hq
  go_enter Tryz.func42, Tryz.ntmps42
  go_wp2_with fail
  go_ret
  exact ⟨b_eq (seq_eq a s), W1.out⟩
set_option maxRecDepth 100000 in
set_option maxHeartbeats 2000000 in
theorem aidx_b (n cap b off pb : Nat) (M : Nat → ByteArray) (l : Nat → Nat) (S : Nat → Nat → ByteArray) (s : ByteArray) (w : World) (hm : cap ≤ 9223372036854775807) (hc : n ≤ cap) (HV : Hid (∀ k, k < n → A2 w b off k (M k) (l k) (S k))) (HQ : Hid (w.cell? ⟨pb, 0, none⟩ = some (.string s))) :
    Calls Tryz.prog 41 #[.slice (some ⟨b, off, none⟩) n cap, .func (.func 42) #[] #[.pointer (some ⟨pb, 0, none⟩)]] w fun e w' => e = .returned (.int .i64 (fix M s n)) ∧ Below w.heap.size w w' := by
  go_enter Tryz.func41, Tryz.ntmps41
  obtain ⟨r, hr⟩ : ∃ r, r = fix M s n := ⟨_, rfl⟩
  rw [← hr]
  have HR := Lib.hid hr; clear hr
  go_wp2_with fail
  go_loopw [5, 8] (fun _ t wr => ∃ k : Nat, k ≤ n ∧ t = .int .i64 k ∧ (∀ j, j < k → decide (M j = s) = false) ∧ Below w.heap.size w wr) (fun _ t _ => n - (intOf t).toNat)
  case atStart => exact ⟨0, Nat.zero_le _, rfl, fun j hj => absurd hj (Nat.not_lt_zero j), Below.refl _ _⟩
  case round =>
    obtain ⟨k, hk, rfl, hno, hbl⟩ := hrel
    have HN := Lib.hid hno; have HB := Lib.hid hbl; clear hno
    by_cases hlt : k < n
    · obtain ⟨c0, v, c1, hsv⟩ := a2_keep hbl (HV.out k hlt)
      have hl : (k : Int) < (n : Int) := by omega
      obtain ⟨A, ca, rfl⟩ := sv_slice hsv
      have hcall := aclos_b (M k) s A (l k) ca pb wr (keep hbl HQ.out)
      have HS := Lib.hid (show ∀ hh : decide (M k = s) = false, ∀ j, j < k + 1 → decide (M j = s) = false from fun hh j hj => by
        rcases Nat.lt_or_ge j k with hl | hl
        · exact HN.out j hl
        · rw [show j = k from by omega]; exact hh)
      have HT := Lib.hid (show ∀ hh : decide (M k = s) = true, r = k from fun hh => by rw [HR.out]; exact fnd_at HN.out hh n hlt)
      clear hbl hsv
      generalize decide (M k = s) = d at *
      cases d with
      | true =>
        have e := HT.out rfl
        subst e
        go_wp2_with fail
        (with_reducible refine hcall.mono ?_); rintro e w' ⟨rfl, hb'⟩
        go_wp2_with fail
        go_ret
        exact ⟨rfl, b_next HB.out hb'⟩
      | false =>
        go_wp2_with fail
        (with_reducible refine hcall.mono ?_); rintro e w' ⟨rfl, hb'⟩
        go_wp2_with fail
        exact ⟨⟨k + 1, by omega, by go_num, (by first | exact HS.out rfl | exact HS.out trivial), b_next HB.out hb'⟩, by simp [intOf]; omega⟩
    · have he : k = n := by omega
      have hl : ¬ (k : Int) < (n : Int) := by omega
      have e : r = -1 := by rw [HR.out]; exact fnd_no (fun j hj => HN.out j (by omega))
      subst e
      clear hbl
      go_wp2_with fail
      go_ret
      exact ⟨rfl, HB.out⟩
theorem aidxC_b {v : Value} {n : Nat} {M : Nat → ByteArray} {l : Nat → Nat} {S : Nat → Nat → ByteArray} {w : World} (hv : AV w v n M l S) (pb : Nat) (s : ByteArray) (hq : w.cell? ⟨pb, 0, none⟩ = some (.string s)) :
    Calls Tryz.prog 41 #[v, .func (.func 42) #[] #[.pointer (some ⟨pb, 0, none⟩)]] w fun e w' => e = .returned (.int .i64 (fix M s n)) ∧ Below w.heap.size w w' := by
  rcases hv with ⟨rfl, h⟩ | ⟨h0, b, off, cap, rfl, hc, hm, HV⟩
  · rcases h with rfl | ⟨a, cap, rfl, -⟩
    · exact aidx_none none 0 _ w
    · exact aidx_none (some a) cap _ w
  · exact aidx_b n cap b off pb M l S s w (Nat.le_trans hm (by decide)) hc (Lib.hid HV) (Lib.hid hq)
set_option maxHeartbeats 1000000 in
theorem acont_w (v f : Value) (r : Int) (w : World) (H : Hid (∀ w1, Below w.heap.size w w1 → Calls Tryz.prog 41 #[v, f] w1 fun e w' => e = .returned (.int .i64 r) ∧ Below w1.heap.size w1 w')) :
    Calls Tryz.prog 17 #[v, f] w fun e w' => e = .returned (.bool (decide (0 ≤ r))) ∧ Below w.heap.size w w' := by
  go_enter Tryz.func17, Tryz.ntmps17
  go_wp2_with fail
  (with_reducible refine (H.out _ (Below.refl _ _)).mono ?_); rintro e w1 ⟨rfl, hb⟩
  have HB := Lib.hid hb; clear hb
  go_wp2_with fail
  all_goals (go_ret; exact ⟨rfl, HB.out⟩)
theorem acontC {v : Value} {n : Nat} {M : Nat → ByteArray} {l : Nat → Nat} {S : Nat → Nat → ByteArray} {w : World} (hv : AV w v n M l S) (pb : Nat) (s : ByteArray) (hq : w.cell? ⟨pb, 0, none⟩ = some (.string s)) :
    Calls Tryz.prog 17 #[v, .func (.func 68) #[] #[.pointer (some ⟨pb, 0, none⟩)]] w fun e w' => e = .returned (.bool (decide (0 ≤ fix M s n))) ∧ Below w.heap.size w w' :=
  acont_w v _ _ w (Lib.hid fun _ hb => aidxC_c (av_keep hb hv) pb s (keep hb hq))
end Chart
end Go.Proofs.YtmkglhoahdlogaaGreatDoor
namespace Go.Proofs.YtmkglhoahdlogaaGreatDoor
open Go.RowKit
namespace Chart
open Kit Plane Poly
/-- The first error of a list. -/
def ferr (e : Nat → Int) : Nat → Int
  | 0 => 0
  | k + 1 => if ferr e k ≠ 0 then ferr e k else e k
theorem ferr_zero {e : Nat → Int} : ∀ {n : Nat}, (∀ j, j < n → e j = 0) → ferr e n = 0
  | 0, _ => rfl
  | n + 1, h => by
    show (if ferr e n ≠ 0 then ferr e n else e n) = 0
    rw [ferr_zero fun j hj => h j (by omega), if_neg (by decide)]
    exact h n (by omega)
theorem ferr_at {e : Nat → Int} {k : Nat} (h : ∀ j, j < k → e j = 0) (hk : e k ≠ 0) : ∀ {n : Nat}, k < n → ferr e n = e k
  | 0, hn => by omega
  | n + 1, hn => by
    show (if ferr e n ≠ 0 then ferr e n else e n) = e k
    rcases Nat.lt_or_ge k n with hl | hl
    · rw [ferr_at h hk hl, if_pos hk]
    · obtain rfl : k = n := by omega
      rw [ferr_zero h, if_neg (by decide)]
theorem ferr_inv {e : Nat → Int} : ∀ {n : Nat}, ferr e n = 0 → ∀ j, j < n → e j = 0
  | 0, _, j, hj => by omega
  | n + 1, h, j, hj => by
    have h : (if ferr e n ≠ 0 then ferr e n else e n) = 0 := h
    by_cases h0 : ferr e n = 0
    · rw [if_neg (fun g => g h0)] at h
      rcases Nat.lt_or_ge j n with hl | hl
      · exact ferr_inv h0 j hl
      · rw [show j = n from by omega]; exact h
    · rw [if_pos h0] at h; exact absurd h h0
/-- The error at one name of an airway. -/
def nerr (n : Nat) (N : Nat → ByteArray) (X Y : Nat → Int) (S : Nat → ByteArray) (j : Nat) : Int :=
  if fix N (S j) n < 0 then 6 else if 0 ≤ fix S (S j) j then 7 else if 0 < j ∧ X (fix N (S j) n).toNat = X (fix N (S (j - 1)) n).toNat ∧ Y (fix N (S j) n).toNat = Y (fix N (S (j - 1)) n).toNat then 10 else 0
theorem nerr_next {n : Nat} {N : Nat → ByteArray} {X Y : Nat → Int} {T : Nat → ByteArray} {k : Nat} (h : ∀ j, j < k → nerr n N X Y T j = 0) (hk : nerr n N X Y T k = 0) : ∀ j, j < k + 1 → nerr n N X Y T j = 0 := fun j hj => by
  rcases Nat.lt_or_ge j k with hl | hl
  · exact h j hl
  · rw [show j = k from by omega]; exact hk
/-- checkAirway's error. -/
def aerr (n : Nat) (N : Nat → ByteArray) (X Y : Nat → Int) (M : Nat → ByteArray) (l : Nat → Nat) (S : Nat → Nat → ByteArray) (i : Nat) : Int :=
  if Name.nameB (M i) = false then 5 else if 0 ≤ fix N (M i) n ∨ 0 ≤ fix M (M i) i then 7 else if l i < 2 ∨ 24 < l i then 3 else ferr (nerr n N X Y (S i)) (l i)
/-- Two cells. -/
abbrev P2V (w : World) (b : Nat) (u v : Value) : Prop := w.cell? ⟨b, 0, none⟩ = some u ∧ w.cell? ⟨b, 1, none⟩ = some v
theorem p2v_keep {W w1 : World} (hb : Below W.heap.size W w1) {b : Nat} {u v : Value} (h : P2V W b u v) : P2V w1 b u v := ⟨keep hb h.1, keep hb h.2⟩
theorem p2v_new (w : World) (t : TypeId) (u v : Value) : P2V (w.alloc (.cells #[u, v] t)) w.heap.size u v := ⟨by simp, by simp⟩
theorem sv_take {w : World} {b off cap l : Nat} {S : Nat → ByteArray} (h : ∀ k, k < l → w.cell? ⟨b, off + k, none⟩ = some (.string (S k))) (hc : l ≤ cap) (hm : cap ≤ maxLen) {k : Nat} (hk : k ≤ l) : SV w (.slice (some ⟨b, off, none⟩) k cap) k S := by
  rcases Nat.eq_zero_or_pos k with rfl | h0
  · exact Or.inl ⟨rfl, Or.inr ⟨_, _, rfl, hm⟩⟩
  · exact Or.inr ⟨h0, b, off, cap, rfl, by omega, hm, fun j hj => h j (by omega)⟩
theorem av_take {w : World} {b off cap m : Nat} {M : Nat → ByteArray} {l : Nat → Nat} {S : Nat → Nat → ByteArray} (h : ∀ k, k < m → A2 w b off k (M k) (l k) (S k)) (hc : m ≤ cap) (hm : cap ≤ maxLen) {k : Nat} (hk : k ≤ m) : AV w (.slice (some ⟨b, off, none⟩) k cap) k M l S := by
  rcases Nat.eq_zero_or_pos k with rfl | h0
  · exact Or.inl ⟨rfl, Or.inr ⟨_, _, rfl, hm⟩⟩
  · exact Or.inr ⟨h0, b, off, cap, rfl, by omega, hm, fun j hj => h j (by omega)⟩
abbrev IxC (fx aw : Value) (n : Nat) (N : Nat → ByteArray) (w : World) : Prop := ∀ w1 s, Below w.heap.size w w1 → Calls Tryz.prog 21 #[.agg #[fx, aw], .string s] w1 fun e w' => e = .returned (.int .i64 (fix N s n)) ∧ Below w1.heap.size w1 w'
theorem sv_at {w : World} {v : Value} {n : Nat} {S : Nat → ByteArray} (h : SV w v n S) (h0 : 0 < n) : ∃ b off cap, v = .slice (some ⟨b, off, none⟩) n cap ∧ n ≤ cap ∧ cap ≤ maxLen ∧ ∀ k, k < n → w.cell? ⟨b, off + k, none⟩ = some (.string (S k)) := by
  rcases h with ⟨h1, -⟩ | ⟨-, h⟩
  · omega
  · exact h
theorem fv_at {w : World} {v : Value} {n : Nat} {N : Nat → ByteArray} {X Y : Nat → Int} (h : FV w v n N X Y) (h0 : 0 < n) : ∃ b off cap, v = .slice (some ⟨b, off, none⟩) n cap ∧ n ≤ cap ∧ cap ≤ maxLen ∧ ∀ k, k < n → E3 w b off k (N k) (X k) (Y k) := by
  rcases h with ⟨h1, -⟩ | ⟨-, h⟩
  · omega
  · exact h
set_option maxRecDepth 100000 in
set_option maxHeartbeats 8000000 in
theorem checkAirway_w (fx : Value) (n m cap b off i : Nat) (N : Nat → ByteArray) (X Y : Nat → Int) (M : Nat → ByteArray) (l : Nat → Nat) (S : Nat → Nat → ByteArray) (w : World) (hi : i < m) (hc : m ≤ cap) (_hm : cap ≤ 9223372036854775807) (hm' : Hid (cap ≤ maxLen)) (_hi9 : m ≤ 9223372036854775807)
    (HF : Hid (FV w fx n N X Y)) (HV : Hid (∀ k, k < m → A2 w b off k (M k) (l k) (S k))) (IX : Hid (IxC fx (.slice (some ⟨b, off, none⟩) m cap) n N w)) :
    Calls Tryz.prog 39 #[.agg #[fx, .slice (some ⟨b, off, none⟩) m cap], .int .i64 i] w fun e w' => e = .returned (.int .i64 (aerr n N X Y M l S i)) ∧ Below w.heap.size w w' := by
  obtain ⟨ca0, vi, ca1, hsv⟩ := HV.out i hi
  obtain ⟨A, ci, rfl⟩ := sv_slice hsv
  have BX0 := Lib.hid (p2v_keep (b_alloc (Below.refl _ _) (.cells #[.string (M i), .slice A (l i) ci] 65)) (p2v_new w 28 fx (.slice (some ⟨b, off, none⟩) m cap)))
  have ab := p2v_new (w.alloc (.cells #[fx, .slice (some ⟨b, off, none⟩) m cap] 28)) 65 (.string (M i)) (.slice A (l i) ci)
  rw [World.size_alloc] at ab
  have AB0 := Lib.hid ab; clear ab
  have W0 := Lib.hid (b_alloc (b_alloc (Below.refl w.heap.size w) (.cells #[fx, .slice (some ⟨b, off, none⟩) m cap] 28)) (.cells #[.string (M i), .slice A (l i) ci] 65))
  obtain ⟨R, hR⟩ : ∃ R, R = aerr n N X Y M l S i := ⟨_, rfl⟩
  rw [← hR]
  have HR := Lib.hid hR; clear hR
  have d0 := keep (b_alloc (Below.refl w.heap.size w) (.cells #[fx, .slice (some ⟨b, off, none⟩) m cap] 28)) ca0
  have d1 := keep (b_alloc (Below.refl w.heap.size w) (.cells #[fx, .slice (some ⟨b, off, none⟩) m cap] 28)) ca1
  have HSV := Lib.hid hsv; clear hsv ca0 ca1
  have hl : (i : Int) < (m : Int) := by omega
  have hmf : ∀ fn first cap w, (Instr.makeFunc fn first cap).run Tryz.prog w = .ok (.func fn first cap) w := fun _ _ _ _ => rfl
  go_enter Tryz.func39, Tryz.ntmps39
  go_wp2_with fail
  (with_reducible refine (Name.nameC (M i) _).mono ?_); rintro e w1 ⟨rfl, hb⟩
  have W1 := Lib.hid (b_next W0.out hb); have BX1 := Lib.hid (p2v_keep hb BX0.out); have AB1 := Lib.hid (p2v_keep hb AB0.out); clear hb d0 d1
  obtain ⟨x0, x1⟩ := BX1.out; obtain ⟨y0, y1⟩ := AB1.out
  have HR1 := HR.out
  unfold aerr at HR1
  clear HR
  cases hnm : Name.nameB (M i) with
  | false =>
    rw [if_pos hnm] at HR1
    subst HR1
    go_wp2_with fail
    all_goals (go_ret; exact ⟨rfl, W1.out⟩)
  | true =>
  rw [if_neg (by rw [hnm]; decide)] at HR1
  have HR2 := Lib.hid HR1; clear HR1
  go_wp2_with fail
  (with_reducible refine (IX.out _ _ W1.out).mono ?_); rintro e w2 ⟨rfl, hb⟩
  have W2 := Lib.hid (b_next W1.out hb); have BX2 := Lib.hid (p2v_keep hb BX1.out); have AB2 := Lib.hid (p2v_keep hb AB1.out); clear hb x0 x1 y0 y1
  obtain ⟨x0, x1⟩ := BX2.out; obtain ⟨y0, y1⟩ := AB2.out
  have HR1 := HR2.out; clear HR2
  by_cases hf : 0 ≤ fix N (M i) n
  · rw [if_pos (Or.inl hf)] at HR1
    subst HR1
    generalize fix N (M i) n = r at *
    go_wp2_with fail
    all_goals (go_ret; exact ⟨rfl, W2.out⟩)
  have HR2 := Lib.hid HR1; clear HR1
  have hf' : ¬ 0 ≤ fix N (M i) n := hf
  obtain ⟨r, hr⟩ : ∃ r, r = fix N (M i) n := ⟨_, rfl⟩
  rw [← hr] at hf ⊢
  have HRF := Lib.hid hr; clear hr hf'
  have HC := Lib.hid fun (w' : World) (hb : Below w2.heap.size w2 w') => acontC (av_keep (b_next W2.out hb) (av_take HV.out hc hm'.out (Nat.le_of_lt hi))) (w.heap.size + 1) (M i) (keep hb AB2.out.1)
  go_wp2_with fail
  (with_reducible refine (HC.out _ (Below.refl _ _)).mono ?_); rintro e w3 ⟨rfl, hb⟩
  have W3 := Lib.hid (b_next W2.out hb); have BX3 := Lib.hid (p2v_keep hb BX2.out); have AB3 := Lib.hid (p2v_keep hb AB2.out); clear hb x0 x1 y0 y1 HC
  obtain ⟨x0, x1⟩ := BX3.out; obtain ⟨y0, y1⟩ := AB3.out
  have HR1 := HR2.out; clear HR2
  rw [← HRF.out] at HR1
  by_cases hf2 : 0 ≤ fix M (M i) i
  · rw [if_pos (Or.inr hf2)] at HR1
    subst HR1
    generalize fix M (M i) i = r2 at *
    go_wp2_with fail
    all_goals (go_ret; exact ⟨rfl, W3.out⟩)
  rw [if_neg (fun h => h.elim (by omega) (by omega))] at HR1
  by_cases hl2 : l i < 2 ∨ 24 < l i
  · rw [if_pos hl2] at HR1
    subst HR1
    generalize fix M (M i) i = r2 at *
    rcases hl2 with hl2 | hl2
    · have h5 : (l i : Int) < 2 := by omega
      go_wp2_with fail
      all_goals (go_ret; exact ⟨rfl, W3.out⟩)
    · have h5 : (24 : Int) < (l i : Int) := by omega
      go_wp2_with fail
      all_goals (go_ret; exact ⟨rfl, W3.out⟩)
  rw [if_neg hl2] at HR1
  have HR2 := Lib.hid HR1; clear HR1
  generalize fix M (M i) i = r2 at *
  obtain ⟨b2, off2, ci', e1, hc1, hc2, hcs⟩ := sv_at HSV.out (by omega)
  injection e1 with e1 _ e3
  subst e1 e3
  have HS3 := Lib.hid hcs; have HC2 := Lib.hid hc2; clear hcs HSV
  have hc3 : ci ≤ 9223372036854775807 := Nat.le_trans hc2 (by decide)
  clear hc2
  obtain ⟨L, hL⟩ : ∃ L, L = l i := ⟨_, rfl⟩
  obtain ⟨T, hT⟩ : ∃ T, T = S i := ⟨_, rfl⟩
  rw [← hL] at HR2 HS3 hc1 hl2 AB3 y1 ⊢
  rw [← hT] at HR2 HS3
  have h5 : ¬ (L : Int) < 2 := by omega
  have h6 : ¬ (24 : Int) < (L : Int) := by omega
  clear hL hT AB2 AB1 AB0 BX2 BX1 BX0 W0 W1 W2
  go_wp2_with fail
  go_loopw [47] (fun s wr => ∃ k : Nat, k ≤ L ∧ s = .int .i64 k ∧ (∀ j, j < k → nerr n N X Y T j = 0) ∧ Below w3.heap.size w3 wr) (fun s _ => L - (intOf s).toNat)
  case atStart => exact ⟨0, Nat.zero_le _, rfl, fun j hj => absurd hj (Nat.not_lt_zero j), Below.refl _ _⟩
  case round =>
    obtain ⟨k, hk, rfl, hno, hbl⟩ := hrel
    have HN := Lib.hid hno; have HB := Lib.hid hbl; have W4 := Lib.hid (b_next W3.out hbl); clear hno
    have BX4 := Lib.hid (p2v_keep hbl BX3.out); have AB4 := Lib.hid (p2v_keep hbl AB3.out)
    clear hbl x0 x1 y0 y1
    obtain ⟨x0, x1⟩ := BX4.out; obtain ⟨y0, y1⟩ := AB4.out
    by_cases hlt : k < L
    · have s0 := keep W4.out (HS3.out k hlt)
      have hlk : (k : Int) < (L : Int) := by omega
      have HE : Hid (nerr n N X Y T k ≠ 0 → R = nerr n N X Y T k) := Lib.hid fun h => by rw [HR2.out]; exact ferr_at HN.out h hlt
      go_wp2_with fail
      (with_reducible refine (IX.out _ _ W4.out).mono ?_); rintro e w5 ⟨rfl, hb⟩
      have W5 := Lib.hid (b_next W4.out hb); have BX := Lib.hid (p2v_keep hb BX4.out); have AB := Lib.hid (p2v_keep hb AB4.out); have HB5 := Lib.hid (b_next HB.out hb); clear hb x0 x1 y0 y1 s0
      obtain ⟨x0, x1⟩ := BX.out; obtain ⟨y0, y1⟩ := AB.out
      have s0 := keep W5.out (HS3.out k hlt)
      have hbd := fnd_bd (fun j => decide (N j = T k)) n
      have he : nerr n N X Y T k = if fix N (T k) n < 0 then 6 else if 0 ≤ fix T (T k) k then 7 else if 0 < k ∧ X (fix N (T k) n).toNat = X (fix N (T (k - 1)) n).toNat ∧ Y (fix N (T k) n).toNat = Y (fix N (T (k - 1)) n).toNat then 10 else 0 := rfl
      by_cases h1 : fix N (T k) n < 0
      · rw [if_pos h1] at he
        have e6 : R = 6 := by rw [HE.out (by omega), he]
        subst e6
        generalize fix N (T k) n = r3 at *
        clear hbd
        go_wp2_with fail
        all_goals (go_ret; exact ⟨rfl, W5.out⟩)
      rw [if_neg h1] at he
      have hbd' : -1 ≤ fix N (T k) n ∧ fix N (T k) n < (n : Int) := hbd
      clear hbd
      have SC := Lib.hid fun (w' : World) (hb : Below w5.heap.size w5 w') => scontC (sv_keep (b_next W5.out hb) (sv_take HS3.out hc1 HC2.out hk)) (T k)
      obtain ⟨rn, hrn⟩ : ∃ rn : Nat, fix N (T k) n = (rn : Int) := ⟨(fix N (T k) n).toNat, by omega⟩
      rw [hrn, Int.toNat_natCast] at he
      rw [hrn] at h1 hbd' ⊢
      have hrl : rn < n := by omega
      have HE2 := Lib.hid he; clear he
      have hk1 : (k : Int) ≤ (L : Int) := by omega
      clear hbd'
      have HRN := Lib.hid hrn; clear hrn
      go_wp2_with fail
      (with_reducible refine (SC.out _ (Below.refl _ _)).mono ?_); rintro e w6 ⟨rfl, hb⟩
      have W6 := Lib.hid (b_next W5.out hb); have BX6 := Lib.hid (p2v_keep hb BX.out); have AB6 := Lib.hid (p2v_keep hb AB.out); have HB6 := Lib.hid (b_next HB5.out hb); clear hb x0 x1 y0 y1 s0 SC
      obtain ⟨x0, x1⟩ := BX6.out; obtain ⟨y0, y1⟩ := AB6.out
      have he := HE2.out; clear HE2
      by_cases h2 : 0 ≤ fix T (T k) k
      · rw [if_pos h2] at he
        have e7 : R = 7 := by rw [HE.out (by omega), he]
        subst e7
        generalize fix T (T k) k = r3 at *
        go_wp2_with fail
        all_goals (go_ret; exact ⟨rfl, W6.out⟩)
      rw [if_neg h2] at he
      generalize fix T (T k) k = r3 at *
      obtain ⟨bf, of', cf, rfl, hf1, hf2, HE3⟩ := fv_at (fv_keep W6.out HF.out) (by omega)
      have hf3 : cf ≤ 9223372036854775807 := Nat.le_trans hf2 (by decide)
      have XR := Lib.hid (HE3 rn hrl)
      have hrl' : (rn : Int) < (n : Int) := by omega
      by_cases hk0 : 0 < k
      · have hz : (0 : Int) < (k : Int) := by omega
        have hz2 := decide_eq_true hz
        have hprev := HN.out (k - 1) (by omega)
        have hge : ¬ fix N (T (k - 1)) n < 0 := fun h => by
          unfold nerr at hprev
          rw [if_pos h] at hprev; exact absurd hprev (by decide)
        have hbd2 : -1 ≤ fix N (T (k - 1)) n ∧ fix N (T (k - 1)) n < (n : Int) := fnd_bd _ n
        obtain ⟨rp, hrp⟩ : ∃ rp : Nat, fix N (T (k - 1)) n = (rp : Int) := ⟨(fix N (T (k - 1)) n).toNat, by omega⟩
        rw [hrp, Int.toNat_natCast] at he
        have YR := Lib.hid (HE3 rp (by omega))
        have hrp' : (rp : Int) < (n : Int) := by omega
        have SP := Lib.hid (keep W6.out (HS3.out (k - 1) (by omega)))
        have IX2 := Lib.hid fun (w' : World) (hb : Below w.heap.size w w') => IX.out w' (T (k - 1)) hb
        rw [hrp] at IX2
        have u1 : IntKind.i64.wrap ((k : Int) - 1) = ((k - 1 : Nat) : Int) := by rw [IntWalk.i64_in _ (by omega)]; omega
        have u2 : ((k - 1 : Nat) : Int) < (L : Int) := by omega
        have u3 : (k : Int) - 1 = ((k - 1 : Nat) : Int) := by omega
        have u4' : IntKind.i64.wrap ((k - 1 : Nat) : Int) = ((k - 1 : Nat) : Int) := IntWalk.i64_in _ (by omega)
        clear hprev hge hbd2 hrp x0 x1 y0 y1 HE3
        have HE4 := Lib.hid he; clear he
        generalize X rn = xa at *
        generalize Y rn = ya at *
        generalize X rp = xb at *
        generalize Y rp = yb at *
        have HE5 : Hid (∀ B : Bool, ((xa == xb) && (ya == yb)) = B → nerr n N X Y T k = if B then 10 else 0) := Lib.hid fun B hB => by
          rw [HE4.out]
          subst hB
          by_cases h1 : xa = xb <;> by_cases h2 : ya = yb <;> simp [h1, h2, hk0]
        obtain ⟨bx, hbx⟩ : ∃ bx, (xa == xb) = bx := ⟨_, rfl⟩
        obtain ⟨bY, hby⟩ : ∃ bY, (ya == yb) = bY := ⟨_, rfl⟩
        have HE6 := Lib.hid (HE5.out (bx && bY) (by rw [hbx, hby]))
        clear HE5 HE4
        cases bx <;> cases bY
        all_goals
          go_wp2_with fail
          refine d_region (by kernel_rfl) (by kernel_rfl) ?_
          repeat
            first
              | (refine d_plain (by with_reducible rfl) ?_; apply Exists.intro; refine ⟨fun wq hc hq => ?_, ?_⟩)
              | (refine d_on (by with_reducible rfl) (by rfl) (by with_reducible rfl) ?_; apply Exists.intro; refine ⟨fun wq hc hq => ?_, ?_⟩)
              | (refine d_off (by with_reducible rfl) (by rfl) (by rfl) ?_)
              | (refine d_void (by with_reducible rfl) (by rfl) ?_)
            try any_goals
              (obtain ⟨b0, b1⟩ := p2v_keep (cls hq) BX6.out; obtain ⟨a0, a1⟩ := p2v_keep (cls hq) AB6.out; obtain ⟨x0, x1, x2⟩ := e3_keep (cls hq) XR.out; obtain ⟨y0, y1, y2⟩ := e3_keep (cls hq) YR.out; have s0 := keep (cls hq) SP.out; clear hc
               go_simp
               first
                 | rfl
                 | (go_at_call 21; with_reducible exact call_below hq (IX2.out _ (b_next W6.out (cls hq)))))
            simp only [Act.put, List.setIfInBounds_toArray, List.set_cons_zero, List.set_cons_succ]
          refine d_nil ?_
          intro w7 hb7
          have W7 := Lib.hid (b_next W6.out hb7); have HB7 := Lib.hid (b_next HB6.out hb7); clear hb7
          have he := HE6.out
          first
            | (have he : nerr n N X Y T k = 10 := he
               have e10 : R = 10 := by rw [HE.out (by omega), he]
               subst e10
               go_wp2_with fail
               all_goals (go_ret; exact ⟨rfl, W7.out⟩))
            | (have he0 : nerr n N X Y T k = 0 := he
               have HZ := Lib.hid he0
               clear he he0
               go_wp2_with fail
               exact ⟨⟨k + 1, by omega, by go_num, nerr_next HN.out HZ.out, HB7.out⟩, by simp [intOf]; omega⟩)
      · have hz : ¬ (0 : Int) < (k : Int) := by omega
        have hz2 := decide_eq_false hz
        rw [if_neg (fun h => hk0 h.1)] at he
        have HZ := Lib.hid he
        clear he x0 x1 y0 y1 HE3
        go_wp2_with fail
        refine d_region (by kernel_rfl) (by kernel_rfl) ?_
        repeat
          first
            | (refine d_plain (by with_reducible rfl) ?_; apply Exists.intro; refine ⟨fun wq hc hq => ?_, ?_⟩)
            | (refine d_on (by with_reducible rfl) (by rfl) (by with_reducible rfl) ?_; apply Exists.intro; refine ⟨fun wq hc hq => ?_, ?_⟩)
            | (refine d_off (by with_reducible rfl) (by rfl) (by rfl) ?_)
            | (refine d_void (by with_reducible rfl) (by rfl) ?_)
          try any_goals
            (skip; clear hc
             go_simp
             first
               | rfl)
          simp only [Act.put, List.setIfInBounds_toArray, List.set_cons_zero, List.set_cons_succ]
        refine d_nil ?_
        intro w7 hb7
        have HB7 := Lib.hid (b_next HB6.out hb7); clear hb7
        go_wp2_with fail
        exact ⟨⟨k + 1, by omega, by go_num, nerr_next HN.out HZ.out, HB7.out⟩, by simp [intOf]; omega⟩
    · have hkn : k = L := by omega
      have hlk : ¬ (k : Int) < (L : Int) := by omega
      have e0 : R = 0 := by rw [HR2.out]; exact ferr_zero (fun j hj => HN.out j (by omega))
      subst e0
      go_wp2_with fail
      all_goals (go_ret; exact ⟨rfl, W4.out⟩)
end Chart
end Go.Proofs.YtmkglhoahdlogaaGreatDoor
