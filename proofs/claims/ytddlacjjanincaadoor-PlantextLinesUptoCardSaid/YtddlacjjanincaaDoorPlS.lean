/- strings.SplitAfter, HasSuffix, TrimSuffix at the line's end. -/
import Derived.Test.YtddlacjjanincaaDoorPtS
import Derived.Test.YtddlacjjanincaaDoorLnT
import Derived.Shelf.Strings.Prefix
namespace Go.Proofs.YtddlacjjanincaaDoor
open Go.RowKit Go.Shelf
shelf_lay Lays.n102 Nm 102 at Tryd as trimSL
shelf_lay Lays.n100 Nm 100 at Tryd as hasSL
namespace Pt
open Kit Chart Route Plan Name
abbrev nl : ByteArray := ⟨#[10]⟩
/-- The pieces of a text, each with its end. -/
def AftR (s : ByteArray) (e : Ending) (w' : World) : Prop := ∃ F : List ByteArray, raw F = Spl.aft 10 (Spl.sp 10 s.data.toList) ∧ F.length = (Spl.sp 10 s.data.toList).length ∧ ∃ g, e = .returned (.slice (some ⟨g, 0, none⟩) F.length F.length) ∧ ∀ k, k < F.length → w'.cell? ⟨g, k, none⟩ = some (.string (F.getD k ⟨#[]⟩))
theorem aft_len (c : UInt8) : ∀ l : List (List UInt8), (Spl.aft c l).length = l.length
  | [] => rfl
  | [_] => rfl
  | x :: y :: t => by
    show (Spl.aft c (y :: t)).length + 1 = _
    rw [aft_len c (y :: t)]; rfl
theorem gsC {w : World} (V : Vars w) (s : ByteArray) (hs : s.size ≤ 2000000) : Calls Tryd.prog 43 #[.string s, .string nl, .int .i64 1, .int .i64 (-1)] w fun e w' => AftR s e w' ∧ Below w.heap.size w w' := by
  obtain ⟨m, hm⟩ := V.len
  have hle := Lib.countB_le nl (by decide) s.size s (Nat.le_refl _)
  have hcon := Any.strings_genSplit { splitL with } (by kernel_rfl) s nl 1 (-1) (Lib.countB s nl + 1) m w (by omega) hm (by decide) (by decide) (by decide) (by decide) (by rw [if_pos (by decide)]; omega)
  change Calls Tryd.prog 43 _ _ _ at hcon
  have hlen := Lib.splitB_all nl (by decide) 1 _ s rfl
  have hraw : raw (Lib.splitB nl 1 (Lib.countB s nl) s) = Spl.aft 10 (Spl.sp 10 s.data.toList) := by
    have q := Lib.splitB_data nl 1 (Lib.countB s nl) s
    show List.map _ _ = _
    rw [q]
    have e : Lib.countB s nl = s.data.toList.count 10 := Lib.count_one 10 s.data.toList
    rw [e]
    exact Spl.splitK_aft 10 s.data.toList
  rw [Nat.add_sub_cancel, ← hlen, Lib.cellsOf_full] at hcon
  generalize Lib.splitB nl 1 (Lib.countB s nl) s = F at *
  refine hcon.mono ?_
  rintro e w' ⟨rfl, rfl⟩
  refine ⟨⟨F, hraw, ?_, w.heap.size, rfl, fun k hk => ?_⟩, b_alloc (Below.refl _ _) _⟩
  · rw [← aft_len 10, ← hraw, List.length_map]
  · have ow := World.ownsRow_lit (base := 0) (size := 1) (e := splitL_ren.t 9) w (F.map Value.string).toArray F.length (Nat.zero_le _) (by unfold maxLen; omega) (by simp)
    rw [ow.cellAt k (by omega)]
    simp [List.getD_eq_getElem?_getD, List.getElem?_eq_getElem hk]
theorem saC {w : World} (V : Vars w) (s : ByteArray) (hs : s.size ≤ 2000000) : Calls Tryd.prog 38 #[.string s, .string nl] w fun e w' => AftR s e w' ∧ Below w.heap.size w w' := by
  have C := Lib.hid (gsC V s hs)
  go_enter Tryd.func38, Tryd.ntmps38
  go_wp2_with fail
  (with_reducible refine C.out.mono ?_); rintro e w1 ⟨⟨F, h1, h2, g, rfl, h3⟩, hb⟩
  have H1 := Lib.hid h1; have H2 := Lib.hid h2; have H3 := Lib.hid h3; have B := Lib.hid hb; clear h1 h2 h3 hb
  go_wp2_with fail
  go_ret
  exact ⟨⟨F, H1.out, H2.out, g, rfl, H3.out⟩, B.out⟩
theorem hsC (s : ByteArray) (w : World) (hs : s.size ≤ 9223372036854775807) : Calls Tryd.prog 39 #[.string s, .string nl] w fun e w' => e = .returned (.bool (Lib.hasSuffix s.data.toList [10])) ∧ Below w.heap.size w w' := by
  have h := Any.strings_HasSuffix hasSL s nl w hs
  change Calls Tryd.prog 39 _ _ _ at h
  refine h.mono ?_
  rintro e w' ⟨rfl, rfl⟩
  exact ⟨rfl, Below.refl _ _⟩
theorem tsC (s : ByteArray) (w : World) (hs : s.size ≤ 9223372036854775807) : Calls Tryd.prog 40 #[.string s, .string nl] w fun e w' => e = .returned (.string ⟨(Lib.trimSuffix s.data.toList [10]).toArray⟩) ∧ Below w.heap.size w w' := by
  have h := Any.strings_TrimSuffix trimSL s nl w hs
  change Calls Tryd.prog 40 _ _ _ at h
  refine h.mono ?_
  rintro e w' ⟨rfl, rfl⟩
  exact ⟨rfl, Below.refl _ _⟩
/-- The lines of a text, as a call sees them. -/
structure Lin (s : ByteArray) (m : Nat) (L : Nat → ByteArray) (Q : Nat → ByteArray) (z : ByteArray) : Prop where
  cnt : m ≤ s.size
  line : ∀ k, k < m → L k = Q k ++ nl
  free : ∀ k, k < m → (10 : UInt8) ∉ (Q k).data.toList
  rest : (10 : UInt8) ∉ z.data.toList
  text : s.data.toList = Spl.flat 10 ((List.range m).map fun k => (Q k).data.toList) ++ z.data.toList
  trim : ∀ k, k < m → (⟨(Lib.trimSuffix (L k).data.toList [10]).toArray⟩ : ByteArray) = Q k
  size : ∀ k, k < m → (L k).size ≤ s.size
  ends : z = ⟨#[]⟩ ↔ (s = ⟨#[]⟩ ∨ Lib.hasSuffix s.data.toList [10] = true)
theorem ba_nil {s : ByteArray} : s = ⟨#[]⟩ ↔ s.data.toList = [] := by
  constructor
  · rintro rfl; rfl
  · intro h; exact ba_eq h
theorem flat_mem (c : UInt8) : ∀ {Q : List (List UInt8)} {x : List UInt8}, x ∈ Q → x.length + 1 ≤ (Spl.flat c Q).length
  | y :: Q, x, h => by
    rw [Spl.flat_cons, List.length_append, List.length_cons]
    rcases List.mem_cons.1 h with rfl | h
    · omega
    · have := flat_mem c h
      omega
theorem flat_len (c : UInt8) : ∀ (Q : List (List UInt8)), Q.length ≤ (Spl.flat c Q).length
  | [] => Nat.le_refl _
  | y :: Q => by
    have := flat_len c Q
    rw [Spl.flat_cons, List.length_append, List.length_cons, List.length_cons]; omega
theorem lines_of (s : ByteArray) : ∃ m Q z, Lin s m (fun k => Q k ++ nl) Q z ∧ ∀ F : List ByteArray, raw F = Spl.aft 10 (Spl.sp 10 s.data.toList) → F.length = m + 1 ∧ (∀ k, k < m → F.getD k ⟨#[]⟩ = Q k ++ nl) ∧ F.getD m ⟨#[]⟩ = z := by
  obtain ⟨Q, z, h⟩ := Spl.lns 10 s.data.toList
  have hQ : ((List.range Q.length).map fun k => (⟨(Q.getD k []).toArray⟩ : ByteArray).data.toList) = Q := by
    apply List.ext_getElem?
    intro i
    rcases Nat.lt_or_ge i Q.length with hi | hi
    · simp [hi, List.getD_eq_getElem?_getD]
    · rw [List.getElem?_eq_none (by simp; exact hi), List.getElem?_eq_none hi]
  have hm : ∀ k, k < Q.length → Q.getD k [] ∈ Q := fun k hk => by
    rw [List.getD_eq_getElem?_getD, List.getElem?_eq_getElem hk]; exact List.getElem_mem hk
  have hap : ∀ x : List UInt8, ((⟨x.toArray⟩ : ByteArray) ++ nl).data.toList = x ++ [10] := fun x => by
    rw [ByteArray.data_append, Array.toList_append]
  refine ⟨Q.length, fun k => ⟨(Q.getD k []).toArray⟩, ⟨z.toArray⟩, ⟨?_, fun _ _ => rfl, fun k hk => ?_, ?_, ?_, fun k hk => ?_, fun k hk => ?_, ?_⟩, fun F hF => ?_⟩
  · have := flat_len 10 Q
    have e : s.size = s.data.toList.length := (size_raw s).symm
    rw [e, h.eq, List.length_append]; omega
  · simpa using h.free _ (hm k hk)
  · simpa using h.rest
  · rw [hQ]; simpa using h.eq
  · apply ba_eq
    rw [hap, Spl.trim_line]
  · have e : s.size = s.data.toList.length := (size_raw s).symm
    have e2 := flat_mem 10 (hm k hk)
    rw [← size_raw, hap, e, h.eq, List.length_append, List.length_append]
    show _ + 1 ≤ _
    omega
  · rw [ba_nil, ba_nil]
    simpa using h.ends
  · rw [h.sp, Spl.aft_app] at hF
    have hl : F.length = Q.length + 1 := by
      have := congrArg List.length hF
      simpa using this
    have hg : ∀ k, k < F.length → (F.getD k ⟨#[]⟩).data.toList = ((Q.map fun x => x ++ [10]) ++ [z]).getD k [] := fun k hk => by
      rw [← hF, List.getD_eq_getElem?_getD, List.getD_eq_getElem?_getD, List.getElem?_map, List.getElem?_eq_getElem hk]; rfl
    refine ⟨hl, fun k hk => ba_eq ?_, ba_eq ?_⟩
    · rw [hg k (by omega), hap, List.getD_eq_getElem?_getD, List.getElem?_append_left (by simpa using hk), List.getElem?_map, List.getD_eq_getElem?_getD, List.getElem?_eq_getElem hk]; rfl
    · rw [hg _ (by omega), List.getD_eq_getElem?_getD, List.getElem?_append_right (by simp)]
      simp
end Pt
end Go.Proofs.YtddlacjjanincaaDoor
