/- The text of a type, in plain Lean: it tells the type, and what texts are one. -/
import Derived.Test.YtddlacjjanincaaDoorAcW
import Derived.Test.YtddlacjjanincaaDoorPtL
namespace Go.Proofs.YtddlacjjanincaaDoor
open Go.RowKit
namespace Ac
open Kit Name Kind Pt
/-- The fields of a type's text. -/
def kfld (s : ByteArray) (q : Nat) (N : Nat → Int) : List ByteArray := [s, wkS q, txt (N 0), txt (N 1), txt (N 2), txt (N 3), txt (N 4)]
theorem ktext_jn (s : ByteArray) (q : Nat) (N : Nat → Int) : (ktext s q N).data.toList = Spl.jn 32 (raw (kfld s q N)) := by
  have e : raw (kfld s q N) = [s.data.toList, (wkS q).data.toList, (txt (N 0)).data.toList, (txt (N 1)).data.toList, (txt (N 2)).data.toList, (txt (N 3)).data.toList, (txt (N 4)).data.toList] := rfl
  rw [e, Spl.jn_cons, Spl.jn_cons, Spl.jn_cons, Spl.jn_cons, Spl.jn_cons, Spl.jn_cons, Spl.jn_one]
  unfold ktext acc acc acc acc acc acc
  simp only [ByteArray.data_append, Array.toList_append, List.append_assoc]
  rfl
theorem wk_free {q : Nat} (h : q < 4) : (32 : UInt8) ∉ (wkS q).data.toList := by
  rcases (show q = 0 ∨ q = 1 ∨ q = 2 ∨ q = 3 by omega) with rfl | rfl | rfl | rfl <;> decide
theorem wk_inj {q r : Nat} (hq : q < 4) (hr : r < 4) (h : wkS q = wkS r) : q = r := by
  rcases (show q = 0 ∨ q = 1 ∨ q = 2 ∨ q = 3 by omega) with rfl | rfl | rfl | rfl <;> rcases (show r = 0 ∨ r = 1 ∨ r = 2 ∨ r = 3 by omega) with rfl | rfl | rfl | rfl <;> first | rfl | exact absurd h (by decide)
theorem k_sp {s : ByteArray} {q : Nat} {N : Nat → Int} (h : kE s q N = 0) : Spl.sp 32 (ktext s q N).data.toList = raw (kfld s q N) := by
  obtain ⟨hn, hq, -⟩ := kchk_ok h
  have hb := num_bds h
  rw [ktext_jn]
  refine Spl.sp_jn 32 _ _ fun x hx => ?_
  have hx : x ∈ raw (kfld s q N) := hx
  obtain ⟨y, hy, rfl⟩ := List.mem_map.1 hx
  have hy : y ∈ kfld s q N := hy
  unfold kfld at hy
  simp only [List.mem_cons, List.not_mem_nil, or_false] at hy
  rcases hy with rfl | rfl | rfl | rfl | rfl | rfl | rfl
  · exact name_free hn
  · exact wk_free (by omega)
  · exact txt_free (hb 0 (by decide)).1
  · exact txt_free (hb 1 (by decide)).1
  · exact txt_free (hb 2 (by decide)).1
  · exact txt_free (hb 3 (by decide)).1
  · exact txt_free (hb 4 (by decide)).1
theorem k_inj {s s' : ByteArray} {q q' : Nat} {N N' : Nat → Int} (h : kE s q N = 0) (h' : kE s' q' N' = 0) (e : ktext s q N = ktext s' q' N') : s = s' ∧ q = q' ∧ ∀ k, k < 5 → N k = N' k := by
  have p := k_sp h
  rw [e, k_sp h'] at p
  have p := raw_inj p
  unfold kfld at p
  injection p with p0 p; injection p with p1 p; injection p with p2 p; injection p with p3 p; injection p with p4 p; injection p with p5 p; injection p with p6 _
  obtain ⟨-, hq, -⟩ := kchk_ok h
  obtain ⟨-, hq', -⟩ := kchk_ok h'
  have hb := num_bds h
  have hb' := num_bds h'
  refine ⟨p0.symm, wk_inj (by omega) (by omega) p1.symm, fun k hk => ?_⟩
  rcases (show k = 0 ∨ k = 1 ∨ k = 2 ∨ k = 3 ∨ k = 4 by omega) with rfl | rfl | rfl | rfl | rfl
  · exact txt_inj (hb 0 (by decide)).1 (hb' 0 (by decide)).1 p2.symm
  · exact txt_inj (hb 1 (by decide)).1 (hb' 1 (by decide)).1 p3.symm
  · exact txt_inj (hb 2 (by decide)).1 (hb' 2 (by decide)).1 p4.symm
  · exact txt_inj (hb 3 (by decide)).1 (hb' 3 (by decide)).1 p5.symm
  · exact txt_inj (hb 4 (by decide)).1 (hb' 4 (by decide)).1 p6.symm
/-- A text of a type. -/
def GoodK (s : ByteArray) : Prop := ∃ c q N, kE c (q : Nat) N = 0 ∧ ktext c q N = s
theorem goodk_fld {s : ByteArray} {F : List ByteArray} (hF : raw F = Spl.sp 32 s.data.toList) (g : GoodK s) : ∃ c q N, kE c (q : Nat) N = 0 ∧ q < 4 ∧ F = kfld c q N := by
  obtain ⟨c, q, N, h, rfl⟩ := g
  obtain ⟨-, hq, -⟩ := kchk_ok h
  rw [k_sp h] at hF
  exact ⟨c, q, N, h, by omega, raw_inj hF⟩
/-- What the fields make. -/
theorem fld_good {s : ByteArray} {F : List ByteArray} (hF : raw F = Spl.sp 32 s.data.toList) (h7 : F.length = 7) {q : Nat} {N : Nat → Int} (hq : F.getD 1 ⟨#[]⟩ = wkS q) (hn : ∀ k, k < 5 → NumT.numB (F.getD (2 + k) ⟨#[]⟩).data.toList = some (N k)) : ktext (F.getD 0 ⟨#[]⟩) q N = s := by
  have e : F = kfld (F.getD 0 ⟨#[]⟩) q N := by
    have g := get7 (F := F) (by omega)
    have d : F.drop 7 = [] := List.drop_eq_nil_of_le (by omega)
    rw [d, List.append_nil] at g
    have n0 := num_txt (hn 0 (by decide)); have n1 := num_txt (hn 1 (by decide)); have n2 := num_txt (hn 2 (by decide)); have n3 := num_txt (hn 3 (by decide)); have n4 := num_txt (hn 4 (by decide))
    rw [hq, n0, n1, n2, n3, n4] at g
    exact g
  refine ba_eq ?_
  rw [ktext_jn, ← e, hF, Spl.jn_sp]
end Ac
end Go.Proofs.YtddlacjjanincaaDoor
