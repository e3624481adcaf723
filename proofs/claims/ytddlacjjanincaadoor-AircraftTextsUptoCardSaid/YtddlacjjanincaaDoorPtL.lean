/- Texts of plans, in plain Lean: what is printed is read, and is printed again. -/
import Derived.Test.YtddlacjjanincaaDoorPtP
namespace Go.Proofs.YtddlacjjanincaaDoor
open Go.RowKit
namespace Pt
open Kit Chart Route Plan Name
theorem ba_eq {x y : ByteArray} (h : x.data.toList = y.data.toList) : x = y := by
  obtain ⟨⟨a⟩⟩ := x
  obtain ⟨⟨b⟩⟩ := y
  have h : a = b := h
  rw [h]
theorem raw_inj : ∀ {A B : List ByteArray}, raw A = raw B → A = B
  | [], [], _ => rfl
  | [], _ :: _, h => by cases h
  | _ :: _, [], h => by cases h
  | a :: A, b :: B, h => by
    injection h with h1 h2
    rw [ba_eq h1, raw_inj h2]
/-- The bytes of a name. -/
theorem name_byte {s : ByteArray} (h : nameB s = true) : ∀ x ∈ s.data.toList, 48 ≤ x.toNat ∧ x.toNat ≤ 90 := by
  unfold nameB at h
  have g := of_decide_eq_true h
  intro x hx
  obtain ⟨k, hk, e⟩ := List.mem_iff_getElem.1 hx
  have hk2 : k < s.size := by rw [← size_raw]; exact hk
  have q := g.2.2 k hk2
  have b : byte s k = (x.toNat : Int) := by
    unfold byte
    have e2 : s.data[k]? = some x := by rw [← Array.getElem?_toList, List.getElem?_eq_getElem hk, e]
    rw [e2]; rfl
  rw [b] at q
  unfold okc at q
  omega
theorem name_free {s : ByteArray} (h : nameB s = true) : (32 : UInt8) ∉ s.data.toList := fun q => by
  have := name_byte h 32 q
  exact absurd this.1 (by decide)
theorem txt_byte (n : Nat) : ∀ x ∈ (txt (n : Int)).data.toList, 48 ≤ x.toNat ∧ x.toNat ≤ 57 := by
  intro x hx
  have hx : x ∈ Lib.itoa (n : Int) := hx
  rw [NumT.itoa_nat] at hx
  exact NumT.digits_are n x hx
theorem txt_free {n : Int} (h : 0 ≤ n) : (32 : UInt8) ∉ (txt n).data.toList := fun q => by
  obtain ⟨m, rfl⟩ : ∃ m : Nat, n = m := ⟨n.toNat, by omega⟩
  have := txt_byte m 32 q
  exact absurd this.1 (by decide)
theorem fld_free {c k f t : ByteArray} {off sp h : Int} {R : List ByteArray} (e : PlOk c k f t off sp h R) : ∀ x ∈ raw (fld c k f t off sp h R), (32 : UInt8) ∉ x := by
  intro x hx
  obtain ⟨s, hs, rfl⟩ := List.mem_map.1 hx
  have a1 := e.off; have a2 := e.sp; have a3 := e.h
  rcases List.mem_append.1 hs with q | q
  · simp only [List.mem_cons, List.not_mem_nil, or_false] at q
    rcases q with rfl | rfl | rfl | rfl | rfl | rfl | rfl
    · exact name_free e.nm.1
    · exact name_free e.nm.2.1
    · exact name_free e.nm.2.2.1
    · exact name_free e.nm.2.2.2
    · exact txt_free a1.1
    · exact txt_free (by omega)
    · exact txt_free (by omega)
  · exact name_free (e.rt s q)
theorem sp_text {c k f t : ByteArray} {off sp h : Int} {R : List ByteArray} (e : PlOk c k f t off sp h R) : Spl.sp 32 (ptext c k f t off sp h R).data.toList = raw (fld c k f t off sp h R) :=
  Spl.sp_jn 32 _ _ (fld_free e)
theorem txt_inj {n m : Int} (h0 : 0 ≤ n) (h1 : 0 ≤ m) (h : txt n = txt m) : n = m := by
  obtain ⟨a, rfl⟩ : ∃ a : Nat, n = a := ⟨n.toNat, by omega⟩
  obtain ⟨b, rfl⟩ : ∃ b : Nat, m = b := ⟨m.toNat, by omega⟩
  have e : Lib.itoa (a : Int) = Lib.itoa (b : Int) := (txt_eq _ _).1 h
  have q := NumT.atoi_itoa a
  rw [e, NumT.atoi_itoa b] at q
  injection q with q
  exact q.symm
/-- Two plans with one text are equal. -/
theorem text_inj {c k f t c' k' f' t' : ByteArray} {off sp h off' sp' h' : Int} {R R' : List ByteArray} (e : PlOk c k f t off sp h R) (e' : PlOk c' k' f' t' off' sp' h' R') (q : ptext c k f t off sp h R = ptext c' k' f' t' off' sp' h' R') :
    c = c' ∧ k = k' ∧ f = f' ∧ t = t' ∧ off = off' ∧ sp = sp' ∧ h = h' ∧ R = R' := by
  have a := sp_text e
  rw [q, sp_text e'] at a
  have b : fld c' k' f' t' off' sp' h' R' = fld c k f t off sp h R := raw_inj a
  unfold fld at b
  simp only [List.cons_append, List.nil_append, List.cons.injEq] at b
  obtain ⟨b1, b2, b3, b4, b5, b6, b7, b8⟩ := b
  have x1 := e.off; have x2 := e.sp; have x3 := e.h; have y1 := e'.off; have y2 := e'.sp; have y3 := e'.h
  exact ⟨b1.symm, b2.symm, b3.symm, b4.symm, (txt_inj y1.1 x1.1 b5).symm, (txt_inj (by omega) (by omega) b6).symm, (txt_inj (by omega) (by omega) b7).symm, b8.symm⟩
/-- A text of a plan without a fault. -/
def Good (s : ByteArray) : Prop := ∃ c k f t off sp h R, PlOk c k f t off sp h R ∧ ptext c k f t off sp h R = s
/-- What the fields of such a text are. -/
theorem good_fld {s : ByteArray} {F : List ByteArray} (hF : raw F = Spl.sp 32 s.data.toList) (g : Good s) : ∃ c k f t off sp h R, PlOk c k f t off sp h R ∧ F = fld c k f t off sp h R := by
  obtain ⟨c, k, f, t, off, sp, h, R, e, rfl⟩ := g
  rw [sp_text e] at hF
  exact ⟨c, k, f, t, off, sp, h, R, e, raw_inj hF⟩
theorem fld_text {s : ByteArray} {c k f t : ByteArray} {off sp h : Int} {R : List ByteArray} (hF : raw (fld c k f t off sp h R) = Spl.sp 32 s.data.toList) : ptext c k f t off sp h R = s := by
  refine ba_eq ?_
  show Spl.jn 32 (raw (fld c k f t off sp h R)) = _
  rw [hF, Spl.jn_sp]
theorem num_txt {s : ByteArray} {n : Int} (h : NumT.numB s.data.toList = some n) : s = txt n := by
  refine ba_eq ?_
  exact (NumT.numB_some h).2.2.symm
theorem txt_num {n : Int} (h0 : 0 ≤ n) (h1 : n ≤ 200000) : NumT.numB (txt n).data.toList = some n := by
  obtain ⟨m, rfl⟩ : ∃ m : Nat, n = m := ⟨n.toNat, by omega⟩
  exact NumT.numB_itoa (by omega)
/-- The fields of a text that is not good: some test fails. -/
theorem bad_few {s : ByteArray} {F : List ByteArray} (hF : raw F = Spl.sp 32 s.data.toList) (h : F.length < 7) : ¬ Good s := fun g => by
  obtain ⟨c, k, f, t, off, sp, h', R, -, e⟩ := good_fld hF g
  rw [e] at h
  unfold fld at h
  rw [List.length_append] at h
  simp at h
  omega
theorem bad_num {s : ByteArray} {F : List ByteArray} (hF : raw F = Spl.sp 32 s.data.toList) {i : Nat} (hi : i < 3) (h : NumT.numB (F.getD (4 + i) ⟨#[]⟩).data.toList = none) : ¬ Good s := fun g => by
  obtain ⟨c, k, f, t, off, sp, h', R, e, eF⟩ := good_fld hF g
  have x1 := e.off; have x2 := e.sp; have x3 := e.h
  subst eF
  rcases (show i = 0 ∨ i = 1 ∨ i = 2 by omega) with rfl | rfl | rfl
  · have q : NumT.numB (txt off).data.toList = none := h
    rw [txt_num x1.1 x1.2] at q; cases q
  · have q : NumT.numB (txt sp).data.toList = none := h
    rw [txt_num (by omega) (by omega)] at q; cases q
  · have q : NumT.numB (txt h').data.toList = none := h
    rw [txt_num (by omega) (by omega)] at q; cases q
theorem get7 {F : List ByteArray} (h : 7 ≤ F.length) : F = [F.getD 0 ⟨#[]⟩, F.getD 1 ⟨#[]⟩, F.getD 2 ⟨#[]⟩, F.getD 3 ⟨#[]⟩, F.getD 4 ⟨#[]⟩, F.getD 5 ⟨#[]⟩, F.getD 6 ⟨#[]⟩] ++ F.drop 7 := by
  match F, h with
  | a :: b :: c :: d :: e :: f :: g :: R, _ => rfl
/-- The fields with their numbers. -/
theorem fields {F : List ByteArray} (h7 : 7 ≤ F.length) {a b c : Int} (ha : NumT.numB (F.getD 4 ⟨#[]⟩).data.toList = some a) (hb : NumT.numB (F.getD 5 ⟨#[]⟩).data.toList = some b) (hc : NumT.numB (F.getD 6 ⟨#[]⟩).data.toList = some c) :
    F = fld (F.getD 0 ⟨#[]⟩) (F.getD 1 ⟨#[]⟩) (F.getD 2 ⟨#[]⟩) (F.getD 3 ⟨#[]⟩) a b c (F.drop 7) := by
  have e := get7 h7
  rw [num_txt ha, num_txt hb, num_txt hc] at e
  exact e
theorem bad_plan {s : ByteArray} {c k f t : ByteArray} {off sp h : Int} {R : List ByteArray} (hF : raw (fld c k f t off sp h R) = Spl.sp 32 s.data.toList) (h0 : 0 ≤ off ∧ 0 ≤ sp ∧ 0 ≤ h) (hE : planE c k f t off sp h R.length (rtF R) ≠ 0) : ¬ Good s := fun g => by
  obtain ⟨c', k', f', t', off', sp', h', R', e, eF⟩ := good_fld hF g
  unfold fld at eF
  simp only [List.cons_append, List.nil_append, List.cons.injEq] at eF
  obtain ⟨b1, b2, b3, b4, b5, b6, b7, b8⟩ := eF
  have x1 := e.off; have x2 := e.sp; have x3 := e.h
  have z1 := txt_inj h0.1 x1.1 b5
  have z2 := txt_inj h0.2.1 (by omega) b6
  have z3 := txt_inj h0.2.2 (by omega) b7
  subst b1 b2 b3 b4 b8 z1 z2 z3
  exact hE (plan_zero e)
end Pt
end Go.Proofs.YtddlacjjanincaaDoor
