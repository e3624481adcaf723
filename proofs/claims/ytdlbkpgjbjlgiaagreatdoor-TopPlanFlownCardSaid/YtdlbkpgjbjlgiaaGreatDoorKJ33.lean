/- Joined texts: PtL, PtS, PtQ0, PtQz, PtQr. -/
import Derived.Test.YtdlbkpgjbjlgiaaGreatDoorJ32
import Derived.Shelf.Strings.Split
import Derived.Deep.RegionHeld3
namespace Go.Proofs.YtdlbkpgjbjlgiaaGreatDoor
open Go.RowKit
namespace Pt
open Kit Chart Route Plan Name
theorem ba_eq {x y : ByteArray} (h : x.data.toList = y.data.toList) : x = y := by
  obtain ⟨⟨a⟩⟩ := x
  obtain ⟨⟨b⟩⟩ := y
  have h : a = b := h
  rw [h]
theorem raw_inj : ∀ {A B : List ByteArray}, raw A = raw B → A = B
  | [], [], _ => rfl
  | [], _ :: _, h => by cases h
  | _ :: _, [], h => by cases h
  | a :: A, b :: B, h => by
    injection h with h1 h2
    rw [ba_eq h1, raw_inj h2]
/-- The bytes of a name. -/
theorem name_byte {s : ByteArray} (h : nameB s = true) : ∀ x ∈ s.data.toList, 48 ≤ x.toNat ∧ x.toNat ≤ 90 := by
  unfold nameB at h
  have g := of_decide_eq_true h
  intro x hx
  obtain ⟨k, hk, e⟩ := List.mem_iff_getElem.1 hx
  have hk2 : k < s.size := by rw [← size_raw]; exact hk
  have q := g.2.2 k hk2
  have b : byte s k = (x.toNat : Int) := by
    unfold byte
    have e2 : s.data[k]? = some x := by rw [← Array.getElem?_toList, List.getElem?_eq_getElem hk, e]
    rw [e2]; rfl
  rw [b] at q
  unfold okc at q
  omega
theorem name_free {s : ByteArray} (h : nameB s = true) : (32 : UInt8) ∉ s.data.toList := fun q => by
  have := name_byte h 32 q
  exact absurd this.1 (by decide)
theorem txt_byte (n : Nat) : ∀ x ∈ (txt (n : Int)).data.toList, 48 ≤ x.toNat ∧ x.toNat ≤ 57 := by
  intro x hx
  have hx : x ∈ Lib.itoa (n : Int) := hx
  rw [NumT.itoa_nat] at hx
  exact NumT.digits_are n x hx
theorem txt_free {n : Int} (h : 0 ≤ n) : (32 : UInt8) ∉ (txt n).data.toList := fun q => by
  obtain ⟨m, rfl⟩ : ∃ m : Nat, n = m := ⟨n.toNat, by omega⟩
  have := txt_byte m 32 q
  exact absurd this.1 (by decide)
theorem fld_free {c k f t : ByteArray} {off sp h : Int} {R : List ByteArray} (e : PlOk c k f t off sp h R) : ∀ x ∈ raw (fld c k f t off sp h R), (32 : UInt8) ∉ x := by
  intro x hx
  obtain ⟨s, hs, rfl⟩ := List.mem_map.1 hx
  have a1 := e.off; have a2 := e.sp; have a3 := e.h
  rcases List.mem_append.1 hs with q | q
  · simp only [List.mem_cons, List.not_mem_nil, or_false] at q
    rcases q with rfl | rfl | rfl | rfl | rfl | rfl | rfl
    · exact name_free e.nm.1
    · exact name_free e.nm.2.1
    · exact name_free e.nm.2.2.1
    · exact name_free e.nm.2.2.2
    · exact txt_free a1.1
    · exact txt_free (by omega)
    · exact txt_free (by omega)
  · exact name_free (e.rt s q)
theorem sp_text {c k f t : ByteArray} {off sp h : Int} {R : List ByteArray} (e : PlOk c k f t off sp h R) : Spl.sp 32 (ptext c k f t off sp h R).data.toList = raw (fld c k f t off sp h R) :=
  Spl.sp_jn 32 _ _ (fld_free e)
theorem txt_inj {n m : Int} (h0 : 0 ≤ n) (h1 : 0 ≤ m) (h : txt n = txt m) : n = m := by
  obtain ⟨a, rfl⟩ : ∃ a : Nat, n = a := ⟨n.toNat, by omega⟩
  obtain ⟨b, rfl⟩ : ∃ b : Nat, m = b := ⟨m.toNat, by omega⟩
  have e : Lib.itoa (a : Int) = Lib.itoa (b : Int) := (txt_eq _ _).1 h
  have q := NumT.atoi_itoa a
  rw [e, NumT.atoi_itoa b] at q
  injection q with q
  exact q.symm
/-- Two plans with one text are equal. -/
theorem text_inj {c k f t c' k' f' t' : ByteArray} {off sp h off' sp' h' : Int} {R R' : List ByteArray} (e : PlOk c k f t off sp h R) (e' : PlOk c' k' f' t' off' sp' h' R') (q : ptext c k f t off sp h R = ptext c' k' f' t' off' sp' h' R') :
    c = c' ∧ k = k' ∧ f = f' ∧ t = t' ∧ off = off' ∧ sp = sp' ∧ h = h' ∧ R = R' := by
  have a := sp_text e
  rw [q, sp_text e'] at a
  have b : fld c' k' f' t' off' sp' h' R' = fld c k f t off sp h R := raw_inj a
  unfold fld at b
  simp only [List.cons_append, List.nil_append, List.cons.injEq] at b
  obtain ⟨b1, b2, b3, b4, b5, b6, b7, b8⟩ := b
  have x1 := e.off; have x2 := e.sp; have x3 := e.h; have y1 := e'.off; have y2 := e'.sp; have y3 := e'.h
  exact ⟨b1.symm, b2.symm, b3.symm, b4.symm, (txt_inj y1.1 x1.1 b5).symm, (txt_inj (by omega) (by omega) b6).symm, (txt_inj (by omega) (by omega) b7).symm, b8.symm⟩
/-- A text of a plan without a fault. -/
def Good (s : ByteArray) : Prop := ∃ c k f t off sp h R, PlOk c k f t off sp h R ∧ ptext c k f t off sp h R = s
/-- What the fields of such a text are. -/
theorem good_fld {s : ByteArray} {F : List ByteArray} (hF : raw F = Spl.sp 32 s.data.toList) (g : Good s) : ∃ c k f t off sp h R, PlOk c k f t off sp h R ∧ F = fld c k f t off sp h R := by
  obtain ⟨c, k, f, t, off, sp, h, R, e, rfl⟩ := g
  rw [sp_text e] at hF
  exact ⟨c, k, f, t, off, sp, h, R, e, raw_inj hF⟩
theorem fld_text {s : ByteArray} {c k f t : ByteArray} {off sp h : Int} {R : List ByteArray} (hF : raw (fld c k f t off sp h R) = Spl.sp 32 s.data.toList) : ptext c k f t off sp h R = s := by
  refine ba_eq ?_
  show Spl.jn 32 (raw (fld c k f t off sp h R)) = _
  rw [hF, Spl.jn_sp]
theorem num_txt {s : ByteArray} {n : Int} (h : NumT.numB s.data.toList = some n) : s = txt n := by
  refine ba_eq ?_
  exact (NumT.numB_some h).2.2.symm
theorem txt_num {n : Int} (h0 : 0 ≤ n) (h1 : n ≤ 200000) : NumT.numB (txt n).data.toList = some n := by
  obtain ⟨m, rfl⟩ : ∃ m : Nat, n = m := ⟨n.toNat, by omega⟩
  exact NumT.numB_itoa (by omega)
/-- The fields of a text that is not good: some test fails. -/
theorem bad_few {s : ByteArray} {F : List ByteArray} (hF : raw F = Spl.sp 32 s.data.toList) (h : F.length < 7) : ¬ Good s := fun g => by
  obtain ⟨c, k, f, t, off, sp, h', R, -, e⟩ := good_fld hF g
  rw [e] at h
  unfold fld at h
  rw [List.length_append] at h
  simp at h
  omega
theorem bad_num {s : ByteArray} {F : List ByteArray} (hF : raw F = Spl.sp 32 s.data.toList) {i : Nat} (hi : i < 3) (h : NumT.numB (F.getD (4 + i) ⟨#[]⟩).data.toList = none) : ¬ Good s := fun g => by
  obtain ⟨c, k, f, t, off, sp, h', R, e, eF⟩ := good_fld hF g
  have x1 := e.off; have x2 := e.sp; have x3 := e.h
  subst eF
  rcases (show i = 0 ∨ i = 1 ∨ i = 2 by omega) with rfl | rfl | rfl
  · have q : NumT.numB (txt off).data.toList = none := h
    rw [txt_num x1.1 x1.2] at q; cases q
  · have q : NumT.numB (txt sp).data.toList = none := h
    rw [txt_num (by omega) (by omega)] at q; cases q
  · have q : NumT.numB (txt h').data.toList = none := h
    rw [txt_num (by omega) (by omega)] at q; cases q
theorem get7 {F : List ByteArray} (h : 7 ≤ F.length) : F = [F.getD 0 ⟨#[]⟩, F.getD 1 ⟨#[]⟩, F.getD 2 ⟨#[]⟩, F.getD 3 ⟨#[]⟩, F.getD 4 ⟨#[]⟩, F.getD 5 ⟨#[]⟩, F.getD 6 ⟨#[]⟩] ++ F.drop 7 := by
  match F, h with
  | a :: b :: c :: d :: e :: f :: g :: R, _ => rfl
/-- The fields with their numbers. -/
theorem fields {F : List ByteArray} (h7 : 7 ≤ F.length) {a b c : Int} (ha : NumT.numB (F.getD 4 ⟨#[]⟩).data.toList = some a) (hb : NumT.numB (F.getD 5 ⟨#[]⟩).data.toList = some b) (hc : NumT.numB (F.getD 6 ⟨#[]⟩).data.toList = some c) :
    F = fld (F.getD 0 ⟨#[]⟩) (F.getD 1 ⟨#[]⟩) (F.getD 2 ⟨#[]⟩) (F.getD 3 ⟨#[]⟩) a b c (F.drop 7) := by
  have e := get7 h7
  rw [num_txt ha, num_txt hb, num_txt hc] at e
  exact e
theorem bad_plan {s : ByteArray} {c k f t : ByteArray} {off sp h : Int} {R : List ByteArray} (hF : raw (fld c k f t off sp h R) = Spl.sp 32 s.data.toList) (h0 : 0 ≤ off ∧ 0 ≤ sp ∧ 0 ≤ h) (hE : planE c k f t off sp h R.length (rtF R) ≠ 0) : ¬ Good s := fun g => by
  obtain ⟨c', k', f', t', off', sp', h', R', e, eF⟩ := good_fld hF g
  unfold fld at eF
  simp only [List.cons_append, List.nil_append, List.cons.injEq] at eF
  obtain ⟨b1, b2, b3, b4, b5, b6, b7, b8⟩ := eF
  have x1 := e.off; have x2 := e.sp; have x3 := e.h
  have z1 := txt_inj h0.1 x1.1 b5
  have z2 := txt_inj h0.2.1 (by omega) b6
  have z3 := txt_inj h0.2.2 (by omega) b7
  subst b1 b2 b3 b4 b8 z1 z2 z3
  exact hE (plan_zero e)
end Pt
end Go.Proofs.YtdlbkpgjbjlgiaaGreatDoor
namespace Go.Proofs.YtdlbkpgjbjlgiaaGreatDoor
open Go.RowKit Go.Shelf
shelf_lay Lays.n146 Nm 146 at Tryz as splitL
namespace Pt
open Kit Chart Route Plan Name
/-- The pieces of a text. -/
def SplR (s : ByteArray) (w0 : Nat) (e : Ending) (w' : World) : Prop := ∃ F : List ByteArray, raw F = Spl.sp 32 s.data.toList ∧ F.length ≤ s.size + 1 ∧ ∃ g, e = .returned (.slice (some ⟨g, 0, none⟩) F.length F.length) ∧ w0 ≤ g ∧ ∀ k, k < F.length → w'.cell? ⟨g, k, none⟩ = some (.string (F.getD k ⟨#[]⟩))
theorem splitC {w : World} (V : Vars w) (s : ByteArray) (hs : s.size ≤ 2000000) : Calls Tryz.prog 38 #[.string s, .string ⟨#[32]⟩] w fun e w' => SplR s w.heap.size e w' ∧ Below w.heap.size w w' := by
  obtain ⟨m, hm⟩ := V.len
  have hcon := Any.strings_Split splitL (by kernel_rfl) s ⟨#[32]⟩ m w (by omega) hm (by decide)
  change Calls Tryz.prog 38 _ _ _ at hcon
  have hle := Lib.countB_le ⟨#[32]⟩ (by decide) s.size s (Nat.le_refl _)
  have hlen := Lib.splitB_all ⟨#[32]⟩ (by decide) 0 _ s rfl
  have hraw : raw (Lib.splitB ⟨#[32]⟩ 0 (Lib.countB s ⟨#[32]⟩) s) = Spl.sp 32 s.data.toList := by
    have q := Lib.splitB_data ⟨#[32]⟩ 0 (Lib.countB s ⟨#[32]⟩) s
    show List.map _ _ = _
    rw [q]
    have e : Lib.countB s ⟨#[32]⟩ = s.data.toList.count 32 := Lib.count_one 32 s.data.toList
    rw [e]
    exact Spl.splitK_sp 32 s.data.toList
  rw [← hlen] at hcon
  generalize Lib.splitB ⟨#[32]⟩ 0 (Lib.countB s ⟨#[32]⟩) s = F at *
  refine hcon.mono ?_
  rintro e w' ⟨rfl, rfl⟩
  refine ⟨⟨F, hraw, by omega, w.heap.size, rfl, Nat.le_refl _, fun k hk => ?_⟩, b_alloc (Below.refl _ _) _⟩
  have ow := World.ownsRow_lit (base := 0) (size := 1) (e := splitL_ren.t 9) w (F.map Value.string).toArray F.length (Nat.zero_le _) (by unfold maxLen; omega) (by simp)
  rw [ow.cellAt k (by omega)]
  simp [List.getD_eq_getElem?_getD, List.getElem?_eq_getElem hk]
/-- A plan in a block of its own that may be turned. -/
structure Z8 (w : World) (b : Nat) (c k f t : ByteArray) (off sp h : Int) (r : Value) : Prop where
  n8 : N8 w b c k f t off sp h r
  fr : ∀ k, w.frozen? ⟨b, k, none⟩ = false
theorem z8_new (w : World) (ty : TypeId) (c k f t : ByteArray) (off sp h : Int) (r : Value) : Z8 (w.alloc (.cells #[.string c, .string k, .string f, .string t, .int .i64 off, .int .i64 sp, .int .i64 h, r] ty)) w.heap.size c k f t off sp h r :=
  ⟨n8_new w ty c k f t off sp h r, fun k => by simp⟩
theorem z8_keep {W w1 : World} (hb : Below W.heap.size W w1) {b : Nat} {c k f t : ByteArray} {off sp h : Int} {r : Value} (n : Z8 W b c k f t off sp h r) : Z8 w1 b c k f t off sp h r :=
  ⟨n8_keep hb n.n8, fun j => (hb.frozen (p := ⟨b, j, none⟩) (lt_of_cell (a := ⟨b, 0, none⟩) n.n8.c0)).trans (n.fr j)⟩
theorem ne_off {b i j : Nat} (h : i ≠ j) : (⟨b, i, none⟩ : Addr) ≠ ⟨b, j, none⟩ := fun e => h (by injection e)
theorem z8_set {w : World} {b : Nat} {c k f t : ByteArray} {off sp h : Int} {r : Value} (n : Z8 w b c k f t off sp h r) (c' k' f' t' : ByteArray) (off' sp' h' : Int) (r' : Value) :
    Z8 ((((((((w.setCell ⟨b, 0, none⟩ (.string c')).setCell ⟨b, 1, none⟩ (.string k')).setCell ⟨b, 2, none⟩ (.string f')).setCell ⟨b, 3, none⟩ (.string t')).setCell ⟨b, 4, none⟩ (.int .i64 off')).setCell ⟨b, 5, none⟩ (.int .i64 sp')).setCell ⟨b, 6, none⟩ (.int .i64 h')).setCell ⟨b, 7, none⟩ r') b c' k' f' t' off' sp' h' r' := by
  have F : ∀ (w : World) (i j : Nat) (u v : Value), i ≠ j → w.cell? ⟨b, j, none⟩ = some v → (w.setCell ⟨b, i, none⟩ u).cell? ⟨b, j, none⟩ = some v := fun w i j u v h hc => cfar _ (ne_off h) hc
  have S : ∀ (w : World) (i : Nat) (u v : Value), w.cell? ⟨b, i, none⟩ = some v → (w.setCell ⟨b, i, none⟩ u).cell? ⟨b, i, none⟩ = some u := fun w i u v hc => cset _ hc
  obtain ⟨⟨a0, a1, a2, a3, a4, a5, a6, a7⟩, fr⟩ := n
  refine ⟨⟨?_, ?_, ?_, ?_, ?_, ?_, ?_, ?_⟩, fun j => ?_⟩
  · exact F _ 7 0 _ _ (by decide) (F _ 6 0 _ _ (by decide) (F _ 5 0 _ _ (by decide) (F _ 4 0 _ _ (by decide) (F _ 3 0 _ _ (by decide) (F _ 2 0 _ _ (by decide) (F _ 1 0 _ _ (by decide) (S _ 0 _ _ a0)))))))
  · exact F _ 7 1 _ _ (by decide) (F _ 6 1 _ _ (by decide) (F _ 5 1 _ _ (by decide) (F _ 4 1 _ _ (by decide) (F _ 3 1 _ _ (by decide) (F _ 2 1 _ _ (by decide) (S _ 1 _ _ (F _ 0 1 _ _ (by decide) a1)))))))
  · exact F _ 7 2 _ _ (by decide) (F _ 6 2 _ _ (by decide) (F _ 5 2 _ _ (by decide) (F _ 4 2 _ _ (by decide) (F _ 3 2 _ _ (by decide) (S _ 2 _ _ (F _ 1 2 _ _ (by decide) (F _ 0 2 _ _ (by decide) a2)))))))
  · exact F _ 7 3 _ _ (by decide) (F _ 6 3 _ _ (by decide) (F _ 5 3 _ _ (by decide) (F _ 4 3 _ _ (by decide) (S _ 3 _ _ (F _ 2 3 _ _ (by decide) (F _ 1 3 _ _ (by decide) (F _ 0 3 _ _ (by decide) a3)))))))
  · exact F _ 7 4 _ _ (by decide) (F _ 6 4 _ _ (by decide) (F _ 5 4 _ _ (by decide) (S _ 4 _ _ (F _ 3 4 _ _ (by decide) (F _ 2 4 _ _ (by decide) (F _ 1 4 _ _ (by decide) (F _ 0 4 _ _ (by decide) a4)))))))
  · exact F _ 7 5 _ _ (by decide) (F _ 6 5 _ _ (by decide) (S _ 5 _ _ (F _ 4 5 _ _ (by decide) (F _ 3 5 _ _ (by decide) (F _ 2 5 _ _ (by decide) (F _ 1 5 _ _ (by decide) (F _ 0 5 _ _ (by decide) a5)))))))
  · exact F _ 7 6 _ _ (by decide) (S _ 6 _ _ (F _ 5 6 _ _ (by decide) (F _ 4 6 _ _ (by decide) (F _ 3 6 _ _ (by decide) (F _ 2 6 _ _ (by decide) (F _ 1 6 _ _ (by decide) (F _ 0 6 _ _ (by decide) a6)))))))
  · exact S _ 7 _ _ (F _ 6 7 _ _ (by decide) (F _ 5 7 _ _ (by decide) (F _ 4 7 _ _ (by decide) (F _ 3 7 _ _ (by decide) (F _ 2 7 _ _ (by decide) (F _ 1 7 _ _ (by decide) (F _ 0 7 _ _ (by decide) a7)))))))
  · simp only [World.frozen?_setCell]; exact fr j
theorem z8_num {w : World} {b : Nat} {c k f t : ByteArray} {off sp h : Int} {r : Value} (n : Z8 w b c k f t off sp h r) (i : Nat) (x : Int) :
    (i = 0 → Z8 (w.setCell ⟨b, 4, none⟩ (.int .i64 x)) b c k f t x sp h r) ∧ (i = 1 → Z8 (w.setCell ⟨b, 5, none⟩ (.int .i64 x)) b c k f t off x h r) ∧ (i = 2 → Z8 (w.setCell ⟨b, 6, none⟩ (.int .i64 x)) b c k f t off sp x r) := by
  have F : ∀ (i j : Nat) (u v : Value), i ≠ j → w.cell? ⟨b, j, none⟩ = some v → (w.setCell ⟨b, i, none⟩ u).cell? ⟨b, j, none⟩ = some v := fun i j u v h hc => cfar _ (ne_off h) hc
  have S : ∀ (i : Nat) (u v : Value), w.cell? ⟨b, i, none⟩ = some v → (w.setCell ⟨b, i, none⟩ u).cell? ⟨b, i, none⟩ = some u := fun i u v hc => cset _ hc
  obtain ⟨⟨a0, a1, a2, a3, a4, a5, a6, a7⟩, fr⟩ := n
  refine ⟨fun _ => ⟨⟨F _ _ _ _ (by decide) a0, F _ _ _ _ (by decide) a1, F _ _ _ _ (by decide) a2, F _ _ _ _ (by decide) a3, S _ _ _ a4, F _ _ _ _ (by decide) a5, F _ _ _ _ (by decide) a6, F _ _ _ _ (by decide) a7⟩, fun j => ?_⟩,
    fun _ => ⟨⟨F _ _ _ _ (by decide) a0, F _ _ _ _ (by decide) a1, F _ _ _ _ (by decide) a2, F _ _ _ _ (by decide) a3, F _ _ _ _ (by decide) a4, S _ _ _ a5, F _ _ _ _ (by decide) a6, F _ _ _ _ (by decide) a7⟩, fun j => ?_⟩,
    fun _ => ⟨⟨F _ _ _ _ (by decide) a0, F _ _ _ _ (by decide) a1, F _ _ _ _ (by decide) a2, F _ _ _ _ (by decide) a3, F _ _ _ _ (by decide) a4, F _ _ _ _ (by decide) a5, S _ _ _ a6, F _ _ _ _ (by decide) a7⟩, fun j => ?_⟩⟩
  all_goals (rw [World.frozen?_setCell]; exact fr j)
theorem b_set8 {W w : World} (h : Below W.heap.size W w) {b : Nat} (hb : W.heap.size ≤ b) (u0 u1 u2 u3 u4 u5 u6 u7 : Value) : Below W.heap.size W ((((((((w.setCell ⟨b, 0, none⟩ u0).setCell ⟨b, 1, none⟩ u1).setCell ⟨b, 2, none⟩ u2).setCell ⟨b, 3, none⟩ u3).setCell ⟨b, 4, none⟩ u4).setCell ⟨b, 5, none⟩ u5).setCell ⟨b, 6, none⟩ u6).setCell ⟨b, 7, none⟩ u7) :=
  b_set (b_set (b_set (b_set (b_set (b_set (b_set (b_set h hb _) hb _) hb _) hb _) hb _) hb _) hb _) hb _
/-- A cell of another block. -/
theorem far8 {w : World} {b : Nat} {a : Addr} {v : Value} (h : a.block ≠ b) (hc : w.cell? a = some v) (u0 u1 u2 u3 u4 u5 u6 u7 : Value) : ((((((((w.setCell ⟨b, 0, none⟩ u0).setCell ⟨b, 1, none⟩ u1).setCell ⟨b, 2, none⟩ u2).setCell ⟨b, 3, none⟩ u3).setCell ⟨b, 4, none⟩ u4).setCell ⟨b, 5, none⟩ u5).setCell ⟨b, 6, none⟩ u6).setCell ⟨b, 7, none⟩ u7).cell? a = some v := by
  have n : ∀ i, (⟨b, i, none⟩ : Addr) ≠ a := fun i e => h (by rw [← e])
  exact cfar _ (n 7) (cfar _ (n 6) (cfar _ (n 5) (cfar _ (n 4) (cfar _ (n 3) (cfar _ (n 2) (cfar _ (n 1) (cfar _ (n 0) hc)))))))
end Pt
end Go.Proofs.YtdlbkpgjbjlgiaaGreatDoor
namespace Go.Proofs.YtdlbkpgjbjlgiaaGreatDoor
open Go.RowKit
namespace Pt
open Kit Chart Route Plan Name
abbrev zp : Value := plan ⟨#[]⟩ ⟨#[]⟩ ⟨#[]⟩ ⟨#[]⟩ 0 0 0 (.slice none 0 0)
abbrev PaC (s : ByteArray) (w : World) (E : Int) : Prop := Calls Tryz.prog 12 #[.string s] w fun e w' => e = .returned (.tuple #[zp, .int .i64 E]) ∧ Below w.heap.size w w'
set_option maxRecDepth 100000 in
set_option maxHeartbeats 2000000 in
theorem parse_long (s : ByteArray) (w : World) (h : 8192 < s.size) : PaC s w 2 := by
  have hi : 8192 < (s.size : Int) := by omega
  have W0 := b_alloc (Below.refl w.heap.size w) (.cells #[.string ⟨#[]⟩, .string ⟨#[]⟩, .string ⟨#[]⟩, .string ⟨#[]⟩, .int .i64 0, .int .i64 0, .int .i64 0, .slice none 0 0] 24)
  go_enter Tryz.func12, Tryz.ntmps12
  go_wp2_with fail
  refine bodyPost_ret (v := .tuple #[zp, .int .i64 2]) (by simp [results, Tryz.results12, go_sem]) rfl ⟨rfl, W0⟩
set_option maxRecDepth 100000 in
set_option maxHeartbeats 2000000 in
theorem parse_few (s : ByteArray) (w : World) (h : ¬ 8192 < s.size) (F : List ByteArray) (hF : F.length < 7) (SP : Hid (∀ w1, Below w.heap.size w w1 → Calls Tryz.prog 38 #[.string s, .string ⟨#[32]⟩] w1 fun e w' => (∃ g, e = .returned (.slice (some ⟨g, 0, none⟩) F.length F.length)) ∧ Below w1.heap.size w1 w')) : PaC s w 5 := by
  have hi : ¬ 8192 < (s.size : Int) := by omega
  have hf : (F.length : Int) < 7 := by omega
  have Z0 := Lib.hid (z8_new w 24 ⟨#[]⟩ ⟨#[]⟩ ⟨#[]⟩ ⟨#[]⟩ 0 0 0 (.slice none 0 0))
  have W0 := Lib.hid (b_alloc (Below.refl w.heap.size w) (.cells #[.string ⟨#[]⟩, .string ⟨#[]⟩, .string ⟨#[]⟩, .string ⟨#[]⟩, .int .i64 0, .int .i64 0, .int .i64 0, .slice none 0 0] 24))
  have SZ0 : Hid (w.heap.size < (w.alloc (.cells #[.string ⟨#[]⟩, .string ⟨#[]⟩, .string ⟨#[]⟩, .string ⟨#[]⟩, .int .i64 0, .int .i64 0, .int .i64 0, .slice none 0 0] 24)).heap.size) := Lib.hid (by simp)
  go_enter Tryz.func12, Tryz.ntmps12
  go_wp2_with fail
  (with_reducible refine (SP.out _ W0.out).mono ?_); rintro e w1 ⟨⟨g, rfl⟩, hb⟩
  have W1 := Lib.hid (b_next W0.out hb); have Z1 := Lib.hid (z8_keep hb Z0.out); clear hb
  obtain ⟨⟨y0, y1, y2, y3, y4, y5, y6, y7⟩, fr⟩ := Z1.out
  have z0 := fr 0; have z1 := fr 1; have z2 := fr 2; have z3 := fr 3; have z4 := fr 4; have z5 := fr 5; have z6 := fr 6; have z7 := fr 7
  clear fr
  go_wp2_with fail
  have Z := (z8_set Z1.out ⟨#[]⟩ ⟨#[]⟩ ⟨#[]⟩ ⟨#[]⟩ 0 0 0 (.slice none 0 0)).n8
  refine bodyPost_ret (v := .tuple #[zp, .int .i64 5]) (by simp [results, Tryz.results12, go_sem, Z.c0, Z.c1, Z.c2, Z.c3, Z.c4, Z.c5, Z.c6, Z.c7]) rfl ⟨rfl, b_set8 W1.out (Nat.le_refl _) _ _ _ _ _ _ _ _⟩
/-- What the loop over the three numbers has done. -/
def ParI (f4 f5 f6 : ByteArray) (k : Nat) (a b c : Int) : Prop := (if 0 < k then NumT.numB f4.data.toList = some a else a = 0) ∧ (if 1 < k then NumT.numB f5.data.toList = some b else b = 0) ∧ (if 2 < k then NumT.numB f6.data.toList = some c else c = 0)
/-- The cells outside of one block are as they were. -/
def FarEq (b : Nat) (W wr : World) : Prop := ∀ a u, a.block ≠ b → W.cell? a = some u → wr.cell? a = some u
theorem far_keep {b : Nat} {W wr w1 : World} (h : FarEq b W wr) (hb : Below wr.heap.size wr w1) : FarEq b W w1 := fun a u ha hc => keep hb (h a u ha hc)
theorem far_set {b : Nat} {W wr : World} (h : FarEq b W wr) (i : Nat) (v : Value) : FarEq b W (wr.setCell ⟨b, i, none⟩ v) := fun a u ha hc => cfar _ (fun e => ha (by rw [← e])) (h a u ha hc)
theorem far_set8 {b : Nat} {W wr : World} (h : FarEq b W wr) (u0 u1 u2 u3 u4 u5 u6 u7 : Value) : FarEq b W ((((((((wr.setCell ⟨b, 0, none⟩ u0).setCell ⟨b, 1, none⟩ u1).setCell ⟨b, 2, none⟩ u2).setCell ⟨b, 3, none⟩ u3).setCell ⟨b, 4, none⟩ u4).setCell ⟨b, 5, none⟩ u5).setCell ⟨b, 6, none⟩ u6).setCell ⟨b, 7, none⟩ u7) :=
  far_set (far_set (far_set (far_set (far_set (far_set (far_set (far_set h _ _) _ _) _ _) _ _) _ _) _ _) _ _) _ _
theorem z8_far {w : World} {b n0 : Nat} (hne : n0 ≠ b) {c k f t : ByteArray} {off sp h : Int} {r : Value} (n : Z8 w n0 c k f t off sp h r) (i : Nat) (v : Value) : Z8 (w.setCell ⟨b, i, none⟩ v) n0 c k f t off sp h r := by
  have q : ∀ j, (⟨b, i, none⟩ : Addr) ≠ ⟨n0, j, none⟩ := fun j e => hne (by injection e with e _; exact e.symm)
  obtain ⟨⟨a0, a1, a2, a3, a4, a5, a6, a7⟩, fr⟩ := n
  exact ⟨⟨cfar _ (q _) a0, cfar _ (q _) a1, cfar _ (q _) a2, cfar _ (q _) a3, cfar _ (q _) a4, cfar _ (q _) a5, cfar _ (q _) a6, cfar _ (q _) a7⟩, fun j => by rw [World.frozen?_setCell]; exact fr j⟩
/-- What plantext.Parse makes of its fields. -/
def PaR (h0 : Nat) (f0 f1 f2 f3 f4 f5 f6 : ByteArray) (L : List ByteArray) (e : Ending) (w' : World) : Prop :=
  (∃ E : Int, E ≠ 0 ∧ e = .returned (.tuple #[zp, .int .i64 E]) ∧ ∀ x y z, NumT.numB f4.data.toList = some x → NumT.numB f5.data.toList = some y → NumT.numB f6.data.toList = some z → planE f0 f1 f2 f3 x y z L.length (rtF L) ≠ 0) ∨
  (∃ x y z v, NumT.numB f4.data.toList = some x ∧ NumT.numB f5.data.toList = some y ∧ NumT.numB f6.data.toList = some z ∧ planE f0 f1 f2 f3 x y z L.length (rtF L) = 0 ∧ e = .returned (.tuple #[plan f0 f1 f2 f3 x y z v, .int .i64 0]) ∧ ∀ W : World, (∀ a u, h0 ≤ a.block → w'.cell? a = some u → W.cell? a = some u) → SL W v L)
end Pt
end Go.Proofs.YtdlbkpgjbjlgiaaGreatDoor
namespace Go.Proofs.YtdlbkpgjbjlgiaaGreatDoor
open Go.RowKit
namespace Pt
open Kit Chart Route Plan Name
set_option maxRecDepth 100000 in
set_option maxHeartbeats 8000000 in
theorem parse_z (s : ByteArray) (w : World) (h : ¬ 8192 < s.size) (F : List ByteArray) (r : Nat) (hr0 : r = 0) (hr : F.length = 7 + r) (_hF8 : F.length ≤ 10000) (L : List ByteArray) (hL : L.length = r) (sl : Nat → Value) (hsl : Hid (∀ g, sl g = .slice (some ⟨g, if r = 0 then 0 else 7, none⟩) r r)) (hsz : Hid (∀ k, (F.getD k ⟨#[]⟩).size ≤ 2000000))
    (SP : Hid (∀ w1, Below w.heap.size w w1 → Calls Tryz.prog 38 #[.string s, .string ⟨#[32]⟩] w1 fun e w' => (∃ g, e = .returned (.slice (some ⟨g, 0, none⟩) F.length F.length) ∧ ∀ k, k < F.length → w'.cell? ⟨g, k, none⟩ = some (.string (F.getD k ⟨#[]⟩))) ∧ Below w1.heap.size w1 w'))
    (CL : Hid (∀ w1 g, (∀ k, k < F.length → w1.cell? ⟨g, k, none⟩ = some (.string (F.getD k ⟨#[]⟩))) → Calls Tryz.prog 39 #[sl g] w1 fun e w' => (∃ Av cv, e = .returned (.slice Av r cv) ∧ ∀ W : World, (∀ a u, w1.heap.size ≤ a.block → w'.cell? a = some u → W.cell? a = some u) → SL W (.slice Av r cv) L) ∧ Below w1.heap.size w1 w'))
    (NC : Hid (∀ u : ByteArray, u.size ≤ 2000000 → ∀ w', Below w.heap.size w w' → Calls Tryz.prog 40 #[.string u] w' fun e w'' => NumR u e ∧ Below w'.heap.size w' w'')) :
    Calls Tryz.prog 12 #[.string s] w fun e w' => PaR w.heap.size (F.getD 0 ⟨#[]⟩) (F.getD 1 ⟨#[]⟩) (F.getD 2 ⟨#[]⟩) (F.getD 3 ⟨#[]⟩) (F.getD 4 ⟨#[]⟩) (F.getD 5 ⟨#[]⟩) (F.getD 6 ⟨#[]⟩) L e w' ∧ Below w.heap.size w w' := by
  obtain ⟨f0, e0⟩ : ∃ f, f = F.getD 0 ⟨#[]⟩ := ⟨_, rfl⟩
  rw [← e0]; have E0 := Lib.hid e0; clear e0
  obtain ⟨f1, e1⟩ : ∃ f, f = F.getD 1 ⟨#[]⟩ := ⟨_, rfl⟩
  rw [← e1]; have E1 := Lib.hid e1; clear e1
  obtain ⟨f2, e2⟩ : ∃ f, f = F.getD 2 ⟨#[]⟩ := ⟨_, rfl⟩
  rw [← e2]; have E2 := Lib.hid e2; clear e2
  obtain ⟨f3, e3⟩ : ∃ f, f = F.getD 3 ⟨#[]⟩ := ⟨_, rfl⟩
  rw [← e3]; have E3 := Lib.hid e3; clear e3
  obtain ⟨f4, e4⟩ : ∃ f, f = F.getD 4 ⟨#[]⟩ := ⟨_, rfl⟩
  rw [← e4]; have E4 := Lib.hid e4; clear e4
  obtain ⟨f5, e5⟩ : ∃ f, f = F.getD 5 ⟨#[]⟩ := ⟨_, rfl⟩
  rw [← e5]; have E5 := Lib.hid e5; clear e5
  obtain ⟨f6, e6⟩ : ∃ f, f = F.getD 6 ⟨#[]⟩ := ⟨_, rfl⟩
  rw [← e6]; have E6 := Lib.hid e6; clear e6
  have hi : ¬ 8192 < (s.size : Int) := by omega
  have hf : ¬ (F.length : Int) < 7 := by omega
  have Z0 := Lib.hid (z8_new w 24 ⟨#[]⟩ ⟨#[]⟩ ⟨#[]⟩ ⟨#[]⟩ 0 0 0 (.slice none 0 0))
  have W0 := Lib.hid (b_alloc (Below.refl w.heap.size w) (.cells #[.string ⟨#[]⟩, .string ⟨#[]⟩, .string ⟨#[]⟩, .string ⟨#[]⟩, .int .i64 0, .int .i64 0, .int .i64 0, .slice none 0 0] 24))
  go_enter Tryz.func12, Tryz.ntmps12
  go_wp2_with fail
  obtain ⟨n0, hn0⟩ : ∃ n0, n0 = w.heap.size := ⟨_, rfl⟩
  rw [← hn0] at Z0 ⊢
  have HN0 := Lib.hid hn0; clear hn0
  (with_reducible refine (SP.out _ W0.out).mono ?_); rintro e w1 ⟨⟨g, rfl, hc⟩, hb⟩
  have W1 := Lib.hid (b_next W0.out hb); have Z1 := Lib.hid (z8_keep hb Z0.out); have HC := Lib.hid hc
  clear hb hc
  have CL1 := Lib.hid fun (w2 : World) (hb : Below w1.heap.size w1 w2) => CL.out w2 g fun k hk => keep hb (HC.out k hk)
  have hsg := hsl.out g
  have C0 := HC.out 0 (by omega); have C1 := HC.out 1 (by omega); have C2 := HC.out 2 (by omega); have C3 := HC.out 3 (by omega)
  rw [← E0.out] at C0; rw [← E1.out] at C1; rw [← E2.out] at C2; rw [← E3.out] at C3
  have K4 : Hid (w1.cell? ⟨g, 4, none⟩ = some (.string f4)) := Lib.hid (by rw [E4.out]; exact HC.out 4 (by omega)); have hs4 : Hid (f4.size ≤ 2000000) := Lib.hid (by rw [E4.out]; exact hsz.out 4)
  have K5 : Hid (w1.cell? ⟨g, 5, none⟩ = some (.string f5)) := Lib.hid (by rw [E5.out]; exact HC.out 5 (by omega)); have hs5 : Hid (f5.size ≤ 2000000) := Lib.hid (by rw [E5.out]; exact hsz.out 5)
  have K6' : Hid (w1.cell? ⟨g, 6, none⟩ = some (.string f6)) := Lib.hid (by rw [E6.out]; exact HC.out 6 (by omega)); have hs6 : Hid (f6.size ≤ 2000000) := Lib.hid (by rw [E6.out]; exact hsz.out 6)
  have l0 : (0 : Int) < (F.length : Int) := by omega
  have l1 : (1 : Int) < (F.length : Int) := by omega
  have l2 : (2 : Int) < (F.length : Int) := by omega
  have l3 : (3 : Int) < (F.length : Int) := by omega
  have l4 : (4 : Int) < (F.length : Int) := by omega
  have l5 : (5 : Int) < (F.length : Int) := by omega
  have l6 : (6 : Int) < (F.length : Int) := by omega
  have l7 : (7 : Int) ≤ (F.length : Int) := by omega
  have hlr : (F.length : Int) - 7 = (r : Int) := by omega
  have hlr2 : F.length - 7 = r := by omega
  have KP : Hid (∀ w', Below w1.heap.size w1 w' → (w'.cell? ⟨g, 0, none⟩ = some (.string f0) ∧ w'.cell? ⟨g, 1, none⟩ = some (.string f1) ∧ w'.cell? ⟨g, 2, none⟩ = some (.string f2) ∧ w'.cell? ⟨g, 3, none⟩ = some (.string f3) ∧ Below w1.heap.size w1 w')) := Lib.hid fun w' hb => ⟨keep hb C0, keep hb C1, keep hb C2, keep hb C3, hb⟩
  have HGlt : Hid (g < w1.heap.size) := Lib.hid (lt_of_cell C0)
  clear C0 C1 C2 C3
  have Zd : Hid (∀ w9, Below ((w1.alloc (.cells #[.string ⟨#[]⟩, .string ⟨#[]⟩, .string ⟨#[]⟩, .string ⟨#[]⟩, .int .i64 0, .int .i64 0, .int .i64 0, .slice none 0 0] 24)).drew).heap.size ((w1.alloc (.cells #[.string ⟨#[]⟩, .string ⟨#[]⟩, .string ⟨#[]⟩, .string ⟨#[]⟩, .int .i64 0, .int .i64 0, .int .i64 0, .slice none 0 0] 24)).drew) w9 → Z8 w9 w1.heap.size ⟨#[]⟩ ⟨#[]⟩ ⟨#[]⟩ ⟨#[]⟩ 0 0 0 (.slice none 0 0)) := Lib.hid fun w9 hb => z8_keep hb (z8_keep (b_drew (Below.refl _ _)) (z8_new w1 24 ⟨#[]⟩ ⟨#[]⟩ ⟨#[]⟩ ⟨#[]⟩ 0 0 0 (.slice none 0 0)))
  have WA : Hid (Below w1.heap.size w1 ((w1.alloc (.cells #[.string ⟨#[]⟩, .string ⟨#[]⟩, .string ⟨#[]⟩, .string ⟨#[]⟩, .int .i64 0, .int .i64 0, .int .i64 0, .slice none 0 0] 24)).drew)) := Lib.hid (b_drew (b_alloc (Below.refl _ _) _))
  have WB : Hid (Below w1.heap.size w1 w1.drew) := Lib.hid (b_drew (Below.refl _ _))
  have SA : Hid (((w1.alloc (.cells #[.string ⟨#[]⟩, .string ⟨#[]⟩, .string ⟨#[]⟩, .string ⟨#[]⟩, .int .i64 0, .int .i64 0, .int .i64 0, .slice none 0 0] 24)).drew).heap.size = w1.heap.size + 1) := Lib.hid (by simp)
  · subst hr0
    rw [hr] at *
    rw [if_pos rfl] at hsg
    rw [hsg] at CL1
    go_wp2_with fail
    go_region_held3 (fun w' => w'.cell? ⟨g, 0, none⟩ = some (.string f0) ∧ w'.cell? ⟨g, 1, none⟩ = some (.string f1) ∧ w'.cell? ⟨g, 2, none⟩ = some (.string f2) ∧ w'.cell? ⟨g, 3, none⟩ = some (.string f3) ∧ Below w1.heap.size w1 w')
      (with_reducible first
        | exact KP.out _ WA.out
        | exact KP.out _ WB.out
        | exact KP.out _ hb9
        | exact KP.out _ (b_alloc hb9 _)
        | exact KP.out _ (b_set8 hb9 (Nat.le_refl _) _ _ _ _ _ _ _ _)
        | exact KP.out _ (b_set8 (b_alloc hb9 _) hb9.size _ _ _ _ _ _ _ _)
        | assumption)
      ((first
        | (go_at_call 39; (with_reducible refine (CL1.out _ WA.out).mono ?_); rintro e w9 ⟨⟨Av, cv, rfl, hv⟩, hb9'⟩; have HV := Lib.hid hv; clear hv; have hb9 := b_next WA.out hb9'; obtain ⟨⟨y0, y1, y2, y3, y4, y5, y6, y7⟩, fr⟩ := Zd.out _ hb9'; have z0 := fr 0; have z1 := fr 1; have z2 := fr 2; have z3 := fr 3; have z4 := fr 4; have z5 := fr 5; have z6 := fr 6; have z7 := fr 7; clear fr)
        | (go_at_call 39; (with_reducible refine (CL1.out _ WB.out).mono ?_); rintro e w9 ⟨⟨Av, cv, rfl, hv⟩, hb9'⟩; have HV := Lib.hid hv; clear hv; have hb9 := b_next WB.out hb9')))
    · have Z6 := Lib.hid (z8_new w9 24 f0 f1 f2 f3 0 0 0 (.slice Av 0 cv))
      have B6 := Lib.hid (b_alloc hb9 (.cells #[.string f0, .string f1, .string f2, .string f3, .int .i64 0, .int .i64 0, .int .i64 0, .slice Av 0 cv] 24))
      have K6 : Hid (∀ W : World, (∀ a u, w1.heap.size ≤ a.block → a.block ≠ w9.heap.size → (w9.alloc (.cells #[.string f0, .string f1, .string f2, .string f3, .int .i64 0, .int .i64 0, .int .i64 0, .slice Av 0 cv] 24)).cell? a = some u → W.cell? a = some u) → SL W (.slice Av 0 cv) L) := Lib.hid fun W h => HV.out W fun a u ha hc => h a u (by first | exact ha | (have q := ha; simp at q; omega)) (by have := lt_of_cell hc; omega) (keep (b_alloc (Below.refl _ _) _) hc)
      have hbg : Hid (w1.heap.size ≤ w9.heap.size) := Lib.hid hb9.size
      rename_i hH
      clear HV hH hb9 hb9' KP Zd WA WB SA CL1 CL SP hsl
      revert hbg K6 B6 Z6
      generalize w9.alloc (.cells #[.string f0, .string f1, .string f2, .string f3, .int .i64 0, .int .i64 0, .int .i64 0, .slice Av 0 cv] 24) = W6
      generalize w9.heap.size = b
      intro Z6 B6 K6 hbg
      have hbw := Lib.hid (b_next W1.out B6.out)
      have HNB : Hid (n0 ≠ b) := Lib.hid (by have h1 := lt_of_cell Z1.out.n8.c0; have h2 := hbg.out; simp only at h1; omega)
      have HNL : Hid (n0 < w1.heap.size) := Lib.hid (lt_of_cell Z1.out.n8.c0)
      have HGB : Hid (g ≠ b) := Lib.hid (by have h1 := HGlt.out; have h2 := hbg.out; omega)
      have HWB : Hid (w.heap.size ≤ b) := Lib.hid (by have h1 := W1.out.size; have h2 := hbg.out; omega)
      have HBL : Hid (b < W6.heap.size) := Lib.hid (lt_of_cell Z6.out.n8.c0)
      obtain ⟨bb, hbb⟩ : ∃ bb, bb = W6.heap.size := ⟨_, rfl⟩
      obtain ⟨P7, hP7⟩ : ∃ P7, P7 = W6.alloc (.cells #[.pointer (some ⟨b, 4, none⟩), .pointer (some ⟨b, 5, none⟩), .pointer (some ⟨b, 6, none⟩)] 102) := ⟨_, rfl⟩
      have HBB : Hid (bb ≠ b) := Lib.hid (by have h1 := HBL.out; omega)
      have b7 : Below W6.heap.size W6 P7 := by rw [hP7]; exact b_alloc (Below.refl _ _) _
      have C0 : Hid (P7.cell? ⟨bb, 0, none⟩ = some (.pointer (some ⟨b, 4, none⟩))) := Lib.hid (by subst hP7; subst hbb; simp)
      have C1 : Hid (P7.cell? ⟨bb, 1, none⟩ = some (.pointer (some ⟨b, 5, none⟩))) := Lib.hid (by subst hP7; subst hbb; simp)
      have C2 : Hid (P7.cell? ⟨bb, 2, none⟩ = some (.pointer (some ⟨b, 6, none⟩))) := Lib.hid (by subst hP7; subst hbb; simp)
      have G4 := Lib.hid (keep b7 (keep B6.out K4.out)); have G5 := Lib.hid (keep b7 (keep B6.out K5.out)); have G6 := Lib.hid (keep b7 (keep B6.out K6'.out))
      have ZS := Lib.hid (z8_keep b7 Z6.out); have NS := Lib.hid (z8_keep b7 (z8_keep B6.out Z1.out)); have BS := Lib.hid (b_next hbw.out b7)
      have K7 : Hid (∀ W : World, (∀ a u, w1.heap.size ≤ a.block → a.block ≠ b → (P7).cell? a = some u → W.cell? a = some u) → SL W (.slice Av 0 cv) L) := Lib.hid fun W h => K6.out W fun a u h1 ha hc => h a u h1 ha (keep b7 hc)
      clear b7 K6 B6 Z6
      go_wp2_with fail
      rw [← hbb, ← hP7]
      clear hbb hP7
      go_loopw [42] (fun t wr => ∃ k : Nat, k ≤ 3 ∧ t = .int .i64 k ∧ ∃ x y z : Int, ParI f4 f5 f6 k x y z ∧ Z8 wr b f0 f1 f2 f3 x y z (.slice Av 0 cv) ∧ Z8 wr n0 ⟨#[]⟩ ⟨#[]⟩ ⟨#[]⟩ ⟨#[]⟩ 0 0 0 (.slice none 0 0) ∧ FarEq b P7 wr ∧ Below w.heap.size w wr) (fun t _ => 3 - (intOf t).toNat)
      case atStart => exact ⟨0, by decide, rfl, 0, 0, 0, ⟨rfl, rfl, rfl⟩, ZS.out, NS.out, fun _ _ _ h => h, BS.out⟩
      case round =>
        obtain ⟨k, hk, rfl, x, y, z, hp, hz, hn, hfar, hbl⟩ := hrel
        have HP := Lib.hid hp; have HZ := Lib.hid hz; have HN := Lib.hid hn; have HF := Lib.hid hfar; have HB := Lib.hid hbl
        clear hp hz hn hfar hbl
        rcases (show k = 0 ∨ k = 1 ∨ k = 2 ∨ k = 3 by omega) with rfl | rfl | rfl | rfl
        · have cp := HF.out ⟨bb, 0, none⟩ _ HBB.out C0.out; have cf := HF.out ⟨g, 4, none⟩ _ HGB.out G4.out
          have NCi := Lib.hid (NC.out f4 hs4.out wr HB.out)
          have kk : ((0 : Nat) : Int) < 3 := by decide
          go_wp2_with fail
          (with_reducible refine NCi.out.mono ?_); rintro e w8 ⟨hn, hb⟩
          have B8 := Lib.hid (b_next HB.out hb); have Z8b := Lib.hid (z8_keep hb HZ.out); have Z8n := Lib.hid (z8_keep hb HN.out); have F8 := Lib.hid (far_keep HF.out hb)
          clear hb
          rcases hn with ⟨m, hm, rfl⟩ | ⟨hm, v, rfl⟩
          · have HM := Lib.hid hm; clear hm
            obtain ⟨⟨y0, y1, y2, y3, y4, y5, y6, y7⟩, fr⟩ := Z8b.out; have z0 := fr 0; have z1 := fr 1; have z2 := fr 2; have z3 := fr 3; have z4 := fr 4; have z5 := fr 5; have z6 := fr 6; have z7 := fr 7; clear fr
            go_wp2_with fail
            refine ⟨⟨1, by decide, by go_num, m, y, z, ?_, (z8_num Z8b.out 0 m).1 rfl, z8_far HNB.out Z8n.out _ _, far_set F8.out _ _, b_set B8.out HWB.out _⟩, by simp [intOf]⟩
            have hp := HP.out; unfold ParI at hp ⊢; have hm := HM.out; simp at hp ⊢; simp [hm, hp]
          · have HM := Lib.hid hm; clear hm
            obtain ⟨⟨y0, y1, y2, y3, y4, y5, y6, y7⟩, fr⟩ := Z8n.out; have z0 := fr 0; have z1 := fr 1; have z2 := fr 2; have z3 := fr 3; have z4 := fr 4; have z5 := fr 5; have z6 := fr 6; have z7 := fr 7; clear fr
            go_wp2_with fail
            have ZR := (z8_set Z8n.out ⟨#[]⟩ ⟨#[]⟩ ⟨#[]⟩ ⟨#[]⟩ 0 0 0 (.slice none 0 0)).n8
            refine bodyPost_ret (v := .tuple #[zp, .int .i64 5]) (by simp [results, Tryz.results12, go_sem, ZR.c0, ZR.c1, ZR.c2, ZR.c3, ZR.c4, ZR.c5, ZR.c6, ZR.c7]) rfl ⟨?_, ?_⟩
            · exact Or.inl ⟨5, by decide, rfl, fun x y z h4 h5 h6 => by have hm := HM.out; simp_all⟩
            · exact b_set8 B8.out (Nat.le_of_eq HN0.out.symm) _ _ _ _ _ _ _ _
        · have cp := HF.out ⟨bb, 1, none⟩ _ HBB.out C1.out; have cf := HF.out ⟨g, 5, none⟩ _ HGB.out G5.out
          have NCi := Lib.hid (NC.out f5 hs5.out wr HB.out)
          have kk : ((1 : Nat) : Int) < 3 := by decide
          go_wp2_with fail
          (with_reducible refine NCi.out.mono ?_); rintro e w8 ⟨hn, hb⟩
          have B8 := Lib.hid (b_next HB.out hb); have Z8b := Lib.hid (z8_keep hb HZ.out); have Z8n := Lib.hid (z8_keep hb HN.out); have F8 := Lib.hid (far_keep HF.out hb)
          clear hb
          rcases hn with ⟨m, hm, rfl⟩ | ⟨hm, v, rfl⟩
          · have HM := Lib.hid hm; clear hm
            obtain ⟨⟨y0, y1, y2, y3, y4, y5, y6, y7⟩, fr⟩ := Z8b.out; have z0 := fr 0; have z1 := fr 1; have z2 := fr 2; have z3 := fr 3; have z4 := fr 4; have z5 := fr 5; have z6 := fr 6; have z7 := fr 7; clear fr
            go_wp2_with fail
            refine ⟨⟨2, by decide, by go_num, x, m, z, ?_, (z8_num Z8b.out 1 m).2.1 rfl, z8_far HNB.out Z8n.out _ _, far_set F8.out _ _, b_set B8.out HWB.out _⟩, by simp [intOf]⟩
            have hp := HP.out; unfold ParI at hp ⊢; have hm := HM.out; simp at hp ⊢; simp [hm, hp]
          · have HM := Lib.hid hm; clear hm
            obtain ⟨⟨y0, y1, y2, y3, y4, y5, y6, y7⟩, fr⟩ := Z8n.out; have z0 := fr 0; have z1 := fr 1; have z2 := fr 2; have z3 := fr 3; have z4 := fr 4; have z5 := fr 5; have z6 := fr 6; have z7 := fr 7; clear fr
            go_wp2_with fail
            have ZR := (z8_set Z8n.out ⟨#[]⟩ ⟨#[]⟩ ⟨#[]⟩ ⟨#[]⟩ 0 0 0 (.slice none 0 0)).n8
            refine bodyPost_ret (v := .tuple #[zp, .int .i64 5]) (by simp [results, Tryz.results12, go_sem, ZR.c0, ZR.c1, ZR.c2, ZR.c3, ZR.c4, ZR.c5, ZR.c6, ZR.c7]) rfl ⟨?_, ?_⟩
            · exact Or.inl ⟨5, by decide, rfl, fun x y z h4 h5 h6 => by have hm := HM.out; simp_all⟩
            · exact b_set8 B8.out (Nat.le_of_eq HN0.out.symm) _ _ _ _ _ _ _ _
        · have cp := HF.out ⟨bb, 2, none⟩ _ HBB.out C2.out; have cf := HF.out ⟨g, 6, none⟩ _ HGB.out G6.out
          have NCi := Lib.hid (NC.out f6 hs6.out wr HB.out)
          have kk : ((2 : Nat) : Int) < 3 := by decide
          go_wp2_with fail
          (with_reducible refine NCi.out.mono ?_); rintro e w8 ⟨hn, hb⟩
          have B8 := Lib.hid (b_next HB.out hb); have Z8b := Lib.hid (z8_keep hb HZ.out); have Z8n := Lib.hid (z8_keep hb HN.out); have F8 := Lib.hid (far_keep HF.out hb)
          clear hb
          rcases hn with ⟨m, hm, rfl⟩ | ⟨hm, v, rfl⟩
          · have HM := Lib.hid hm; clear hm
            obtain ⟨⟨y0, y1, y2, y3, y4, y5, y6, y7⟩, fr⟩ := Z8b.out; have z0 := fr 0; have z1 := fr 1; have z2 := fr 2; have z3 := fr 3; have z4 := fr 4; have z5 := fr 5; have z6 := fr 6; have z7 := fr 7; clear fr
            go_wp2_with fail
            refine ⟨⟨3, by decide, by go_num, x, y, m, ?_, (z8_num Z8b.out 2 m).2.2 rfl, z8_far HNB.out Z8n.out _ _, far_set F8.out _ _, b_set B8.out HWB.out _⟩, by simp [intOf]⟩
            have hp := HP.out; unfold ParI at hp ⊢; have hm := HM.out; simp at hp ⊢; simp [hm, hp]
          · have HM := Lib.hid hm; clear hm
            obtain ⟨⟨y0, y1, y2, y3, y4, y5, y6, y7⟩, fr⟩ := Z8n.out; have z0 := fr 0; have z1 := fr 1; have z2 := fr 2; have z3 := fr 3; have z4 := fr 4; have z5 := fr 5; have z6 := fr 6; have z7 := fr 7; clear fr
            go_wp2_with fail
            have ZR := (z8_set Z8n.out ⟨#[]⟩ ⟨#[]⟩ ⟨#[]⟩ ⟨#[]⟩ 0 0 0 (.slice none 0 0)).n8
            refine bodyPost_ret (v := .tuple #[zp, .int .i64 5]) (by simp [results, Tryz.results12, go_sem, ZR.c0, ZR.c1, ZR.c2, ZR.c3, ZR.c4, ZR.c5, ZR.c6, ZR.c7]) rfl ⟨?_, ?_⟩
            · exact Or.inl ⟨5, by decide, rfl, fun x y z h4 h5 h6 => by have hm := HM.out; simp_all⟩
            · exact b_set8 B8.out (Nat.le_of_eq HN0.out.symm) _ _ _ _ _ _ _ _
        · have kk : ¬ ((3 : Nat) : Int) < 3 := by decide
          have CKw := Lib.hid (checkC (c := f0) (k := f1) (f := f2) (t := f3) (off := x) (sp := y) (h := z) (K7.out wr fun a u _ ha hc => HF.out a u ha hc) wr (Below.refl _ _))
          obtain ⟨E, hE⟩ : ∃ E, E = planE f0 f1 f2 f3 x y z L.length (rtF L) := ⟨_, rfl⟩
          have HE := Lib.hid hE
          have HP3 : Hid (NumT.numB f4.data.toList = some x ∧ NumT.numB f5.data.toList = some y ∧ NumT.numB f6.data.toList = some z) := Lib.hid (by have hp := HP.out; unfold ParI at hp; simpa using hp)
          have CK2 : Hid (Calls Tryz.prog 17 #[plan f0 f1 f2 f3 x y z (.slice Av 0 cv)] wr fun e w' => e = .returned (.int .i64 E) ∧ Below wr.heap.size wr w') := Lib.hid (by rw [hE]; exact CKw.out)
          clear hE CKw
          obtain ⟨⟨y0, y1, y2, y3, y4, y5, y6, y7⟩, fr⟩ := HZ.out; have z0 := fr 0; have z1 := fr 1; have z2 := fr 2; have z3 := fr 3; have z4 := fr 4; have z5 := fr 5; have z6 := fr 6; have z7 := fr 7; clear fr
          go_wp2_with fail
          (with_reducible refine CK2.out.mono ?_); rintro e w8 ⟨rfl, hb⟩
          have B8 := Lib.hid (b_next HB.out hb); have Z8b := Lib.hid (z8_keep hb HZ.out); have Z8n := Lib.hid (z8_keep hb HN.out); have F8 := Lib.hid (far_keep HF.out hb)
          clear hb y0 y1 y2 y3 y4 y5 y6 y7 z0 z1 z2 z3 z4 z5 z6 z7
          by_cases h0 : E = 0
          · have HE0 : Hid (planE f0 f1 f2 f3 x y z L.length (rtF L) = 0) := Lib.hid (by rw [← HE.out]; exact h0)
            subst h0
            obtain ⟨⟨y0, y1, y2, y3, y4, y5, y6, y7⟩, fr⟩ := Z8b.out; have z0 := fr 0; have z1 := fr 1; have z2 := fr 2; have z3 := fr 3; have z4 := fr 4; have z5 := fr 5; have z6 := fr 6; have z7 := fr 7; clear fr
            obtain ⟨⟨p0, p1, p2, p3, p4, p5, p6, p7⟩, fr⟩ := Z8n.out; have q0 := fr 0; have q1 := fr 1; have q2 := fr 2; have q3 := fr 3; have q4 := fr 4; have q5 := fr 5; have q6 := fr 6; have q7 := fr 7; clear fr
            go_wp2_with fail
            have ZR := (z8_set Z8n.out f0 f1 f2 f3 x y z (.slice Av 0 cv)).n8
            refine bodyPost_ret (v := .tuple #[plan f0 f1 f2 f3 x y z (.slice Av 0 cv), .int .i64 0]) (by simp [results, Tryz.results12, go_sem, ZR.c0, ZR.c1, ZR.c2, ZR.c3, ZR.c4, ZR.c5, ZR.c6, ZR.c7]) rfl ⟨?_, ?_⟩
            · exact Or.inr ⟨x, y, z, _, HP3.out.1, HP3.out.2.1, HP3.out.2.2, HE0.out, rfl, fun W hW => K7.out W fun a u h1 ha hc => hW a u (Nat.le_trans W1.out.size h1) (far8 (by have h2 := HNL.out; omega) (F8.out a u ha hc) _ _ _ _ _ _ _ _)⟩
            · exact b_set8 B8.out (Nat.le_of_eq HN0.out.symm) _ _ _ _ _ _ _ _
          · have h1 : (E == 0) = false := by simpa using h0
            obtain ⟨⟨y0, y1, y2, y3, y4, y5, y6, y7⟩, fr⟩ := Z8n.out; have z0 := fr 0; have z1 := fr 1; have z2 := fr 2; have z3 := fr 3; have z4 := fr 4; have z5 := fr 5; have z6 := fr 6; have z7 := fr 7; clear fr
            go_wp2_with fail
            have ZR := (z8_set Z8n.out ⟨#[]⟩ ⟨#[]⟩ ⟨#[]⟩ ⟨#[]⟩ 0 0 0 (.slice none 0 0)).n8
            refine bodyPost_ret (v := .tuple #[zp, .int .i64 E]) (by simp [results, Tryz.results12, go_sem, ZR.c0, ZR.c1, ZR.c2, ZR.c3, ZR.c4, ZR.c5, ZR.c6, ZR.c7]) rfl ⟨?_, ?_⟩
            · exact Or.inl ⟨E, h0, rfl, fun x' y' z' h4 h5 h6 => by
                obtain ⟨q4, q5, q6⟩ := HP3.out
                rw [q4] at h4; rw [q5] at h5; rw [q6] at h6
                cases h4; cases h5; cases h6
                rw [← HE.out]; exact h0⟩
            · exact b_set8 B8.out (Nat.le_of_eq HN0.out.symm) _ _ _ _ _ _ _ _
    · have Z6 := Lib.hid (z8_set (Zd.out _ hb9') f0 f1 f2 f3 0 0 0 (.slice Av 0 cv))
      have B6 := Lib.hid (b_set8 hb9 (Nat.le_refl _) (.string f0) (.string f1) (.string f2) (.string f3) (.int .i64 0) (.int .i64 0) (.int .i64 0) (.slice Av 0 cv))
      have K6 : Hid (∀ W : World, (∀ a u, w1.heap.size ≤ a.block → a.block ≠ w1.heap.size → (((((((((w9.setCell ⟨w1.heap.size, 0, none⟩ (.string f0)).setCell ⟨w1.heap.size, 1, none⟩ (.string f1)).setCell ⟨w1.heap.size, 2, none⟩ (.string f2)).setCell ⟨w1.heap.size, 3, none⟩ (.string f3)).setCell ⟨w1.heap.size, 4, none⟩ (.int .i64 0)).setCell ⟨w1.heap.size, 5, none⟩ (.int .i64 0)).setCell ⟨w1.heap.size, 6, none⟩ (.int .i64 0)).setCell ⟨w1.heap.size, 7, none⟩ (.slice Av 0 cv))).cell? a = some u → W.cell? a = some u) → SL W (.slice Av 0 cv) L) := Lib.hid fun W h => HV.out W fun a u ha hc => h a u (by rw [SA.out] at ha; omega) (by rw [SA.out] at ha; omega) (far8 (by rw [SA.out] at ha; omega) hc _ _ _ _ _ _ _ _)
      rename_i hH
      clear HV hH hb9 KP WA WB CL1 CL SP hsl hb9' SA Zd y0 y1 y2 y3 y4 y5 y6 y7 z0 z1 z2 z3 z4 z5 z6 z7
      generalize ((((((((w9.setCell ⟨w1.heap.size, 0, none⟩ (.string f0)).setCell ⟨w1.heap.size, 1, none⟩ (.string f1)).setCell ⟨w1.heap.size, 2, none⟩ (.string f2)).setCell ⟨w1.heap.size, 3, none⟩ (.string f3)).setCell ⟨w1.heap.size, 4, none⟩ (.int .i64 0)).setCell ⟨w1.heap.size, 5, none⟩ (.int .i64 0)).setCell ⟨w1.heap.size, 6, none⟩ (.int .i64 0)).setCell ⟨w1.heap.size, 7, none⟩ (.slice Av 0 cv)) = W6 at Z6 B6 K6 ⊢
      obtain ⟨b, hb⟩ : ∃ b, b = w1.heap.size := ⟨_, rfl⟩
      have hbg : Hid (w1.heap.size ≤ b) := Lib.hid (Nat.le_of_eq hb.symm)
      have K6 : Hid (∀ W : World, (∀ a u, w1.heap.size ≤ a.block → a.block ≠ b → (W6).cell? a = some u → W.cell? a = some u) → SL W (.slice Av 0 cv) L) := by rw [hb]; exact K6
      rw [← hb] at Z6 ⊢
      clear hb
      have hbw := Lib.hid (b_next W1.out B6.out)
      have HNB : Hid (n0 ≠ b) := Lib.hid (by have h1 := lt_of_cell Z1.out.n8.c0; have h2 := hbg.out; simp only at h1; omega)
      have HNL : Hid (n0 < w1.heap.size) := Lib.hid (lt_of_cell Z1.out.n8.c0)
      have HGB : Hid (g ≠ b) := Lib.hid (by have h1 := HGlt.out; have h2 := hbg.out; omega)
      have HWB : Hid (w.heap.size ≤ b) := Lib.hid (by have h1 := W1.out.size; have h2 := hbg.out; omega)
      have HBL : Hid (b < W6.heap.size) := Lib.hid (lt_of_cell Z6.out.n8.c0)
      obtain ⟨bb, hbb⟩ : ∃ bb, bb = W6.heap.size := ⟨_, rfl⟩
      obtain ⟨P7, hP7⟩ : ∃ P7, P7 = W6.alloc (.cells #[.pointer (some ⟨b, 4, none⟩), .pointer (some ⟨b, 5, none⟩), .pointer (some ⟨b, 6, none⟩)] 102) := ⟨_, rfl⟩
      have HBB : Hid (bb ≠ b) := Lib.hid (by have h1 := HBL.out; omega)
      have b7 : Below W6.heap.size W6 P7 := by rw [hP7]; exact b_alloc (Below.refl _ _) _
      have C0 : Hid (P7.cell? ⟨bb, 0, none⟩ = some (.pointer (some ⟨b, 4, none⟩))) := Lib.hid (by subst hP7; subst hbb; simp)
      have C1 : Hid (P7.cell? ⟨bb, 1, none⟩ = some (.pointer (some ⟨b, 5, none⟩))) := Lib.hid (by subst hP7; subst hbb; simp)
      have C2 : Hid (P7.cell? ⟨bb, 2, none⟩ = some (.pointer (some ⟨b, 6, none⟩))) := Lib.hid (by subst hP7; subst hbb; simp)
      have G4 := Lib.hid (keep b7 (keep B6.out K4.out)); have G5 := Lib.hid (keep b7 (keep B6.out K5.out)); have G6 := Lib.hid (keep b7 (keep B6.out K6'.out))
      have ZS := Lib.hid (z8_keep b7 Z6.out); have NS := Lib.hid (z8_keep b7 (z8_keep B6.out Z1.out)); have BS := Lib.hid (b_next hbw.out b7)
      have K7 : Hid (∀ W : World, (∀ a u, w1.heap.size ≤ a.block → a.block ≠ b → (P7).cell? a = some u → W.cell? a = some u) → SL W (.slice Av 0 cv) L) := Lib.hid fun W h => K6.out W fun a u h1 ha hc => h a u h1 ha (keep b7 hc)
      clear b7 K6 B6 Z6
      go_wp2_with fail
      rw [← hbb, ← hP7]
      clear hbb hP7
      go_loopw [42] (fun t wr => ∃ k : Nat, k ≤ 3 ∧ t = .int .i64 k ∧ ∃ x y z : Int, ParI f4 f5 f6 k x y z ∧ Z8 wr b f0 f1 f2 f3 x y z (.slice Av 0 cv) ∧ Z8 wr n0 ⟨#[]⟩ ⟨#[]⟩ ⟨#[]⟩ ⟨#[]⟩ 0 0 0 (.slice none 0 0) ∧ FarEq b P7 wr ∧ Below w.heap.size w wr) (fun t _ => 3 - (intOf t).toNat)
      case atStart => exact ⟨0, by decide, rfl, 0, 0, 0, ⟨rfl, rfl, rfl⟩, ZS.out, NS.out, fun _ _ _ h => h, BS.out⟩
      case round =>
        obtain ⟨k, hk, rfl, x, y, z, hp, hz, hn, hfar, hbl⟩ := hrel
        have HP := Lib.hid hp; have HZ := Lib.hid hz; have HN := Lib.hid hn; have HF := Lib.hid hfar; have HB := Lib.hid hbl
        clear hp hz hn hfar hbl
        rcases (show k = 0 ∨ k = 1 ∨ k = 2 ∨ k = 3 by omega) with rfl | rfl | rfl | rfl
        · have cp := HF.out ⟨bb, 0, none⟩ _ HBB.out C0.out; have cf := HF.out ⟨g, 4, none⟩ _ HGB.out G4.out
          have NCi := Lib.hid (NC.out f4 hs4.out wr HB.out)
          have kk : ((0 : Nat) : Int) < 3 := by decide
          go_wp2_with fail
          (with_reducible refine NCi.out.mono ?_); rintro e w8 ⟨hn, hb⟩
          have B8 := Lib.hid (b_next HB.out hb); have Z8b := Lib.hid (z8_keep hb HZ.out); have Z8n := Lib.hid (z8_keep hb HN.out); have F8 := Lib.hid (far_keep HF.out hb)
          clear hb
          rcases hn with ⟨m, hm, rfl⟩ | ⟨hm, v, rfl⟩
          · have HM := Lib.hid hm; clear hm
            obtain ⟨⟨y0, y1, y2, y3, y4, y5, y6, y7⟩, fr⟩ := Z8b.out; have z0 := fr 0; have z1 := fr 1; have z2 := fr 2; have z3 := fr 3; have z4 := fr 4; have z5 := fr 5; have z6 := fr 6; have z7 := fr 7; clear fr
            go_wp2_with fail
            refine ⟨⟨1, by decide, by go_num, m, y, z, ?_, (z8_num Z8b.out 0 m).1 rfl, z8_far HNB.out Z8n.out _ _, far_set F8.out _ _, b_set B8.out HWB.out _⟩, by simp [intOf]⟩
            have hp := HP.out; unfold ParI at hp ⊢; have hm := HM.out; simp at hp ⊢; simp [hm, hp]
          · have HM := Lib.hid hm; clear hm
            obtain ⟨⟨y0, y1, y2, y3, y4, y5, y6, y7⟩, fr⟩ := Z8n.out; have z0 := fr 0; have z1 := fr 1; have z2 := fr 2; have z3 := fr 3; have z4 := fr 4; have z5 := fr 5; have z6 := fr 6; have z7 := fr 7; clear fr
            go_wp2_with fail
            have ZR := (z8_set Z8n.out ⟨#[]⟩ ⟨#[]⟩ ⟨#[]⟩ ⟨#[]⟩ 0 0 0 (.slice none 0 0)).n8
            refine bodyPost_ret (v := .tuple #[zp, .int .i64 5]) (by simp [results, Tryz.results12, go_sem, ZR.c0, ZR.c1, ZR.c2, ZR.c3, ZR.c4, ZR.c5, ZR.c6, ZR.c7]) rfl ⟨?_, ?_⟩
            · exact Or.inl ⟨5, by decide, rfl, fun x y z h4 h5 h6 => by have hm := HM.out; simp_all⟩
            · exact b_set8 B8.out (Nat.le_of_eq HN0.out.symm) _ _ _ _ _ _ _ _
        · have cp := HF.out ⟨bb, 1, none⟩ _ HBB.out C1.out; have cf := HF.out ⟨g, 5, none⟩ _ HGB.out G5.out
          have NCi := Lib.hid (NC.out f5 hs5.out wr HB.out)
          have kk : ((1 : Nat) : Int) < 3 := by decide
          go_wp2_with fail
          (with_reducible refine NCi.out.mono ?_); rintro e w8 ⟨hn, hb⟩
          have B8 := Lib.hid (b_next HB.out hb); have Z8b := Lib.hid (z8_keep hb HZ.out); have Z8n := Lib.hid (z8_keep hb HN.out); have F8 := Lib.hid (far_keep HF.out hb)
          clear hb
          rcases hn with ⟨m, hm, rfl⟩ | ⟨hm, v, rfl⟩
          · have HM := Lib.hid hm; clear hm
            obtain ⟨⟨y0, y1, y2, y3, y4, y5, y6, y7⟩, fr⟩ := Z8b.out; have z0 := fr 0; have z1 := fr 1; have z2 := fr 2; have z3 := fr 3; have z4 := fr 4; have z5 := fr 5; have z6 := fr 6; have z7 := fr 7; clear fr
            go_wp2_with fail
            refine ⟨⟨2, by decide, by go_num, x, m, z, ?_, (z8_num Z8b.out 1 m).2.1 rfl, z8_far HNB.out Z8n.out _ _, far_set F8.out _ _, b_set B8.out HWB.out _⟩, by simp [intOf]⟩
            have hp := HP.out; unfold ParI at hp ⊢; have hm := HM.out; simp at hp ⊢; simp [hm, hp]
          · have HM := Lib.hid hm; clear hm
            obtain ⟨⟨y0, y1, y2, y3, y4, y5, y6, y7⟩, fr⟩ := Z8n.out; have z0 := fr 0; have z1 := fr 1; have z2 := fr 2; have z3 := fr 3; have z4 := fr 4; have z5 := fr 5; have z6 := fr 6; have z7 := fr 7; clear fr
            go_wp2_with fail
            have ZR := (z8_set Z8n.out ⟨#[]⟩ ⟨#[]⟩ ⟨#[]⟩ ⟨#[]⟩ 0 0 0 (.slice none 0 0)).n8
            refine bodyPost_ret (v := .tuple #[zp, .int .i64 5]) (by simp [results, Tryz.results12, go_sem, ZR.c0, ZR.c1, ZR.c2, ZR.c3, ZR.c4, ZR.c5, ZR.c6, ZR.c7]) rfl ⟨?_, ?_⟩
            · exact Or.inl ⟨5, by decide, rfl, fun x y z h4 h5 h6 => by have hm := HM.out; simp_all⟩
            · exact b_set8 B8.out (Nat.le_of_eq HN0.out.symm) _ _ _ _ _ _ _ _
        · have cp := HF.out ⟨bb, 2, none⟩ _ HBB.out C2.out; have cf := HF.out ⟨g, 6, none⟩ _ HGB.out G6.out
          have NCi := Lib.hid (NC.out f6 hs6.out wr HB.out)
          have kk : ((2 : Nat) : Int) < 3 := by decide
          go_wp2_with fail
          (with_reducible refine NCi.out.mono ?_); rintro e w8 ⟨hn, hb⟩
          have B8 := Lib.hid (b_next HB.out hb); have Z8b := Lib.hid (z8_keep hb HZ.out); have Z8n := Lib.hid (z8_keep hb HN.out); have F8 := Lib.hid (far_keep HF.out hb)
          clear hb
          rcases hn with ⟨m, hm, rfl⟩ | ⟨hm, v, rfl⟩
          · have HM := Lib.hid hm; clear hm
            obtain ⟨⟨y0, y1, y2, y3, y4, y5, y6, y7⟩, fr⟩ := Z8b.out; have z0 := fr 0; have z1 := fr 1; have z2 := fr 2; have z3 := fr 3; have z4 := fr 4; have z5 := fr 5; have z6 := fr 6; have z7 := fr 7; clear fr
            go_wp2_with fail
            refine ⟨⟨3, by decide, by go_num, x, y, m, ?_, (z8_num Z8b.out 2 m).2.2 rfl, z8_far HNB.out Z8n.out _ _, far_set F8.out _ _, b_set B8.out HWB.out _⟩, by simp [intOf]⟩
            have hp := HP.out; unfold ParI at hp ⊢; have hm := HM.out; simp at hp ⊢; simp [hm, hp]
          · have HM := Lib.hid hm; clear hm
            obtain ⟨⟨y0, y1, y2, y3, y4, y5, y6, y7⟩, fr⟩ := Z8n.out; have z0 := fr 0; have z1 := fr 1; have z2 := fr 2; have z3 := fr 3; have z4 := fr 4; have z5 := fr 5; have z6 := fr 6; have z7 := fr 7; clear fr
            go_wp2_with fail
            have ZR := (z8_set Z8n.out ⟨#[]⟩ ⟨#[]⟩ ⟨#[]⟩ ⟨#[]⟩ 0 0 0 (.slice none 0 0)).n8
            refine bodyPost_ret (v := .tuple #[zp, .int .i64 5]) (by simp [results, Tryz.results12, go_sem, ZR.c0, ZR.c1, ZR.c2, ZR.c3, ZR.c4, ZR.c5, ZR.c6, ZR.c7]) rfl ⟨?_, ?_⟩
            · exact Or.inl ⟨5, by decide, rfl, fun x y z h4 h5 h6 => by have hm := HM.out; simp_all⟩
            · exact b_set8 B8.out (Nat.le_of_eq HN0.out.symm) _ _ _ _ _ _ _ _
        · have kk : ¬ ((3 : Nat) : Int) < 3 := by decide
          have CKw := Lib.hid (checkC (c := f0) (k := f1) (f := f2) (t := f3) (off := x) (sp := y) (h := z) (K7.out wr fun a u _ ha hc => HF.out a u ha hc) wr (Below.refl _ _))
          obtain ⟨E, hE⟩ : ∃ E, E = planE f0 f1 f2 f3 x y z L.length (rtF L) := ⟨_, rfl⟩
          have HE := Lib.hid hE
          have HP3 : Hid (NumT.numB f4.data.toList = some x ∧ NumT.numB f5.data.toList = some y ∧ NumT.numB f6.data.toList = some z) := Lib.hid (by have hp := HP.out; unfold ParI at hp; simpa using hp)
          have CK2 : Hid (Calls Tryz.prog 17 #[plan f0 f1 f2 f3 x y z (.slice Av 0 cv)] wr fun e w' => e = .returned (.int .i64 E) ∧ Below wr.heap.size wr w') := Lib.hid (by rw [hE]; exact CKw.out)
          clear hE CKw
          obtain ⟨⟨y0, y1, y2, y3, y4, y5, y6, y7⟩, fr⟩ := HZ.out; have z0 := fr 0; have z1 := fr 1; have z2 := fr 2; have z3 := fr 3; have z4 := fr 4; have z5 := fr 5; have z6 := fr 6; have z7 := fr 7; clear fr
          go_wp2_with fail
          (with_reducible refine CK2.out.mono ?_); rintro e w8 ⟨rfl, hb⟩
          have B8 := Lib.hid (b_next HB.out hb); have Z8b := Lib.hid (z8_keep hb HZ.out); have Z8n := Lib.hid (z8_keep hb HN.out); have F8 := Lib.hid (far_keep HF.out hb)
          clear hb y0 y1 y2 y3 y4 y5 y6 y7 z0 z1 z2 z3 z4 z5 z6 z7
          by_cases h0 : E = 0
          · have HE0 : Hid (planE f0 f1 f2 f3 x y z L.length (rtF L) = 0) := Lib.hid (by rw [← HE.out]; exact h0)
            subst h0
            obtain ⟨⟨y0, y1, y2, y3, y4, y5, y6, y7⟩, fr⟩ := Z8b.out; have z0 := fr 0; have z1 := fr 1; have z2 := fr 2; have z3 := fr 3; have z4 := fr 4; have z5 := fr 5; have z6 := fr 6; have z7 := fr 7; clear fr
            obtain ⟨⟨p0, p1, p2, p3, p4, p5, p6, p7⟩, fr⟩ := Z8n.out; have q0 := fr 0; have q1 := fr 1; have q2 := fr 2; have q3 := fr 3; have q4 := fr 4; have q5 := fr 5; have q6 := fr 6; have q7 := fr 7; clear fr
            go_wp2_with fail
            have ZR := (z8_set Z8n.out f0 f1 f2 f3 x y z (.slice Av 0 cv)).n8
            refine bodyPost_ret (v := .tuple #[plan f0 f1 f2 f3 x y z (.slice Av 0 cv), .int .i64 0]) (by simp [results, Tryz.results12, go_sem, ZR.c0, ZR.c1, ZR.c2, ZR.c3, ZR.c4, ZR.c5, ZR.c6, ZR.c7]) rfl ⟨?_, ?_⟩
            · exact Or.inr ⟨x, y, z, _, HP3.out.1, HP3.out.2.1, HP3.out.2.2, HE0.out, rfl, fun W hW => K7.out W fun a u h1 ha hc => hW a u (Nat.le_trans W1.out.size h1) (far8 (by have h2 := HNL.out; omega) (F8.out a u ha hc) _ _ _ _ _ _ _ _)⟩
            · exact b_set8 B8.out (Nat.le_of_eq HN0.out.symm) _ _ _ _ _ _ _ _
          · have h1 : (E == 0) = false := by simpa using h0
            obtain ⟨⟨y0, y1, y2, y3, y4, y5, y6, y7⟩, fr⟩ := Z8n.out; have z0 := fr 0; have z1 := fr 1; have z2 := fr 2; have z3 := fr 3; have z4 := fr 4; have z5 := fr 5; have z6 := fr 6; have z7 := fr 7; clear fr
            go_wp2_with fail
            have ZR := (z8_set Z8n.out ⟨#[]⟩ ⟨#[]⟩ ⟨#[]⟩ ⟨#[]⟩ 0 0 0 (.slice none 0 0)).n8
            refine bodyPost_ret (v := .tuple #[zp, .int .i64 E]) (by simp [results, Tryz.results12, go_sem, ZR.c0, ZR.c1, ZR.c2, ZR.c3, ZR.c4, ZR.c5, ZR.c6, ZR.c7]) rfl ⟨?_, ?_⟩
            · exact Or.inl ⟨E, h0, rfl, fun x' y' z' h4 h5 h6 => by
                obtain ⟨q4, q5, q6⟩ := HP3.out
                rw [q4] at h4; rw [q5] at h5; rw [q6] at h6
                cases h4; cases h5; cases h6
                rw [← HE.out]; exact h0⟩
            · exact b_set8 B8.out (Nat.le_of_eq HN0.out.symm) _ _ _ _ _ _ _ _
end Pt
end Go.Proofs.YtdlbkpgjbjlgiaaGreatDoor
namespace Go.Proofs.YtdlbkpgjbjlgiaaGreatDoor
open Go.RowKit
namespace Pt
open Kit Chart Route Plan Name
set_option maxRecDepth 100000 in
set_option maxHeartbeats 8000000 in
theorem parse_r (s : ByteArray) (w : World) (h : ¬ 8192 < s.size) (F : List ByteArray) (r : Nat) (hr0 : ¬ r = 0) (hr : F.length = 7 + r) (hF8 : F.length ≤ 10000) (L : List ByteArray) (hL : L.length = r) (sl : Nat → Value) (hsl : Hid (∀ g, sl g = .slice (some ⟨g, if r = 0 then 0 else 7, none⟩) r r)) (hsz : Hid (∀ k, (F.getD k ⟨#[]⟩).size ≤ 2000000))
    (SP : Hid (∀ w1, Below w.heap.size w w1 → Calls Tryz.prog 38 #[.string s, .string ⟨#[32]⟩] w1 fun e w' => (∃ g, e = .returned (.slice (some ⟨g, 0, none⟩) F.length F.length) ∧ ∀ k, k < F.length → w'.cell? ⟨g, k, none⟩ = some (.string (F.getD k ⟨#[]⟩))) ∧ Below w1.heap.size w1 w'))
    (CL : Hid (∀ w1 g, (∀ k, k < F.length → w1.cell? ⟨g, k, none⟩ = some (.string (F.getD k ⟨#[]⟩))) → Calls Tryz.prog 39 #[sl g] w1 fun e w' => (∃ Av cv, e = .returned (.slice Av r cv) ∧ ∀ W : World, (∀ a u, w1.heap.size ≤ a.block → w'.cell? a = some u → W.cell? a = some u) → SL W (.slice Av r cv) L) ∧ Below w1.heap.size w1 w'))
    (NC : Hid (∀ u : ByteArray, u.size ≤ 2000000 → ∀ w', Below w.heap.size w w' → Calls Tryz.prog 40 #[.string u] w' fun e w'' => NumR u e ∧ Below w'.heap.size w' w'')) :
    Calls Tryz.prog 12 #[.string s] w fun e w' => PaR w.heap.size (F.getD 0 ⟨#[]⟩) (F.getD 1 ⟨#[]⟩) (F.getD 2 ⟨#[]⟩) (F.getD 3 ⟨#[]⟩) (F.getD 4 ⟨#[]⟩) (F.getD 5 ⟨#[]⟩) (F.getD 6 ⟨#[]⟩) L e w' ∧ Below w.heap.size w w' := by
  obtain ⟨f0, e0⟩ : ∃ f, f = F.getD 0 ⟨#[]⟩ := ⟨_, rfl⟩
  rw [← e0]; have E0 := Lib.hid e0; clear e0
  obtain ⟨f1, e1⟩ : ∃ f, f = F.getD 1 ⟨#[]⟩ := ⟨_, rfl⟩
  rw [← e1]; have E1 := Lib.hid e1; clear e1
  obtain ⟨f2, e2⟩ : ∃ f, f = F.getD 2 ⟨#[]⟩ := ⟨_, rfl⟩
  rw [← e2]; have E2 := Lib.hid e2; clear e2
  obtain ⟨f3, e3⟩ : ∃ f, f = F.getD 3 ⟨#[]⟩ := ⟨_, rfl⟩
  rw [← e3]; have E3 := Lib.hid e3; clear e3
  obtain ⟨f4, e4⟩ : ∃ f, f = F.getD 4 ⟨#[]⟩ := ⟨_, rfl⟩
  rw [← e4]; have E4 := Lib.hid e4; clear e4
  obtain ⟨f5, e5⟩ : ∃ f, f = F.getD 5 ⟨#[]⟩ := ⟨_, rfl⟩
  rw [← e5]; have E5 := Lib.hid e5; clear e5
  obtain ⟨f6, e6⟩ : ∃ f, f = F.getD 6 ⟨#[]⟩ := ⟨_, rfl⟩
  rw [← e6]; have E6 := Lib.hid e6; clear e6
  have hi : ¬ 8192 < (s.size : Int) := by omega
  have hf : ¬ (F.length : Int) < 7 := by omega
  have Z0 := Lib.hid (z8_new w 24 ⟨#[]⟩ ⟨#[]⟩ ⟨#[]⟩ ⟨#[]⟩ 0 0 0 (.slice none 0 0))
  have W0 := Lib.hid (b_alloc (Below.refl w.heap.size w) (.cells #[.string ⟨#[]⟩, .string ⟨#[]⟩, .string ⟨#[]⟩, .string ⟨#[]⟩, .int .i64 0, .int .i64 0, .int .i64 0, .slice none 0 0] 24))
  go_enter Tryz.func12, Tryz.ntmps12
  go_wp2_with fail
  obtain ⟨n0, hn0⟩ : ∃ n0, n0 = w.heap.size := ⟨_, rfl⟩
  rw [← hn0] at Z0 ⊢
  have HN0 := Lib.hid hn0; clear hn0
  (with_reducible refine (SP.out _ W0.out).mono ?_); rintro e w1 ⟨⟨g, rfl, hc⟩, hb⟩
  have W1 := Lib.hid (b_next W0.out hb); have Z1 := Lib.hid (z8_keep hb Z0.out); have HC := Lib.hid hc
  clear hb hc
  have CL1 := Lib.hid fun (w2 : World) (hb : Below w1.heap.size w1 w2) => CL.out w2 g fun k hk => keep hb (HC.out k hk)
  have hsg := hsl.out g
  have C0 := HC.out 0 (by omega); have C1 := HC.out 1 (by omega); have C2 := HC.out 2 (by omega); have C3 := HC.out 3 (by omega)
  rw [← E0.out] at C0; rw [← E1.out] at C1; rw [← E2.out] at C2; rw [← E3.out] at C3
  have K4 : Hid (w1.cell? ⟨g, 4, none⟩ = some (.string f4)) := Lib.hid (by rw [E4.out]; exact HC.out 4 (by omega)); have hs4 : Hid (f4.size ≤ 2000000) := Lib.hid (by rw [E4.out]; exact hsz.out 4)
  have K5 : Hid (w1.cell? ⟨g, 5, none⟩ = some (.string f5)) := Lib.hid (by rw [E5.out]; exact HC.out 5 (by omega)); have hs5 : Hid (f5.size ≤ 2000000) := Lib.hid (by rw [E5.out]; exact hsz.out 5)
  have K6' : Hid (w1.cell? ⟨g, 6, none⟩ = some (.string f6)) := Lib.hid (by rw [E6.out]; exact HC.out 6 (by omega)); have hs6 : Hid (f6.size ≤ 2000000) := Lib.hid (by rw [E6.out]; exact hsz.out 6)
  have l0 : (0 : Int) < (F.length : Int) := by omega
  have l0n : 0 < F.length := by omega
  have l1 : (1 : Int) < (F.length : Int) := by omega
  have l2 : (2 : Int) < (F.length : Int) := by omega
  have l3 : (3 : Int) < (F.length : Int) := by omega
  have l4 : (4 : Int) < (F.length : Int) := by omega
  have l5 : (5 : Int) < (F.length : Int) := by omega
  have l6 : (6 : Int) < (F.length : Int) := by omega
  have l7 : (7 : Int) ≤ (F.length : Int) := by omega
  have hlr : (F.length : Int) - 7 = (r : Int) := by omega
  have hlr2 : F.length - 7 = r := by omega
  have KP : Hid (∀ w', Below w1.heap.size w1 w' → (w'.cell? ⟨g, 0, none⟩ = some (.string f0) ∧ w'.cell? ⟨g, 1, none⟩ = some (.string f1) ∧ w'.cell? ⟨g, 2, none⟩ = some (.string f2) ∧ w'.cell? ⟨g, 3, none⟩ = some (.string f3) ∧ Below w1.heap.size w1 w')) := Lib.hid fun w' hb => ⟨keep hb C0, keep hb C1, keep hb C2, keep hb C3, hb⟩
  have HGlt : Hid (g < w1.heap.size) := Lib.hid (lt_of_cell C0)
  clear C0 C1 C2 C3
  have Zd : Hid (∀ w9, Below ((w1.alloc (.cells #[.string ⟨#[]⟩, .string ⟨#[]⟩, .string ⟨#[]⟩, .string ⟨#[]⟩, .int .i64 0, .int .i64 0, .int .i64 0, .slice none 0 0] 24)).drew).heap.size ((w1.alloc (.cells #[.string ⟨#[]⟩, .string ⟨#[]⟩, .string ⟨#[]⟩, .string ⟨#[]⟩, .int .i64 0, .int .i64 0, .int .i64 0, .slice none 0 0] 24)).drew) w9 → Z8 w9 w1.heap.size ⟨#[]⟩ ⟨#[]⟩ ⟨#[]⟩ ⟨#[]⟩ 0 0 0 (.slice none 0 0)) := Lib.hid fun w9 hb => z8_keep hb (z8_keep (b_drew (Below.refl _ _)) (z8_new w1 24 ⟨#[]⟩ ⟨#[]⟩ ⟨#[]⟩ ⟨#[]⟩ 0 0 0 (.slice none 0 0)))
  have WA : Hid (Below w1.heap.size w1 ((w1.alloc (.cells #[.string ⟨#[]⟩, .string ⟨#[]⟩, .string ⟨#[]⟩, .string ⟨#[]⟩, .int .i64 0, .int .i64 0, .int .i64 0, .slice none 0 0] 24)).drew)) := Lib.hid (b_drew (b_alloc (Below.refl _ _) _))
  have WB : Hid (Below w1.heap.size w1 w1.drew) := Lib.hid (b_drew (Below.refl _ _))
  have SA : Hid (((w1.alloc (.cells #[.string ⟨#[]⟩, .string ⟨#[]⟩, .string ⟨#[]⟩, .string ⟨#[]⟩, .int .i64 0, .int .i64 0, .int .i64 0, .slice none 0 0] 24)).drew).heap.size = w1.heap.size + 1) := Lib.hid (by simp)
  · have hp7 : ¬ (F.length = 7) := by omega
    clear hr
    rw [if_neg hr0] at hsg
    rw [hsg] at CL1
    go_wp2_with fail
    go_region_held3 (fun w' => w'.cell? ⟨g, 0, none⟩ = some (.string f0) ∧ w'.cell? ⟨g, 1, none⟩ = some (.string f1) ∧ w'.cell? ⟨g, 2, none⟩ = some (.string f2) ∧ w'.cell? ⟨g, 3, none⟩ = some (.string f3) ∧ Below w1.heap.size w1 w')
      (with_reducible first
        | exact KP.out _ WA.out
        | exact KP.out _ WB.out
        | exact KP.out _ hb9
        | exact KP.out _ (b_alloc hb9 _)
        | exact KP.out _ (b_set8 hb9 (Nat.le_refl _) _ _ _ _ _ _ _ _)
        | exact KP.out _ (b_set8 (b_alloc hb9 _) hb9.size _ _ _ _ _ _ _ _)
        | assumption)
      ((first
        | (go_at_call 39; (with_reducible refine (CL1.out _ WA.out).mono ?_); rintro e w9 ⟨⟨Av, cv, rfl, hv⟩, hb9'⟩; have HV := Lib.hid hv; clear hv; have hb9 := b_next WA.out hb9'; obtain ⟨⟨y0, y1, y2, y3, y4, y5, y6, y7⟩, fr⟩ := Zd.out _ hb9'; have z0 := fr 0; have z1 := fr 1; have z2 := fr 2; have z3 := fr 3; have z4 := fr 4; have z5 := fr 5; have z6 := fr 6; have z7 := fr 7; clear fr)
        | (go_at_call 39; (with_reducible refine (CL1.out _ WB.out).mono ?_); rintro e w9 ⟨⟨Av, cv, rfl, hv⟩, hb9'⟩; have HV := Lib.hid hv; clear hv; have hb9 := b_next WB.out hb9')))
    · have Z6 := Lib.hid (z8_new w9 24 f0 f1 f2 f3 0 0 0 (.slice Av r cv))
      have B6 := Lib.hid (b_alloc hb9 (.cells #[.string f0, .string f1, .string f2, .string f3, .int .i64 0, .int .i64 0, .int .i64 0, .slice Av r cv] 24))
      have K6 : Hid (∀ W : World, (∀ a u, w1.heap.size ≤ a.block → a.block ≠ w9.heap.size → (w9.alloc (.cells #[.string f0, .string f1, .string f2, .string f3, .int .i64 0, .int .i64 0, .int .i64 0, .slice Av r cv] 24)).cell? a = some u → W.cell? a = some u) → SL W (.slice Av r cv) L) := Lib.hid fun W h => HV.out W fun a u ha hc => h a u (by first | exact ha | (have q := ha; simp at q; omega)) (by have := lt_of_cell hc; omega) (keep (b_alloc (Below.refl _ _) _) hc)
      have hbg : Hid (w1.heap.size ≤ w9.heap.size) := Lib.hid hb9.size
      rename_i hH
      clear HV hH hb9 hb9' KP Zd WA WB SA CL1 CL SP hsl
      revert hbg K6 B6 Z6
      generalize w9.alloc (.cells #[.string f0, .string f1, .string f2, .string f3, .int .i64 0, .int .i64 0, .int .i64 0, .slice Av r cv] 24) = W6
      generalize w9.heap.size = b
      intro Z6 B6 K6 hbg
      have hbw := Lib.hid (b_next W1.out B6.out)
      have HNB : Hid (n0 ≠ b) := Lib.hid (by have h1 := lt_of_cell Z1.out.n8.c0; have h2 := hbg.out; simp only at h1; omega)
      have HNL : Hid (n0 < w1.heap.size) := Lib.hid (lt_of_cell Z1.out.n8.c0)
      have HGB : Hid (g ≠ b) := Lib.hid (by have h1 := HGlt.out; have h2 := hbg.out; omega)
      have HWB : Hid (w.heap.size ≤ b) := Lib.hid (by have h1 := W1.out.size; have h2 := hbg.out; omega)
      have HBL : Hid (b < W6.heap.size) := Lib.hid (lt_of_cell Z6.out.n8.c0)
      obtain ⟨bb, hbb⟩ : ∃ bb, bb = W6.heap.size := ⟨_, rfl⟩
      obtain ⟨P7, hP7⟩ : ∃ P7, P7 = W6.alloc (.cells #[.pointer (some ⟨b, 4, none⟩), .pointer (some ⟨b, 5, none⟩), .pointer (some ⟨b, 6, none⟩)] 102) := ⟨_, rfl⟩
      have HBB : Hid (bb ≠ b) := Lib.hid (by have h1 := HBL.out; omega)
      have b7 : Below W6.heap.size W6 P7 := by rw [hP7]; exact b_alloc (Below.refl _ _) _
      have C0 : Hid (P7.cell? ⟨bb, 0, none⟩ = some (.pointer (some ⟨b, 4, none⟩))) := Lib.hid (by subst hP7; subst hbb; simp)
      have C1 : Hid (P7.cell? ⟨bb, 1, none⟩ = some (.pointer (some ⟨b, 5, none⟩))) := Lib.hid (by subst hP7; subst hbb; simp)
      have C2 : Hid (P7.cell? ⟨bb, 2, none⟩ = some (.pointer (some ⟨b, 6, none⟩))) := Lib.hid (by subst hP7; subst hbb; simp)
      have G4 := Lib.hid (keep b7 (keep B6.out K4.out)); have G5 := Lib.hid (keep b7 (keep B6.out K5.out)); have G6 := Lib.hid (keep b7 (keep B6.out K6'.out))
      have ZS := Lib.hid (z8_keep b7 Z6.out); have NS := Lib.hid (z8_keep b7 (z8_keep B6.out Z1.out)); have BS := Lib.hid (b_next hbw.out b7)
      have K7 : Hid (∀ W : World, (∀ a u, w1.heap.size ≤ a.block → a.block ≠ b → (P7).cell? a = some u → W.cell? a = some u) → SL W (.slice Av r cv) L) := Lib.hid fun W h => K6.out W fun a u h1 ha hc => h a u h1 ha (keep b7 hc)
      clear b7 K6 B6 Z6
      go_wp2_with fail
      rw [← hbb, ← hP7]
      clear hbb hP7
      go_loopw [42] (fun t wr => ∃ k : Nat, k ≤ 3 ∧ t = .int .i64 k ∧ ∃ x y z : Int, ParI f4 f5 f6 k x y z ∧ Z8 wr b f0 f1 f2 f3 x y z (.slice Av r cv) ∧ Z8 wr n0 ⟨#[]⟩ ⟨#[]⟩ ⟨#[]⟩ ⟨#[]⟩ 0 0 0 (.slice none 0 0) ∧ FarEq b P7 wr ∧ Below w.heap.size w wr) (fun t _ => 3 - (intOf t).toNat)
      case atStart => exact ⟨0, by decide, rfl, 0, 0, 0, ⟨rfl, rfl, rfl⟩, ZS.out, NS.out, fun _ _ _ h => h, BS.out⟩
      case round =>
        obtain ⟨k, hk, rfl, x, y, z, hp, hz, hn, hfar, hbl⟩ := hrel
        have HP := Lib.hid hp; have HZ := Lib.hid hz; have HN := Lib.hid hn; have HF := Lib.hid hfar; have HB := Lib.hid hbl
        clear hp hz hn hfar hbl
        rcases (show k = 0 ∨ k = 1 ∨ k = 2 ∨ k = 3 by omega) with rfl | rfl | rfl | rfl
        · have cp := HF.out ⟨bb, 0, none⟩ _ HBB.out C0.out; have cf := HF.out ⟨g, 4, none⟩ _ HGB.out G4.out
          have NCi := Lib.hid (NC.out f4 hs4.out wr HB.out)
          have kk : ((0 : Nat) : Int) < 3 := by decide
          go_wp2_with fail
          (with_reducible refine NCi.out.mono ?_); rintro e w8 ⟨hn, hb⟩
          have B8 := Lib.hid (b_next HB.out hb); have Z8b := Lib.hid (z8_keep hb HZ.out); have Z8n := Lib.hid (z8_keep hb HN.out); have F8 := Lib.hid (far_keep HF.out hb)
          clear hb
          rcases hn with ⟨m, hm, rfl⟩ | ⟨hm, v, rfl⟩
          · have HM := Lib.hid hm; clear hm
            obtain ⟨⟨y0, y1, y2, y3, y4, y5, y6, y7⟩, fr⟩ := Z8b.out; have z0 := fr 0; have z1 := fr 1; have z2 := fr 2; have z3 := fr 3; have z4 := fr 4; have z5 := fr 5; have z6 := fr 6; have z7 := fr 7; clear fr
            go_wp2_with fail
            refine ⟨⟨1, by decide, by go_num, m, y, z, ?_, (z8_num Z8b.out 0 m).1 rfl, z8_far HNB.out Z8n.out _ _, far_set F8.out _ _, b_set B8.out HWB.out _⟩, by simp [intOf]⟩
            have hp := HP.out; unfold ParI at hp ⊢; have hm := HM.out; simp at hp ⊢; simp [hm, hp]
          · have HM := Lib.hid hm; clear hm
            obtain ⟨⟨y0, y1, y2, y3, y4, y5, y6, y7⟩, fr⟩ := Z8n.out; have z0 := fr 0; have z1 := fr 1; have z2 := fr 2; have z3 := fr 3; have z4 := fr 4; have z5 := fr 5; have z6 := fr 6; have z7 := fr 7; clear fr
            go_wp2_with fail
            have ZR := (z8_set Z8n.out ⟨#[]⟩ ⟨#[]⟩ ⟨#[]⟩ ⟨#[]⟩ 0 0 0 (.slice none 0 0)).n8
            refine bodyPost_ret (v := .tuple #[zp, .int .i64 5]) (by simp [results, Tryz.results12, go_sem, ZR.c0, ZR.c1, ZR.c2, ZR.c3, ZR.c4, ZR.c5, ZR.c6, ZR.c7]) rfl ⟨?_, ?_⟩
            · exact Or.inl ⟨5, by decide, rfl, fun x y z h4 h5 h6 => by have hm := HM.out; simp_all⟩
            · exact b_set8 B8.out (Nat.le_of_eq HN0.out.symm) _ _ _ _ _ _ _ _
        · have cp := HF.out ⟨bb, 1, none⟩ _ HBB.out C1.out; have cf := HF.out ⟨g, 5, none⟩ _ HGB.out G5.out
          have NCi := Lib.hid (NC.out f5 hs5.out wr HB.out)
          have kk : ((1 : Nat) : Int) < 3 := by decide
          go_wp2_with fail
          (with_reducible refine NCi.out.mono ?_); rintro e w8 ⟨hn, hb⟩
          have B8 := Lib.hid (b_next HB.out hb); have Z8b := Lib.hid (z8_keep hb HZ.out); have Z8n := Lib.hid (z8_keep hb HN.out); have F8 := Lib.hid (far_keep HF.out hb)
          clear hb
          rcases hn with ⟨m, hm, rfl⟩ | ⟨hm, v, rfl⟩
          · have HM := Lib.hid hm; clear hm
            obtain ⟨⟨y0, y1, y2, y3, y4, y5, y6, y7⟩, fr⟩ := Z8b.out; have z0 := fr 0; have z1 := fr 1; have z2 := fr 2; have z3 := fr 3; have z4 := fr 4; have z5 := fr 5; have z6 := fr 6; have z7 := fr 7; clear fr
            go_wp2_with fail
            refine ⟨⟨2, by decide, by go_num, x, m, z, ?_, (z8_num Z8b.out 1 m).2.1 rfl, z8_far HNB.out Z8n.out _ _, far_set F8.out _ _, b_set B8.out HWB.out _⟩, by simp [intOf]⟩
            have hp := HP.out; unfold ParI at hp ⊢; have hm := HM.out; simp at hp ⊢; simp [hm, hp]
          · have HM := Lib.hid hm; clear hm
            obtain ⟨⟨y0, y1, y2, y3, y4, y5, y6, y7⟩, fr⟩ := Z8n.out; have z0 := fr 0; have z1 := fr 1; have z2 := fr 2; have z3 := fr 3; have z4 := fr 4; have z5 := fr 5; have z6 := fr 6; have z7 := fr 7; clear fr
            go_wp2_with fail
            have ZR := (z8_set Z8n.out ⟨#[]⟩ ⟨#[]⟩ ⟨#[]⟩ ⟨#[]⟩ 0 0 0 (.slice none 0 0)).n8
            refine bodyPost_ret (v := .tuple #[zp, .int .i64 5]) (by simp [results, Tryz.results12, go_sem, ZR.c0, ZR.c1, ZR.c2, ZR.c3, ZR.c4, ZR.c5, ZR.c6, ZR.c7]) rfl ⟨?_, ?_⟩
            · exact Or.inl ⟨5, by decide, rfl, fun x y z h4 h5 h6 => by have hm := HM.out; simp_all⟩
            · exact b_set8 B8.out (Nat.le_of_eq HN0.out.symm) _ _ _ _ _ _ _ _
        · have cp := HF.out ⟨bb, 2, none⟩ _ HBB.out C2.out; have cf := HF.out ⟨g, 6, none⟩ _ HGB.out G6.out
          have NCi := Lib.hid (NC.out f6 hs6.out wr HB.out)
          have kk : ((2 : Nat) : Int) < 3 := by decide
          go_wp2_with fail
          (with_reducible refine NCi.out.mono ?_); rintro e w8 ⟨hn, hb⟩
          have B8 := Lib.hid (b_next HB.out hb); have Z8b := Lib.hid (z8_keep hb HZ.out); have Z8n := Lib.hid (z8_keep hb HN.out); have F8 := Lib.hid (far_keep HF.out hb)
          clear hb
          rcases hn with ⟨m, hm, rfl⟩ | ⟨hm, v, rfl⟩
          · have HM := Lib.hid hm; clear hm
            obtain ⟨⟨y0, y1, y2, y3, y4, y5, y6, y7⟩, fr⟩ := Z8b.out; have z0 := fr 0; have z1 := fr 1; have z2 := fr 2; have z3 := fr 3; have z4 := fr 4; have z5 := fr 5; have z6 := fr 6; have z7 := fr 7; clear fr
            go_wp2_with fail
            refine ⟨⟨3, by decide, by go_num, x, y, m, ?_, (z8_num Z8b.out 2 m).2.2 rfl, z8_far HNB.out Z8n.out _ _, far_set F8.out _ _, b_set B8.out HWB.out _⟩, by simp [intOf]⟩
            have hp := HP.out; unfold ParI at hp ⊢; have hm := HM.out; simp at hp ⊢; simp [hm, hp]
          · have HM := Lib.hid hm; clear hm
            obtain ⟨⟨y0, y1, y2, y3, y4, y5, y6, y7⟩, fr⟩ := Z8n.out; have z0 := fr 0; have z1 := fr 1; have z2 := fr 2; have z3 := fr 3; have z4 := fr 4; have z5 := fr 5; have z6 := fr 6; have z7 := fr 7; clear fr
            go_wp2_with fail
            have ZR := (z8_set Z8n.out ⟨#[]⟩ ⟨#[]⟩ ⟨#[]⟩ ⟨#[]⟩ 0 0 0 (.slice none 0 0)).n8
            refine bodyPost_ret (v := .tuple #[zp, .int .i64 5]) (by simp [results, Tryz.results12, go_sem, ZR.c0, ZR.c1, ZR.c2, ZR.c3, ZR.c4, ZR.c5, ZR.c6, ZR.c7]) rfl ⟨?_, ?_⟩
            · exact Or.inl ⟨5, by decide, rfl, fun x y z h4 h5 h6 => by have hm := HM.out; simp_all⟩
            · exact b_set8 B8.out (Nat.le_of_eq HN0.out.symm) _ _ _ _ _ _ _ _
        · have kk : ¬ ((3 : Nat) : Int) < 3 := by decide
          have CKw := Lib.hid (checkC (c := f0) (k := f1) (f := f2) (t := f3) (off := x) (sp := y) (h := z) (K7.out wr fun a u _ ha hc => HF.out a u ha hc) wr (Below.refl _ _))
          obtain ⟨E, hE⟩ : ∃ E, E = planE f0 f1 f2 f3 x y z L.length (rtF L) := ⟨_, rfl⟩
          have HE := Lib.hid hE
          have HP3 : Hid (NumT.numB f4.data.toList = some x ∧ NumT.numB f5.data.toList = some y ∧ NumT.numB f6.data.toList = some z) := Lib.hid (by have hp := HP.out; unfold ParI at hp; simpa using hp)
          have CK2 : Hid (Calls Tryz.prog 17 #[plan f0 f1 f2 f3 x y z (.slice Av r cv)] wr fun e w' => e = .returned (.int .i64 E) ∧ Below wr.heap.size wr w') := Lib.hid (by rw [hE]; exact CKw.out)
          clear hE CKw
          obtain ⟨⟨y0, y1, y2, y3, y4, y5, y6, y7⟩, fr⟩ := HZ.out; have z0 := fr 0; have z1 := fr 1; have z2 := fr 2; have z3 := fr 3; have z4 := fr 4; have z5 := fr 5; have z6 := fr 6; have z7 := fr 7; clear fr
          go_wp2_with fail
          (with_reducible refine CK2.out.mono ?_); rintro e w8 ⟨rfl, hb⟩
          have B8 := Lib.hid (b_next HB.out hb); have Z8b := Lib.hid (z8_keep hb HZ.out); have Z8n := Lib.hid (z8_keep hb HN.out); have F8 := Lib.hid (far_keep HF.out hb)
          clear hb y0 y1 y2 y3 y4 y5 y6 y7 z0 z1 z2 z3 z4 z5 z6 z7
          by_cases h0 : E = 0
          · have HE0 : Hid (planE f0 f1 f2 f3 x y z L.length (rtF L) = 0) := Lib.hid (by rw [← HE.out]; exact h0)
            subst h0
            obtain ⟨⟨y0, y1, y2, y3, y4, y5, y6, y7⟩, fr⟩ := Z8b.out; have z0 := fr 0; have z1 := fr 1; have z2 := fr 2; have z3 := fr 3; have z4 := fr 4; have z5 := fr 5; have z6 := fr 6; have z7 := fr 7; clear fr
            obtain ⟨⟨p0, p1, p2, p3, p4, p5, p6, p7⟩, fr⟩ := Z8n.out; have q0 := fr 0; have q1 := fr 1; have q2 := fr 2; have q3 := fr 3; have q4 := fr 4; have q5 := fr 5; have q6 := fr 6; have q7 := fr 7; clear fr
            go_wp2_with fail
            have ZR := (z8_set Z8n.out f0 f1 f2 f3 x y z (.slice Av r cv)).n8
            refine bodyPost_ret (v := .tuple #[plan f0 f1 f2 f3 x y z (.slice Av r cv), .int .i64 0]) (by simp [results, Tryz.results12, go_sem, ZR.c0, ZR.c1, ZR.c2, ZR.c3, ZR.c4, ZR.c5, ZR.c6, ZR.c7]) rfl ⟨?_, ?_⟩
            · exact Or.inr ⟨x, y, z, _, HP3.out.1, HP3.out.2.1, HP3.out.2.2, HE0.out, rfl, fun W hW => K7.out W fun a u h1 ha hc => hW a u (Nat.le_trans W1.out.size h1) (far8 (by have h2 := HNL.out; omega) (F8.out a u ha hc) _ _ _ _ _ _ _ _)⟩
            · exact b_set8 B8.out (Nat.le_of_eq HN0.out.symm) _ _ _ _ _ _ _ _
          · have h1 : (E == 0) = false := by simpa using h0
            obtain ⟨⟨y0, y1, y2, y3, y4, y5, y6, y7⟩, fr⟩ := Z8n.out; have z0 := fr 0; have z1 := fr 1; have z2 := fr 2; have z3 := fr 3; have z4 := fr 4; have z5 := fr 5; have z6 := fr 6; have z7 := fr 7; clear fr
            go_wp2_with fail
            have ZR := (z8_set Z8n.out ⟨#[]⟩ ⟨#[]⟩ ⟨#[]⟩ ⟨#[]⟩ 0 0 0 (.slice none 0 0)).n8
            refine bodyPost_ret (v := .tuple #[zp, .int .i64 E]) (by simp [results, Tryz.results12, go_sem, ZR.c0, ZR.c1, ZR.c2, ZR.c3, ZR.c4, ZR.c5, ZR.c6, ZR.c7]) rfl ⟨?_, ?_⟩
            · exact Or.inl ⟨E, h0, rfl, fun x' y' z' h4 h5 h6 => by
                obtain ⟨q4, q5, q6⟩ := HP3.out
                rw [q4] at h4; rw [q5] at h5; rw [q6] at h6
                cases h4; cases h5; cases h6
                rw [← HE.out]; exact h0⟩
            · exact b_set8 B8.out (Nat.le_of_eq HN0.out.symm) _ _ _ _ _ _ _ _
    · have Z6 := Lib.hid (z8_set (Zd.out _ hb9') f0 f1 f2 f3 0 0 0 (.slice Av r cv))
      have B6 := Lib.hid (b_set8 hb9 (Nat.le_refl _) (.string f0) (.string f1) (.string f2) (.string f3) (.int .i64 0) (.int .i64 0) (.int .i64 0) (.slice Av r cv))
      have K6 : Hid (∀ W : World, (∀ a u, w1.heap.size ≤ a.block → a.block ≠ w1.heap.size → (((((((((w9.setCell ⟨w1.heap.size, 0, none⟩ (.string f0)).setCell ⟨w1.heap.size, 1, none⟩ (.string f1)).setCell ⟨w1.heap.size, 2, none⟩ (.string f2)).setCell ⟨w1.heap.size, 3, none⟩ (.string f3)).setCell ⟨w1.heap.size, 4, none⟩ (.int .i64 0)).setCell ⟨w1.heap.size, 5, none⟩ (.int .i64 0)).setCell ⟨w1.heap.size, 6, none⟩ (.int .i64 0)).setCell ⟨w1.heap.size, 7, none⟩ (.slice Av r cv))).cell? a = some u → W.cell? a = some u) → SL W (.slice Av r cv) L) := Lib.hid fun W h => HV.out W fun a u ha hc => h a u (by rw [SA.out] at ha; omega) (by rw [SA.out] at ha; omega) (far8 (by rw [SA.out] at ha; omega) hc _ _ _ _ _ _ _ _)
      rename_i hH
      clear HV hH hb9 KP WA WB CL1 CL SP hsl hb9' SA Zd y0 y1 y2 y3 y4 y5 y6 y7 z0 z1 z2 z3 z4 z5 z6 z7
      generalize ((((((((w9.setCell ⟨w1.heap.size, 0, none⟩ (.string f0)).setCell ⟨w1.heap.size, 1, none⟩ (.string f1)).setCell ⟨w1.heap.size, 2, none⟩ (.string f2)).setCell ⟨w1.heap.size, 3, none⟩ (.string f3)).setCell ⟨w1.heap.size, 4, none⟩ (.int .i64 0)).setCell ⟨w1.heap.size, 5, none⟩ (.int .i64 0)).setCell ⟨w1.heap.size, 6, none⟩ (.int .i64 0)).setCell ⟨w1.heap.size, 7, none⟩ (.slice Av r cv)) = W6 at Z6 B6 K6 ⊢
      obtain ⟨b, hb⟩ : ∃ b, b = w1.heap.size := ⟨_, rfl⟩
      have hbg : Hid (w1.heap.size ≤ b) := Lib.hid (Nat.le_of_eq hb.symm)
      have K6 : Hid (∀ W : World, (∀ a u, w1.heap.size ≤ a.block → a.block ≠ b → (W6).cell? a = some u → W.cell? a = some u) → SL W (.slice Av r cv) L) := by rw [hb]; exact K6
      rw [← hb] at Z6 ⊢
      clear hb
      have hbw := Lib.hid (b_next W1.out B6.out)
      have HNB : Hid (n0 ≠ b) := Lib.hid (by have h1 := lt_of_cell Z1.out.n8.c0; have h2 := hbg.out; simp only at h1; omega)
      have HNL : Hid (n0 < w1.heap.size) := Lib.hid (lt_of_cell Z1.out.n8.c0)
      have HGB : Hid (g ≠ b) := Lib.hid (by have h1 := HGlt.out; have h2 := hbg.out; omega)
      have HWB : Hid (w.heap.size ≤ b) := Lib.hid (by have h1 := W1.out.size; have h2 := hbg.out; omega)
      have HBL : Hid (b < W6.heap.size) := Lib.hid (lt_of_cell Z6.out.n8.c0)
      obtain ⟨bb, hbb⟩ : ∃ bb, bb = W6.heap.size := ⟨_, rfl⟩
      obtain ⟨P7, hP7⟩ : ∃ P7, P7 = W6.alloc (.cells #[.pointer (some ⟨b, 4, none⟩), .pointer (some ⟨b, 5, none⟩), .pointer (some ⟨b, 6, none⟩)] 102) := ⟨_, rfl⟩
      have HBB : Hid (bb ≠ b) := Lib.hid (by have h1 := HBL.out; omega)
      have b7 : Below W6.heap.size W6 P7 := by rw [hP7]; exact b_alloc (Below.refl _ _) _
      have C0 : Hid (P7.cell? ⟨bb, 0, none⟩ = some (.pointer (some ⟨b, 4, none⟩))) := Lib.hid (by subst hP7; subst hbb; simp)
      have C1 : Hid (P7.cell? ⟨bb, 1, none⟩ = some (.pointer (some ⟨b, 5, none⟩))) := Lib.hid (by subst hP7; subst hbb; simp)
      have C2 : Hid (P7.cell? ⟨bb, 2, none⟩ = some (.pointer (some ⟨b, 6, none⟩))) := Lib.hid (by subst hP7; subst hbb; simp)
      have G4 := Lib.hid (keep b7 (keep B6.out K4.out)); have G5 := Lib.hid (keep b7 (keep B6.out K5.out)); have G6 := Lib.hid (keep b7 (keep B6.out K6'.out))
      have ZS := Lib.hid (z8_keep b7 Z6.out); have NS := Lib.hid (z8_keep b7 (z8_keep B6.out Z1.out)); have BS := Lib.hid (b_next hbw.out b7)
      have K7 : Hid (∀ W : World, (∀ a u, w1.heap.size ≤ a.block → a.block ≠ b → (P7).cell? a = some u → W.cell? a = some u) → SL W (.slice Av r cv) L) := Lib.hid fun W h => K6.out W fun a u h1 ha hc => h a u h1 ha (keep b7 hc)
      clear b7 K6 B6 Z6
      go_wp2_with fail
      rw [← hbb, ← hP7]
      clear hbb hP7
      go_loopw [42] (fun t wr => ∃ k : Nat, k ≤ 3 ∧ t = .int .i64 k ∧ ∃ x y z : Int, ParI f4 f5 f6 k x y z ∧ Z8 wr b f0 f1 f2 f3 x y z (.slice Av r cv) ∧ Z8 wr n0 ⟨#[]⟩ ⟨#[]⟩ ⟨#[]⟩ ⟨#[]⟩ 0 0 0 (.slice none 0 0) ∧ FarEq b P7 wr ∧ Below w.heap.size w wr) (fun t _ => 3 - (intOf t).toNat)
      case atStart => exact ⟨0, by decide, rfl, 0, 0, 0, ⟨rfl, rfl, rfl⟩, ZS.out, NS.out, fun _ _ _ h => h, BS.out⟩
      case round =>
        obtain ⟨k, hk, rfl, x, y, z, hp, hz, hn, hfar, hbl⟩ := hrel
        have HP := Lib.hid hp; have HZ := Lib.hid hz; have HN := Lib.hid hn; have HF := Lib.hid hfar; have HB := Lib.hid hbl
        clear hp hz hn hfar hbl
        rcases (show k = 0 ∨ k = 1 ∨ k = 2 ∨ k = 3 by omega) with rfl | rfl | rfl | rfl
        · have cp := HF.out ⟨bb, 0, none⟩ _ HBB.out C0.out; have cf := HF.out ⟨g, 4, none⟩ _ HGB.out G4.out
          have NCi := Lib.hid (NC.out f4 hs4.out wr HB.out)
          have kk : ((0 : Nat) : Int) < 3 := by decide
          go_wp2_with fail
          (with_reducible refine NCi.out.mono ?_); rintro e w8 ⟨hn, hb⟩
          have B8 := Lib.hid (b_next HB.out hb); have Z8b := Lib.hid (z8_keep hb HZ.out); have Z8n := Lib.hid (z8_keep hb HN.out); have F8 := Lib.hid (far_keep HF.out hb)
          clear hb
          rcases hn with ⟨m, hm, rfl⟩ | ⟨hm, v, rfl⟩
          · have HM := Lib.hid hm; clear hm
            obtain ⟨⟨y0, y1, y2, y3, y4, y5, y6, y7⟩, fr⟩ := Z8b.out; have z0 := fr 0; have z1 := fr 1; have z2 := fr 2; have z3 := fr 3; have z4 := fr 4; have z5 := fr 5; have z6 := fr 6; have z7 := fr 7; clear fr
            go_wp2_with fail
            refine ⟨⟨1, by decide, by go_num, m, y, z, ?_, (z8_num Z8b.out 0 m).1 rfl, z8_far HNB.out Z8n.out _ _, far_set F8.out _ _, b_set B8.out HWB.out _⟩, by simp [intOf]⟩
            have hp := HP.out; unfold ParI at hp ⊢; have hm := HM.out; simp at hp ⊢; simp [hm, hp]
          · have HM := Lib.hid hm; clear hm
            obtain ⟨⟨y0, y1, y2, y3, y4, y5, y6, y7⟩, fr⟩ := Z8n.out; have z0 := fr 0; have z1 := fr 1; have z2 := fr 2; have z3 := fr 3; have z4 := fr 4; have z5 := fr 5; have z6 := fr 6; have z7 := fr 7; clear fr
            go_wp2_with fail
            have ZR := (z8_set Z8n.out ⟨#[]⟩ ⟨#[]⟩ ⟨#[]⟩ ⟨#[]⟩ 0 0 0 (.slice none 0 0)).n8
            refine bodyPost_ret (v := .tuple #[zp, .int .i64 5]) (by simp [results, Tryz.results12, go_sem, ZR.c0, ZR.c1, ZR.c2, ZR.c3, ZR.c4, ZR.c5, ZR.c6, ZR.c7]) rfl ⟨?_, ?_⟩
            · exact Or.inl ⟨5, by decide, rfl, fun x y z h4 h5 h6 => by have hm := HM.out; simp_all⟩
            · exact b_set8 B8.out (Nat.le_of_eq HN0.out.symm) _ _ _ _ _ _ _ _
        · have cp := HF.out ⟨bb, 1, none⟩ _ HBB.out C1.out; have cf := HF.out ⟨g, 5, none⟩ _ HGB.out G5.out
          have NCi := Lib.hid (NC.out f5 hs5.out wr HB.out)
          have kk : ((1 : Nat) : Int) < 3 := by decide
          go_wp2_with fail
          (with_reducible refine NCi.out.mono ?_); rintro e w8 ⟨hn, hb⟩
          have B8 := Lib.hid (b_next HB.out hb); have Z8b := Lib.hid (z8_keep hb HZ.out); have Z8n := Lib.hid (z8_keep hb HN.out); have F8 := Lib.hid (far_keep HF.out hb)
          clear hb
          rcases hn with ⟨m, hm, rfl⟩ | ⟨hm, v, rfl⟩
          · have HM := Lib.hid hm; clear hm
            obtain ⟨⟨y0, y1, y2, y3, y4, y5, y6, y7⟩, fr⟩ := Z8b.out; have z0 := fr 0; have z1 := fr 1; have z2 := fr 2; have z3 := fr 3; have z4 := fr 4; have z5 := fr 5; have z6 := fr 6; have z7 := fr 7; clear fr
            go_wp2_with fail
            refine ⟨⟨2, by decide, by go_num, x, m, z, ?_, (z8_num Z8b.out 1 m).2.1 rfl, z8_far HNB.out Z8n.out _ _, far_set F8.out _ _, b_set B8.out HWB.out _⟩, by simp [intOf]⟩
            have hp := HP.out; unfold ParI at hp ⊢; have hm := HM.out; simp at hp ⊢; simp [hm, hp]
          · have HM := Lib.hid hm; clear hm
            obtain ⟨⟨y0, y1, y2, y3, y4, y5, y6, y7⟩, fr⟩ := Z8n.out; have z0 := fr 0; have z1 := fr 1; have z2 := fr 2; have z3 := fr 3; have z4 := fr 4; have z5 := fr 5; have z6 := fr 6; have z7 := fr 7; clear fr
            go_wp2_with fail
            have ZR := (z8_set Z8n.out ⟨#[]⟩ ⟨#[]⟩ ⟨#[]⟩ ⟨#[]⟩ 0 0 0 (.slice none 0 0)).n8
            refine bodyPost_ret (v := .tuple #[zp, .int .i64 5]) (by simp [results, Tryz.results12, go_sem, ZR.c0, ZR.c1, ZR.c2, ZR.c3, ZR.c4, ZR.c5, ZR.c6, ZR.c7]) rfl ⟨?_, ?_⟩
            · exact Or.inl ⟨5, by decide, rfl, fun x y z h4 h5 h6 => by have hm := HM.out; simp_all⟩
            · exact b_set8 B8.out (Nat.le_of_eq HN0.out.symm) _ _ _ _ _ _ _ _
        · have cp := HF.out ⟨bb, 2, none⟩ _ HBB.out C2.out; have cf := HF.out ⟨g, 6, none⟩ _ HGB.out G6.out
          have NCi := Lib.hid (NC.out f6 hs6.out wr HB.out)
          have kk : ((2 : Nat) : Int) < 3 := by decide
          go_wp2_with fail
          (with_reducible refine NCi.out.mono ?_); rintro e w8 ⟨hn, hb⟩
          have B8 := Lib.hid (b_next HB.out hb); have Z8b := Lib.hid (z8_keep hb HZ.out); have Z8n := Lib.hid (z8_keep hb HN.out); have F8 := Lib.hid (far_keep HF.out hb)
          clear hb
          rcases hn with ⟨m, hm, rfl⟩ | ⟨hm, v, rfl⟩
          · have HM := Lib.hid hm; clear hm
            obtain ⟨⟨y0, y1, y2, y3, y4, y5, y6, y7⟩, fr⟩ := Z8b.out; have z0 := fr 0; have z1 := fr 1; have z2 := fr 2; have z3 := fr 3; have z4 := fr 4; have z5 := fr 5; have z6 := fr 6; have z7 := fr 7; clear fr
            go_wp2_with fail
            refine ⟨⟨3, by decide, by go_num, x, y, m, ?_, (z8_num Z8b.out 2 m).2.2 rfl, z8_far HNB.out Z8n.out _ _, far_set F8.out _ _, b_set B8.out HWB.out _⟩, by simp [intOf]⟩
            have hp := HP.out; unfold ParI at hp ⊢; have hm := HM.out; simp at hp ⊢; simp [hm, hp]
          · have HM := Lib.hid hm; clear hm
            obtain ⟨⟨y0, y1, y2, y3, y4, y5, y6, y7⟩, fr⟩ := Z8n.out; have z0 := fr 0; have z1 := fr 1; have z2 := fr 2; have z3 := fr 3; have z4 := fr 4; have z5 := fr 5; have z6 := fr 6; have z7 := fr 7; clear fr
            go_wp2_with fail
            have ZR := (z8_set Z8n.out ⟨#[]⟩ ⟨#[]⟩ ⟨#[]⟩ ⟨#[]⟩ 0 0 0 (.slice none 0 0)).n8
            refine bodyPost_ret (v := .tuple #[zp, .int .i64 5]) (by simp [results, Tryz.results12, go_sem, ZR.c0, ZR.c1, ZR.c2, ZR.c3, ZR.c4, ZR.c5, ZR.c6, ZR.c7]) rfl ⟨?_, ?_⟩
            · exact Or.inl ⟨5, by decide, rfl, fun x y z h4 h5 h6 => by have hm := HM.out; simp_all⟩
            · exact b_set8 B8.out (Nat.le_of_eq HN0.out.symm) _ _ _ _ _ _ _ _
        · have kk : ¬ ((3 : Nat) : Int) < 3 := by decide
          have CKw := Lib.hid (checkC (c := f0) (k := f1) (f := f2) (t := f3) (off := x) (sp := y) (h := z) (K7.out wr fun a u _ ha hc => HF.out a u ha hc) wr (Below.refl _ _))
          obtain ⟨E, hE⟩ : ∃ E, E = planE f0 f1 f2 f3 x y z L.length (rtF L) := ⟨_, rfl⟩
          have HE := Lib.hid hE
          have HP3 : Hid (NumT.numB f4.data.toList = some x ∧ NumT.numB f5.data.toList = some y ∧ NumT.numB f6.data.toList = some z) := Lib.hid (by have hp := HP.out; unfold ParI at hp; simpa using hp)
          have CK2 : Hid (Calls Tryz.prog 17 #[plan f0 f1 f2 f3 x y z (.slice Av r cv)] wr fun e w' => e = .returned (.int .i64 E) ∧ Below wr.heap.size wr w') := Lib.hid (by rw [hE]; exact CKw.out)
          clear hE CKw
          obtain ⟨⟨y0, y1, y2, y3, y4, y5, y6, y7⟩, fr⟩ := HZ.out; have z0 := fr 0; have z1 := fr 1; have z2 := fr 2; have z3 := fr 3; have z4 := fr 4; have z5 := fr 5; have z6 := fr 6; have z7 := fr 7; clear fr
          go_wp2_with fail
          (with_reducible refine CK2.out.mono ?_); rintro e w8 ⟨rfl, hb⟩
          have B8 := Lib.hid (b_next HB.out hb); have Z8b := Lib.hid (z8_keep hb HZ.out); have Z8n := Lib.hid (z8_keep hb HN.out); have F8 := Lib.hid (far_keep HF.out hb)
          clear hb y0 y1 y2 y3 y4 y5 y6 y7 z0 z1 z2 z3 z4 z5 z6 z7
          by_cases h0 : E = 0
          · have HE0 : Hid (planE f0 f1 f2 f3 x y z L.length (rtF L) = 0) := Lib.hid (by rw [← HE.out]; exact h0)
            subst h0
            obtain ⟨⟨y0, y1, y2, y3, y4, y5, y6, y7⟩, fr⟩ := Z8b.out; have z0 := fr 0; have z1 := fr 1; have z2 := fr 2; have z3 := fr 3; have z4 := fr 4; have z5 := fr 5; have z6 := fr 6; have z7 := fr 7; clear fr
            obtain ⟨⟨p0, p1, p2, p3, p4, p5, p6, p7⟩, fr⟩ := Z8n.out; have q0 := fr 0; have q1 := fr 1; have q2 := fr 2; have q3 := fr 3; have q4 := fr 4; have q5 := fr 5; have q6 := fr 6; have q7 := fr 7; clear fr
            go_wp2_with fail
            have ZR := (z8_set Z8n.out f0 f1 f2 f3 x y z (.slice Av r cv)).n8
            refine bodyPost_ret (v := .tuple #[plan f0 f1 f2 f3 x y z (.slice Av r cv), .int .i64 0]) (by simp [results, Tryz.results12, go_sem, ZR.c0, ZR.c1, ZR.c2, ZR.c3, ZR.c4, ZR.c5, ZR.c6, ZR.c7]) rfl ⟨?_, ?_⟩
            · exact Or.inr ⟨x, y, z, _, HP3.out.1, HP3.out.2.1, HP3.out.2.2, HE0.out, rfl, fun W hW => K7.out W fun a u h1 ha hc => hW a u (Nat.le_trans W1.out.size h1) (far8 (by have h2 := HNL.out; omega) (F8.out a u ha hc) _ _ _ _ _ _ _ _)⟩
            · exact b_set8 B8.out (Nat.le_of_eq HN0.out.symm) _ _ _ _ _ _ _ _
          · have h1 : (E == 0) = false := by simpa using h0
            obtain ⟨⟨y0, y1, y2, y3, y4, y5, y6, y7⟩, fr⟩ := Z8n.out; have z0 := fr 0; have z1 := fr 1; have z2 := fr 2; have z3 := fr 3; have z4 := fr 4; have z5 := fr 5; have z6 := fr 6; have z7 := fr 7; clear fr
            go_wp2_with fail
            have ZR := (z8_set Z8n.out ⟨#[]⟩ ⟨#[]⟩ ⟨#[]⟩ ⟨#[]⟩ 0 0 0 (.slice none 0 0)).n8
            refine bodyPost_ret (v := .tuple #[zp, .int .i64 E]) (by simp [results, Tryz.results12, go_sem, ZR.c0, ZR.c1, ZR.c2, ZR.c3, ZR.c4, ZR.c5, ZR.c6, ZR.c7]) rfl ⟨?_, ?_⟩
            · exact Or.inl ⟨E, h0, rfl, fun x' y' z' h4 h5 h6 => by
                obtain ⟨q4, q5, q6⟩ := HP3.out
                rw [q4] at h4; rw [q5] at h5; rw [q6] at h6
                cases h4; cases h5; cases h6
                rw [← HE.out]; exact h0⟩
            · exact b_set8 B8.out (Nat.le_of_eq HN0.out.symm) _ _ _ _ _ _ _ _
end Pt
end Go.Proofs.YtdlbkpgjbjlgiaaGreatDoor
