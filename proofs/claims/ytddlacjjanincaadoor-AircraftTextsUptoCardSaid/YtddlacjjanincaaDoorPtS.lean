/- strings.Split at a space; a plan in a block of its own. -/
import Derived.Test.YtddlacjjanincaaDoorPtL
import Derived.Shelf.Strings.Split
namespace Go.Proofs.YtddlacjjanincaaDoor
open Go.RowKit Go.Shelf
shelf_lay Lays.n146 Nm 146 at Tryd as splitL
namespace Pt
open Kit Chart Route Plan Name
/-- The pieces of a text. -/
def SplR (s : ByteArray) (w0 : Nat) (e : Ending) (w' : World) : Prop := ∃ F : List ByteArray, raw F = Spl.sp 32 s.data.toList ∧ F.length ≤ s.size + 1 ∧ ∃ g, e = .returned (.slice (some ⟨g, 0, none⟩) F.length F.length) ∧ w0 ≤ g ∧ ∀ k, k < F.length → w'.cell? ⟨g, k, none⟩ = some (.string (F.getD k ⟨#[]⟩))
theorem splitC {w : World} (V : Vars w) (s : ByteArray) (hs : s.size ≤ 2000000) : Calls Tryd.prog 25 #[.string s, .string ⟨#[32]⟩] w fun e w' => SplR s w.heap.size e w' ∧ Below w.heap.size w w' := by
  obtain ⟨m, hm⟩ := V.len
  have hcon := Any.strings_Split splitL (by kernel_rfl) s ⟨#[32]⟩ m w (by omega) hm (by decide)
  change Calls Tryd.prog 25 _ _ _ at hcon
  have hle := Lib.countB_le ⟨#[32]⟩ (by decide) s.size s (Nat.le_refl _)
  have hlen := Lib.splitB_all ⟨#[32]⟩ (by decide) 0 _ s rfl
  have hraw : raw (Lib.splitB ⟨#[32]⟩ 0 (Lib.countB s ⟨#[32]⟩) s) = Spl.sp 32 s.data.toList := by
    have q := Lib.splitB_data ⟨#[32]⟩ 0 (Lib.countB s ⟨#[32]⟩) s
    show List.map _ _ = _
    rw [q]
    have e : Lib.countB s ⟨#[32]⟩ = s.data.toList.count 32 := Lib.count_one 32 s.data.toList
    rw [e]
    exact Spl.splitK_sp 32 s.data.toList
  rw [← hlen] at hcon
  generalize Lib.splitB ⟨#[32]⟩ 0 (Lib.countB s ⟨#[32]⟩) s = F at *
  refine hcon.mono ?_
  rintro e w' ⟨rfl, rfl⟩
  refine ⟨⟨F, hraw, by omega, w.heap.size, rfl, Nat.le_refl _, fun k hk => ?_⟩, b_alloc (Below.refl _ _) _⟩
  have ow := World.ownsRow_lit (base := 0) (size := 1) (e := splitL_ren.t 9) w (F.map Value.string).toArray F.length (Nat.zero_le _) (by unfold maxLen; omega) (by simp)
  rw [ow.cellAt k (by omega)]
  simp [List.getD_eq_getElem?_getD, List.getElem?_eq_getElem hk]
/-- A plan in a block of its own that may be turned. -/
structure Z8 (w : World) (b : Nat) (c k f t : ByteArray) (off sp h : Int) (r : Value) : Prop where
  n8 : N8 w b c k f t off sp h r
  fr : ∀ k, w.frozen? ⟨b, k, none⟩ = false
theorem z8_new (w : World) (ty : TypeId) (c k f t : ByteArray) (off sp h : Int) (r : Value) : Z8 (w.alloc (.cells #[.string c, .string k, .string f, .string t, .int .i64 off, .int .i64 sp, .int .i64 h, r] ty)) w.heap.size c k f t off sp h r :=
  ⟨n8_new w ty c k f t off sp h r, fun k => by simp⟩
theorem z8_keep {W w1 : World} (hb : Below W.heap.size W w1) {b : Nat} {c k f t : ByteArray} {off sp h : Int} {r : Value} (n : Z8 W b c k f t off sp h r) : Z8 w1 b c k f t off sp h r :=
  ⟨n8_keep hb n.n8, fun j => (hb.frozen (p := ⟨b, j, none⟩) (lt_of_cell (a := ⟨b, 0, none⟩) n.n8.c0)).trans (n.fr j)⟩
theorem ne_off {b i j : Nat} (h : i ≠ j) : (⟨b, i, none⟩ : Addr) ≠ ⟨b, j, none⟩ := fun e => h (by injection e)
theorem z8_set {w : World} {b : Nat} {c k f t : ByteArray} {off sp h : Int} {r : Value} (n : Z8 w b c k f t off sp h r) (c' k' f' t' : ByteArray) (off' sp' h' : Int) (r' : Value) :
    Z8 ((((((((w.setCell ⟨b, 0, none⟩ (.string c')).setCell ⟨b, 1, none⟩ (.string k')).setCell ⟨b, 2, none⟩ (.string f')).setCell ⟨b, 3, none⟩ (.string t')).setCell ⟨b, 4, none⟩ (.int .i64 off')).setCell ⟨b, 5, none⟩ (.int .i64 sp')).setCell ⟨b, 6, none⟩ (.int .i64 h')).setCell ⟨b, 7, none⟩ r') b c' k' f' t' off' sp' h' r' := by
  have F : ∀ (w : World) (i j : Nat) (u v : Value), i ≠ j → w.cell? ⟨b, j, none⟩ = some v → (w.setCell ⟨b, i, none⟩ u).cell? ⟨b, j, none⟩ = some v := fun w i j u v h hc => cfar _ (ne_off h) hc
  have S : ∀ (w : World) (i : Nat) (u v : Value), w.cell? ⟨b, i, none⟩ = some v → (w.setCell ⟨b, i, none⟩ u).cell? ⟨b, i, none⟩ = some u := fun w i u v hc => cset _ hc
  obtain ⟨⟨a0, a1, a2, a3, a4, a5, a6, a7⟩, fr⟩ := n
  refine ⟨⟨?_, ?_, ?_, ?_, ?_, ?_, ?_, ?_⟩, fun j => ?_⟩
  · exact F _ 7 0 _ _ (by decide) (F _ 6 0 _ _ (by decide) (F _ 5 0 _ _ (by decide) (F _ 4 0 _ _ (by decide) (F _ 3 0 _ _ (by decide) (F _ 2 0 _ _ (by decide) (F _ 1 0 _ _ (by decide) (S _ 0 _ _ a0)))))))
  · exact F _ 7 1 _ _ (by decide) (F _ 6 1 _ _ (by decide) (F _ 5 1 _ _ (by decide) (F _ 4 1 _ _ (by decide) (F _ 3 1 _ _ (by decide) (F _ 2 1 _ _ (by decide) (S _ 1 _ _ (F _ 0 1 _ _ (by decide) a1)))))))
  · exact F _ 7 2 _ _ (by decide) (F _ 6 2 _ _ (by decide) (F _ 5 2 _ _ (by decide) (F _ 4 2 _ _ (by decide) (F _ 3 2 _ _ (by decide) (S _ 2 _ _ (F _ 1 2 _ _ (by decide) (F _ 0 2 _ _ (by decide) a2)))))))
  · exact F _ 7 3 _ _ (by decide) (F _ 6 3 _ _ (by decide) (F _ 5 3 _ _ (by decide) (F _ 4 3 _ _ (by decide) (S _ 3 _ _ (F _ 2 3 _ _ (by decide) (F _ 1 3 _ _ (by decide) (F _ 0 3 _ _ (by decide) a3)))))))
  · exact F _ 7 4 _ _ (by decide) (F _ 6 4 _ _ (by decide) (F _ 5 4 _ _ (by decide) (S _ 4 _ _ (F _ 3 4 _ _ (by decide) (F _ 2 4 _ _ (by decide) (F _ 1 4 _ _ (by decide) (F _ 0 4 _ _ (by decide) a4)))))))
  · exact F _ 7 5 _ _ (by decide) (F _ 6 5 _ _ (by decide) (S _ 5 _ _ (F _ 4 5 _ _ (by decide) (F _ 3 5 _ _ (by decide) (F _ 2 5 _ _ (by decide) (F _ 1 5 _ _ (by decide) (F _ 0 5 _ _ (by decide) a5)))))))
  · exact F _ 7 6 _ _ (by decide) (S _ 6 _ _ (F _ 5 6 _ _ (by decide) (F _ 4 6 _ _ (by decide) (F _ 3 6 _ _ (by decide) (F _ 2 6 _ _ (by decide) (F _ 1 6 _ _ (by decide) (F _ 0 6 _ _ (by decide) a6)))))))
  · exact S _ 7 _ _ (F _ 6 7 _ _ (by decide) (F _ 5 7 _ _ (by decide) (F _ 4 7 _ _ (by decide) (F _ 3 7 _ _ (by decide) (F _ 2 7 _ _ (by decide) (F _ 1 7 _ _ (by decide) (F _ 0 7 _ _ (by decide) a7)))))))
  · simp only [World.frozen?_setCell]; exact fr j
theorem z8_num {w : World} {b : Nat} {c k f t : ByteArray} {off sp h : Int} {r : Value} (n : Z8 w b c k f t off sp h r) (i : Nat) (x : Int) :
    (i = 0 → Z8 (w.setCell ⟨b, 4, none⟩ (.int .i64 x)) b c k f t x sp h r) ∧ (i = 1 → Z8 (w.setCell ⟨b, 5, none⟩ (.int .i64 x)) b c k f t off x h r) ∧ (i = 2 → Z8 (w.setCell ⟨b, 6, none⟩ (.int .i64 x)) b c k f t off sp x r) := by
  have F : ∀ (i j : Nat) (u v : Value), i ≠ j → w.cell? ⟨b, j, none⟩ = some v → (w.setCell ⟨b, i, none⟩ u).cell? ⟨b, j, none⟩ = some v := fun i j u v h hc => cfar _ (ne_off h) hc
  have S : ∀ (i : Nat) (u v : Value), w.cell? ⟨b, i, none⟩ = some v → (w.setCell ⟨b, i, none⟩ u).cell? ⟨b, i, none⟩ = some u := fun i u v hc => cset _ hc
  obtain ⟨⟨a0, a1, a2, a3, a4, a5, a6, a7⟩, fr⟩ := n
  refine ⟨fun _ => ⟨⟨F _ _ _ _ (by decide) a0, F _ _ _ _ (by decide) a1, F _ _ _ _ (by decide) a2, F _ _ _ _ (by decide) a3, S _ _ _ a4, F _ _ _ _ (by decide) a5, F _ _ _ _ (by decide) a6, F _ _ _ _ (by decide) a7⟩, fun j => ?_⟩,
    fun _ => ⟨⟨F _ _ _ _ (by decide) a0, F _ _ _ _ (by decide) a1, F _ _ _ _ (by decide) a2, F _ _ _ _ (by decide) a3, F _ _ _ _ (by decide) a4, S _ _ _ a5, F _ _ _ _ (by decide) a6, F _ _ _ _ (by decide) a7⟩, fun j => ?_⟩,
    fun _ => ⟨⟨F _ _ _ _ (by decide) a0, F _ _ _ _ (by decide) a1, F _ _ _ _ (by decide) a2, F _ _ _ _ (by decide) a3, F _ _ _ _ (by decide) a4, F _ _ _ _ (by decide) a5, S _ _ _ a6, F _ _ _ _ (by decide) a7⟩, fun j => ?_⟩⟩
  all_goals (rw [World.frozen?_setCell]; exact fr j)
theorem b_set8 {W w : World} (h : Below W.heap.size W w) {b : Nat} (hb : W.heap.size ≤ b) (u0 u1 u2 u3 u4 u5 u6 u7 : Value) : Below W.heap.size W ((((((((w.setCell ⟨b, 0, none⟩ u0).setCell ⟨b, 1, none⟩ u1).setCell ⟨b, 2, none⟩ u2).setCell ⟨b, 3, none⟩ u3).setCell ⟨b, 4, none⟩ u4).setCell ⟨b, 5, none⟩ u5).setCell ⟨b, 6, none⟩ u6).setCell ⟨b, 7, none⟩ u7) :=
  b_set (b_set (b_set (b_set (b_set (b_set (b_set (b_set h hb _) hb _) hb _) hb _) hb _) hb _) hb _) hb _
/-- A cell of another block. -/
theorem far8 {w : World} {b : Nat} {a : Addr} {v : Value} (h : a.block ≠ b) (hc : w.cell? a = some v) (u0 u1 u2 u3 u4 u5 u6 u7 : Value) : ((((((((w.setCell ⟨b, 0, none⟩ u0).setCell ⟨b, 1, none⟩ u1).setCell ⟨b, 2, none⟩ u2).setCell ⟨b, 3, none⟩ u3).setCell ⟨b, 4, none⟩ u4).setCell ⟨b, 5, none⟩ u5).setCell ⟨b, 6, none⟩ u6).setCell ⟨b, 7, none⟩ u7).cell? a = some v := by
  have n : ∀ i, (⟨b, i, none⟩ : Addr) ≠ a := fun i e => h (by rw [← e])
  exact cfar _ (n 7) (cfar _ (n 6) (cfar _ (n 5) (cfar _ (n 4) (cfar _ (n 3) (cfar _ (n 2) (cfar _ (n 1) (cfar _ (n 0) hc)))))))
end Pt
end Go.Proofs.YtddlacjjanincaaDoor
