/- strings.Cut, strings.Trim at their laws; the fixed example of the numbers as bits. -/
import Derived.Test.YtoafljgcmloilaaDoorTxc
import Derived.Shelf.Strings.Cut
import Derived.Shelf.Strings.SlTrimAscii
namespace Go.Proofs.YtoafljgcmloilaaDoor
open Go.RowKit Go.Shelf
shelf_lay Lays.n145 Nm 145 at Tryd as cutLays
shelf_lay Lays.n160 Nm 160 at Tryd as trimLays
namespace Txt
open Kit Dec Tof
/-- What is read of the library's variables. -/
structure VB (w : World) : Prop where
  opt : w.cell? ⟨2, 0, none⟩ = some (.bool true)
  len : ∃ m : Int, w.cell? ⟨1, 0, none⟩ = some (.int .i64 m)
theorem vb_keep {w w1 : World} (hb : Below w.heap.size w w1) (h : VB w) : VB w1 := ⟨keep hb h.opt, h.len.elim fun m q => ⟨m, keep hb q⟩⟩
theorem vb_pos {w : World} (h : VB w) : 1 ≤ w.heap.size := by have := lt_of_cell h.opt; omega
theorem cutC {w : World} (V : VB w) (s : ByteArray) (hs : s.size ≤ 200000) : Calls Tryd.prog 19 #[.string s, .string ⟨#[46]⟩] w fun e w' => e = .returned (.tuple #[.string ⟨(Lib.cut s.data.toList [46]).1.toArray⟩, .string ⟨(Lib.cut s.data.toList [46]).2.1.toArray⟩, .bool (Lib.cut s.data.toList [46]).2.2]) ∧ Below w.heap.size w w' := by
  obtain ⟨m, hm⟩ := V.len
  have q := Any.strings_Cut cutLays s ⟨#[46]⟩ m w (by omega) hm
  change Calls Tryd.prog 19 _ _ _ at q
  refine q.mono ?_
  rintro e w' ⟨rfl, n, rfl⟩
  exact ⟨rfl, b_drewN (Below.refl _ _) n⟩
theorem cutL {w : World} (V : VB w) {L A B : List Nat} (h : L = A ++ 46 :: B) (hB : 12 ≤ B.length) (hL : L.length ≤ 100000) : Calls Tryd.prog 19 #[.string (strB L), .string ⟨#[46]⟩] w fun e w' => e = .returned (.tuple #[.string (wh L), .string (pt L), .bool true]) ∧ Below w.heap.size w w' := by
  have q := cutC V (strB L) (by rw [strB_size]; omega)
  have z := (sizes h hB hL).1
  rw [z] at q
  exact q
/-- FormatFloat at a number that is no zero. -/
theorem ff1 (E M : Nat) (w : World) (V : VB w) (hM : M < 4503599627370496) (hE1 : 1015 ≤ E) (hE2 : E ≤ 1074) :
    Calls Tryd.prog 25 #[.float .f64 (E * 4503599627370496 + M : Nat), .int .u8 102, .int .i64 1100, .int .i64 64] w fun e w' => (∃ L, e = .returned (.string (strB L)) ∧ FtL (4503599627370496 + M) (1075 - E) L) ∧ Below w.heap.size w w' :=
  ff_w _ w (FtL (4503599627370496 + M) (1075 - E)) (fun L hl => by obtain ⟨A, B, rfl, -, -⟩ := ftl_split hl; simp; omega) (vb_pos V) (Lib.hid fun w' v hb hv => ft_w _ w.heap.size E M w' v rfl hM hE1 hE2 (keep hb V.opt) hb.size hv)
theorem fnil_pos : 0 < fnil.length := by
  unfold fnil
  generalize List.replicate 1100 48 = R
  simp
/-- FormatFloat at 0. -/
theorem ff0 (w : World) (V : VB w) :
    Calls Tryd.prog 25 #[.float .f64 0, .int .u8 102, .int .i64 1100, .int .i64 64] w fun e w' => (∃ L, e = .returned (.string (strB L)) ∧ L = fnil) ∧ Below w.heap.size w w' :=
  ff_w _ w (fun L => L = fnil) (fun L hl => by rw [hl]; exact fnil_pos) (vb_pos V) (Lib.hid fun w' v hb hv => (ft_0 w.heap.size w' v (vb_pos V) hb.size hv).mono fun e w'' ⟨⟨v', he, ho⟩, hb'⟩ => ⟨⟨v', fnil, he, rfl, ho⟩, hb'⟩)
/-- The digits of 1.5. -/
def l15 : List Nat := [49] ++ [46] ++ [53] ++ List.replicate 1099 48
theorem ft15 : FtL 6755399441055744 52 l15 := by
  refine ⟨16, 16, 2, ⟨by decide +kernel, by decide +kernel⟩, ⟨by decide +kernel, by decide +kernel, by decide +kernel, by decide +kernel, fun i _ hi => by
    have : i = 0 ∨ i = 1 := by omega
    rcases this with rfl | rfl <;> decide +kernel⟩, by decide, by decide +kernel⟩
theorem idx15 (R : List UInt8) : Lib.index (49 :: 46 :: R) [46] = 1 := by simp [Lib.index]
theorem l15_cut : Lib.cut (strB l15).data.toList [46] = ([49], 53 :: List.replicate 1099 48, true) := by
  rw [strB_data]
  have e : l15.map UInt8.ofNat = 49 :: 46 :: (53 :: List.replicate 1099 48) := by
    unfold l15
    rw [List.map_append, List.map_replicate]; rfl
  rw [e]
  generalize List.replicate 1099 (48 : UInt8) = R
  unfold Lib.cut
  rw [idx15]
  rfl
theorem l15_wh : wh l15 = ⟨#[49]⟩ := by unfold wh; rw [l15_cut]
theorem l15_pt : (pt l15).extract 0 2 = ⟨#[53, 48]⟩ := by
  unfold pt
  rw [l15_cut, show List.replicate 1099 (48 : UInt8) = 48 :: List.replicate 1098 48 from List.replicate_succ]
  generalize List.replicate 1098 (48 : UInt8) = R
  apply ByteArray.ext
  simp
/-- bits.Text at -1.5. -/
theorem tx15 (w : World) (V : VB w) : Calls Tryd.prog 10 #[.int .u64 13832806255468478464, .int .i64 2] w fun e w' => e = .returned (.tuple #[.string ⟨#[45, 49, 46, 53, 48]⟩, .int .i64 0]) ∧ Below w.heap.size w w' := by
  have q := tx_neg 13832806255468478464 4609434218613702656 2 w (fun L => FtL 6755399441055744 52 L) wh pt (by decide) (by decide) (by decide) (by decide +kernel) (by decide +kernel) (by decide +kernel) (by decide +kernel)
    (Lib.hid fun w' hb => ff1 1023 2251799813685248 w' (vb_keep hb V) (by decide) (by decide) (by decide))
    (Lib.hid fun L w' hl hb => by obtain ⟨A, B, h1, h2, h3⟩ := ftl_split hl; exact cutL (vb_keep hb V) h1 h2 h3)
    (Lib.hid fun L hl => by obtain ⟨A, B, h1, h2, h3⟩ := ftl_split hl; exact (sizes h1 h2 h3).2)
    (Lib.hid fun L w' hl => by
      obtain rfl := hl.same ft15
      have e : tx wh pt l15 2 = ⟨#[49, 46, 53, 48]⟩ := by unfold tx; rw [if_neg (by decide), l15_wh, l15_pt]; rfl
      rw [e]
      have t := Any.strings_Trim_laid trimLays (by kernel_rfl) ⟨#[49, 46, 53, 48]⟩ ⟨#[48, 46]⟩ w' (by decide) (by decide) (ascii_of_all (by decide))
      change Calls Tryd.prog 21 _ _ _ at t
      refine t.mono ?_
      rintro e w'' ⟨rfl, hb⟩
      exact ⟨⟨_, rfl, by decide +kernel⟩, hb⟩)
  refine q.mono ?_
  rintro e w' ⟨⟨L, hl, rfl⟩, hb⟩
  obtain rfl := hl.same ft15
  refine ⟨?_, hb⟩
  have e : tx wh pt l15 2 = ⟨#[49, 46, 53, 48]⟩ := by unfold tx; rw [if_neg (by decide), l15_wh, l15_pt]; rfl
  rw [e]; rfl
theorem tof15 : tof 4609434218613702656 1 = (3, true, 0) := by decide +kernel
set_option maxRecDepth 100000 in
set_option maxHeartbeats 8000000 in
/-- The fixed example is true. -/
theorem bitsWorks (w : World) (V : VB w) : Calls Tryd.prog 7 #[] w fun e w' => e = .returned (.bool true) ∧ Below w.heap.size w w' := by
  have T1 := Lib.hid (tx15 w V)
  have T2 : Hid (∀ w', Calls Tryd.prog 8 #[.int .u64 4609434218613702656, .int .i64 1] w' fun e w'' => e = .returned (.tuple #[.int .i64 3, .bool true, .int .i64 0]) ∧ w' = w'') := Lib.hid fun w' => by
    have q := tof_w 4609434218613702656 1 w' (by decide) (by decide) (by decide)
    rw [tof15] at q
    exact q
  go_enter Tryd.func7, Tryd.ntmps7
  go_wp2_with fail
  (with_reducible refine T1.out.mono ?_); rintro e w1 ⟨rfl, hb⟩
  have B1 := Lib.hid hb; clear hb
  go_wp2_with fail
  (with_reducible refine (T2.out _).mono ?_); rintro e w2 ⟨rfl, rfl⟩
  go_wp2_with fail
  go_ret
  exact ⟨by first | rfl | exact retb rfl, B1.out⟩
end Txt
end Go.Proofs.YtoafljgcmloilaaDoor
