/- strconv.FormatFloat at format 'f' with 1100 digits. -/
import Derived.Test.YtoafljgcmloilaaDoorFtoa
import Derived.Laws.BytesString
import Derived.OwnWalk
namespace Go.Proofs.YtoafljgcmloilaaDoor
open Go.RowKit
namespace Dec
open Kit
set_option maxRecDepth 100000 in
set_option maxHeartbeats 8000000 in
theorem ft_0 (N : Nat) (w : World) (v : Value) (hN1 : 1 ≤ N) (hN : N ≤ w.heap.size) (hv : w.ownsRow N 5 1 v 0 []) :
    Calls Tryd.prog 40 #[v, .float .f64 0, .int .u8 102, .int .i64 1100] w fun e w' => (∃ v', e = .returned v' ∧ w'.ownsRow N 5 1 v' fnil.length (bys fnil)) ∧ Below N w w' := by
  have sb := s_bits 0
  have hdr : bits .and .i64 (IntKind.i64.wrap 0) (IntKind.i64.wrap (IntKind.i64.wrap 2048 - 1)) = 0 := by decide
  have hand2 : bits .and .u64 0 4503599627370495 = 0 := by decide
  go_enter Tryd.func40, Tryd.ntmps40
  go_wp2_with fail
  refine d_region (by kernel_rfl) (by kernel_rfl) ?_
  repeat
    first
      | (refine d_plain (by with_reducible rfl) ?_; apply Exists.intro; refine ⟨fun wq hc hq => ?_, ?_⟩)
      | (refine d_on (by with_reducible rfl) (by rfl) (by with_reducible rfl) ?_; apply Exists.intro; refine ⟨fun wq hc hq => ?_, ?_⟩)
      | (refine d_off (by with_reducible rfl) (by rfl) (by rfl) ?_)
      | (refine d_void (by with_reducible rfl) (by rfl) ?_)
    try any_goals
      (skip; clear hc
       go_simp
       first
         | rfl)
    simp only [Act.put, List.setIfInBounds_toArray, List.set_cons_zero, List.set_cons_succ]
  refine d_nil ?_
  intro w1 hb1
  have O1 := own_below hb1 hv
  have BL1 := Lib.hid hb1
  have FMN : Hid (Calls Tryd.prog 53 #[v, .bool false, .slice none 0 0, .int .i64 0, .int .i64 0, .int .i64 1100, .int .u8 102, .bool false] w1 fun e w' => (∃ v', e = .returned v' ∧ Row8 w' N 0 v' fnil) ∧ Below N w1 w') := Lib.hid (fm_nil 0 N 0 0 w1 v rfl rfl (Lib.hid ⟨O1, fun z hz => by have := own_ge0 O1 z hz; omega, by simp, by have := hb1.size; omega, by have := hb1.size; omega⟩))
  go_wp2_with fail
  (with_reducible refine FMN.out.mono ?_); rintro e w2 ⟨⟨v', rfl, hr⟩, hb⟩
  go_wp2_with fail
  go_ret
  exact ⟨⟨v', rfl, hr.own⟩, (BL1.out.mono hN).trans hb⟩
/-- Bytes as a string. -/
def strB (L : List Nat) : ByteArray := (L.map fun x : Nat => (x : Int)).foldl (fun r n => r.push (UInt8.ofNat n.toNat)) ByteArray.empty
theorem conv_w {w : World} {N : Nat} {v : Value} {L : List Nat} (h : w.ownsRow N 5 1 v L.length (bys L)) (h0 : 0 < L.length) : (convert 63 9 v).run Tryd.prog w = .ok (.string (strB L)) w := by
  rcases h.2 with ⟨-, e⟩ | ⟨g, cap, cur, rfl, -, hg, h2⟩
  · omega
  · rw [run_convert_bytes_string w 63 9 5 _ _ _ Tryd.underlying63 Tryd.underlying5 Tryd.underlying9]
    have q := run_loadCells_list (P := Tryd.prog) w ⟨g, 0, none⟩ (bys L) (fun j u hu => by
      rw [← h2.2.2.2, List.getElem?_take] at hu
      split at hu
      · have e : (⟨g, 0, none⟩ : Addr).add j = ⟨g, j, none⟩ := by rw [Go.WideShapes.add_plain, Nat.zero_add]
        rw [e]
        simp only [World.cell?, hg]
        simpa using hu
      · cases hu)
    have hl : (bys L).length = L.length := by unfold bys; simp
    rw [hl] at q
    have e : (bys L) = (L.map fun x : Nat => (x : Int)).map (Value.int .u8) := by unfold bys; rw [List.map_map]; rfl
    rw [e] at q
    exact run_bytesToString w _ _ _ _ q
set_option maxRecDepth 100000 in
set_option maxHeartbeats 8000000 in
theorem ff_w (b : Nat) (w : World) (R : List Nat → Prop) (hR : ∀ L, R L → 0 < L.length) (_hw : 1 ≤ w.heap.size) (FTW : Hid (∀ w' v, Below w.heap.size w w' → w'.ownsRow w.heap.size 5 1 v 0 [] → Calls Tryd.prog 40 #[v, .float .f64 b, .int .u8 102, .int .i64 1100] w' fun e w'' => (∃ v' L, e = .returned v' ∧ R L ∧ w''.ownsRow w.heap.size 5 1 v' L.length (bys L)) ∧ Below w.heap.size w' w'')) :
    Calls Tryd.prog 25 #[.float .f64 b, .int .u8 102, .int .i64 1100, .int .i64 64] w fun e w' => (∃ L, e = .returned (.string (strB L)) ∧ R L) ∧ Below w.heap.size w w' := by
  obtain ⟨i0, hi, hz0, hz1, hz2⟩ := info_parts info_u8
  have hmk : ∀ W : World, (Instr.makeSlice 63 (.int .i64 0) (.int .i64 1104)).run Tryd.prog W = .ok (.slice (some ⟨W.heap.size, 0, none⟩) 0 1104) (W.alloc (.cells (madeCells #[.int .u8 0] 1104) 5)) := fun W => by
    have q := run_make (P := Tryd.prog) W 63 5 i0 (.int .u8 0) Tryd.underlying63 hi hz0 .i64 .i64 0 1104 (by decide) (by decide) (by rw [hz2]; decide) (by decide)
    rw [hz1] at q
    exact q
  have OW : Hid ((w.alloc (.cells (madeCells #[.int .u8 0] 1104) 5)).ownsRow w.heap.size 5 1 (.slice (some ⟨w.heap.size, 0, none⟩) 0 1104) 0 []) := Lib.hid ⟨rfl, Or.inr ⟨w.heap.size, 1104, _, rfl, Nat.le_refl _, heap_new _ _, by decide, by decide, size_madeCells _ _, rfl⟩⟩
  have BA := Lib.hid (b_alloc (Below.refl w.heap.size w) (.cells (madeCells #[.int .u8 0] 1104) 5))
  go_enter Tryd.func25, Tryd.ntmps25
  go_wp2_with fail
  (with_reducible refine (FTW.out _ _ BA.out OW.out).mono ?_); rintro e w1 ⟨⟨v', L, rfl, hl, hown⟩, hb⟩
  have cv := conv_w hown (hR L hl)
  have B1 := Lib.hid (BA.out.trans hb)
  clear hown hb
  go_wp2_with fail
  go_ret
  exact ⟨⟨L, rfl, hl⟩, B1.out⟩
end Dec
end Go.Proofs.YtoafljgcmloilaaDoor
