/- P161..: the text of a number with fewer digits behind the point is the beginning of the text with more. For every number, for every count of digits. -/
import Derived.Test.YtoafljgcmloilaaDoorDoorB
import Derived.Test.YtoafljgcmloilaaDoorFwt
import Derived.Test.YtoafljgcmloilaaDoorCards
namespace Go.Proofs.YtoafljgcmloilaaDoor
open Go.RowKit Go.ChangeShapes Go.WideShapes
namespace BitsTexts
open Kit Dec Tof Fw Txt
/-- One text is the other's beginning. -/
theorem pre_ext (b z : ByteArray) : (b ++ z).extract 0 b.size = b := by
  apply ByteArray.ext
  simp
theorem ext_split (p : ByteArray) (d : Nat) : p.extract 0 (d + 1) = p.extract 0 d ++ p.extract d (d + 1) := by
  apply ByteArray.ext
  simp
theorem prefix_tx (wh pt : List Nat → ByteArray) (L : List Nat) (j : Nat) : ∃ z, tx wh pt L (j + 1) = tx wh pt L j ++ z := by
  unfold tx
  rw [if_neg (by omega)]
  by_cases h : j = 0
  · rw [if_pos h]; exact ⟨_, rfl⟩
  · rw [if_neg h, ext_split]
    refine ⟨(pt L).extract j (j + 1), ?_⟩
    rw [ByteArray.append_assoc, ByteArray.append_assoc]
theorem tx_size (wh pt : List Nat → ByteArray) (L : List Nat) (j : Nat) (h1 : (wh L).size ≤ 100000) (h2 : (pt L).size ≤ 100000) : (tx wh pt L j).size ≤ 300000 := by
  unfold tx
  split
  · omega
  · have e : (⟨#[46]⟩ : ByteArray).size = 1 := rfl
    rw [ByteArray.size_append, ByteArray.size_append, e, ByteArray.size_extract]
    omega
theorem fnil_split : ∃ A B, fnil = A ++ 46 :: B ∧ 12 ≤ B.length ∧ fnil.length ≤ 100000 := by
  refine ⟨[48], List.replicate 1100 48, ?_, ?_, ?_⟩
  · unfold fnil
    generalize List.replicate 1100 48 = R
    rfl
  · rw [List.length_replicate]; decide
  · unfold fnil
    rw [List.length_append, List.length_replicate]; decide
/-- What bits.Text answers at one number, for every count of digits. -/
def TX (X : Nat) (R : List Nat → Prop) : Prop := ∀ (dd : Nat) (w : World), dd ≤ 12 → VB w → Calls Tryd.prog 10 #[.int .u64 (X : Nat), .int .i64 (dd : Nat)] w fun e w' => (∃ L, R L ∧ e = .returned (.tuple #[.string (tx wh pt L dd), .int .i64 0])) ∧ Below w.heap.size w w'
theorem tx_any {n : Int} (h1 : 0 ≤ n) (h2 : n < 9007199254740992) : ∃ R : List Nat → Prop, TX (fx n 7) R ∧ (∀ L L', R L → R L' → L = L') ∧ ∀ L, R L → (wh L).size ≤ 100000 ∧ 12 ≤ (pt L).size ∧ (pt L).size ≤ 100000 := by
  by_cases h0 : n = 0
  · have e : fx n 7 = 0 := by unfold fx; rw [if_pos h0]
    rw [e]
    have sz : ∀ L, L = fnil → (wh L).size ≤ 100000 ∧ 12 ≤ (pt L).size ∧ (pt L).size ≤ 100000 := by
      rintro L rfl
      obtain ⟨A, B, g1, g2, g3⟩ := fnil_split
      exact (sizes g1 g2 g3).2
    refine ⟨fun L => L = fnil, fun dd w hdd V => ?_, fun L L' h h' => h.trans h'.symm, sz⟩
    exact tx_pos 0 0 dd w (fun L => L = fnil) wh pt (by decide) hdd (by decide +kernel) (by decide +kernel) (by decide +kernel) (by decide +kernel)
      (Lib.hid fun w' hb => ff0 w' (vb_keep hb V)) (Lib.hid fun L w' hl hb => by obtain ⟨A, B, g1, g2, g3⟩ := fnil_split; subst hl; exact cutL (vb_keep hb V) g1 g2 g3) (Lib.hid sz)
  · obtain ⟨E, M, e, -, hE, hM, -⟩ := fx_range (n := n) (sc := 7) h0 (by omega) (by omega)
    have hl : n.natAbs.log2 < 53 := (Nat.log2_lt (by omega)).2 (by omega)
    have hn : decide (n < 0) = false := decide_eq_false (by omega)
    rw [hn] at e
    have hE1 : 1015 ≤ E := by omega
    have hE2 : E ≤ 1074 := by omega
    rw [e]
    clear e hE hn hl
    have sz : ∀ L, FtL (4503599627370496 + M) (1075 - E) L → (wh L).size ≤ 100000 ∧ 12 ≤ (pt L).size ∧ (pt L).size ≤ 100000 := by
      intro L h
      obtain ⟨A, B, g1, g2, g3⟩ := ftl_split h
      exact (sizes g1 g2 g3).2
    refine ⟨FtL (4503599627370496 + M) (1075 - E), fun dd w hdd V => ?_, fun L L' h h' => h.same h', sz⟩
    exact tx_pos (wd false E M) (wd false E M) dd w (FtL (4503599627370496 + M) (1075 - E)) wh pt (wd_lt (by omega) hM) hdd (by rw [not63 (by omega) (by omega) hM]; omega)
      (by rw [wd_pos]; exact beq_eq_false_iff_ne.2 (by omega)) (by rw [ef_wd (by omega) hM]; exact beq_eq_false_iff_ne.2 (by omega)) (ord_53 (by omega) (by omega) hM (by omega))
      (Lib.hid fun w' hb => by
        have q := ff1 E M w' (vb_keep hb V) hM hE1 hE2
        rw [← wd_pos] at q
        exact q)
      (Lib.hid fun L w' hl hb => by obtain ⟨A, B, g1, g2, g3⟩ := ftl_split hl; exact cutL (vb_keep hb V) g1 g2 g3) (Lib.hid sz)
/-- The count of digits. -/
theorem count (k : Int) : ∃ (D : Int) (j : Nat), k.tmod 12 = D ∧ (D + 12).tmod 12 = (j : Int) ∧ -12 < D ∧ D < 12 ∧ j < 12 := by
  have d3 := Int.lt_tmod_of_pos k (show (0 : Int) < 12 by decide)
  have d4 := Int.tmod_lt_of_pos k (show (0 : Int) < 12 by decide)
  have d5 := Int.tmod_nonneg (12 : Int) (show 0 ≤ k.tmod 12 + 12 by omega)
  have d6 := Int.tmod_lt_of_pos (k.tmod 12 + 12) (show (0 : Int) < 12 by decide)
  exact ⟨_, ((k.tmod 12 + 12).tmod 12).toNat, rfl, by omega, by omega, by omega, by omega⟩
set_option maxRecDepth 100000 in
set_option maxHeartbeats 8000000 in
/-- A number out of the range. -/
theorem walkO (n k D : Int) (j : Nat) (W : World) (C0 : Hid (∀ w, VB w → Calls Tryd.prog 7 #[] w fun e w' => e = .returned (.bool true) ∧ Below w.heap.size w w')) (V : Hid (VB W)) (d1 : k.tmod 12 = D) (d2 : (D + 12).tmod 12 = (j : Int)) (d3 : -12 < D) (d4 : D < 12) (hj : j < 12)
    (h : n < 0 ∨ 9007199254740992 ≤ n) :
    Calls Tryd.prog 5 #[.int .i64 n, .int .i64 k] W fun e w' => e = .returned (.bool true) ∧ Below W.heap.size W w' := by
  rcases h with h | h
  · go_enter Tryd.func5, Tryd.ntmps5
    go_wp2_with fail
    (with_reducible refine (C0.out _ V.out).mono ?_); rintro e w1 ⟨rfl, hb⟩
    have B1 := Lib.hid hb; clear hb
    go_wp2_with fail
    go_ret
    exact ⟨by first | rfl | exact retb rfl, B1.out⟩
  · have h2 : ¬ n < 0 := by omega
    go_enter Tryd.func5, Tryd.ntmps5
    go_wp2_with fail
    (with_reducible refine (C0.out _ V.out).mono ?_); rintro e w1 ⟨rfl, hb⟩
    have B1 := Lib.hid hb; clear hb
    go_wp2_with fail
    go_ret
    exact ⟨by first | rfl | exact retb rfl, B1.out⟩
set_option maxRecDepth 100000 in
set_option maxHeartbeats 8000000 in
theorem walkI (n k D : Int) (j X : Nat) (W : World) (R : List Nat → Prop) (C0 : Hid (∀ w, VB w → Calls Tryd.prog 7 #[] w fun e w' => e = .returned (.bool true) ∧ Below w.heap.size w w')) (V : Hid (VB W)) (d1 : k.tmod 12 = D) (d2 : (D + 12).tmod 12 = (j : Int)) (d3 : -12 < D) (d4 : D < 12) (hj : j < 12)
    (h1 : ¬ n < 0) (h2 : ¬ 9007199254740992 ≤ n)
    (C1 : Hid (∀ w, Calls Tryd.prog 9 #[.int .i64 n, .int .i64 7] w fun e w' => e = .returned (.tuple #[.int .u64 (X : Nat), .int .i64 0]) ∧ w = w'))
    (T : Hid (TX X R)) (S : Hid (∀ L L', R L → R L' → L = L')) (Z : Hid (∀ L, R L → (wh L).size ≤ 100000 ∧ 12 ≤ (pt L).size ∧ (pt L).size ≤ 100000)) :
    Calls Tryd.prog 5 #[.int .i64 n, .int .i64 k] W fun e w' => e = .returned (.bool true) ∧ Below W.heap.size W w' := by
  have T1 : Hid (∀ w, VB w → Calls Tryd.prog 10 #[.int .u64 (X : Nat), .int .i64 (1 + (j : Int))] w fun e w' => (∃ L, R L ∧ e = .returned (.tuple #[.string (tx wh pt L (j + 1)), .int .i64 0])) ∧ Below w.heap.size w w') := Lib.hid fun w hv => by
    have q := T.out (j + 1) w (by omega) hv
    rw [show ((j + 1 : Nat) : Int) = 1 + (j : Int) by omega] at q
    exact q
  have T2 : Hid (∀ w, VB w → Calls Tryd.prog 10 #[.int .u64 (X : Nat), .int .i64 (1 + (j : Int) - 1)] w fun e w' => (∃ L, R L ∧ e = .returned (.tuple #[.string (tx wh pt L j), .int .i64 0])) ∧ Below w.heap.size w w') := Lib.hid fun w hv => by
    have q := T.out j w (by omega) hv
    rw [show 1 + (j : Int) - 1 = (j : Int) by omega]
    exact q
  clear T
  go_enter Tryd.func5, Tryd.ntmps5
  go_wp2_with fail
  (with_reducible refine (C0.out _ V.out).mono ?_); rintro e w1 ⟨rfl, hb⟩
  have B1 := Lib.hid hb; have V1 := Lib.hid (vb_keep hb V.out); clear hb
  go_wp2_with fail
  (with_reducible refine (C1.out _).mono ?_); rintro e w2 ⟨rfl, rfl⟩
  go_wp2_with fail
  (with_reducible refine (T1.out _ V1.out).mono ?_); rintro e w2 ⟨⟨L, hl, rfl⟩, hb⟩
  have B2 := Lib.hid (b_next B1.out hb); have V2 := Lib.hid (vb_keep hb V1.out); have HL := Lib.hid hl; clear hb hl
  go_wp2_with fail
  (with_reducible refine (T2.out _ V2.out).mono ?_); rintro e w3 ⟨⟨L', hl', rfl⟩, hb⟩
  have B3 := Lib.hid (b_next B2.out hb); clear hb
  obtain rfl := S.out _ _ HL.out hl'
  clear hl'
  obtain ⟨z, hz⟩ := prefix_tx wh pt L j
  obtain ⟨s1, -, s2⟩ := Z.out L HL.out
  have za := tx_size wh pt L (j + 1) s1 s2
  have zb := tx_size wh pt L j s1 s2
  have ze := pre_ext (tx wh pt L j) z
  rw [← hz] at ze
  have zl : (tx wh pt L j).size ≤ (tx wh pt L (j + 1)).size := by rw [hz, ByteArray.size_append]; omega
  clear hz s1 s2 T1 T2 C1 S Z C0
  generalize tx wh pt L (j + 1) = a at *
  generalize tx wh pt L j = b at *
  go_wp2_with fail
  go_ret
  exact ⟨by first | rfl | exact retb rfl, B3.out⟩
/-- For every number, for every count of digits. -/
theorem walk (n k : Int) (W : World) (hL : laidMetH Tryd.prog DoorB.laid W ∧ W.ShapedOpen Tryd.prog) (_ : -9223372036854775808 ≤ n ∧ n ≤ 9223372036854775807) (_ : -9223372036854775808 ≤ k ∧ k ≤ 9223372036854775807) :
    Calls Tryd.prog 5 #[.int .i64 n, .int .i64 k] W fun e w' => e = .returned (.bool true) ∧ Below W.heap.size W w' := by
  have V := DoorB.vars_of hL
  obtain ⟨D, j, d1, d2, d3, d4, hj⟩ := count k
  by_cases h : n < 0 ∨ 9007199254740992 ≤ n
  · exact walkO n k D j W (Lib.hid fun w hv => bitsWorks w hv) (Lib.hid V) d1 d2 d3 d4 hj h
  obtain ⟨R, t1, t2, t3⟩ := tx_any (n := n) (by omega) (by omega)
  exact walkI n k D j (fx n 7) W R (Lib.hid fun w hv => bitsWorks w hv) (Lib.hid V) d1 d2 d3 d4 hj (by omega) (by omega) (Lib.hid fun w => ffx_w n 7 w (by omega) (by omega) (by omega)) (Lib.hid t1) (Lib.hid t2) (Lib.hid t3)
-- FRAME --

set_option maxRecDepth 100000 in
theorem lifted (os : Os) (started : os.Started) (H : Type) (enc : TypeId × Value → H) :
    ReturnsInHanded {} Tryd.checked os 5 .any (fun w args => (Rows.bitsTextsSpec.pre enc Tryd.prog Tryd.f5 [] false w args ∧ laidMetH Tryd.prog DoorB.laid w) ∧ sizedMet enc Tryd.prog Tryd.f5 (OpenSpec.ofChange Rows.bitsTextsSpec) false w args) (Rows.bitsTextsSpec.post enc Tryd.prog Tryd.f5 false true false false) :=
  Frame.lifted_open (C := Tryd.checked) 5 Tryd.f5 Tryd.own started (by kernel_rfl) Tryd.func5 Tryd.laidOut rfl (by kernel_rfl) 4 rfl Tryd.underlying4
      (fun ds h => by match ds, h with | [_, _], _ => rfl)
      (ChangeSpec.witness_shaped (enc := enc) (C := Tryd.checked) (os := os) (X := fun w _ => laidMetH Tryd.prog DoorB.laid w) false (DoorB.laidWorld os) #[.int .i64 0, .int .i64 0] 8 (World.laidAll_os _ _ _) (DoorB.laidWorld_shaped os _) (by kernel_rfl) (by kernel_rfl) (by kernel_rfl) (DoorB.laidWorld_met os _))
      (fun W base args ds ps hval0 hA _ hL => by
        have hval : ∀ (j : Nat) t v, Tryd.f5.params[j]? = some t → args[j]? = some v → Value.okWide Tryd.prog W .any base t v := hval0
        have hA' : DataW.TrodAll enc Tryd.prog W 0 (fun _ => true) true Tryd.f5.params.toList args.toList ds ps := hA
        clear hval0 hA
        have hA := hA'
        clear hA'
        rw [Tryd.params5] at hA hval
        obtain ⟨v0, vs0, d0, ds0, p0, q0, ea, rfl, rfl, tr0, rest0⟩ := trodAll_cons hA
        obtain ⟨v1, vs1, d1, ds1, p1, q1, rfl, rfl, rfl, tr1, rest1⟩ := trodAll_cons rest0
        obtain ⟨rfl, rfl, rfl⟩ := trodAll_nil rest1
        obtain rfl : args = #[v0, v1] := by cases args; simp_all
        clear ea
        obtain ⟨n, rfl, w_n⟩ := Frame.arg_int Tryd.underlying3 (hval 0 _ v0 rfl rfl)
        obtain ⟨k, rfl, w_k⟩ := Frame.arg_int Tryd.underlying3 (hval 1 _ v1 rfl rfl)
        exact walk n k W hL (Frame.bd w_n) (Frame.bd w_k))

/-- The statement. -/
theorem row_holds : Rows.BitsTextsSaid :=
  OpenClaim.holds_of_wide 5 Tryd.f5 rfl rfl rfl rfl rfl rfl rfl ⟨rfl, rfl, rfl, rfl, rfl⟩ rfl rfl rfl rfl rfl (by kernel_rfl) Tryd.func5 (by kernel_rfl)
    (of_decide_eq_true (by kernel_rfl)) (by unfold Func.isWrapper; first | (rw [if_pos (by decide +kernel)]; kernel_rfl) | (rw [if_neg (by decide +kernel)]; exact ⟨rfl, rfl⟩))
    (fun os started H enc _ => lifted os started H enc)
/-- The tied card. -/
theorem proved : Rows.BitsTextsCardSaid :=
  Claim7.holds_tied_plain_at .later [] [.data, .data, .data, .data, .data, .pinned, .pinned, .pinned] true (true, "bcc143c9c6f8b1f314f711a20aa0baf16be0bfafa76d6d1d223097afee771353") false
    row_holds (fun _ h => by cases h) (by kernel_rfl) (fun _ h => by cases h) bitsTexts_row_tie rfl ⟨rfl, rfl⟩ (by kernel_rfl) rfl
    (fun f fn hf hfn => by
      obtain rfl : f = 5 := Option.some.inj ((show Tryd.prog.funcNamed "skyway/skywaykeep1.BitsTexts" = some 5 by kernel_rfl).symm.trans hf) |>.symm
      obtain rfl : fn = Tryd.f5 := (Option.some.inj (Tryd.func5.symm.trans hfn)).symm
      exact ⟨by kernel_rfl, fun j t ht => by
        rw [Tryd.params5] at ht
        have hall : ∀ t ∈ [3, 3], Tryd.prog.wantsStandIn t = false := by
          intro t ht
          simp only [List.mem_cons, List.not_mem_nil, or_false] at ht
          rcases ht with rfl | rfl <;> kernel_rfl
        exact hall t (List.mem_iff_getElem?.2 ⟨j, by simpa using ht⟩)⟩)
    (by kernel_rfl)
#print axioms proved
end BitsTexts
end Go.Proofs.YtoafljgcmloilaaDoor

