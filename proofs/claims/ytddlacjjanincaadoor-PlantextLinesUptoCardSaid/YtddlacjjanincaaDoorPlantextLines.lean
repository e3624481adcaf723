/- P148: the line with the first error is told, and all lines before it are plans. For every text of at most 1048576 values and letters (the second form). -/
import Derived.Test.YtddlacjjanincaaDoorPlQ
import Derived.Test.YtddlacjjanincaaDoorPlL
import Derived.Test.YtddlacjjanincaaDoorPtZ
import Derived.Test.YtddlacjjanincaaDoorDoorP
import Derived.Test.YtddlacjjanincaaDoorFrameU
import Derived.Test.YtddlacjjanincaaDoorCards
namespace Go.Proofs.YtddlacjjanincaaDoor
open Go.RowKit Go.ChangeShapes Go.WideShapes
namespace PlantextLines
open Kit Chart Route Plan Name Pt
theorem tA_flat (P : Nat → Pl) : ∀ n, (tA P n).data.toList = Spl.flat 10 ((List.range n).map fun k => (P k).txt.data.toList)
  | 0 => rfl
  | n + 1 => by
    show (tA P n ++ ((P n).txt ++ ⟨#[10]⟩)).data.toList = _
    rw [ByteArray.data_append, ByteArray.data_append, Array.toList_append, Array.toList_append, tA_flat P n, List.range_succ, List.map_append, Spl.flat_app, List.map_cons, List.map_nil, Spl.flat_cons, Spl.flat_nil]
theorem byte_ne {s : ByteArray} {k : Nat} {b : UInt8} (hb : s.data[k]? = some b) (hn : b ≠ 10) (h : k < s.size) : (((s[k]'h).toNat : Int) != 10) = true := by
  obtain ⟨_, e⟩ := Array.getElem?_eq_some_iff.1 hb
  have e2 : s[k]'h = b := e
  rw [e2, bne_iff_ne]
  intro q
  exact hn (UInt8.toNat_inj.1 (by show b.toNat = 10; omega))
theorem byte_eq {s : ByteArray} {k : Nat} (hb : s.data[k]? = some 10) (h : k < s.size) : (((s[k]'h).toNat : Int) != 10) = false := by
  obtain ⟨_, e⟩ := Array.getElem?_eq_some_iff.1 hb
  have e2 : s[k]'h = 10 := e
  rw [e2]; rfl
abbrev Res (s : ByteArray) (w : World) : Prop := Calls Tryd.prog 8 #[.string s] w fun e w' => e = .returned (.bool true) ∧ Below w.heap.size w w'
set_option maxRecDepth 100000 in
set_option maxHeartbeats 8000000 in
/-- The loop over the lines ahead of the one with the error. -/
theorem core (s : ByteArray) (m : Nat) (Q : Nat → ByteArray) (z : ByteArray) (w : World) (hs : s.size ≤ 2000000) (hm : m ≤ 2000000) (hz : z = ⟨#[]⟩ ∨ ¬ z = ⟨#[]⟩)
    (LA : Hid (∀ j, j < m → LineAt s (pos Q j) (Q j)))
    (WK : Hid (∀ w1, Below w.heap.size w w1 → Calls Tryd.prog 15 #[] w1 fun e w' => e = .returned (.bool true) ∧ Below w1.heap.size w1 w'))
    (PA : Hid (∀ w1, Below w.heap.size w w1 → Calls Tryd.prog 21 #[.string s] w1 fun e w' => PaA s m Q z e w' ∧ Below w1.heap.size w1 w'))
    (PC : Hid (∀ w1 u, Below w.heap.size w w1 → Calls Tryd.prog 18 #[.string u] w1 fun e w' => ParR w1.heap.size u e w' ∧ Below w1.heap.size w1 w'))
    (PR : Hid (∀ w1 v P, Below w.heap.size w w1 → m ≤ 24 → PV w1 v m P → Calls Tryd.prog 20 #[v] w1 fun e w' => PrA P m e ∧ Below w1.heap.size w1 w'))
    (TX : Hid (∀ P, z = ⟨#[]⟩ → Red Q P m → tA P m = s)) : Res s w := by
  go_enter Tryd.func8, Tryd.ntmps8
  go_wp2_with fail
  (with_reducible refine (WK.out _ (Below.refl _ _)).mono ?_); rintro e w1 ⟨rfl, hb⟩
  have B1 := Lib.hid hb; clear hb
  go_wp2_with fail
  (with_reducible refine (PA.out _ B1.out).mono ?_); rintro e w2 ⟨hp, hb⟩
  have B2 := Lib.hid (b_next B1.out hb); clear hb
  cases hp with
  | long h1 h2 =>
    subst h2
    clear h1 hz
    go_wp2_with fail
    go_ret
    exact ⟨rfl, B2.out⟩
  | form h1 h2 =>
    subst h2
    have f1 : ¬ ((m : Int) + 1 < 0) := by omega
    have f2 : ((m : Int) + 1 == 0) = false := by simp; omega
    have f3 : IntKind.i64.wrap ((m : Int) + 1 - 1) = (m : Int) := by rw [IntWalk.i64_in _ (by omega)]; omega
    have HG : Hid (∀ j, j < m → ((5 : Int) = 5) ∨ Pt.Good (Q j)) := Lib.hid fun j _ => Or.inl rfl
    clear h1 hz
    go_wp2_with fail
    go_loopw [8, 52] (fun a s wr => ∃ j : Nat, j ≤ m ∧ s = .int .i64 j ∧ a = .int .i64 (pos Q j) ∧ Below w2.heap.size w2 wr) (fun _ s _ => m - (intOf s).toNat)
    case atStart => exact ⟨0, Nat.zero_le _, rfl, rfl, Below.refl _ _⟩
    case round =>
      obtain ⟨j, hj, rfl, rfl, hbl⟩ := hrel
      have BW := Lib.hid (b_next B2.out hbl); have BR := Lib.hid hbl; clear hbl
      by_cases hlt : j < m
      · have hl : (j : Int) < (m : Int) := by omega
        have LI := Lib.hid (LA.out j (by omega))
        have PQ := Lib.hid fun w1 (hb : Below w.heap.size w w1) => PC.out w1 (Q j) hb
        have GO := Lib.hid (HG.out j hlt)
        have HP := Lib.hid (show pos Q (j + 1) = pos Q j + (Q j).size + 1 from rfl)
        generalize Q j = q at *
        generalize pos Q j = p at *
        obtain ⟨w3, hw3⟩ : ∃ w3, w3 = wr := ⟨_, rfl⟩
        subst hw3
        obtain ⟨n, hn⟩ : ∃ n, n = q.size := ⟨_, rfl⟩
        have HN := Lib.hid hn
        have hlt2 : p + n < s.size := by rw [hn]; exact LI.out.lt
        clear hn
        go_wp2_with fail
        go_loopw [10] (fun t wr => ∃ i : Nat, i ≤ n ∧ t = .int .i64 ((p : Int) + (i : Int)) ∧ Below w3.heap.size w3 wr) (fun t _ => p + n - (intOf t).toNat)
        case atStart => exact ⟨0, Nat.zero_le _, by simp, Below.refl _ _⟩
        case round =>
          obtain ⟨i, hi, rfl, hbl⟩ := hrel
          have BI := Lib.hid (b_next BW.out hbl); have BJ := Lib.hid (b_next BR.out hbl); have BK := Lib.hid hbl; clear hbl
          have h1 : (p : Int) + (i : Int) < (s.size : Int) := by omega
          have h1' : p + i < s.size := by omega
          have hw1 : IntKind.i64.wrap ((p : Int) + (i : Int) + 1) = (p : Int) + (i : Int) + 1 := IntWalk.i64_in _ (by omega)
          by_cases hi2 : i < n
          · obtain ⟨hne, b, hb⟩ := LI.out.ne i (by rw [← HN.out]; exact hi2)
            have hbt : (((s[p + i]'h1').toNat : Int) != 10) = true := byte_ne hb (fun e => hne (by rw [hb, e])) h1'
            clear hne hb
            go_wp2_with fail
            go_roundw
            case rel => exact ⟨i + 1, by omega, by go_num, BK.out⟩
            case measure => simp [intOf]; omega
          · obtain rfl : i = n := by omega
            have hb := LI.out.nl
            rw [← HN.out] at hb
            have hbt : (((s[p + i]'h1').toNat : Int) != 10) = false := byte_eq hb h1'
            have HCUT := Lib.hid (show s.extract p (p + i) = q by rw [HN.out]; exact LI.out.cut)
            have U1 := Lib.hid (show (min ((p : Int) + (i : Int)) (s.size : Int)).toNat = p + i by omega)
            clear hb
            go_wp2_with fail
            rw [U1.out, HCUT.out]
            have h2 : ¬ (s.size : Int) ≤ (p : Int) + (i : Int) := by omega
            clear hbt h1'
            (with_reducible refine (PQ.out _ BI.out).mono ?_); rintro e w5 ⟨hp, hb⟩
            have D5 := Lib.hid (b_next BJ.out hb); clear hb
            rcases hp with ⟨E', hE', rfl, hbad⟩ | ⟨pc, pk, pf, pt, px, py, pz, pr, v, ok, ht, rfl, hv⟩
            · have g1 : ((5 : Int) != 5) = false := by first | rfl | (rw [GO.out.resolve_right hbad]; rfl)
              have g2 : (E' != 0) = true := by simpa using hE'
              clear hE' hbad
              go_wp2_with fail
              go_roundw
              case rel => exact ⟨j + 1, by omega, by go_num, congrArg (Value.int .i64) (by have e1 := HP.out; have e2 := HN.out; omega), b_alloc D5.out _⟩
              case measure => simp [intOf]; omega
            · obtain ⟨A', ca, rfl⟩ := sl_slice (hv w5 fun _ _ _ h => h)
              clear ok ht hv
              go_wp2_with fail
              go_roundw
              case rel => exact ⟨j + 1, by omega, by go_num, congrArg (Value.int .i64) (by have e1 := HP.out; have e2 := HN.out; omega), b_alloc D5.out _⟩
              case measure => simp [intOf]; omega
      · obtain rfl : j = m := by omega
        have hl : ¬ (j : Int) < (j : Int) := by omega
        go_wp2_with fail
        go_ret
        exact ⟨rfl, BW.out⟩
  | bad k P E h1 h2 h3 h4 h5 h6 =>
    subst h6
    have hNm : k ≤ m := by omega
    have f1 : ¬ ((k : Int) + 1 < 0) := by omega
    have f2 : ((k : Int) + 1 == 0) = false := by simp; omega
    have f3 : IntKind.i64.wrap ((k : Int) + 1 - 1) = (k : Int) := by rw [IntWalk.i64_in _ (by omega)]; omega
    have f4 : (E == 0) = false := by simpa using h4
    have f5 : (E != 0) = true := by simpa using h4
    have HG : Hid (∀ j, j < k → (E = 5) ∨ Pt.Good (Q j)) := Lib.hid fun j hj => Or.inr ⟨_, _, _, _, _, _, _, _, h3.fits.ok j (by omega), h3.text j (by omega)⟩
    clear h1 h2 h3 h4 h5 hz
    go_wp2_with fail
    go_loopw [8, 52] (fun a s wr => ∃ j : Nat, j ≤ k ∧ s = .int .i64 j ∧ a = .int .i64 (pos Q j) ∧ Below w2.heap.size w2 wr) (fun _ s _ => k - (intOf s).toNat)
    case atStart => exact ⟨0, Nat.zero_le _, rfl, rfl, Below.refl _ _⟩
    case round =>
      obtain ⟨j, hj, rfl, rfl, hbl⟩ := hrel
      have BW := Lib.hid (b_next B2.out hbl); have BR := Lib.hid hbl; clear hbl
      by_cases hlt : j < k
      · have hl : (j : Int) < (k : Int) := by omega
        have LI := Lib.hid (LA.out j (by omega))
        have PQ := Lib.hid fun w1 (hb : Below w.heap.size w w1) => PC.out w1 (Q j) hb
        have GO := Lib.hid (HG.out j hlt)
        have HP := Lib.hid (show pos Q (j + 1) = pos Q j + (Q j).size + 1 from rfl)
        generalize Q j = q at *
        generalize pos Q j = p at *
        obtain ⟨w3, hw3⟩ : ∃ w3, w3 = wr := ⟨_, rfl⟩
        subst hw3
        obtain ⟨n, hn⟩ : ∃ n, n = q.size := ⟨_, rfl⟩
        have HN := Lib.hid hn
        have hlt2 : p + n < s.size := by rw [hn]; exact LI.out.lt
        clear hn
        go_wp2_with fail
        go_loopw [10] (fun t wr => ∃ i : Nat, i ≤ n ∧ t = .int .i64 ((p : Int) + (i : Int)) ∧ Below w3.heap.size w3 wr) (fun t _ => p + n - (intOf t).toNat)
        case atStart => exact ⟨0, Nat.zero_le _, by simp, Below.refl _ _⟩
        case round =>
          obtain ⟨i, hi, rfl, hbl⟩ := hrel
          have BI := Lib.hid (b_next BW.out hbl); have BJ := Lib.hid (b_next BR.out hbl); have BK := Lib.hid hbl; clear hbl
          have h1 : (p : Int) + (i : Int) < (s.size : Int) := by omega
          have h1' : p + i < s.size := by omega
          have hw1 : IntKind.i64.wrap ((p : Int) + (i : Int) + 1) = (p : Int) + (i : Int) + 1 := IntWalk.i64_in _ (by omega)
          by_cases hi2 : i < n
          · obtain ⟨hne, b, hb⟩ := LI.out.ne i (by rw [← HN.out]; exact hi2)
            have hbt : (((s[p + i]'h1').toNat : Int) != 10) = true := byte_ne hb (fun e => hne (by rw [hb, e])) h1'
            clear hne hb
            go_wp2_with fail
            go_roundw
            case rel => exact ⟨i + 1, by omega, by go_num, BK.out⟩
            case measure => simp [intOf]; omega
          · obtain rfl : i = n := by omega
            have hb := LI.out.nl
            rw [← HN.out] at hb
            have hbt : (((s[p + i]'h1').toNat : Int) != 10) = false := byte_eq hb h1'
            have HCUT := Lib.hid (show s.extract p (p + i) = q by rw [HN.out]; exact LI.out.cut)
            have U1 := Lib.hid (show (min ((p : Int) + (i : Int)) (s.size : Int)).toNat = p + i by omega)
            clear hb
            go_wp2_with fail
            rw [U1.out, HCUT.out]
            have h2 : ¬ (s.size : Int) ≤ (p : Int) + (i : Int) := by omega
            clear hbt h1'
            (with_reducible refine (PQ.out _ BI.out).mono ?_); rintro e w5 ⟨hp, hb⟩
            have D5 := Lib.hid (b_next BJ.out hb); clear hb
            rcases hp with ⟨E', hE', rfl, hbad⟩ | ⟨pc, pk, pf, pt, px, py, pz, pr, v, ok, ht, rfl, hv⟩
            · have g1 : (E != 5) = false := by first | rfl | (rw [GO.out.resolve_right hbad]; rfl)
              have g2 : (E' != 0) = true := by simpa using hE'
              clear hE' hbad
              go_wp2_with fail
              go_roundw
              case rel => exact ⟨j + 1, by omega, by go_num, congrArg (Value.int .i64) (by have e1 := HP.out; have e2 := HN.out; omega), b_alloc D5.out _⟩
              case measure => simp [intOf]; omega
            · obtain ⟨A', ca, rfl⟩ := sl_slice (hv w5 fun _ _ _ h => h)
              clear ok ht hv
              go_wp2_with fail
              go_roundw
              case rel => exact ⟨j + 1, by omega, by go_num, congrArg (Value.int .i64) (by have e1 := HP.out; have e2 := HN.out; omega), b_alloc D5.out _⟩
              case measure => simp [intOf]; omega
      · obtain rfl : j = k := by omega
        have hl : ¬ (j : Int) < (j : Int) := by omega
        go_wp2_with fail
        go_ret
        exact ⟨rfl, BW.out⟩
  | ok P v h1 h2 h3 h4 h5 =>
    subst h5
    obtain ⟨A, c, rfl, hc1, hc2⟩ := pv_slice h4
    have TXs := TX.out P h1 h3
    have PRk := Lib.hid (PR.out w2 _ P B2.out h2 h4)
    have HF := Lib.hid h3.fits; have H24 := Lib.hid h2
    rw [← TXs] at *
    clear TXs h1 h2 h3 h4 hc1 hc2 hz
    go_wp2_with fail
    (with_reducible refine PRk.out.mono ?_); rintro e w3 ⟨hp, hb⟩
    have B3 := Lib.hid (b_next B2.out hb); clear hb
    rcases hp with ⟨E, -, -, hn⟩ | ⟨-, -, rfl⟩
    · exact absurd ⟨H24.out, HF.out⟩ hn
    · go_wp2_with fail
      go_ret
      exact ⟨by simp, B3.out⟩
theorem walk (s : ByteArray) (W : World) (hL : laidMetH Tryd.prog DoorP.laid W ∧ W.ShapedOpen Tryd.prog) (_h_s : s.size ≤ maxLen) (hs : s.size ≤ 1048576) : Calls Tryd.prog 8 #[.string s] W fun e w' => e = .returned (.bool true) ∧ Below W.heap.size W w' := by
  have V := DoorP.vars_of hL
  obtain ⟨m, Q, z, hlin, hpc⟩ := lines_of s
  refine core s m Q z W (by omega) (Nat.le_trans hlin.cnt (by omega)) (Classical.em _) (Lib.hid fun j hj => line_is hlin hj) (Lib.hid fun w1 hb => worksC (vars_keep hb V)) (Lib.hid fun w1 hb => parseAllC (vars_keep hb V) s (by omega) hlin hpc)
    (Lib.hid fun w1 u hb => parseC (vars_keep hb V) u) (Lib.hid fun w1 v P hb hm hv => ?_) (Lib.hid fun P hz hr => ?_)
  · obtain ⟨A, c, rfl, h1, h2⟩ := pv_slice hv
    exact pra_w A m c P w1 hm h1 (Nat.le_trans h2 (by decide)) (Lib.hid hv) (Lib.hid fun w2 k v hb2 hs => printC (vars_keep (b_next hb hb2) V) hs (P k).c (P k).k (P k).f (P k).t (P k).x (P k).y (P k).z) (Lib.hid fun w2 k s hk hb2 => knownC (pv_take (pv_keep hb2 hv) hk) s)
  · refine ba_eq ?_
    rw [tA_flat, hlin.text, hz]
    show _ = _ ++ []
    rw [List.append_nil]
    congr 1
    exact List.map_congr_left fun k hk => by rw [hr.text k (List.mem_range.1 hk)]
-- FRAME --
theorem reads (os : Os) {H : Type} (enc : TypeId × Value → H) : (DataW.whole enc Tryd.prog ((DoorP.laidWorld os).forCall (fun _ _ => 0) ⟨#[], #[.string ⟨#[]⟩], []⟩).memory Tryd.f8.params.toList (Rows.OpenSpec.upto Rows.plantextLinesSpec).vars false (#[.string ⟨#[]⟩] : Array Value).toList 8).isSome = true := by kernel_rfl

set_option maxRecDepth 100000 in
theorem lifted (os : Os) (started : os.Started) (H : Type) (enc : TypeId × Value → H) (Fi : Stop.Interp) :
    ReturnsInHanded {} Tryd.checked os 8 .any ((Rows.OpenSpec.upto Rows.plantextLinesSpec).preRow enc Tryd.prog Tryd.f8 Rows.plantextLinesUptoRow.domain false Rows.plantextLinesUptoRow.laid) (((Rows.OpenSpec.upto Rows.plantextLinesSpec).at Fi).post enc Tryd.prog Tryd.f8 false true false false) :=
  Frame.lifted_upto (s := Rows.plantextLinesSpec) (laid := DoorP.laid) (C := Tryd.checked) 8 Tryd.f8 Tryd.own started (by kernel_rfl) Tryd.func8 Tryd.laidOut rfl (by kernel_rfl) 4 rfl Tryd.underlying4
      (fun ds h => by match ds, h with | [_], _ => rfl)
      (witness_row_at (enc := enc) (C := Tryd.checked) (os := os) (s := Rows.OpenSpec.upto Rows.plantextLinesSpec) (laid := DoorP.laid) false (DoorP.laidWorld os) #[.string ⟨#[]⟩] rfl (by kernel_rfl) (by kernel_rfl) (by kernel_rfl) (OpenSpec.preRow_of_cond 8 (x := (DataW.whole enc Tryd.prog ((DoorP.laidWorld os).forCall (fun _ _ => 0) ⟨#[], #[.string ⟨#[]⟩], []⟩).memory Tryd.f8.params.toList (Rows.OpenSpec.upto Rows.plantextLinesSpec).vars false (#[.string ⟨#[]⟩] : Array Value).toList 8).get (reads os enc)) (Option.some_get _).symm (by kernel_rfl) (fun k hk => by cases hk; kernel_rfl) (by kernel_rfl) (DoorP.laidWorld_met os _)))
      (fun W base args ds ps hval0 hA _ hL hk => by
        have hval : ∀ (j : Nat) t v, Tryd.f8.params[j]? = some t → args[j]? = some v → Value.okWide Tryd.prog W .any base t v := hval0
        have hA' : DataW.TrodAll enc Tryd.prog W 0 (fun _ => true) true Tryd.f8.params.toList args.toList ds ps := hA
        clear hval0 hA
        have hA := hA'
        clear hA'
        rw [Tryd.params8] at hA hval
        obtain ⟨v0, vs0, d0, ds0, p0, q0, ea, rfl, rfl, tr0, rest0⟩ := trodAll_cons hA
        obtain ⟨rfl, rfl, rfl⟩ := trodAll_nil rest0
        obtain rfl : args = #[v0] := by cases args; simp_all
        clear ea
        obtain ⟨s, e_s⟩ := okWide_string Tryd.underlying9 (hval 0 _ v0 rfl rfl)
        subst e_s
        obtain ⟨s', e_s, z_s⟩ := (Frame.arg_cell (k := 8) (kd := .str) (by kernel_rfl) rfl tr0).str_inv
        obtain rfl : s = s' := by injection e_s
        exact walk s W hL z_s (Frame.small_str Tryd.underlying9 (hval 0 _ _ rfl rfl) tr0 hk (by simp)))

/-- The statement. -/
theorem row_holds : Rows.PlantextLinesUptoSaid :=
  OpenClaim.holds_of_cond 8 Tryd.f8 rfl rfl rfl rfl rfl rfl rfl ⟨rfl, rfl, rfl, rfl, rfl⟩ rfl rfl rfl rfl rfl (by kernel_rfl) Tryd.func8 (by kernel_rfl)
    (of_decide_eq_true (by kernel_rfl)) (by unfold Func.isWrapper; first | (rw [if_pos (by decide +kernel)]; kernel_rfl) | (rw [if_neg (by decide +kernel)]; exact ⟨rfl, rfl⟩))
    (fun os started H enc _ Fi => by rw [OpenClaim.pre_eq_preRow]; exact lifted os started H enc Fi)
/-- The tied card. -/
theorem proved : Rows.PlantextLinesUptoCardSaid :=
  Claim7.holds_tied_plain_at .later [] [.data, .data, .data, .data, .sentinel, .sentinel, .pinned] true (true, "5dce5dcba98ba92a6afee90f47916aa614be58de195b30479e8bf067400b1cbf") true
    row_holds (fun _ h => by cases h) (by kernel_rfl) (fun _ h => by cases h) plantextLinesUpto_row_tie rfl ⟨rfl, rfl⟩ (by kernel_rfl) rfl
    (fun f fn hf hfn => by
      obtain rfl : f = 8 := Option.some.inj ((show Tryd.prog.funcNamed "skyway/skywaykeep1.PlantextLines" = some 8 by kernel_rfl).symm.trans hf) |>.symm
      obtain rfl : fn = Tryd.f8 := (Option.some.inj (Tryd.func8.symm.trans hfn)).symm
      exact ⟨by kernel_rfl, fun j t ht => by
        rw [Tryd.params8] at ht
        have hall : ∀ t ∈ [9], Tryd.prog.wantsStandIn t = false := by
          intro t ht
          simp only [List.mem_cons, List.not_mem_nil, or_false] at ht
          rcases ht with rfl <;> kernel_rfl
        exact hall t (List.mem_iff_getElem?.2 ⟨j, by simpa using ht⟩)⟩)
    (by kernel_rfl)
#print axioms proved
end PlantextLines
end Go.Proofs.YtddlacjjanincaaDoor

