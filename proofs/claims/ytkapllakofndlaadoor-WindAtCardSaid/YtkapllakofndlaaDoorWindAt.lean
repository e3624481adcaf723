/- WindAt: the band that is returned contains the height. For every input, where math's tables read as Go's library lays them. -/
import Derived.Test.YtkapllakofndlaaDoorWindM
import Derived.Test.YtkapllakofndlaaDoorDoorA
import Derived.Test.YtkapllakofndlaaDoorShapes
import Derived.Test.YtkapllakofndlaaDoorCards
namespace Go.Proofs.YtkapllakofndlaaDoor
open Go.RowKit Go.ChangeShapes Go.WideShapes
namespace WindAt
open Kit Ang Num Plane Wind
abbrev WkT : Prop := ∀ w1 : World, Tabs w1 → Calls Tryd.prog 21 #[] w1 fun e w' => e = .returned (.bool true) ∧ Below w1.heap.size w1 w'
set_option maxRecDepth 100000 in
set_option maxHeartbeats 2000000 in
theorem go_bad (v : Value) (h E : Int) (w : World) (hE1 : (E != 0) = true) (WK : Hid (Calls Tryd.prog 21 #[] w fun e w' => e = .returned (.bool true) ∧ Below w.heap.size w w'))
    (AT : Hid (∀ w1, Below w.heap.size w w1 → Calls Tryd.prog 24 #[v, .int .i64 h] w1 fun e w' => e = .returned (.tuple #[band 0 0 0 0 0, .int .i64 E]) ∧ Below w1.heap.size w1 w')) :
    Calls Tryd.prog 10 #[v, .int .i64 h] w fun e w' => e = .returned (.bool true) ∧ Below w.heap.size w w' := by
  have hE0 : (E == 0) = false := by simpa using hE1
  go_enter Tryd.func10, Tryd.ntmps10
  go_wp2_with fail
  (with_reducible refine WK.out.mono ?_); rintro e w1 ⟨rfl, hb⟩
  have W1 := Lib.hid hb; clear hb
  go_wp2_with fail
  (with_reducible refine (AT.out _ W1.out).mono ?_); rintro e w2 ⟨rfl, hb⟩
  have W2 := Lib.hid (b_next W1.out hb); clear hb
  have W3 := Lib.hid (b_alloc W2.out (.cells #[.int .i64 0, .int .i64 0, .int .i64 0, .int .i64 0, .int .i64 0] 38))
  go_wp2_with fail
  go_ret
  exact ⟨by first | rfl | exact retb rfl | exact retb (by simp), W3.out⟩
def Kn (i j : Nat) (b : Bool) : Prop := i < j → b = true
set_option maxRecDepth 100000 in
set_option maxHeartbeats 4000000 in
theorem go_none (A : Option Addr) (cap : Nat) (h : Int) (w : World) (hh : 0 ≤ h ∧ h ≤ 60000) (WK : Hid (Calls Tryd.prog 21 #[] w fun e w' => e = .returned (.bool true) ∧ Below w.heap.size w w'))
    (AT : Hid (∀ w1, Below w.heap.size w w1 → Calls Tryd.prog 24 #[.slice A 0 cap, .int .i64 h] w1 fun e w' => e = .returned (.tuple #[band 0 60001 0 0 0, .int .i64 0]) ∧ Below w1.heap.size w1 w')) :
    Calls Tryd.prog 10 #[.slice A 0 cap, .int .i64 h] w fun e w' => e = .returned (.bool true) ∧ Below w.heap.size w w' := by
  go_enter Tryd.func10, Tryd.ntmps10
  go_wp2_with fail
  (with_reducible refine WK.out.mono ?_); rintro e w1 ⟨rfl, hb⟩
  have W1 := Lib.hid hb; clear hb
  go_wp2_with fail
  (with_reducible refine (AT.out _ W1.out).mono ?_); rintro e w2 ⟨rfl, hb⟩
  have W2 := Lib.hid (b_next W1.out hb); clear hb
  obtain ⟨w3, hw3⟩ : ∃ w3, w3 = w2.alloc (.cells #[.int .i64 0, .int .i64 60001, .int .i64 0, .int .i64 0, .int .i64 0] 38) := ⟨_, rfl⟩
  have W3 : Hid (Below w.heap.size w w3) := Lib.hid (by rw [hw3]; exact b_alloc W2.out _)
  have N3 : Hid (N5 w3 w2.heap.size 0 0 60001 0 0 0) := Lib.hid (by rw [hw3]; exact n5_new _ _ _ _ _ _ _)
  have H3 := Lib.hid hw3.symm; clear hw3
  go_wp2_with fail
  rw [H3.out]
  go_loopw [7, 25] (fun kn s wr => kn = .bool false ∧ s = .int .i64 0 ∧ w3 = wr) (fun _ _ _ => 0)
  case atStart => exact ⟨rfl, rfl, rfl⟩
  case round =>
    obtain ⟨rfl, rfl, rfl⟩ := hrel
    obtain ⟨c0, c1, c2, c3, c4⟩ := N3.out
    rw [Nat.zero_add] at c1 c2 c3 c4
    clear H3
    go_wp2_with fail
    all_goals first | (exfalso; omega) | (go_ret; exact ⟨by first | rfl | exact retb rfl | exact retb (by simp), W3.out⟩)
set_option maxRecDepth 100000 in
set_option maxHeartbeats 4000000 in
theorem go (n cap b off i : Nat) (L H X Y E : Nat → Int) (h bl bh bx by' be : Int) (w : World) (hc : n ≤ cap) (hm : cap ≤ 9223372036854775807) (HV : Hid (∀ k, k < n → N5 w b (off + k * 5) (L k) (H k) (X k) (Y k) (E k)))
    (hh : 0 ≤ h ∧ h ≤ 60000) (hl : bl ≤ h) (hg : h < bh) (HB : Hid (i < n → bl = L i ∧ bh = H i ∧ bx = X i ∧ by' = Y i ∧ be = E i)) (HD : Hid (¬ i < n → bl = 0 ∧ bh = 60001 ∧ bx = 0 ∧ by' = 0 ∧ be = 0))
    (WK : Hid (Calls Tryd.prog 21 #[] w fun e w' => e = .returned (.bool true) ∧ Below w.heap.size w w'))
    (AT : Hid (∀ w1, Below w.heap.size w w1 → Calls Tryd.prog 24 #[.slice (some ⟨b, off, none⟩) n cap, .int .i64 h] w1 fun e w' => e = .returned (.tuple #[band bl bh bx by' be, .int .i64 0]) ∧ Below w1.heap.size w1 w')) :
    Calls Tryd.prog 10 #[.slice (some ⟨b, off, none⟩) n cap, .int .i64 h] w fun e w' => e = .returned (.bool true) ∧ Below w.heap.size w w' := by
  have t1 := decide_eq_true hl
  have t2 := decide_eq_true hg
  go_enter Tryd.func10, Tryd.ntmps10
  go_wp2_with fail
  (with_reducible refine WK.out.mono ?_); rintro e w1 ⟨rfl, hb⟩
  have W1 := Lib.hid hb; clear hb
  go_wp2_with fail
  (with_reducible refine (AT.out _ W1.out).mono ?_); rintro e w2 ⟨rfl, hb⟩
  have W2 := Lib.hid (b_next W1.out hb); clear hb
  obtain ⟨w3, hw3⟩ : ∃ w3, w3 = w2.alloc (.cells #[.int .i64 bl, .int .i64 bh, .int .i64 bx, .int .i64 by', .int .i64 be] 38) := ⟨_, rfl⟩
  have W3 : Hid (Below w.heap.size w w3) := Lib.hid (by rw [hw3]; exact b_alloc W2.out _)
  have N3 : Hid (N5 w3 w2.heap.size 0 bl bh bx by' be) := Lib.hid (by rw [hw3]; exact n5_new _ _ _ _ _ _ _)
  have H3 := Lib.hid hw3.symm; clear hw3
  go_wp2_with fail
  rw [H3.out]
  go_loopw [7, 25] (fun kn s wr => ∃ k : Nat, k ≤ n ∧ s = .int .i64 k ∧ ∃ bb : Bool, kn = .bool bb ∧ Kn i k bb ∧ Below w3.heap.size w3 wr) (fun _ s _ => n - (intOf s).toNat)
  case atStart => exact ⟨0, Nat.zero_le _, rfl, false, rfl, fun h => absurd h (Nat.not_lt_zero _), Below.refl _ _⟩
  case round =>
    obtain ⟨k, hk, rfl, bb, rfl, hkn, hbl⟩ := hrel
    have HK := Lib.hid hkn; have WR := Lib.hid hbl; have WT := Lib.hid (b_next W3.out hbl); clear hkn
    obtain ⟨d0, d1, d2, d3, d4⟩ := n5_keep hbl N3.out
    rw [Nat.zero_add] at d1 d2 d3 d4
    have nn := new_ne d0
    by_cases hlt : k < n
    · have hl' : (k : Int) < (n : Int) := by omega
      obtain ⟨c0, c1, c2, c3, c4⟩ := n5_keep WT.out (HV.out k hlt)
      have WZ := Lib.hid (b_alloc WR.out (.cells #[.int .i64 (L k), .int .i64 (H k), .int .i64 (X k), .int .i64 (Y k), .int .i64 (E k)] 38))
      have HT : Hid (Kn i (k + 1) true) := Lib.hid fun _ => rfl
      clear hbl t1 t2 H3
      by_cases hik : i = k
      · subst hik
        obtain ⟨rfl, rfl, rfl, rfl, rfl⟩ := HB.out hlt
        clear HB HD
        generalize L i = l at *
        generalize H i = hh' at *
        generalize X i = x at *
        generalize Y i = y at *
        generalize E i = er at *
        cases bb
        all_goals
          go_wp2_with fail
          all_goals first | (exfalso; omega) | exact ⟨⟨i + 1, by omega, by go_num, true, rfl, HT.out, WZ.out⟩, by simp [intOf]; omega⟩
      · have HF : Hid (∀ b, ¬ i < k → Kn i (k + 1) b) := Lib.hid fun b h1 h2 => absurd h2 (by omega)
        generalize L k = l at *
        generalize H k = hh' at *
        generalize X k = x at *
        generalize Y k = y at *
        generalize E k = er at *
        cases bb
        · have hik2 : ¬ i < k := fun h => by have := HK.out h; cases this
          go_wp2_with fail
          all_goals first | (exfalso; omega) | exact ⟨⟨k + 1, by omega, by go_num, _, rfl, HF.out _ hik2, b_alloc WR.out _⟩, by simp [intOf]; omega⟩
        · go_wp2_with fail
          all_goals first | (exfalso; omega) | exact ⟨⟨k + 1, by omega, by go_num, true, rfl, HT.out, WZ.out⟩, by simp [intOf]; omega⟩
    · have hl' : ¬ (k : Int) < (n : Int) := by omega
      clear hbl
      cases bb
      · obtain ⟨rfl, rfl, rfl, rfl, rfl⟩ := HD.out (fun h => by have := HK.out (by omega); cases this)
        go_wp2_with fail
        all_goals first | (exfalso; omega) | (go_ret; exact ⟨by first | rfl | exact retb rfl | exact retb (by simp), WT.out⟩)
      · go_wp2_with fail
        all_goals first | (exfalso; omega) | (go_ret; exact ⟨by first | rfl | exact retb rfl | exact retb (by simp), WT.out⟩)
theorem walk (l : Value) (height : Int) (W : World) (hL : laidMetH Tryd.prog Door.laid W) (h_l : Frame.Okc W (.sl [.int, .int, .int, .int, .int]) l) (_h_height : -9223372036854775808 ≤ height ∧ height ≤ 9223372036854775807) :
    Calls Tryd.prog 10 #[l, .int .i64 height] W fun e w' => e = .returned (.bool true) ∧ Below W.heap.size W w' := by
  have T := Door.tabs_of hL
  have WK := Wind.works W T
  obtain ⟨n, L, H, X, Y, E, hv, -⟩ := wv_of h_l
  by_cases he : atE L H X Y E n height = 0
  · have AT := fun w1 (hb : Below W.heap.size W w1) => atC_ok (wv_keep hb hv) he
    have hw : wck L H X Y E n = 0 ∧ 0 ≤ height ∧ height ≤ 60000 := by
      unfold atE at he
      by_cases hz : wck L H X Y E n ≠ 0
      · rw [if_pos hz] at he; exact absurd he hz
      · rw [if_neg hz] at he
        by_cases hh : height < 0 ∨ 60000 < height
        · rw [if_pos hh] at he; cases he
        · exact ⟨Classical.not_not.1 hz, by omega⟩
    have fs := fi_spec (L := L) (H := H) (h := height) (n := n)
    rcases hv with ⟨h0, hs⟩ | ⟨h0, b, off, cap, rfl, h1, h2, h3⟩
    · subst h0
      have e : ∀ f d i, pickW f d i 0 = d := fun f d i => by unfold pickW; rw [if_neg (Nat.not_lt_zero _)]
      simp only [e] at AT
      rcases hs with rfl | ⟨a, cap, rfl, -⟩
      · exact go_none _ _ height W hw.2 (Lib.hid WK) (Lib.hid AT)
      · exact go_none _ _ height W hw.2 (Lib.hid WK) (Lib.hid AT)
    · generalize fi L H height n = i at *
      have hb : pickW L 0 i n ≤ height ∧ height < pickW H 60001 i n := by
        unfold pickW
        by_cases hi : i < n
        · rw [if_pos hi, if_pos hi]; exact fs.2 hi
        · rw [if_neg hi, if_neg hi]; omega
      exact go n cap b off i L H X Y E height _ _ _ _ _ W h1 (Nat.le_trans h2 (by decide)) (Lib.hid h3) hw.2 hb.1 hb.2
        (Lib.hid fun hi => by unfold pickW; simp only [if_pos hi, and_self]) (Lib.hid fun hi => by unfold pickW; simp only [if_neg hi, and_self]) (Lib.hid WK) (Lib.hid AT)
  · have AT := fun w1 (hb : Below W.heap.size W w1) => atC_bad (wv_keep hb hv) he
    exact go_bad l height _ W (by simpa using he) (Lib.hid WK) (Lib.hid AT)
-- FRAME --

set_option maxRecDepth 100000 in
theorem lifted (os : Os) (started : os.Started) (H : Type) (enc : TypeId × Value → H) :
    ReturnsInHanded {} Tryd.checked os 10 .any (fun w args => (Rows.windAtSpec.pre enc Tryd.prog Tryd.f10 [] false w args ∧ laidMetH Tryd.prog Door.laid w) ∧ sizedMet enc Tryd.prog Tryd.f10 (OpenSpec.ofChange Rows.windAtSpec) false w args) (Rows.windAtSpec.post enc Tryd.prog Tryd.f10 false true false false) :=
  Frame.lifted_laid (C := Tryd.checked) 10 Tryd.f10 Tryd.own started (by kernel_rfl) Tryd.func10 Tryd.laidOut rfl (by kernel_rfl) 4 rfl Tryd.underlying4
      (fun ds h => by match ds, h with | [_, _], _ => rfl)
      (ChangeSpec.witness_at (enc := enc) (C := Tryd.checked) (os := os) (X := fun w _ => laidMetH Tryd.prog Door.laid w) false (Door.laidWorld os) #[.slice none 0 0, .int .i64 0] 8 rfl (by kernel_rfl) (by kernel_rfl) (by kernel_rfl) (by kernel_rfl) (by kernel_rfl) (Door.laidWorld_met os _))
      (fun W base args ds ps hval0 hA _ hL => by
        have hval : ∀ (j : Nat) t v, Tryd.f10.params[j]? = some t → args[j]? = some v → Value.okWide Tryd.prog W .any base t v := hval0
        have hA' : DataW.TrodAll enc Tryd.prog W 0 (fun _ => true) true Tryd.f10.params.toList args.toList ds ps := hA
        clear hval0 hA
        have hA := hA'
        clear hA'
        rw [Tryd.params10] at hA hval
        obtain ⟨v0, vs0, d0, ds0, p0, q0, ea, rfl, rfl, tr0, rest0⟩ := trodAll_cons hA
        obtain ⟨v1, vs1, d1, ds1, p1, q1, rfl, rfl, rfl, tr1, rest1⟩ := trodAll_cons rest0
        obtain ⟨rfl, rfl, rfl⟩ := trodAll_nil rest1
        obtain rfl : args = #[v0, v1] := by cases args; simp_all
        clear ea
        have sl_l : Frame.Okc W (.sl [.int, .int, .int, .int, .int]) v0 := by obtain ⟨a, l, c, e⟩ := okWide_slice Tryd.underlying42 (hval 0 _ v0 rfl rfl); exact Frame.arg_cell (k := 8) (by kernel_rfl) (by have e2 : v0 = .slice a l c := e; rw [e2]; rfl) tr0
        obtain ⟨height, rfl, w_height⟩ := Frame.arg_int Tryd.underlying3 (hval 1 _ v1 rfl rfl)
        exact walk v0 height W hL sl_l (Frame.bd w_height))

/-- The statement. -/
theorem row_holds : Rows.WindAtSaid :=
  OpenClaim.holds_of_wide 10 Tryd.f10 rfl rfl rfl rfl rfl rfl rfl ⟨rfl, rfl, rfl, rfl, rfl⟩ rfl rfl rfl rfl rfl (by kernel_rfl) Tryd.func10 (by kernel_rfl)
    (of_decide_eq_true (by kernel_rfl)) (by unfold Func.isWrapper; first | (rw [if_pos (by decide +kernel)]; kernel_rfl) | (rw [if_neg (by decide +kernel)]; exact ⟨rfl, rfl⟩))
    (fun os started H enc _ => lifted os started H enc)
/-- The tied card. -/
theorem proved : Rows.WindAtCardSaid :=
  Claim7.holds_tied_plain_at .later [] [.data, .data, .data] true (true, "6deb9ba2cff43c15501a76bdf9cd322ddee03e505f7501aaf9f3e71c3bb480ce") false
    row_holds (fun _ h => by cases h) (by kernel_rfl) (fun _ h => by cases h) windAt_row_tie rfl ⟨rfl, rfl⟩ (by kernel_rfl) rfl
    (fun f fn hf hfn => by
      obtain rfl : f = 10 := Option.some.inj ((show Tryd.prog.funcNamed "skyway/skywaykeep1.WindAt" = some 10 by kernel_rfl).symm.trans hf) |>.symm
      obtain rfl : fn = Tryd.f10 := (Option.some.inj (Tryd.func10.symm.trans hfn)).symm
      exact ⟨by kernel_rfl, fun j t ht => by
        rw [Tryd.params10] at ht
        have hall : ∀ t ∈ [42, 3], Tryd.prog.wantsStandIn t = false := by
          intro t ht
          simp only [List.mem_cons, List.not_mem_nil, or_false] at ht
          rcases ht with rfl | rfl <;> kernel_rfl
        exact hall t (List.mem_iff_getElem?.2 ⟨j, by simpa using ht⟩)⟩)
    (by kernel_rfl)
#print axioms proved
end WindAt
end Go.Proofs.YtkapllakofndlaaDoor

