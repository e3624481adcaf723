/- P146, P147: Parse of the text of a plan is the plan. -/
import Derived.Test.YtddlacjjanincaaDoorPtZ
import Derived.Test.YtddlacjjanincaaDoorDoorP
import Derived.Test.YtddlacjjanincaaDoorFrameE
import Derived.Test.YtddlacjjanincaaDoorCards
namespace Go.Proofs.YtddlacjjanincaaDoor
open Go.RowKit Go.ChangeShapes Go.WideShapes
namespace PlantextPrints
open Kit Chart Route Plan Name Pt
def strOf : Value → ByteArray
  | .string s => s
  | _ => ⟨#[]⟩
theorem sl_okc {W : World} {v : Value} (h : Frame.Okc W (.sl [.str]) v) : ∃ L, SL W v L := by
  rcases h.sl_inv with rfl | ⟨a, cap, rfl, hc⟩ | ⟨b, off, len, cap, cells, rfl, h0, h1, h2, hc, ho⟩
  · exact ⟨[], Or.inl ⟨rfl, Or.inl rfl⟩⟩
  · exact ⟨[], Or.inl ⟨rfl, Or.inr ⟨a, cap, rfl, hc⟩⟩⟩
  · have hl : ((List.range len).map fun i => strOf (cells i 0)).length = len := by rw [List.length_map, List.length_range]
    refine ⟨(List.range len).map fun i => strOf (cells i 0), Or.inr ⟨by rw [hl]; exact h0, b, off, cap, by rw [hl], by rw [hl]; exact h1, h2, fun k hk => ?_⟩⟩
    rw [hl] at hk
    have e := hc k hk 0 (by decide)
    obtain ⟨s, es, -⟩ := (ho k hk 0 (by decide)).str_inv
    rw [show off + k * [Frame.Kd.str].length + 0 = off + k from by simp, es] at e
    rw [e]
    show _ = some (Value.string (((List.range len).map fun i => strOf (cells i 0)).getD k ⟨#[]⟩))
    rw [List.getD_eq_getElem?_getD, List.getElem?_map, List.getElem?_range hk]
    show _ = some (Value.string (strOf (cells k 0)))
    rw [es]; rfl
abbrev Res (c k f t : ByteArray) (x y z : Int) (v : Value) (w : World) : Prop := Calls Tryd.prog 5 #[plan c k f t x y z v] w fun e w' => e = .returned (.bool true) ∧ Below w.heap.size w w'
set_option maxRecDepth 100000 in
set_option maxHeartbeats 4000000 in
theorem core_bad (c k f t : ByteArray) (x y z : Int) (A : Option Addr) (n a : Nat) (E : Int) (w : World) (h1 : (E == 0) = false)
    (WK : Hid (∀ w1, Below w.heap.size w w1 → Calls Tryd.prog 15 #[] w1 fun e w' => e = .returned (.bool true) ∧ Below w1.heap.size w1 w'))
    (PR : Hid (∀ w1, Below w.heap.size w w1 → Calls Tryd.prog 16 #[plan c k f t x y z (.slice A n a)] w1 fun e w' => e = .returned (.tuple #[.string ⟨#[]⟩, .int .i64 E]) ∧ Below w1.heap.size w1 w'))
    (CK : Hid (∀ w1, Below w.heap.size w w1 → Calls Tryd.prog 17 #[plan c k f t x y z (.slice A n a)] w1 fun e w' => e = .returned (.int .i64 E) ∧ Below w1.heap.size w1 w')) : Res c k f t x y z (.slice A n a) w := by
  go_enter Tryd.func5, Tryd.ntmps5
  have Z0 := Lib.hid (z8_new w 39 c k f t x y z (.slice A n a))
  have W0 := Lib.hid (b_alloc (Below.refl w.heap.size w) (.cells #[.string c, .string k, .string f, .string t, .int .i64 x, .int .i64 y, .int .i64 z, .slice A n a] 39))
  go_wp2_with fail
  (with_reducible refine (WK.out _ W0.out).mono ?_); rintro e w1 ⟨rfl, hb⟩
  have B1 := Lib.hid (b_next W0.out hb); have Z1 := Lib.hid (z8_keep hb Z0.out); clear hb
  obtain ⟨⟨y0, y1, y2, y3, y4, y5, y6, y7⟩, fr⟩ := Z1.out; have z0 := fr 0; have z1 := fr 1; have z2 := fr 2; have z3 := fr 3; have z4 := fr 4; have z5 := fr 5; have z6 := fr 6; have z7 := fr 7; clear fr
  go_wp2_with fail
  (with_reducible refine (PR.out _ B1.out).mono ?_); rintro e w2 ⟨rfl, hb⟩
  have B2 := Lib.hid (b_next B1.out hb); have Z2 := Lib.hid (z8_keep hb Z1.out); clear hb
  clear y0 y1 y2 y3 y4 y5 y6 y7 z0 z1 z2 z3 z4 z5 z6 z7
  obtain ⟨⟨y0, y1, y2, y3, y4, y5, y6, y7⟩, fr⟩ := Z2.out; have z0 := fr 0; have z1 := fr 1; have z2 := fr 2; have z3 := fr 3; have z4 := fr 4; have z5 := fr 5; have z6 := fr 6; have z7 := fr 7; clear fr
  go_wp2_with fail
  (with_reducible refine (CK.out _ B2.out).mono ?_); rintro e w3 ⟨rfl, hb⟩
  have B3 := Lib.hid (b_next B2.out hb); clear hb
  go_wp2_with fail
  go_ret
  exact ⟨rfl, B3.out⟩
set_option maxRecDepth 100000 in
set_option maxHeartbeats 4000000 in
theorem core_ok (c k f t : ByteArray) (x y z : Int) (A : Option Addr) (n a : Nat) (S : ByteArray) (R : List ByteArray) (w : World) (HV : Hid (SL w (.slice A n a) R))
    (WK : Hid (∀ w1, Below w.heap.size w w1 → Calls Tryd.prog 15 #[] w1 fun e w' => e = .returned (.bool true) ∧ Below w1.heap.size w1 w'))
    (PR : Hid (∀ w1, Below w.heap.size w w1 → Calls Tryd.prog 16 #[plan c k f t x y z (.slice A n a)] w1 fun e w' => e = .returned (.tuple #[.string S, .int .i64 0]) ∧ Below w1.heap.size w1 w'))
    (PA : Hid (∀ w1, Below w.heap.size w w1 → Calls Tryd.prog 18 #[.string S] w1 fun e w' => (∃ v, e = .returned (.tuple #[plan c k f t x y z v, .int .i64 0]) ∧ SL w' v R) ∧ Below w1.heap.size w1 w'))
    (SA : Hid (∀ w1 v v', Below w.heap.size w w1 → SL w1 v R → SL w1 v' R → Calls Tryd.prog 19 #[plan c k f t x y z v, plan c k f t x y z v'] w1 fun e w' => e = .returned (.bool true) ∧ Below w1.heap.size w1 w')) : Res c k f t x y z (.slice A n a) w := by
  go_enter Tryd.func5, Tryd.ntmps5
  have Z0 := Lib.hid (z8_new w 39 c k f t x y z (.slice A n a))
  have W0 := Lib.hid (b_alloc (Below.refl w.heap.size w) (.cells #[.string c, .string k, .string f, .string t, .int .i64 x, .int .i64 y, .int .i64 z, .slice A n a] 39))
  go_wp2_with fail
  (with_reducible refine (WK.out _ W0.out).mono ?_); rintro e w1 ⟨rfl, hb⟩
  have B1 := Lib.hid (b_next W0.out hb); have Z1 := Lib.hid (z8_keep hb Z0.out); clear hb
  obtain ⟨⟨y0, y1, y2, y3, y4, y5, y6, y7⟩, fr⟩ := Z1.out; have z0 := fr 0; have z1 := fr 1; have z2 := fr 2; have z3 := fr 3; have z4 := fr 4; have z5 := fr 5; have z6 := fr 6; have z7 := fr 7; clear fr
  go_wp2_with fail
  (with_reducible refine (PR.out _ B1.out).mono ?_); rintro e w2 ⟨rfl, hb⟩
  have B2 := Lib.hid (b_next B1.out hb); have Z2 := Lib.hid (z8_keep hb Z1.out); clear hb
  clear y0 y1 y2 y3 y4 y5 y6 y7 z0 z1 z2 z3 z4 z5 z6 z7
  go_wp2_with fail
  (with_reducible refine (PA.out _ B2.out).mono ?_); rintro e w3 ⟨⟨v, rfl, hv⟩, hb⟩
  obtain ⟨A', a', rfl⟩ := sl_slice hv
  have V3 := Lib.hid (sl_keep (b_alloc (Below.refl _ _) (.cells #[.string c, .string k, .string f, .string t, .int .i64 x, .int .i64 y, .int .i64 z, .slice A' R.length a'] 39)) hv)
  have B3 := Lib.hid (b_alloc (b_next B2.out hb) (.cells #[.string c, .string k, .string f, .string t, .int .i64 x, .int .i64 y, .int .i64 z, .slice A' R.length a'] 39))
  have Z3 := Lib.hid (z8_keep (b_alloc (Below.refl _ _) (.cells #[.string c, .string k, .string f, .string t, .int .i64 x, .int .i64 y, .int .i64 z, .slice A' R.length a'] 39)) (z8_keep hb Z2.out))
  clear hb hv
  obtain ⟨⟨y0, y1, y2, y3, y4, y5, y6, y7⟩, fr⟩ := Z3.out; have z0 := fr 0; have z1 := fr 1; have z2 := fr 2; have z3 := fr 3; have z4 := fr 4; have z5 := fr 5; have z6 := fr 6; have z7 := fr 7; clear fr
  go_wp2_with fail
  (with_reducible refine (SA.out _ _ _ B3.out (sl_keep B3.out HV.out) V3.out).mono ?_); rintro e w4 ⟨rfl, hb⟩
  have B4 := Lib.hid (b_next B3.out hb); clear hb
  go_wp2_with fail
  go_ret
  exact ⟨rfl, B4.out⟩
theorem walk (p_call p_kind p_from p_to : ByteArray) (p_off p_speed p_height : Int) (p_route : Value) (W : World) (hL : laidMetH Tryd.prog DoorP.laid W ∧ W.ShapedOpen Tryd.prog) (_h0 : p_call.size ≤ maxLen) (_h1 : p_kind.size ≤ maxLen) (_h2 : p_from.size ≤ maxLen) (_h3 : p_to.size ≤ maxLen) (_h4 : -9223372036854775808 ≤ p_off ∧ p_off ≤ 9223372036854775807) (_h5 : -9223372036854775808 ≤ p_speed ∧ p_speed ≤ 9223372036854775807) (_h6 : -9223372036854775808 ≤ p_height ∧ p_height ≤ 9223372036854775807) (h_r : Frame.Okc W (.sl [.str]) p_route) :
    Calls Tryd.prog 5 #[plan p_call p_kind p_from p_to p_off p_speed p_height p_route] W fun e w' => e = .returned (.bool true) ∧ Below W.heap.size W w' := by
  have V := DoorP.vars_of hL
  obtain ⟨R, hr⟩ := sl_okc h_r
  have WK := Lib.hid fun w1 (hb : Below W.heap.size W w1) => worksC (vars_keep hb V)
  have q := fun w1 (hb : Below W.heap.size W w1) => printC (vars_keep hb V) (sl_keep hb hr) p_call p_kind p_from p_to p_off p_speed p_height
  have hs := sl_slice hr
  by_cases e : planE p_call p_kind p_from p_to p_off p_speed p_height R.length (rtF R) = 0
  · rw [e, if_pos rfl] at q
    have ok := plan_ok e
    obtain ⟨A, a, rfl⟩ := hs
    refine core_ok _ _ _ _ _ _ _ A R.length a _ R W (Lib.hid hr) WK (Lib.hid q) (Lib.hid fun w1 hb => (parseC (vars_keep hb V) _).mono ?_) (Lib.hid fun w1 v v' _ hv hv' => (samePlanC _ _ _ _ _ _ _ _ _ _ _ _ _ _ hv hv').mono ?_)
    · rintro e w' ⟨hp, hb'⟩
      refine ⟨?_, hb'⟩
      rcases hp with ⟨E, -, -, hg⟩ | ⟨c, k, f, t, x, y, z, R', v, ok', ht, he, hv⟩
      · exact absurd ⟨_, _, _, _, _, _, _, _, ok, rfl⟩ hg
      · obtain ⟨rfl, rfl, rfl, rfl, rfl, rfl, rfl, rfl⟩ := text_inj ok' ok ht
        exact ⟨v, he, hv w' fun _ _ _ h => h⟩
    · rintro e w' ⟨⟨b, rfl, hq⟩, hb'⟩
      refine ⟨?_, hb'⟩
      have : b = true := hq.2 ⟨⟨rfl, rfl, rfl, rfl, rfl, rfl, rfl⟩, same_lists.2 rfl⟩
      rw [this]
  · rw [if_neg e] at q
    have CK := fun w1 (hb : Below W.heap.size W w1) => checkC (c := p_call) (k := p_kind) (f := p_from) (t := p_to) (off := p_off) (sp := p_speed) (h := p_height) hr w1 hb
    obtain ⟨A, a, rfl⟩ := hs
    exact core_bad _ _ _ _ _ _ _ A R.length a _ W (by simpa using e) WK (Lib.hid q) (Lib.hid CK)
-- FRAME --

set_option maxRecDepth 100000 in
theorem lifted (os : Os) (started : os.Started) (H : Type) (enc : TypeId × Value → H) :
    ReturnsInHanded {} Tryd.checked os 5 .any (fun w args => (Rows.plantextPrintsSpec.pre enc Tryd.prog Tryd.f5 [] false w args ∧ laidMetH Tryd.prog DoorP.laid w) ∧ sizedMet enc Tryd.prog Tryd.f5 (OpenSpec.ofChange Rows.plantextPrintsSpec) false w args) (Rows.plantextPrintsSpec.post enc Tryd.prog Tryd.f5 false true false false) :=
  Frame.lifted_open (C := Tryd.checked) 5 Tryd.f5 Tryd.own started (by kernel_rfl) Tryd.func5 Tryd.laidOut rfl (by kernel_rfl) 4 rfl Tryd.underlying4
      (fun ds h => by match ds, h with | [_], _ => rfl)
      (ChangeSpec.witness_at (enc := enc) (C := Tryd.checked) (os := os) (X := fun w _ => laidMetH Tryd.prog DoorP.laid w) false (DoorP.laidWorld os) #[.agg #[.string ⟨#[]⟩, .string ⟨#[]⟩, .string ⟨#[]⟩, .string ⟨#[]⟩, .int .i64 0, .int .i64 0, .int .i64 0, .slice none 0 0]] 8 rfl (by kernel_rfl) (by kernel_rfl) (by kernel_rfl) (by kernel_rfl) (by kernel_rfl) (DoorP.laidWorld_met os _))
      (fun W base args ds ps hval0 hA _ hL => by
        have hval : ∀ (j : Nat) t v, Tryd.f5.params[j]? = some t → args[j]? = some v → Value.okWide Tryd.prog W .any base t v := hval0
        have hA' : DataW.TrodAll enc Tryd.prog W 0 (fun _ => true) true Tryd.f5.params.toList args.toList ds ps := hA
        clear hval0 hA
        have hA := hA'
        clear hA'
        rw [Tryd.params5] at hA hval
        obtain ⟨v0, vs0, d0, ds0, p0, q0, ea, rfl, rfl, tr0, rest0⟩ := trodAll_cons hA
        obtain ⟨rfl, rfl, rfl⟩ := trodAll_nil rest0
        obtain rfl : args = #[v0] := by cases args; simp_all
        clear ea
        obtain ⟨cs_p, e_p, hl_p, hc_p⟩ := Frame.arg_agg Tryd.underlying39 (k := 8) (ks := [.str, .str, .str, .str, .int, .int, .int, .sl [.str]]) (by kernel_rfl) (hval 0 _ v0 rfl rfl) tr0
        subst e_p
        obtain ⟨c_p_call, c_p_kind, c_p_from, c_p_to, c_p_off, c_p_speed, c_p_height, c_p_route, rfl⟩ : ∃ c_p_call c_p_kind c_p_from c_p_to c_p_off c_p_speed c_p_height c_p_route, cs_p = [c_p_call, c_p_kind, c_p_from, c_p_to, c_p_off, c_p_speed, c_p_height, c_p_route] := by match cs_p, hl_p with | [x0, x1, x2, x3, x4, x5, x6, x7], _ => exact ⟨x0, x1, x2, x3, x4, x5, x6, x7, rfl⟩
        have o_p_call : Frame.Okc W (.str) c_p_call := hc_p 0 (by decide) (by simp)
        obtain ⟨p_call, e_p_call, w_p_call⟩ := o_p_call.str_inv; subst e_p_call
        have o_p_kind : Frame.Okc W (.str) c_p_kind := hc_p 1 (by decide) (by simp)
        obtain ⟨p_kind, e_p_kind, w_p_kind⟩ := o_p_kind.str_inv; subst e_p_kind
        have o_p_from : Frame.Okc W (.str) c_p_from := hc_p 2 (by decide) (by simp)
        obtain ⟨p_from, e_p_from, w_p_from⟩ := o_p_from.str_inv; subst e_p_from
        have o_p_to : Frame.Okc W (.str) c_p_to := hc_p 3 (by decide) (by simp)
        obtain ⟨p_to, e_p_to, w_p_to⟩ := o_p_to.str_inv; subst e_p_to
        have o_p_off : Frame.Okc W (.int) c_p_off := hc_p 4 (by decide) (by simp)
        obtain ⟨p_off, e_p_off, w_p_off⟩ := o_p_off.int_inv; subst e_p_off
        have o_p_speed : Frame.Okc W (.int) c_p_speed := hc_p 5 (by decide) (by simp)
        obtain ⟨p_speed, e_p_speed, w_p_speed⟩ := o_p_speed.int_inv; subst e_p_speed
        have o_p_height : Frame.Okc W (.int) c_p_height := hc_p 6 (by decide) (by simp)
        obtain ⟨p_height, e_p_height, w_p_height⟩ := o_p_height.int_inv; subst e_p_height
        have o_p_route : Frame.Okc W (.sl [.str]) c_p_route := hc_p 7 (by decide) (by simp)
        exact walk p_call p_kind p_from p_to p_off p_speed p_height c_p_route W hL w_p_call w_p_kind w_p_from w_p_to w_p_off w_p_speed w_p_height o_p_route)

/-- The statement. -/
theorem row_holds : Rows.PlantextPrintsSaid :=
  OpenClaim.holds_of_wide 5 Tryd.f5 rfl rfl rfl rfl rfl rfl rfl ⟨rfl, rfl, rfl, rfl, rfl⟩ rfl rfl rfl rfl rfl (by kernel_rfl) Tryd.func5 (by kernel_rfl)
    (of_decide_eq_true (by kernel_rfl)) (by unfold Func.isWrapper; first | (rw [if_pos (by decide +kernel)]; kernel_rfl) | (rw [if_neg (by decide +kernel)]; exact ⟨rfl, rfl⟩))
    (fun os started H enc _ => lifted os started H enc)
/-- The tied card. -/
theorem proved : Rows.PlantextPrintsCardSaid :=
  Claim7.holds_tied_plain_at .later [] [.data, .data, .data, .data, .sentinel, .sentinel, .pinned] true (true, "5dce5dcba98ba92a6afee90f47916aa614be58de195b30479e8bf067400b1cbf") true
    row_holds (fun _ h => by cases h) (by kernel_rfl) (fun _ h => by cases h) plantextPrints_row_tie rfl ⟨rfl, rfl⟩ (by kernel_rfl) rfl
    (fun f fn hf hfn => by
      obtain rfl : f = 5 := Option.some.inj ((show Tryd.prog.funcNamed "skyway/skywaykeep1.PlantextPrints" = some 5 by kernel_rfl).symm.trans hf) |>.symm
      obtain rfl : fn = Tryd.f5 := (Option.some.inj (Tryd.func5.symm.trans hfn)).symm
      exact ⟨by kernel_rfl, fun j t ht => by
        rw [Tryd.params5] at ht
        have hall : ∀ t ∈ [39], Tryd.prog.wantsStandIn t = false := by
          intro t ht
          simp only [List.mem_cons, List.not_mem_nil, or_false] at ht
          rcases ht with rfl <;> kernel_rfl
        exact hall t (List.mem_iff_getElem?.2 ⟨j, by simpa using ht⟩)⟩)
    (by kernel_rfl)
#print axioms proved
end PlantextPrints
end Go.Proofs.YtddlacjjanincaaDoor

