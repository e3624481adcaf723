/- P147: a text that Parse accepts is the text of its plan. -/
import Derived.Test.YtddlacjjanincaaDoorPtZ
import Derived.Test.YtddlacjjanincaaDoorDoorP
import Derived.Test.YtddlacjjanincaaDoorFrameE
import Derived.Test.YtddlacjjanincaaDoorCards
namespace Go.Proofs.YtddlacjjanincaaDoor
open Go.RowKit Go.ChangeShapes Go.WideShapes
namespace PlantextParses
open Kit Chart Route Plan Name Pt
set_option maxRecDepth 100000 in
set_option maxHeartbeats 4000000 in
theorem core (s : ByteArray) (w : World)
    (WK : Hid (Calls Tryd.prog 15 #[] w fun e w' => e = .returned (.bool true) ∧ Below w.heap.size w w'))
    (PA : Hid (∀ w1, Below w.heap.size w w1 → Calls Tryd.prog 18 #[.string s] w1 fun e w' => ParR w1.heap.size s e w' ∧ Below w1.heap.size w1 w'))
    (PR : Hid (∀ w1 c k f t x y z R v, Below w.heap.size w w1 → SL w1 v R → PlOk c k f t x y z R → ptext c k f t x y z R = s → Calls Tryd.prog 16 #[plan c k f t x y z v] w1 fun e w' => e = .returned (.tuple #[.string s, .int .i64 0]) ∧ Below w1.heap.size w1 w')) :
    Calls Tryd.prog 6 #[.string s] w fun e w' => e = .returned (.bool true) ∧ Below w.heap.size w w' := by
  go_enter Tryd.func6, Tryd.ntmps6
  go_wp2_with fail
  (with_reducible refine WK.out.mono ?_); rintro e w1 ⟨rfl, hb1⟩
  have B1 := Lib.hid hb1; clear hb1
  go_wp2_with fail
  (with_reducible refine (PA.out _ B1.out).mono ?_); rintro e w2 ⟨hp, hb2⟩
  have B2 := Lib.hid (b_next B1.out hb2); clear hb2
  rcases hp with ⟨E, hE, rfl, -⟩ | ⟨c, k, f, t, x, y, z, R, v, ok, ht, rfl, hvF⟩
  · have h1 : (E == 0) = false := by simpa using hE
    go_wp2_with fail
    go_ret
    exact ⟨rfl, b_alloc B2.out _⟩
  · have hv := hvF w2 fun _ _ _ h => h
    clear hvF
    obtain ⟨A, cv, rfl⟩ := sl_slice hv
    have V2 := Lib.hid hv; have OK := Lib.hid ok; have HT := Lib.hid ht; clear hv ok ht
    go_wp2_with fail
    (with_reducible refine (PR.out _ _ _ _ _ _ _ _ R _ (b_alloc B2.out _) (sl_keep (b_alloc (Below.refl _ _) _) V2.out) OK.out HT.out).mono ?_); rintro e w3 ⟨rfl, hb3⟩
    have B3 := Lib.hid (b_next (b_alloc B2.out _) hb3); clear hb3
    go_wp2_with fail
    go_ret
    exact ⟨rfl, B3.out⟩
theorem walk (s : ByteArray) (W : World) (hL : laidMetH Tryd.prog DoorP.laid W ∧ W.ShapedOpen Tryd.prog) (_h_s : s.size ≤ maxLen) : Calls Tryd.prog 6 #[.string s] W fun e w' => e = .returned (.bool true) ∧ Below W.heap.size W w' := by
  have V := DoorP.vars_of hL
  refine core s W (Lib.hid (worksC V)) (Lib.hid fun w1 hb => parseC (vars_keep hb V) s) (Lib.hid fun w1 c k f t x y z R v hb hv ok ht => ?_)
  have q := printC (vars_keep hb V) hv c k f t x y z
  rw [plan_zero ok, if_pos rfl, ht] at q
  exact q
-- FRAME --

set_option maxRecDepth 100000 in
theorem lifted (os : Os) (started : os.Started) (H : Type) (enc : TypeId × Value → H) :
    ReturnsInHanded {} Tryd.checked os 6 .any (fun w args => (Rows.plantextParsesSpec.pre enc Tryd.prog Tryd.f6 [] false w args ∧ laidMetH Tryd.prog DoorP.laid w) ∧ sizedMet enc Tryd.prog Tryd.f6 (OpenSpec.ofChange Rows.plantextParsesSpec) false w args) (Rows.plantextParsesSpec.post enc Tryd.prog Tryd.f6 false true false false) :=
  Frame.lifted_open (C := Tryd.checked) 6 Tryd.f6 Tryd.own started (by kernel_rfl) Tryd.func6 Tryd.laidOut rfl (by kernel_rfl) 4 rfl Tryd.underlying4
      (fun ds h => by match ds, h with | [_], _ => rfl)
      (ChangeSpec.witness_at (enc := enc) (C := Tryd.checked) (os := os) (X := fun w _ => laidMetH Tryd.prog DoorP.laid w) false (DoorP.laidWorld os) #[.string ⟨#[]⟩] 8 rfl (by kernel_rfl) (by kernel_rfl) (by kernel_rfl) (by kernel_rfl) (by kernel_rfl) (DoorP.laidWorld_met os _))
      (fun W base args ds ps hval0 hA _ hL => by
        have hval : ∀ (j : Nat) t v, Tryd.f6.params[j]? = some t → args[j]? = some v → Value.okWide Tryd.prog W .any base t v := hval0
        have hA' : DataW.TrodAll enc Tryd.prog W 0 (fun _ => true) true Tryd.f6.params.toList args.toList ds ps := hA
        clear hval0 hA
        have hA := hA'
        clear hA'
        rw [Tryd.params6] at hA hval
        obtain ⟨v0, vs0, d0, ds0, p0, q0, ea, rfl, rfl, tr0, rest0⟩ := trodAll_cons hA
        obtain ⟨rfl, rfl, rfl⟩ := trodAll_nil rest0
        obtain rfl : args = #[v0] := by cases args; simp_all
        clear ea
        obtain ⟨s, e_s⟩ := okWide_string Tryd.underlying9 (hval 0 _ v0 rfl rfl)
        subst e_s
        obtain ⟨s', e_s, z_s⟩ := (Frame.arg_cell (k := 8) (kd := .str) (by kernel_rfl) rfl tr0).str_inv
        obtain rfl : s = s' := by injection e_s
        exact walk s W hL z_s)

/-- The statement. -/
theorem row_holds : Rows.PlantextParsesSaid :=
  OpenClaim.holds_of_wide 6 Tryd.f6 rfl rfl rfl rfl rfl rfl rfl ⟨rfl, rfl, rfl, rfl, rfl⟩ rfl rfl rfl rfl rfl (by kernel_rfl) Tryd.func6 (by kernel_rfl)
    (of_decide_eq_true (by kernel_rfl)) (by unfold Func.isWrapper; first | (rw [if_pos (by decide +kernel)]; kernel_rfl) | (rw [if_neg (by decide +kernel)]; exact ⟨rfl, rfl⟩))
    (fun os started H enc _ => lifted os started H enc)
/-- The tied card. -/
theorem proved : Rows.PlantextParsesCardSaid :=
  Claim7.holds_tied_plain_at .later [] [.data, .data, .data, .data, .sentinel, .sentinel, .pinned] true (true, "5dce5dcba98ba92a6afee90f47916aa614be58de195b30479e8bf067400b1cbf") true
    row_holds (fun _ h => by cases h) (by kernel_rfl) (fun _ h => by cases h) plantextParses_row_tie rfl ⟨rfl, rfl⟩ (by kernel_rfl) rfl
    (fun f fn hf hfn => by
      obtain rfl : f = 6 := Option.some.inj ((show Tryd.prog.funcNamed "skyway/skywaykeep1.PlantextParses" = some 6 by kernel_rfl).symm.trans hf) |>.symm
      obtain rfl : fn = Tryd.f6 := (Option.some.inj (Tryd.func6.symm.trans hfn)).symm
      exact ⟨by kernel_rfl, fun j t ht => by
        rw [Tryd.params6] at ht
        have hall : ∀ t ∈ [9], Tryd.prog.wantsStandIn t = false := by
          intro t ht
          simp only [List.mem_cons, List.not_mem_nil, or_false] at ht
          rcases ht with rfl <;> kernel_rfl
        exact hall t (List.mem_iff_getElem?.2 ⟨j, by simpa using ht⟩)⟩)
    (by kernel_rfl)
#print axioms proved
end PlantextParses
end Go.Proofs.YtddlacjjanincaaDoor

