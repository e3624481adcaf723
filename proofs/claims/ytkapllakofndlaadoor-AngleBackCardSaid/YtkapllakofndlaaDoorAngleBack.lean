/- AngleBack: the direction of a long vector is that with which it was made, and its length is about as asked for. For every input, where math's tables read as Go's library lays them. -/
import Derived.Test.YtkapllakofndlaaDoorBack
import Derived.Test.YtkapllakofndlaaDoorDoorA
import Derived.Test.YtkapllakofndlaaDoorShapes
import Derived.Test.YtkapllakofndlaaDoorCards
namespace Go.Proofs.YtkapllakofndlaaDoor
open Go.RowKit Go.ChangeShapes Go.WideShapes
namespace AngleBack
open Kit Ang Plane
theorem len_eq (n : Int) : (n.tmod 1000000 + 1000000).tmod 1000000 = n % 1000000 ∧ -1000000 ≤ n.tmod 1000000 ∧ n.tmod 1000000 < 1000000 := by
  have h : n.tmod 1000000 = n % 1000000 ∨ n.tmod 1000000 = n % 1000000 - 1000000 := by
    rcases (show 0 ≤ n ∨ n < 0 by omega) with h0 | h0
    · exact Or.inl (Int.tmod_eq_emod_of_nonneg h0)
    · have e : n.tmod 1000000 = -((-n) % 1000000) := by
        rw [← Int.tmod_eq_emod_of_nonneg (show 0 ≤ -n by omega), Int.neg_tmod, Int.neg_neg]
      rw [e]; omega
  generalize n.tmod 1000000 = a at *
  refine ⟨?_, by omega, by omega⟩
  rw [Int.tmod_eq_emod_of_nonneg (show 0 ≤ a + 1000000 by omega)]
  omega
abbrev Arg (x : Int) : Prop := -9223372036854775808 ≤ x ∧ x ≤ 9223372036854775807
set_option maxRecDepth 100000 in
set_option maxHeartbeats 2000000 in
theorem go (h n a m L K x y r lo hi : Int) (w : World) (ea : n.tmod 1000000 = a) (em : (a + 1000000).tmod 1000000 = m) (ba : -1000000 ≤ a ∧ a < 1000000) (bm : 0 ≤ m ∧ m < 1000000) (hL : Hid (10000 + m = L)) (eK : Hid (L / 16384 = K)) (_bx : -2000000 ≤ x ∧ x ≤ 2000000) (_by : -2000000 ≤ y ∧ y ≤ 2000000)
    (d1 : L - 2 - K ≤ lo) (d2 : hi ≤ L + 2 + K)
    (WK : Hid (Calls Tryd.prog 13 #[] w fun e w' => e = .returned (.bool true) ∧ w = w'))
    (VC : Hid (∀ w1, Below w.heap.size w w1 → Calls Tryd.prog 19 #[.int .i64 h, .int .i64 L] w1 fun e w' => e = .returned (.tuple #[.agg #[.int .i64 x, .int .i64 y], .int .i64 0]) ∧ Below w1.heap.size w1 w'))
    (OC : Hid (∀ w1, Below w.heap.size w w1 → Calls Tryd.prog 18 #[.agg #[.int .i64 x, .int .i64 y]] w1 fun e w' => e = .returned (.tuple #[.int .i64 r, .int .i64 0]) ∧ Below w1.heap.size w1 w'))
    (DC : Hid (∀ w1, Calls Tryd.prog 20 #[.agg #[.int .i64 0, .int .i64 0], .agg #[.int .i64 x, .int .i64 y]] w1 fun e w' => e = .returned (.tuple #[.int .i64 lo, .int .i64 hi]) ∧ Below w1.heap.size w1 w'))
    (NC : Hid (∀ w1, Calls Tryd.prog 16 #[.int .i64 h] w1 fun e w' => e = .returned (.int .i64 r) ∧ w1 = w')) :
    Calls Tryd.prog 7 #[.int .i64 h, .int .i64 n] w fun e w' => e = .returned (.bool true) ∧ Below w.heap.size w w' := by
  have z1 : ¬ (1000000 : Int) = 0 := by decide
  have z2 : ¬ (16384 : Int) = 0 := by decide
  have rr : (r == r) = true := by simp
  have bL : 10000 ≤ L ∧ L ≤ 1009999 := by have := hL.out; omega
  have e1 := hL.out
  go_enter Tryd.func7, Tryd.ntmps7
  go_wp2_with fail
  (with_reducible refine WK.out.mono ?_); rintro e v ⟨rfl, rfl⟩
  go_wp2_with fail
  clear ea em e1
  (with_reducible refine (VC.out _ (Below.refl _ _)).mono ?_); rintro e w1 ⟨rfl, hb⟩
  have W1 := Lib.hid hb; clear hb
  have W2 := Lib.hid (b_alloc W1.out (.cells #[.int .i64 x, .int .i64 y] 28))
  have P2' := Lib.hid (p2_new w1 28 x y)
  go_wp2_with fail
  (with_reducible refine (OC.out _ W2.out).mono ?_); rintro e w3 ⟨rfl, hb⟩
  have W3 := Lib.hid (b_next W2.out hb); have P3 := Lib.hid (p2_keep hb P2'.out); clear hb
  obtain ⟨p0, p1⟩ := P3.out
  go_wp2_with fail
  (with_reducible refine (DC.out _).mono ?_); rintro e w4 ⟨rfl, hb⟩
  have W4 := Lib.hid (b_next W3.out hb); clear hb p0 p1
  go_wp2_with fail
  (with_reducible refine (NC.out _).mono ?_); rintro e v ⟨rfl, rfl⟩
  have e2 := eK.out
  have q1 := decide_eq_true d1
  have q2 := decide_eq_true d2
  have e3 : L.tdiv 16384 = K := by rw [Int.tdiv_eq_ediv_of_nonneg (by omega)]; exact e2
  have bK : 0 ≤ K ∧ K ≤ 61 := by omega
  go_wp2_with fail
  all_goals first | (exfalso; omega) | (go_ret; exact ⟨by first | rfl | exact retb rfl | exact retb (by simp), W4.out⟩)
theorem walk (h length : Int) (W : World) (hL : laidMetH Tryd.prog Door.laid W) (_ : Arg h) (_ : Arg length) :
    Calls Tryd.prog 7 #[.int .i64 h, .int .i64 length] W fun e w' => e = .returned (.bool true) ∧ Below W.heap.size W w' := by
  have T := Door.tabs_of hL
  have le := len_eq length
  obtain ⟨L, hLe⟩ : ∃ L, L = 10000 + length % 1000000 := ⟨_, rfl⟩
  have l0 : 10000 ≤ L := by omega
  have l1 : L ≤ 1009999 := by omega
  have dir := back_dir (h := h) l0
  have len := back_len (h := h) l0 l1
  have b1 := sn_bd h; have b2 := sn_bd (h + 1024)
  have m1 := mul_bd2 b1 (show -2000000 ≤ L ∧ L ≤ 2000000 by omega); have m2 := mul_bd2 b2 (show -2000000 ≤ L ∧ L ≤ 2000000 by omega)
  rw [Int.mul_comm] at m1 m2
  have x1 := nr_bd (L * sn h); have x2 := nr_bd (L * sn (h + 1024))
  have VC := fun w1 (hb : Below W.heap.size W w1) => vector_w h L (sn h) (sn (h + 1024)) _ _ w1 (by omega) (by omega) (Lib.hid fun w2 hb2 => sinA h (tabs_keep (b_next hb hb2) T)) (Lib.hid fun w2 hb2 => cosA h (tabs_keep (b_next hb hb2) T)) rfl rfl (by omega) (by omega)
  generalize nr (L * sn h) = x at *
  generalize nr (L * sn (h + 1024)) = y at *
  have hx : InR x := by unfold InR; omega
  have hy : InR y := by unfold InR; omega
  have OC := fun w1 (hb : Below W.heap.size W w1) => of_ok x y (h % 4096) w1 hx hy dir.2 (Lib.hid (tabs_keep hb T)) (Lib.hid dir.1)
  have DC := fun w1 => distance 0 0 x y w1 rfl (by unfold InR at *; omega)
  have hs : sqr 0 0 x y = x * x + y * y := by unfold sqr; grind
  rw [hs] at DC
  have hq : 0 ≤ x * x + y * y := by have := sq_nonneg x; have := sq_nonneg y; omega
  obtain ⟨r0, r1, r2⟩ := root_spec hq
  have hlo : L - 2 - L / 16384 ≤ root (x * x + y * y) := by
    have : L - 2 - L / 16384 < root (x * x + y * y) + 1 := lt_of_sq (by omega) (by omega)
    omega
  have hhi : dup (x * x + y * y) ≤ L + 2 + L / 16384 := by
    unfold dup
    split
    · have : root (x * x + y * y) < L + 2 + L / 16384 := lt_of_sq (by omega) (by omega)
      omega
    · have h3 : (L + 2 + L / 16384 + 1) * (L + 2 + L / 16384 + 1) = (L + 2 + L / 16384) * (L + 2 + L / 16384) + 2 * (L + 2 + L / 16384) + 1 := by grind
      have : root (x * x + y * y) < L + 2 + L / 16384 + 1 := lt_of_sq (by omega) (by omega)
      omega
  exact go h length (length.tmod 1000000) (length % 1000000) L (L / 16384) x y (h % 4096) _ _ W rfl le.1 le.2 (by omega) (Lib.hid hLe.symm) (Lib.hid rfl) hx hy hlo hhi (Lib.hid (works W T)) (Lib.hid VC) (Lib.hid OC) (Lib.hid DC) (Lib.hid fun w1 => norm_w h w1)
-- FRAME --

set_option maxRecDepth 100000 in
theorem lifted (os : Os) (started : os.Started) (H : Type) (enc : TypeId × Value → H) :
    ReturnsInHanded {} Tryd.checked os 7 .any (fun w args => (Rows.angleBackSpec.pre enc Tryd.prog Tryd.f7 [] false w args ∧ laidMetH Tryd.prog Door.laid w) ∧ sizedMet enc Tryd.prog Tryd.f7 (OpenSpec.ofChange Rows.angleBackSpec) false w args) (Rows.angleBackSpec.post enc Tryd.prog Tryd.f7 false true false false) :=
  Frame.lifted_laid (C := Tryd.checked) 7 Tryd.f7 Tryd.own started (by kernel_rfl) Tryd.func7 Tryd.laidOut rfl (by kernel_rfl) 4 rfl Tryd.underlying4
      (fun ds h => by match ds, h with | [_, _], _ => rfl)
      (ChangeSpec.witness_at (enc := enc) (C := Tryd.checked) (os := os) (X := fun w _ => laidMetH Tryd.prog Door.laid w) false (Door.laidWorld os) #[.int .i64 0, .int .i64 0] 8 rfl (by kernel_rfl) (by kernel_rfl) (by kernel_rfl) (by kernel_rfl) (by kernel_rfl) (Door.laidWorld_met os _))
      (fun W base args ds ps hval0 hA _ hL => by
        have hval : ∀ (j : Nat) t v, Tryd.f7.params[j]? = some t → args[j]? = some v → Value.okWide Tryd.prog W .any base t v := hval0
        have hA' : DataW.TrodAll enc Tryd.prog W 0 (fun _ => true) true Tryd.f7.params.toList args.toList ds ps := hA
        clear hval0 hA
        have hA := hA'
        clear hA'
        rw [Tryd.params7] at hA hval
        obtain ⟨v0, vs0, d0, ds0, p0, q0, ea, rfl, rfl, tr0, rest0⟩ := trodAll_cons hA
        obtain ⟨v1, vs1, d1, ds1, p1, q1, rfl, rfl, rfl, tr1, rest1⟩ := trodAll_cons rest0
        obtain ⟨rfl, rfl, rfl⟩ := trodAll_nil rest1
        obtain rfl : args = #[v0, v1] := by cases args; simp_all
        clear ea
        obtain ⟨h, rfl, w_h⟩ := Frame.arg_int Tryd.underlying3 (hval 0 _ v0 rfl rfl)
        obtain ⟨length, rfl, w_length⟩ := Frame.arg_int Tryd.underlying3 (hval 1 _ v1 rfl rfl)
        exact walk h length W hL (Frame.bd w_h) (Frame.bd w_length))

/-- The statement. -/
theorem row_holds : Rows.AngleBackSaid :=
  OpenClaim.holds_of_wide 7 Tryd.f7 rfl rfl rfl rfl rfl rfl rfl ⟨rfl, rfl, rfl, rfl, rfl⟩ rfl rfl rfl rfl rfl (by kernel_rfl) Tryd.func7 (by kernel_rfl)
    (of_decide_eq_true (by kernel_rfl)) (by unfold Func.isWrapper; first | (rw [if_pos (by decide +kernel)]; kernel_rfl) | (rw [if_neg (by decide +kernel)]; exact ⟨rfl, rfl⟩))
    (fun os started H enc _ => lifted os started H enc)
/-- The tied card. -/
theorem proved : Rows.AngleBackCardSaid :=
  Claim7.holds_tied_plain_at .later [] [.data, .data, .data] true (true, "6deb9ba2cff43c15501a76bdf9cd322ddee03e505f7501aaf9f3e71c3bb480ce") false
    row_holds (fun _ h => by cases h) (by kernel_rfl) (fun _ h => by cases h) angleBack_row_tie rfl ⟨rfl, rfl⟩ (by kernel_rfl) rfl
    (fun f fn hf hfn => by
      obtain rfl : f = 7 := Option.some.inj ((show Tryd.prog.funcNamed "skyway/skywaykeep1.AngleBack" = some 7 by kernel_rfl).symm.trans hf) |>.symm
      obtain rfl : fn = Tryd.f7 := (Option.some.inj (Tryd.func7.symm.trans hfn)).symm
      exact ⟨by kernel_rfl, fun j t ht => by
        rw [Tryd.params7] at ht
        have hall : ∀ t ∈ [3, 3], Tryd.prog.wantsStandIn t = false := by
          intro t ht
          simp only [List.mem_cons, List.not_mem_nil, or_false] at ht
          rcases ht with rfl | rfl <;> kernel_rfl
        exact hall t (List.mem_iff_getElem?.2 ⟨j, by simpa using ht⟩)⟩)
    (by kernel_rfl)
#print axioms proved
end AngleBack
end Go.Proofs.YtkapllakofndlaaDoor

