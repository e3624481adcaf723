/- AngleSums: the addition theorem holds within 2 units (asked: within 3). For every input, where math's tables read as Go's library lays them. -/
import Derived.Test.YtkapllakofndlaaDoorTabA
import Derived.Test.YtkapllakofndlaaDoorSums
import Derived.Test.YtkapllakofndlaaDoorDoorA
import Derived.Test.YtkapllakofndlaaDoorShapes
import Derived.Test.YtkapllakofndlaaDoorCards
namespace Go.Proofs.YtkapllakofndlaaDoor
open Go.RowKit Go.ChangeShapes Go.WideShapes
namespace AngleSums
open Kit Ang
abbrev SnC (h v : Int) (W : World) : Prop := Calls Tryd.prog 14 #[.int .i64 h] W fun e w' => e = .returned (.int .i64 v) ∧ W = w'
abbrev CsC (h v : Int) (W : World) : Prop := Calls Tryd.prog 15 #[.int .i64 h] W fun e w' => e = .returned (.int .i64 v) ∧ W = w'
abbrev NoC (h v : Int) (W : World) : Prop := Calls Tryd.prog 16 #[.int .i64 h] W fun e w' => e = .returned (.int .i64 v) ∧ W = w'
def small (n : Nat) : Bool := decide (-16384 ≤ S n ∧ S n ≤ 16384)
def smallN : Nat → Bool
  | 0 => true
  | k + 1 => small k && smallN k
set_option maxRecDepth 1000000 in
theorem small_all : smallN 4096 = true := by decide +kernel
theorem smallN_of : ∀ {k : Nat}, smallN k = true → ∀ n, n < k → small n = true
  | 0, _, n, h => by omega
  | k + 1, h, n, hn => by
    have h' : (small k && smallN k) = true := h
    rw [Bool.and_eq_true] at h'
    rcases Nat.lt_or_ge n k with hl | hl
    · exact smallN_of h'.2 n hl
    · rw [show n = k from by omega]; exact h'.1
theorem sn_small (h : Int) : -16384 ≤ sn h ∧ sn h ≤ 16384 := by
  have c := smallN_of small_all (h % 4096).toNat (by omega)
  unfold small at c
  rw [decide_eq_true_eq] at c
  exact c
theorem prod_bd {s t : Int} (h : -16384 ≤ s ∧ s ≤ 16384) (g : -16384 ≤ t ∧ t ≤ 16384) : -268435456 ≤ s * t ∧ s * t ≤ 268435456 := by
  have h1 : 0 ≤ (16384 - s) * (16384 + t) := Int.mul_nonneg (by omega) (by omega)
  have h2 : 0 ≤ (16384 + s) * (16384 - t) := Int.mul_nonneg (by omega) (by omega)
  have h3 : 0 ≤ (16384 - s) * (16384 - t) := Int.mul_nonneg (by omega) (by omega)
  have h4 : 0 ≤ (16384 + s) * (16384 + t) := Int.mul_nonneg (by omega) (by omega)
  have e1 : (16384 - s) * (16384 + t) = 268435456 + 16384 * t - 16384 * s - s * t := by grind
  have e2 : (16384 + s) * (16384 - t) = 268435456 - 16384 * t + 16384 * s - s * t := by grind
  have e3 : (16384 - s) * (16384 - t) = 268435456 - 16384 * t - 16384 * s + s * t := by grind
  have e4 : (16384 + s) * (16384 + t) = 268435456 + 16384 * t + 16384 * s + s * t := by grind
  omega
theorem tdiv_bd (x : Int) : -16383 ≤ x - 16384 * x.tdiv 16384 ∧ x - 16384 * x.tdiv 16384 ≤ 16383 := by
  have e := Int.mul_tdiv_add_tmod x 16384
  rcases (show 0 ≤ x ∨ x < 0 by omega) with h | h
  · rw [Int.tmod_eq_emod_of_nonneg h] at e; omega
  · have e2 : x.tmod 16384 = -((-x) % 16384) := by
      rw [← Int.tmod_eq_emod_of_nonneg (show 0 ≤ -x by omega), Int.neg_tmod, Int.neg_neg]
    rw [e2] at e; omega
set_option maxHeartbeats 1000000 in
theorem go (g h G H a b c d e P Q t : Int) (W : World) (hG : 0 ≤ G ∧ G ≤ 4095) (hH : 0 ≤ H ∧ H ≤ 4095) (e1 : a * b = P) (e2 : c * d = Q) (b1 : -268435456 ≤ P ∧ P ≤ 268435456) (b2 : -268435456 ≤ Q ∧ Q ≤ 268435456) (ht : (P + Q).tdiv 16384 = t) (hb : -16384 ≤ e ∧ e ≤ 16384) (hd : -3 ≤ e - t ∧ e - t ≤ 3)
    (WK : Hid (Calls Tryd.prog 13 #[] W fun e w' => e = .returned (.bool true) ∧ W = w')) (N1 : Hid (NoC g G W)) (N2 : Hid (NoC h H W))
    (S1 : Hid (SnC G a W)) (C2 : Hid (CsC H b W)) (C1 : Hid (CsC G c W)) (S2 : Hid (SnC H d W)) (S3 : Hid (SnC (G + H) e W)) :
    Calls Tryd.prog 4 #[.int .i64 g, .int .i64 h] W fun e w' => e = .returned (.bool true) ∧ Below W.heap.size W w' := by
  have hz : ¬ (16384 : Int) = 0 := by decide
  obtain ⟨D, hD⟩ : ∃ D, e - t = D := ⟨_, rfl⟩
  rw [hD] at hd
  obtain ⟨d1, d2⟩ := hd
  have q1 := decide_eq_true d1
  have q2 := decide_eq_true d2
  go_enter Tryd.func4, Tryd.ntmps4
  go_wp2_with fail
  (with_reducible refine WK.out.mono ?_); rintro e w1 ⟨rfl, rfl⟩
  go_wp2_with fail
  (with_reducible refine N1.out.mono ?_); rintro e w1 ⟨rfl, rfl⟩
  go_wp2_with fail
  (with_reducible refine N2.out.mono ?_); rintro e w1 ⟨rfl, rfl⟩
  go_wp2_with fail
  (with_reducible refine S1.out.mono ?_); rintro e w1 ⟨rfl, rfl⟩
  go_wp2_with fail
  (with_reducible refine C2.out.mono ?_); rintro e w1 ⟨rfl, rfl⟩
  go_wp2_with fail
  (with_reducible refine C1.out.mono ?_); rintro e w1 ⟨rfl, rfl⟩
  go_wp2_with fail
  (with_reducible refine S2.out.mono ?_); rintro e w1 ⟨rfl, rfl⟩
  go_wp2_with fail
  (with_reducible refine S3.out.mono ?_); rintro e w1 ⟨rfl, rfl⟩
  go_wp2_with fail
  all_goals first | (exfalso; omega) | (go_ret; exact ⟨by first | rfl | exact retb rfl | exact retb (by simp), Below.refl _ _⟩)
theorem walk (g h : Int) (W : World) (hL : laidMetH Tryd.prog Door.laid W) (_ : -9223372036854775808 ≤ g ∧ g ≤ 9223372036854775807) (_ : -9223372036854775808 ≤ h ∧ h ≤ 9223372036854775807) :
    Calls Tryd.prog 4 #[.int .i64 g, .int .i64 h] W fun e w' => e = .returned (.bool true) ∧ Below W.heap.size W w' := by
  have T := Door.tabs_of hL
  obtain ⟨G, hG⟩ : ∃ G, G = g % 4096 := ⟨_, rfl⟩
  obtain ⟨H, hH⟩ : ∃ H, H = h % 4096 := ⟨_, rfl⟩
  have N1 := norm_w g W; have N2 := norm_w h W
  rw [← hG] at N1; rw [← hH] at N2
  have bG : 0 ≤ G ∧ G ≤ 4095 := by omega
  have bH : 0 ≤ H ∧ H ≤ 4095 := by omega
  have p1 := prod_bd (sn_small G) (sn_small (H + 1024))
  have p2 := prod_bd (sn_small (G + 1024)) (sn_small H)
  have key : -31400 ≤ sn G * sn (H + 1024) + sn (G + 1024) * sn H - 16384 * sn (G + H) ∧ sn G * sn (H + 1024) + sn (G + 1024) * sn H - 16384 * sn (G + H) ≤ 31400 := by
    have := add_tab G.toNat H.toNat (by omega) (by omega)
    unfold sn
    rw [show (G % 4096).toNat = G.toNat from by omega, show (H % 4096).toNat = H.toNat from by omega, show ((H + 1024) % 4096).toNat = (H.toNat + 1024) % 4096 from by omega, show ((G + 1024) % 4096).toNat = (G.toNat + 1024) % 4096 from by omega, show ((G + H) % 4096).toNat = (G.toNat + H.toNat) % 4096 from by omega]
    exact this
  have tb := tdiv_bd (sn G * sn (H + 1024) + sn (G + 1024) * sn H)
  exact go g h G H (sn G) (sn (H + 1024)) (sn (G + 1024)) (sn H) (sn (G + H)) _ _ _ W bG bH rfl rfl p1 p2 rfl (sn_small _) (by omega) (Lib.hid (works W T)) (Lib.hid N1) (Lib.hid N2) (Lib.hid (sinA G T)) (Lib.hid (cosA H T)) (Lib.hid (cosA G T)) (Lib.hid (sinA H T)) (Lib.hid (sinA (G + H) T))
-- FRAME --

set_option maxRecDepth 100000 in
theorem lifted (os : Os) (started : os.Started) (H : Type) (enc : TypeId × Value → H) :
    ReturnsInHanded {} Tryd.checked os 4 .any (fun w args => (Rows.angleSumsSpec.pre enc Tryd.prog Tryd.f4 [] false w args ∧ laidMetH Tryd.prog Door.laid w) ∧ sizedMet enc Tryd.prog Tryd.f4 (OpenSpec.ofChange Rows.angleSumsSpec) false w args) (Rows.angleSumsSpec.post enc Tryd.prog Tryd.f4 false true false false) :=
  Frame.lifted_laid (C := Tryd.checked) 4 Tryd.f4 Tryd.own started (by kernel_rfl) Tryd.func4 Tryd.laidOut rfl (by kernel_rfl) 4 rfl Tryd.underlying4
      (fun ds h => by match ds, h with | [_, _], _ => rfl)
      (ChangeSpec.witness_at (enc := enc) (C := Tryd.checked) (os := os) (X := fun w _ => laidMetH Tryd.prog Door.laid w) false (Door.laidWorld os) #[.int .i64 0, .int .i64 0] 8 rfl (by kernel_rfl) (by kernel_rfl) (by kernel_rfl) (by kernel_rfl) (by kernel_rfl) (Door.laidWorld_met os _))
      (fun W base args ds ps hval0 hA _ hL => by
        have hval : ∀ (j : Nat) t v, Tryd.f4.params[j]? = some t → args[j]? = some v → Value.okWide Tryd.prog W .any base t v := hval0
        have hA' : DataW.TrodAll enc Tryd.prog W 0 (fun _ => true) true Tryd.f4.params.toList args.toList ds ps := hA
        clear hval0 hA
        have hA := hA'
        clear hA'
        rw [Tryd.params4] at hA hval
        obtain ⟨v0, vs0, d0, ds0, p0, q0, ea, rfl, rfl, tr0, rest0⟩ := trodAll_cons hA
        obtain ⟨v1, vs1, d1, ds1, p1, q1, rfl, rfl, rfl, tr1, rest1⟩ := trodAll_cons rest0
        obtain ⟨rfl, rfl, rfl⟩ := trodAll_nil rest1
        obtain rfl : args = #[v0, v1] := by cases args; simp_all
        clear ea
        obtain ⟨g, rfl, w_g⟩ := Frame.arg_int Tryd.underlying3 (hval 0 _ v0 rfl rfl)
        obtain ⟨h, rfl, w_h⟩ := Frame.arg_int Tryd.underlying3 (hval 1 _ v1 rfl rfl)
        exact walk g h W hL (Frame.bd w_g) (Frame.bd w_h))

/-- The statement. -/
theorem row_holds : Rows.AngleSumsSaid :=
  OpenClaim.holds_of_wide 4 Tryd.f4 rfl rfl rfl rfl rfl rfl rfl ⟨rfl, rfl, rfl, rfl, rfl⟩ rfl rfl rfl rfl rfl (by kernel_rfl) Tryd.func4 (by kernel_rfl)
    (of_decide_eq_true (by kernel_rfl)) (by unfold Func.isWrapper; first | (rw [if_pos (by decide +kernel)]; kernel_rfl) | (rw [if_neg (by decide +kernel)]; exact ⟨rfl, rfl⟩))
    (fun os started H enc _ => lifted os started H enc)
/-- The tied card. -/
theorem proved : Rows.AngleSumsCardSaid :=
  Claim7.holds_tied_plain_at .later [] [.data, .data, .data] true (true, "6deb9ba2cff43c15501a76bdf9cd322ddee03e505f7501aaf9f3e71c3bb480ce") false
    row_holds (fun _ h => by cases h) (by kernel_rfl) (fun _ h => by cases h) angleSums_row_tie rfl ⟨rfl, rfl⟩ (by kernel_rfl) rfl
    (fun f fn hf hfn => by
      obtain rfl : f = 4 := Option.some.inj ((show Tryd.prog.funcNamed "skyway/skywaykeep1.AngleSums" = some 4 by kernel_rfl).symm.trans hf) |>.symm
      obtain rfl : fn = Tryd.f4 := (Option.some.inj (Tryd.func4.symm.trans hfn)).symm
      exact ⟨by kernel_rfl, fun j t ht => by
        rw [Tryd.params4] at ht
        have hall : ∀ t ∈ [3, 3], Tryd.prog.wantsStandIn t = false := by
          intro t ht
          simp only [List.mem_cons, List.not_mem_nil, or_false] at ht
          rcases ht with rfl | rfl <;> kernel_rfl
        exact hall t (List.mem_iff_getElem?.2 ⟨j, by simpa using ht⟩)⟩)
    (by kernel_rfl)
#print axioms proved
end AngleSums
end Go.Proofs.YtkapllakofndlaaDoor

