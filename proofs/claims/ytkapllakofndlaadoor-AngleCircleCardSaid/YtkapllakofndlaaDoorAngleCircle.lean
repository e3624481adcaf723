/- AngleCircle: the squares of sine and cosine add up to about the square of the scale, and both have the symmetries of the circle. For every input, where math's tables read as Go's library lays them. -/
import Derived.Test.YtkapllakofndlaaDoorTabA
import Derived.Test.YtkapllakofndlaaDoorDoorA
import Derived.Test.YtkapllakofndlaaDoorShapes
import Derived.Test.YtkapllakofndlaaDoorCards
namespace Go.Proofs.YtkapllakofndlaaDoor
open Go.RowKit Go.ChangeShapes Go.WideShapes
namespace AngleCircle
open Kit Ang
def circ (n : Nat) : Bool := decide (-32768 ≤ S n * S n + S ((n + 1024) % 4096) * S ((n + 1024) % 4096) - 268435456 ∧ S n * S n + S ((n + 1024) % 4096) * S ((n + 1024) % 4096) - 268435456 ≤ 32768 ∧ -16384 ≤ S n ∧ S n ≤ 16384)
def circN : Nat → Bool
  | 0 => true
  | k + 1 => circ k && circN k
set_option maxRecDepth 1000000 in
theorem circ_all : circN 4096 = true := by decide +kernel
theorem circN_of : ∀ {k : Nat}, circN k = true → ∀ n, n < k → circ n = true
  | 0, _, n, h => by omega
  | k + 1, h, n, hn => by
    have h' : (circ k && circN k) = true := h
    rw [Bool.and_eq_true] at h'
    rcases Nat.lt_or_ge n k with hl | hl
    · exact circN_of h'.2 n hl
    · rw [show n = k from by omega]; exact h'.1
theorem circ_sn (h : Int) : (-32768 ≤ sn h * sn h + sn (h + 1024) * sn (h + 1024) - 268435456 ∧ sn h * sn h + sn (h + 1024) * sn (h + 1024) - 268435456 ≤ 32768) ∧ (-16384 ≤ sn h ∧ sn h ≤ 16384) := by
  have c := circN_of circ_all (h % 4096).toNat (by omega)
  unfold circ at c
  rw [decide_eq_true_eq] at c
  unfold sn
  rw [show ((h + 1024) % 4096).toNat = ((h % 4096).toNat + 1024) % 4096 from by omega]
  exact ⟨⟨c.1, c.2.1⟩, c.2.2⟩
theorem sq_bd {s : Int} (h : -16384 ≤ s ∧ s ≤ 16384) : 0 ≤ s * s ∧ s * s ≤ 268435456 := by
  have h1 : 0 ≤ (16384 - s) * (16384 + s) := Int.mul_nonneg (by omega) (by omega)
  have h2 : (16384 - s) * (16384 + s) = 268435456 - s * s := by grind
  have h3 : 0 ≤ s * s := by
    rcases (show 0 ≤ s ∨ s < 0 by omega) with h | h
    · exact Int.mul_nonneg h h
    · have := Int.mul_nonneg (show 0 ≤ -s by omega) (show 0 ≤ -s by omega); rwa [Int.neg_mul_neg] at this
  omega
abbrev SnC (h v : Int) (W : World) : Prop := Calls Tryd.prog 14 #[.int .i64 h] W fun e w' => e = .returned (.int .i64 v) ∧ W = w'
abbrev CsC (h v : Int) (W : World) : Prop := Calls Tryd.prog 15 #[.int .i64 h] W fun e w' => e = .returned (.int .i64 v) ∧ W = w'
set_option maxHeartbeats 1000000 in
theorem go (h s c p1 p2 : Int) (W : World) (hs : -16384 ≤ s ∧ s ≤ 16384) (hc : -16384 ≤ c ∧ c ≤ 16384) (e1 : s * s = p1) (e2 : c * c = p2) (b1 : 0 ≤ p1 ∧ p1 ≤ 268435456) (b2 : 0 ≤ p2 ∧ p2 ≤ 268435456) (b : -32768 ≤ p1 + p2 - 268435456 ∧ p1 + p2 - 268435456 ≤ 32768)
    (WK : Hid (Calls Tryd.prog 13 #[] W fun e w' => e = .returned (.bool true) ∧ W = w'))
    (S1 : Hid (SnC h s W)) (C1 : Hid (CsC h c W)) (S2 : Hid (SnC (wrap64 (h + 2048)) (-s) W)) (C2 : Hid (CsC (wrap64 (-h)) c W)) (S3 : Hid (SnC (wrap64 (h + 1024)) c W)) (C3 : Hid (CsC (wrap64 (h + 4096)) c W)) :
    Calls Tryd.prog 3 #[.int .i64 h] W fun e w' => e = .returned (.bool true) ∧ Below W.heap.size W w' := by
  obtain ⟨d, hd⟩ : ∃ d, p1 + p2 - 268435456 = d := ⟨_, rfl⟩
  rw [hd] at b
  obtain ⟨d1, d2⟩ := b
  have q1 := decide_eq_true d1
  have q2 := decide_eq_true d2
  have r1 : (c == c) = true := by simp
  have r2 : (-s == -s) = true := by simp
  go_enter Tryd.func3, Tryd.ntmps3
  go_wp2_with fail
  (with_reducible refine WK.out.mono ?_); rintro e w1 ⟨rfl, rfl⟩
  go_wp2_with fail
  (with_reducible refine S1.out.mono ?_); rintro e w1 ⟨rfl, rfl⟩
  go_wp2_with fail
  (with_reducible refine C1.out.mono ?_); rintro e w1 ⟨rfl, rfl⟩
  go_wp2_with fail
  (with_reducible refine S2.out.mono ?_); rintro e w1 ⟨rfl, rfl⟩
  go_wp2_with fail
  (with_reducible refine C2.out.mono ?_); rintro e w1 ⟨rfl, rfl⟩
  go_wp2_with fail
  (with_reducible refine S3.out.mono ?_); rintro e w1 ⟨rfl, rfl⟩
  go_wp2_with fail
  (with_reducible refine C3.out.mono ?_); rintro e w1 ⟨rfl, rfl⟩
  go_wp2_with fail
  all_goals first | (exfalso; omega) | (go_ret; exact ⟨by first | rfl | exact retb rfl | exact retb (by simp), Below.refl _ _⟩)
theorem walk (h : Int) (W : World) (hL : laidMetH Tryd.prog Door.laid W) (_ : -9223372036854775808 ≤ h ∧ h ≤ 9223372036854775807) :
    Calls Tryd.prog 3 #[.int .i64 h] W fun e w' => e = .returned (.bool true) ∧ Below W.heap.size W w' := by
  have T := Door.tabs_of hL
  have c1 := circ_sn h
  have c2 := circ_sn (h + 1024)
  have S2 := sinA (wrap64 (h + 2048)) T
  rw [sn_mod (wrap_mod (h + 2048)), sn_half] at S2
  have C2 := cosA (wrap64 (-h)) T
  rw [sn_mod (show (wrap64 (-h) + 1024) % 4096 = (2048 - (h + 1024)) % 4096 by have := wrap_mod (-h); omega), sn_flip] at C2
  have S3 := sinA (wrap64 (h + 1024)) T
  rw [sn_mod (wrap_mod (h + 1024))] at S3
  have C3 := cosA (wrap64 (h + 4096)) T
  rw [sn_mod (show (wrap64 (h + 4096) + 1024) % 4096 = (h + 1024) % 4096 by have := wrap_mod (h + 4096); omega)] at C3
  exact go h (sn h) (sn (h + 1024)) _ _ W c1.2 c2.2 rfl rfl (sq_bd c1.2) (sq_bd c2.2) c1.1 (Lib.hid (works W T)) (Lib.hid (sinA h T)) (Lib.hid (cosA h T)) (Lib.hid S2) (Lib.hid C2) (Lib.hid S3) (Lib.hid C3)
-- FRAME --

set_option maxRecDepth 100000 in
theorem lifted (os : Os) (started : os.Started) (H : Type) (enc : TypeId × Value → H) :
    ReturnsInHanded {} Tryd.checked os 3 .any (fun w args => (Rows.angleCircleSpec.pre enc Tryd.prog Tryd.f3 [] false w args ∧ laidMetH Tryd.prog Door.laid w) ∧ sizedMet enc Tryd.prog Tryd.f3 (OpenSpec.ofChange Rows.angleCircleSpec) false w args) (Rows.angleCircleSpec.post enc Tryd.prog Tryd.f3 false true false false) :=
  Frame.lifted_laid (C := Tryd.checked) 3 Tryd.f3 Tryd.own started (by kernel_rfl) Tryd.func3 Tryd.laidOut rfl (by kernel_rfl) 4 rfl Tryd.underlying4
      (fun ds h => by match ds, h with | [_], _ => rfl)
      (ChangeSpec.witness_at (enc := enc) (C := Tryd.checked) (os := os) (X := fun w _ => laidMetH Tryd.prog Door.laid w) false (Door.laidWorld os) #[.int .i64 0] 8 rfl (by kernel_rfl) (by kernel_rfl) (by kernel_rfl) (by kernel_rfl) (by kernel_rfl) (Door.laidWorld_met os _))
      (fun W base args ds ps hval0 hA _ hL => by
        have hval : ∀ (j : Nat) t v, Tryd.f3.params[j]? = some t → args[j]? = some v → Value.okWide Tryd.prog W .any base t v := hval0
        have hA' : DataW.TrodAll enc Tryd.prog W 0 (fun _ => true) true Tryd.f3.params.toList args.toList ds ps := hA
        clear hval0 hA
        have hA := hA'
        clear hA'
        rw [Tryd.params3] at hA hval
        obtain ⟨v0, vs0, d0, ds0, p0, q0, ea, rfl, rfl, tr0, rest0⟩ := trodAll_cons hA
        obtain ⟨rfl, rfl, rfl⟩ := trodAll_nil rest0
        obtain rfl : args = #[v0] := by cases args; simp_all
        clear ea
        obtain ⟨h, rfl, w_h⟩ := Frame.arg_int Tryd.underlying3 (hval 0 _ v0 rfl rfl)
        exact walk h W hL (Frame.bd w_h))

/-- The statement. -/
theorem row_holds : Rows.AngleCircleSaid :=
  OpenClaim.holds_of_wide 3 Tryd.f3 rfl rfl rfl rfl rfl rfl rfl ⟨rfl, rfl, rfl, rfl, rfl⟩ rfl rfl rfl rfl rfl (by kernel_rfl) Tryd.func3 (by kernel_rfl)
    (of_decide_eq_true (by kernel_rfl)) (by unfold Func.isWrapper; first | (rw [if_pos (by decide +kernel)]; kernel_rfl) | (rw [if_neg (by decide +kernel)]; exact ⟨rfl, rfl⟩))
    (fun os started H enc _ => lifted os started H enc)
/-- The tied card. -/
theorem proved : Rows.AngleCircleCardSaid :=
  Claim7.holds_tied_plain_at .later [] [.data, .data, .data] true (true, "6deb9ba2cff43c15501a76bdf9cd322ddee03e505f7501aaf9f3e71c3bb480ce") false
    row_holds (fun _ h => by cases h) (by kernel_rfl) (fun _ h => by cases h) angleCircle_row_tie rfl ⟨rfl, rfl⟩ (by kernel_rfl) rfl
    (fun f fn hf hfn => by
      obtain rfl : f = 3 := Option.some.inj ((show Tryd.prog.funcNamed "skyway/skywaykeep1.AngleCircle" = some 3 by kernel_rfl).symm.trans hf) |>.symm
      obtain rfl : fn = Tryd.f3 := (Option.some.inj (Tryd.func3.symm.trans hfn)).symm
      exact ⟨by kernel_rfl, fun j t ht => by
        rw [Tryd.params3] at ht
        have hall : ∀ t ∈ [3], Tryd.prog.wantsStandIn t = false := by
          intro t ht
          simp only [List.mem_cons, List.not_mem_nil, or_false] at ht
          rcases ht with rfl <;> kernel_rfl
        exact hall t (List.mem_iff_getElem?.2 ⟨j, by simpa using ht⟩)⟩)
    (by kernel_rfl)
#print axioms proved
end AngleCircle
end Go.Proofs.YtkapllakofndlaaDoor

