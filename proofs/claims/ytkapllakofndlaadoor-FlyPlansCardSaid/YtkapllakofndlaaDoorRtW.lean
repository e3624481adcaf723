/- The fixed example of chapter 14. -/
import Derived.Test.YtkapllakofndlaaDoorM26
import Derived.Test.YtkapllakofndlaaDoorM07
namespace Go.Proofs.YtkapllakofndlaaDoor
open Go.RowKit
namespace Route
open Kit Plane Chart
def flR (k : Nat) : ByteArray := if k = 0 then ⟨#[85, 76, 49]⟩ else ⟨#[67]⟩
theorem fl_sv (w : World) (t : TypeId) : SV (w.alloc (.cells #[.string ⟨#[85, 76, 49]⟩, .string ⟨#[67]⟩] t)) (.slice (some ⟨w.heap.size, 0, none⟩) 2 2) 2 flR := by
  refine Or.inr ⟨by omega, w.heap.size, 0, 2, rfl, Nat.le_refl _, by decide, fun k hk => ?_⟩
  rcases (show k = 0 ∨ k = 1 from by omega) with rfl | rfl <;> simp [flR]
/-- The sample flight's value. -/
abbrev flV (r : Value) : Value := Plan.plan ⟨#[66, 65, 49, 50]⟩ ⟨#[65, 51, 50, 48]⟩ ⟨#[65]⟩ ⟨#[68]⟩ 100 100 1000 r
set_option maxRecDepth 100000 in
set_option maxHeartbeats 1000000 in
theorem flightC (w : World) : Calls Tryd.prog 48 #[] w fun e w' => (∃ r, e = .returned (flV r) ∧ SV w' r 2 flR) ∧ Below w.heap.size w w' := by
  go_enter Tryd.func48, Tryd.ntmps48
  go_wp2_with fail
  have key := fun o => fl_sv (w.alloc o) 9
  simp only [World.size_alloc] at key
  refine bodyPost_ret (v := flV (.slice (some ⟨w.heap.size + 1, 0, none⟩) 2 2)) (by simp [results, Tryd.results48, go_sem]) rfl ⟨⟨_, rfl, key _⟩, b_alloc (b_alloc (Below.refl _ _) _) _⟩
theorem fl_names : rts 1 smM smL smS ⟨#[65]⟩ ⟨#[68]⟩ (lst 2 flR) = [⟨#[65]⟩, ⟨#[66]⟩, ⟨#[67]⟩, ⟨#[68]⟩] := by decide +kernel
theorem fl_a1 : Plan.planE ⟨#[66, 65, 49, 50]⟩ ⟨#[65, 51, 50, 48]⟩ ⟨#[65]⟩ ⟨#[68]⟩ 100 100 1000 2 flR = 0 := by decide +kernel
theorem fl_a2 : expE 4 smN smX smY 1 smM smL smS (its ⟨#[65]⟩ ⟨#[68]⟩ (lst 2 flR)).length (nth (its ⟨#[65]⟩ ⟨#[68]⟩ (lst 2 flR))) = 0 := by decide +kernel
theorem rtE_of {n : Nat} {N : Nat → ByteArray} {X Y : Nat → Int} {m : Nat} {M : Nat → ByteArray} {l : Nat → Nat} {S : Nat → Nat → ByteArray} {cl kd f t : ByteArray} {off sp h : Int} {nr : Nat} {RT : Nat → ByteArray} (h1 : Plan.planE cl kd f t off sp h nr RT = 0) (h2 : cerr n N X Y m M l S = 0) (h3 : expE n N X Y m M l S (its f t (lst nr RT)).length (nth (its f t (lst nr RT))) = 0) : rtE n N X Y m M l S cl kd f t off sp h nr RT = 0 := by
  unfold rtE
  rw [if_neg (fun e => e h1), if_neg (fun e => e h2)]
  exact h3
theorem fl_ok : rtE 4 smN smX smY 1 smM smL smS ⟨#[66, 65, 49, 50]⟩ ⟨#[65, 51, 50, 48]⟩ ⟨#[65]⟩ ⟨#[68]⟩ 100 100 1000 2 flR = 0 := rtE_of fl_a1 sm_ok fl_a2
def flT : List ByteArray := [⟨#[65]⟩, ⟨#[66]⟩, ⟨#[67]⟩, ⟨#[68]⟩]
def flX (j : Nat) : Int := smX (pos 4 smN (nth flT j))
def flY (j : Nat) : Int := smY (pos 4 smN (nth flT j))
theorem lsum4 (D : Nat → Int) : lsum D 4 = 0 + D 1 + D 2 + D 3 := rfl
theorem fl_len : rlen 4 flX flY = (11000, 0) := by
  have hg : ∀ k, k < 4 → good (flX k) (flY k) := fun k hk => by
    rcases (show k = 0 ∨ k = 1 ∨ k = 2 ∨ k = 3 by omega) with rfl | rfl | rfl | rfl <;> decide +kernel
  have h0 := rck_of (n := 4) (by decide) hg
  unfold rlen
  rw [if_neg (fun e => e h0)]
  have x0 : flX 0 = 0 := by decide +kernel
  have x1 : flX 1 = 3000 := by decide +kernel
  have x2 : flX 2 = 6000 := by decide +kernel
  have x3 : flX 3 = 6000 := by decide +kernel
  have y0 : flY 0 = 0 := by decide +kernel
  have y1 : flY 1 = 4000 := by decide +kernel
  have y2 : flY 2 = 8000 := by decide +kernel
  have y3 : flY 3 = 9000 := by decide +kernel
  have r1 : root (sqr 0 0 3000 4000) = 5000 := root_unique (by decide) (by unfold sqr; decide) (by unfold sqr; decide)
  have r2 : root (sqr 3000 4000 6000 8000) = 5000 := root_unique (by decide) (by unfold sqr; decide) (by unfold sqr; decide)
  have r3 : root (sqr 6000 8000 6000 9000) = 1000 := root_unique (by decide) (by unfold sqr; decide) (by unfold sqr; decide)
  have s1 : rstp flX flY 1 = 5000 := by unfold rstp; rw [show (1 - 1 : Nat) = 0 from rfl, x0, y0, x1, y1]; unfold dup; rw [r1]; unfold sqr; decide
  have s2 : rstp flX flY 2 = 5000 := by unfold rstp; rw [show (2 - 1 : Nat) = 1 from rfl, x1, y1, x2, y2]; unfold dup; rw [r2]; unfold sqr; decide
  have s3 : rstp flX flY 3 = 1000 := by unfold rstp; rw [show (3 - 1 : Nat) = 2 from rfl, x2, y2, x3, y3]; unfold dup; rw [r3]; unfold sqr; decide
  rw [lsum4, s1, s2, s3]; rfl
set_option maxRecDepth 100000 in
set_option maxHeartbeats 4000000 in
theorem routeWorks (w : World) : Calls Tryd.prog 26 #[] w fun e w' => e = .returned (.bool true) ∧ Below w.heap.size w w' := by
  go_enter Tryd.func26, Tryd.ntmps26
  go_wp2_with fail
  (with_reducible refine (flightC _).mono ?_); rintro e w1 ⟨⟨r1, rfl, hr1⟩, hb⟩
  have W1 := Lib.hid hb; have R1 := Lib.hid hr1; clear hb hr1
  go_wp2_with fail
  (with_reducible refine (sampleC _).mono ?_); rintro e w2 ⟨⟨c2, rfl, hc2⟩, hb⟩
  have W2 := Lib.hid (b_next W1.out hb)
  have E2 := Lib.hid (expandC (cl := ⟨#[66, 65, 49, 50]⟩) (kd := ⟨#[65, 51, 50, 48]⟩) (f := ⟨#[65]⟩) (t := ⟨#[68]⟩) (off := 100) (sp := 100) (h := 1000) (sv_keep hb R1.out) hc2)
  clear hb hc2
  go_wp2_with fail
  (with_reducible refine E2.out.mono ?_); rintro e w3 ⟨hp, hb⟩
  have W3 := Lib.hid (b_next W2.out hb)
  rw [fl_ok, fl_names] at hp
  rcases hp with ⟨h0, -⟩ | ⟨-, v, rfl, hf⟩
  · exact absurd rfl h0
  have hf' : FV w3 v 4 (nth flT) flX flY := hf
  obtain ⟨b, o, c, rfl, hc1, hc2, h3⟩ := fv_at hf' (by decide)
  have L3 := Lib.hid (rlenC hf')
  rw [fl_len] at L3
  have hc3 : c ≤ 9223372036854775807 := Nat.le_trans hc2 (by decide)
  have B3 := Lib.hid (h3 1 (by decide)).c0
  clear hb hf hf' h3
  go_wp2_with fail
  (with_reducible refine (L3.out _ (Below.refl _ _)).mono ?_); rintro e w4 ⟨rfl, hb⟩
  have W4 := Lib.hid (b_next W3.out hb)
  have b4 := keep hb B3.out
  have e4 : nth flT 1 = ⟨#[66]⟩ := rfl
  rw [e4] at b4
  clear hb e4
  go_wp2_with fail
  go_ret
  exact ⟨by first | rfl | exact retb rfl | exact retb (by decide), W4.out⟩
end Route
end Go.Proofs.YtkapllakofndlaaDoor
