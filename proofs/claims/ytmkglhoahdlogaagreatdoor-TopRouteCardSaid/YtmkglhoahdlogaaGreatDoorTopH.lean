/- skywaytop.h05Works: the fixed example is true. -/
import Derived.Test.YtmkglhoahdlogaaGreatDoorTopG
import Derived.Test.YtmkglhoahdlogaaGreatDoorTopI
import Derived.Test.YtmkglhoahdlogaaGreatDoorJ27
import Derived.Test.YtmkglhoahdlogaaGreatDoorJ29
import Derived.Test.YtmkglhoahdlogaaGreatDoorJ34
import Derived.Deep.RegionHeld3
namespace Go.Proofs.YtmkglhoahdlogaaGreatDoor
open Go.RowKit
namespace Top
open Kit Plane Chart Route Fly Ang Wind
theorem pv_own {w : World} {base : Nat} {E : TypeId} {v : Value} {n : Nat} {f : Nat → Nat → Int} (h : Own w base E 4 v n f) (h0 : 0 < n) : Path.PV w v n (fun k => f k 0) (fun k => f k 1) (fun k => f k 2) (fun k => f k 3) := by
  obtain ⟨g, cap, rfl, -, -, h1, h2, hr⟩ := own_row h h0
  refine Or.inr ⟨h0, g, 0, cap, rfl, h1, h2, fun k hk => ⟨⟨?_, ?_⟩, ?_, ?_⟩⟩ <;> rw [Nat.zero_add]
  · exact hr.cell k hk 0 (by decide)
  · exact hr.cell k hk 1 (by decide)
  · exact hr.cell k hk 2 (by decide)
  · exact hr.cell k hk 3 (by decide)
/-- The chart of the example. -/
def hmL (_ : Nat) : Nat := 3
theorem hm_ok : cerr 3 smN smX smY 1 smM hmL smS = 0 := by decide +kernel
def hmF : Array Value := #[.string ⟨#[65]⟩, .int .i64 0, .int .i64 0, .string ⟨#[66]⟩, .int .i64 3000, .int .i64 4000, .string ⟨#[67]⟩, .int .i64 6000, .int .i64 8000]
def hmT : Array Value := #[.string ⟨#[65]⟩, .string ⟨#[66]⟩, .string ⟨#[67]⟩]
theorem hm_fv (w : World) (t : TypeId) : FV (w.alloc (.cells hmF t)) (.slice (some ⟨w.heap.size, 0, none⟩) 3 3) 3 smN smX smY := by
  refine Or.inr ⟨by omega, w.heap.size, 0, 3, rfl, Nat.le_refl _, by decide, fun k hk => ?_⟩
  rcases (show k = 0 ∨ k = 1 ∨ k = 2 from by omega) with rfl | rfl | rfl <;> exact ⟨by simp [hmF, smN], by simp [hmF, smX], by simp [hmF, smY]⟩
theorem hm_sv (w : World) (t : TypeId) : SV (w.alloc (.cells hmT t)) (.slice (some ⟨w.heap.size, 0, none⟩) 3 3) 3 smN := by
  refine Or.inr ⟨by omega, w.heap.size, 0, 3, rfl, Nat.le_refl _, by decide, fun k hk => ?_⟩
  rcases (show k = 0 ∨ k = 1 ∨ k = 2 from by omega) with rfl | rfl | rfl <;> simp [hmT, smN]
theorem hm_cv (w : World) (o : Obj) (t1 t2 t3 : TypeId) : CV ((((w.alloc o).alloc (.cells hmF t1)).alloc (.cells hmT t2)).alloc (.cells #[.string ⟨#[85, 76, 49]⟩, .slice (some ⟨w.heap.size + 1 + 1, 0, none⟩) 3 3] t3)) (.agg #[.slice (some ⟨w.heap.size + 1, 0, none⟩) 3 3, .slice (some ⟨w.heap.size + 1 + 1 + 1, 0, none⟩) 1 1]) 3 smN smX smY 1 smM hmL smS := by
  have h1 := hm_fv (w.alloc o) t1
  have h2 := hm_sv ((w.alloc o).alloc (.cells hmF t1)) t2
  rw [World.size_alloc] at h1 h2
  rw [World.size_alloc] at h2
  refine ⟨_, _, rfl, fv_keep (b_alloc (b_alloc (Below.refl _ _) _) _) h1, Or.inr ⟨by omega, w.heap.size + 1 + 1 + 1, 0, 1, rfl, Nat.le_refl _, by decide, fun k hk => ?_⟩⟩
  obtain rfl : k = 0 := by omega
  have h3 := p2v_new (((w.alloc o).alloc (.cells hmF t1)).alloc (.cells hmT t2)) t3 (.string ⟨#[85, 76, 49]⟩) (.slice (some ⟨w.heap.size + 1 + 1, 0, none⟩) 3 3)
  rw [World.size_alloc, World.size_alloc, World.size_alloc] at h3
  exact ⟨h3.1, _, h3.2, sv_keep (b_alloc (Below.refl _ _) _) h2⟩
set_option maxRecDepth 100000 in
set_option maxHeartbeats 1000000 in
theorem h05ChartC (w : World) : Calls Tryz.prog 10 #[] w fun e w' => (∃ b, e = .returned (.agg #[.slice (some ⟨b + 1, 0, none⟩) 3 3, .slice (some ⟨b + 1 + 1 + 1, 0, none⟩) 1 1]) ∧ CV w' (.agg #[.slice (some ⟨b + 1, 0, none⟩) 3 3, .slice (some ⟨b + 1 + 1 + 1, 0, none⟩) 1 1]) 3 smN smX smY 1 smM hmL smS) ∧ Below w.heap.size w w' := by
  go_enter Tryz.func10, Tryz.ntmps10
  go_wp2_with fail
  have key := fun o => hm_cv w o 38 9 65
  unfold hmF hmT at key
  refine bodyPost_ret (v := .agg #[.slice (some ⟨w.heap.size + 1, 0, none⟩) 3 3, .slice (some ⟨w.heap.size + 1 + 1 + 1, 0, none⟩) 1 1]) (by simp [results, Tryz.results10, go_sem]) rfl ⟨⟨_, rfl, key _⟩, b_alloc (b_alloc (b_alloc (b_alloc (Below.refl _ _) _) _) _) _⟩
def hmK : ByteArray := ⟨#[65, 51, 50, 48]⟩
theorem h05KindC (w : World) : Calls Tryz.prog 11 #[] w fun e w' => e = .returned (.agg #[.string hmK, .int .i64 1, .int .i64 39000, .int .i64 40, .int .i64 50, .int .i64 70, .int .i64 250]) ∧ Below w.heap.size w w' := by
  go_enter Tryz.func11, Tryz.ntmps11
  go_wp2_with fail
  refine bodyPost_ret (v := .agg #[.string hmK, .int .i64 1, .int .i64 39000, .int .i64 40, .int .i64 50, .int .i64 70, .int .i64 250]) (by simp [results, Tryz.results11, go_sem, hmK]) rfl ⟨rfl, b_alloc (Below.refl _ _) _⟩
/-- The plan of the example: its names; its fixes. -/
def hmC : ByteArray := ⟨#[66, 65, 49, 50]⟩
def hmR (_ : Nat) : ByteArray := ⟨#[85, 76, 49]⟩
def hmN : List ByteArray := [⟨#[65]⟩, ⟨#[66]⟩, ⟨#[67]⟩]
theorem hm_names : rts 1 smM hmL smS ⟨#[65]⟩ ⟨#[67]⟩ (lst 1 hmR) = hmN := by decide +kernel
theorem hm_a1 : Plan.planE hmC hmK ⟨#[65]⟩ ⟨#[67]⟩ 100 100 1000 1 hmR = 0 := by decide +kernel
theorem hm_a2 : expE 3 smN smX smY 1 smM hmL smS (its ⟨#[65]⟩ ⟨#[67]⟩ (lst 1 hmR)).length (nth (its ⟨#[65]⟩ ⟨#[67]⟩ (lst 1 hmR))) = 0 := by decide +kernel
theorem hm_exp : rtE 3 smN smX smY 1 smM hmL smS hmC hmK ⟨#[65]⟩ ⟨#[67]⟩ 100 100 1000 1 hmR = 0 := by
  unfold rtE
  rw [if_neg (fun e => e hm_a1), if_neg (fun e => e hm_ok)]
  exact hm_a2
def hmX (j : Nat) : Int := smX (pos 3 smN (nth hmN j))
def hmY (j : Nat) : Int := smY (pos 3 smN (nth hmN j))
/-- 50 seconds a leg. -/
def hmD (i : Nat) : Int := if 0 < i ∧ i < 3 then 50 else 0
theorem hm_D (L H WX WY WE : Nat → Int) : lgs 100 1000 0 L H WX WY WE hmX hmY 3 = hmD := by
  funext i
  unfold lgs hmD
  by_cases hi : 0 < i ∧ i < 3
  · rw [if_pos hi, if_pos hi]
    unfold lgD
    have c := fun hd => (Wind.calm_law (sp := 100) (hd := hd) (by omega)).1
    have w0 : ∀ Z : Nat → Int, Wind.wX L H Z 0 1000 = 0 := fun Z => rfl
    rw [w0, w0, w0, c]
    have x0 : hmX 0 = 0 := by decide +kernel
    have x1 : hmX 1 = 3000 := by decide +kernel
    have x2 : hmX 2 = 6000 := by decide +kernel
    have y0 : hmY 0 = 0 := by decide +kernel
    have y1 : hmY 1 = 4000 := by decide +kernel
    have y2 : hmY 2 = 8000 := by decide +kernel
    have r1 : root (sqr 0 0 3000 4000) = 5000 := root_unique (by decide) (by unfold sqr; decide) (by unfold sqr; decide)
    have r2 : root (sqr 3000 4000 6000 8000) = 5000 := root_unique (by decide) (by unfold sqr; decide) (by unfold sqr; decide)
    have d1 : dup (sqr 0 0 3000 4000) = 5000 := by unfold dup; rw [r1]; unfold sqr; decide
    have d2 : dup (sqr 3000 4000 6000 8000) = 5000 := by unfold dup; rw [r2]; unfold sqr; decide
    rcases (show i = 1 ∨ i = 2 by omega) with rfl | rfl
    · rw [show (1 - 1 : Nat) = 0 from rfl, x0, y0, x1, y1, d1]; decide +kernel
    · rw [show (2 - 1 : Nat) = 1 from rfl, x1, y1, x2, y2, d2]; decide +kernel
  · rw [if_neg hi, if_neg hi]
theorem hm_path (L H WX WY WE : Nat → Int) : pthE 3 hmX hmY hmC hmK ⟨#[65]⟩ ⟨#[67]⟩ hmK 100 100 1000 1 39000 40 50 70 250 1 hmR 0 L H WX WY WE = 0 := by
  have e1 : (rlen 3 hmX hmY).2 = 0 := by
    have hg : ∀ k, k < 3 → good (hmX k) (hmY k) := fun k hk => by
      rcases (show k = 0 ∨ k = 1 ∨ k = 2 by omega) with rfl | rfl | rfl <;> decide +kernel
    have h0 := rck_of (n := 3) (by decide) hg
    unfold rlen; rw [if_neg (fun e => e h0)]
  have e4 : wck L H WX WY WE 0 = 0 := rfl
  unfold pthE
  rw [e1, hm_a1, e4]
  decide +kernel
/-- The nodes of the path: five of them. -/
def hmG : Nat → Nat → Int := fin 100 1000 40 50 39000 (fen 100 hmD 3 - 100) (stF 100 1000 40 50 hmD hmX hmY 3 (stK 100 1000 40 50 hmD 3))
theorem hm_K : stK 100 1000 40 50 hmD 3 = 2 := by decide +kernel
theorem hm_N : stN 100 1000 40 50 hmD hmX hmY 3 (stK 100 1000 40 50 hmD 3) = 5 := by decide +kernel
theorem hm_en : fen 100 hmD 3 = 200 := by decide +kernel
abbrev gT (k : Nat) : Int := hmG k 0
abbrev gX (k : Nat) : Int := hmG k 1
abbrev gY (k : Nat) : Int := hmG k 2
abbrev gH (k : Nat) : Int := hmG k 3
theorem hm_last : gT 4 = 200 := by decide +kernel
theorem hm_of : Tube.ofE gT gX gY gH 5 500 60 100 = 0 := by decide +kernel
abbrev gR (k : Nat) : Int := 500 + Tube.wid gT 60 k
abbrev gB (_ : Nat) : Int := 100
theorem hm_at : Tube.tatE gT gX gY gH gR gB 5 150 = 0 := by decide +kernel
theorem hm_seg : Tube.tseg gT 5 150 2 := by unfold Tube.tseg; decide +kernel
theorem hm_x : Tube.tx gT gX 2 150 = 3000 := by decide +kernel
theorem hm_y : Tube.tx gT gY 2 150 = 4000 := by decide +kernel
theorem hm_h : Tube.th gT gH 2 150 = 1000 := by decide +kernel
theorem hm_b : Tube.tu gT gB 2 150 = 100 := by decide +kernel
theorem hm_r : Tube.tu gT gR 2 150 = 550 := by decide +kernel
theorem hm_rv {w : World} {b : Nat} (h : w.cell? ⟨b, 0, none⟩ = some (.string ⟨#[85, 76, 49]⟩)) : SV w (.slice (some ⟨b, 0, none⟩) 1 1) 1 hmR := by
  refine Or.inr ⟨by omega, b, 0, 1, rfl, Nat.le_refl _, by decide, fun k hk => ?_⟩
  obtain rfl : k = 0 := by omega
  exact h
/-- h05Tube at the example's plan. -/
theorem hm_tube {w : World} {r c : Value} (T : Tabs w) (hr : SV w r 1 hmR) (hc : CV w c 3 smN smX smY 1 smM hmL smS) : ∀ w1, Below w.heap.size w w1 →
    Calls Tryz.prog 9 #[Plan.plan hmC hmK ⟨#[65]⟩ ⟨#[67]⟩ 100 100 1000 r, c, .agg #[.string hmK, .int .i64 1, .int .i64 39000, .int .i64 40, .int .i64 50, .int .i64 70, .int .i64 250], .slice none 0 0, .int .i64 500, .int .i64 60, .int .i64 100] w1 fun e w' =>
      (∃ v1 v2, e = .returned (.tuple #[v1, v2, .int .i64 0]) ∧ Path.PV w' v1 5 gT gX gY gH ∧ Tube.TV w' v2 5 gT gX gY gH gR gB) ∧ Below w1.heap.size w1 w' := fun w1 hb => by
  have hr1 := sv_keep hb hr
  have hc1 := cv_keep hb hc
  have hw1 : Wind.WV w1 (.slice none 0 0) 0 (fun _ => 0) (fun _ => 0) (fun _ => 0) (fun _ => 0) (fun _ => 0) := Or.inl ⟨rfl, Or.inl rfl⟩
  obtain ⟨fx, a, rfl, h1, h2⟩ := hc1.ex
  obtain ⟨A1, k1, rfl⟩ := fv_slice h1
  obtain ⟨A2, k2, rfl⟩ := av_slice h2
  obtain ⟨A3, k3, rfl⟩ := sv_slice hr1
  refine tube_go hmC hmK ⟨#[65]⟩ ⟨#[67]⟩ hmK 100 100 1000 1 39000 40 50 70 250 500 60 100 A1 A2 A3 none 3 k1 1 k2 1 k3 0 0 0 3 5 (nth hmN) hmX hmY gT gX gY gH (fun w' v => Tube.TV w' v 5 gT gX gY gH gR gB) w1
    (Lib.hid fun w2 hb2 => (expandC (cl := hmC) (kd := hmK) (f := ⟨#[65]⟩) (t := ⟨#[67]⟩) (off := 100) (sp := 100) (h := 1000) (sv_keep hb2 hr1) (cv_keep hb2 hc1)).mono fun e w' ⟨hp, hb3⟩ => ⟨?_, hb3⟩)
    (Lib.hid fun w2 v hb2 hf => (pathC (tabs_keep (b_next hb hb2) T) hf (sv_keep hb2 hr1) (Wind.wv_keep hb2 hw1) w2 (Below.refl _ _)).mono fun e w' ⟨hp, hb3⟩ => ⟨?_, hb3⟩)
    (Lib.hid fun w2 v hb2 hv => (Tube.of_ok hv hm_of).mono fun e w' ⟨b, cap, he, hc1, hc2, hr, _, hb3⟩ => ⟨⟨_, he, Tube.tv_row (by decide) hc1 hc2 hr⟩, hb3⟩)
  · rw [hm_exp, hm_names] at hp
    rcases hp with ⟨h0, -⟩ | ⟨-, v, he, hf⟩
    · exact absurd rfl h0
    · exact ⟨v, he, hf⟩
  · rw [hm_path, hm_D] at hp
    rcases hp with ⟨h0, -⟩ | ⟨-, hp⟩
    · exact absurd rfl h0
    · rw [hm_en] at hp
      rcases hp with ⟨h0, -⟩ | ⟨-, v, he, base, ho⟩
      · exact absurd h0 (by decide)
      · rw [hm_N] at ho
        have q := pv_own ho (by decide)
        exact ⟨v, he, q⟩
/-- The fixed example is true. -/
theorem h05Works {w : World} (T : Tabs w) : Calls Tryz.prog 4 #[] w fun e w' => e = .returned (.bool true) ∧ Below w.heap.size w w' := by
  refine works_go gT gX gY gH 100 (fun w v => Tube.TV w v 5 gT gX gY gH gR gB) (fun w v => CV w v 3 smN smX smY 1 smM hmL smS) hm_last (fun _ _ _ hb h => cv_keep hb h)
    (Lib.hid fun w1 _ => h05ChartC w1) (Lib.hid fun w1 => h05KindC w1) (Lib.hid fun w1 b c hb hc hcv => hm_tube (tabs_keep hb T) (hm_rv hc) hcv w1 (Below.refl _ _))
    (fun _ _ _ hb h => Tube.tv_keep hb h) (fun _ _ h => ?_) (Lib.hid fun w1 v hv => ?_)
  · rcases h with ⟨h0, -⟩ | ⟨-, b, off, cap, rfl, -⟩
    · exact absurd h0 (by decide)
    · exact ⟨_, _, rfl⟩
  · have q := Tube.tAt_ok hv hm_at hm_seg
    rw [hm_x, hm_y, hm_h, hm_r, hm_b] at q
    exact q
end Top
end Go.Proofs.YtmkglhoahdlogaaGreatDoor
