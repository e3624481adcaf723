/- plantext.Parse: more than seven fields. -/
import Derived.Test.YtddlacjjanincaaDoorPtQ0
import Derived.Deep.RegionHeld3
namespace Go.Proofs.YtddlacjjanincaaDoor
open Go.RowKit
namespace Pt
open Kit Chart Route Plan Name
set_option maxRecDepth 100000 in
set_option maxHeartbeats 8000000 in
theorem parse_r (s : ByteArray) (w : World) (h : ¬ 8192 < s.size) (F : List ByteArray) (r : Nat) (hr0 : ¬ r = 0) (hr : F.length = 7 + r) (hF8 : F.length ≤ 10000) (L : List ByteArray) (hL : L.length = r) (sl : Nat → Value) (hsl : Hid (∀ g, sl g = .slice (some ⟨g, if r = 0 then 0 else 7, none⟩) r r)) (hsz : Hid (∀ k, (F.getD k ⟨#[]⟩).size ≤ 2000000))
    (SP : Hid (∀ w1, Below w.heap.size w w1 → Calls Tryd.prog 25 #[.string s, .string ⟨#[32]⟩] w1 fun e w' => (∃ g, e = .returned (.slice (some ⟨g, 0, none⟩) F.length F.length) ∧ ∀ k, k < F.length → w'.cell? ⟨g, k, none⟩ = some (.string (F.getD k ⟨#[]⟩))) ∧ Below w1.heap.size w1 w'))
    (CL : Hid (∀ w1 g, (∀ k, k < F.length → w1.cell? ⟨g, k, none⟩ = some (.string (F.getD k ⟨#[]⟩))) → Calls Tryd.prog 34 #[sl g] w1 fun e w' => (∃ Av cv, e = .returned (.slice Av r cv) ∧ ∀ W : World, (∀ a u, w1.heap.size ≤ a.block → w'.cell? a = some u → W.cell? a = some u) → SL W (.slice Av r cv) L) ∧ Below w1.heap.size w1 w'))
    (NC : Hid (∀ u : ByteArray, u.size ≤ 2000000 → ∀ w', Below w.heap.size w w' → Calls Tryd.prog 35 #[.string u] w' fun e w'' => NumR u e ∧ Below w'.heap.size w' w'')) :
    Calls Tryd.prog 18 #[.string s] w fun e w' => PaR w.heap.size (F.getD 0 ⟨#[]⟩) (F.getD 1 ⟨#[]⟩) (F.getD 2 ⟨#[]⟩) (F.getD 3 ⟨#[]⟩) (F.getD 4 ⟨#[]⟩) (F.getD 5 ⟨#[]⟩) (F.getD 6 ⟨#[]⟩) L e w' ∧ Below w.heap.size w w' := by
  obtain ⟨f0, e0⟩ : ∃ f, f = F.getD 0 ⟨#[]⟩ := ⟨_, rfl⟩
  rw [← e0]; have E0 := Lib.hid e0; clear e0
  obtain ⟨f1, e1⟩ : ∃ f, f = F.getD 1 ⟨#[]⟩ := ⟨_, rfl⟩
  rw [← e1]; have E1 := Lib.hid e1; clear e1
  obtain ⟨f2, e2⟩ : ∃ f, f = F.getD 2 ⟨#[]⟩ := ⟨_, rfl⟩
  rw [← e2]; have E2 := Lib.hid e2; clear e2
  obtain ⟨f3, e3⟩ : ∃ f, f = F.getD 3 ⟨#[]⟩ := ⟨_, rfl⟩
  rw [← e3]; have E3 := Lib.hid e3; clear e3
  obtain ⟨f4, e4⟩ : ∃ f, f = F.getD 4 ⟨#[]⟩ := ⟨_, rfl⟩
  rw [← e4]; have E4 := Lib.hid e4; clear e4
  obtain ⟨f5, e5⟩ : ∃ f, f = F.getD 5 ⟨#[]⟩ := ⟨_, rfl⟩
  rw [← e5]; have E5 := Lib.hid e5; clear e5
  obtain ⟨f6, e6⟩ : ∃ f, f = F.getD 6 ⟨#[]⟩ := ⟨_, rfl⟩
  rw [← e6]; have E6 := Lib.hid e6; clear e6
  have hi : ¬ 8192 < (s.size : Int) := by omega
  have hf : ¬ (F.length : Int) < 7 := by omega
  have Z0 := Lib.hid (z8_new w 39 ⟨#[]⟩ ⟨#[]⟩ ⟨#[]⟩ ⟨#[]⟩ 0 0 0 (.slice none 0 0))
  have W0 := Lib.hid (b_alloc (Below.refl w.heap.size w) (.cells #[.string ⟨#[]⟩, .string ⟨#[]⟩, .string ⟨#[]⟩, .string ⟨#[]⟩, .int .i64 0, .int .i64 0, .int .i64 0, .slice none 0 0] 39))
  go_enter Tryd.func18, Tryd.ntmps18
  go_wp2_with fail
  obtain ⟨n0, hn0⟩ : ∃ n0, n0 = w.heap.size := ⟨_, rfl⟩
  rw [← hn0] at Z0 ⊢
  have HN0 := Lib.hid hn0; clear hn0
  (with_reducible refine (SP.out _ W0.out).mono ?_); rintro e w1 ⟨⟨g, rfl, hc⟩, hb⟩
  have W1 := Lib.hid (b_next W0.out hb); have Z1 := Lib.hid (z8_keep hb Z0.out); have HC := Lib.hid hc
  clear hb hc
  have CL1 := Lib.hid fun (w2 : World) (hb : Below w1.heap.size w1 w2) => CL.out w2 g fun k hk => keep hb (HC.out k hk)
  have hsg := hsl.out g
  have C0 := HC.out 0 (by omega); have C1 := HC.out 1 (by omega); have C2 := HC.out 2 (by omega); have C3 := HC.out 3 (by omega)
  rw [← E0.out] at C0; rw [← E1.out] at C1; rw [← E2.out] at C2; rw [← E3.out] at C3
  have K4 : Hid (w1.cell? ⟨g, 4, none⟩ = some (.string f4)) := Lib.hid (by rw [E4.out]; exact HC.out 4 (by omega)); have hs4 : Hid (f4.size ≤ 2000000) := Lib.hid (by rw [E4.out]; exact hsz.out 4)
  have K5 : Hid (w1.cell? ⟨g, 5, none⟩ = some (.string f5)) := Lib.hid (by rw [E5.out]; exact HC.out 5 (by omega)); have hs5 : Hid (f5.size ≤ 2000000) := Lib.hid (by rw [E5.out]; exact hsz.out 5)
  have K6' : Hid (w1.cell? ⟨g, 6, none⟩ = some (.string f6)) := Lib.hid (by rw [E6.out]; exact HC.out 6 (by omega)); have hs6 : Hid (f6.size ≤ 2000000) := Lib.hid (by rw [E6.out]; exact hsz.out 6)
  have l0 : (0 : Int) < (F.length : Int) := by omega
  have l0n : 0 < F.length := by omega
  have l1 : (1 : Int) < (F.length : Int) := by omega
  have l2 : (2 : Int) < (F.length : Int) := by omega
  have l3 : (3 : Int) < (F.length : Int) := by omega
  have l4 : (4 : Int) < (F.length : Int) := by omega
  have l5 : (5 : Int) < (F.length : Int) := by omega
  have l6 : (6 : Int) < (F.length : Int) := by omega
  have l7 : (7 : Int) ≤ (F.length : Int) := by omega
  have hlr : (F.length : Int) - 7 = (r : Int) := by omega
  have hlr2 : F.length - 7 = r := by omega
  have KP : Hid (∀ w', Below w1.heap.size w1 w' → (w'.cell? ⟨g, 0, none⟩ = some (.string f0) ∧ w'.cell? ⟨g, 1, none⟩ = some (.string f1) ∧ w'.cell? ⟨g, 2, none⟩ = some (.string f2) ∧ w'.cell? ⟨g, 3, none⟩ = some (.string f3) ∧ Below w1.heap.size w1 w')) := Lib.hid fun w' hb => ⟨keep hb C0, keep hb C1, keep hb C2, keep hb C3, hb⟩
  have HGlt : Hid (g < w1.heap.size) := Lib.hid (lt_of_cell C0)
  clear C0 C1 C2 C3
  have Zd : Hid (∀ w9, Below ((w1.alloc (.cells #[.string ⟨#[]⟩, .string ⟨#[]⟩, .string ⟨#[]⟩, .string ⟨#[]⟩, .int .i64 0, .int .i64 0, .int .i64 0, .slice none 0 0] 39)).drew).heap.size ((w1.alloc (.cells #[.string ⟨#[]⟩, .string ⟨#[]⟩, .string ⟨#[]⟩, .string ⟨#[]⟩, .int .i64 0, .int .i64 0, .int .i64 0, .slice none 0 0] 39)).drew) w9 → Z8 w9 w1.heap.size ⟨#[]⟩ ⟨#[]⟩ ⟨#[]⟩ ⟨#[]⟩ 0 0 0 (.slice none 0 0)) := Lib.hid fun w9 hb => z8_keep hb (z8_keep (b_drew (Below.refl _ _)) (z8_new w1 39 ⟨#[]⟩ ⟨#[]⟩ ⟨#[]⟩ ⟨#[]⟩ 0 0 0 (.slice none 0 0)))
  have WA : Hid (Below w1.heap.size w1 ((w1.alloc (.cells #[.string ⟨#[]⟩, .string ⟨#[]⟩, .string ⟨#[]⟩, .string ⟨#[]⟩, .int .i64 0, .int .i64 0, .int .i64 0, .slice none 0 0] 39)).drew)) := Lib.hid (b_drew (b_alloc (Below.refl _ _) _))
  have WB : Hid (Below w1.heap.size w1 w1.drew) := Lib.hid (b_drew (Below.refl _ _))
  have SA : Hid (((w1.alloc (.cells #[.string ⟨#[]⟩, .string ⟨#[]⟩, .string ⟨#[]⟩, .string ⟨#[]⟩, .int .i64 0, .int .i64 0, .int .i64 0, .slice none 0 0] 39)).drew).heap.size = w1.heap.size + 1) := Lib.hid (by simp)
  · have hp7 : ¬ (F.length = 7) := by omega
    clear hr
    rw [if_neg hr0] at hsg
    rw [hsg] at CL1
    go_wp2_with fail
    go_region_held3 (fun w' => w'.cell? ⟨g, 0, none⟩ = some (.string f0) ∧ w'.cell? ⟨g, 1, none⟩ = some (.string f1) ∧ w'.cell? ⟨g, 2, none⟩ = some (.string f2) ∧ w'.cell? ⟨g, 3, none⟩ = some (.string f3) ∧ Below w1.heap.size w1 w')
      (with_reducible first
        | exact KP.out _ WA.out
        | exact KP.out _ WB.out
        | exact KP.out _ hb9
        | exact KP.out _ (b_alloc hb9 _)
        | exact KP.out _ (b_set8 hb9 (Nat.le_refl _) _ _ _ _ _ _ _ _)
        | exact KP.out _ (b_set8 (b_alloc hb9 _) hb9.size _ _ _ _ _ _ _ _)
        | assumption)
      ((first
        | (go_at_call 34; (with_reducible refine (CL1.out _ WA.out).mono ?_); rintro e w9 ⟨⟨Av, cv, rfl, hv⟩, hb9'⟩; have HV := Lib.hid hv; clear hv; have hb9 := b_next WA.out hb9'; obtain ⟨⟨y0, y1, y2, y3, y4, y5, y6, y7⟩, fr⟩ := Zd.out _ hb9'; have z0 := fr 0; have z1 := fr 1; have z2 := fr 2; have z3 := fr 3; have z4 := fr 4; have z5 := fr 5; have z6 := fr 6; have z7 := fr 7; clear fr)
        | (go_at_call 34; (with_reducible refine (CL1.out _ WB.out).mono ?_); rintro e w9 ⟨⟨Av, cv, rfl, hv⟩, hb9'⟩; have HV := Lib.hid hv; clear hv; have hb9 := b_next WB.out hb9')))
    · have Z6 := Lib.hid (z8_new w9 39 f0 f1 f2 f3 0 0 0 (.slice Av r cv))
      have B6 := Lib.hid (b_alloc hb9 (.cells #[.string f0, .string f1, .string f2, .string f3, .int .i64 0, .int .i64 0, .int .i64 0, .slice Av r cv] 39))
      have K6 : Hid (∀ W : World, (∀ a u, w1.heap.size ≤ a.block → a.block ≠ w9.heap.size → (w9.alloc (.cells #[.string f0, .string f1, .string f2, .string f3, .int .i64 0, .int .i64 0, .int .i64 0, .slice Av r cv] 39)).cell? a = some u → W.cell? a = some u) → SL W (.slice Av r cv) L) := Lib.hid fun W h => HV.out W fun a u ha hc => h a u (by first | exact ha | (have q := ha; simp at q; omega)) (by have := lt_of_cell hc; omega) (keep (b_alloc (Below.refl _ _) _) hc)
      have hbg : Hid (w1.heap.size ≤ w9.heap.size) := Lib.hid hb9.size
      rename_i hH
      clear HV hH hb9 hb9' KP Zd WA WB SA CL1 CL SP hsl
      revert hbg K6 B6 Z6
      generalize w9.alloc (.cells #[.string f0, .string f1, .string f2, .string f3, .int .i64 0, .int .i64 0, .int .i64 0, .slice Av r cv] 39) = W6
      generalize w9.heap.size = b
      intro Z6 B6 K6 hbg
      have hbw := Lib.hid (b_next W1.out B6.out)
      have HNB : Hid (n0 ≠ b) := Lib.hid (by have h1 := lt_of_cell Z1.out.n8.c0; have h2 := hbg.out; simp only at h1; omega)
      have HNL : Hid (n0 < w1.heap.size) := Lib.hid (lt_of_cell Z1.out.n8.c0)
      have HGB : Hid (g ≠ b) := Lib.hid (by have h1 := HGlt.out; have h2 := hbg.out; omega)
      have HWB : Hid (w.heap.size ≤ b) := Lib.hid (by have h1 := W1.out.size; have h2 := hbg.out; omega)
      have HBL : Hid (b < W6.heap.size) := Lib.hid (lt_of_cell Z6.out.n8.c0)
      obtain ⟨bb, hbb⟩ : ∃ bb, bb = W6.heap.size := ⟨_, rfl⟩
      obtain ⟨P7, hP7⟩ : ∃ P7, P7 = W6.alloc (.cells #[.pointer (some ⟨b, 4, none⟩), .pointer (some ⟨b, 5, none⟩), .pointer (some ⟨b, 6, none⟩)] 59) := ⟨_, rfl⟩
      have HBB : Hid (bb ≠ b) := Lib.hid (by have h1 := HBL.out; omega)
      have b7 : Below W6.heap.size W6 P7 := by rw [hP7]; exact b_alloc (Below.refl _ _) _
      have C0 : Hid (P7.cell? ⟨bb, 0, none⟩ = some (.pointer (some ⟨b, 4, none⟩))) := Lib.hid (by subst hP7; subst hbb; simp)
      have C1 : Hid (P7.cell? ⟨bb, 1, none⟩ = some (.pointer (some ⟨b, 5, none⟩))) := Lib.hid (by subst hP7; subst hbb; simp)
      have C2 : Hid (P7.cell? ⟨bb, 2, none⟩ = some (.pointer (some ⟨b, 6, none⟩))) := Lib.hid (by subst hP7; subst hbb; simp)
      have G4 := Lib.hid (keep b7 (keep B6.out K4.out)); have G5 := Lib.hid (keep b7 (keep B6.out K5.out)); have G6 := Lib.hid (keep b7 (keep B6.out K6'.out))
      have ZS := Lib.hid (z8_keep b7 Z6.out); have NS := Lib.hid (z8_keep b7 (z8_keep B6.out Z1.out)); have BS := Lib.hid (b_next hbw.out b7)
      have K7 : Hid (∀ W : World, (∀ a u, w1.heap.size ≤ a.block → a.block ≠ b → (P7).cell? a = some u → W.cell? a = some u) → SL W (.slice Av r cv) L) := Lib.hid fun W h => K6.out W fun a u h1 ha hc => h a u h1 ha (keep b7 hc)
      clear b7 K6 B6 Z6
      go_wp2_with fail
      rw [← hbb, ← hP7]
      clear hbb hP7
      go_loopw [42] (fun t wr => ∃ k : Nat, k ≤ 3 ∧ t = .int .i64 k ∧ ∃ x y z : Int, ParI f4 f5 f6 k x y z ∧ Z8 wr b f0 f1 f2 f3 x y z (.slice Av r cv) ∧ Z8 wr n0 ⟨#[]⟩ ⟨#[]⟩ ⟨#[]⟩ ⟨#[]⟩ 0 0 0 (.slice none 0 0) ∧ FarEq b P7 wr ∧ Below w.heap.size w wr) (fun t _ => 3 - (intOf t).toNat)
      case atStart => exact ⟨0, by decide, rfl, 0, 0, 0, ⟨rfl, rfl, rfl⟩, ZS.out, NS.out, fun _ _ _ h => h, BS.out⟩
      case round =>
        obtain ⟨k, hk, rfl, x, y, z, hp, hz, hn, hfar, hbl⟩ := hrel
        have HP := Lib.hid hp; have HZ := Lib.hid hz; have HN := Lib.hid hn; have HF := Lib.hid hfar; have HB := Lib.hid hbl
        clear hp hz hn hfar hbl
        rcases (show k = 0 ∨ k = 1 ∨ k = 2 ∨ k = 3 by omega) with rfl | rfl | rfl | rfl
        · have cp := HF.out ⟨bb, 0, none⟩ _ HBB.out C0.out; have cf := HF.out ⟨g, 4, none⟩ _ HGB.out G4.out
          have NCi := Lib.hid (NC.out f4 hs4.out wr HB.out)
          have kk : ((0 : Nat) : Int) < 3 := by decide
          go_wp2_with fail
          (with_reducible refine NCi.out.mono ?_); rintro e w8 ⟨hn, hb⟩
          have B8 := Lib.hid (b_next HB.out hb); have Z8b := Lib.hid (z8_keep hb HZ.out); have Z8n := Lib.hid (z8_keep hb HN.out); have F8 := Lib.hid (far_keep HF.out hb)
          clear hb
          rcases hn with ⟨m, hm, rfl⟩ | ⟨hm, v, rfl⟩
          · have HM := Lib.hid hm; clear hm
            obtain ⟨⟨y0, y1, y2, y3, y4, y5, y6, y7⟩, fr⟩ := Z8b.out; have z0 := fr 0; have z1 := fr 1; have z2 := fr 2; have z3 := fr 3; have z4 := fr 4; have z5 := fr 5; have z6 := fr 6; have z7 := fr 7; clear fr
            go_wp2_with fail
            refine ⟨⟨1, by decide, by go_num, m, y, z, ?_, (z8_num Z8b.out 0 m).1 rfl, z8_far HNB.out Z8n.out _ _, far_set F8.out _ _, b_set B8.out HWB.out _⟩, by simp [intOf]⟩
            have hp := HP.out; unfold ParI at hp ⊢; have hm := HM.out; simp at hp ⊢; simp [hm, hp]
          · have HM := Lib.hid hm; clear hm
            obtain ⟨⟨y0, y1, y2, y3, y4, y5, y6, y7⟩, fr⟩ := Z8n.out; have z0 := fr 0; have z1 := fr 1; have z2 := fr 2; have z3 := fr 3; have z4 := fr 4; have z5 := fr 5; have z6 := fr 6; have z7 := fr 7; clear fr
            go_wp2_with fail
            have ZR := (z8_set Z8n.out ⟨#[]⟩ ⟨#[]⟩ ⟨#[]⟩ ⟨#[]⟩ 0 0 0 (.slice none 0 0)).n8
            refine bodyPost_ret (v := .tuple #[zp, .int .i64 5]) (by simp [results, Tryd.results18, go_sem, ZR.c0, ZR.c1, ZR.c2, ZR.c3, ZR.c4, ZR.c5, ZR.c6, ZR.c7]) rfl ⟨?_, ?_⟩
            · exact Or.inl ⟨5, by decide, rfl, fun x y z h4 h5 h6 => by have hm := HM.out; simp_all⟩
            · exact b_set8 B8.out (Nat.le_of_eq HN0.out.symm) _ _ _ _ _ _ _ _
        · have cp := HF.out ⟨bb, 1, none⟩ _ HBB.out C1.out; have cf := HF.out ⟨g, 5, none⟩ _ HGB.out G5.out
          have NCi := Lib.hid (NC.out f5 hs5.out wr HB.out)
          have kk : ((1 : Nat) : Int) < 3 := by decide
          go_wp2_with fail
          (with_reducible refine NCi.out.mono ?_); rintro e w8 ⟨hn, hb⟩
          have B8 := Lib.hid (b_next HB.out hb); have Z8b := Lib.hid (z8_keep hb HZ.out); have Z8n := Lib.hid (z8_keep hb HN.out); have F8 := Lib.hid (far_keep HF.out hb)
          clear hb
          rcases hn with ⟨m, hm, rfl⟩ | ⟨hm, v, rfl⟩
          · have HM := Lib.hid hm; clear hm
            obtain ⟨⟨y0, y1, y2, y3, y4, y5, y6, y7⟩, fr⟩ := Z8b.out; have z0 := fr 0; have z1 := fr 1; have z2 := fr 2; have z3 := fr 3; have z4 := fr 4; have z5 := fr 5; have z6 := fr 6; have z7 := fr 7; clear fr
            go_wp2_with fail
            refine ⟨⟨2, by decide, by go_num, x, m, z, ?_, (z8_num Z8b.out 1 m).2.1 rfl, z8_far HNB.out Z8n.out _ _, far_set F8.out _ _, b_set B8.out HWB.out _⟩, by simp [intOf]⟩
            have hp := HP.out; unfold ParI at hp ⊢; have hm := HM.out; simp at hp ⊢; simp [hm, hp]
          · have HM := Lib.hid hm; clear hm
            obtain ⟨⟨y0, y1, y2, y3, y4, y5, y6, y7⟩, fr⟩ := Z8n.out; have z0 := fr 0; have z1 := fr 1; have z2 := fr 2; have z3 := fr 3; have z4 := fr 4; have z5 := fr 5; have z6 := fr 6; have z7 := fr 7; clear fr
            go_wp2_with fail
            have ZR := (z8_set Z8n.out ⟨#[]⟩ ⟨#[]⟩ ⟨#[]⟩ ⟨#[]⟩ 0 0 0 (.slice none 0 0)).n8
            refine bodyPost_ret (v := .tuple #[zp, .int .i64 5]) (by simp [results, Tryd.results18, go_sem, ZR.c0, ZR.c1, ZR.c2, ZR.c3, ZR.c4, ZR.c5, ZR.c6, ZR.c7]) rfl ⟨?_, ?_⟩
            · exact Or.inl ⟨5, by decide, rfl, fun x y z h4 h5 h6 => by have hm := HM.out; simp_all⟩
            · exact b_set8 B8.out (Nat.le_of_eq HN0.out.symm) _ _ _ _ _ _ _ _
        · have cp := HF.out ⟨bb, 2, none⟩ _ HBB.out C2.out; have cf := HF.out ⟨g, 6, none⟩ _ HGB.out G6.out
          have NCi := Lib.hid (NC.out f6 hs6.out wr HB.out)
          have kk : ((2 : Nat) : Int) < 3 := by decide
          go_wp2_with fail
          (with_reducible refine NCi.out.mono ?_); rintro e w8 ⟨hn, hb⟩
          have B8 := Lib.hid (b_next HB.out hb); have Z8b := Lib.hid (z8_keep hb HZ.out); have Z8n := Lib.hid (z8_keep hb HN.out); have F8 := Lib.hid (far_keep HF.out hb)
          clear hb
          rcases hn with ⟨m, hm, rfl⟩ | ⟨hm, v, rfl⟩
          · have HM := Lib.hid hm; clear hm
            obtain ⟨⟨y0, y1, y2, y3, y4, y5, y6, y7⟩, fr⟩ := Z8b.out; have z0 := fr 0; have z1 := fr 1; have z2 := fr 2; have z3 := fr 3; have z4 := fr 4; have z5 := fr 5; have z6 := fr 6; have z7 := fr 7; clear fr
            go_wp2_with fail
            refine ⟨⟨3, by decide, by go_num, x, y, m, ?_, (z8_num Z8b.out 2 m).2.2 rfl, z8_far HNB.out Z8n.out _ _, far_set F8.out _ _, b_set B8.out HWB.out _⟩, by simp [intOf]⟩
            have hp := HP.out; unfold ParI at hp ⊢; have hm := HM.out; simp at hp ⊢; simp [hm, hp]
          · have HM := Lib.hid hm; clear hm
            obtain ⟨⟨y0, y1, y2, y3, y4, y5, y6, y7⟩, fr⟩ := Z8n.out; have z0 := fr 0; have z1 := fr 1; have z2 := fr 2; have z3 := fr 3; have z4 := fr 4; have z5 := fr 5; have z6 := fr 6; have z7 := fr 7; clear fr
            go_wp2_with fail
            have ZR := (z8_set Z8n.out ⟨#[]⟩ ⟨#[]⟩ ⟨#[]⟩ ⟨#[]⟩ 0 0 0 (.slice none 0 0)).n8
            refine bodyPost_ret (v := .tuple #[zp, .int .i64 5]) (by simp [results, Tryd.results18, go_sem, ZR.c0, ZR.c1, ZR.c2, ZR.c3, ZR.c4, ZR.c5, ZR.c6, ZR.c7]) rfl ⟨?_, ?_⟩
            · exact Or.inl ⟨5, by decide, rfl, fun x y z h4 h5 h6 => by have hm := HM.out; simp_all⟩
            · exact b_set8 B8.out (Nat.le_of_eq HN0.out.symm) _ _ _ _ _ _ _ _
        · have kk : ¬ ((3 : Nat) : Int) < 3 := by decide
          have CKw := Lib.hid (checkC (c := f0) (k := f1) (f := f2) (t := f3) (off := x) (sp := y) (h := z) (K7.out wr fun a u _ ha hc => HF.out a u ha hc) wr (Below.refl _ _))
          obtain ⟨E, hE⟩ : ∃ E, E = planE f0 f1 f2 f3 x y z L.length (rtF L) := ⟨_, rfl⟩
          have HE := Lib.hid hE
          have HP3 : Hid (NumT.numB f4.data.toList = some x ∧ NumT.numB f5.data.toList = some y ∧ NumT.numB f6.data.toList = some z) := Lib.hid (by have hp := HP.out; unfold ParI at hp; simpa using hp)
          have CK2 : Hid (Calls Tryd.prog 17 #[plan f0 f1 f2 f3 x y z (.slice Av r cv)] wr fun e w' => e = .returned (.int .i64 E) ∧ Below wr.heap.size wr w') := Lib.hid (by rw [hE]; exact CKw.out)
          clear hE CKw
          obtain ⟨⟨y0, y1, y2, y3, y4, y5, y6, y7⟩, fr⟩ := HZ.out; have z0 := fr 0; have z1 := fr 1; have z2 := fr 2; have z3 := fr 3; have z4 := fr 4; have z5 := fr 5; have z6 := fr 6; have z7 := fr 7; clear fr
          go_wp2_with fail
          (with_reducible refine CK2.out.mono ?_); rintro e w8 ⟨rfl, hb⟩
          have B8 := Lib.hid (b_next HB.out hb); have Z8b := Lib.hid (z8_keep hb HZ.out); have Z8n := Lib.hid (z8_keep hb HN.out); have F8 := Lib.hid (far_keep HF.out hb)
          clear hb y0 y1 y2 y3 y4 y5 y6 y7 z0 z1 z2 z3 z4 z5 z6 z7
          by_cases h0 : E = 0
          · have HE0 : Hid (planE f0 f1 f2 f3 x y z L.length (rtF L) = 0) := Lib.hid (by rw [← HE.out]; exact h0)
            subst h0
            obtain ⟨⟨y0, y1, y2, y3, y4, y5, y6, y7⟩, fr⟩ := Z8b.out; have z0 := fr 0; have z1 := fr 1; have z2 := fr 2; have z3 := fr 3; have z4 := fr 4; have z5 := fr 5; have z6 := fr 6; have z7 := fr 7; clear fr
            obtain ⟨⟨p0, p1, p2, p3, p4, p5, p6, p7⟩, fr⟩ := Z8n.out; have q0 := fr 0; have q1 := fr 1; have q2 := fr 2; have q3 := fr 3; have q4 := fr 4; have q5 := fr 5; have q6 := fr 6; have q7 := fr 7; clear fr
            go_wp2_with fail
            have ZR := (z8_set Z8n.out f0 f1 f2 f3 x y z (.slice Av r cv)).n8
            refine bodyPost_ret (v := .tuple #[plan f0 f1 f2 f3 x y z (.slice Av r cv), .int .i64 0]) (by simp [results, Tryd.results18, go_sem, ZR.c0, ZR.c1, ZR.c2, ZR.c3, ZR.c4, ZR.c5, ZR.c6, ZR.c7]) rfl ⟨?_, ?_⟩
            · exact Or.inr ⟨x, y, z, _, HP3.out.1, HP3.out.2.1, HP3.out.2.2, HE0.out, rfl, fun W hW => K7.out W fun a u h1 ha hc => hW a u (Nat.le_trans W1.out.size h1) (far8 (by have h2 := HNL.out; omega) (F8.out a u ha hc) _ _ _ _ _ _ _ _)⟩
            · exact b_set8 B8.out (Nat.le_of_eq HN0.out.symm) _ _ _ _ _ _ _ _
          · have h1 : (E == 0) = false := by simpa using h0
            obtain ⟨⟨y0, y1, y2, y3, y4, y5, y6, y7⟩, fr⟩ := Z8n.out; have z0 := fr 0; have z1 := fr 1; have z2 := fr 2; have z3 := fr 3; have z4 := fr 4; have z5 := fr 5; have z6 := fr 6; have z7 := fr 7; clear fr
            go_wp2_with fail
            have ZR := (z8_set Z8n.out ⟨#[]⟩ ⟨#[]⟩ ⟨#[]⟩ ⟨#[]⟩ 0 0 0 (.slice none 0 0)).n8
            refine bodyPost_ret (v := .tuple #[zp, .int .i64 E]) (by simp [results, Tryd.results18, go_sem, ZR.c0, ZR.c1, ZR.c2, ZR.c3, ZR.c4, ZR.c5, ZR.c6, ZR.c7]) rfl ⟨?_, ?_⟩
            · exact Or.inl ⟨E, h0, rfl, fun x' y' z' h4 h5 h6 => by
                obtain ⟨q4, q5, q6⟩ := HP3.out
                rw [q4] at h4; rw [q5] at h5; rw [q6] at h6
                cases h4; cases h5; cases h6
                rw [← HE.out]; exact h0⟩
            · exact b_set8 B8.out (Nat.le_of_eq HN0.out.symm) _ _ _ _ _ _ _ _
    · have Z6 := Lib.hid (z8_set (Zd.out _ hb9') f0 f1 f2 f3 0 0 0 (.slice Av r cv))
      have B6 := Lib.hid (b_set8 hb9 (Nat.le_refl _) (.string f0) (.string f1) (.string f2) (.string f3) (.int .i64 0) (.int .i64 0) (.int .i64 0) (.slice Av r cv))
      have K6 : Hid (∀ W : World, (∀ a u, w1.heap.size ≤ a.block → a.block ≠ w1.heap.size → (((((((((w9.setCell ⟨w1.heap.size, 0, none⟩ (.string f0)).setCell ⟨w1.heap.size, 1, none⟩ (.string f1)).setCell ⟨w1.heap.size, 2, none⟩ (.string f2)).setCell ⟨w1.heap.size, 3, none⟩ (.string f3)).setCell ⟨w1.heap.size, 4, none⟩ (.int .i64 0)).setCell ⟨w1.heap.size, 5, none⟩ (.int .i64 0)).setCell ⟨w1.heap.size, 6, none⟩ (.int .i64 0)).setCell ⟨w1.heap.size, 7, none⟩ (.slice Av r cv))).cell? a = some u → W.cell? a = some u) → SL W (.slice Av r cv) L) := Lib.hid fun W h => HV.out W fun a u ha hc => h a u (by rw [SA.out] at ha; omega) (by rw [SA.out] at ha; omega) (far8 (by rw [SA.out] at ha; omega) hc _ _ _ _ _ _ _ _)
      rename_i hH
      clear HV hH hb9 KP WA WB CL1 CL SP hsl hb9' SA Zd y0 y1 y2 y3 y4 y5 y6 y7 z0 z1 z2 z3 z4 z5 z6 z7
      generalize ((((((((w9.setCell ⟨w1.heap.size, 0, none⟩ (.string f0)).setCell ⟨w1.heap.size, 1, none⟩ (.string f1)).setCell ⟨w1.heap.size, 2, none⟩ (.string f2)).setCell ⟨w1.heap.size, 3, none⟩ (.string f3)).setCell ⟨w1.heap.size, 4, none⟩ (.int .i64 0)).setCell ⟨w1.heap.size, 5, none⟩ (.int .i64 0)).setCell ⟨w1.heap.size, 6, none⟩ (.int .i64 0)).setCell ⟨w1.heap.size, 7, none⟩ (.slice Av r cv)) = W6 at Z6 B6 K6 ⊢
      obtain ⟨b, hb⟩ : ∃ b, b = w1.heap.size := ⟨_, rfl⟩
      have hbg : Hid (w1.heap.size ≤ b) := Lib.hid (Nat.le_of_eq hb.symm)
      have K6 : Hid (∀ W : World, (∀ a u, w1.heap.size ≤ a.block → a.block ≠ b → (W6).cell? a = some u → W.cell? a = some u) → SL W (.slice Av r cv) L) := by rw [hb]; exact K6
      rw [← hb] at Z6 ⊢
      clear hb
      have hbw := Lib.hid (b_next W1.out B6.out)
      have HNB : Hid (n0 ≠ b) := Lib.hid (by have h1 := lt_of_cell Z1.out.n8.c0; have h2 := hbg.out; simp only at h1; omega)
      have HNL : Hid (n0 < w1.heap.size) := Lib.hid (lt_of_cell Z1.out.n8.c0)
      have HGB : Hid (g ≠ b) := Lib.hid (by have h1 := HGlt.out; have h2 := hbg.out; omega)
      have HWB : Hid (w.heap.size ≤ b) := Lib.hid (by have h1 := W1.out.size; have h2 := hbg.out; omega)
      have HBL : Hid (b < W6.heap.size) := Lib.hid (lt_of_cell Z6.out.n8.c0)
      obtain ⟨bb, hbb⟩ : ∃ bb, bb = W6.heap.size := ⟨_, rfl⟩
      obtain ⟨P7, hP7⟩ : ∃ P7, P7 = W6.alloc (.cells #[.pointer (some ⟨b, 4, none⟩), .pointer (some ⟨b, 5, none⟩), .pointer (some ⟨b, 6, none⟩)] 59) := ⟨_, rfl⟩
      have HBB : Hid (bb ≠ b) := Lib.hid (by have h1 := HBL.out; omega)
      have b7 : Below W6.heap.size W6 P7 := by rw [hP7]; exact b_alloc (Below.refl _ _) _
      have C0 : Hid (P7.cell? ⟨bb, 0, none⟩ = some (.pointer (some ⟨b, 4, none⟩))) := Lib.hid (by subst hP7; subst hbb; simp)
      have C1 : Hid (P7.cell? ⟨bb, 1, none⟩ = some (.pointer (some ⟨b, 5, none⟩))) := Lib.hid (by subst hP7; subst hbb; simp)
      have C2 : Hid (P7.cell? ⟨bb, 2, none⟩ = some (.pointer (some ⟨b, 6, none⟩))) := Lib.hid (by subst hP7; subst hbb; simp)
      have G4 := Lib.hid (keep b7 (keep B6.out K4.out)); have G5 := Lib.hid (keep b7 (keep B6.out K5.out)); have G6 := Lib.hid (keep b7 (keep B6.out K6'.out))
      have ZS := Lib.hid (z8_keep b7 Z6.out); have NS := Lib.hid (z8_keep b7 (z8_keep B6.out Z1.out)); have BS := Lib.hid (b_next hbw.out b7)
      have K7 : Hid (∀ W : World, (∀ a u, w1.heap.size ≤ a.block → a.block ≠ b → (P7).cell? a = some u → W.cell? a = some u) → SL W (.slice Av r cv) L) := Lib.hid fun W h => K6.out W fun a u h1 ha hc => h a u h1 ha (keep b7 hc)
      clear b7 K6 B6 Z6
      go_wp2_with fail
      rw [← hbb, ← hP7]
      clear hbb hP7
      go_loopw [42] (fun t wr => ∃ k : Nat, k ≤ 3 ∧ t = .int .i64 k ∧ ∃ x y z : Int, ParI f4 f5 f6 k x y z ∧ Z8 wr b f0 f1 f2 f3 x y z (.slice Av r cv) ∧ Z8 wr n0 ⟨#[]⟩ ⟨#[]⟩ ⟨#[]⟩ ⟨#[]⟩ 0 0 0 (.slice none 0 0) ∧ FarEq b P7 wr ∧ Below w.heap.size w wr) (fun t _ => 3 - (intOf t).toNat)
      case atStart => exact ⟨0, by decide, rfl, 0, 0, 0, ⟨rfl, rfl, rfl⟩, ZS.out, NS.out, fun _ _ _ h => h, BS.out⟩
      case round =>
        obtain ⟨k, hk, rfl, x, y, z, hp, hz, hn, hfar, hbl⟩ := hrel
        have HP := Lib.hid hp; have HZ := Lib.hid hz; have HN := Lib.hid hn; have HF := Lib.hid hfar; have HB := Lib.hid hbl
        clear hp hz hn hfar hbl
        rcases (show k = 0 ∨ k = 1 ∨ k = 2 ∨ k = 3 by omega) with rfl | rfl | rfl | rfl
        · have cp := HF.out ⟨bb, 0, none⟩ _ HBB.out C0.out; have cf := HF.out ⟨g, 4, none⟩ _ HGB.out G4.out
          have NCi := Lib.hid (NC.out f4 hs4.out wr HB.out)
          have kk : ((0 : Nat) : Int) < 3 := by decide
          go_wp2_with fail
          (with_reducible refine NCi.out.mono ?_); rintro e w8 ⟨hn, hb⟩
          have B8 := Lib.hid (b_next HB.out hb); have Z8b := Lib.hid (z8_keep hb HZ.out); have Z8n := Lib.hid (z8_keep hb HN.out); have F8 := Lib.hid (far_keep HF.out hb)
          clear hb
          rcases hn with ⟨m, hm, rfl⟩ | ⟨hm, v, rfl⟩
          · have HM := Lib.hid hm; clear hm
            obtain ⟨⟨y0, y1, y2, y3, y4, y5, y6, y7⟩, fr⟩ := Z8b.out; have z0 := fr 0; have z1 := fr 1; have z2 := fr 2; have z3 := fr 3; have z4 := fr 4; have z5 := fr 5; have z6 := fr 6; have z7 := fr 7; clear fr
            go_wp2_with fail
            refine ⟨⟨1, by decide, by go_num, m, y, z, ?_, (z8_num Z8b.out 0 m).1 rfl, z8_far HNB.out Z8n.out _ _, far_set F8.out _ _, b_set B8.out HWB.out _⟩, by simp [intOf]⟩
            have hp := HP.out; unfold ParI at hp ⊢; have hm := HM.out; simp at hp ⊢; simp [hm, hp]
          · have HM := Lib.hid hm; clear hm
            obtain ⟨⟨y0, y1, y2, y3, y4, y5, y6, y7⟩, fr⟩ := Z8n.out; have z0 := fr 0; have z1 := fr 1; have z2 := fr 2; have z3 := fr 3; have z4 := fr 4; have z5 := fr 5; have z6 := fr 6; have z7 := fr 7; clear fr
            go_wp2_with fail
            have ZR := (z8_set Z8n.out ⟨#[]⟩ ⟨#[]⟩ ⟨#[]⟩ ⟨#[]⟩ 0 0 0 (.slice none 0 0)).n8
            refine bodyPost_ret (v := .tuple #[zp, .int .i64 5]) (by simp [results, Tryd.results18, go_sem, ZR.c0, ZR.c1, ZR.c2, ZR.c3, ZR.c4, ZR.c5, ZR.c6, ZR.c7]) rfl ⟨?_, ?_⟩
            · exact Or.inl ⟨5, by decide, rfl, fun x y z h4 h5 h6 => by have hm := HM.out; simp_all⟩
            · exact b_set8 B8.out (Nat.le_of_eq HN0.out.symm) _ _ _ _ _ _ _ _
        · have cp := HF.out ⟨bb, 1, none⟩ _ HBB.out C1.out; have cf := HF.out ⟨g, 5, none⟩ _ HGB.out G5.out
          have NCi := Lib.hid (NC.out f5 hs5.out wr HB.out)
          have kk : ((1 : Nat) : Int) < 3 := by decide
          go_wp2_with fail
          (with_reducible refine NCi.out.mono ?_); rintro e w8 ⟨hn, hb⟩
          have B8 := Lib.hid (b_next HB.out hb); have Z8b := Lib.hid (z8_keep hb HZ.out); have Z8n := Lib.hid (z8_keep hb HN.out); have F8 := Lib.hid (far_keep HF.out hb)
          clear hb
          rcases hn with ⟨m, hm, rfl⟩ | ⟨hm, v, rfl⟩
          · have HM := Lib.hid hm; clear hm
            obtain ⟨⟨y0, y1, y2, y3, y4, y5, y6, y7⟩, fr⟩ := Z8b.out; have z0 := fr 0; have z1 := fr 1; have z2 := fr 2; have z3 := fr 3; have z4 := fr 4; have z5 := fr 5; have z6 := fr 6; have z7 := fr 7; clear fr
            go_wp2_with fail
            refine ⟨⟨2, by decide, by go_num, x, m, z, ?_, (z8_num Z8b.out 1 m).2.1 rfl, z8_far HNB.out Z8n.out _ _, far_set F8.out _ _, b_set B8.out HWB.out _⟩, by simp [intOf]⟩
            have hp := HP.out; unfold ParI at hp ⊢; have hm := HM.out; simp at hp ⊢; simp [hm, hp]
          · have HM := Lib.hid hm; clear hm
            obtain ⟨⟨y0, y1, y2, y3, y4, y5, y6, y7⟩, fr⟩ := Z8n.out; have z0 := fr 0; have z1 := fr 1; have z2 := fr 2; have z3 := fr 3; have z4 := fr 4; have z5 := fr 5; have z6 := fr 6; have z7 := fr 7; clear fr
            go_wp2_with fail
            have ZR := (z8_set Z8n.out ⟨#[]⟩ ⟨#[]⟩ ⟨#[]⟩ ⟨#[]⟩ 0 0 0 (.slice none 0 0)).n8
            refine bodyPost_ret (v := .tuple #[zp, .int .i64 5]) (by simp [results, Tryd.results18, go_sem, ZR.c0, ZR.c1, ZR.c2, ZR.c3, ZR.c4, ZR.c5, ZR.c6, ZR.c7]) rfl ⟨?_, ?_⟩
            · exact Or.inl ⟨5, by decide, rfl, fun x y z h4 h5 h6 => by have hm := HM.out; simp_all⟩
            · exact b_set8 B8.out (Nat.le_of_eq HN0.out.symm) _ _ _ _ _ _ _ _
        · have cp := HF.out ⟨bb, 2, none⟩ _ HBB.out C2.out; have cf := HF.out ⟨g, 6, none⟩ _ HGB.out G6.out
          have NCi := Lib.hid (NC.out f6 hs6.out wr HB.out)
          have kk : ((2 : Nat) : Int) < 3 := by decide
          go_wp2_with fail
          (with_reducible refine NCi.out.mono ?_); rintro e w8 ⟨hn, hb⟩
          have B8 := Lib.hid (b_next HB.out hb); have Z8b := Lib.hid (z8_keep hb HZ.out); have Z8n := Lib.hid (z8_keep hb HN.out); have F8 := Lib.hid (far_keep HF.out hb)
          clear hb
          rcases hn with ⟨m, hm, rfl⟩ | ⟨hm, v, rfl⟩
          · have HM := Lib.hid hm; clear hm
            obtain ⟨⟨y0, y1, y2, y3, y4, y5, y6, y7⟩, fr⟩ := Z8b.out; have z0 := fr 0; have z1 := fr 1; have z2 := fr 2; have z3 := fr 3; have z4 := fr 4; have z5 := fr 5; have z6 := fr 6; have z7 := fr 7; clear fr
            go_wp2_with fail
            refine ⟨⟨3, by decide, by go_num, x, y, m, ?_, (z8_num Z8b.out 2 m).2.2 rfl, z8_far HNB.out Z8n.out _ _, far_set F8.out _ _, b_set B8.out HWB.out _⟩, by simp [intOf]⟩
            have hp := HP.out; unfold ParI at hp ⊢; have hm := HM.out; simp at hp ⊢; simp [hm, hp]
          · have HM := Lib.hid hm; clear hm
            obtain ⟨⟨y0, y1, y2, y3, y4, y5, y6, y7⟩, fr⟩ := Z8n.out; have z0 := fr 0; have z1 := fr 1; have z2 := fr 2; have z3 := fr 3; have z4 := fr 4; have z5 := fr 5; have z6 := fr 6; have z7 := fr 7; clear fr
            go_wp2_with fail
            have ZR := (z8_set Z8n.out ⟨#[]⟩ ⟨#[]⟩ ⟨#[]⟩ ⟨#[]⟩ 0 0 0 (.slice none 0 0)).n8
            refine bodyPost_ret (v := .tuple #[zp, .int .i64 5]) (by simp [results, Tryd.results18, go_sem, ZR.c0, ZR.c1, ZR.c2, ZR.c3, ZR.c4, ZR.c5, ZR.c6, ZR.c7]) rfl ⟨?_, ?_⟩
            · exact Or.inl ⟨5, by decide, rfl, fun x y z h4 h5 h6 => by have hm := HM.out; simp_all⟩
            · exact b_set8 B8.out (Nat.le_of_eq HN0.out.symm) _ _ _ _ _ _ _ _
        · have kk : ¬ ((3 : Nat) : Int) < 3 := by decide
          have CKw := Lib.hid (checkC (c := f0) (k := f1) (f := f2) (t := f3) (off := x) (sp := y) (h := z) (K7.out wr fun a u _ ha hc => HF.out a u ha hc) wr (Below.refl _ _))
          obtain ⟨E, hE⟩ : ∃ E, E = planE f0 f1 f2 f3 x y z L.length (rtF L) := ⟨_, rfl⟩
          have HE := Lib.hid hE
          have HP3 : Hid (NumT.numB f4.data.toList = some x ∧ NumT.numB f5.data.toList = some y ∧ NumT.numB f6.data.toList = some z) := Lib.hid (by have hp := HP.out; unfold ParI at hp; simpa using hp)
          have CK2 : Hid (Calls Tryd.prog 17 #[plan f0 f1 f2 f3 x y z (.slice Av r cv)] wr fun e w' => e = .returned (.int .i64 E) ∧ Below wr.heap.size wr w') := Lib.hid (by rw [hE]; exact CKw.out)
          clear hE CKw
          obtain ⟨⟨y0, y1, y2, y3, y4, y5, y6, y7⟩, fr⟩ := HZ.out; have z0 := fr 0; have z1 := fr 1; have z2 := fr 2; have z3 := fr 3; have z4 := fr 4; have z5 := fr 5; have z6 := fr 6; have z7 := fr 7; clear fr
          go_wp2_with fail
          (with_reducible refine CK2.out.mono ?_); rintro e w8 ⟨rfl, hb⟩
          have B8 := Lib.hid (b_next HB.out hb); have Z8b := Lib.hid (z8_keep hb HZ.out); have Z8n := Lib.hid (z8_keep hb HN.out); have F8 := Lib.hid (far_keep HF.out hb)
          clear hb y0 y1 y2 y3 y4 y5 y6 y7 z0 z1 z2 z3 z4 z5 z6 z7
          by_cases h0 : E = 0
          · have HE0 : Hid (planE f0 f1 f2 f3 x y z L.length (rtF L) = 0) := Lib.hid (by rw [← HE.out]; exact h0)
            subst h0
            obtain ⟨⟨y0, y1, y2, y3, y4, y5, y6, y7⟩, fr⟩ := Z8b.out; have z0 := fr 0; have z1 := fr 1; have z2 := fr 2; have z3 := fr 3; have z4 := fr 4; have z5 := fr 5; have z6 := fr 6; have z7 := fr 7; clear fr
            obtain ⟨⟨p0, p1, p2, p3, p4, p5, p6, p7⟩, fr⟩ := Z8n.out; have q0 := fr 0; have q1 := fr 1; have q2 := fr 2; have q3 := fr 3; have q4 := fr 4; have q5 := fr 5; have q6 := fr 6; have q7 := fr 7; clear fr
            go_wp2_with fail
            have ZR := (z8_set Z8n.out f0 f1 f2 f3 x y z (.slice Av r cv)).n8
            refine bodyPost_ret (v := .tuple #[plan f0 f1 f2 f3 x y z (.slice Av r cv), .int .i64 0]) (by simp [results, Tryd.results18, go_sem, ZR.c0, ZR.c1, ZR.c2, ZR.c3, ZR.c4, ZR.c5, ZR.c6, ZR.c7]) rfl ⟨?_, ?_⟩
            · exact Or.inr ⟨x, y, z, _, HP3.out.1, HP3.out.2.1, HP3.out.2.2, HE0.out, rfl, fun W hW => K7.out W fun a u h1 ha hc => hW a u (Nat.le_trans W1.out.size h1) (far8 (by have h2 := HNL.out; omega) (F8.out a u ha hc) _ _ _ _ _ _ _ _)⟩
            · exact b_set8 B8.out (Nat.le_of_eq HN0.out.symm) _ _ _ _ _ _ _ _
          · have h1 : (E == 0) = false := by simpa using h0
            obtain ⟨⟨y0, y1, y2, y3, y4, y5, y6, y7⟩, fr⟩ := Z8n.out; have z0 := fr 0; have z1 := fr 1; have z2 := fr 2; have z3 := fr 3; have z4 := fr 4; have z5 := fr 5; have z6 := fr 6; have z7 := fr 7; clear fr
            go_wp2_with fail
            have ZR := (z8_set Z8n.out ⟨#[]⟩ ⟨#[]⟩ ⟨#[]⟩ ⟨#[]⟩ 0 0 0 (.slice none 0 0)).n8
            refine bodyPost_ret (v := .tuple #[zp, .int .i64 E]) (by simp [results, Tryd.results18, go_sem, ZR.c0, ZR.c1, ZR.c2, ZR.c3, ZR.c4, ZR.c5, ZR.c6, ZR.c7]) rfl ⟨?_, ?_⟩
            · exact Or.inl ⟨E, h0, rfl, fun x' y' z' h4 h5 h6 => by
                obtain ⟨q4, q5, q6⟩ := HP3.out
                rw [q4] at h4; rw [q5] at h5; rw [q6] at h6
                cases h4; cases h5; cases h6
                rw [← HE.out]; exact h0⟩
            · exact b_set8 B8.out (Nat.le_of_eq HN0.out.symm) _ _ _ _ _ _ _ _
end Pt
end Go.Proofs.YtddlacjjanincaaDoor
