/- RouteCrossed: a volume whose area contains a fix of a route is crossed; the route in the other direction crosses the same volumes. For every input, with no condition. -/
import Derived.Test.YteaccanhahmclaaRtY
import Derived.Test.YteaccanhahmclaaRtW
import Derived.Test.YteaccanhahmclaaChO
import Derived.Test.YteaccanhahmclaaExpC
namespace Go.Proofs.Yteaccanhahmclaa
open Go.RowKit Go.ChangeShapes Go.WideShapes
namespace RouteCrossed
open Kit Plane Poly Chart Route Vol
/-- The fixes in the other direction, cell by cell. -/
def bkc (NN : Nat → ByteArray) (X Y : Nat → Int) (n : Nat) : Nat → Nat → Value := fun i j => if j = 0 then .string (NN (n - 1 - i)) else if j = 1 then .int .i64 (X (n - 1 - i)) else .int .i64 (Y (n - 1 - i))
theorem fvb_own {w : World} {base : Nat} {E : TypeId} {v : Value} {n : Nat} {NN : Nat → ByteArray} {X Y : Nat → Int} (h : OwnG w base E 3 v n (bkc NN X Y n)) : FV w v n (fun i => NN (n - 1 - i)) (fun i => X (n - 1 - i)) (fun i => Y (n - 1 - i)) := by
  rcases Nat.eq_zero_or_pos n with h0 | h0
  · subst h0
    refine Or.inl ⟨rfl, ?_⟩
    rcases h.2 with ⟨hv, -⟩ | ⟨g, cap, cur, hv, hb, hg, hnc, hcm, -⟩
    · exact Or.inl hv
    · exact Or.inr ⟨_, _, hv, hcm⟩
  · obtain ⟨g, cap, rfl, -, -, h1, h2, hr⟩ := ownG_row h h0
    refine Or.inr ⟨h0, g, 0, cap, rfl, h1, h2, fun k hk => ⟨?_, ?_, ?_⟩⟩ <;> rw [Nat.zero_add]
    · exact hr.cell k hk 0 (by decide)
    · exact hr.cell k hk 1 (by decide)
    · exact hr.cell k hk 2 (by decide)
theorem crE_ok {n m : Nat} {X Y : Nat → Int} {D : Nat → Vd} (h : crE n X Y m D = 0) : rck n X Y = 0 ∧ rvck m D = 0 := by
  unfold crE at h
  split at h
  · rename_i q; exact absurd h q
  · rename_i q; exact ⟨Classical.not_not.1 q, h⟩
theorem crE_back {n m : Nat} {X Y : Nat → Int} {D : Nat → Vd} (h1 : rck n X Y = 0) (h2 : rvck m D = 0) : crE n (fun i => X (n - 1 - i)) (fun i => Y (n - 1 - i)) m D = 0 := by
  obtain ⟨a, b⟩ := rck_ok h1
  have e : rck n (fun i => X (n - 1 - i)) (fun i => Y (n - 1 - i)) = 0 := rck_of a fun k hk => b _ (by omega)
  unfold crE
  rw [if_neg (fun q => q e)]; exact h2
theorem same_self {w : World} {v u : Value} {T : List ByteArray} (h1 : SL w v T) (h2 : SL w u T) : Calls Try.prog 30 #[v, u] w fun e w' => e = .returned (.bool true) ∧ Below w.heap.size w w' := by
  have q := sameC h1 h2
  have e : sameB T.length (fun k => T.getD k ⟨#[]⟩) T.length (fun k => T.getD k ⟨#[]⟩) = true := by
    unfold sameB
    rw [decide_eq_true rfl, Bool.true_and]
    exact allB_iff.2 fun k _ => decide_eq_true rfl
  rw [e] at q; exact q
theorem loc_one {w : World} {v : Value} {n : Nat} {X Y : Nat → Int} (hv : QV w v n X Y) (h : pck n X Y = 0) {qx qy : Int} (g : good qx qy) : Calls Try.prog 50 #[v, .agg #[.int .i64 qx, .int .i64 qy]] w fun e w' => e = .returned (.tuple #[.int .i64 (place n X Y qx qy), .int .i64 0]) ∧ Below w.heap.size w w' := by
  have q := locC hv qx qy
  unfold loc at q
  rw [if_neg (fun e => e h), if_neg (by rw [goodB_iff.2 g]; decide)] at q
  exact q
theorem fix_mem {T : List ByteArray} {s : ByteArray} (h : s ∈ T) : 0 ≤ fix (nth T) s T.length := by
  rcases Int.lt_or_le (fix (nth T) s T.length) 0 with hl | hl
  · obtain ⟨i, hi, he⟩ := List.mem_iff_getElem.1 h
    have := fnd_neg hl i hi
    have e : nth T i = s := by
      unfold nth
      rw [List.getD_eq_getElem?_getD, List.getElem?_eq_getElem hi]; exact he
    exact absurd e (of_decide_eq_false this)
  · exact hl
theorem fv_take {w : World} {b off cap n : Nat} {N : Nat → ByteArray} {X Y : Nat → Int} (h : ∀ k, k < n → E3 w b off k (N k) (X k) (Y k)) (hc : n ≤ cap) (hm : cap ≤ maxLen) {k : Nat} (hk : k ≤ n) : FV w (.slice (some ⟨b, off, none⟩) k cap) k N X Y := by
  rcases Nat.eq_zero_or_pos k with rfl | h0
  · exact Or.inl ⟨rfl, Or.inr ⟨_, _, rfl, hm⟩⟩
  · exact Or.inr ⟨h0, b, off, cap, rfl, by omega, hm, fun j hj => h j (by omega)⟩

set_option maxRecDepth 100000 in
set_option maxHeartbeats 8000000 in
theorem core8 (A B : Option Addr) (m c : Nat) (p d : Nat) (NN : Nat → ByteArray) (X Y : Nat → Int) (D : Nat → Vd) (w : World) (h8 : 8 < m) (hm : m ≤ c) (hcap : c ≤ maxLen) (_hd1 : p ≤ d) (hd2 : d ≤ maxLen) (HF : Hid (FV w (.slice A 8 c) 8 NN X Y)) (HV : Hid (RV w (.slice B p d) p D))
    (C1 : Hid (∀ w1, Below w.heap.size w w1 → Calls Try.prog 49 #[.slice A 8 c, .slice B p d] w1 fun e w' => CrR 8 X Y p D w1 e w' ∧ Below w1.heap.size w1 w')) :
    Calls Try.prog 14 #[.slice A m c, .slice B p d] w fun e w' => e = .returned (.bool true) ∧ Below w.heap.size w w' := by
  have hc9 : c ≤ 9223372036854775807 := Nat.le_trans hcap (by decide)
  have hd9 : d ≤ 9223372036854775807 := Nat.le_trans hd2 (by decide)
  have hm9 : (m : Int) ≤ 9223372036854775807 := by omega
  have hm0 : (0 : Int) ≤ (m : Int) := Int.natCast_nonneg _
  have h8' : (8 : Int) < (m : Int) := by omega
  clear hcap hd2
  go_enter Try.func14, Try.ntmps14
  go_wp2_with fail
  all_goals try (exfalso; omega)
  (with_reducible refine (routeWorks _).mono ?_); rintro e w1 ⟨rfl, hb⟩
  have W1 := Lib.hid hb; clear hb
  go_wp2_with fail
  (with_reducible refine (C1.out _ W1.out).mono ?_); rintro e w2 ⟨hcr, hb⟩
  have W2 := Lib.hid (b_next W1.out hb); clear hb
  rcases hcr with ⟨hE, rfl⟩ | ⟨hE, v1, rfl, hown⟩
  · have hE1 : (crE 8 X Y p D != 0) = true := by simpa using hE
    generalize crE 8 X Y p D = E at *
    clear hE
    go_wp2_with fail
    go_ret
    exact ⟨by first | rfl | exact retb rfl, W2.out⟩
  obtain ⟨hgo, hok⟩ := crE_ok hE
  have HGO := Lib.hid hgo; have HOK := Lib.hid hok
  obtain ⟨T, hT⟩ : ∃ T, T = cnm D (fun k => crx (D k) X Y 8) p := ⟨_, rfl⟩
  rw [← hT] at hown
  have HT := Lib.hid hT
  have SL1 := Lib.hid (sl_own hown)
  obtain ⟨i0, hi, hz0, hz1, hz2⟩ := info_parts info_fix
  have IF := Lib.hid (And.intro hi (And.intro hz0 (And.intro hz1 hz2))); clear hi hz0 hz1 hz2
  clear hT hE hgo hok hown
  go_wp2_with fail
  go_loopw [7, 37] (fun v s wr => ∃ k : Nat, k ≤ 8 ∧ s = .int .i64 k ∧ OwnG wr w2.heap.size 45 3 v k (bkc NN X Y 8) ∧ Below w2.heap.size w2 wr) (fun _ s _ => 8 - (intOf s).toNat)
  case atStart => exact ⟨0, Nat.zero_le _, rfl, ownG_nil _ _ _ _ _, Below.refl _ _⟩
  case round =>
    obtain ⟨k, hk, rfl, hown, hbl⟩ := hrel
    have OW := Lib.hid hown; have WR := Lib.hid hbl; clear hown
    by_cases hlt : k < 8
    · have hl : (k : Int) < (8 : Int) := by omega
      obtain ⟨P, hP⟩ : ∃ P, P = 8 - 1 - k := ⟨_, rfl⟩
      obtain ⟨fb, fo, fc, e, fc1, fc2, f3⟩ := fv_at (fv_keep (b_next W2.out hbl) HF.out) (by omega)
      injection e with e1 _ e3
      subst e1 e3
      obtain ⟨f0, f1, f2⟩ := f3 P (by omega)
      have hix : (8 : Int) - 1 - (k : Int) = (P : Int) := by omega
      have hPm : (P : Int) < (8 : Int) := by omega
      have hix2 : (7 : Int) - (k : Int) = (P : Int) := by omega
      have NX : Hid (rowG 3 (bkc NN X Y 8) k ++ [.string (NN P), .int .i64 (X P), .int .i64 (Y P)] = rowG 3 (bkc NN X Y 8) (k + 1)) := Lib.hid (by rw [hP]; rfl)
      have OS := Lib.hid (ownG_keep (b_alloc (Below.refl wr.heap.size wr) (.cells #[.string (NN P), .int .i64 (X P), .int .i64 (Y P)] 45)) OW.out)
      have WS := Lib.hid (b_alloc WR.out (.cells #[.string (NN P), .int .i64 (X P), .int .i64 (Y P)] 45))
      have NS := Lib.hid (new3 wr 45 (.string (NN P)) (.int .i64 (X P)) (.int .i64 (Y P)))
      have hk9 : k ≤ 8 := by omega
      clear f3 hbl hP
      generalize NN P = s0 at *
      generalize X P = x0 at *
      generalize Y P = y0 at *
      go_wp2_with (at_builtin; refine wpList_append_own _ rfl (.tmp 40) (.tmp 49) 35 rfl w2.heap.size 45 i0 _ 3 32 Try.underlying35 IF.out.1 IF.out.2.1 IF.out.2.2.1 IF.out.2.2.2 rfl (by decide) _ k _ rfl OS.out ⟨wr.heap.size, 0, none⟩ 1 1 [.string s0, .int .i64 x0, .int .i64 y0] rfl rfl NS.out (by simp [Value.oneCell']) (by unfold maxLen; omega) (by omega) WS.out.size ?_; intro v2 w6 hown1' hg1' hnil1; have hown1 := Lib.hid hown1'; have hg1 := Lib.hid hg1'; clear hnil1 hown1' hg1')
      have O6 : Hid (OwnG w6 w2.heap.size 45 3 v2 (k + 1) (bkc NN X Y 8)) := Lib.hid (by have q := hown1.out; rw [NX.out] at q; exact q)
      have W6 := Lib.hid (growG_below WS.out OS.out hg1.out (Nat.le_refl _) WS.out.size)
      clear hown1 hg1
      go_wp2_with fail
      go_roundw
      case rel => exact ⟨k + 1, by omega, by go_num, O6.out, W6.out⟩
      case measure => simp [intOf]; omega
    · have hkn : 8 = k := by omega
      subst hkn
      have hl : ¬ (8 : Int) < (8 : Int) := by omega
      have hbf := fvb_own OW.out
      have C2 := Lib.hid (crossedC hbf (rv_keep (b_next W2.out WR.out) HV.out) wr (Below.refl _ _))
      have SL2 := Lib.hid (sl_keep hbl SL1.out)
      have W3 := Lib.hid (b_next W2.out WR.out)
      clear hbl hbf
      go_wp2_with fail
      (with_reducible refine C2.out.mono ?_); rintro e w4 ⟨hcr, hb⟩
      have W4 := Lib.hid (b_next W3.out hb); have SL4 := Lib.hid (sl_keep hb SL2.out); clear hb
      rcases hcr with ⟨hE, rfl⟩ | ⟨hE, v2, rfl, hown⟩
      · exact absurd (crE_back HGO.out HOK.out) hE
      have hTT : cnm D (fun k => crx (D k) (fun i => X (8 - 1 - i)) (fun i => Y (8 - 1 - i)) 8) p = T := by
        rw [HT.out]; exact cnm_congr fun i hi => crx_back ((rvck_ok HOK.out).2 i hi).2.1 (rck_ok HGO.out).2
      rw [hTT] at hown
      have SLo := Lib.hid (sl_own hown)
      have SC := Lib.hid (same_self SL4.out SLo.out)
      clear hown hTT hE
      go_wp2_with fail
      (with_reducible refine SC.out.mono ?_); rintro e w5 ⟨rfl, hb⟩
      have W5 := Lib.hid (b_next W4.out hb); have SL5 := Lib.hid (sl_keep hb SL4.out); clear hb
      go_wp2_with fail
      go_loopw [68] (fun s wr => ∃ k : Nat, k ≤ p ∧ s = .int .i64 k ∧ Below w5.heap.size w5 wr) (fun s _ => p - (intOf s).toNat)
      case atStart => exact ⟨0, Nat.zero_le _, rfl, Below.refl _ _⟩
      case round =>
        obtain ⟨k, hk, rfl, hbl⟩ := hrel
        have WR6 := Lib.hid (b_next W5.out hbl)
        by_cases hlt : k < p
        · have hl : (k : Int) < (p : Int) := by omega
          obtain ⟨b, off, c', e, hc1, hc2, h3⟩ := rv_at (rv_keep WR6.out HV.out) (by omega)
          injection e with e1 _ e3
          subst e1 e3
          obtain ⟨va, vc, c5, qa, qc⟩ := h3 k hlt
          obtain ⟨A1, ca1, rfl, -⟩ := qv_slice qa
          obtain ⟨A2, ca2, rfl, -⟩ := qv_slice qc
          have WA := b_alloc (Below.refl wr.heap.size wr) (.cells #[.string (D k).N, .slice A1 (D k).n ca1, .int .i64 (D k).l, .int .i64 (D k).h, .slice A2 (D k).m ca2] 86)
          have NA := Lib.hid (v5_new wr 86 (D k).N (.slice A1 (D k).n ca1) (D k).l (D k).h (.slice A2 (D k).m ca2))
          have QA := Lib.hid (qv_keep WA qa)
          have BA := Lib.hid (b_next hbl WA)
          obtain ⟨x0, x1, x2, x3, x4⟩ := c5
          clear hbl h3 qa qc WA
          obtain ⟨bn, hbn⟩ : ∃ bn, bn = wr.heap.size := ⟨_, rfl⟩
          go_wp2_with fail
          rw [← hbn] at NA ⊢
          clear x0 x1 x2 x3 x4 hbn
          generalize wr.alloc (.cells #[.string (D k).N, .slice A1 (D k).n ca1, .int .i64 (D k).l, .int .i64 (D k).h, .slice A2 (D k).m ca2] 86) = wa at *
          go_loopw [74] (fun s wi => ∃ i : Nat, i ≤ 8 ∧ s = .int .i64 i ∧ Below wa.heap.size wa wi) (fun s _ => 8 - (intOf s).toNat)
          case atStart => exact ⟨0, Nat.zero_le _, rfl, Below.refl _ _⟩
          case round =>
            obtain ⟨i, hi, rfl, hbl⟩ := hrel
            have BI := Lib.hid hbl
            have W7 := Lib.hid (b_next W5.out (b_next BA.out hbl))
            by_cases hlt2 : i < 8
            · have hl2 : (i : Int) < (8 : Int) := by omega
              obtain ⟨fb, fo, fc, e, fc1, fc2, f3⟩ := fv_at (fv_keep W7.out HF.out) (by omega)
              injection e with e1 _ e3
              subst e1 e3
              obtain ⟨f0, f1, f2⟩ := f3 i hlt2
              have va := v5_keep hbl NA.out
              have VA := Lib.hid va
              have v0 := va.c0; have v1' := va.c1; have v2' := va.c2; have v3 := va.c3; have v4 := va.c4
              have nn := new_ne v0
              have pok := (rvck_ok HOK.out).2 k hlt
              have gi := (rck_ok HGO.out).2 i hlt2
              have LC := Lib.hid fun (w' : World) (hb : Below wr.heap.size wr w') => loc_one (qv_keep (b_next hbl hb) QA.out) pok.2.1 gi
              have HIN : Hid (∀ pl, pl = place (D k).n (D k).X (D k).Y (X i) (Y i) → 0 ≤ pl → 1 < 8 → 0 ≤ fix (nth T) (D k).N T.length) := Lib.hid fun pl hpl h0 h1 => by
                rw [hpl] at h0
                exact fix_mem (by rw [HT.out]; exact cnm_mem (c := fun k => crx (D k) X Y 8) (i := k) (crx_end pok.2.1 (rck_ok HGO.out).2 hlt2 h1 h0) hlt)
              have HTC := Lib.hid fun (w' : World) (hb : Below wr.heap.size wr w') => hasTC (sl_keep (b_next (b_next BA.out hbl) hb) SL5.out) (D k).N
              have WF := Lib.hid (b_alloc (Below.refl wr.heap.size wr) (.cells #[.string (NN i), .int .i64 (X i), .int .i64 (Y i)] 45))
              clear f3 va pok gi hbl
              generalize place (D k).n (D k).X (D k).Y (X i) (Y i) = pl at *
              generalize NN i = s0 at *
              generalize X i = xx at *
              generalize Y i = yy at *
              go_wp2_with fail
              (with_reducible refine (LC.out _ WF.out).mono ?_); rintro e w8 ⟨rfl, hb⟩
              have W8 := Lib.hid (b_next WF.out hb); have V8 := Lib.hid (v5_keep W8.out VA.out)
              clear hb v0 v1' v2' v3 v4 nn
              have B8 := Lib.hid (b_next BI.out W8.out)
              by_cases hp : 0 ≤ pl
              · have g1 := decide_eq_true hp
                by_cases h1 : 1 < 8
                · have h1' : (1 : Int) < (8 : Int) := by omega
                  have g2 := decide_eq_true h1'
                  have hin := HIN.out pl rfl hp h1
                  have HT8 := HTC.out _ W8.out
                  rw [decide_eq_true hin] at HT8
                  have HT9 := Lib.hid HT8
                  obtain ⟨v0, v1', v2', v3, v4⟩ := V8.out
                  clear HT8 hin HIN
                  go_wp2_with fail
                  (with_reducible refine HT9.out.mono ?_); rintro e w9 ⟨rfl, hb⟩
                  have B9 := Lib.hid (b_next B8.out hb); clear hb
                  go_wp2_with fail
                  go_roundw
                  case rel => exact ⟨i + 1, by omega, by go_num, B9.out⟩
                  case measure => simp [intOf]; omega
                · exact absurd h1 (by decide)
              · have g1 := decide_eq_false hp
                go_wp2_with fail
                go_roundw
                case rel => exact ⟨i + 1, by omega, by go_num, B8.out⟩
                case measure => simp [intOf]; omega
            · have hin : 8 = i := by omega
              subst hin
              have BB := Lib.hid (b_next BA.out hbl)
              clear hbl
              go_wp2_with fail
              go_roundw
              case rel => exact ⟨k + 1, by omega, by go_num, BB.out⟩
              case measure => simp [intOf]; omega
        · have hkp : p = k := by omega
          subst hkp
          clear hbl
          have hlp : ¬ (p : Int) < (p : Int) := by omega
          go_wp2_with fail
          go_ret
          exact ⟨rfl, WR6.out⟩

set_option maxRecDepth 100000 in
set_option maxHeartbeats 8000000 in
theorem coreS (A B : Option Addr) (m c : Nat) (p d : Nat) (NN : Nat → ByteArray) (X Y : Nat → Int) (D : Nat → Vd) (w : World) (h8 : m ≤ 8) (hm : m ≤ c) (hcap : c ≤ maxLen) (_hd1 : p ≤ d) (hd2 : d ≤ maxLen) (HF : Hid (FV w (.slice A m c) m NN X Y)) (HV : Hid (RV w (.slice B p d) p D))
    (C1 : Hid (∀ w1, Below w.heap.size w w1 → Calls Try.prog 49 #[.slice A m c, .slice B p d] w1 fun e w' => CrR m X Y p D w1 e w' ∧ Below w1.heap.size w1 w')) :
    Calls Try.prog 14 #[.slice A m c, .slice B p d] w fun e w' => e = .returned (.bool true) ∧ Below w.heap.size w w' := by
  have hc9 : c ≤ 9223372036854775807 := Nat.le_trans hcap (by decide)
  have hd9 : d ≤ 9223372036854775807 := Nat.le_trans hd2 (by decide)
  have hm9 : (m : Int) ≤ 9223372036854775807 := by omega
  have hm0 : (0 : Int) ≤ (m : Int) := Int.natCast_nonneg _
  have h8' : ¬ (8 : Int) < (m : Int) := by omega
  clear hcap hd2
  go_enter Try.func14, Try.ntmps14
  go_wp2_with fail
  all_goals try (exfalso; omega)
  (with_reducible refine (routeWorks _).mono ?_); rintro e w1 ⟨rfl, hb⟩
  have W1 := Lib.hid hb; clear hb
  go_wp2_with fail
  (with_reducible refine (C1.out _ W1.out).mono ?_); rintro e w2 ⟨hcr, hb⟩
  have W2 := Lib.hid (b_next W1.out hb); clear hb
  rcases hcr with ⟨hE, rfl⟩ | ⟨hE, v1, rfl, hown⟩
  · have hE1 : (crE m X Y p D != 0) = true := by simpa using hE
    generalize crE m X Y p D = E at *
    clear hE
    go_wp2_with fail
    go_ret
    exact ⟨by first | rfl | exact retb rfl, W2.out⟩
  obtain ⟨hgo, hok⟩ := crE_ok hE
  have HGO := Lib.hid hgo; have HOK := Lib.hid hok
  obtain ⟨T, hT⟩ : ∃ T, T = cnm D (fun k => crx (D k) X Y m) p := ⟨_, rfl⟩
  rw [← hT] at hown
  have HT := Lib.hid hT
  have SL1 := Lib.hid (sl_own hown)
  obtain ⟨i0, hi, hz0, hz1, hz2⟩ := info_parts info_fix
  have IF := Lib.hid (And.intro hi (And.intro hz0 (And.intro hz1 hz2))); clear hi hz0 hz1 hz2
  clear hT hE hgo hok hown
  go_wp2_with fail
  go_loopw [7, 37] (fun v s wr => ∃ k : Nat, k ≤ m ∧ s = .int .i64 k ∧ OwnG wr w2.heap.size 45 3 v k (bkc NN X Y m) ∧ Below w2.heap.size w2 wr) (fun _ s _ => m - (intOf s).toNat)
  case atStart => exact ⟨0, Nat.zero_le _, rfl, ownG_nil _ _ _ _ _, Below.refl _ _⟩
  case round =>
    obtain ⟨k, hk, rfl, hown, hbl⟩ := hrel
    have OW := Lib.hid hown; have WR := Lib.hid hbl; clear hown
    by_cases hlt : k < m
    · have hl : (k : Int) < (m : Int) := by omega
      obtain ⟨P, hP⟩ : ∃ P, P = m - 1 - k := ⟨_, rfl⟩
      obtain ⟨fb, fo, fc, e, fc1, fc2, f3⟩ := fv_at (fv_keep (b_next W2.out hbl) HF.out) (by omega)
      injection e with e1 _ e3
      subst e1 e3
      obtain ⟨f0, f1, f2⟩ := f3 P (by omega)
      have hix : (m : Int) - 1 - (k : Int) = (P : Int) := by omega
      have hPm : (P : Int) < (m : Int) := by omega
      skip
      have NX : Hid (rowG 3 (bkc NN X Y m) k ++ [.string (NN P), .int .i64 (X P), .int .i64 (Y P)] = rowG 3 (bkc NN X Y m) (k + 1)) := Lib.hid (by rw [hP]; rfl)
      have OS := Lib.hid (ownG_keep (b_alloc (Below.refl wr.heap.size wr) (.cells #[.string (NN P), .int .i64 (X P), .int .i64 (Y P)] 45)) OW.out)
      have WS := Lib.hid (b_alloc WR.out (.cells #[.string (NN P), .int .i64 (X P), .int .i64 (Y P)] 45))
      have NS := Lib.hid (new3 wr 45 (.string (NN P)) (.int .i64 (X P)) (.int .i64 (Y P)))
      have hk9 : k ≤ 8 := by omega
      clear f3 hbl hP
      generalize NN P = s0 at *
      generalize X P = x0 at *
      generalize Y P = y0 at *
      go_wp2_with (at_builtin; refine wpList_append_own _ rfl (.tmp 40) (.tmp 49) 35 rfl w2.heap.size 45 i0 _ 3 32 Try.underlying35 IF.out.1 IF.out.2.1 IF.out.2.2.1 IF.out.2.2.2 rfl (by decide) _ k _ rfl OS.out ⟨wr.heap.size, 0, none⟩ 1 1 [.string s0, .int .i64 x0, .int .i64 y0] rfl rfl NS.out (by simp [Value.oneCell']) (by unfold maxLen; omega) (by omega) WS.out.size ?_; intro v2 w6 hown1' hg1' hnil1; have hown1 := Lib.hid hown1'; have hg1 := Lib.hid hg1'; clear hnil1 hown1' hg1')
      have O6 : Hid (OwnG w6 w2.heap.size 45 3 v2 (k + 1) (bkc NN X Y m)) := Lib.hid (by have q := hown1.out; rw [NX.out] at q; exact q)
      have W6 := Lib.hid (growG_below WS.out OS.out hg1.out (Nat.le_refl _) WS.out.size)
      clear hown1 hg1
      go_wp2_with fail
      go_roundw
      case rel => exact ⟨k + 1, by omega, by go_num, O6.out, W6.out⟩
      case measure => simp [intOf]; omega
    · have hkn : m = k := by omega
      subst hkn
      have hl : ¬ (m : Int) < (m : Int) := by omega
      have hbf := fvb_own OW.out
      have C2 := Lib.hid (crossedC hbf (rv_keep (b_next W2.out WR.out) HV.out) wr (Below.refl _ _))
      have SL2 := Lib.hid (sl_keep hbl SL1.out)
      have W3 := Lib.hid (b_next W2.out WR.out)
      clear hbl hbf
      go_wp2_with fail
      (with_reducible refine C2.out.mono ?_); rintro e w4 ⟨hcr, hb⟩
      have W4 := Lib.hid (b_next W3.out hb); have SL4 := Lib.hid (sl_keep hb SL2.out); clear hb
      rcases hcr with ⟨hE, rfl⟩ | ⟨hE, v2, rfl, hown⟩
      · exact absurd (crE_back HGO.out HOK.out) hE
      have hTT : cnm D (fun k => crx (D k) (fun i => X (m - 1 - i)) (fun i => Y (m - 1 - i)) m) p = T := by
        rw [HT.out]; exact cnm_congr fun i hi => crx_back ((rvck_ok HOK.out).2 i hi).2.1 (rck_ok HGO.out).2
      rw [hTT] at hown
      have SLo := Lib.hid (sl_own hown)
      have SC := Lib.hid (same_self SL4.out SLo.out)
      clear hown hTT hE
      go_wp2_with fail
      (with_reducible refine SC.out.mono ?_); rintro e w5 ⟨rfl, hb⟩
      have W5 := Lib.hid (b_next W4.out hb); have SL5 := Lib.hid (sl_keep hb SL4.out); clear hb
      go_wp2_with fail
      go_loopw [68] (fun s wr => ∃ k : Nat, k ≤ p ∧ s = .int .i64 k ∧ Below w5.heap.size w5 wr) (fun s _ => p - (intOf s).toNat)
      case atStart => exact ⟨0, Nat.zero_le _, rfl, Below.refl _ _⟩
      case round =>
        obtain ⟨k, hk, rfl, hbl⟩ := hrel
        have WR6 := Lib.hid (b_next W5.out hbl)
        by_cases hlt : k < p
        · have hl : (k : Int) < (p : Int) := by omega
          obtain ⟨b, off, c', e, hc1, hc2, h3⟩ := rv_at (rv_keep WR6.out HV.out) (by omega)
          injection e with e1 _ e3
          subst e1 e3
          obtain ⟨va, vc, c5, qa, qc⟩ := h3 k hlt
          obtain ⟨A1, ca1, rfl, -⟩ := qv_slice qa
          obtain ⟨A2, ca2, rfl, -⟩ := qv_slice qc
          have WA := b_alloc (Below.refl wr.heap.size wr) (.cells #[.string (D k).N, .slice A1 (D k).n ca1, .int .i64 (D k).l, .int .i64 (D k).h, .slice A2 (D k).m ca2] 86)
          have NA := Lib.hid (v5_new wr 86 (D k).N (.slice A1 (D k).n ca1) (D k).l (D k).h (.slice A2 (D k).m ca2))
          have QA := Lib.hid (qv_keep WA qa)
          have BA := Lib.hid (b_next hbl WA)
          obtain ⟨x0, x1, x2, x3, x4⟩ := c5
          clear hbl h3 qa qc WA
          obtain ⟨bn, hbn⟩ : ∃ bn, bn = wr.heap.size := ⟨_, rfl⟩
          go_wp2_with fail
          rw [← hbn] at NA ⊢
          clear x0 x1 x2 x3 x4 hbn
          generalize wr.alloc (.cells #[.string (D k).N, .slice A1 (D k).n ca1, .int .i64 (D k).l, .int .i64 (D k).h, .slice A2 (D k).m ca2] 86) = wa at *
          go_loopw [74] (fun s wi => ∃ i : Nat, i ≤ m ∧ s = .int .i64 i ∧ Below wa.heap.size wa wi) (fun s _ => m - (intOf s).toNat)
          case atStart => exact ⟨0, Nat.zero_le _, rfl, Below.refl _ _⟩
          case round =>
            obtain ⟨i, hi, rfl, hbl⟩ := hrel
            have BI := Lib.hid hbl
            have W7 := Lib.hid (b_next W5.out (b_next BA.out hbl))
            by_cases hlt2 : i < m
            · have hl2 : (i : Int) < (m : Int) := by omega
              obtain ⟨fb, fo, fc, e, fc1, fc2, f3⟩ := fv_at (fv_keep W7.out HF.out) (by omega)
              injection e with e1 _ e3
              subst e1 e3
              obtain ⟨f0, f1, f2⟩ := f3 i hlt2
              have va := v5_keep hbl NA.out
              have VA := Lib.hid va
              have v0 := va.c0; have v1' := va.c1; have v2' := va.c2; have v3 := va.c3; have v4 := va.c4
              have nn := new_ne v0
              have pok := (rvck_ok HOK.out).2 k hlt
              have gi := (rck_ok HGO.out).2 i hlt2
              have LC := Lib.hid fun (w' : World) (hb : Below wr.heap.size wr w') => loc_one (qv_keep (b_next hbl hb) QA.out) pok.2.1 gi
              have HIN : Hid (∀ pl, pl = place (D k).n (D k).X (D k).Y (X i) (Y i) → 0 ≤ pl → 1 < m → 0 ≤ fix (nth T) (D k).N T.length) := Lib.hid fun pl hpl h0 h1 => by
                rw [hpl] at h0
                exact fix_mem (by rw [HT.out]; exact cnm_mem (c := fun k => crx (D k) X Y m) (i := k) (crx_end pok.2.1 (rck_ok HGO.out).2 hlt2 h1 h0) hlt)
              have HTC := Lib.hid fun (w' : World) (hb : Below wr.heap.size wr w') => hasTC (sl_keep (b_next (b_next BA.out hbl) hb) SL5.out) (D k).N
              have WF := Lib.hid (b_alloc (Below.refl wr.heap.size wr) (.cells #[.string (NN i), .int .i64 (X i), .int .i64 (Y i)] 45))
              clear f3 va pok gi hbl
              generalize place (D k).n (D k).X (D k).Y (X i) (Y i) = pl at *
              generalize NN i = s0 at *
              generalize X i = xx at *
              generalize Y i = yy at *
              go_wp2_with fail
              (with_reducible refine (LC.out _ WF.out).mono ?_); rintro e w8 ⟨rfl, hb⟩
              have W8 := Lib.hid (b_next WF.out hb); have V8 := Lib.hid (v5_keep W8.out VA.out)
              clear hb v0 v1' v2' v3 v4 nn
              have B8 := Lib.hid (b_next BI.out W8.out)
              by_cases hp : 0 ≤ pl
              · have g1 := decide_eq_true hp
                by_cases h1 : 1 < m
                · have h1' : (1 : Int) < (m : Int) := by omega
                  have g2 := decide_eq_true h1'
                  have hin := HIN.out pl rfl hp h1
                  have HT8 := HTC.out _ W8.out
                  rw [decide_eq_true hin] at HT8
                  have HT9 := Lib.hid HT8
                  obtain ⟨v0, v1', v2', v3, v4⟩ := V8.out
                  clear HT8 hin HIN
                  go_wp2_with fail
                  (with_reducible refine HT9.out.mono ?_); rintro e w9 ⟨rfl, hb⟩
                  have B9 := Lib.hid (b_next B8.out hb); clear hb
                  go_wp2_with fail
                  go_roundw
                  case rel => exact ⟨i + 1, by omega, by go_num, B9.out⟩
                  case measure => simp [intOf]; omega
                · have h1' : ¬ (1 : Int) < (m : Int) := by omega
                  have g2 := decide_eq_false h1'
                  go_wp2_with fail
                  go_roundw
                  case rel => exact ⟨i + 1, by omega, by go_num, B8.out⟩
                  case measure => simp [intOf]; omega
              · have g1 := decide_eq_false hp
                go_wp2_with fail
                go_roundw
                case rel => exact ⟨i + 1, by omega, by go_num, B8.out⟩
                case measure => simp [intOf]; omega
            · have hin : m = i := by omega
              subst hin
              have BB := Lib.hid (b_next BA.out hbl)
              clear hbl
              go_wp2_with fail
              go_roundw
              case rel => exact ⟨k + 1, by omega, by go_num, BB.out⟩
              case measure => simp [intOf]; omega
        · have hkp : p = k := by omega
          subst hkp
          clear hbl
          have hlp : ¬ (p : Int) < (p : Int) := by omega
          go_wp2_with fail
          go_ret
          exact ⟨rfl, WR6.out⟩

theorem walk (l v : Value) (W : World) (h_l : Frame.Okc W (.sl [.str, .int, .int]) l) (h_v : Frame.Okc W (.sl [.str, .sl [.int, .int], .int, .int, .sl [.int, .int]]) v) :
    Calls Try.prog 14 #[l, v] W fun e w' => e = .returned (.bool true) ∧ Below W.heap.size W w' := by
  obtain ⟨n, N, X, Y, hf⟩ := fv_of h_l
  obtain ⟨p, D, hv⟩ := rv_of h_v
  have hv' := hv
  obtain ⟨B, d, rfl, hd1, hd2⟩ := rv_slice hv
  rcases hf with ⟨rfl, rfl | ⟨a, cap, rfl, hc⟩⟩ | ⟨h0, b, off, cap, rfl, h1, h2, h3⟩
  · have hf : FV W (.slice none 0 0) 0 N X Y := Or.inl ⟨rfl, Or.inl rfl⟩
    exact coreS none B 0 0 p d N X Y D W (Nat.zero_le _) (Nat.le_refl _) (Nat.zero_le _) hd1 hd2 (Lib.hid hf) (Lib.hid hv') (Lib.hid fun w1 hb => crossedC hf hv' w1 hb)
  · have hf : FV W (.slice (some a) 0 cap) 0 N X Y := Or.inl ⟨rfl, Or.inr ⟨_, _, rfl, hc⟩⟩
    exact coreS (some a) B 0 cap p d N X Y D W (Nat.zero_le _) (Nat.zero_le _) hc hd1 hd2 (Lib.hid hf) (Lib.hid hv') (Lib.hid fun w1 hb => crossedC hf hv' w1 hb)
  · rcases Nat.lt_or_ge 8 n with hl | hl
    · have hf := fv_take h3 h1 h2 (k := 8) (by omega)
      exact core8 _ B n cap p d N X Y D W hl h1 h2 hd1 hd2 (Lib.hid hf) (Lib.hid hv') (Lib.hid fun w1 hb => crossedC hf hv' w1 hb)
    · have hf := fv_take h3 h1 h2 (Nat.le_refl n)
      exact coreS _ B n cap p d N X Y D W hl h1 h2 hd1 hd2 (Lib.hid hf) (Lib.hid hv') (Lib.hid fun w1 hb => crossedC hf hv' w1 hb)
-- FRAME --

set_option maxRecDepth 100000 in
theorem lifted (os : Os) (started : os.Started) (H : Type) (enc : TypeId × Value → H) :
    ReturnsInHanded {} Try.checked os 14 .any (Rows.routeCrossedSpec.pre6 enc Try.prog Try.f14 Rows.routeCrossedRow.domain false) (Rows.routeCrossedSpec.post enc Try.prog Try.f14 false true false false) :=
  Frame.lifted (C := Try.checked) 14 Try.f14 Try.own started (by kernel_rfl) Try.func14 Try.laidOut rfl (by kernel_rfl) 4 rfl Try.underlying4
      (fun ds h => by match ds, h with | [_, _], _ => rfl)
      (ChangeSpec.witness6 (enc := enc) (C := Try.checked) false ⟨#[], #[.slice none 0 0, .slice none 0 0], []⟩ 8 (by kernel_rfl) (by kernel_rfl) (by kernel_rfl) (by kernel_rfl))
      (fun W base args ds ps hval0 hA _ => by
        have hval : ∀ (j : Nat) t v, Try.f14.params[j]? = some t → args[j]? = some v → Value.okWide Try.prog W .any base t v := hval0
        have hA' : DataW.TrodAll enc Try.prog W 0 (fun _ => true) true Try.f14.params.toList args.toList ds ps := hA
        clear hval0 hA
        have hA := hA'
        clear hA'
        rw [Try.params14] at hA hval
        obtain ⟨v0, vs0, d0, ds0, p0, q0, ea, rfl, rfl, tr0, rest0⟩ := trodAll_cons hA
        obtain ⟨v1, vs1, d1, ds1, p1, q1, rfl, rfl, rfl, tr1, rest1⟩ := trodAll_cons rest0
        obtain ⟨rfl, rfl, rfl⟩ := trodAll_nil rest1
        obtain rfl : args = #[v0, v1] := by cases args; simp_all
        clear ea
        have sl_l : Frame.Okc W (.sl [.str, .int, .int]) v0 := by obtain ⟨a, l, c, e⟩ := okWide_slice Try.underlying35 (hval 0 _ v0 rfl rfl); exact Frame.arg_cell (k := 8) (by kernel_rfl) (by have e2 : v0 = .slice a l c := e; rw [e2]; rfl) tr0
        have sl_v : Frame.Okc W (.sl [.str, .sl [.int, .int], .int, .int, .sl [.int, .int]]) v1 := by obtain ⟨a, l, c, e⟩ := okWide_slice Try.underlying77 (hval 1 _ v1 rfl rfl); exact Frame.arg_cell (k := 8) (by kernel_rfl) (by have e2 : v1 = .slice a l c := e; rw [e2]; rfl) tr1
        exact walk v0 v1 W sl_l sl_v)

/-- The statement. -/
theorem proved : Rows.RouteCrossedSaid :=
  OpenClaim.holds_of_wide 14 Try.f14 rfl rfl rfl rfl rfl rfl rfl ⟨rfl, rfl, rfl, rfl, rfl⟩ rfl rfl rfl rfl rfl (by kernel_rfl) Try.func14 (by kernel_rfl)
    (of_decide_eq_true (by kernel_rfl)) (by unfold Func.isWrapper; first | (rw [if_pos (by decide +kernel)]; kernel_rfl) | (rw [if_neg (by decide +kernel)]; exact ⟨rfl, rfl⟩))
    (fun os started H enc _ => lifted os started H enc)
#print axioms proved
end RouteCrossed
end Go.Proofs.Yteaccanhahmclaa

