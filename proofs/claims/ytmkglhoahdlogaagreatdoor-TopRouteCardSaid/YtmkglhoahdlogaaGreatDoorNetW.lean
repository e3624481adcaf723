/- NetW. -/
import Derived.Test.YtmkglhoahdlogaaGreatDoorS4
import Derived.Test.YtmkglhoahdlogaaGreatDoorJ01
namespace Go.Proofs.YtmkglhoahdlogaaGreatDoor
open Go.RowKit
namespace Net
open Kit Chart
/-- What way answers. -/
def WayR (G : Short.Gr) (fr tgt : Nat) (cl : Nat → Bool) (bar : Int) (e : Ending) (w' : World) : Prop :=
  (∃ v l n, e = .returned (.tuple #[v, .int .i64 n, .bool true]) ∧ IV w' v (l.length + 1) (fun i => ((fr :: l).getD i 0 : Int)) ∧ Short.BestO G fr tgt cl bar l n) ∨ ((∀ l, ¬ Short.Is G fr tgt cl bar l) ∧ e = .returned (.tuple #[.slice none 0 0, .int .i64 0, .bool false]))
abbrev netV (A : Option Addr) (N ca bb ob cb bc oc cc : Nat) : Value := .agg #[.slice A N ca, .slice (some ⟨bb, ob, none⟩) N cb, .slice (some ⟨bc, oc, none⟩) N cc]
theorem iv_own {w : World} {base : Nat} {E : TypeId} {v : Value} {n : Nat} {f : Nat → Int} (h : Own w base E 1 v n (fun i _ => f i)) : IV w v n f := by
  rcases Nat.eq_zero_or_pos n with rfl | h0
  · rcases h.2 with ⟨rfl, -⟩ | ⟨g, cap, cur, rfl, -, -, -, hc, -⟩
    · exact Or.inl ⟨rfl, Or.inl rfl⟩
    · exact Or.inl ⟨rfl, Or.inr ⟨_, cap, rfl, hc⟩⟩
  · obtain ⟨g, cap, rfl, -, -, h1, h2, hg⟩ := own_row h h0
    refine Or.inr ⟨h0, g, 0, cap, rfl, h1, h2, fun k hk => ?_⟩
    have := hg.cell k hk 0 (by decide)
    rw [show k * 1 + 0 = 0 + k from by omega] at this; exact this
theorem own_made {w : World} {base : Nat} {E : TypeId} {C n : Nat} {f : Nat → Nat → Int} (cs : Array Value) (hb : base ≤ w.heap.size) (hn : n ≤ maxLen) (h : cs.toList = rowL C f n) : Own (w.alloc (.cells cs E)) base E C (.slice (some ⟨w.heap.size, 0, none⟩) n n) n f := by
  have hs : cs.size = n * C := by rw [← Array.length_toList, h, rowL_len]
  exact ⟨rowL_len C f n, Or.inr ⟨w.heap.size, n, cs, rfl, hb, heap_alloc_new w _, Nat.le_refl _, hn, hs, by rw [h]; exact List.take_of_length_le (by rw [rowL_len]; exact Nat.le_refl _)⟩⟩
theorem new1 (w : World) (ty : TypeId) (a : Value) : ∀ j u, ([a] : List Value)[j]? = some u → (w.alloc (.cells #[a] ty)).cell? ((⟨w.heap.size, 0, none⟩ : Addr).add j) = some u := fun j u hu => by
  rw [Go.WideShapes.add_plain]
  have hj : j < 1 := (List.getElem?_eq_some_iff.1 hu).1
  obtain rfl : j = 0 := by omega
  simpa using hu
theorem row_next (fr : Nat) (l : List Nat) (m : Nat) : rowL 1 (fun i _ => ((fr :: l).getD i 0 : Int)) (l.length + 1) ++ [.int .i64 m] = rowL 1 (fun i _ => ((fr :: (l ++ [m])).getD i 0 : Int)) (l.length + 1 + 1) := by
  have e : rowL 1 (fun i _ => ((fr :: (l ++ [m])).getD i 0 : Int)) (l.length + 1) = rowL 1 (fun i _ => ((fr :: l).getD i 0 : Int)) (l.length + 1) := rowL_congr fun i hi j _ => by
    rw [List.getD_eq_getElem?_getD, List.getD_eq_getElem?_getD, ← List.cons_append, List.getElem?_append_left (by simpa using hi)]
  rw [show rowL 1 (fun i _ => ((fr :: (l ++ [m])).getD i 0 : Int)) (l.length + 1 + 1) = rowL 1 (fun i _ => ((fr :: (l ++ [m])).getD i 0 : Int)) (l.length + 1) ++ (List.range 1).map (fun j => Value.int .i64 ((fr :: (l ++ [m])).getD (l.length + 1) 0 : Int)) from rfl, e]
  congr 1
  simp [List.range, List.range.loop]
set_option maxRecDepth 100000 in
set_option maxHeartbeats 2000000 in
theorem way_same (a b c : Value) (fr : Nat) (bar : Int) (cv : Value) (G : Short.Gr) (B : Int) (cl : Nat → Bool) (w : World) (hG : G.Ok B) (ha : fr < G.N) :
    Calls Tryz.prog 28 #[.agg #[a, b, c], .int .i64 fr, .int .i64 fr, cv, .int .i64 bar] w fun e w' => WayR G fr fr cl bar e w' ∧ Below w.heap.size w w' := by
  have BS := Lib.hid (Short.best_selfO (cl := cl) (bar := bar) hG ha)
  go_enter Tryz.func28, Tryz.ntmps28
  go_wp2_with fail
  go_ret3
  refine ⟨Or.inl ⟨_, [], 0, rfl, Or.inr ⟨Nat.zero_lt_one, w.heap.size + 1, 0, 1, rfl, Nat.le_refl _, by decide, fun k hk => ?_⟩, BS.out⟩, b_alloc (b_alloc (Below.refl _ _) _) _⟩
  obtain rfl : k = 0 := by simp only [List.length_nil] at hk; omega
  simp
set_option maxRecDepth 100000 in
set_option maxHeartbeats 16000000 in
theorem way_w (A : Option Addr) (ca bb ob cb bc oc cc bv ov cv fr tgt : Nat) (bar : Int) (G : Short.Gr) (B : Int) (cl : Nat → Bool) (w : World) (hG : G.Ok B) (hB : B ≤ 10000000) (ha : fr < G.N) (hto : tgt < G.N) (hne : fr ≠ tgt) (hct : cl tgt = false) (hcb : G.N ≤ cb ∧ cb ≤ 9223372036854775807) (hcc : G.N ≤ cc ∧ cc ≤ 9223372036854775807) (hcv : G.N ≤ cv ∧ cv ≤ 9223372036854775807)
    (HL : Hid (∀ k, k < G.N → ∃ u, w.cell? ⟨bb, ob + k, none⟩ = some u ∧ IV w u (G.deg k) (fun i => (G.lk k i : Int))))
    (HD : Hid (∀ k, k < G.N → ∃ u, w.cell? ⟨bc, oc + k, none⟩ = some u ∧ IV w u (G.deg k) (fun i => G.d k (G.lk k i))))
    (HC : Hid (∀ k, k < G.N → w.cell? ⟨bv, ov + k, none⟩ = some (.bool (cl k)))) :
    Calls Tryz.prog 28 #[netV A G.N ca bb ob cb bc oc cc, .int .i64 fr, .int .i64 tgt, .slice (some ⟨bv, ov, none⟩) G.N cv, .int .i64 bar] w fun e w' => WayR G fr tgt cl bar e w' ∧ Below w.heap.size w w' := by
  have hN := hG.n64
  have hne1 : ((fr : Int) == (tgt : Int)) = false := by simp; omega
  have hai : (fr : Int) < (G.N : Int) := by omega
  have hnn : ¬ fr = tgt := hne
  have B0 := Lib.hid (b_alloc (Below.refl w.heap.size w) (.cells #[.slice A G.N ca, .slice (some ⟨bb, ob, none⟩) G.N cb, .slice (some ⟨bc, oc, none⟩) G.N cc] 80))
  have CLN := Lib.hid fun (w1 : World) (hb : Below w.heap.size w w1) => cloneB G.N cv bv ov cl w1 (by omega) (by omega) hcv.1 (Lib.hid fun i hi => keep hb (HC.out i hi))
  go_enter Tryz.func28, Tryz.ntmps28
  go_wp2_with fail
  (with_reducible refine (CLN.out _ B0.out).mono ?_); rintro e w1 ⟨⟨gs, cs, rfl, hgs, hcs, hcm, hob⟩, hb⟩
  have B1 := Lib.hid (b_next B0.out hb); have OS := Lib.hid hob; have HGS := Lib.hid hgs
  have hcm' : cs ≤ 9223372036854775807 := Nat.le_trans hcm (by decide)
  have C0 := Lib.hid (keep hb (show (w.alloc (.cells #[.slice A G.N ca, .slice (some ⟨bb, ob, none⟩) G.N cb, .slice (some ⟨bc, oc, none⟩) G.N cc] 80)).cell? ⟨w.heap.size, 0, none⟩ = some (.slice A G.N ca) by simp))
  have C1 := Lib.hid (keep hb (show (w.alloc (.cells #[.slice A G.N ca, .slice (some ⟨bb, ob, none⟩) G.N cb, .slice (some ⟨bc, oc, none⟩) G.N cc] 80)).cell? ⟨w.heap.size, 1, none⟩ = some (.slice (some ⟨bb, ob, none⟩) G.N cb) by simp))
  have C2 := Lib.hid (keep hb (show (w.alloc (.cells #[.slice A G.N ca, .slice (some ⟨bb, ob, none⟩) G.N cb, .slice (some ⟨bc, oc, none⟩) G.N cc] 80)).cell? ⟨w.heap.size, 2, none⟩ = some (.slice (some ⟨bc, oc, none⟩) G.N cc) by simp))
  have HGW : Hid (w.heap.size < gs) := Lib.hid (by have h1 := hgs; simp only [World.size_alloc] at h1; omega)
  have S1 := Lib.hid (ob_set hob fr)
  have BS1 := Lib.hid (b_set (p := ⟨gs, fr, none⟩) B1.out (show w.heap.size ≤ gs from Nat.le_of_lt HGW.out) (.bool true))
  have F0 : Hid ((w1.setCell ⟨gs, fr, none⟩ (.bool true)).cell? ⟨w.heap.size, 0, none⟩ = some (.slice A G.N ca)) := Lib.hid (cfar _ (fun e => by injection e with e _; have := HGW.out; omega) C0.out)
  have F1 : Hid ((w1.setCell ⟨gs, fr, none⟩ (.bool true)).cell? ⟨w.heap.size, 1, none⟩ = some (.slice (some ⟨bb, ob, none⟩) G.N cb)) := Lib.hid (cfar _ (fun e => by injection e with e _; have := HGW.out; omega) C1.out)
  have F2 : Hid ((w1.setCell ⟨gs, fr, none⟩ (.bool true)).cell? ⟨w.heap.size, 2, none⟩ = some (.slice (some ⟨bc, oc, none⟩) G.N cc)) := Lib.hid (cfar _ (fun e => by injection e with e _; have := HGW.out; omega) C2.out)
  have s0 := (hob fr ha).1; have s1 := (hob fr ha).2
  have f0 := F0.out; have f1 := F1.out; have f2 := F2.out
  clear hb hob hgs C0 C1 C2
  go_wp2_with fail
  clear s0 s1 f0 f1 f2
  generalize w1.setCell ⟨gs, fr, none⟩ (.bool true) = w2 at *
  have LE := Lib.hid (lengths_w A ca bb ob cb bc oc cc gs 0 cs tgt G B (Short.shut cl fr) w2 hG hB hto hcb hcc ⟨hcs, hcm'⟩ (Lib.hid fun k hk => by
      obtain ⟨u, h1, h2⟩ := HL.out k hk
      exact ⟨u, keep BS1.out h1, iv_keep BS1.out h2⟩) (Lib.hid fun k hk => by
      obtain ⟨u, h1, h2⟩ := HD.out k hk
      exact ⟨u, keep BS1.out h1, iv_keep BS1.out h2⟩) (Lib.hid fun k hk => by rw [Nat.zero_add]; exact (S1.out k hk).1))
  (with_reducible refine LE.out.mono ?_); rintro e w5 ⟨⟨lv, o, rfl, hiv, hfin, hob⟩, hb⟩
  obtain ⟨bl, ol, cl', rfl, hl1, hl2, hlc⟩ := iv_at hiv (show 0 < G.N by omega)
  have hl2' : cl' ≤ 9223372036854775807 := Nat.le_trans hl2 (by decide)
  have B5 := Lib.hid (b_next BS1.out hb); have FIN := Lib.hid hfin; have OB5 := Lib.hid hob
  have SH := Lib.hid fun k hk => keep hb (S1.out k hk).1
  have LO := Lib.hid hlc
  have N1 := Lib.hid (keep hb F1.out); have N2 := Lib.hid (keep hb F2.out)
  obtain ⟨u, hu, hv⟩ := HL.out fr ha
  obtain ⟨A3, c3, rfl⟩ := iv_slice hv
  have IVF := Lib.hid hv
  have n1 := N1.out
  have hu5 := keep B5.out hu
  clear hb hiv hfin hob hlc hl2 F0 F1 F2 S1 OS LE CLN BS1 B1 B0 hu hv hcm
  go_wp2_with fail
  clear n1 hu5
  have hdeg := hG.deg32 fr ha
  go_loopw [15, 43] (fun bv s wr => ∃ (i : Nat) (best : Int), i ≤ G.deg fr ∧ s = .int .i64 i ∧ bv = .int .i64 best ∧ Short.Bst G fr cl bar o i best ∧ Below w5.heap.size w5 wr) (fun _ s _ => G.deg fr - (intOf s).toNat)
  case atStart => exact ⟨0, -1, Nat.zero_le _, rfl, rfl, Short.Bst.zero, Below.refl _ _⟩
  case round =>
    obtain ⟨i, best, hi, rfl, rfl, hbs, hbl⟩ := hrel
    have BS := Lib.hid hbs; have BR := Lib.hid hbl; clear hbs
    by_cases hlt : i < G.deg fr
    · have hl : (i : Int) < (G.deg fr : Int) := by omega
      obtain ⟨b2, f2, c2, e2, hce, hcm, hcl2⟩ := iv_at IVF.out (show 0 < G.deg fr by omega)
      injection e2 with e2 _ e3
      subst e2 e3
      have x0 := keep hbl (keep B5.out (hcl2 i hlt))
      obtain ⟨m, hm⟩ : ∃ m, m = G.lk fr i := ⟨_, rfl⟩
      have hk : m < G.N := by rw [hm]; exact hG.lt fr ha i hlt
      have ps : 1 ≤ G.d fr m ∧ G.d fr m ≤ B := hG.pos fr ha m ⟨i, hlt, hm.symm⟩
      obtain ⟨u2, hu2, hv2⟩ := HD.out fr ha
      obtain ⟨A4, c4, rfl⟩ := iv_slice hv2
      obtain ⟨b3, f3, c3', e4, hce3, hcm3, hcl3⟩ := iv_at hv2 (show 0 < G.deg fr by omega)
      injection e4 with e4 _ e5
      subst e4 e5
      have X0 := Lib.hid (keep hbl (SH.out m hk)); have X1 := Lib.hid (keep hbl (LO.out m hk)); have X2 := Lib.hid (keep hbl N2.out)
      have X3 := Lib.hid (keep hbl (keep B5.out hu2)); have X4 := Lib.hid (keep hbl (keep B5.out (hcl3 i hlt)))
      rw [← hm] at x0 X4
      have HM := Lib.hid hm; clear hm
      have hmi : (m : Int) < (G.N : Int) := by omega
      have OBM := Lib.hid (OB5.out m hk)
      have PS := Lib.hid ps
      clear hbl hcl2 hcl3 hu2 hv2 ps hcm3 hcm
      by_cases c0 : (m : Int) = bar
      · -- barred
        have g0 : ((m : Int) != bar) = false := by simpa using c0
        have BS2 := Lib.hid (Short.Bst.no BS.out fun c => c.1 (by rw [← HM.out]; exact c0))
        go_wp2_with fail
        refine d_region (by kernel_rfl) (by kernel_rfl) ?_
        repeat
          first
            | (refine d_plain (by with_reducible rfl) ?_; apply Exists.intro; refine ⟨fun wq hc hq => ?_, ?_⟩)
            | (refine d_on (by with_reducible rfl) (by rfl) (by with_reducible rfl) ?_; apply Exists.intro; refine ⟨fun wq hc hq => ?_, ?_⟩)
            | (refine d_off (by with_reducible rfl) (by rfl) (by rfl) ?_)
            | (refine d_void (by with_reducible rfl) (by rfl) ?_)
          try any_goals
            (have q0 := keep (cls hq) X0.out; have q1 := keep (cls hq) X1.out; have q2 := keep (cls hq) X2.out; have q3 := keep (cls hq) X3.out; have q4 := keep (cls hq) X4.out; clear hc
             go_simp
             first
               | rfl)
          simp only [Act.put, List.setIfInBounds_toArray, List.set_cons_zero, List.set_cons_succ]
        refine d_nil ?_
        intro w7 hb7
        have B7 := Lib.hid (b_next BR.out hb7); clear hb7
        go_wp2_with fail
        go_roundw
        case rel => exact ⟨i + 1, best, by omega, by go_num, rfl, BS2.out, B7.out⟩
        case measure => simp [intOf]; omega
      · have g0 : ((m : Int) != bar) = true := by simpa using c0
        cases c1 : Short.shut cl fr m with
        | true =>
          rw [c1] at X0
          have BS2 := Lib.hid (Short.Bst.no BS.out fun c => by have := c.2.1; rw [← HM.out, c1] at this; cases this)
          clear c1
          go_wp2_with fail
          refine d_region (by kernel_rfl) (by kernel_rfl) ?_
          repeat
            first
              | (refine d_plain (by with_reducible rfl) ?_; apply Exists.intro; refine ⟨fun wq hc hq => ?_, ?_⟩)
              | (refine d_on (by with_reducible rfl) (by rfl) (by with_reducible rfl) ?_; apply Exists.intro; refine ⟨fun wq hc hq => ?_, ?_⟩)
              | (refine d_off (by with_reducible rfl) (by rfl) (by rfl) ?_)
              | (refine d_void (by with_reducible rfl) (by rfl) ?_)
            try any_goals
              (have q0 := keep (cls hq) X0.out; have q1 := keep (cls hq) X1.out; have q2 := keep (cls hq) X2.out; have q3 := keep (cls hq) X3.out; have q4 := keep (cls hq) X4.out; clear hc
               go_simp
               first
                 | rfl)
            simp only [Act.put, List.setIfInBounds_toArray, List.set_cons_zero, List.set_cons_succ]
          refine d_nil ?_
          intro w7 hb7
          have B7 := Lib.hid (b_next BR.out hb7); clear hb7
          go_wp2_with fail
          go_roundw
          case rel => exact ⟨i + 1, best, by omega, by go_num, rfl, BS2.out, B7.out⟩
          case measure => simp [intOf]; omega
        | false =>
          by_cases c2' : 0 ≤ o m
          · have u9 : 0 ≤ o m → IntKind.i64.wrap (G.d fr m + o m) = G.d fr m + o m := fun h => IntWalk.i64_in _ (by have := OBM.out; have := PS.out; have := hG.b0; omega)
            have u9 := u9 c2'
            have CN : Short.Cnd G fr cl bar o i := ⟨by rw [← HM.out]; exact c0, by rw [← HM.out]; exact c1, by rw [← HM.out]; exact c2'⟩
            by_cases c3 : best < 0
            · have c3' : best < 0 := c3
              rw [c1] at X0
              have d2 := decide_eq_true c2'; have d3 := decide_eq_true c3
              have BS2 := Lib.hid (Short.Bst.yes BS.out CN (by rw [← HM.out]; have := PS.out; omega) (Or.inl c3))
              clear c1 CN
              rw [← HM.out] at BS2
              go_wp2_with fail
              refine d_region (by kernel_rfl) (by kernel_rfl) ?_
              repeat
                first
                  | (refine d_plain (by with_reducible rfl) ?_; apply Exists.intro; refine ⟨fun wq hc hq => ?_, ?_⟩)
                  | (refine d_on (by with_reducible rfl) (by rfl) (by with_reducible rfl) ?_; apply Exists.intro; refine ⟨fun wq hc hq => ?_, ?_⟩)
                  | (refine d_off (by with_reducible rfl) (by rfl) (by rfl) ?_)
                  | (refine d_void (by with_reducible rfl) (by rfl) ?_)
                try any_goals
                  (have q0 := keep (cls hq) X0.out; have q1 := keep (cls hq) X1.out; have q2 := keep (cls hq) X2.out; have q3 := keep (cls hq) X3.out; have q4 := keep (cls hq) X4.out; clear hc
                   go_simp
                   first
                     | rfl)
                simp only [Act.put, List.setIfInBounds_toArray, List.set_cons_zero, List.set_cons_succ]
              refine d_nil ?_
              intro w7 hb7
              have B7 := Lib.hid (b_next BR.out hb7)
              have X0 := Lib.hid (keep hb7 X0.out); have X1 := Lib.hid (keep hb7 X1.out); have X2 := Lib.hid (keep hb7 X2.out); have X3 := Lib.hid (keep hb7 X3.out); have X4 := Lib.hid (keep hb7 X4.out); clear hb7
              go_wp2_with fail
              refine d_region (by kernel_rfl) (by kernel_rfl) ?_
              repeat
                first
                  | (refine d_plain (by with_reducible rfl) ?_; apply Exists.intro; refine ⟨fun wq hc hq => ?_, ?_⟩)
                  | (refine d_on (by with_reducible rfl) (by rfl) (by with_reducible rfl) ?_; apply Exists.intro; refine ⟨fun wq hc hq => ?_, ?_⟩)
                  | (refine d_off (by with_reducible rfl) (by rfl) (by rfl) ?_)
                  | (refine d_void (by with_reducible rfl) (by rfl) ?_)
                try any_goals
                  (have q0 := keep (cls hq) X0.out; have q1 := keep (cls hq) X1.out; have q2 := keep (cls hq) X2.out; have q3 := keep (cls hq) X3.out; have q4 := keep (cls hq) X4.out; clear hc
                   go_simp
                   first
                     | rfl)
                simp only [Act.put, List.setIfInBounds_toArray, List.set_cons_zero, List.set_cons_succ]
              refine d_nil ?_
              intro w8 hb8
              have B8 := Lib.hid (b_next B7.out hb8); clear hb8
              go_wp2_with fail
              go_roundw
              case rel => exact ⟨i + 1, G.d fr m + o m, by omega, by go_num, rfl, BS2.out, B8.out⟩
              case measure => simp [intOf]; omega
            · by_cases c4 : G.d fr m + o m < best
              · have c4' := c4
                rw [c1] at X0
                have d2 := decide_eq_true c2'; have d3 := decide_eq_false c3; have d4 := decide_eq_true c4
                have BS2 := Lib.hid (Short.Bst.yes BS.out CN (by rw [← HM.out]; have := PS.out; omega) (Or.inr (by rw [← HM.out]; exact c4)))
                clear c1 CN
                rw [← HM.out] at BS2
                go_wp2_with fail
                refine d_region (by kernel_rfl) (by kernel_rfl) ?_
                repeat
                  first
                    | (refine d_plain (by with_reducible rfl) ?_; apply Exists.intro; refine ⟨fun wq hc hq => ?_, ?_⟩)
                    | (refine d_on (by with_reducible rfl) (by rfl) (by with_reducible rfl) ?_; apply Exists.intro; refine ⟨fun wq hc hq => ?_, ?_⟩)
                    | (refine d_off (by with_reducible rfl) (by rfl) (by rfl) ?_)
                    | (refine d_void (by with_reducible rfl) (by rfl) ?_)
                  try any_goals
                    (have q0 := keep (cls hq) X0.out; have q1 := keep (cls hq) X1.out; have q2 := keep (cls hq) X2.out; have q3 := keep (cls hq) X3.out; have q4 := keep (cls hq) X4.out; clear hc
                     go_simp
                     first
                       | rfl)
                  simp only [Act.put, List.setIfInBounds_toArray, List.set_cons_zero, List.set_cons_succ]
                refine d_nil ?_
                intro w7 hb7
                have B7 := Lib.hid (b_next BR.out hb7)
                have X0 := Lib.hid (keep hb7 X0.out); have X1 := Lib.hid (keep hb7 X1.out); have X2 := Lib.hid (keep hb7 X2.out); have X3 := Lib.hid (keep hb7 X3.out); have X4 := Lib.hid (keep hb7 X4.out); clear hb7
                go_wp2_with fail
                refine d_region (by kernel_rfl) (by kernel_rfl) ?_
                repeat
                  first
                    | (refine d_plain (by with_reducible rfl) ?_; apply Exists.intro; refine ⟨fun wq hc hq => ?_, ?_⟩)
                    | (refine d_on (by with_reducible rfl) (by rfl) (by with_reducible rfl) ?_; apply Exists.intro; refine ⟨fun wq hc hq => ?_, ?_⟩)
                    | (refine d_off (by with_reducible rfl) (by rfl) (by rfl) ?_)
                    | (refine d_void (by with_reducible rfl) (by rfl) ?_)
                  try any_goals
                    (have q0 := keep (cls hq) X0.out; have q1 := keep (cls hq) X1.out; have q2 := keep (cls hq) X2.out; have q3 := keep (cls hq) X3.out; have q4 := keep (cls hq) X4.out; clear hc
                     go_simp
                     first
                       | rfl)
                  simp only [Act.put, List.setIfInBounds_toArray, List.set_cons_zero, List.set_cons_succ]
                refine d_nil ?_
                intro w8 hb8
                have B8 := Lib.hid (b_next B7.out hb8); clear hb8
                go_wp2_with fail
                go_roundw
                case rel => exact ⟨i + 1, G.d fr m + o m, by omega, by go_num, rfl, BS2.out, B8.out⟩
                case measure => simp [intOf]; omega
              · have c4' := c4
                rw [c1] at X0
                have d2 := decide_eq_true c2'; have d3 := decide_eq_false c3; have d4 := decide_eq_false c4
                have BS2 := Lib.hid (Short.Bst.keep BS.out (by omega) (by rw [← HM.out]; omega))
                clear c1 CN
                go_wp2_with fail
                refine d_region (by kernel_rfl) (by kernel_rfl) ?_
                repeat
                  first
                    | (refine d_plain (by with_reducible rfl) ?_; apply Exists.intro; refine ⟨fun wq hc hq => ?_, ?_⟩)
                    | (refine d_on (by with_reducible rfl) (by rfl) (by with_reducible rfl) ?_; apply Exists.intro; refine ⟨fun wq hc hq => ?_, ?_⟩)
                    | (refine d_off (by with_reducible rfl) (by rfl) (by rfl) ?_)
                    | (refine d_void (by with_reducible rfl) (by rfl) ?_)
                  try any_goals
                    (have q0 := keep (cls hq) X0.out; have q1 := keep (cls hq) X1.out; have q2 := keep (cls hq) X2.out; have q3 := keep (cls hq) X3.out; have q4 := keep (cls hq) X4.out; clear hc
                     go_simp
                     first
                       | rfl)
                  simp only [Act.put, List.setIfInBounds_toArray, List.set_cons_zero, List.set_cons_succ]
                refine d_nil ?_
                intro w7 hb7
                have B7 := Lib.hid (b_next BR.out hb7); clear hb7
                go_wp2_with fail
                go_roundw
                case rel => exact ⟨i + 1, best, by omega, by go_num, rfl, BS2.out, B7.out⟩
                case measure => simp [intOf]; omega
          · have c2'' := c2'
            rw [c1] at X0
            have d2 := decide_eq_false c2'
            have BS2 := Lib.hid (Short.Bst.no BS.out fun c => by have := c.2.2; rw [← HM.out] at this; exact c2' this)
            clear c1
            go_wp2_with fail
            refine d_region (by kernel_rfl) (by kernel_rfl) ?_
            repeat
              first
                | (refine d_plain (by with_reducible rfl) ?_; apply Exists.intro; refine ⟨fun wq hc hq => ?_, ?_⟩)
                | (refine d_on (by with_reducible rfl) (by rfl) (by with_reducible rfl) ?_; apply Exists.intro; refine ⟨fun wq hc hq => ?_, ?_⟩)
                | (refine d_off (by with_reducible rfl) (by rfl) (by rfl) ?_)
                | (refine d_void (by with_reducible rfl) (by rfl) ?_)
              try any_goals
                (have q0 := keep (cls hq) X0.out; have q1 := keep (cls hq) X1.out; have q2 := keep (cls hq) X2.out; have q3 := keep (cls hq) X3.out; have q4 := keep (cls hq) X4.out; clear hc
                 go_simp
                 first
                   | rfl)
              simp only [Act.put, List.setIfInBounds_toArray, List.set_cons_zero, List.set_cons_succ]
            refine d_nil ?_
            intro w7 hb7
            have B7 := Lib.hid (b_next BR.out hb7); clear hb7
            go_wp2_with fail
            go_roundw
            case rel => exact ⟨i + 1, best, by omega, by go_num, rfl, BS2.out, B7.out⟩
            case measure => simp [intOf]; omega
    · obtain rfl : i = G.deg fr := by omega
      have hl : ¬ (G.deg fr : Int) < (G.deg fr : Int) := by omega
      have B6 := Lib.hid (b_next B5.out hbl); clear hbl
      by_cases hneg : best < 0
      · have NO : Hid (∀ l, ¬ Short.Is G fr tgt cl bar l) := Lib.hid fun l h => by
          have := (Short.is_best hG FIN.out ha hto hne h BS.out).1
          omega
        go_wp2_with fail
        go_ret3
        exact ⟨Or.inr ⟨NO.out, rfl⟩, B6.out⟩
      · have hb0 : 0 ≤ best := by omega
        obtain ⟨i0, hi0, hz0, hz1, hz2⟩ := info_parts Cpy.int_info
        have IF := Lib.hid (And.intro hi0 (And.intro hz0 (And.intro hz1 hz2))); clear hi0 hz0 hz1 hz2
        have BW := Lib.hid (b_next BR.out (b_alloc (Below.refl wr.heap.size wr) (.cells #[.int .i64 fr] 3)))
        have OW := Lib.hid (show Own (wr.alloc (.cells #[.int .i64 fr] 3)) w5.heap.size 3 1 (.slice (some ⟨wr.heap.size, 0, none⟩) 1 1) 1 (fun i _ => ((fr :: ([] : List Nat)).getD i 0 : Int)) from own_made #[.int .i64 fr] BR.out.size (by decide) rfl)
        go_wp2_with fail
        go_loopg [18, 19, 20] best.toNat (fun gk sv sl sa wr => ∃ (l : List Nat) (left : Int), gk = left.toNat ∧ Own wr w5.heap.size 3 1 sv (l.length + 1) (fun i _ => ((fr :: l).getD i 0 : Int)) ∧ sl = .int .i64 left ∧ sa = .int .i64 (Short.fin fr l) ∧ Short.Go G fr tgt cl bar o best l left ∧ Below w5.heap.size w5 wr)
        case atStart => exact ⟨[], best, rfl, OW.out, rfl, rfl, Short.Go.start hb0, BW.out⟩
        case round =>
          obtain ⟨l, left, hgk, hown, rfl, rfl, hgo, hbl2⟩ := hrel
          have GK := Lib.hid hgk; have OV := Lib.hid hown; have GO := Lib.hid hgo; have BL := Lib.hid hbl2
          clear hgk hown hgo hbl2
          obtain ⟨w7, hw7⟩ : ∃ w7, w7 = wr := ⟨_, rfl⟩
          subst hw7
          obtain ⟨p, hp⟩ : ∃ p, p = Short.fin fr l := ⟨_, rfl⟩
          rw [← hp]
          have HPF := Lib.hid hp; clear hp
          have hpN : p < G.N := by
            rw [HPF.out]
            rcases Short.fin_mem l fr with q | q
            · rw [q]; exact ha
            · exact GO.out.lt _ q
          by_cases hpt : p = tgt
          · have g0 : ((p : Int) != (tgt : Int)) = false := by simp [hpt]
            have DN := Lib.hid (Short.Go.doneO hG FIN.out ha hto hne BS.out GO.out (by rw [← HPF.out]; exact hpt))
            have IVO := Lib.hid (iv_own OV.out)
            clear hpt
            go_wp2_with fail
            go_ret3
            exact ⟨Or.inl ⟨_, l, best, rfl, IVO.out, DN.out⟩, b_next B5.out BL.out⟩
          · have g0 : ((p : Int) != (tgt : Int)) = true := by simp; omega
            obtain ⟨jx, hjx, hnx⟩ := Short.Go.more hG FIN.out ha hct hne BS.out hb0 GO.out (by rw [← HPF.out]; exact hpt)
            rw [← HPF.out] at hjx hnx
            have MORE := Lib.hid (And.intro hjx hnx); clear hjx hnx
            have hpi : (p : Int) < (G.N : Int) := by omega
            have k1 := keep BL.out N1.out
            obtain ⟨u, hu, hv⟩ := HL.out p hpN
            obtain ⟨A5, c5, rfl⟩ := iv_slice hv
            have IVP := Lib.hid hv
            have hu5 := keep BL.out (keep B5.out hu)
            have hdegp := hG.deg32 p hpN
            clear hu hv hpt
            go_wp2_with fail
            clear k1 hu5
            go_loopw [19, 20, 115] (fun sl sa s wr => ∃ j : Nat, j ≤ G.deg p ∧ sl = .int .i64 left ∧ sa = .int .i64 p ∧ s = .int .i64 j ∧ (∀ j', j' < j → ¬ Short.Nxt G fr cl bar o left p j') ∧ Below w7.heap.size w7 wr) (fun _ _ s _ => G.deg p - (intOf s).toNat)
            case atStart => exact ⟨0, Nat.zero_le _, rfl, rfl, rfl, fun j' h => absurd h (Nat.not_lt_zero j'), Below.refl _ _⟩
            case round =>
              obtain ⟨j, hj, rfl, rfl, rfl, hno, hbi⟩ := hrel
              have NO := Lib.hid hno; have BI := Lib.hid hbi; clear hno
              by_cases hltj : j < G.deg p
              · have hlj : (j : Int) < (G.deg p : Int) := by omega
                have hb5 := b_next BL.out hbi
                obtain ⟨b2, f2, c2, e2, hce, hcm, hcl2⟩ := iv_at IVP.out (show 0 < G.deg p by omega)
                injection e2 with e2 _ e3
                subst e2 e3
                have x0 := keep hb5 (keep B5.out (hcl2 j hltj))
                obtain ⟨m, hm⟩ : ∃ m, m = G.lk p j := ⟨_, rfl⟩
                have hk : m < G.N := by rw [hm]; exact hG.lt p hpN j hltj
                have ps : 1 ≤ G.d p m ∧ G.d p m ≤ B := hG.pos p hpN m ⟨j, hltj, hm.symm⟩
                obtain ⟨u2, hu2, hv2⟩ := HD.out p hpN
                obtain ⟨A4, c4, rfl⟩ := iv_slice hv2
                obtain ⟨b3, f3, c3', e4, hce3, hcm3, hcl3⟩ := iv_at hv2 (show 0 < G.deg p by omega)
                injection e4 with e4 _ e5
                subst e4 e5
                have X0 := Lib.hid (keep hb5 (SH.out m hk)); have X1 := Lib.hid (keep hb5 (LO.out m hk)); have X2 := Lib.hid (keep hb5 N2.out)
                have X3 := Lib.hid (keep hb5 (keep B5.out hu2)); have X4 := Lib.hid (keep hb5 (keep B5.out (hcl3 j hltj)))
                rw [← hm] at x0 X4
                have HM := Lib.hid hm; clear hm
                have hmi : (m : Int) < (G.N : Int) := by omega
                have OBM := Lib.hid (OB5.out m hk)
                have PS := Lib.hid ps
                clear hbi hb5 hcl2 hcl3 hu2 hv2 ps hcm3 hcm
                by_cases a0 : p = fr
                · have g1 : ((p : Int) != (fr : Int)) = false := by simp [a0]
                  have A0 := Lib.hid a0; clear a0
                  by_cases c0 : (m : Int) = bar
                  · have g2 : ((m : Int) != bar) = false := by simpa using c0
                    have NX : ¬ Short.Nxt G fr cl bar o left p j := fun c => by
                      rcases c.1 with q | q
                      · exact q A0.out
                      · exact q (by rw [← HM.out]; exact c0)
                    clear c0
                    have ST : ∀ j', j' < j + 1 → ¬ Short.Nxt G fr cl bar o left p j' := fun j' h => by
                      rcases Nat.lt_or_ge j' j with q | q
                      · exact NO.out j' q
                      · rw [show j' = j from by omega]; exact NX
                    have NO2 := Lib.hid ST; clear ST NX
                    go_wp2_with fail
                    refine d_region (by kernel_rfl) (by kernel_rfl) ?_
                    repeat
                      first
                        | (refine d_plain (by with_reducible rfl) ?_; apply Exists.intro; refine ⟨fun wq hc hq => ?_, ?_⟩)
                        | (refine d_on (by with_reducible rfl) (by rfl) (by with_reducible rfl) ?_; apply Exists.intro; refine ⟨fun wq hc hq => ?_, ?_⟩)
                        | (refine d_off (by with_reducible rfl) (by rfl) (by rfl) ?_)
                        | (refine d_void (by with_reducible rfl) (by rfl) ?_)
                      try any_goals
                        (have q0 := keep (cls hq) X0.out; have q1 := keep (cls hq) X1.out; have q2 := keep (cls hq) X2.out; have q3 := keep (cls hq) X3.out; have q4 := keep (cls hq) X4.out; clear hc
                         go_simp
                         first
                           | rfl)
                      simp only [Act.put, List.setIfInBounds_toArray, List.set_cons_zero, List.set_cons_succ]
                    refine d_nil ?_
                    intro w8 hb8
                    have B8 := Lib.hid (b_next BI.out hb8); clear hb8
                    go_wp2_with fail
                    go_roundw
                    case rel => exact ⟨j + 1, by omega, rfl, rfl, by go_num, NO2.out, B8.out⟩
                    case measure => simp [intOf]; omega
                  · have g2 : ((m : Int) != bar) = true := by simpa using c0
                    have FST : Hid (p ≠ fr ∨ ((G.lk p j : Nat) : Int) ≠ bar) := Lib.hid (Or.inr (by rw [← HM.out]; exact c0))
                    clear c0
                    cases c1 : Short.shut cl fr m with
                    | true =>
                      have NX : ¬ Short.Nxt G fr cl bar o left p j := fun c => by have := c.2.1; rw [← HM.out, c1] at this; cases this
                      rw [c1] at X0
                      clear c1
                      have ST : ∀ j', j' < j + 1 → ¬ Short.Nxt G fr cl bar o left p j' := fun j' h => by
                        rcases Nat.lt_or_ge j' j with q | q
                        · exact NO.out j' q
                        · rw [show j' = j from by omega]; exact NX
                      have NO2 := Lib.hid ST; clear ST NX
                      go_wp2_with fail
                      refine d_region (by kernel_rfl) (by kernel_rfl) ?_
                      repeat
                        first
                          | (refine d_plain (by with_reducible rfl) ?_; apply Exists.intro; refine ⟨fun wq hc hq => ?_, ?_⟩)
                          | (refine d_on (by with_reducible rfl) (by rfl) (by with_reducible rfl) ?_; apply Exists.intro; refine ⟨fun wq hc hq => ?_, ?_⟩)
                          | (refine d_off (by with_reducible rfl) (by rfl) (by rfl) ?_)
                          | (refine d_void (by with_reducible rfl) (by rfl) ?_)
                        try any_goals
                          (have q0 := keep (cls hq) X0.out; have q1 := keep (cls hq) X1.out; have q2 := keep (cls hq) X2.out; have q3 := keep (cls hq) X3.out; have q4 := keep (cls hq) X4.out; clear hc
                           go_simp
                           first
                             | rfl)
                        simp only [Act.put, List.setIfInBounds_toArray, List.set_cons_zero, List.set_cons_succ]
                      refine d_nil ?_
                      intro w8 hb8
                      have B8 := Lib.hid (b_next BI.out hb8); clear hb8
                      go_wp2_with fail
                      go_roundw
                      case rel => exact ⟨j + 1, by omega, rfl, rfl, by go_num, NO2.out, B8.out⟩
                      case measure => simp [intOf]; omega
                    | false =>
                      rw [c1] at X0
                      have C1 := Lib.hid c1; clear c1
                      by_cases c2' : 0 ≤ o m
                      · have u9 : 0 ≤ o m → IntKind.i64.wrap (G.d p m + o m) = G.d p m + o m := fun h => IntWalk.i64_in _ (by have := OBM.out; have := PS.out; have := hG.b0; omega)
                        have u9 := u9 c2'
                        by_cases c4 : G.d p m + o m = left
                        · skip
                          have NX : Short.Nxt G fr cl bar o left p j := ⟨FST.out, by rw [← HM.out]; exact C1.out, by rw [← HM.out]; exact c2', by rw [← HM.out]; exact c4⟩
                          have STP := Short.Go.step hG ha GO.out (i := j) (by rw [← HPF.out]; exact hltj) (by rw [← HPF.out]; exact NX) (by rw [← HPF.out]; exact NO.out)
                          rw [← HPF.out, ← HM.out] at STP
                          have G2 := Lib.hid STP; clear STP NX
                          have LEN := Lib.hid (Short.nodup_le hG ha GO.out.chn GO.out.nodup)
                          have d2 := decide_eq_true c2'
                          have g4 : (G.d p m + o m == left) = true := by simpa using c4
                          have HC2 := Lib.hid c2'
                          clear c4
                          go_wp2_with fail
                          refine d_region (by kernel_rfl) (by kernel_rfl) ?_
                          repeat
                            first
                              | (refine d_plain (by with_reducible rfl) ?_; apply Exists.intro; refine ⟨fun wq hc hq => ?_, ?_⟩)
                              | (refine d_on (by with_reducible rfl) (by rfl) (by with_reducible rfl) ?_; apply Exists.intro; refine ⟨fun wq hc hq => ?_, ?_⟩)
                              | (refine d_off (by with_reducible rfl) (by rfl) (by rfl) ?_)
                              | (refine d_void (by with_reducible rfl) (by rfl) ?_)
                            try any_goals
                              (have q0 := keep (cls hq) X0.out; have q1 := keep (cls hq) X1.out; have q2 := keep (cls hq) X2.out; have q3 := keep (cls hq) X3.out; have q4 := keep (cls hq) X4.out; clear hc
                               go_simp
                               first
                                 | rfl)
                            simp only [Act.put, List.setIfInBounds_toArray, List.set_cons_zero, List.set_cons_succ]
                          refine d_nil ?_
                          intro w8 hb8
                          have B8 := Lib.hid (b_next BI.out hb8); have x1 := keep hb8 X1.out; clear hb8
                          have B9 := b_alloc (Below.refl w8.heap.size w8) (.cells #[.int .i64 m] 3)
                          have OS := Lib.hid (own_keep (b_next B8.out B9) OV.out)
                          have NS : Hid (∀ q u, [Value.int .i64 m][q]? = some u → (w8.alloc (.cells #[.int .i64 m] 3)).cell? ((⟨w8.heap.size, 0, none⟩ : Addr).add q) = some u) := Lib.hid (new1 w8 3 (.int .i64 m))
                          have B10 := Lib.hid (b_next BL.out (b_next B8.out B9))
                          have NB := Lib.hid B10.out.size
                          have hlen := LEN.out
                          clear B9
                          go_wp2_with (at_builtin; refine wpList_append_own_at _ rfl (.tmp 165) (.tmp 167) 83 rfl w5.heap.size 3 i0 _ 1 8 Tryz.underlying83 IF.out.1 IF.out.2.1 IF.out.2.2.1 IF.out.2.2.2 rfl (by decide) _ (l.length + 1) _ rfl OS.out ⟨w8.heap.size, 0, none⟩ 1 1 [.int .i64 m] rfl rfl NS.out (by simp [Value.oneCell']) (by unfold maxLen; omega) (by omega) NB.out ?_; intro v2 w9 hown1' hg1' hnil1 hat1'; have hown1 := Lib.hid hown1'; have hg1 := Lib.hid hg1'; clear hnil1 hown1' hg1' hat1')
                          have B11 := Lib.hid (grow_below B10.out OS.out hg1.out (Nat.le_refl _) NB.out)
                          have OV2 : Hid (Own w9 w5.heap.size 3 1 v2 ((l ++ [m]).length + 1) (fun i _ => ((fr :: (l ++ [m])).getD i 0 : Int))) := Lib.hid (by
                            have q := hown1.out
                            rw [row_next fr l m] at q
                            rw [List.length_append]; exact q)
                          have FE : Hid (Short.fin fr (l ++ [m]) = m) := Lib.hid (by rw [Short.fin_append]; rfl)
                          go_wp2_with fail
                          go_roundg (o m).toNat
                          case measure => rw [GK.out]; have h1 := G2.out.2; have h2 := HC2.out; omega
                          case rel => exact ⟨l ++ [m], o m, rfl, OV2.out, rfl, by rw [FE.out], G2.out.1, B11.out⟩
                        · have NX : ¬ Short.Nxt G fr cl bar o left p j := fun c => by have := c.2.2.2; rw [← HM.out] at this; exact c4 this
                          have d2 := decide_eq_true c2'
                          have g4 : (G.d p m + o m == left) = false := by simpa using c4
                          clear c4
                          have ST : ∀ j', j' < j + 1 → ¬ Short.Nxt G fr cl bar o left p j' := fun j' h => by
                            rcases Nat.lt_or_ge j' j with q | q
                            · exact NO.out j' q
                            · rw [show j' = j from by omega]; exact NX
                          have NO2 := Lib.hid ST; clear ST NX
                          go_wp2_with fail
                          refine d_region (by kernel_rfl) (by kernel_rfl) ?_
                          repeat
                            first
                              | (refine d_plain (by with_reducible rfl) ?_; apply Exists.intro; refine ⟨fun wq hc hq => ?_, ?_⟩)
                              | (refine d_on (by with_reducible rfl) (by rfl) (by with_reducible rfl) ?_; apply Exists.intro; refine ⟨fun wq hc hq => ?_, ?_⟩)
                              | (refine d_off (by with_reducible rfl) (by rfl) (by rfl) ?_)
                              | (refine d_void (by with_reducible rfl) (by rfl) ?_)
                            try any_goals
                              (have q0 := keep (cls hq) X0.out; have q1 := keep (cls hq) X1.out; have q2 := keep (cls hq) X2.out; have q3 := keep (cls hq) X3.out; have q4 := keep (cls hq) X4.out; clear hc
                               go_simp
                               first
                                 | rfl)
                            simp only [Act.put, List.setIfInBounds_toArray, List.set_cons_zero, List.set_cons_succ]
                          refine d_nil ?_
                          intro w8 hb8
                          have B8 := Lib.hid (b_next BI.out hb8); clear hb8
                          go_wp2_with fail
                          go_roundw
                          case rel => exact ⟨j + 1, by omega, rfl, rfl, by go_num, NO2.out, B8.out⟩
                          case measure => simp [intOf]; omega
                      · have NX : ¬ Short.Nxt G fr cl bar o left p j := fun c => by have := c.2.2.1; rw [← HM.out] at this; exact c2' this
                        have d2 := decide_eq_false c2'
                        have ST : ∀ j', j' < j + 1 → ¬ Short.Nxt G fr cl bar o left p j' := fun j' h => by
                          rcases Nat.lt_or_ge j' j with q | q
                          · exact NO.out j' q
                          · rw [show j' = j from by omega]; exact NX
                        have NO2 := Lib.hid ST; clear ST NX
                        go_wp2_with fail
                        refine d_region (by kernel_rfl) (by kernel_rfl) ?_
                        repeat
                          first
                            | (refine d_plain (by with_reducible rfl) ?_; apply Exists.intro; refine ⟨fun wq hc hq => ?_, ?_⟩)
                            | (refine d_on (by with_reducible rfl) (by rfl) (by with_reducible rfl) ?_; apply Exists.intro; refine ⟨fun wq hc hq => ?_, ?_⟩)
                            | (refine d_off (by with_reducible rfl) (by rfl) (by rfl) ?_)
                            | (refine d_void (by with_reducible rfl) (by rfl) ?_)
                          try any_goals
                            (have q0 := keep (cls hq) X0.out; have q1 := keep (cls hq) X1.out; have q2 := keep (cls hq) X2.out; have q3 := keep (cls hq) X3.out; have q4 := keep (cls hq) X4.out; clear hc
                             go_simp
                             first
                               | rfl)
                          simp only [Act.put, List.setIfInBounds_toArray, List.set_cons_zero, List.set_cons_succ]
                        refine d_nil ?_
                        intro w8 hb8
                        have B8 := Lib.hid (b_next BI.out hb8); clear hb8
                        go_wp2_with fail
                        go_roundw
                        case rel => exact ⟨j + 1, by omega, rfl, rfl, by go_num, NO2.out, B8.out⟩
                        case measure => simp [intOf]; omega
                · have g1 : ((p : Int) != (fr : Int)) = true := by simp; omega
                  have FST : Hid (p ≠ fr ∨ ((G.lk p j : Nat) : Int) ≠ bar) := Lib.hid (Or.inl a0)
                  clear a0
                  cases c1 : Short.shut cl fr m with
                  | true =>
                    have NX : ¬ Short.Nxt G fr cl bar o left p j := fun c => by have := c.2.1; rw [← HM.out, c1] at this; cases this
                    rw [c1] at X0
                    clear c1
                    have ST : ∀ j', j' < j + 1 → ¬ Short.Nxt G fr cl bar o left p j' := fun j' h => by
                      rcases Nat.lt_or_ge j' j with q | q
                      · exact NO.out j' q
                      · rw [show j' = j from by omega]; exact NX
                    have NO2 := Lib.hid ST; clear ST NX
                    go_wp2_with fail
                    refine d_region (by kernel_rfl) (by kernel_rfl) ?_
                    repeat
                      first
                        | (refine d_plain (by with_reducible rfl) ?_; apply Exists.intro; refine ⟨fun wq hc hq => ?_, ?_⟩)
                        | (refine d_on (by with_reducible rfl) (by rfl) (by with_reducible rfl) ?_; apply Exists.intro; refine ⟨fun wq hc hq => ?_, ?_⟩)
                        | (refine d_off (by with_reducible rfl) (by rfl) (by rfl) ?_)
                        | (refine d_void (by with_reducible rfl) (by rfl) ?_)
                      try any_goals
                        (have q0 := keep (cls hq) X0.out; have q1 := keep (cls hq) X1.out; have q2 := keep (cls hq) X2.out; have q3 := keep (cls hq) X3.out; have q4 := keep (cls hq) X4.out; clear hc
                         go_simp
                         first
                           | rfl)
                      simp only [Act.put, List.setIfInBounds_toArray, List.set_cons_zero, List.set_cons_succ]
                    refine d_nil ?_
                    intro w8 hb8
                    have B8 := Lib.hid (b_next BI.out hb8); clear hb8
                    go_wp2_with fail
                    go_roundw
                    case rel => exact ⟨j + 1, by omega, rfl, rfl, by go_num, NO2.out, B8.out⟩
                    case measure => simp [intOf]; omega
                  | false =>
                    rw [c1] at X0
                    have C1 := Lib.hid c1; clear c1
                    by_cases c2' : 0 ≤ o m
                    · have u9 : 0 ≤ o m → IntKind.i64.wrap (G.d p m + o m) = G.d p m + o m := fun h => IntWalk.i64_in _ (by have := OBM.out; have := PS.out; have := hG.b0; omega)
                      have u9 := u9 c2'
                      by_cases c4 : G.d p m + o m = left
                      · skip
                        have NX : Short.Nxt G fr cl bar o left p j := ⟨FST.out, by rw [← HM.out]; exact C1.out, by rw [← HM.out]; exact c2', by rw [← HM.out]; exact c4⟩
                        have STP := Short.Go.step hG ha GO.out (i := j) (by rw [← HPF.out]; exact hltj) (by rw [← HPF.out]; exact NX) (by rw [← HPF.out]; exact NO.out)
                        rw [← HPF.out, ← HM.out] at STP
                        have G2 := Lib.hid STP; clear STP NX
                        have LEN := Lib.hid (Short.nodup_le hG ha GO.out.chn GO.out.nodup)
                        have d2 := decide_eq_true c2'
                        have g4 : (G.d p m + o m == left) = true := by simpa using c4
                        have HC2 := Lib.hid c2'
                        clear c4
                        go_wp2_with fail
                        refine d_region (by kernel_rfl) (by kernel_rfl) ?_
                        repeat
                          first
                            | (refine d_plain (by with_reducible rfl) ?_; apply Exists.intro; refine ⟨fun wq hc hq => ?_, ?_⟩)
                            | (refine d_on (by with_reducible rfl) (by rfl) (by with_reducible rfl) ?_; apply Exists.intro; refine ⟨fun wq hc hq => ?_, ?_⟩)
                            | (refine d_off (by with_reducible rfl) (by rfl) (by rfl) ?_)
                            | (refine d_void (by with_reducible rfl) (by rfl) ?_)
                          try any_goals
                            (have q0 := keep (cls hq) X0.out; have q1 := keep (cls hq) X1.out; have q2 := keep (cls hq) X2.out; have q3 := keep (cls hq) X3.out; have q4 := keep (cls hq) X4.out; clear hc
                             go_simp
                             first
                               | rfl)
                          simp only [Act.put, List.setIfInBounds_toArray, List.set_cons_zero, List.set_cons_succ]
                        refine d_nil ?_
                        intro w8 hb8
                        have B8 := Lib.hid (b_next BI.out hb8); have x1 := keep hb8 X1.out; clear hb8
                        have B9 := b_alloc (Below.refl w8.heap.size w8) (.cells #[.int .i64 m] 3)
                        have OS := Lib.hid (own_keep (b_next B8.out B9) OV.out)
                        have NS : Hid (∀ q u, [Value.int .i64 m][q]? = some u → (w8.alloc (.cells #[.int .i64 m] 3)).cell? ((⟨w8.heap.size, 0, none⟩ : Addr).add q) = some u) := Lib.hid (new1 w8 3 (.int .i64 m))
                        have B10 := Lib.hid (b_next BL.out (b_next B8.out B9))
                        have NB := Lib.hid B10.out.size
                        have hlen := LEN.out
                        clear B9
                        go_wp2_with (at_builtin; refine wpList_append_own_at _ rfl (.tmp 165) (.tmp 167) 83 rfl w5.heap.size 3 i0 _ 1 8 Tryz.underlying83 IF.out.1 IF.out.2.1 IF.out.2.2.1 IF.out.2.2.2 rfl (by decide) _ (l.length + 1) _ rfl OS.out ⟨w8.heap.size, 0, none⟩ 1 1 [.int .i64 m] rfl rfl NS.out (by simp [Value.oneCell']) (by unfold maxLen; omega) (by omega) NB.out ?_; intro v2 w9 hown1' hg1' hnil1 hat1'; have hown1 := Lib.hid hown1'; have hg1 := Lib.hid hg1'; clear hnil1 hown1' hg1' hat1')
                        have B11 := Lib.hid (grow_below B10.out OS.out hg1.out (Nat.le_refl _) NB.out)
                        have OV2 : Hid (Own w9 w5.heap.size 3 1 v2 ((l ++ [m]).length + 1) (fun i _ => ((fr :: (l ++ [m])).getD i 0 : Int))) := Lib.hid (by
                          have q := hown1.out
                          rw [row_next fr l m] at q
                          rw [List.length_append]; exact q)
                        have FE : Hid (Short.fin fr (l ++ [m]) = m) := Lib.hid (by rw [Short.fin_append]; rfl)
                        go_wp2_with fail
                        go_roundg (o m).toNat
                        case measure => rw [GK.out]; have h1 := G2.out.2; have h2 := HC2.out; omega
                        case rel => exact ⟨l ++ [m], o m, rfl, OV2.out, rfl, by rw [FE.out], G2.out.1, B11.out⟩
                      · have NX : ¬ Short.Nxt G fr cl bar o left p j := fun c => by have := c.2.2.2; rw [← HM.out] at this; exact c4 this
                        have d2 := decide_eq_true c2'
                        have g4 : (G.d p m + o m == left) = false := by simpa using c4
                        clear c4
                        have ST : ∀ j', j' < j + 1 → ¬ Short.Nxt G fr cl bar o left p j' := fun j' h => by
                          rcases Nat.lt_or_ge j' j with q | q
                          · exact NO.out j' q
                          · rw [show j' = j from by omega]; exact NX
                        have NO2 := Lib.hid ST; clear ST NX
                        go_wp2_with fail
                        refine d_region (by kernel_rfl) (by kernel_rfl) ?_
                        repeat
                          first
                            | (refine d_plain (by with_reducible rfl) ?_; apply Exists.intro; refine ⟨fun wq hc hq => ?_, ?_⟩)
                            | (refine d_on (by with_reducible rfl) (by rfl) (by with_reducible rfl) ?_; apply Exists.intro; refine ⟨fun wq hc hq => ?_, ?_⟩)
                            | (refine d_off (by with_reducible rfl) (by rfl) (by rfl) ?_)
                            | (refine d_void (by with_reducible rfl) (by rfl) ?_)
                          try any_goals
                            (have q0 := keep (cls hq) X0.out; have q1 := keep (cls hq) X1.out; have q2 := keep (cls hq) X2.out; have q3 := keep (cls hq) X3.out; have q4 := keep (cls hq) X4.out; clear hc
                             go_simp
                             first
                               | rfl)
                          simp only [Act.put, List.setIfInBounds_toArray, List.set_cons_zero, List.set_cons_succ]
                        refine d_nil ?_
                        intro w8 hb8
                        have B8 := Lib.hid (b_next BI.out hb8); clear hb8
                        go_wp2_with fail
                        go_roundw
                        case rel => exact ⟨j + 1, by omega, rfl, rfl, by go_num, NO2.out, B8.out⟩
                        case measure => simp [intOf]; omega
                    · have NX : ¬ Short.Nxt G fr cl bar o left p j := fun c => by have := c.2.2.1; rw [← HM.out] at this; exact c2' this
                      have d2 := decide_eq_false c2'
                      have ST : ∀ j', j' < j + 1 → ¬ Short.Nxt G fr cl bar o left p j' := fun j' h => by
                        rcases Nat.lt_or_ge j' j with q | q
                        · exact NO.out j' q
                        · rw [show j' = j from by omega]; exact NX
                      have NO2 := Lib.hid ST; clear ST NX
                      go_wp2_with fail
                      refine d_region (by kernel_rfl) (by kernel_rfl) ?_
                      repeat
                        first
                          | (refine d_plain (by with_reducible rfl) ?_; apply Exists.intro; refine ⟨fun wq hc hq => ?_, ?_⟩)
                          | (refine d_on (by with_reducible rfl) (by rfl) (by with_reducible rfl) ?_; apply Exists.intro; refine ⟨fun wq hc hq => ?_, ?_⟩)
                          | (refine d_off (by with_reducible rfl) (by rfl) (by rfl) ?_)
                          | (refine d_void (by with_reducible rfl) (by rfl) ?_)
                        try any_goals
                          (have q0 := keep (cls hq) X0.out; have q1 := keep (cls hq) X1.out; have q2 := keep (cls hq) X2.out; have q3 := keep (cls hq) X3.out; have q4 := keep (cls hq) X4.out; clear hc
                           go_simp
                           first
                             | rfl)
                        simp only [Act.put, List.setIfInBounds_toArray, List.set_cons_zero, List.set_cons_succ]
                      refine d_nil ?_
                      intro w8 hb8
                      have B8 := Lib.hid (b_next BI.out hb8); clear hb8
                      go_wp2_with fail
                      go_roundw
                      case rel => exact ⟨j + 1, by omega, rfl, rfl, by go_num, NO2.out, B8.out⟩
                      case measure => simp [intOf]; omega
              · exact absurd MORE.out.2 (NO.out _ (by have := MORE.out.1; omega))
end Net
end Go.Proofs.YtmkglhoahdlogaaGreatDoor
