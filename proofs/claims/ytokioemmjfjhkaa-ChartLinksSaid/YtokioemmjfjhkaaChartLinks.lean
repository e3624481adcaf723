/- ChartLinks: links are mutual, and consecutive fixes of an airway are linked. For every input, with no condition. -/
import Derived.Test.YtokioemmjfjhkaaLnkL
import Derived.Test.YtokioemmjfjhkaaChW
import Derived.Test.YtokioemmjfjhkaaChO
import Derived.Test.YtokioemmjfjhkaaHasT
import Derived.Test.YtokioemmjfjhkaaShapes
namespace Go.Proofs.Ytokioemmjfjhkaa
open Go.RowKit Go.ChangeShapes Go.WideShapes
namespace ChartLinks
open Kit Plane Chart Route Lnk
/-- A name of a list is found in it. -/
theorem has_mem {L : List ByteArray} {x : ByteArray} (h : x ∈ L) : decide (0 ≤ Chart.fix (fun k => L.getD k ⟨#[]⟩) x L.length) = true := by
  refine decide_eq_true ?_
  obtain ⟨i, hi, e⟩ := List.mem_iff_getElem.1 h
  rcases Int.lt_or_le (Chart.fix (fun k => L.getD k ⟨#[]⟩) x L.length) 0 with q | q
  · have this : decide (L.getD i ⟨#[]⟩ = x) = false := fnd_neg q i hi
    rw [List.getD_eq_getElem?_getD, List.getElem?_eq_getElem hi] at this
    simp [e] at this
  · exact q
/-- The contract of chart.Links at a chart that passes and one of its fixes. -/
theorem links_yes {c : Value} {n : Nat} {N : Nat → ByteArray} {X Y : Nat → Int} {m : Nat} {M : Nat → ByteArray} {l : Nat → Nat} {S : Nat → Nat → ByteArray} {w : World} (hv : CV w c n N X Y m M l S) (h0 : cerr n N X Y m M l S = 0) {s : ByteArray} (hs : 0 ≤ Chart.fix N s n) :
    Calls Try.prog 16 #[c, .string s] w fun e w' => (∃ v, e = .returned (.tuple #[v, .int .i64 0]) ∧ SL w' v (links l S s m)) ∧ Below w.heap.size w w' := by
  refine (linksC hv s).mono ?_
  rintro e w' ⟨h, hb⟩
  refine ⟨?_, hb⟩
  rcases h with ⟨E, -, -, -, h2⟩ | ⟨-, -, h⟩
  · have := h2 h0; omega
  · exact h
/-- What is known of the links of a fix. -/
structure Lk (n : Nat) (N : Nat → ByteArray) (m : Nat) (l : Nat → Nat) (S : Nat → Nat → ByteArray) (fx : ByteArray) (L : List ByteArray) : Prop where
  fix : ∀ i (h : i < L.length), 0 ≤ Chart.fix N L[i] n
  back : ∀ i (h : i < L.length), fx ∈ links l S L[i] m
  ne : ∀ i (h : i < L.length), L[i] ≠ fx
  asc : ∀ i j (hi : i < L.length) (hj : j < L.length), i < j → Op.bytesLess L[i].toList L[j].toList = true
  all : ∀ a, a < m → ∀ k, k + 1 < l a → S a k = fx → S a (k + 1) ∈ L
theorem lk_of {n : Nat} {N : Nat → ByteArray} {X Y : Nat → Int} {m : Nat} {M : Nat → ByteArray} {l : Nat → Nat} {S : Nat → Nat → ByteArray} (h : cerr n N X Y m M l S = 0) (fx : ByteArray) : Lk n N m l S fx (links l S fx m) where
  fix := fun _ hi => links_fix h (List.getElem_mem hi)
  back := fun _ hi => links_symm h (List.getElem_mem hi)
  ne := fun _ hi => links_ne h (List.getElem_mem hi)
  asc := fun i j hi hj hij => List.pairwise_iff_getElem.1 (links_asc l S fx m) i j hi hj hij
  all := fun a ha k hk e => (links_mem h).2 ⟨a, ha, k, hk, Or.inl ⟨e, rfl⟩⟩
set_option maxRecDepth 100000 in
set_option maxHeartbeats 8000000 in
theorem core_bad (fx aw : Value) (s : ByteArray) (E : Int) (w : World) (hE0 : E ≠ 0) (CW : Hid (∀ w1, Calls Try.prog 15 #[] w1 fun e w' => e = .returned (.bool true) ∧ Below w1.heap.size w1 w'))
    (LC : Hid (∀ w1, Below w.heap.size w w1 → Calls Try.prog 16 #[.agg #[fx, aw], .string s] w1 fun e w' => e = .returned (.tuple #[.slice none 0 0, .int .i64 E]) ∧ Below w1.heap.size w1 w')) :
    Calls Try.prog 4 #[.agg #[fx, aw], .string s] w fun e w' => e = .returned (.bool true) ∧ Below w.heap.size w w' := by
  have hE1 : (E != 0) = true := by simpa using hE0
  have hE2 : (E == 0) = false := by simpa using hE0
  clear hE0
  have W0 := Lib.hid (b_alloc (Below.refl w.heap.size w) (.cells #[fx, aw] 37))
  have BX := Lib.hid (p2v_new w 37 fx aw)
  go_enter Try.func4, Try.ntmps4
  go_wp2_with fail
  (with_reducible refine (CW.out _).mono ?_); rintro e w1 ⟨rfl, hb⟩
  have W1 := Lib.hid (b_next W0.out hb); obtain ⟨x0, x1⟩ := p2v_keep hb BX.out; clear hb
  go_wp2_with fail
  (with_reducible refine (LC.out _ W1.out).mono ?_); rintro e w2 ⟨rfl, hb⟩
  have W2 := Lib.hid (b_next W1.out hb); clear hb
  go_wp2_with fail
  go_ret
  exact ⟨by first | rfl | exact retb rfl, W2.out⟩
set_option maxRecDepth 100000 in
set_option maxHeartbeats 8000000 in
theorem core (fx : Value) (B : Option Addr) (n m ca : Nat) (N : Nat → ByteArray) (M : Nat → ByteArray) (l : Nat → Nat) (S : Nat → Nat → ByteArray) (s : ByteArray) (L : List ByteArray) (w : World) (hl24 : Hid (∀ k, k < m → l k ≤ 24)) (hm16 : m ≤ 16) (hL : L.length ≤ 32) (CW : Hid (∀ w1, Calls Try.prog 15 #[] w1 fun e w' => e = .returned (.bool true) ∧ Below w1.heap.size w1 w'))
    (HA : Hid (AV w (.slice B m ca) m M l S)) (K : Hid (Lk n N m l S s L))
    (LC : Hid (∀ w1, Below w.heap.size w w1 → Calls Try.prog 16 #[.agg #[fx, .slice B m ca], .string s] w1 fun e w' => (∃ v, e = .returned (.tuple #[v, .int .i64 0]) ∧ SL w' v L) ∧ Below w1.heap.size w1 w'))
    (LX : Hid (∀ w1 x, Below w.heap.size w w1 → 0 ≤ Chart.fix N x n → Calls Try.prog 16 #[.agg #[fx, .slice B m ca], .string x] w1 fun e w' => (∃ v, e = .returned (.tuple #[v, .int .i64 0]) ∧ SL w' v (links l S x m)) ∧ Below w1.heap.size w1 w')) :
    Calls Try.prog 4 #[.agg #[fx, .slice B m ca], .string s] w fun e w' => e = .returned (.bool true) ∧ Below w.heap.size w w' := by
  have W0 := Lib.hid (b_alloc (Below.refl w.heap.size w) (.cells #[fx, .slice B m ca] 37))
  have BX := Lib.hid (p2v_new w 37 fx (.slice B m ca))
  go_enter Try.func4, Try.ntmps4
  go_wp2_with fail
  obtain ⟨n0, hn0⟩ : ∃ n0, n0 = w.heap.size := ⟨_, rfl⟩
  rw [← hn0] at BX ⊢
  clear hn0
  (with_reducible refine (CW.out _).mono ?_); rintro e w1 ⟨rfl, hb⟩
  have W1 := Lib.hid (b_next W0.out hb); have BX1 := Lib.hid (p2v_keep hb BX.out); clear hb
  obtain ⟨x0, x1⟩ := BX1.out
  go_wp2_with fail
  (with_reducible refine (LC.out _ W1.out).mono ?_); rintro e w2 ⟨⟨v, rfl, hv⟩, hb⟩
  have W2 := Lib.hid (b_next W1.out hb); have BX2 := Lib.hid (p2v_keep hb BX1.out); have V2 := Lib.hid hv; clear hb x0 x1
  obtain ⟨A1, c1, rfl⟩ := sl_slice hv
  clear hv
  go_wp2_with fail
  go_loopw [29] (fun t wr => ∃ k : Nat, k ≤ L.length ∧ t = .int .i64 k ∧ Below w2.heap.size w2 wr) (fun t _ => L.length - (intOf t).toNat)
  case atStart => exact ⟨0, Nat.zero_le _, rfl, Below.refl _ _⟩
  case round =>
    obtain ⟨k, hk, rfl, hbl⟩ := hrel
    have BL := Lib.hid hbl; have WR := Lib.hid (b_next W2.out hbl); clear hbl
    obtain ⟨x0, x1⟩ := p2v_keep BL.out BX2.out
    by_cases hlt : k < L.length
    · have hl : (k : Int) < (L.length : Int) := by omega
      obtain ⟨b, off, c', e, hc1, hc2, hcs⟩ := sv_at (sl_keep BL.out V2.out) (by omega)
      injection e with e1 _ e3
      subst e1 e3
      have hc3 : c1 ≤ 9223372036854775807 := Nat.le_trans hc2 (by decide)
      have ck := hcs k hlt
      rw [List.getD_eq_getElem?_getD, List.getElem?_eq_getElem hlt] at ck
      have ck : wr.cell? ⟨b, off + k, none⟩ = some (.string L[k]) := ck
      have HF := Lib.hid (K.out.fix k hlt); have HB := Lib.hid (has_mem (K.out.back k hlt)); have HNE := K.out.ne k hlt
      have hne1 : (L[k].toList == s.toList) = false := by rw [seq_eq]; exact decide_eq_false HNE
      have HCS := Lib.hid hcs
      have AS := Lib.hid fun (P : Nat) (hP : P < L.length) (hPk : P < k) => K.out.asc P k hP hlt hPk
      clear hcs HNE
      have LXk := Lib.hid fun (w1 : World) (hb : Below wr.heap.size wr w1) => LX.out w1 L[k] (b_next WR.out hb) HF.out
      generalize hx : L[k] = x at *
      go_wp2_with fail
      (with_reducible refine (LXk.out _ (Below.refl _ _)).mono ?_); rintro e w3 ⟨⟨vb, rfl, hvb⟩, hb⟩
      have W3 := Lib.hid (b_next WR.out hb); have B3 := Lib.hid (b_next BL.out hb)
      have CB := Lib.hid (HasT.hasTC hvb s)
      have P3 := Lib.hid fun (P : Nat) (hP : P < L.length) => keep hb (HCS.out P hP)
      rw [HB.out] at CB
      clear hb hvb ck x0 x1
      go_wp2_with fail
      (with_reducible refine CB.out.mono ?_); rintro e w4 ⟨rfl, hb⟩
      have W4 := Lib.hid (b_next W3.out hb); have B4 := Lib.hid (b_next B3.out hb)
      by_cases h0 : 0 < k
      · have h0i : (0 : Int) < (k : Int) := by omega
        obtain ⟨P, hP⟩ : ∃ P, P = k - 1 := ⟨_, rfl⟩
        have hPl : P < L.length := by omega
        have cP := keep hb (P3.out P hPl)
        rw [List.getD_eq_getElem?_getD, List.getElem?_eq_getElem hPl] at cP
        have cP : w4.cell? ⟨b, off + P, none⟩ = some (.string L[P]) := cP
        have al := AS.out P hPl (by omega)
        have al2 : (!Op.bytesLess L[P].toList x.toList) = false := by rw [al]; rfl
        have u1 : IntKind.i64.wrap ((k : Int) - 1) = (P : Int) := by rw [IntWalk.i64_in _ (by omega)]; omega
        have u2 : ((k - 1 : Nat) : Int) = (P : Int) := by omega
        have u3 : (k : Int) - 1 = (P : Int) := by omega
        have hPi : (P : Int) < (L.length : Int) := by omega
        clear hb hP
        generalize L[P] = y at *
        go_wp2_with fail
        go_roundw
        case rel => exact ⟨k + 1, by omega, by go_num, B4.out⟩
        case measure => simp [intOf]; omega
      · have h0i : ¬ (0 : Int) < (k : Int) := by omega
        clear hb
        go_wp2_with fail
        go_roundw
        case rel => exact ⟨k + 1, by omega, by go_num, B4.out⟩
        case measure => simp [intOf]; omega
    · have hl : ¬ (k : Int) < (L.length : Int) := by omega
      have VR := Lib.hid (sl_keep BL.out V2.out)
      have BXR := Lib.hid (p2v_keep BL.out BX2.out)
      obtain ⟨wq, hwq⟩ : ∃ wq, wq = wr := ⟨_, rfl⟩
      rw [← hwq] at VR BXR WR x0 x1 ⊢
      clear hwq BL
      go_wp2_with fail
      go_loopw [70] (fun t wr => ∃ a : Nat, a ≤ m ∧ t = .int .i64 a ∧ Below wq.heap.size wq wr) (fun t _ => m - (intOf t).toNat)
      case atStart => exact ⟨0, Nat.zero_le _, rfl, Below.refl _ _⟩
      case round =>
        obtain ⟨a, ha, rfl, hbl⟩ := hrel
        have BA := Lib.hid hbl; have WA := Lib.hid (b_next WR.out hbl); clear hbl x0 x1
        by_cases hla : a < m
        · have hlai : (a : Int) < (m : Int) := by omega
          obtain ⟨b, off, c', e, hc1, hc2, h3⟩ := av_at (av_keep WA.out HA.out) (by omega)
          injection e with e1 _ e3
          subst e1 e3
          obtain ⟨ca0, u, ca1, hsv⟩ := h3 a hla
          obtain ⟨A2, c2, rfl⟩ := sv_slice hsv
          have hlk := hl24.out a hla
          have KA := Lib.hid (K.out.all a hla)
          have PB := Lib.hid (p2v_new wr 44 (.string (M a)) (.slice A2 (l a) c2))
          have BN := Lib.hid (b_next BA.out (b_alloc (Below.refl wr.heap.size wr) (.cells #[.string (M a), .slice A2 (l a) c2] 44)))
          have SVA := Lib.hid (sv_keep (b_alloc (Below.refl wr.heap.size wr) (.cells #[.string (M a), .slice A2 (l a) c2] 44)) hsv)
          obtain ⟨bn, hbn⟩ : ∃ bn, bn = wr.heap.size := ⟨_, rfl⟩
          clear h3 hsv
          go_wp2_with fail
          rw [← hbn] at PB ⊢
          clear ca0 ca1 hbn
          generalize wr.alloc (.cells #[.string (M a), .slice A2 (l a) c2] 44) = wa at *
          generalize l a = Lk at *
          generalize S a = Sk at *
          go_loopw [13] (fun t wr => ∃ i : Nat, 1 ≤ i ∧ t = .int .i64 i ∧ Below wa.heap.size wa wr) (fun t _ => Lk - (intOf t).toNat)
          case atStart => exact ⟨1, Nat.le_refl _, rfl, Below.refl _ _⟩
          case round =>
            obtain ⟨i, hi, rfl, hbl⟩ := hrel
            have BI := Lib.hid hbl; clear hbl
            obtain ⟨p0, p1⟩ := p2v_keep BI.out PB.out
            by_cases hli : i < Lk
            · have hlii : (i : Int) < (Lk : Int) := by omega
              obtain ⟨b2, off2, c3, e, hd1, hd2, hcs⟩ := sv_at (sv_keep BI.out SVA.out) (by omega)
              injection e with e1 _ e3
              subst e1 e3
              have hd3 : c2 ≤ 9223372036854775807 := Nat.le_trans hd2 (by decide)
              obtain ⟨P, hP⟩ : ∃ P, P = i - 1 := ⟨_, rfl⟩
              have cP := hcs P (by omega)
              have cI := hcs i hli
              have u1 : IntKind.i64.wrap ((i : Int) - 1) = (P : Int) := by rw [IntWalk.i64_in _ (by omega)]; omega
              have u2 : ((i - 1 : Nat) : Int) = (P : Int) := by omega
              have u3 : (i : Int) - 1 = (P : Int) := by omega
              have hPi : (P : Int) < (Lk : Int) := by omega
              have KI : Hid (Sk P = s → Sk i ∈ L) := Lib.hid fun e => by
                have := KA.out P (by omega) e
                rw [show P + 1 = i by omega] at this
                exact this
              have VI := Lib.hid (sl_keep (b_next BN.out BI.out) VR.out)
              clear hcs hP
              generalize Sk P = y at *
              generalize Sk i = z at *
              by_cases he : y = s
              · have q1 : (y.toList == s.toList) = true := by rw [seq_eq]; exact decide_eq_true he
                have CH := Lib.hid (HasT.hasTC VI.out z)
                rw [has_mem (KI.out he)] at CH
                clear he
                go_wp2_with fail
                (with_reducible refine CH.out.mono ?_); rintro e w5 ⟨rfl, hb⟩
                have B5 := Lib.hid (b_next BI.out hb); clear hb
                go_wp2_with fail
                go_roundw
                case rel => exact ⟨i + 1, by omega, by go_num, B5.out⟩
                case measure => simp [intOf]; omega
              · have q1 : (y.toList == s.toList) = false := by rw [seq_eq]; exact decide_eq_false he
                clear he
                go_wp2_with fail
                go_roundw
                case rel => exact ⟨i + 1, by omega, by go_num, BI.out⟩
                case measure => simp [intOf]; omega
            · have hlii : ¬ (i : Int) < (Lk : Int) := by omega
              have BE := Lib.hid (b_next BN.out BI.out)
              go_wp2_with fail
              go_roundw
              case rel => exact ⟨a + 1, by omega, by go_num, BE.out⟩
              case measure => simp [intOf]; omega
        · have hlai : ¬ (a : Int) < (m : Int) := by omega
          go_wp2_with fail
          go_ret
          exact ⟨by first | rfl | exact retb rfl, WA.out⟩
theorem walk (c_fixes : Value) (c_airways : Value) (fix : ByteArray) (W : World) (h_c_fixes : Frame.Okc W (.sl [.str, .int, .int]) c_fixes) (h_c_airways : Frame.Okc W (.sl [.str, .sl [.str]]) c_airways) (_h_fix : fix.size ≤ maxLen) :
    Calls Try.prog 4 #[.agg #[c_fixes, c_airways], .string fix] W fun e w' => e = .returned (.bool true) ∧ Below W.heap.size W w' := by
  obtain ⟨n, N, X, Y, m, M, l, S, hv⟩ := cv_of h_c_fixes h_c_airways
  have CW := fun w1 => chartWorks w1
  by_cases hE : cerr n N X Y m M l S = 0
  · by_cases hf : 0 ≤ Chart.fix N fix n
    · obtain ⟨fx, aw, e, h1, h2⟩ := hv.ex
      injection e with e
      injection e with e
      injection e with e1 e2
      injection e2 with e2
      subst e1 e2
      obtain ⟨B, ca, rfl⟩ := av_slice h2
      have ok := cerr_ok hE
      exact core c_fixes B n m ca N M l S fix _ W (Lib.hid fun k hk => (aerr_len (ok.2.2.2 k hk)).2.2.2.2.1) ok.2.1 (Nat.le_trans links_len (by have := ok.2.1; omega)) (Lib.hid CW) (Lib.hid h2) (Lib.hid (lk_of hE fix))
        (Lib.hid fun w1 hb => links_yes (cv_keep hb hv) hE hf) (Lib.hid fun w1 x hb hx => links_yes (cv_keep hb hv) hE hx)
    · refine core_bad c_fixes c_airways fix 6 W (by decide) (Lib.hid CW) (Lib.hid fun w1 hb => (linksC (cv_keep hb hv) fix).mono ?_)
      rintro e w' ⟨h, hb'⟩
      refine ⟨?_, hb'⟩
      rcases h with ⟨E, -, e1, e2, -⟩ | ⟨-, h2, -⟩
      · rw [if_neg (fun q => q hE)] at e2
        rw [e1, e2]
      · exact absurd h2 hf
  · refine core_bad c_fixes c_airways fix _ W hE (Lib.hid CW) (Lib.hid fun w1 hb => (linksC (cv_keep hb hv) fix).mono ?_)
    rintro e w' ⟨h, hb'⟩
    refine ⟨?_, hb'⟩
    rcases h with ⟨E, -, e1, e2, -⟩ | ⟨h2, -, -⟩
    · rw [if_pos hE] at e2
      rw [e1, e2]
    · exact absurd h2 hE
-- FRAME --

set_option maxRecDepth 100000 in
theorem lifted (os : Os) (started : os.Started) (H : Type) (enc : TypeId × Value → H) :
    ReturnsInHanded {} Try.checked os 4 .any (Rows.chartLinksSpec.pre6 enc Try.prog Try.f4 Rows.chartLinksRow.domain false) (Rows.chartLinksSpec.post enc Try.prog Try.f4 false true false false) :=
  Frame.lifted (C := Try.checked) 4 Try.f4 Try.own started (by kernel_rfl) Try.func4 Try.laidOut rfl (by kernel_rfl) 4 rfl Try.underlying4
      (fun ds h => by match ds, h with | [_, _], _ => rfl)
      (ChangeSpec.witness6 (enc := enc) (C := Try.checked) false ⟨#[], #[.agg #[.slice none 0 0, .slice none 0 0], .string ⟨#[]⟩], []⟩ 8 (by kernel_rfl) (by kernel_rfl) (by kernel_rfl) (by kernel_rfl))
      (fun W base args ds ps hval0 hA _ => by
        have hval : ∀ (j : Nat) t v, Try.f4.params[j]? = some t → args[j]? = some v → Value.okWide Try.prog W .any base t v := hval0
        have hA' : DataW.TrodAll enc Try.prog W 0 (fun _ => true) true Try.f4.params.toList args.toList ds ps := hA
        clear hval0 hA
        have hA := hA'
        clear hA'
        rw [Try.params4] at hA hval
        obtain ⟨v0, vs0, d0, ds0, p0, q0, ea, rfl, rfl, tr0, rest0⟩ := trodAll_cons hA
        obtain ⟨v1, vs1, d1, ds1, p1, q1, rfl, rfl, rfl, tr1, rest1⟩ := trodAll_cons rest0
        obtain ⟨rfl, rfl, rfl⟩ := trodAll_nil rest1
        obtain rfl : args = #[v0, v1] := by cases args; simp_all
        clear ea
        obtain ⟨cs_c, e_c, hl_c, hc_c⟩ := Frame.arg_agg Try.underlying37 (k := 8) (ks := [.sl [.str, .int, .int], .sl [.str, .sl [.str]]]) (by kernel_rfl) (hval 0 _ v0 rfl rfl) tr0
        subst e_c
        obtain ⟨c_c_fixes, c_c_airways, rfl⟩ : ∃ c_c_fixes c_c_airways, cs_c = [c_c_fixes, c_c_airways] := by match cs_c, hl_c with | [x0, x1], _ => exact ⟨x0, x1, rfl⟩
        have o_c_fixes : Frame.Okc W (.sl [.str, .int, .int]) c_c_fixes := hc_c 0 (by decide) (by simp)
        have o_c_airways : Frame.Okc W (.sl [.str, .sl [.str]]) c_c_airways := hc_c 1 (by decide) (by simp)
        obtain ⟨fix, e_fix⟩ := okWide_string Try.underlying9 (hval 1 _ v1 rfl rfl)
        subst e_fix
        obtain ⟨fix', e_fix, z_fix⟩ := (Frame.arg_cell (k := 8) (kd := .str) (by kernel_rfl) rfl tr1).str_inv
        obtain rfl : fix = fix' := by injection e_fix
        exact walk c_c_fixes c_c_airways fix W o_c_fixes o_c_airways z_fix)

/-- The statement. -/
theorem proved : Rows.ChartLinksSaid :=
  OpenClaim.holds_of_wide 4 Try.f4 rfl rfl rfl rfl rfl rfl rfl ⟨rfl, rfl, rfl, rfl, rfl⟩ rfl rfl rfl rfl rfl (by kernel_rfl) Try.func4 (by kernel_rfl)
    (of_decide_eq_true (by kernel_rfl)) (by unfold Func.isWrapper; first | (rw [if_pos (by decide +kernel)]; kernel_rfl) | (rw [if_neg (by decide +kernel)]; exact ⟨rfl, rfl⟩))
    (fun os started H enc _ => lifted os started H enc)
#print axioms proved
end ChartLinks
end Go.Proofs.Ytokioemmjfjhkaa

