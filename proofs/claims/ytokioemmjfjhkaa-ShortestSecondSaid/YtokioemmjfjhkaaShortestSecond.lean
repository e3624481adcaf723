/- ShortestSecond: the second way is another way, and not shorter. For every input, with no condition. -/
import Derived.Test.YtokioemmjfjhkaaNetZ
import Derived.Test.YtokioemmjfjhkaaChO
import Derived.Test.YtokioemmjfjhkaaShapes
namespace Go.Proofs.Ytokioemmjfjhkaa
open Go.RowKit Go.ChangeShapes Go.WideShapes
namespace ShortestSecond
open Kit Plane Chart Route Lnk Net Short
set_option maxRecDepth 100000 in
set_option maxHeartbeats 8000000 in
theorem core_bad (fx aw : Value) (s t : ByteArray) (E : Int) (w : World) (hE0 : E ≠ 0) (WK : Hid (∀ w1, Calls Try.prog 18 #[] w1 fun e w' => e = .returned (.bool true) ∧ Below w1.heap.size w1 w'))
    (PT : Hid (∀ w1, Below w.heap.size w w1 → PaC (.agg #[fx, aw]) s t w1 fun e _ => ∃ E1 : Int, e = .returned (.tuple #[.slice none 0 0, .int .i64 0, .int .i64 E1])))
    (SE : Hid (∀ w1, Below w.heap.size w w1 → SeC (.agg #[fx, aw]) s t w1 fun e _ => e = .returned (.tuple #[.slice none 0 0, .int .i64 0, .int .i64 E]))) :
    Calls Try.prog 6 #[.agg #[fx, aw], .string s, .string t] w fun e w' => e = .returned (.bool true) ∧ Below w.heap.size w w' := by
  have hE1 : (E != 0) = true := by simpa using hE0
  have hE2 : (E == 0) = false := by simpa using hE0
  clear hE0
  have W0 := Lib.hid (b_alloc (Below.refl w.heap.size w) (.cells #[fx, aw] 37))
  have BX := Lib.hid (p2v_new w 37 fx aw)
  go_enter Try.func6, Try.ntmps6
  go_wp2_with fail
  obtain ⟨n0, hn0⟩ : ∃ n0, n0 = w.heap.size := ⟨_, rfl⟩
  rw [← hn0] at BX ⊢
  clear hn0
  (with_reducible refine (WK.out _).mono ?_); rintro e w1 ⟨rfl, hb⟩
  have W1 := Lib.hid (b_next W0.out hb); have BX1 := Lib.hid (p2v_keep hb BX.out); clear hb
  obtain ⟨x0, x1⟩ := BX1.out
  go_wp2_with fail
  (with_reducible refine (PT.out _ W1.out).mono ?_); rintro e w2 ⟨⟨E1, rfl⟩, hb⟩
  have W2 := Lib.hid (b_next W1.out hb); clear x0 x1; obtain ⟨x0, x1⟩ := p2v_keep hb BX1.out; clear hb
  go_wp2_with fail
  (with_reducible refine (SE.out _ W2.out).mono ?_); rintro e w3 ⟨rfl, hb⟩
  have W3 := Lib.hid (b_next W2.out hb); clear hb
  go_wp2_with fail
  go_ret
  exact ⟨by first | rfl | exact retb rfl, W3.out⟩
/-- Two ways are the same if their names are. -/
theorem same_way {T : Nat → ByteArray} {n : Nat} (hT : Srt T n) {a : Nat} {z q : List Nat} (h1 : ∀ k, k ≤ z.length → at' a z k < n) (h2 : ∀ k, k ≤ q.length → at' a q k < n) (h : sameB (z.length + 1) (fun k => (nms T (fun i => (a :: z).getD i 0) (z.length + 1)).getD k ⟨#[]⟩) (q.length + 1) (fun k => (nms T (fun i => (a :: q).getD i 0) (q.length + 1)).getD k ⟨#[]⟩) = true) : q = z := by
  unfold sameB at h
  rw [Bool.and_eq_true, decide_eq_true_iff, allB_iff] at h
  obtain ⟨hl, hk⟩ := h
  have hl : z.length = q.length := by omega
  apply List.ext_getElem hl.symm
  intro i hi1 hi2
  have e := of_decide_eq_true (hk (i + 1) (by omega))
  dsimp only at e
  rw [nms_at _ _ (show i + 1 < z.length + 1 by omega), nms_at _ _ (show i + 1 < q.length + 1 by omega)] at e
  have e2 := srt_inj hT (h1 (i + 1) (by omega)) (h2 (i + 1) (by omega)) e
  unfold at' at e2
  rw [List.getD_cons_succ, List.getD_cons_succ, List.getD_eq_getElem?_getD, List.getD_eq_getElem?_getD, List.getElem?_eq_getElem hi2, List.getElem?_eq_getElem hi1] at e2
  exact e2.symm
theorem mem_lt {G : Gr} {B : Int} (hG : G.Ok B) {a : Nat} (ha : a < G.N) {z : List Nat} (hc : chn G a z) : ∀ k, k ≤ z.length → at' a z k < G.N := fun k hk => by
  rcases List.mem_cons.1 (at_mem (a := a) hk) with e | e
  · rw [e]; exact ha
  · exact chn_lt hG z a ha hc _ e
set_option maxRecDepth 100000 in
set_option maxHeartbeats 16000000 in
theorem core (fx aw : Value) (s t : ByteArray) (a b : Nat) (G : Gr) (T : Nat → ByteArray) (w : World) (hG : G.Ok 10000000) (ha : a < G.N) (hT : Hid (Srt T G.N)) (hs : Hid (T a = s)) (ht : Hid (T b = t)) (WK : Hid (∀ w1, Calls Try.prog 18 #[] w1 fun e w' => e = .returned (.bool true) ∧ Below w1.heap.size w1 w'))
    (PT : Hid (∀ w1, Below w.heap.size w w1 → PaC (.agg #[fx, aw]) s t w1 fun e w' => ∃ u z k, e = .returned (.tuple #[u, .int .i64 k, .int .i64 0]) ∧ SL w' u (nms T (fun i => (a :: z).getD i 0) (z.length + 1)) ∧ BestO G a b noc (-1) z k))
    (SE : Hid (∀ w1, Below w.heap.size w w1 → SeC (.agg #[fx, aw]) s t w1 (SecR G T a b)))
    (WY : Hid (∀ w1 v q, Below w.heap.size w w1 → chn G a q → (a :: q).Nodup → SL w1 v (nms T (fun i => (a :: q).getD i 0) (q.length + 1)) → Calls Try.prog 23 #[.agg #[fx, aw], v] w1 fun e w' => e = .returned (.tuple #[.bool true, .int .i64 0]) ∧ Below w1.heap.size w1 w')) :
    Calls Try.prog 6 #[.agg #[fx, aw], .string s, .string t] w fun e w' => e = .returned (.bool true) ∧ Below w.heap.size w w' := by
  have GO := Lib.hid hG
  have W0 := Lib.hid (b_alloc (Below.refl w.heap.size w) (.cells #[fx, aw] 37))
  have BX := Lib.hid (p2v_new w 37 fx aw)
  go_enter Try.func6, Try.ntmps6
  go_wp2_with fail
  obtain ⟨n0, hn0⟩ : ∃ n0, n0 = w.heap.size := ⟨_, rfl⟩
  rw [← hn0] at BX ⊢
  clear hn0
  (with_reducible refine (WK.out _).mono ?_); rintro e w1 ⟨rfl, hb⟩
  have W1 := Lib.hid (b_next W0.out hb); have BX1 := Lib.hid (p2v_keep hb BX.out); clear hb
  obtain ⟨x0, x1⟩ := BX1.out
  go_wp2_with fail
  (with_reducible refine (PT.out _ W1.out).mono ?_); rintro e w2 ⟨⟨u, z, k, rfl, hu, hz⟩, hb⟩
  obtain ⟨RU, hRU⟩ : ∃ R, R = (nms T (fun i => (a :: z).getD i 0) (z.length + 1)).length := ⟨_, rfl⟩
  obtain ⟨Au, cu, hue⟩ := sl_slice hu
  rw [← hRU] at hue
  subst hue
  have W2 := Lib.hid (b_next W1.out hb); have BX2 := Lib.hid (p2v_keep hb BX1.out); have U2 := Lib.hid hu; have HZ := Lib.hid hz; clear hb x0 x1 hz hu hRU
  obtain ⟨x0, x1⟩ := BX2.out
  go_wp2_with fail
  (with_reducible refine (SE.out _ W2.out).mono ?_); rintro e w3 ⟨hr, hb⟩
  have W3 := Lib.hid (b_next W2.out hb); have BX3 := Lib.hid (p2v_keep hb BX2.out); have U3 := Lib.hid (sl_keep hb U2.out); clear hb x0 x1
  rcases hr with ⟨v, n2, q, z', k', rfl, hv, hz', hq⟩ | rfl
  · obtain rfl := one_same GO.out ha HZ.out hz'
    clear hz'
    have hq0 : 0 < q.length := by
      rcases Nat.eq_zero_or_pos q.length with h0 | h0
      · exfalso
        have e0 : q = [] := List.length_eq_zero_iff.1 h0
        subst e0
        have hab : a = b := hq.fin
        have zn : z = [] := Classical.byContradiction fun hne => fin_ne HZ.out.is.nodup hne (HZ.out.is.fin.trans hab.symm)
        exact hq.other zn.symm
      · exact h0
    have hkn : k ≤ n2 := by have := best_le GO.out ha HZ.out.toBest hq.chn hq.fin; rw [hq.len] at this; exact this
    have hkn1 : ¬ n2 < k := by omega
    have hv2 := hv
    unfold SL at hv2
    rw [nms_len] at hv2
    obtain ⟨vb, vo, vc, rfl, hc1, hc2, hcl⟩ := sv_at0 hv2 (Nat.succ_pos _)
    have hvc : vc ≤ 9223372036854775807 := Nat.le_trans hc2 (by decide)
    have c0 := hcl 0 (Nat.succ_pos _)
    have cP := hcl q.length (Nat.lt_succ_self _)
    rw [nms_at _ _ (Nat.succ_pos _)] at c0
    rw [nms_at _ _ (Nat.lt_succ_self _)] at cP
    have e0 : T ((a :: q).getD 0 0) = s := hs.out
    have eP : T ((a :: q).getD q.length 0) = t := by
      have e := fin_at q a
      rw [hq.fin] at e
      show T (at' a q q.length) = t
      rw [← e]; exact ht.out
    rw [e0, Nat.add_zero] at c0
    rw [eP] at cP
    have C0 := Lib.hid c0; have CP := Lib.hid cP
    have hff : sameB (z.length + 1) (fun k => (nms T (fun i => (a :: z).getD i 0) (z.length + 1)).getD k ⟨#[]⟩) (q.length + 1) (fun k => (nms T (fun i => (a :: q).getD i 0) (q.length + 1)).getD k ⟨#[]⟩) = false := by
      cases e : sameB (z.length + 1) (fun k => (nms T (fun i => (a :: z).getD i 0) (z.length + 1)).getD k ⟨#[]⟩) (q.length + 1) (fun k => (nms T (fun i => (a :: q).getD i 0) (q.length + 1)).getD k ⟨#[]⟩) with
      | false => rfl
      | true => exact absurd (same_way hT.out (mem_lt GO.out ha HZ.out.is.chn) (mem_lt GO.out ha hq.chn) e) hq.other
    have WYq := Lib.hid fun (w1 : World) (h : Below w3.heap.size w3 w1) => WY.out w1 _ q (b_next W3.out h) hq.chn hq.nodup (sl_keep h hv)
    have SAM := Lib.hid fun (w1 : World) (h : Below w3.heap.size w3 w1) => show Calls Try.prog 24 #[.slice Au RU cu, .slice (some ⟨vb, vo, none⟩) (q.length + 1) vc] w1 (fun e w' => e = .returned (.bool false) ∧ Below w1.heap.size w1 w') from by
      have u4 := sl_keep h U3.out
      unfold SL at u4
      have q4 := sameC u4 (sv_keep h hv2)
      rw [nms_len, hff] at q4
      exact q4
    obtain ⟨R, hR⟩ : ∃ R, R = q.length + 1 := ⟨_, rfl⟩
    obtain ⟨P, hP⟩ : ∃ P, P = q.length := ⟨_, rfl⟩
    rw [← hR] at WYq SAM ⊢
    rw [← hP] at CP
    have r1 : (1 : Int) < (R : Int) := by omega
    have r0 : (0 : Int) < (R : Int) := by omega
    have r2 : (R : Int) - 1 = (P : Int) := by omega
    have r3 : (P : Int) < (R : Int) := by omega
    have r4 : R ≤ vc := by omega
    clear hv hq hv2 hcl c0 cP e0 eP hff hR hP hq0 hc1
    obtain ⟨x0, x1⟩ := BX3.out
    go_wp2_with fail
    (with_reducible refine (WYq.out _ (Below.refl _ _)).mono ?_); rintro e w4 ⟨rfl, hb⟩
    have W4 := Lib.hid (b_next W3.out hb)
    have c0 := keep hb C0.out; have cP := keep hb CP.out; have SM := Lib.hid (SAM.out w4 hb)
    clear hb x0 x1
    go_wp2_with fail
    (with_reducible refine SM.out.mono ?_); rintro e w5 ⟨rfl, hb⟩
    have W5 := Lib.hid (b_next W4.out hb)
    clear hb
    go_wp2_with fail
    all_goals (go_ret; exact ⟨by first | rfl | exact retb rfl, W5.out⟩)
  · go_wp2_with fail
    go_ret
    exact ⟨by first | rfl | exact retb rfl, W3.out⟩
theorem walk (c_fixes : Value) (c_airways : Value) (fr tt : ByteArray) (W : World) (h_c_fixes : Frame.Okc W (.sl [.str, .int, .int]) c_fixes) (h_c_airways : Frame.Okc W (.sl [.str, .sl [.str]]) c_airways) (_h_fr : fr.size ≤ maxLen) (_h_tt : tt.size ≤ maxLen) :
    Calls Try.prog 6 #[.agg #[c_fixes, c_airways], .string fr, .string tt] W fun e w' => e = .returned (.bool true) ∧ Below W.heap.size W w' := by
  obtain ⟨n, N, X, Y, m, M, l, S, hv⟩ := cv_of h_c_fixes h_c_airways
  have hv0 := hv
  obtain ⟨fx, aw, e, h1, h2⟩ := hv.ex
  injection e with e
  injection e with e
  injection e with e1 e2
  injection e2 with e2
  subst e1 e2
  rcases pathC hv0 fr tt with ⟨hE, hP⟩ | ⟨h0, a, b, hB, hP⟩
  · rcases secondC hv0 fr tt with ⟨-, hS⟩ | ⟨h0, -⟩
    · exact core_bad c_fixes c_airways fr tt _ W hE (Lib.hid works) (Lib.hid fun w1 hb => (hP w1 hb).mono (by rintro e w' ⟨rfl, hb⟩; exact ⟨⟨_, rfl⟩, hb⟩)) (Lib.hid hS)
    · exact absurd h0 hE
  · rcases secondC hv0 fr tt with ⟨hE, -⟩ | ⟨-, a', b', hB', hS⟩
    · exact absurd h0 hE
    · obtain ⟨rfl, rfl⟩ := hB.same hB'
      have h := hB.chart
      have hla := hB.la
      rcases hP with ⟨z0, k0, hb0, hP⟩ | ⟨hno, hP⟩
      · exact core c_fixes c_airways fr tt a b (gr n N X Y m l S) (gS n N) W (gr_ok h) hla (Lib.hid (gS_srt (once h))) (Lib.hid hB.ea) (Lib.hid hB.eb) (Lib.hid works) (Lib.hid hP) (Lib.hid hS)
          (Lib.hid fun w1 v q hb hc hn hs => wayK (cv_keep hb hv0) h hla hc hn hs)
      · refine core_bad c_fixes c_airways fr tt 8 W (by decide) (Lib.hid works) (Lib.hid fun w1 hb => (hP w1 hb).mono (by rintro e w' ⟨rfl, hb⟩; exact ⟨⟨_, rfl⟩, hb⟩)) (Lib.hid fun w1 hb => (hS w1 hb).mono ?_)
        rintro e w' ⟨hr, hb⟩
        refine ⟨?_, hb⟩
        rcases hr with ⟨v, n2, q, z', k', -, -, hz', -⟩ | hr
        · exact absurd hz'.is (hno z')
        · exact hr
-- FRAME --

set_option maxRecDepth 100000 in
theorem lifted (os : Os) (started : os.Started) (H : Type) (enc : TypeId × Value → H) :
    ReturnsInHanded {} Try.checked os 6 .any (Rows.shortestSecondSpec.pre6 enc Try.prog Try.f6 Rows.shortestSecondRow.domain false) (Rows.shortestSecondSpec.post enc Try.prog Try.f6 false true false false) :=
  Frame.lifted (C := Try.checked) 6 Try.f6 Try.own started (by kernel_rfl) Try.func6 Try.laidOut rfl (by kernel_rfl) 4 rfl Try.underlying4
      (fun ds h => by match ds, h with | [_, _, _], _ => rfl)
      (ChangeSpec.witness6 (enc := enc) (C := Try.checked) false ⟨#[], #[.agg #[.slice none 0 0, .slice none 0 0], .string ⟨#[]⟩, .string ⟨#[]⟩], []⟩ 8 (by kernel_rfl) (by kernel_rfl) (by kernel_rfl) (by kernel_rfl))
      (fun W base args ds ps hval0 hA _ => by
        have hval : ∀ (j : Nat) t v, Try.f6.params[j]? = some t → args[j]? = some v → Value.okWide Try.prog W .any base t v := hval0
        have hA' : DataW.TrodAll enc Try.prog W 0 (fun _ => true) true Try.f6.params.toList args.toList ds ps := hA
        clear hval0 hA
        have hA := hA'
        clear hA'
        rw [Try.params6] at hA hval
        obtain ⟨v0, vs0, d0, ds0, p0, q0, ea, rfl, rfl, tr0, rest0⟩ := trodAll_cons hA
        obtain ⟨v1, vs1, d1, ds1, p1, q1, rfl, rfl, rfl, tr1, rest1⟩ := trodAll_cons rest0
        obtain ⟨v2, vs2, d2, ds2, p2, q2, rfl, rfl, rfl, tr2, rest2⟩ := trodAll_cons rest1
        obtain ⟨rfl, rfl, rfl⟩ := trodAll_nil rest2
        obtain rfl : args = #[v0, v1, v2] := by cases args; simp_all
        clear ea
        obtain ⟨cs_c, e_c, hl_c, hc_c⟩ := Frame.arg_agg Try.underlying37 (k := 8) (ks := [.sl [.str, .int, .int], .sl [.str, .sl [.str]]]) (by kernel_rfl) (hval 0 _ v0 rfl rfl) tr0
        subst e_c
        obtain ⟨c_c_fixes, c_c_airways, rfl⟩ : ∃ c_c_fixes c_c_airways, cs_c = [c_c_fixes, c_c_airways] := by match cs_c, hl_c with | [x0, x1], _ => exact ⟨x0, x1, rfl⟩
        have o_c_fixes : Frame.Okc W (.sl [.str, .int, .int]) c_c_fixes := hc_c 0 (by decide) (by simp)
        have o_c_airways : Frame.Okc W (.sl [.str, .sl [.str]]) c_c_airways := hc_c 1 (by decide) (by simp)
        obtain ⟨fr, e_fr⟩ := okWide_string Try.underlying9 (hval 1 _ v1 rfl rfl)
        subst e_fr
        obtain ⟨fr', e_fr, z_fr⟩ := (Frame.arg_cell (k := 8) (kd := .str) (by kernel_rfl) rfl tr1).str_inv
        obtain rfl : fr = fr' := by injection e_fr
        obtain ⟨tt, e_tt⟩ := okWide_string Try.underlying9 (hval 2 _ v2 rfl rfl)
        subst e_tt
        obtain ⟨tt', e_tt, z_tt⟩ := (Frame.arg_cell (k := 8) (kd := .str) (by kernel_rfl) rfl tr2).str_inv
        obtain rfl : tt = tt' := by injection e_tt
        exact walk c_c_fixes c_c_airways fr tt W o_c_fixes o_c_airways z_fr z_tt)

/-- The statement. -/
theorem proved : Rows.ShortestSecondSaid :=
  OpenClaim.holds_of_wide 6 Try.f6 rfl rfl rfl rfl rfl rfl rfl ⟨rfl, rfl, rfl, rfl, rfl⟩ rfl rfl rfl rfl rfl (by kernel_rfl) Try.func6 (by kernel_rfl)
    (of_decide_eq_true (by kernel_rfl)) (by unfold Func.isWrapper; first | (rw [if_pos (by decide +kernel)]; kernel_rfl) | (rw [if_neg (by decide +kernel)]; exact ⟨rfl, rfl⟩))
    (fun os started H enc _ => lifted os started H enc)
#print axioms proved
end ShortestSecond
end Go.Proofs.Ytokioemmjfjhkaa

