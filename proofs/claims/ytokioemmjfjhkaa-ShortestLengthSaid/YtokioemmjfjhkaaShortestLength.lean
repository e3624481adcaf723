/- ShortestLength: the length of the shortest way is that of its fixes, the way is one, and the way back is as long. For every input, with no condition. -/
import Derived.Test.YtokioemmjfjhkaaNetZ
import Derived.Test.YtokioemmjfjhkaaChO
import Derived.Test.YtokioemmjfjhkaaShapes
namespace Go.Proofs.Ytokioemmjfjhkaa
open Go.RowKit Go.ChangeShapes Go.WideShapes
namespace ShortestLength
open Kit Plane Chart Route Lnk Net Short
set_option maxRecDepth 100000 in
set_option maxHeartbeats 8000000 in
theorem core_bad (fx aw : Value) (s t : ByteArray) (E : Int) (w : World) (hE0 : E ≠ 0) (WK : Hid (∀ w1, Calls Try.prog 18 #[] w1 fun e w' => e = .returned (.bool true) ∧ Below w1.heap.size w1 w'))
    (P1 : Hid (∀ w1, Below w.heap.size w w1 → PaC (.agg #[fx, aw]) s t w1 fun e _ => e = .returned (.tuple #[.slice none 0 0, .int .i64 0, .int .i64 E])))
    (P2 : Hid (∀ w1, Below w.heap.size w w1 → PaC (.agg #[fx, aw]) t s w1 fun e _ => e = .returned (.tuple #[.slice none 0 0, .int .i64 0, .int .i64 E]))) :
    Calls Try.prog 7 #[.agg #[fx, aw], .string s, .string t] w fun e w' => e = .returned (.bool true) ∧ Below w.heap.size w w' := by
  have hE1 : (E != 0) = true := by simpa using hE0
  have hE2 : (E == 0) = false := by simpa using hE0
  clear hE0
  have W0 := Lib.hid (b_alloc (Below.refl w.heap.size w) (.cells #[fx, aw] 37))
  have BX := Lib.hid (p2v_new w 37 fx aw)
  go_enter Try.func7, Try.ntmps7
  go_wp2_with fail
  obtain ⟨n0, hn0⟩ : ∃ n0, n0 = w.heap.size := ⟨_, rfl⟩
  rw [← hn0] at BX ⊢
  clear hn0
  (with_reducible refine (WK.out _).mono ?_); rintro e w1 ⟨rfl, hb⟩
  have W1 := Lib.hid (b_next W0.out hb); have BX1 := Lib.hid (p2v_keep hb BX.out); clear hb
  obtain ⟨x0, x1⟩ := BX1.out
  go_wp2_with fail
  (with_reducible refine (P1.out _ W1.out).mono ?_); rintro e w2 ⟨rfl, hb⟩
  have W2 := Lib.hid (b_next W1.out hb); clear x0 x1; obtain ⟨x0, x1⟩ := p2v_keep hb BX1.out; clear hb
  go_wp2_with fail
  (with_reducible refine (P2.out _ W2.out).mono ?_); rintro e w3 ⟨rfl, hb⟩
  have W3 := Lib.hid (b_next W2.out hb); clear hb
  go_wp2_with fail
  go_ret
  exact ⟨by first | rfl | exact retb rfl, W3.out⟩
set_option maxRecDepth 100000 in
set_option maxHeartbeats 16000000 in
theorem core (A : Option Addr) (n cf : Nat) (aw : Value) (s t : ByteArray) (N : Nat → ByteArray) (X Y : Nat → Int) (LL : List Nat → List ByteArray) (B1 : List Nat → Int → Prop) (B2 : Int → Prop) (Q : (Nat → Int) → Prop) (w : World) (hn0 : 0 < n) (hn : n ≤ 64) (WK : Hid (∀ w1, Calls Try.prog 18 #[] w1 fun e w' => e = .returned (.bool true) ∧ Below w1.heap.size w1 w'))
    (HF : Hid (FV w (.slice A n cf) n N X Y))
    (P1 : Hid (∀ w1, Below w.heap.size w w1 → PaC (.agg #[.slice A n cf, aw]) s t w1 fun e w' => ∃ u z k, e = .returned (.tuple #[u, .int .i64 k, .int .i64 0]) ∧ SL w' u (LL z) ∧ B1 z k))
    (P2 : Hid (∀ w1, Below w.heap.size w w1 → PaC (.agg #[.slice A n cf, aw]) t s w1 fun e _ => ∃ u k, e = .returned (.tuple #[u, .int .i64 k, .int .i64 0]) ∧ B2 k))
    (BB : Hid (∀ z k k', B1 z k → B2 k' → k' = k))
    (LN : Hid (∀ z k, B1 z k → ∀ w1 v, Below w.heap.size w w1 → SL w1 v (LL z) → Calls Try.prog 20 #[.agg #[.slice A n cf, aw], v] w1 fun e w' => e = .returned (.tuple #[.int .i64 k, .int .i64 0]) ∧ Below w1.heap.size w1 w'))
    (WY : Hid (∀ z k, B1 z k → ∀ w1 v, Below w.heap.size w w1 → SL w1 v (LL z) → Calls Try.prog 23 #[.agg #[.slice A n cf, aw], v] w1 fun e w' => e = .returned (.tuple #[.bool true, .int .i64 0]) ∧ Below w1.heap.size w1 w'))
    (LE : Hid (∀ w1, Below w.heap.size w w1 → LsC (.agg #[.slice A n cf, aw]) s w1 fun e w' => ∃ u, e = .returned (.tuple #[u, .int .i64 0]) ∧ ∃ F, IV w' u n F ∧ Q F))
    (HQ : Hid (∀ F, Q F → ∀ z k, B1 z k → ∀ x, x < n → N x = t → F x = k)) :
    Calls Try.prog 7 #[.agg #[.slice A n cf, aw], .string s, .string t] w fun e w' => e = .returned (.bool true) ∧ Below w.heap.size w w' := by
  have W0 := Lib.hid (b_alloc (Below.refl w.heap.size w) (.cells #[.slice A n cf, aw] 37))
  have BX := Lib.hid (p2v_new w 37 (.slice A n cf) aw)
  go_enter Try.func7, Try.ntmps7
  go_wp2_with fail
  obtain ⟨n0, hn0⟩ : ∃ n0, n0 = w.heap.size := ⟨_, rfl⟩
  rw [← hn0] at BX ⊢
  clear hn0
  (with_reducible refine (WK.out _).mono ?_); rintro e w1 ⟨rfl, hb⟩
  have W1 := Lib.hid (b_next W0.out hb); have BX1 := Lib.hid (p2v_keep hb BX.out); clear hb
  obtain ⟨x0, x1⟩ := BX1.out
  go_wp2_with fail
  (with_reducible refine (P1.out _ W1.out).mono ?_); rintro e w2 ⟨⟨u, z, k, rfl, hu, hz⟩, hb⟩
  have W2 := Lib.hid (b_next W1.out hb); have BX2 := Lib.hid (p2v_keep hb BX1.out); have U2 := Lib.hid hu; have HZ := Lib.hid hz; clear hb x0 x1 hz
  obtain ⟨Au, cu, rfl⟩ := sl_slice hu
  clear hu
  obtain ⟨x0, x1⟩ := BX2.out
  go_wp2_with fail
  (with_reducible refine (P2.out _ W2.out).mono ?_); rintro e w3 ⟨⟨u', k', rfl, hz⟩, hb⟩
  have W3 := Lib.hid (b_next W2.out hb); have BX3 := Lib.hid (p2v_keep hb BX2.out); have U3 := Lib.hid (sl_keep hb U2.out); have e := BB.out z k k' HZ.out hz
  subst e
  clear hb x0 x1 hz
  have LNz := Lib.hid (LN.out z k' HZ.out); have WYz := Lib.hid (WY.out z k' HZ.out)
  obtain ⟨x0, x1⟩ := BX3.out
  go_wp2_with fail
  (with_reducible refine (LNz.out _ _ W3.out U3.out).mono ?_); rintro e w4 ⟨rfl, hb⟩
  have W4 := Lib.hid (b_next W3.out hb); have BX4 := Lib.hid (p2v_keep hb BX3.out); have U4 := Lib.hid (sl_keep hb U3.out); clear hb x0 x1
  obtain ⟨x0, x1⟩ := BX4.out
  go_wp2_with fail
  (with_reducible refine (WYz.out _ _ W4.out U4.out).mono ?_); rintro e w5 ⟨rfl, hb⟩
  have W5 := Lib.hid (b_next W4.out hb); have BX5 := Lib.hid (p2v_keep hb BX4.out); clear hb x0 x1
  obtain ⟨x0, x1⟩ := BX5.out
  go_wp2_with fail
  (with_reducible refine (LE.out _ W5.out).mono ?_); rintro e w6 ⟨⟨ul, rfl, F, hl, hF⟩, hb⟩
  have W6 := Lib.hid (b_next W5.out hb); have BX6 := Lib.hid (p2v_keep hb BX5.out); have HK := Lib.hid (HQ.out F hF z k' HZ.out); clear hb x0 x1 hF
  obtain ⟨ub, uo, uc, rfl, hu1, hu2, hu3⟩ := iv_at hl hn0
  have huc : uc ≤ 9223372036854775807 := Nat.le_trans hu2 (by decide)
  have U6 := Lib.hid hu3
  clear hl hu3
  obtain ⟨x0, x1⟩ := BX6.out
  go_wp2_with fail
  clear x0 x1
  go_loopw [110] (fun t wr => ∃ i : Nat, i ≤ n ∧ t = .int .i64 i ∧ Below w6.heap.size w6 wr) (fun t _ => n - (intOf t).toNat)
  case atStart => exact ⟨0, Nat.zero_le _, rfl, Below.refl _ _⟩
  case round =>
    obtain ⟨i, hi, rfl, hbl⟩ := hrel
    have BR := Lib.hid hbl; have WR := Lib.hid (b_next W6.out hbl)
    clear hbl
    by_cases hlt : i < n
    · have hl : (i : Int) < (n : Int) := by omega
      have HLT := Lib.hid hlt
      obtain ⟨fb, fo, fc, e, hc1, hc2, HE3⟩ := fv_at (fv_keep WR.out HF.out) (by omega)
      injection e with e1 _ e3
      subst e1 e3
      have hc3 : cf ≤ 9223372036854775807 := Nat.le_trans hc2 (by decide)
      obtain ⟨x0, x1, x2⟩ := HE3 i hlt
      clear HE3
      have al := b_alloc (Below.refl wr.heap.size wr) (.cells #[.string (N i), .int .i64 (X i), .int .i64 (Y i)] 51)
      have S3 := Lib.hid (s3_new wr 51 (N i) (X i) (Y i))
      have HKi := Lib.hid (HK.out i hlt); have BRa := Lib.hid (b_next BR.out al); have ci := keep BRa.out (U6.out i hlt)
      clear al
      generalize N i = ni at *
      generalize F i = fi at *
      obtain ⟨z0, z1, z2⟩ := S3.out
      by_cases hs : ni = t
      · subst hs
        have hf0 := HKi.out rfl
        subst hf0
        go_wp2_with fail
        go_roundw
        case rel => exact ⟨i + 1, HLT.out, by go_num, BRa.out⟩
        case measure => have := HLT.out; simp [intOf]; omega
      · have hs1 : (ni.toList == t.toList) = false := by rw [seq_eq]; exact decide_eq_false hs
        go_wp2_with fail
        go_roundw
        case rel => exact ⟨i + 1, HLT.out, by go_num, BRa.out⟩
        case measure => have := HLT.out; simp [intOf]; omega
    · have hl : ¬ (i : Int) < (n : Int) := by omega
      go_wp2_with fail
      go_ret
      exact ⟨by first | rfl | exact retb rfl, WR.out⟩
theorem lsum_way {n : Nat} {N : Nat → ByteArray} {X Y : Nat → Int} {m : Nat} {l : Nat → Nat} {S : Nat → Nat → ByteArray} {a : Nat} {z : List Nat} {T : Nat → ByteArray} (hT : ∀ k, k ≤ z.length → T k = gS n N (at' a z k)) : ∀ i, i ≤ z.length → lsum (stp n N X Y T) (i + 1) = len (gr n N X Y m l S).d a (z.take i)
  | 0, _ => rfl
  | i + 1, h => by
    have ih := lsum_way (X := X) (Y := Y) (m := m) (l := l) (S := S) hT i (by omega)
    rw [len_next (G := gr n N X Y m l S) (a := a) h, ← ih]
    show (if i + 1 = 0 then (0 : Int) else lsum (stp n N X Y T) (i + 1) + stp n N X Y T (i + 1)) = _
    rw [if_neg (Nat.succ_ne_zero i)]
    congr 1
    show dup (sqr (X (pos n N (T i))) (Y (pos n N (T i))) (X (pos n N (T (i + 1)))) (Y (pos n N (T (i + 1))))) = dst n N X Y (gS n N (at' a z i)) (gS n N (at' a z (i + 1)))
    rw [hT i (by omega), hT (i + 1) h]
    rfl
theorem walk (c_fixes : Value) (c_airways : Value) (fr to' : ByteArray) (W : World) (h_c_fixes : Frame.Okc W (.sl [.str, .int, .int]) c_fixes) (h_c_airways : Frame.Okc W (.sl [.str, .sl [.str]]) c_airways) (_h_fr : fr.size ≤ maxLen) (_h_to : to'.size ≤ maxLen) :
    Calls Try.prog 7 #[.agg #[c_fixes, c_airways], .string fr, .string to'] W fun e w' => e = .returned (.bool true) ∧ Below W.heap.size W w' := by
  obtain ⟨n, N, X, Y, m, M, l, S, hv⟩ := cv_of h_c_fixes h_c_airways
  have hv0 := hv
  obtain ⟨fx, aw, e, h1, h2⟩ := hv.ex
  injection e with e
  injection e with e
  injection e with e1 e2
  injection e2 with e2
  subst e1 e2
  obtain ⟨A, cf, rfl⟩ := fv_slice h1
  have bsym : bad n N X Y m M l S to' fr = bad n N X Y m M l S fr to' := by
    unfold bad
    by_cases q : cerr n N X Y m M l S ≠ 0
    · rw [if_pos q, if_pos q]
    · rw [if_neg q, if_neg q]
      by_cases r : fix N fr n < 0 ∨ fix N to' n < 0
      · rw [if_pos r, if_pos r.symm]
      · rw [if_neg r, if_neg (fun k => r k.symm)]
  rcases pathC hv0 fr to' with ⟨hE, hP⟩ | ⟨h0, a, b, hB, hP⟩
  · rcases pathC hv0 to' fr with ⟨hE2, hP2⟩ | ⟨h0, -⟩
    · rw [bsym] at hP2
      exact core_bad _ c_airways fr to' _ W hE (Lib.hid works) (Lib.hid hP) (Lib.hid hP2)
    · exact absurd (bsym ▸ h0) hE
  · rcases pathC hv0 to' fr with ⟨hE2, -⟩ | ⟨-, b', a', hB', hP2⟩
    · exact absurd (bsym.trans h0) hE2
    · have h := hB.chart
      have sr := gS_srt (once h)
      obtain rfl : a' = a := srt_inj sr hB'.lb hB.la (hB'.eb.trans hB.ea.symm)
      obtain rfl : b' = b := srt_inj sr hB'.la hB.lb (hB'.ea.trans hB.eb.symm)
      have hla := hB.la
      have hlb := hB.lb
      have hok := gr_ok h
      rcases hP with ⟨z0, k0, hb0, hP⟩ | ⟨hno, hP⟩
      · rcases hP2 with ⟨z1, k1, hb1, hP2⟩ | ⟨hno2, -⟩
        · rcases lensC hv0 fr with ⟨hE, -⟩ | ⟨-, a2, hB2, hl⟩
          · refine absurd ?_ hE
            unfold bad at h0 ⊢
            rw [if_neg (fun q => q h)] at h0 ⊢
            split at h0
            · exact absurd h0 (by decide)
            · rename_i q
              rw [if_neg (fun r => q (Or.inl (r.elim id id)))]
          · obtain rfl : a2 = a' := srt_inj sr hB2.la hB.la (hB2.ea.trans hB.ea.symm)
            have nm : ∀ (z : List Nat) (k : Nat), k ≤ z.length → (nms (gS n N) (fun i => (a2 :: z).getD i 0) (z.length + 1)).getD k ⟨#[]⟩ = gS n N (at' a2 z k) := fun z k hk => nms_at _ _ (by omega)
            have n64 := (cerr_ok h).1
            refine core A n cf c_airways fr to' N X Y (fun z => nms (gS n N) (fun i => (a2 :: z).getD i 0) (z.length + 1)) (fun z k => Best (gr n N X Y m l S) a2 b' noc (-1) z k) (fun k => ∃ z2, Best (gr n N X Y m l S) b' a2 noc (-1) z2 k) (fun F => ∃ o, F = (fun i => o (pos n (gS n N) (N i))) ∧ Fin (gr n N X Y m l S) a2 noc o) W (by omega) n64 (Lib.hid works) (Lib.hid h1)
              (Lib.hid hP) (Lib.hid fun w1 hb => (hP2 w1 hb).mono ?_) (Lib.hid fun z k k' q1 q2 => ?_) (Lib.hid fun z k hbe w1 v hb hs => ?_) (Lib.hid fun z k hbe w1 v hb hs => wayK (cv_keep hb hv0) h hla hbe.is.chn hbe.is.nodup hs) (Lib.hid fun w1 hb => (hl w1 hb).mono ?_) (Lib.hid fun F hF z k hbe x hx hs => ?_)
            · rintro e w' ⟨⟨u, z, k, rfl, hs, hbe⟩, hb⟩
              exact ⟨⟨u, k, rfl, z, hbe⟩, hb⟩
            · obtain ⟨z2, q2⟩ := q2
              exact (best_back hok hla hlb q1 q2).symm
            · have hz := nodup_le hok hla hbe.is.chn hbe.is.nodup
              have hz : z.length + 1 ≤ n := hz
              have mem : ∀ k, k ≤ z.length → at' a2 z k < n := fun k hk => by
                rcases List.mem_cons.1 (at_mem (a := a2) hk) with e | e
                · rw [e]; exact hla
                · exact chn_lt hok z a2 hla hbe.is.chn _ e
              refine (lengthC (cv_keep hb hv0) hs).mono ?_
              rintro e w' ⟨rfl, hb⟩
              refine ⟨?_, hb⟩
              rw [h, nms_len]
              have f : ferr (lerr n N (fun j => (nms (gS n N) (fun i => (a2 :: z).getD i 0) (z.length + 1)).getD j ⟨#[]⟩)) (z.length + 1) = 0 := ferr_zero fun j hj => by
                show (if fix N ((nms (gS n N) (fun i => (a2 :: z).getD i 0) (z.length + 1)).getD j ⟨#[]⟩) n < 0 then (6 : Int) else 0) = 0
                rw [nm z j (by omega)]
                exact if_neg (by have := fix_gS (N := N) (mem j (by omega)); omega)
              have e1 : lenR 0 n N X Y (z.length + 1) (fun j => (nms (gS n N) (fun i => (a2 :: z).getD i 0) (z.length + 1)).getD j ⟨#[]⟩) = (k, 0) := by
                unfold lenR
                rw [if_neg (by simp), if_neg (by omega), if_neg (fun q => q f)]
                have e2 := lsum_way (X := X) (Y := Y) (m := m) (l := l) (S := S) (T := fun j => (nms (gS n N) (fun i => (a2 :: z).getD i 0) (z.length + 1)).getD j ⟨#[]⟩) (fun k hk => nm z k hk) z.length (Nat.le_refl _)
                rw [e2, List.take_length, hbe.len]
              rw [e1]
            · rintro e w' ⟨⟨u, rfl, o, hiv, hfin, -⟩, hb⟩
              exact ⟨⟨u, rfl, _, hiv, o, rfl, hfin⟩, hb⟩
            · obtain ⟨o, rfl, hfin⟩ := hF
              obtain ⟨p1, p2⟩ := pos_of (gS_has (N := N) hx)
              have e3 : pos n (gS n N) (N x) = b' := srt_inj sr p1 hlb (by rw [p2, hs, hB.eb])
              show o (pos n (gS n N) (N x)) = k
              rw [e3]
              exact best_all hok hla hlb hbe hfin
        · exact absurd (is_back hok hla hb0.is) (hno2 _)
      · rcases hP2 with ⟨z1, k1, hb1, -⟩ | ⟨-, hP2⟩
        · exact absurd (is_back hok hlb hb1.is) (hno _)
        · exact core_bad _ c_airways fr to' 8 W (by decide) (Lib.hid works) (Lib.hid hP) (Lib.hid hP2)
-- FRAME --

set_option maxRecDepth 100000 in
theorem lifted (os : Os) (started : os.Started) (H : Type) (enc : TypeId × Value → H) :
    ReturnsInHanded {} Try.checked os 7 .any (Rows.shortestLengthSpec.pre6 enc Try.prog Try.f7 Rows.shortestLengthRow.domain false) (Rows.shortestLengthSpec.post enc Try.prog Try.f7 false true false false) :=
  Frame.lifted (C := Try.checked) 7 Try.f7 Try.own started (by kernel_rfl) Try.func7 Try.laidOut rfl (by kernel_rfl) 4 rfl Try.underlying4
      (fun ds h => by match ds, h with | [_, _, _], _ => rfl)
      (ChangeSpec.witness6 (enc := enc) (C := Try.checked) false ⟨#[], #[.agg #[.slice none 0 0, .slice none 0 0], .string ⟨#[]⟩, .string ⟨#[]⟩], []⟩ 8 (by kernel_rfl) (by kernel_rfl) (by kernel_rfl) (by kernel_rfl))
      (fun W base args ds ps hval0 hA _ => by
        have hval : ∀ (j : Nat) t v, Try.f7.params[j]? = some t → args[j]? = some v → Value.okWide Try.prog W .any base t v := hval0
        have hA' : DataW.TrodAll enc Try.prog W 0 (fun _ => true) true Try.f7.params.toList args.toList ds ps := hA
        clear hval0 hA
        have hA := hA'
        clear hA'
        rw [Try.params7] at hA hval
        obtain ⟨v0, vs0, d0, ds0, p0, q0, ea, rfl, rfl, tr0, rest0⟩ := trodAll_cons hA
        obtain ⟨v1, vs1, d1, ds1, p1, q1, rfl, rfl, rfl, tr1, rest1⟩ := trodAll_cons rest0
        obtain ⟨v2, vs2, d2, ds2, p2, q2, rfl, rfl, rfl, tr2, rest2⟩ := trodAll_cons rest1
        obtain ⟨rfl, rfl, rfl⟩ := trodAll_nil rest2
        obtain rfl : args = #[v0, v1, v2] := by cases args; simp_all
        clear ea
        obtain ⟨cs_c, e_c, hl_c, hc_c⟩ := Frame.arg_agg Try.underlying37 (k := 8) (ks := [.sl [.str, .int, .int], .sl [.str, .sl [.str]]]) (by kernel_rfl) (hval 0 _ v0 rfl rfl) tr0
        subst e_c
        obtain ⟨c_c_fixes, c_c_airways, rfl⟩ : ∃ c_c_fixes c_c_airways, cs_c = [c_c_fixes, c_c_airways] := by match cs_c, hl_c with | [x0, x1], _ => exact ⟨x0, x1, rfl⟩
        have o_c_fixes : Frame.Okc W (.sl [.str, .int, .int]) c_c_fixes := hc_c 0 (by decide) (by simp)
        have o_c_airways : Frame.Okc W (.sl [.str, .sl [.str]]) c_c_airways := hc_c 1 (by decide) (by simp)
        obtain ⟨fr, e_fr⟩ := okWide_string Try.underlying9 (hval 1 _ v1 rfl rfl)
        subst e_fr
        obtain ⟨fr', e_fr, z_fr⟩ := (Frame.arg_cell (k := 8) (kd := .str) (by kernel_rfl) rfl tr1).str_inv
        obtain rfl : fr = fr' := by injection e_fr
        obtain ⟨tt, e_tt⟩ := okWide_string Try.underlying9 (hval 2 _ v2 rfl rfl)
        subst e_tt
        obtain ⟨tt', e_tt, z_tt⟩ := (Frame.arg_cell (k := 8) (kd := .str) (by kernel_rfl) rfl tr2).str_inv
        obtain rfl : tt = tt' := by injection e_tt
        exact walk c_c_fixes c_c_airways fr tt W o_c_fixes o_c_airways z_fr z_tt)

/-- The statement. -/
theorem proved : Rows.ShortestLengthSaid :=
  OpenClaim.holds_of_wide 7 Try.f7 rfl rfl rfl rfl rfl rfl rfl ⟨rfl, rfl, rfl, rfl, rfl⟩ rfl rfl rfl rfl rfl (by kernel_rfl) Try.func7 (by kernel_rfl)
    (of_decide_eq_true (by kernel_rfl)) (by unfold Func.isWrapper; first | (rw [if_pos (by decide +kernel)]; kernel_rfl) | (rw [if_neg (by decide +kernel)]; exact ⟨rfl, rfl⟩))
    (fun os started H enc _ => lifted os started H enc)
#print axioms proved
end ShortestLength
end Go.Proofs.Ytokioemmjfjhkaa

