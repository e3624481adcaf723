/- ChartBetween: a part of an airway, flown in the other direction, is the reverse, and its ends are as asked for. For every input. -/
import Derived.Test.YtlgdcpkjobbnnaaChO
namespace Go.Proofs.Ytlgdcpkjobbnnaa
open Go.RowKit Go.ChangeShapes Go.WideShapes
namespace ChartBetween
open Kit Plane Poly Chart
theorem fix_at {N : Nat → ByteArray} {s : ByteArray} {n i : Nat} (h : fix N s n = (i : Int)) : N i = s := by
  obtain ⟨k, -, h2, h3, -⟩ := fnd_pos (p := fun k => decide (N k = s)) (n := n) (by show 0 ≤ fix N s n; omega)
  have h2 : fix N s n = (k : Int) := h2
  obtain rfl : i = k := by omega
  exact of_decide_eq_true h3
/-- Both ways. -/
theorem both {n : Nat} {N : Nat → ByteArray} {X Y : Nat → Int} {m : Nat} {M : Nat → ByteArray} {l : Nat → Nat} {S : Nat → Nat → ByteArray} {an s t : ByteArray} {q q' : Value} {w w' : World} (h : betP n N X Y m M l S an s t q w) (h' : betP n N X Y m M l S an t s q' w') :
    (∃ E : Int, E ≠ 0 ∧ q = .tuple #[.slice none 0 0, .int .i64 E] ∧ q' = .tuple #[.slice none 0 0, .int .i64 E]) ∨ ∃ (v v' : Value) (r : Nat) (Q Q' : Nat → ByteArray), q = .tuple #[v, .int .i64 0] ∧ q' = .tuple #[v', .int .i64 0] ∧ SV w v r Q ∧ SV w' v' r Q' ∧ 0 < r ∧ r ≤ 1000000 ∧ Q 0 = s ∧ Q (r - 1) = t ∧ ∀ k, k < r → Q k = Q' (r - 1 - k) := by
  unfold betP at h h'
  by_cases hE : cerr n N X Y m M l S ≠ 0
  · rw [if_pos hE] at h h'
    exact Or.inl ⟨_, hE, h, h'⟩
  · rw [if_neg hE] at h h'
    by_cases hk : fix M an m < 0
    · rw [if_pos hk] at h h'
      exact Or.inl ⟨6, by decide, h, h'⟩
    · rw [if_neg hk] at h h'
      obtain ⟨k, e1, hkm, h⟩ := h
      obtain ⟨k', e2, -, h'⟩ := h'
      obtain rfl : k = k' := by omega
      have hl := (aerr_len ((cerr_ok (Classical.not_not.1 hE)).2.2.2 k hkm)).2.2.2.2.1
      by_cases hz : fix (S k) s (l k) < 0 ∨ fix (S k) t (l k) < 0
      · rw [if_pos hz] at h; rw [if_pos (hz.symm)] at h'
        exact Or.inl ⟨6, by decide, h, h'⟩
      · rw [if_neg hz] at h; rw [if_neg (fun g => hz g.symm)] at h'
        obtain ⟨i, j, hi, hj, v, rfl, hv⟩ := h
        obtain ⟨j', i', hj', hi', v', rfl, hv'⟩ := h'
        obtain rfl : i = i' := by omega
        obtain rfl : j = j' := by omega
        have b1 : -1 ≤ fix (S k) s (l k) ∧ fix (S k) s (l k) < (l k : Int) := fnd_bd _ _
        have b2 : -1 ≤ fix (S k) t (l k) ∧ fix (S k) t (l k) < (l k : Int) := fnd_bd _ _
        rw [show max j i = max i j from Nat.max_comm _ _, show min j i = min i j from Nat.min_comm _ _] at hv'
        refine Or.inr ⟨v, v', _, _, _, rfl, rfl, hv, hv', by omega, by omega, ?_, ?_, fun p hp => ?_⟩
        · unfold Chart.way; split
          · exact fix_at hi
          · exact fix_at hi
        · have := fix_at hj
          unfold Chart.way
          by_cases hij : i ≤ j
          · rw [if_pos hij, show i + (max i j + 1 - min i j - 1) = j from by omega]; exact this
          · rw [if_neg hij, show i - (max i j + 1 - min i j - 1) = j from by omega]; exact this
        · unfold Chart.way
          rcases Nat.lt_trichotomy i j with hij | hij | hij
          · rw [if_pos (by omega), if_neg (by omega), show j - (max i j + 1 - min i j - 1 - p) = i + p from by omega]
          · subst hij
            rw [if_pos (by omega), if_pos (by omega), show p = 0 from by omega, show max i i + 1 - min i i - 1 - 0 = 0 from by omega]
          · rw [if_neg (by omega), if_pos (by omega), show j + (max i j + 1 - min i j - 1 - p) = i - p from by omega]
theorem bet_tuple {n : Nat} {N : Nat → ByteArray} {X Y : Nat → Int} {m : Nat} {M : Nat → ByteArray} {l : Nat → Nat} {S : Nat → Nat → ByteArray} {an s t : ByteArray} {q : Value} {w : World} (h : betP n N X Y m M l S an s t q w) : ∃ v E, q = .tuple #[v, .int .i64 E] := by
  unfold betP at h
  split at h
  · exact ⟨_, _, h⟩
  · split at h
    · exact ⟨_, _, h⟩
    · obtain ⟨k, -, -, h⟩ := h
      split at h
      · exact ⟨_, _, h⟩
      · obtain ⟨i, j, -, -, v, h, -⟩ := h
        exact ⟨_, _, h⟩
abbrev BtC (c : Value) (an s t : ByteArray) (w : World) (post : Value → World → Prop) : Prop := ∀ w1, Below w.heap.size w w1 → BeC c an s t w1 post
set_option maxRecDepth 100000 in
set_option maxHeartbeats 8000000 in
theorem law (fx aw : Value) (an s t : ByteArray) (n : Nat) (N : Nat → ByteArray) (X Y : Nat → Int) (m : Nat) (M : Nat → ByteArray) (l : Nat → Nat) (S : Nat → Nat → ByteArray) (w : World) (B1 : Hid (BtC (.agg #[fx, aw]) an s t w (betP n N X Y m M l S an s t))) (B2 : Hid (BtC (.agg #[fx, aw]) an t s w (betP n N X Y m M l S an t s))) :
    Calls Try.prog 7 #[.agg #[fx, aw], .string an, .string s, .string t] w fun e w' => e = .returned (.bool true) ∧ Below w.heap.size w w' := by
  have W0 := Lib.hid (b_alloc (Below.refl w.heap.size w) (.cells #[fx, aw] 43))
  have BX0 := Lib.hid (p2v_new w 43 fx aw)
  go_enter Try.func7, Try.ntmps7
  go_wp2_with fail
  (with_reducible refine (chartWorks _).mono ?_); rintro e w1 ⟨rfl, hb⟩
  have W1 := Lib.hid (b_next W0.out hb); have BX1 := Lib.hid (p2v_keep hb BX0.out); clear hb
  obtain ⟨x0, x1⟩ := BX1.out
  go_wp2_with fail
  (with_reducible refine (B1.out _ W1.out).mono ?_); rintro e w2 ⟨⟨q, rfl, h1⟩, hb⟩
  have W2 := Lib.hid (b_next W1.out hb); have BX2 := Lib.hid (p2v_keep hb BX1.out); clear hb x0 x1
  obtain ⟨x0, x1⟩ := BX2.out
  have H1 := Lib.hid h1; clear h1
  have C2 := Lib.hid fun (q' : Value) (w' : World) (h' : betP n N X Y m M l S an t s q' w') => both H1.out h'
  by_cases hq : ∃ v E, q = .tuple #[v, .int .i64 E]
  · obtain ⟨v, E, rfl⟩ := hq
    clear H1
    go_wp2_with fail
    (with_reducible refine (B2.out _ W2.out).mono ?_); rintro e w3 ⟨⟨q', rfl, h2⟩, hb⟩
    have W3 := Lib.hid (b_next W2.out hb)
    clear x0 x1
    rcases C2.out q' w3 h2 with ⟨E', hE, e1, rfl⟩ | ⟨v1, v', r, Q, Q', e1, rfl, hs1, hs2, h0, hr6, hQ0, hQl, hQ⟩
    · injection e1 with e1
      have e2 : v = .slice none 0 0 ∧ E = E' := by
        simp at e1
        exact e1
      obtain ⟨rfl, rfl⟩ := e2
      have z1 : (E == 0) = false := by simp [hE]
      have z2 : (E != 0) = true := by simp [hE]
      have z3 : (E == E) = true := by simp
      clear C2 h2 hb
      go_wp2_with fail
      all_goals (go_ret; exact ⟨by first | rfl | exact retb rfl, W3.out⟩)
    · injection e1 with e1
      have e2 : v = v1 ∧ E = 0 := by
        simp at e1
        exact e1
      obtain ⟨rfl, rfl⟩ := e2
      obtain ⟨b1, o1, c1, rfl, hc1, hc2, hS1⟩ := sv_at (sv_keep hb hs1) h0
      obtain ⟨b2, o2, c2, rfl, hd1, hd2, hS2⟩ := sv_at hs2 h0
      have hc3 : c1 ≤ 9223372036854775807 := Nat.le_trans hc2 (by decide)
      have hd3 : c2 ≤ 9223372036854775807 := Nat.le_trans hd2 (by decide)
      have HS1 := Lib.hid hS1; have HS2 := Lib.hid hS2; have HQ := Lib.hid hQ
      have f0 := hS1 0 h0
      have fl := hS1 (r - 1) (by omega)
      rw [hQ0] at f0; rw [hQl] at fl
      rw [Nat.add_zero] at f0
      clear C2 h2 hb hs1 hs2 hS1 hS2 hQ0 hQl hQ hc2 hd2
      have r0 : ¬ r = 0 := by omega
      have r1 : (0 : Int) < (r : Int) := by omega
      have r2 : ¬ (r : Int) = 0 := by omega
      have u1 : IntKind.i64.wrap ((r : Int) - 1) = ((r - 1 : Nat) : Int) := by rw [IntWalk.i64_in _ (by omega)]; omega
      have u2 : ((r - 1 : Nat) : Int) < (r : Int) := by omega
      have u3 : (r : Int) - 1 = ((r - 1 : Nat) : Int) := by omega
      have rr : (r != r) = false := by simp
      have ss : (s.toList == s.toList) = true := by simp
      have tt : (t.toList == t.toList) = true := by simp
      go_wp2_with fail
      go_loopw [78] (fun u wr => ∃ k : Nat, k ≤ r ∧ u = .int .i64 k ∧ Below w3.heap.size w3 wr) (fun u _ => r - (intOf u).toNat)
      case atStart => exact ⟨0, Nat.zero_le _, rfl, Below.refl _ _⟩
      case round =>
        obtain ⟨k, hk, rfl, hbl⟩ := hrel
        have HB := Lib.hid hbl
        by_cases hlt : k < r
        · have hl : (k : Int) < (r : Int) := by omega
          have C0 := Lib.hid (keep hbl (HS1.out k hlt))
          have c1 := keep hbl (HS2.out (r - 1 - k) (by omega))
          rw [← HQ.out k hlt] at c1
          have C1 := Lib.hid c1; clear c1 hbl
          have u4 : IntKind.i64.wrap ((r - 1 : Nat) : Int) = ((r - 1 : Nat) : Int) := IntWalk.i64_in _ (by omega)
          have v1 : IntKind.i64.wrap (((r - 1 : Nat) : Int) - (k : Int)) = ((r - 1 - k : Nat) : Int) := by rw [IntWalk.i64_in _ (by omega)]; omega
          have v2 : ((r - 1 - k : Nat) : Int) < (r : Int) := by omega
          have v3 : ((r - 1 : Nat) : Int) - (k : Int) = ((r - 1 - k : Nat) : Int) := by omega
          have v4 : IntKind.i64.wrap ((r - 1 - k : Nat) : Int) = ((r - 1 - k : Nat) : Int) := IntWalk.i64_in _ (by omega)
          generalize Q k = x at *
          have xx : (x.toList == x.toList) = true := by simp
          go_wp2_with fail
          refine d_region (by kernel_rfl) (by kernel_rfl) ?_
          repeat
            first
              | (refine d_plain (by with_reducible rfl) ?_; apply Exists.intro; refine ⟨fun wq hc hq => ?_, ?_⟩)
              | (refine d_on (by with_reducible rfl) (by rfl) (by with_reducible rfl) ?_; apply Exists.intro; refine ⟨fun wq hc hq => ?_, ?_⟩)
              | (refine d_off (by with_reducible rfl) (by rfl) (by rfl) ?_)
              | (refine d_void (by with_reducible rfl) (by rfl) ?_)
            try any_goals
              (have q0 := keep (cls hq) C0.out; have q1 := keep (cls hq) C1.out; clear hc
               go_simp
               first
                 | rfl)
            simp only [Act.put, List.setIfInBounds_toArray, List.set_cons_zero, List.set_cons_succ]
          refine d_nil ?_
          intro w8 hb8
          have HB2 := Lib.hid (b_next HB.out hb8); clear hb8
          go_wp2_with fail
          exact ⟨⟨k + 1, by omega, by go_num, HB2.out⟩, by simp [intOf]; omega⟩
        · have hl : ¬ (k : Int) < (r : Int) := by omega
          have W4 := Lib.hid (b_next W3.out hbl); clear hbl
          go_wp2_with fail
          all_goals (go_ret; exact ⟨by first | rfl | exact retb rfl, W4.out⟩)
  · exact absurd (bet_tuple H1.out) hq
theorem walk (c_fixes : Value) (c_airways : Value) (airway : ByteArray) (fr : ByteArray) (to : ByteArray) (W : World) (h_c_fixes : Frame.Okc W (.sl [.str, .int, .int]) c_fixes) (h_c_airways : Frame.Okc W (.sl [.str, .sl [.str]]) c_airways) (_h_airway : airway.size ≤ maxLen) (_h_fr : fr.size ≤ maxLen) (_h_to : to.size ≤ maxLen) :
    Calls Try.prog 7 #[.agg #[c_fixes, c_airways], .string airway, .string fr, .string to] W fun e w' => e = .returned (.bool true) ∧ Below W.heap.size W w' := by
  obtain ⟨n, N, X, Y, m, M, l, S, hv⟩ := cv_of h_c_fixes h_c_airways
  exact law c_fixes c_airways airway fr to n N X Y m M l S W (Lib.hid fun w1 hb => betweenC (cv_keep hb hv) airway fr to) (Lib.hid fun w1 hb => betweenC (cv_keep hb hv) airway to fr)
-- FRAME --

set_option maxRecDepth 100000 in
theorem lifted (os : Os) (started : os.Started) (H : Type) (enc : TypeId × Value → H) :
    ReturnsInHanded {} Try.checked os 7 .any (Rows.chartBetweenSpec.pre6 enc Try.prog Try.f7 Rows.chartBetweenRow.domain false) (Rows.chartBetweenSpec.post enc Try.prog Try.f7 false true false false) :=
  Frame.lifted (C := Try.checked) 7 Try.f7 Try.own started (by kernel_rfl) Try.func7 Try.laidOut rfl (by kernel_rfl) 4 rfl Try.underlying4
      (fun ds h => by match ds, h with | [_, _, _, _], _ => rfl)
      (ChangeSpec.witness6 (enc := enc) (C := Try.checked) false ⟨#[], #[.agg #[.slice none 0 0, .slice none 0 0], .string ⟨#[]⟩, .string ⟨#[]⟩, .string ⟨#[]⟩], []⟩ 8 (by kernel_rfl) (by kernel_rfl) (by kernel_rfl) (by kernel_rfl))
      (fun W base args ds ps hval0 hA _ => by
        have hval : ∀ (j : Nat) t v, Try.f7.params[j]? = some t → args[j]? = some v → Value.okWide Try.prog W .any base t v := hval0
        have hA' : DataW.TrodAll enc Try.prog W 0 (fun _ => true) true Try.f7.params.toList args.toList ds ps := hA
        clear hval0 hA
        have hA := hA'
        clear hA'
        rw [Try.params7] at hA hval
        obtain ⟨v0, vs0, d0, ds0, p0, q0, ea, rfl, rfl, tr0, rest0⟩ := trodAll_cons hA
        obtain ⟨v1, vs1, d1, ds1, p1, q1, rfl, rfl, rfl, tr1, rest1⟩ := trodAll_cons rest0
        obtain ⟨v2, vs2, d2, ds2, p2, q2, rfl, rfl, rfl, tr2, rest2⟩ := trodAll_cons rest1
        obtain ⟨v3, vs3, d3, ds3, p3, q3, rfl, rfl, rfl, tr3, rest3⟩ := trodAll_cons rest2
        obtain ⟨rfl, rfl, rfl⟩ := trodAll_nil rest3
        obtain rfl : args = #[v0, v1, v2, v3] := by cases args; simp_all
        clear ea
        obtain ⟨cs_c, e_c, hl_c, hc_c⟩ := Frame.arg_agg Try.underlying43 (k := 8) (ks := [.sl [.str, .int, .int], .sl [.str, .sl [.str]]]) (by kernel_rfl) (hval 0 _ v0 rfl rfl) tr0
        subst e_c
        obtain ⟨c_c_fixes, c_c_airways, rfl⟩ : ∃ c_c_fixes c_c_airways, cs_c = [c_c_fixes, c_c_airways] := by match cs_c, hl_c with | [x0, x1], _ => exact ⟨x0, x1, rfl⟩
        have o_c_fixes : Frame.Okc W (.sl [.str, .int, .int]) c_c_fixes := hc_c 0 (by decide) (by simp)
        have o_c_airways : Frame.Okc W (.sl [.str, .sl [.str]]) c_c_airways := hc_c 1 (by decide) (by simp)
        obtain ⟨airway, e_airway⟩ := okWide_string Try.underlying9 (hval 1 _ v1 rfl rfl)
        subst e_airway
        obtain ⟨airway', e_airway, z_airway⟩ := (Frame.arg_cell (k := 8) (kd := .str) (by kernel_rfl) rfl tr1).str_inv
        obtain rfl : airway = airway' := by injection e_airway
        obtain ⟨fr, e_fr⟩ := okWide_string Try.underlying9 (hval 2 _ v2 rfl rfl)
        subst e_fr
        obtain ⟨fr', e_fr, z_fr⟩ := (Frame.arg_cell (k := 8) (kd := .str) (by kernel_rfl) rfl tr2).str_inv
        obtain rfl : fr = fr' := by injection e_fr
        obtain ⟨to, e_to⟩ := okWide_string Try.underlying9 (hval 3 _ v3 rfl rfl)
        subst e_to
        obtain ⟨to', e_to, z_to⟩ := (Frame.arg_cell (k := 8) (kd := .str) (by kernel_rfl) rfl tr3).str_inv
        obtain rfl : to = to' := by injection e_to
        exact walk c_c_fixes c_c_airways airway fr to W o_c_fixes o_c_airways z_airway z_fr z_to)

/-- The statement. -/
theorem proved : Rows.ChartBetweenSaid :=
  OpenClaim.holds_of_wide 7 Try.f7 rfl rfl rfl rfl rfl rfl rfl ⟨rfl, rfl, rfl, rfl, rfl⟩ rfl rfl rfl rfl rfl (by kernel_rfl) Try.func7 (by kernel_rfl)
    (of_decide_eq_true (by kernel_rfl)) (by unfold Func.isWrapper; first | (rw [if_pos (by decide +kernel)]; kernel_rfl) | (rw [if_neg (by decide +kernel)]; exact ⟨rfl, rfl⟩))
    (fun os started H enc _ => lifted os started H enc)
#print axioms proved
end ChartBetween
end Go.Proofs.Ytlgdcpkjobbnnaa

