/- ShortestSteps: lengths differ by at most the length of a link. For every input, with no condition. -/
import Derived.Test.YtokioemmjfjhkaaNetZ
import Derived.Test.YtokioemmjfjhkaaChO
import Derived.Test.YtokioemmjfjhkaaHasT
import Derived.Test.YtokioemmjfjhkaaShapes
namespace Go.Proofs.Ytokioemmjfjhkaa
open Go.RowKit Go.ChangeShapes Go.WideShapes
namespace ShortestSteps
open Kit Plane Chart Route Lnk Net Short
set_option maxRecDepth 100000 in
set_option maxHeartbeats 8000000 in
theorem core_bad (A : Option Addr) (n cf : Nat) (aw : Value) (s : ByteArray) (E : Int) (w : World) (hE0 : E ≠ 0) (WK : Hid (∀ w1, Calls Try.prog 18 #[] w1 fun e w' => e = .returned (.bool true) ∧ Below w1.heap.size w1 w'))
    (LE : Hid (∀ w1, Below w.heap.size w w1 → LsC (.agg #[.slice A n cf, aw]) s w1 fun e _ => e = .returned (.tuple #[.slice none 0 0, .int .i64 E]))) :
    Calls Try.prog 5 #[.agg #[.slice A n cf, aw], .string s] w fun e w' => e = .returned (.bool true) ∧ Below w.heap.size w w' := by
  have hE1 : (E != 0) = true := by simpa using hE0
  have hE2 : (E == 0) = false := by simpa using hE0
  clear hE0
  have W0 := Lib.hid (b_alloc (Below.refl w.heap.size w) (.cells #[.slice A n cf, aw] 37))
  have BX := Lib.hid (p2v_new w 37 (.slice A n cf) aw)
  go_enter Try.func5, Try.ntmps5
  go_wp2_with fail
  obtain ⟨n0, hn0⟩ : ∃ n0, n0 = w.heap.size := ⟨_, rfl⟩
  rw [← hn0] at BX ⊢
  clear hn0
  (with_reducible refine (WK.out _).mono ?_); rintro e w1 ⟨rfl, hb⟩
  have W1 := Lib.hid (b_next W0.out hb); have BX1 := Lib.hid (p2v_keep hb BX.out); clear hb
  obtain ⟨x0, x1⟩ := BX1.out
  go_wp2_with fail
  (with_reducible refine (LE.out _ W1.out).mono ?_); rintro e w2 ⟨rfl, hb⟩
  have W2 := Lib.hid (b_next W1.out hb); clear x0 x1; obtain ⟨x0, x1⟩ := p2v_keep hb BX1.out; clear hb
  go_wp2_with fail
  go_ret
  exact ⟨by first | rfl | exact retb rfl, W2.out⟩
set_option maxRecDepth 100000 in
set_option maxHeartbeats 16000000 in
theorem core (A : Option Addr) (n cf : Nat) (aw : Value) (s : ByteArray) (N : Nat → ByteArray) (X Y : Nat → Int) (L : Nat → List ByteArray) (Q : (Nat → Int) → Prop) (D : Nat → Nat → Int) (w : World) (hn0 : 0 < n) (hn : n ≤ 64) (WK : Hid (∀ w1, Calls Try.prog 18 #[] w1 fun e w' => e = .returned (.bool true) ∧ Below w1.heap.size w1 w'))
    (HF : Hid (FV w (.slice A n cf) n N X Y))
    (LE : Hid (∀ w1, Below w.heap.size w w1 → LsC (.agg #[.slice A n cf, aw]) s w1 fun e w' => ∃ u, e = .returned (.tuple #[u, .int .i64 0]) ∧ ∃ F, IV w' u n F ∧ Q F))
    (LK : Hid (∀ i, i < n → ∀ w1, Below w.heap.size w w1 → Calls Try.prog 16 #[.agg #[.slice A n cf, aw], .string (N i)] w1 fun e w' => (∃ v, e = .returned (.tuple #[v, .int .i64 0]) ∧ SL w' v (L i)) ∧ Below w1.heap.size w1 w'))
    (LN : Hid (∀ i, i < n → ∀ k, k < n → ∀ w1 v, Below w.heap.size w w1 → SL w1 v [N i, N k] → Calls Try.prog 20 #[.agg #[.slice A n cf, aw], v] w1 fun e w' => e = .returned (.tuple #[.int .i64 (D i k), .int .i64 0]) ∧ Below w1.heap.size w1 w'))
    (HPQ : Hid (∀ F, Q F → ∀ i, i < n → ∀ k, k < n → 0 ≤ fix (fun j => (L i).getD j ⟨#[]⟩) (N k) (L i).length → (F i < 0 ↔ F k < 0) ∧ F k ≤ F i + D i k ∧ -1 ≤ F i ∧ F i ≤ 640000000 ∧ 0 ≤ D i k ∧ D i k ≤ 640000000))
    (H0Q : Hid (∀ F, Q F → ∀ i, i < n → N i = s → F i = 0)) :
    Calls Try.prog 5 #[.agg #[.slice A n cf, aw], .string s] w fun e w' => e = .returned (.bool true) ∧ Below w.heap.size w w' := by
  have W0 := Lib.hid (b_alloc (Below.refl w.heap.size w) (.cells #[.slice A n cf, aw] 37))
  have BX := Lib.hid (p2v_new w 37 (.slice A n cf) aw)
  go_enter Try.func5, Try.ntmps5
  go_wp2_with fail
  obtain ⟨n0, hn0⟩ : ∃ n0, n0 = w.heap.size := ⟨_, rfl⟩
  rw [← hn0] at BX ⊢
  clear hn0
  (with_reducible refine (WK.out _).mono ?_); rintro e w1 ⟨rfl, hb⟩
  have W1 := Lib.hid (b_next W0.out hb); have BX1 := Lib.hid (p2v_keep hb BX.out); clear hb
  obtain ⟨x0, x1⟩ := BX1.out
  go_wp2_with fail
  (with_reducible refine (LE.out _ W1.out).mono ?_); rintro e w2 ⟨⟨u, rfl, F, hu, hQF⟩, hb⟩
  have HP := Lib.hid (HPQ.out F hQF); have H0 := Lib.hid (H0Q.out F hQF)
  clear HPQ H0Q hQF
  have W2 := Lib.hid (b_next W1.out hb); have BX2 := Lib.hid (p2v_keep hb BX1.out); clear hb x0 x1
  obtain ⟨ub, uo, uc, rfl, hu1, hu2, hu3⟩ := iv_at hu hn0
  have huc : uc ≤ 9223372036854775807 := Nat.le_trans hu2 (by decide)
  have U2 := Lib.hid hu3
  clear hu hu3
  obtain ⟨x0, x1⟩ := BX2.out
  go_wp2_with fail
  clear x0 x1
  go_loopw [43] (fun t wr => ∃ i : Nat, i ≤ n ∧ t = .int .i64 i ∧ Below w2.heap.size w2 wr) (fun t _ => n - (intOf t).toNat)
  case atStart => exact ⟨0, Nat.zero_le _, rfl, Below.refl _ _⟩
  case round =>
    obtain ⟨i, hi, rfl, hbl⟩ := hrel
    have BR := Lib.hid hbl; have WR := Lib.hid (b_next W2.out hbl); have BXr := Lib.hid (p2v_keep hbl BX2.out)
    clear hbl
    by_cases hlt : i < n
    · have hl : (i : Int) < (n : Int) := by omega
      have HLT := Lib.hid hlt
      obtain ⟨fb, fo, fc, e, hc1, hc2, HE3⟩ := fv_at (fv_keep WR.out HF.out) (by omega)
      injection e with e1 _ e3
      subst e1 e3
      have hc3 : cf ≤ 9223372036854775807 := Nat.le_trans hc2 (by decide)
      obtain ⟨x0, x1, x2⟩ := HE3 i hlt
      clear HE3
      have al := b_alloc (Below.refl wr.heap.size wr) (.cells #[.string (N i), .int .i64 (X i), .int .i64 (Y i)] 51)
      have S3 := Lib.hid (s3_new wr 51 (N i) (X i) (Y i))
      have LKi := Lib.hid (LK.out i hlt); have LNi := Lib.hid (LN.out i hlt); have HPi := Lib.hid (HP.out i hlt); have H0i := Lib.hid (H0.out i hlt); have CIi := Lib.hid (U2.out i hlt)
      have BRa := Lib.hid (b_next BR.out al); have WRa := Lib.hid (b_next WR.out al); have BXa := Lib.hid (p2v_keep al BXr.out)
      clear al
      obtain ⟨ni, hni⟩ : ∃ x, x = N i := ⟨_, rfl⟩
      rw [← hni] at x0 S3 LKi LNi H0i BRa WRa BXa
      obtain ⟨Li, hLi⟩ : ∃ x, x = L i := ⟨_, rfl⟩
      rw [← hLi] at HPi; simp only [← hLi] at LKi
      obtain ⟨fi, hfi⟩ : ∃ x, x = F i := ⟨_, rfl⟩
      rw [← hfi] at HPi H0i CIi
      obtain ⟨di, hdi⟩ : ∃ x, x = D i := ⟨_, rfl⟩
      rw [← hdi] at HPi LNi
      clear hni hLi hfi hdi
      obtain ⟨y0, y1⟩ := BXa.out
      obtain ⟨z0, z1, z2⟩ := S3.out
      go_wp2_with fail
      obtain ⟨bn, hbn⟩ : ∃ bn, bn = wr.heap.size := ⟨_, rfl⟩
      obtain ⟨wa, hwa⟩ : ∃ x, x = wr.alloc (.cells #[.string ni, .int .i64 (X i), .int .i64 (Y i)] 51) := ⟨_, rfl⟩
      rw [← hwa, ← hbn]
      rw [← hwa] at S3 BRa WRa BXa; rw [← hbn] at S3
      clear hwa hbn y0 y1 z0 z1 z2 x0 x1 x2
      (with_reducible refine (LKi.out _ WRa.out).mono ?_); rintro e w3 ⟨⟨v, rfl, hv⟩, hb⟩
      have B3 := Lib.hid (b_next BRa.out hb); have W3 := Lib.hid (b_next WRa.out hb); have BX3 := Lib.hid (p2v_keep hb BXa.out); have S33 := Lib.hid (s3_keep hb S3.out); have V3 := Lib.hid hv
      obtain ⟨Av, cv, rfl⟩ := sl_slice hv
      clear hb hv S3 BXa
      obtain ⟨y0, y1⟩ := BX3.out
      go_wp2_with fail
      clear y0 y1
      go_loopw [60] (fun t wr => ∃ k : Nat, k ≤ n ∧ t = .int .i64 k ∧ Below w3.heap.size w3 wr) (fun t _ => n - (intOf t).toNat)
      case atStart => exact ⟨0, Nat.zero_le _, rfl, Below.refl _ _⟩
      case round =>
        obtain ⟨k, hk, rfl, hbl⟩ := hrel
        have BK := Lib.hid hbl; have WK2 := Lib.hid (b_next W3.out hbl); have BXk := Lib.hid (p2v_keep hbl BX3.out); have Sk := Lib.hid (s3_keep hbl S33.out); have B2k := Lib.hid (b_next B3.out hbl)
        clear hbl
        by_cases hkl : k < n
        · have hkli : (k : Int) < (n : Int) := by omega
          have HKL := Lib.hid hkl
          obtain ⟨fb', fo', fc', e, -, -, HE3⟩ := fv_at (fv_keep WK2.out HF.out) (by omega)
          injection e with e1 _ e3
          injection e1 with e1
          injection e1 with e4 e5 _
          subst e4 e5 e3
          obtain ⟨x0, x1, x2⟩ := HE3 k hkl
          clear HE3
          have al := b_alloc (Below.refl wr.heap.size wr) (.cells #[.string (N k), .int .i64 (X k), .int .i64 (Y k)] 51)
          have T3 := Lib.hid (s3_new wr 51 (N k) (X k) (Y k))
          have HPk := Lib.hid (HPi.out k hkl); have LNk := Lib.hid (LNi.out k hkl); have CKk := Lib.hid (U2.out k hkl)
          have BKa := Lib.hid (b_next BK.out al); have WKa := Lib.hid (b_next WK2.out al); have BXa := Lib.hid (p2v_keep al BXk.out); have Sa := Lib.hid (s3_keep al Sk.out); have B2a := Lib.hid (b_next B2k.out al)
          have HT := Lib.hid (HasT.hasTC (sl_keep (b_next BK.out al) V3.out) (N k))
          clear al
          obtain ⟨nk, hnk⟩ : ∃ x, x = N k := ⟨_, rfl⟩
          rw [← hnk] at x0 T3 HPk LNk BKa WKa BXa Sa B2a HT
          obtain ⟨fk, hfk⟩ : ∃ x, x = F k := ⟨_, rfl⟩
          rw [← hfk] at HPk CKk
          obtain ⟨dk, hdk⟩ : ∃ x, x = di k := ⟨_, rfl⟩
          rw [← hdk] at HPk LNk
          clear hnk hfk hdk
          obtain ⟨HB, hHB⟩ : ∃ x, x = decide (0 ≤ fix (fun j => Li.getD j ⟨#[]⟩) nk Li.length) := ⟨_, rfl⟩
          rw [← hHB] at HT
          have HBH := Lib.hid hHB
          clear hHB
          obtain ⟨y0, y1, y2⟩ := Sa.out
          obtain ⟨z0, z1, z2⟩ := T3.out
          go_wp2_with fail
          obtain ⟨bm, hbm⟩ : ∃ bm, bm = wr.heap.size := ⟨_, rfl⟩
          obtain ⟨wb, hwb⟩ : ∃ x, x = wr.alloc (.cells #[.string nk, .int .i64 (X k), .int .i64 (Y k)] 51) := ⟨_, rfl⟩
          rw [← hwb] at HT
          rw [← hwb, ← hbm]
          rw [← hwb] at T3 BKa WKa BXa Sa B2a; rw [← hbm] at T3
          clear hwb hbm y0 y1 y2 z0 z1 z2 x0 x1 x2
          (with_reducible refine HT.out.mono ?_); rintro e w5 ⟨rfl, hb⟩
          have B5 := Lib.hid (b_next BKa.out hb); have W5 := Lib.hid (b_next WKa.out hb); have BX5 := Lib.hid (p2v_keep hb BXa.out); have S5 := Lib.hid (s3_keep hb Sa.out); have T5 := Lib.hid (s3_keep hb T3.out); have B25 := Lib.hid (b_next B2a.out hb)
          clear hb T3 BXa Sa
          cases HB with
          | false =>
            go_wp2_with fail
            go_roundw
            case rel => exact ⟨k + 1, HKL.out, by go_num, B5.out⟩
            case measure => have := HKL.out; simp [intOf]; omega
          | true =>
            obtain ⟨p1, p2, p3, p4, p5, p6⟩ := HPk.out (of_decide_eq_true HBH.out.symm)
            obtain ⟨x0, x1⟩ := BX5.out
            obtain ⟨y0, y1, y2⟩ := S5.out
            obtain ⟨z0, z1, z2⟩ := T5.out
            have al := b_alloc (Below.refl w5.heap.size w5) (.cells #[.string ni, .string nk] 9)
            have TWO := Lib.hid (sl_two w5 9 ni nk)
            have W6 := Lib.hid (b_next W5.out al); have B6 := Lib.hid (b_next B5.out al); have B26 := Lib.hid (b_next B25.out al)
            clear al
            go_wp2_with fail
            (with_reducible refine (LNk.out _ _ W6.out TWO.out).mono ?_); rintro e w7 ⟨rfl, hb⟩
            have B7 := Lib.hid (b_next B6.out hb); have B27 := Lib.hid (b_next B26.out hb)
            clear hb x0 x1 y0 y1 y2 z0 z1 z2
            have CI := Lib.hid (keep B27.out CIi.out); have CK := Lib.hid (keep B27.out CKk.out)
            have u9 : IntKind.i64.wrap (fi + dk) = fi + dk := IntWalk.i64_in _ (by omega)
            have u8 : ¬ fi + dk < fk := by omega
            go_wp2_with fail
            by_cases hneg : fi < 0
            · have hng2 : fk < 0 := p1.1 hneg
              clear p1
              refine d_region (by kernel_rfl) (by kernel_rfl) ?_
              repeat
                first
                  | (refine d_plain (by with_reducible rfl) ?_; apply Exists.intro; refine ⟨fun wq hc hq => ?_, ?_⟩)
                  | (refine d_on (by with_reducible rfl) (by rfl) (by with_reducible rfl) ?_; apply Exists.intro; refine ⟨fun wq hc hq => ?_, ?_⟩)
                  | (refine d_off (by with_reducible rfl) (by rfl) (by rfl) ?_)
                  | (refine d_void (by with_reducible rfl) (by rfl) ?_)
                try any_goals
                  (have t0 := keep (cls hq) CI.out; have t1 := keep (cls hq) CK.out; clear hc
                   go_simp
                   first
                     | rfl)
                simp only [Act.put, List.setIfInBounds_toArray, List.set_cons_zero, List.set_cons_succ]
              refine d_nil ?_
              intro w9 hb9
              have B9 := Lib.hid (b_next B7.out hb9)
              clear hb9
              go_wp2_with fail
              go_roundw
              case rel => exact ⟨k + 1, HKL.out, by go_num, B9.out⟩
              case measure => have := HKL.out; simp [intOf]; omega
            · have hng2 : ¬ fk < 0 := fun h => hneg (p1.2 h)
              clear p1
              refine d_region (by kernel_rfl) (by kernel_rfl) ?_
              repeat
                first
                  | (refine d_plain (by with_reducible rfl) ?_; apply Exists.intro; refine ⟨fun wq hc hq => ?_, ?_⟩)
                  | (refine d_on (by with_reducible rfl) (by rfl) (by with_reducible rfl) ?_; apply Exists.intro; refine ⟨fun wq hc hq => ?_, ?_⟩)
                  | (refine d_off (by with_reducible rfl) (by rfl) (by rfl) ?_)
                  | (refine d_void (by with_reducible rfl) (by rfl) ?_)
                try any_goals
                  (have t0 := keep (cls hq) CI.out; have t1 := keep (cls hq) CK.out; clear hc
                   go_simp
                   first
                     | rfl)
                simp only [Act.put, List.setIfInBounds_toArray, List.set_cons_zero, List.set_cons_succ]
              refine d_nil ?_
              intro w9 hb9
              have B9 := Lib.hid (b_next B7.out hb9)
              clear hb9
              go_wp2_with fail
              go_roundw
              case rel => exact ⟨k + 1, HKL.out, by go_num, B9.out⟩
              case measure => have := HKL.out; simp [intOf]; omega
        · have hkli : ¬ (k : Int) < (n : Int) := by omega
          have B2c := B2k.out
          obtain ⟨y0, y1, y2⟩ := Sk.out
          have ci := keep B2k.out CIi.out
          by_cases hs : ni = s
          · subst hs
            have hf0 := H0i.out rfl
            subst hf0
            go_wp2_with fail
            go_roundw
            case rel => exact ⟨i + 1, HLT.out, by go_num, B2k.out⟩
            case measure => have := HLT.out; simp [intOf]; omega
          · have hs1 : (ni.toList == s.toList) = false := by rw [seq_eq]; exact decide_eq_false hs
            go_wp2_with fail
            go_roundw
            case rel => exact ⟨i + 1, HLT.out, by go_num, B2k.out⟩
            case measure => have := HLT.out; simp [intOf]; omega
    · have hl : ¬ (i : Int) < (n : Int) := by omega
      go_wp2_with fail
      go_ret
      exact ⟨by first | rfl | exact retb rfl, WR.out⟩
theorem links_yes {c : Value} {n : Nat} {N : Nat → ByteArray} {X Y : Nat → Int} {m : Nat} {M : Nat → ByteArray} {l : Nat → Nat} {S : Nat → Nat → ByteArray} {w : World} (hv : CV w c n N X Y m M l S) (h0 : cerr n N X Y m M l S = 0) {s : ByteArray} (hs : 0 ≤ fix N s n) :
    Calls Try.prog 16 #[c, .string s] w fun e w' => (∃ v, e = .returned (.tuple #[v, .int .i64 0]) ∧ SL w' v (links l S s m)) ∧ Below w.heap.size w w' := by
  refine (linksC hv s).mono ?_
  rintro e w' ⟨h, hb⟩
  refine ⟨?_, hb⟩
  rcases h with ⟨E, -, -, -, h2⟩ | ⟨-, -, h⟩
  · have := h2 h0; omega
  · exact h
/-- Lengths of linked fixes. -/
theorem near_by {n : Nat} {N : Nat → ByteArray} {X Y : Nat → Int} {m : Nat} {M : Nat → ByteArray} {l : Nat → Nat} {S : Nat → Nat → ByteArray} (h : cerr n N X Y m M l S = 0) {a : Nat} {o : Nat → Int} (hF : Fin (gr n N X Y m l S) a noc o) (hbd : ∀ k, k < n → o k ≤ 640000000) {p q : Nat} (hp : p < n) (hq : q < n) (hm : gS n N q ∈ links l S (gS n N p) m) :
    (o p < 0 ↔ o q < 0) ∧ o q ≤ o p + dst n N X Y (gS n N p) (gS n N q) ∧ -1 ≤ o p ∧ o p ≤ 640000000 ∧ 0 ≤ dst n N X Y (gS n N p) (gS n N q) ∧ dst n N X Y (gS n N p) (gS n N q) ≤ 640000000 := by
  have adj : (gr n N X Y m l S).adj p q := (gr_adj h).2 ⟨hq, hm⟩
  have adj2 := (gr_ok h).sym p hp q adj
  have d1 := (gr_ok h).pos p hp q adj
  have d1 : 1 ≤ dst n N X Y (gS n N p) (gS n N q) ∧ dst n N X Y (gS n N p) (gS n N q) ≤ 10000000 := d1
  have l1 := hF.low p hp
  have l2 := hF.low q hq
  have b1 := hbd p hp
  have r1 := fun g => hF.rel p hp g q adj rfl
  have r2 := fun g => hF.rel q hq g p adj2 rfl
  have r1 : 0 ≤ o p → 0 ≤ o q ∧ o q ≤ o p + dst n N X Y (gS n N p) (gS n N q) := r1
  refine ⟨⟨fun g => ?_, fun g => ?_⟩, ?_, by omega, b1, by omega, by omega⟩
  · rcases Int.lt_or_le (o q) 0 with k | k
    · exact k
    · have := (r2 k).1; omega
  · rcases Int.lt_or_le (o p) 0 with k | k
    · exact k
    · have := (r1 k).1; omega
  · rcases Int.lt_or_le (o p) 0 with k | k
    · rcases Int.lt_or_le (o q) 0 with j | j
      · omega
      · have := (r2 j).1; omega
    · exact (r1 k).2
theorem walk (c_fixes : Value) (c_airways : Value) (fr : ByteArray) (W : World) (h_c_fixes : Frame.Okc W (.sl [.str, .int, .int]) c_fixes) (h_c_airways : Frame.Okc W (.sl [.str, .sl [.str]]) c_airways) (_h_fr : fr.size ≤ maxLen) :
    Calls Try.prog 5 #[.agg #[c_fixes, c_airways], .string fr] W fun e w' => e = .returned (.bool true) ∧ Below W.heap.size W w' := by
  obtain ⟨n, N, X, Y, m, M, l, S, hv⟩ := cv_of h_c_fixes h_c_airways
  have hv0 := hv
  obtain ⟨fx, aw, e, h1, h2⟩ := hv.ex
  injection e with e
  injection e with e
  injection e with e1 e2
  injection e2 with e2
  subst e1 e2
  obtain ⟨A, cf, rfl⟩ := fv_slice h1
  rcases lensC hv0 fr with ⟨hE, hl⟩ | ⟨-, a, hB, hl⟩
  · exact core_bad A n cf c_airways fr _ W hE (Lib.hid works) (Lib.hid hl)
  · have h := hB.chart
    have hla := hB.la
    have ps : ∀ i, i < n → pos n (gS n N) (N i) < n ∧ gS n N (pos n (gS n N) (N i)) = N i := fun i hi => pos_of (gS_has hi)
    have fxi : ∀ i, i < n → 0 ≤ fix N (N i) n := fun i hi => has_fix ⟨i, hi, rfl⟩
    refine core A n cf c_airways fr N X Y (fun i => links l S (N i) m) (fun F => ∃ o, F = (fun i => o (pos n (gS n N) (N i))) ∧ Fin (gr n N X Y m l S) a noc o ∧ ∀ k, k < n → o k ≤ 640000000) (fun i k => dst n N X Y (N i) (N k)) W (by omega) (cerr_ok h).1 (Lib.hid works) (Lib.hid h1)
      (Lib.hid fun w1 hb => (hl w1 hb).mono ?_) (Lib.hid fun i hi w1 hb => links_yes (cv_keep hb hv0) h (fxi i hi)) (Lib.hid fun i hi k hk w1 v hb hsl => ?_) (Lib.hid fun F hF i hi k hk hm => ?_) (Lib.hid fun F hF i hi hs => ?_)
    · rintro e w' ⟨⟨u, rfl, o, hiv, hfin, hbd⟩, hb⟩
      exact ⟨⟨u, rfl, _, hiv, o, rfl, hfin, hbd⟩, hb⟩
    · refine (lengthC (cv_keep hb hv0) hsl).mono ?_
      rintro e w' ⟨rfl, hb⟩
      refine ⟨?_, hb⟩
      rw [h]
      have e1 := two_len (X := X) (Y := Y) h (fxi i hi) (fxi k hk) 0 rfl
      have f : ferr (lerr n N (fun j => [N i, N k].getD j ⟨#[]⟩)) 2 = 0 := ferr_zero fun j hj => by
        unfold lerr
        match j, hj with
        | 0, _ => exact if_neg (by have := fxi i hi; show ¬ fix N (N i) n < 0; omega)
        | 1, _ => exact if_neg (by have := fxi k hk; show ¬ fix N (N k) n < 0; omega)
      have e2 : (lenR 0 n N X Y 2 (fun j => [N i, N k].getD j ⟨#[]⟩)).2 = 0 := by
        unfold lenR
        rw [if_neg (by simp), if_neg (by decide), if_neg (fun q => q f)]
      show Ending.returned (.tuple #[.int .i64 (lenR 0 n N X Y 2 (fun j => [N i, N k].getD j ⟨#[]⟩)).1, .int .i64 (lenR 0 n N X Y 2 (fun j => [N i, N k].getD j ⟨#[]⟩)).2]) = _
      rw [e1, e2]
    · obtain ⟨o, rfl, hfin, hbd⟩ := hF
      obtain ⟨p1, p2⟩ := ps i hi
      obtain ⟨q1, q2⟩ := ps k hk
      have hmem : gS n N (pos n (gS n N) (N k)) ∈ links l S (gS n N (pos n (gS n N) (N i))) m := by
        rw [p2, q2]
        obtain ⟨j, hj, ej⟩ := fix_has hm
        rw [← ej]
        exact link_at hj
      have q := near_by h hfin hbd p1 q1 hmem
      rw [p2, q2] at q
      exact q
    · obtain ⟨o, rfl, hfin, hbd⟩ := hF
      obtain ⟨p1, p2⟩ := ps i hi
      have : pos n (gS n N) (N i) = a := srt_inj (gS_srt (once h)) p1 hla (by rw [p2, hs, hB.ea])
      show o (pos n (gS n N) (N i)) = 0
      rw [this]
      exact hfin.zero
-- FRAME --

set_option maxRecDepth 100000 in
theorem lifted (os : Os) (started : os.Started) (H : Type) (enc : TypeId × Value → H) :
    ReturnsInHanded {} Try.checked os 5 .any (Rows.shortestStepsSpec.pre6 enc Try.prog Try.f5 Rows.shortestStepsRow.domain false) (Rows.shortestStepsSpec.post enc Try.prog Try.f5 false true false false) :=
  Frame.lifted (C := Try.checked) 5 Try.f5 Try.own started (by kernel_rfl) Try.func5 Try.laidOut rfl (by kernel_rfl) 4 rfl Try.underlying4
      (fun ds h => by match ds, h with | [_, _], _ => rfl)
      (ChangeSpec.witness6 (enc := enc) (C := Try.checked) false ⟨#[], #[.agg #[.slice none 0 0, .slice none 0 0], .string ⟨#[]⟩], []⟩ 8 (by kernel_rfl) (by kernel_rfl) (by kernel_rfl) (by kernel_rfl))
      (fun W base args ds ps hval0 hA _ => by
        have hval : ∀ (j : Nat) t v, Try.f5.params[j]? = some t → args[j]? = some v → Value.okWide Try.prog W .any base t v := hval0
        have hA' : DataW.TrodAll enc Try.prog W 0 (fun _ => true) true Try.f5.params.toList args.toList ds ps := hA
        clear hval0 hA
        have hA := hA'
        clear hA'
        rw [Try.params5] at hA hval
        obtain ⟨v0, vs0, d0, ds0, p0, q0, ea, rfl, rfl, tr0, rest0⟩ := trodAll_cons hA
        obtain ⟨v1, vs1, d1, ds1, p1, q1, rfl, rfl, rfl, tr1, rest1⟩ := trodAll_cons rest0
        obtain ⟨rfl, rfl, rfl⟩ := trodAll_nil rest1
        obtain rfl : args = #[v0, v1] := by cases args; simp_all
        clear ea
        obtain ⟨cs_c, e_c, hl_c, hc_c⟩ := Frame.arg_agg Try.underlying37 (k := 8) (ks := [.sl [.str, .int, .int], .sl [.str, .sl [.str]]]) (by kernel_rfl) (hval 0 _ v0 rfl rfl) tr0
        subst e_c
        obtain ⟨c_c_fixes, c_c_airways, rfl⟩ : ∃ c_c_fixes c_c_airways, cs_c = [c_c_fixes, c_c_airways] := by match cs_c, hl_c with | [x0, x1], _ => exact ⟨x0, x1, rfl⟩
        have o_c_fixes : Frame.Okc W (.sl [.str, .int, .int]) c_c_fixes := hc_c 0 (by decide) (by simp)
        have o_c_airways : Frame.Okc W (.sl [.str, .sl [.str]]) c_c_airways := hc_c 1 (by decide) (by simp)
        obtain ⟨fr, e_fr⟩ := okWide_string Try.underlying9 (hval 1 _ v1 rfl rfl)
        subst e_fr
        obtain ⟨fr', e_fr, z_fr⟩ := (Frame.arg_cell (k := 8) (kd := .str) (by kernel_rfl) rfl tr1).str_inv
        obtain rfl : fr = fr' := by injection e_fr
        exact walk c_c_fixes c_c_airways fr W o_c_fixes o_c_airways z_fr)

/-- The statement. -/
theorem proved : Rows.ShortestStepsSaid :=
  OpenClaim.holds_of_wide 5 Try.f5 rfl rfl rfl rfl rfl rfl rfl ⟨rfl, rfl, rfl, rfl, rfl⟩ rfl rfl rfl rfl rfl (by kernel_rfl) Try.func5 (by kernel_rfl)
    (of_decide_eq_true (by kernel_rfl)) (by unfold Func.isWrapper; first | (rw [if_pos (by decide +kernel)]; kernel_rfl) | (rw [if_neg (by decide +kernel)]; exact ⟨rfl, rfl⟩))
    (fun os started H enc _ => lifted os started H enc)
#print axioms proved
end ShortestSteps
end Go.Proofs.Ytokioemmjfjhkaa

