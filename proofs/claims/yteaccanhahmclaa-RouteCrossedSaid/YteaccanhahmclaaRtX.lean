/- skywayref1.HasText and route.Crossed: what they return. -/
import Derived.Test.YteaccanhahmclaaRvC
import Derived.Test.YteaccanhahmclaaRtL
import Derived.Test.YteaccanhahmclaaExpW
import Derived.Test.YteaccanhahmclaaPolyG
namespace Go.Proofs.Yteaccanhahmclaa
open Go.RowKit
namespace Route
open Kit Plane Poly Chart Vol
theorem info_s : (Try.prog.info? 9).map (fun i => (i.zero, i.size, i.bytes)) = some (some (.string ⟨#[]⟩), 1, 16) := by kernel_rfl
set_option maxRecDepth 100000 in
set_option maxHeartbeats 8000000 in
theorem hasT_w (n cap b off : Nat) (S : Nat → ByteArray) (s : ByteArray) (w : World) (_hc : n ≤ cap) (_hm : cap ≤ 9223372036854775807) (HV : Hid (∀ k, k < n → w.cell? ⟨b, off + k, none⟩ = some (.string (S k)))) :
    Calls Try.prog 25 #[.slice (some ⟨b, off, none⟩) n cap, .string s] w fun e w' => e = .returned (.bool (decide (0 ≤ fix S s n))) ∧ Below w.heap.size w w' := by
  go_enter Try.func25, Try.ntmps25
  obtain ⟨r, hr⟩ : ∃ r, r = fix S s n := ⟨_, rfl⟩
  rw [← hr]
  have HR := Lib.hid hr; clear hr
  go_wp2_with fail
  go_loopw [9] (fun t wr => ∃ k : Nat, k ≤ n ∧ t = .int .i64 k ∧ (∀ j, j < k → decide (S j = s) = false) ∧ Below w.heap.size w wr) (fun t _ => n - (intOf t).toNat)
  case atStart => exact ⟨0, Nat.zero_le _, rfl, fun j hj => absurd hj (Nat.not_lt_zero j), Below.refl _ _⟩
  case round =>
    obtain ⟨k, hk, rfl, hno, hbl⟩ := hrel
    have HN := Lib.hid hno; have HB := Lib.hid hbl; clear hno
    by_cases hlt : k < n
    · have c0 := keep hbl (HV.out k hlt)
      have hl : (k : Int) < (n : Int) := by omega
      have HS := Lib.hid (show ∀ hh : decide (S k = s) = false, ∀ j, j < k + 1 → decide (S j = s) = false from fun hh j hj => by
        rcases Nat.lt_or_ge j k with hl | hl
        · exact HN.out j hl
        · rw [show j = k from by omega]; exact hh)
      have HT := Lib.hid (show ∀ hh : decide (S k = s) = true, r = k from fun hh => by rw [HR.out]; exact fnd_at HN.out hh n hlt)
      have hq := seq_eq (S k) s
      clear hbl
      generalize decide (S k = s) = d at *
      cases d with
      | true =>
        have e := HT.out rfl
        have E := Lib.hid e; clear e
        go_wp2_with fail
        go_ret
        exact ⟨retb (by rw [E.out]; simp), HB.out⟩
      | false =>
        go_wp2_with fail
        exact ⟨⟨k + 1, by omega, by go_num, (by first | exact HS.out rfl | exact HS.out trivial), HB.out⟩, by simp [intOf]; omega⟩
    · have he : k = n := by omega
      have hl : ¬ (k : Int) < (n : Int) := by omega
      have e : r = -1 := by rw [HR.out]; exact fnd_no (fun j hj => HN.out j (by omega))
      subst e
      clear hbl
      go_wp2_with fail
      go_ret
      exact ⟨by first | rfl | exact retb (by decide), HB.out⟩
set_option maxHeartbeats 1000000 in
theorem hasT_none (A : Option Addr) (cap : Nat) (s : ByteArray) (w : World) :
    Calls Try.prog 25 #[.slice A 0 cap, .string s] w fun e w' => e = .returned (.bool false) ∧ Below w.heap.size w w' := by
  go_enter Try.func25, Try.ntmps25
  go_wp2_with fail
  go_loopw [9] (fun s wr => s = .int .i64 0 ∧ Below w.heap.size w wr) (fun _ _ => 0)
  case atStart => exact ⟨rfl, Below.refl _ _⟩
  case round =>
    obtain ⟨rfl, hbl⟩ := hrel
    go_wp2_with fail
    all_goals (go_ret; exact ⟨rfl, hbl⟩)
theorem hasTC {v : Value} {n : Nat} {S : Nat → ByteArray} {w : World} (hv : SV w v n S) (s : ByteArray) :
    Calls Try.prog 25 #[v, .string s] w fun e w' => e = .returned (.bool (decide (0 ≤ fix S s n))) ∧ Below w.heap.size w w' := by
  rcases hv with ⟨rfl, h⟩ | ⟨h0, b, off, cap, rfl, hc, hm, HV⟩
  · rcases h with rfl | ⟨a, cap, rfl, -⟩
    · exact hasT_none none 0 s w
    · exact hasT_none (some a) cap s w
  · exact hasT_w n cap b off S s w hc (Nat.le_trans hm (by decide)) (Lib.hid HV)
/-- The volume meets one of the first legs. -/
def crx (d : Vd) (X Y : Nat → Int) : Nat → Bool
  | 0 => false
  | i + 1 => crx d X Y i || (decide (0 < i) && (meets d.n d.X d.Y (X (i - 1)) (Y (i - 1)) (X i) (Y i)).1)
theorem crx_iff {d : Vd} {X Y : Nat → Int} : ∀ {n : Nat}, crx d X Y n = true ↔ ∃ i, 0 < i ∧ i < n ∧ (meets d.n d.X d.Y (X (i - 1)) (Y (i - 1)) (X i) (Y i)).1 = true
  | 0 => ⟨(fun h => by cases h), fun ⟨i, _, h, _⟩ => absurd h (Nat.not_lt_zero i)⟩
  | n + 1 => by
    show (crx d X Y n || (decide (0 < n) && (meets d.n d.X d.Y (X (n - 1)) (Y (n - 1)) (X n) (Y n)).1)) = true ↔ _
    rw [Bool.or_eq_true, crx_iff, Bool.and_eq_true, decide_eq_true_eq]
    constructor
    · rintro (⟨i, h0, h1, h2⟩ | ⟨h0, h1⟩)
      · exact ⟨i, h0, by omega, h2⟩
      · exact ⟨n, h0, Nat.lt_succ_self n, h1⟩
    · rintro ⟨i, h0, h1, h2⟩
      rcases Nat.lt_or_ge i n with hl | hl
      · exact Or.inl ⟨i, h0, hl, h2⟩
      · obtain rfl : i = n := by omega
        exact Or.inr ⟨h0, h2⟩
/-- The names of the first volumes that a route crosses. -/
def cnm (D : Nat → Vd) (c : Nat → Bool) : Nat → List ByteArray
  | 0 => []
  | k + 1 => if c k then cnm D c k ++ [(D k).N] else cnm D c k
theorem cnm_len (D : Nat → Vd) (c : Nat → Bool) : ∀ k, (cnm D c k).length ≤ k
  | 0 => Nat.le_refl _
  | k + 1 => by
    have := cnm_len D c k
    unfold cnm
    split
    · simp; omega
    · omega
theorem cnm_mem {D : Nat → Vd} {c : Nat → Bool} {i : Nat} (h : c i = true) : ∀ {k : Nat}, i < k → (D i).N ∈ cnm D c k
  | 0, hk => absurd hk (Nat.not_lt_zero i)
  | k + 1, hk => by
    unfold cnm
    rcases Nat.lt_or_ge i k with hl | hl
    · split
      · exact List.mem_append_left _ (cnm_mem h hl)
      · exact cnm_mem h hl
    · obtain rfl : i = k := by omega
      rw [if_pos h]; exact List.mem_append_right _ (List.mem_singleton.2 rfl)
theorem cnm_congr {D : Nat → Vd} {c c' : Nat → Bool} : ∀ {k : Nat}, (∀ i, i < k → c i = c' i) → cnm D c k = cnm D c' k
  | 0, _ => rfl
  | k + 1, h => by
    unfold cnm
    rw [cnm_congr fun i hi => h i (by omega), h k (Nat.lt_succ_self k)]
theorem grow_vs {N : Nat} {W w w1 : World} {v : Value} {base : Nat} {E : TypeId} {n : Nat} {xs : List Value} (hb : Below N W w) (h : w.ownsRow base E 1 v n xs) (hg : w.grownBy w1 v.ownBlock) (hN : N ≤ base) (hs : N ≤ w.heap.size) : Below N W w1 :=
  hb.grown hg hs (fun k hk => Nat.le_trans hN (by
    rcases h.2 with ⟨rfl, -⟩ | ⟨g, cap, cur, rfl, h1, -⟩
    · simp [Value.ownBlock] at hk
    · simp [Value.ownBlock] at hk; omega))
set_option maxRecDepth 100000 in
set_option maxHeartbeats 8000000 in
theorem crossed_bad (v1 v2 : Value) (E : Int) (w : World) (hE1 : (E != 0) = true) (CK : Hid (∀ w1, Below w.heap.size w w1 → Calls Try.prog 110 #[v1] w1 fun e w' => e = .returned (.int .i64 E) ∧ Below w1.heap.size w1 w')) :
    Calls Try.prog 49 #[v1, v2] w fun e w' => e = .returned (.tuple #[.slice none 0 0, .int .i64 E]) ∧ Below w.heap.size w w' := by
  have hE0 : (E == 0) = false := by simpa using hE1
  go_enter Try.func49, Try.ntmps49
  go_wp2_with fail
  (with_reducible refine (CK.out _ (Below.refl _ _)).mono ?_); rintro e w1 ⟨rfl, hb⟩
  have W1 := Lib.hid hb; clear hb
  go_wp2_with fail
  refine bodyPost_ret (v := .tuple #[.slice none 0 0, .int .i64 E]) (by simp [results, Try.results49, go_sem]) rfl ⟨rfl, ?_⟩
  exact W1.out
set_option maxRecDepth 100000 in
set_option maxHeartbeats 8000000 in
theorem crossed_bad2 (v1 v2 : Value) (E : Int) (w : World) (hE1 : (E != 0) = true) (CK : Hid (∀ w1, Below w.heap.size w w1 → Calls Try.prog 110 #[v1] w1 fun e w' => e = .returned (.int .i64 0) ∧ Below w1.heap.size w1 w')) (CV : Hid (∀ w1, Below w.heap.size w w1 → Calls Try.prog 89 #[v2] w1 fun e w' => e = .returned (.int .i64 E) ∧ Below w1.heap.size w1 w')) :
    Calls Try.prog 49 #[v1, v2] w fun e w' => e = .returned (.tuple #[.slice none 0 0, .int .i64 E]) ∧ Below w.heap.size w w' := by
  have hE0 : (E == 0) = false := by simpa using hE1
  go_enter Try.func49, Try.ntmps49
  go_wp2_with fail
  (with_reducible refine (CK.out _ (Below.refl _ _)).mono ?_); rintro e w1 ⟨rfl, hb⟩
  have W1 := Lib.hid hb; clear hb
  go_wp2_with fail
  (with_reducible refine (CV.out _ W1.out).mono ?_); rintro e w2 ⟨rfl, hb⟩
  have W2 := Lib.hid (b_next W1.out hb); clear hb
  go_wp2_with fail
  refine bodyPost_ret (v := .tuple #[.slice none 0 0, .int .i64 E]) (by simp [results, Try.results49, go_sem]) rfl ⟨rfl, ?_⟩
  exact W2.out
set_option maxRecDepth 100000 in
set_option maxHeartbeats 8000000 in
theorem crossed_ok (A B : Option Addr) (n c m d : Nat) (NN : Nat → ByteArray) (X Y : Nat → Int) (D : Nat → Vd) (w : World) (hn : n ≤ 64) (hm : m ≤ 16) (_hmd : m ≤ d) (hdm : d ≤ maxLen) (HF : Hid (FV w (.slice A n c) n NN X Y)) (HV : Hid (RV w (.slice B m d) m D))
    (HE : Hid (∀ k, k < m → ∀ i, 0 < i → i < n → (meets (D k).n (D k).X (D k).Y (X (i - 1)) (Y (i - 1)) (X i) (Y i)).2 = 0))
    (CK : Hid (∀ w1, Below w.heap.size w w1 → Calls Try.prog 110 #[.slice A n c] w1 fun e w' => e = .returned (.int .i64 0) ∧ Below w1.heap.size w1 w')) (CV : Hid (∀ w1, Below w.heap.size w w1 → Calls Try.prog 89 #[.slice B m d] w1 fun e w' => e = .returned (.int .i64 0) ∧ Below w1.heap.size w1 w')) :
    Calls Try.prog 49 #[.slice A n c, .slice B m d] w fun e w' => (∃ v, e = .returned (.tuple #[v, .int .i64 0]) ∧ w'.ownsRow w.heap.size 9 1 v (cnm D (fun k => crx (D k) X Y n) m).length (vs (cnm D (fun k => crx (D k) X Y n) m))) ∧ Below w.heap.size w w' := by
  have hd9 : d ≤ 9223372036854775807 := Nat.le_trans hdm (by decide)
  obtain ⟨i0, hi, hz0, hz1, hz2⟩ := info_parts info_s
  have IN := Lib.hid (And.intro hi (And.intro hz0 (And.intro hz1 hz2))); clear hi hz0 hz1 hz2
  go_enter Try.func49, Try.ntmps49
  go_wp2_with fail
  (with_reducible refine (CK.out _ (Below.refl _ _)).mono ?_); rintro e w1 ⟨rfl, hb⟩
  have W1 := Lib.hid hb; clear hb
  go_wp2_with fail
  (with_reducible refine (CV.out _ W1.out).mono ?_); rintro e w2 ⟨rfl, hb⟩
  have W2 := Lib.hid (b_next W1.out hb); clear hb
  go_wp2_with fail
  go_loopw [8, 26] (fun v s wr => ∃ k : Nat, k ≤ m ∧ s = .int .i64 k ∧ wr.ownsRow w.heap.size 9 1 v (cnm D (fun k => crx (D k) X Y n) k).length (vs (cnm D (fun k => crx (D k) X Y n) k)) ∧ Below w.heap.size w wr) (fun _ s _ => m - (intOf s).toNat)
  case atStart => exact ⟨0, Nat.zero_le _, rfl, ⟨rfl, Or.inl ⟨rfl, rfl⟩⟩, W2.out⟩
  case round =>
    obtain ⟨k, hk, rfl, hown, hbl⟩ := hrel
    have OW := Lib.hid hown; have WR := Lib.hid hbl; clear hown
    by_cases hlt : k < m
    · have hl : (k : Int) < (m : Int) := by omega
      obtain ⟨b, off, c', e, hc1, hc2, h3⟩ := rv_at (rv_keep hbl HV.out) (by omega)
      injection e with e1 _ e3
      subst e1 e3
      obtain ⟨va, vc, c5, qa, qc⟩ := h3 k hlt
      obtain ⟨A1, ca1, rfl, -⟩ := qv_slice qa
      obtain ⟨A2, ca2, rfl, -⟩ := qv_slice qc
      have WA := b_alloc (Below.refl wr.heap.size wr) (.cells #[.string (D k).N, .slice A1 (D k).n ca1, .int .i64 (D k).l, .int .i64 (D k).h, .slice A2 (D k).m ca2] 86)
      have NA := Lib.hid (v5_new wr 86 (D k).N (.slice A1 (D k).n ca1) (D k).l (D k).h (.slice A2 (D k).m ca2))
      have QA := Lib.hid (qv_keep WA qa)
      have OA := Lib.hid (own_vs WA OW.out)
      have BA := Lib.hid (b_next WR.out WA)
      have NXT : Hid (∀ B, B = crx (D k) X Y n → cnm D (fun k => crx (D k) X Y n) (k + 1) = if B then cnm D (fun k => crx (D k) X Y n) k ++ [(D k).N] else cnm D (fun k => crx (D k) X Y n) k) := Lib.hid fun B hB => by rw [hB]; rfl
      have LL := cnm_len D (fun k => crx (D k) X Y n) k
      obtain ⟨x0, x1, x2, x3, x4⟩ := c5
      clear hbl h3 qa qc WA OW
      generalize cnm D (fun k => crx (D k) X Y n) k = T at *
      obtain ⟨bn, hbn⟩ : ∃ bn, bn = wr.heap.size := ⟨_, rfl⟩
      go_wp2_with fail
      rw [← hbn] at NA ⊢
      clear x0 x1 x2 x3 x4 hbn
      generalize wr.alloc (.cells #[.string (D k).N, .slice A1 (D k).n ca1, .int .i64 (D k).l, .int .i64 (D k).h, .slice A2 (D k).m ca2] 86) = wa at *
      go_loopw [8, 11] (fun v' u wi => ∃ i : Nat, 1 ≤ i ∧ (i ≤ n ∨ i = 1) ∧ u = .int .i64 i ∧ v' = u8 ∧ crx (D k) X Y i = false ∧ Below wa.heap.size wa wi) (fun _ u _ => n - (intOf u).toNat)
      case atStart => exact ⟨1, Nat.le_refl _, Or.inr rfl, rfl, rfl, rfl, Below.refl _ _⟩
      case round =>
        obtain ⟨i, hi1, hi, rfl, rfl, hno, hbl⟩ := hrel
        have HNO := Lib.hid hno; have BI := Lib.hid hbl; clear hno
        have BW := Lib.hid (b_next BA.out hbl)
        by_cases hlt2 : i < n
        · have hl2 : (i : Int) < (n : Int) := by omega
          obtain ⟨P, hP⟩ : ∃ P, P = i - 1 := ⟨_, rfl⟩
          obtain ⟨fb, fo, fc, e, fc1, fc2, f3⟩ := fv_at (fv_keep BW.out HF.out) (by omega)
          injection e with e1 _ e3
          subst e1 e3
          have fc3 : c ≤ 9223372036854775807 := Nat.le_trans fc2 (by decide)
          have ki := f3 i hlt2; have kp := f3 P (by omega)
          have P1 := Lib.hid (And.intro kp.c1 kp.c2); have P2 := Lib.hid (And.intro ki.c1 ki.c2)
          have VA := Lib.hid (v5_keep hbl NA.out)
          have MEC := Lib.hid fun (w' : World) (hb : Below wa.heap.size wa w') => meetsC (qv_keep hb QA.out) (X P) (Y P) (X i) (Y i)
          have me := HE.out k hlt i (by omega) hlt2
          have STEP : Hid (∀ B, B = (meets (D k).n (D k).X (D k).Y (X P) (Y P) (X i) (Y i)).1 → crx (D k) X Y (i + 1) = B) := Lib.hid fun B hB => by
            rw [hB]
            show (crx (D k) X Y i || (decide (0 < i) && (meets (D k).n (D k).X (D k).Y (X (i - 1)) (Y (i - 1)) (X i) (Y i)).1)) = _
            rw [HNO.out, decide_eq_true (show 0 < i by omega), ← hP]; rfl
          rw [← hP] at me
          rw [me] at MEC
          have u1' : IntKind.i64.wrap ((i : Int) - 1) = (P : Int) := by rw [IntWalk.i64_in _ (by omega)]; omega
          have hPn : (P : Int) < (n : Int) := by omega
          clear f3 ki kp hP me hbl
          obtain ⟨B, hB⟩ : ∃ B, B = (meets (D k).n (D k).X (D k).Y (X P) (Y P) (X i) (Y i)).1 := ⟨_, rfl⟩
          rw [← hB] at MEC
          have ST := Lib.hid (STEP.out B hB)
          clear hB STEP
          have U1 := Lib.hid u1'; clear u1'
          have u1 := U1.out
          cases B with
          | false =>
            go_wp2_with fail
            refine d_region (by kernel_rfl) (by kernel_rfl) ?_
            repeat
              first
                | (refine d_plain (by with_reducible rfl) ?_; apply Exists.intro; refine ⟨fun wq hc hq => ?_, ?_⟩)
                | (refine d_on (by with_reducible rfl) (by rfl) (by with_reducible rfl) ?_; apply Exists.intro; refine ⟨fun wq hc hq => ?_, ?_⟩)
                | (refine d_off (by with_reducible rfl) (by rfl) (by rfl) ?_)
                | (refine d_void (by with_reducible rfl) (by rfl) ?_)
              try any_goals
                (have q0 := keep (cls hq) VA.out.c1; have q1 := keep (cls hq) P1.out.1; have q2 := keep (cls hq) P1.out.2; have q3 := keep (cls hq) P2.out.1; have q4 := keep (cls hq) P2.out.2; clear hc
                 go_simp
                 first
                   | rfl
                   | (go_at_call 111; with_reducible exact call_below hq (MEC.out _ (b_next BI.out (cls hq)))))
              simp only [Act.put, List.setIfInBounds_toArray, List.set_cons_zero, List.set_cons_succ]
            refine d_nil ?_
            intro w3 hb3
            clear u1
            have B3 := Lib.hid (b_next BI.out hb3)
            clear hb3
            go_wp2_with fail
            go_roundw
            case rel => exact ⟨i + 1, by omega, by omega, by go_num, rfl, ST.out, B3.out⟩
            case measure => simp [intOf]; omega
          | true =>
            have C : Hid (true = crx (D k) X Y n) := Lib.hid (crx_iff.2 (by
              obtain ⟨a, h0, h1, h2⟩ := crx_iff.1 ST.out
              exact ⟨a, h0, by omega, h2⟩)).symm
            have NX2 := Lib.hid (NXT.out true C.out)
            go_wp2_with fail
            refine d_region (by kernel_rfl) (by kernel_rfl) ?_
            repeat
              first
                | (refine d_plain (by with_reducible rfl) ?_; apply Exists.intro; refine ⟨fun wq hc hq => ?_, ?_⟩)
                | (refine d_on (by with_reducible rfl) (by rfl) (by with_reducible rfl) ?_; apply Exists.intro; refine ⟨fun wq hc hq => ?_, ?_⟩)
                | (refine d_off (by with_reducible rfl) (by rfl) (by rfl) ?_)
                | (refine d_void (by with_reducible rfl) (by rfl) ?_)
              try any_goals
                (have q0 := keep (cls hq) VA.out.c1; have q1 := keep (cls hq) P1.out.1; have q2 := keep (cls hq) P1.out.2; have q3 := keep (cls hq) P2.out.1; have q4 := keep (cls hq) P2.out.2; clear hc
                 go_simp
                 first
                   | rfl
                   | (go_at_call 111; with_reducible exact call_below hq (MEC.out _ (b_next BI.out (cls hq)))))
              simp only [Act.put, List.setIfInBounds_toArray, List.set_cons_zero, List.set_cons_succ]
            refine d_nil ?_
            intro w3 hb3
            clear u1
            have W3 := Lib.hid (b_next (b_next BA.out BI.out) hb3); have O3 := Lib.hid (own_vs (b_next BI.out hb3) OA.out)
            have v0 := keep hb3 VA.out.c0
            clear hb3
            have WS := Lib.hid (b_alloc W3.out (.cells #[.string (D k).N] 9))
            have OS := Lib.hid (own_vs (b_alloc (Below.refl w3.heap.size w3) (.cells #[.string (D k).N] 9)) O3.out)
            have NS : Hid (∀ j u, ([.string (D k).N] : List Value)[j]? = some u → (w3.alloc (.cells #[.string (D k).N] 9)).cell? ((⟨w3.heap.size, 0, none⟩ : Addr).add j) = some u) := Lib.hid fun j u hu => by
              rw [Go.WideShapes.add_plain]
              have hj : j < 1 := (List.getElem?_eq_some_iff.1 hu).1
              obtain rfl : j = 0 := by omega
              simpa using hu
            have SZ := Lib.hid (show w.heap.size ≤ (w3.alloc (.cells #[.string (D k).N] 9)).heap.size from WS.out.size)
            go_wp2_with (at_builtin; refine wpList_append_own _ rfl (.tmp 55) (.tmp 58) 46 rfl w.heap.size 9 i0 _ 1 16 Try.underlying46 IN.out.1 IN.out.2.1 IN.out.2.2.1 IN.out.2.2.2 rfl (by decide) _ T.length _ rfl OS.out ⟨w3.heap.size, 0, none⟩ 1 1 [.string (D k).N] rfl rfl NS.out (by simp [Value.oneCell']) (by unfold maxLen; omega) (by omega) SZ.out ?_; intro v2 w6 hown1' hg1' hnil1; have hown1 := Lib.hid hown1'; have hg1 := Lib.hid hg1'; clear hnil1 hown1' hg1')
            have O6 : Hid (w6.ownsRow w.heap.size 9 1 v2 (T ++ [(D k).N]).length (vs (T ++ [(D k).N]))) := Lib.hid (by
              have q := hown1.out
              rw [List.length_append]
              unfold vs at q ⊢
              rw [List.map_append]
              exact q)
            have W6 := Lib.hid (grow_vs WS.out OS.out hg1.out (Nat.le_refl _) SZ.out)
            clear hown1 hg1
            go_wp2_with fail
            go_roundw
            case rel => exact ⟨k + 1, by omega, by go_num, by rw [NX2.out]; first | (rw [if_pos rfl]; exact O6.out) | (rw [if_pos trivial]; exact O6.out), W6.out⟩
            case measure => simp [intOf]; omega
        · have hl2 : ¬ (i : Int) < (n : Int) := by omega
          have C : Hid (false = crx (D k) X Y n) := Lib.hid (by
            rcases hi with h | h
            · rw [show n = i by omega]; exact HNO.out.symm
            · rw [h] at hlt2
              rcases (show n = 0 ∨ n = 1 by omega) with rfl | rfl <;> rfl)
          have NX2 := Lib.hid (NXT.out false C.out)
          have O3 := Lib.hid (own_vs hbl OA.out)
          clear hbl
          go_wp2_with fail
          go_roundw
          case rel => exact ⟨k + 1, by omega, by go_num, by rw [NX2.out, if_neg (by decide)]; exact O3.out, BW.out⟩
          case measure => simp [intOf]; omega
    · have hkm : m = k := by omega
      subst hkm
      clear hbl
      have hlk : ¬ (m : Int) < (m : Int) := by omega
      go_wp2_with fail
      refine bodyPost_ret (v := .tuple #[u8, .int .i64 0]) (by simp [results, Try.results49, go_sem]) rfl ⟨⟨u8, rfl, OW.out⟩, WR.out⟩
/-- route.Crossed, whatever comes. -/
def crE (n : Nat) (X Y : Nat → Int) (m : Nat) (D : Nat → Vd) : Int := if rck n X Y ≠ 0 then rck n X Y else rvck m D
def CrR (n : Nat) (X Y : Nat → Int) (m : Nat) (D : Nat → Vd) (w : World) (e : Ending) (w' : World) : Prop :=
  (crE n X Y m D ≠ 0 ∧ e = .returned (.tuple #[.slice none 0 0, .int .i64 (crE n X Y m D)])) ∨
  (crE n X Y m D = 0 ∧ ∃ v, e = .returned (.tuple #[v, .int .i64 0]) ∧ w'.ownsRow w.heap.size 9 1 v (cnm D (fun k => crx (D k) X Y n) m).length (vs (cnm D (fun k => crx (D k) X Y n) m)))
theorem meets_ok {n : Nat} {X Y : Nat → Int} {ax ay bx by' : Int} (h : pck n X Y = 0) (ga : good ax ay) (gb : good bx by') : meets n X Y ax ay bx by' = (decide (0 ≤ place n X Y ax ay) || mee n X Y ax ay bx by' n, 0) := by
  unfold meets
  rw [if_neg (fun e => e h), if_neg (by rw [goodB_iff.2 ga, goodB_iff.2 gb]; decide)]
  by_cases hp : 0 ≤ place n X Y ax ay
  · rw [if_pos hp, decide_eq_true hp]; rfl
  · rw [if_neg hp, decide_eq_false hp]; rfl
theorem crossedC {v1 v2 : Value} {n m : Nat} {NN : Nat → ByteArray} {X Y : Nat → Int} {D : Nat → Vd} {w : World} (hf : FV w v1 n NN X Y) (hv : RV w v2 m D) : ∀ w1, Below w.heap.size w w1 →
    Calls Try.prog 49 #[v1, v2] w1 fun e w' => CrR n X Y m D w1 e w' ∧ Below w1.heap.size w1 w' := fun w1 hb => by
  have CK := fun w2 hb2 => rcheckC (fv_keep hb hf) w2 hb2
  have CV := fun w2 hb2 => rvC (rv_keep hb hv) w2 hb2
  have hf1 := fv_keep hb hf; have hv1 := rv_keep hb hv
  unfold CrR crE
  by_cases h1 : rck n X Y = 0
  · rw [h1] at CK
    rw [if_neg (fun e => e h1)]
    by_cases h2 : rvck m D = 0
    · obtain ⟨hn, hg⟩ := rck_ok h1
      obtain ⟨hm, hok⟩ := rvck_ok h2
      rw [h2] at CV ⊢
      obtain ⟨A, c, rfl⟩ := fv_slice hf
      obtain ⟨B, d, rfl, hd1, hd2⟩ := rv_slice hv
      exact (crossed_ok A B n c m d NN X Y D w1 hn hm hd1 hd2 (Lib.hid hf1) (Lib.hid hv1) (Lib.hid fun k hk i h0 hi => by rw [meets_ok (hok k hk).2.1 (hg (i - 1) (by omega)) (hg i hi)]) (Lib.hid CK) (Lib.hid CV)).mono fun e w' hh => ⟨Or.inr ⟨rfl, hh.1⟩, hh.2⟩
    · exact (crossed_bad2 v1 v2 _ w1 (by simpa using h2) (Lib.hid CK) (Lib.hid CV)).mono fun e w' hh => ⟨Or.inl ⟨h2, hh.1⟩, hh.2⟩
  · rw [if_pos h1]
    exact (crossed_bad v1 v2 _ w1 (by simpa using h1) (Lib.hid CK)).mono fun e w' hh => ⟨Or.inl ⟨h1, hh.1⟩, hh.2⟩
end Route
end Go.Proofs.Yteaccanhahmclaa
