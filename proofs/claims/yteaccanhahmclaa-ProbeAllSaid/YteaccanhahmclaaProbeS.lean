/- probe.spans and probe.Pair: what they return. -/
import Derived.Test.YteaccanhahmclaaProbeC
import Derived.Test.YteaccanhahmclaaSpan
namespace Go.Proofs.Yteaccanhahmclaa
open Go.RowKit
namespace Probe
open Kit Plane Tube
abbrev CmC (u v : Value) (a z : Int) (w : World) : Prop := ∀ w1, Below w.heap.size w w1 → Calls Try.prog 142 #[u, v] w1 fun e w' => e = .returned (.tuple #[.int .i64 a, .int .i64 z]) ∧ Below w1.heap.size w1 w'
set_option maxRecDepth 100000 in
set_option maxHeartbeats 2000000 in
theorem common_w (n cap b off n' cap' b' off' : Nat) (T X Y H R B T' X' Y' H' R' B' : Nat → Int) (w : World) (h0 : 0 < n) (hn : n ≤ 64) (_hc : n ≤ cap) (_hm : cap ≤ 9223372036854775807) (h0' : 0 < n') (hn' : n' ≤ 64) (_hc' : n' ≤ cap') (_hm' : cap' ≤ 9223372036854775807)
    (HV : Hid (∀ k, k < n → S6 w b (off + k * 6) (T k) (X k) (Y k) (H k) (R k) (B k))) (HV' : Hid (∀ k, k < n' → S6 w b' (off' + k * 6) (T' k) (X' k) (Y' k) (H' k) (R' k) (B' k))) :
    Calls Try.prog 142 #[.slice (some ⟨b, off, none⟩) n cap, .slice (some ⟨b', off', none⟩) n' cap'] w fun e w' => e = .returned (.tuple #[.int .i64 (max (T 0) (T' 0)), .int .i64 (min (T (n - 1)) (T' (n' - 1)))]) ∧ Below w.heap.size w w' := by
  go_enter Try.func142, Try.ntmps142
  have e0 := HV.out 0 h0
  rw [Nat.zero_mul, Nat.add_zero] at e0
  have E0 := Lib.hid e0; have E1 := Lib.hid (HV.out (n - 1) (by omega)); clear e0
  have e0 := HV'.out 0 h0'
  rw [Nat.zero_mul, Nat.add_zero] at e0
  have F0 := Lib.hid e0; have F1 := Lib.hid (HV'.out (n' - 1) (by omega)); clear e0
  have u0 : (0 : Int) < (n : Int) := by omega
  have u1 : IntKind.i64.wrap ((n : Int) - 1) = ((n - 1 : Nat) : Int) := by rw [IntWalk.i64_in _ (by omega)]; omega
  have u2 : ((n - 1 : Nat) : Int) < (n : Int) := by omega
  have v0 : (0 : Int) < (n' : Int) := by omega
  have v1 : IntKind.i64.wrap ((n' : Int) - 1) = ((n' - 1 : Nat) : Int) := by rw [IntWalk.i64_in _ (by omega)]; omega
  have v2 : ((n' - 1 : Nat) : Int) < (n' : Int) := by omega
  go_wp2_with fail
  refine d_region (by kernel_rfl) (by kernel_rfl) ?_
  repeat
    first
      | (refine d_plain (by with_reducible rfl) ?_; apply Exists.intro; refine ⟨fun wq hc hq => ?_, ?_⟩)
      | (refine d_on (by with_reducible rfl) (by rfl) (by with_reducible rfl) ?_; apply Exists.intro; refine ⟨fun wq hc hq => ?_, ?_⟩)
      | (refine d_off (by with_reducible rfl) (by rfl) (by rfl) ?_)
      | (refine d_void (by with_reducible rfl) (by rfl) ?_)
    try any_goals
      (have q0 := s6_keep (cls hq) E0.out; have q1 := s6_keep (cls hq) E1.out; have q2 := s6_keep (cls hq) F0.out; have q3 := s6_keep (cls hq) F1.out; clear hc
       go_simp
       first
         | rfl)
    simp only [Act.put, List.setIfInBounds_toArray, List.set_cons_zero, List.set_cons_succ]
  refine d_nil ?_
  intro w1 hb1
  go_wp2_with fail
  all_goals
    go_ret2
    exact ⟨ret2 (by omega) (by omega), hb1⟩
theorem commonC {u v : Value} {n n' : Nat} {T X Y H R B T' X' Y' H' R' B' : Nat → Int} {w : World} (hu : TV w u n T X Y H R B) (hv : TV w v n' T' X' Y' H' R' B') (hp : tok T X Y H R B n) (hp' : tok T' X' Y' H' R' B' n') : CmC u v (max (T 0) (T' 0)) (min (T (n - 1)) (T' (n' - 1))) w := fun w1 hb => by
  rcases tv_keep hb hu with ⟨h0, -⟩ | ⟨h0, b, off, cap, rfl, h1, h2, h3⟩
  · have := hp.pos; omega
  · rcases tv_keep hb hv with ⟨k0, -⟩ | ⟨k0, b', off', cap', rfl, k1, k2, k3⟩
    · have := hp'.pos; omega
    · exact common_w n cap b off n' cap' b' off' T X Y H R B T' X' Y' H' R' B' w1 h0 hp.small h1 (Nat.le_trans h2 (by decide)) k0 hp'.small k1 (Nat.le_trans k2 (by decide)) (Lib.hid h3) (Lib.hid k3)
/-- What a call of At yields at a time. -/
abbrev AtC (v : Value) (w : World) (a z : Int) (x y h r d : Int → Int) : Prop := ∀ w1, Below w.heap.size w w1 → ∀ t, a ≤ t → t ≤ z → Calls Try.prog 35 #[v, .int .i64 t] w1 fun e w' => e = .returned (.tuple #[.agg #[.int .i64 t, .int .i64 (x t), .int .i64 (y t), .int .i64 (h t), .int .i64 (r t), .int .i64 (d t)], .int .i64 0]) ∧ Below w1.heap.size w1 w'
theorem at_of {v : Value} {n : Nat} {T X Y H R B : Nat → Int} {w : World} (hv : TV w v n T X Y H R B) (hp : tok T X Y H R B n) {a z : Int} (h0 : T 0 ≤ a) (hz : z ≤ T (n - 1)) :
    AtC v w a z (fun t => tx T X (segI T n t) t) (fun t => tx T Y (segI T n t) t) (fun t => th T H (segI T n t) t) (fun t => tu T R (segI T n t) t) (fun t => tu T B (segI T n t) t) :=
  fun _ hb t h1 h2 => tAt_ok (tv_keep hb hv) (tatE_ok hp (by omega) (by omega)) (segI_spec hp.pos (by omega))
theorem own_slice {w : World} {base : Nat} {E : TypeId} {C n : Nat} {v : Value} {f : Nat → Nat → Int} (h : Own w base E C v n f) : ∃ A cap, v = .slice A n cap ∧ n ≤ cap ∧ cap ≤ maxLen := by
  rcases h.2 with ⟨rfl, h1⟩ | ⟨g, cap, cur, hv, hb, hg, hnc, hcm, _⟩
  · exact ⟨none, 0, by rw [h1], by omega, by decide⟩
  · exact ⟨_, cap, hv, hnc, hcm⟩
theorem own_weaken {w : World} {base base' : Nat} {E : TypeId} {C n : Nat} {v : Value} {f : Nat → Nat → Int} (hb : base' ≤ base) (h : Own w base E C v n f) : Own w base' E C v n f := by
  refine ⟨h.1, ?_⟩
  rcases h.2 with hh | ⟨g, cap, cur, hv, h1, h2⟩
  · exact Or.inl hh
  · exact Or.inr ⟨g, cap, cur, hv, Nat.le_trans hb h1, h2⟩
theorem fits_span : (Try.prog.info? 102).map (fun i => (i.zero, i.size, i.bytes)) = some (some (.agg #[.int .i64 0, .int .i64 0]), 2, 16) := by kernel_rfl
theorem new2 (w : World) (ty : TypeId) (p q : Int) : ∀ j u, [Value.int .i64 p, .int .i64 q][j]? = some u → (w.alloc (.cells #[.int .i64 p, .int .i64 q] ty)).cell? ((⟨w.heap.size, 0, none⟩ : Addr).add j) = some u := by
  intro j u hj
  match j, hj with
  | 0, hj => simp at hj; subst hj; simp [Addr.add]
  | 1, hj => simp at hj; subst hj; simp [Addr.add]
theorem new2_one {p q : Int} : ∀ u ∈ [Value.int .i64 p, .int .i64 q], u.oneCell' = true := by
  intro u hu
  simp only [List.mem_cons, List.not_mem_nil, or_false] at hu
  rcases hu with rfl | rfl <;> rfl
theorem rowL_span (f : Nat → Nat → Int) (m : Nat) (p q : Int) : rowL 2 f m ++ [Value.int .i64 p, .int .i64 q] = rowL 2 (fun i j => if i = m then (if j = 0 then p else q) else f i j) (m + 1) := by
  rw [rowL, rowL_congr (f := f) (g := fun i j => if i = m then (if j = 0 then p else q) else f i j) (fun i hi j _ => by rw [if_neg (by omega)])]
  congr 1
  rw [show List.range 2 = [0, 1] from rfl]
  simp
set_option maxRecDepth 100000 in
set_option maxHeartbeats 8000000 in
theorem spans_walk (u v : Value) (a z lat ver : Int) (x y h r d x' y' h' r' d' : Int → Int) (cf : Int → Bool) (HC : Hid (∀ t, cf t = !sepB (x t) (y t) (h t) (r t) (d t) (x' t) (y' t) (h' t) (r' t) (d' t) lat ver)) (w : World) (CM : Hid (CmC u v a z w)) (ha : 0 ≤ a ∧ a ≤ 200000 ∧ 0 ≤ z ∧ z ≤ 200000)
    (D1 : Hid (AtC u w a z x y h r d)) (D2 : Hid (AtC v w a z x' y' h' r' d')) (B1 : Hid (NdB a z x y h r d)) (B2 : Hid (NdB a z x' y' h' r' d')) :
    Calls Try.prog 99 #[u, v, .agg #[.int .i64 lat, .int .i64 ver]] w fun e w' => (∃ q, e = .returned q ∧ Own w' w.heap.size 102 2 q (spanN cf a (z + 1 - a).toNat).1 (spanN cf a (z + 1 - a).toNat).2) ∧ Below w.heap.size w w' := by
  obtain ⟨i0, hi', hz0, hz1, hz2⟩ := info_parts fits_span
  have I := Lib.hid (And.intro hi' (And.intro hz0 (And.intro hz1 hz2))); clear hi' hz0 hz1 hz2
  have HP := Lib.hid (p2_new w 95 lat ver)
  have HW := Lib.hid (b_alloc (Below.refl w.heap.size w) (.cells #[.int .i64 lat, .int .i64 ver] 95))
  go_enter Try.func99, Try.ntmps99
  go_wp2_with fail
  (with_reducible refine (CM.out _ HW.out).mono ?_); rintro e w1 ⟨rfl, hb⟩
  have W1 := Lib.hid (b_next HW.out hb); have P1 := Lib.hid (p2_keep hb HP.out); clear hb
  go_wp2_with fail
  go_loopw [10, 7] (fun s q wr => ∃ k : Nat, k ≤ (z + 1 - a).toNat ∧ s = .int .i64 (a + k) ∧ Own wr (w.heap.size + 1) 102 2 q (spanN cf a k).1 (spanN cf a k).2 ∧ P2 wr w.heap.size lat ver ∧ Below w.heap.size w wr) (fun s _ _ => (z + 1 - intOf s).toNat)
  case atStart => exact ⟨0, Nat.zero_le _, by simp, own_nil _ _ _ _ _, P1.out, W1.out⟩
  case round =>
    obtain ⟨k, hk, rfl, ho, hp, hbl⟩ := hrel
    obtain ⟨t, ht⟩ : ∃ t : Int, t = a + k := ⟨_, rfl⟩
    rw [← ht]
    have ok := spanN_ok cf a k
    have few := ok.few
    have HO := Lib.hid ho; have HP1 := Lib.hid hp; have HB := Lib.hid hbl; have HT := Lib.hid ht; clear ho hp hbl ok
    by_cases hlt : t ≤ z
    · have t1 : a ≤ t := by omega
      have t2 : t ≤ 200000 := by omega
      have hkz : k < (z + 1 - a).toNat := by omega
      clear ht
      have b1 := B1.out t t1 hlt; have b2 := B2.out t t1 hlt
      have D1' := Lib.hid (fun w1 hb => D1.out w1 hb t t1 hlt); have D2' := Lib.hid (fun w1 hb => D2.out w1 hb t t1 hlt)
      have HCt := Lib.hid (HC.out t)
      generalize x t = xt at *
      generalize y t = yt at *
      generalize h t = ht at *
      generalize r t = rt at *
      generalize d t = dt at *
      generalize x' t = xt' at *
      generalize y' t = yt' at *
      generalize h' t = ht' at *
      generalize r' t = rt' at *
      generalize d' t = dt' at *
      have SD := Lib.hid (fun w => separated t xt yt ht rt dt t xt' yt' ht' rt' dt' lat ver w b1 b2)
      clear b1 b2
      generalize sepB xt yt ht rt dt xt' yt' ht' rt' dt' lat ver = sb at *
      go_wp2_with fail
      (with_reducible refine (D1'.out _ HB.out).mono ?_); rintro e w3 ⟨rfl, hb⟩
      have O3 := Lib.hid (own_keep (b_alloc (Below.refl w3.heap.size w3) (.cells #[.int .i64 t, .int .i64 xt, .int .i64 yt, .int .i64 ht, .int .i64 rt, .int .i64 dt] 70)) (own_keep hb HO.out)); have P3 := Lib.hid (p2_alloc (.cells #[.int .i64 t, .int .i64 xt, .int .i64 yt, .int .i64 ht, .int .i64 rt, .int .i64 dt] 70) (p2_keep hb HP1.out)); have W3 := Lib.hid (b_alloc (b_next HB.out hb) (.cells #[.int .i64 t, .int .i64 xt, .int .i64 yt, .int .i64 ht, .int .i64 rt, .int .i64 dt] 70))
      have Z3 := Lib.hid (d6_new w3 70 t xt yt ht rt dt)
      clear hb
      go_wp2_with fail
      (with_reducible refine (D2'.out _ W3.out).mono ?_); rintro e w4 ⟨rfl, hb⟩
      have O4 := Lib.hid (own_keep (b_alloc (Below.refl w4.heap.size w4) (.cells #[.int .i64 t, .int .i64 xt', .int .i64 yt', .int .i64 ht', .int .i64 rt', .int .i64 dt'] 70)) (own_keep hb O3.out)); have p4 := p2_alloc (.cells #[.int .i64 t, .int .i64 xt', .int .i64 yt', .int .i64 ht', .int .i64 rt', .int .i64 dt'] 70) (p2_keep hb P3.out); have W4 := Lib.hid (b_alloc (b_next W3.out hb) (.cells #[.int .i64 t, .int .i64 xt', .int .i64 yt', .int .i64 ht', .int .i64 rt', .int .i64 dt'] 70))
      have z4 := d6_keep (b_alloc (Below.refl w4.heap.size w4) (.cells #[.int .i64 t, .int .i64 xt', .int .i64 yt', .int .i64 ht', .int .i64 rt', .int .i64 dt'] 70)) (d6_keep hb Z3.out); have z5 := d6_new w4 70 t xt' yt' ht' rt' dt'
      have n4 := new_ne (d6_keep hb Z3.out).1.1; have n5 := new_ne (p2_keep hb P3.out).1
      have P4 := Lib.hid p4
      obtain ⟨p40, p41⟩ := p4
      obtain ⟨⟨a0, a1, a2⟩, a3, a4, a5⟩ := z4
      obtain ⟨⟨c0, c1, c2⟩, c3, c4, c5⟩ := z5
      clear hb
      go_wp2_with fail
      (with_reducible refine (SD.out _).mono ?_); rintro e w5 ⟨rfl, hb⟩
      have o5 := own_keep hb O4.out; have P5 := Lib.hid (p2_keep hb P4.out); have W5 := Lib.hid (b_next W4.out hb)
      clear hb p40 p41 a0 a1 a2 a3 a4 a5 c0 c1 c2 c3 c4 c5 n4 n5
      cases sb with
      | true =>
        have HN := Lib.hid (spanN_no (cf := cf) (a := a) (k := k) (by rw [← HT.out]; exact HCt.out))
        have O5 := Lib.hid o5; clear o5
        go_wp2_with fail
        refine ⟨⟨k + 1, by omega, ?_, by rw [HN.out]; exact O5.out, P5.out, W5.out⟩, by simp [intOf]; omega⟩
        have := HT.out
        congr 1; omega
      | false =>
        have hcf : cf (a + k) = true := by rw [← HT.out]; exact HCt.out
        have HCF := Lib.hid hcf; clear hcf
        obtain ⟨A, cap, rfl, hmc, hcm⟩ := own_slice o5
        have hcm' : cap ≤ 9223372036854775807 := Nat.le_trans hcm (by decide)
        obtain ⟨m, hm⟩ : ∃ m, m = (spanN cf a k).1 := ⟨_, rfl⟩
        obtain ⟨f, hf⟩ : ∃ f, f = (spanN cf a k).2 := ⟨_, rfl⟩
        rw [← hm, ← hf] at o5
        rw [← hm] at hmc few ⊢
        have HM := Lib.hid hm; have HF := Lib.hid hf; have O5 := Lib.hid o5; have HCM := Lib.hid hcm; clear hm hf o5 hcm
        by_cases hm0 : 0 < m
        · have i1 : (0 : Int) < (m : Int) := by omega
          have i2 := decide_eq_true i1
          have i3 := decide_eq_true hm0
          obtain ⟨g, cap2, he, hg1, hg2, -, -, hrow⟩ := own_row O5.out hm0
          injection he with e1 e2 e3
          subst e1 e3
          have u1 : IntKind.i64.wrap ((m : Int) - 1) = ((m - 1 : Nat) : Int) := by rw [IntWalk.i64_in _ (by omega)]; omega
          have u2 : ((m - 1 : Nat) : Int) < (m : Int) := by omega
          have u3 : (m : Int) - 1 = ((m - 1 : Nat) : Int) := by omega
          have k1 : w5.cell? ⟨g, (m - 1) * 2 + 1, none⟩ = some (.int .i64 (f (m - 1) 1)) := hrow.cell (m - 1) (by omega) 1 (by omega)
          have f1 := hrow.free ((m - 1) * 2 + 1)
          have HR := Lib.hid hrow; clear hrow
          by_cases hq : f (m - 1) 1 = t
          · have HN : Hid (spanN cf a (k + 1) = (m, upd f (m - 1) 1 (t + 1))) := Lib.hid (by
              have e := spanN_more (cf := cf) (a := a) (k := k) HCF.out (by rw [← HM.out]; exact hm0) (by rw [← HM.out, ← HF.out, hq, HT.out])
              rw [← HM.out, ← HF.out, ← HT.out] at e; exact e)
            have q1 : (f (m - 1) 1 == t) = true := by simp [hq]
            clear hq
            go_wp2_with fail
            refine ⟨⟨k + 1, by omega, ?_, ?_, p2_far _ _ (by show g ≠ w.heap.size; omega) P5.out, b_set W5.out (Nat.le_trans (Nat.le_succ _) hg1) _⟩, by simp [intOf]; omega⟩
            · have := HT.out
              congr 1; omega
            · rw [HN.out]
              exact own_set O5.out (by omega) (by omega) (t + 1)
          · have HN : Hid (spanN cf a (k + 1) = (m + 1, fun i j => if i = m then (if j = 0 then t else t + 1) else f i j)) := Lib.hid (by
              have e := spanN_new (cf := cf) (a := a) (k := k) HCF.out (fun h => hq (by have h2 := h.2; rw [← HM.out, ← HF.out, ← HT.out] at h2; exact h2))
              rw [← HM.out, ← HF.out, ← HT.out] at e; exact e)
            have q1 : (f (m - 1) 1 == t) = false := by simp [hq]
            clear hq
            have O6 := Lib.hid (own_keep (b_alloc (Below.refl w5.heap.size w5) (.cells #[.int .i64 t, .int .i64 (t + 1)] 102)) O5.out); have W6 := Lib.hid (b_alloc W5.out (.cells #[.int .i64 t, .int .i64 (t + 1)] 102)); have P6 := Lib.hid (p2_alloc (.cells #[.int .i64 t, .int .i64 (t + 1)] 102) P5.out)
            have HN2 := Lib.hid (new2 w5 102 t (t + 1))
            go_wp2_with (at_builtin; refine wpList_append_own_at _ rfl (.tmp 65) (.tmp 70) 84 rfl (w.heap.size + 1) 102 i0 _ 2 16 Try.underlying84 I.out.1 I.out.2.1 I.out.2.2.1 I.out.2.2.2 rfl (by decide) _ m _ rfl O6.out ⟨w5.heap.size, 0, none⟩ 1 1 [.int .i64 t, .int .i64 (t + 1)] rfl rfl HN2.out new2_one (by unfold maxLen; omega) (by omega) (Nat.succ_le_of_lt (show w.heap.size < _ from lt_of_cell P6.out.1)) ?_; intro v1 w7 hown1 hg1 hnil1 hat1)
            refine ⟨⟨k + 1, by omega, ?_, ?_, ?_, grow_below W6.out O6.out hg1 (Nat.le_succ _) W6.out.size⟩, by simp [intOf]; omega⟩
            · have := HT.out
              congr 1; omega
            · rw [HN.out]
              have h := hown1
              rw [rowL_span] at h
              exact h
            · have hb7 : Below (w.heap.size + 1) _ w7 := (Below.refl _ _).grown hg1 (Nat.succ_le_of_lt (show w.heap.size < _ from lt_of_cell P6.out.1)) (own_ge O6.out)
              exact ⟨(hb7.cell (p := ⟨w.heap.size, 0, none⟩) (Nat.lt_succ_self _)).trans P6.out.1, (hb7.cell (p := ⟨w.heap.size, 1, none⟩) (Nat.lt_succ_self _)).trans P6.out.2⟩
        · have i1 : ¬ (0 : Int) < (m : Int) := by omega
          have i2 := decide_eq_false i1
          have i3 := decide_eq_false hm0
          have HN : Hid (spanN cf a (k + 1) = (m + 1, fun i j => if i = m then (if j = 0 then t else t + 1) else f i j)) := Lib.hid (by
            have e := spanN_new (cf := cf) (a := a) (k := k) HCF.out (fun h => hm0 (by have h1 := h.1; rw [← HM.out] at h1; exact h1))
            rw [← HM.out, ← HF.out, ← HT.out] at e; exact e)
          have O6 := Lib.hid (own_keep (b_alloc (Below.refl w5.heap.size w5) (.cells #[.int .i64 t, .int .i64 (t + 1)] 102)) O5.out); have W6 := Lib.hid (b_alloc W5.out (.cells #[.int .i64 t, .int .i64 (t + 1)] 102)); have P6 := Lib.hid (p2_alloc (.cells #[.int .i64 t, .int .i64 (t + 1)] 102) P5.out)
          have HN2 := Lib.hid (new2 w5 102 t (t + 1))
          go_wp2_with (at_builtin; refine wpList_append_own_at _ rfl (.tmp 65) (.tmp 70) 84 rfl (w.heap.size + 1) 102 i0 _ 2 16 Try.underlying84 I.out.1 I.out.2.1 I.out.2.2.1 I.out.2.2.2 rfl (by decide) _ m _ rfl O6.out ⟨w5.heap.size, 0, none⟩ 1 1 [.int .i64 t, .int .i64 (t + 1)] rfl rfl HN2.out new2_one (by unfold maxLen; omega) (by omega) (Nat.succ_le_of_lt (show w.heap.size < _ from lt_of_cell P6.out.1)) ?_; intro v1 w7 hown1 hg1 hnil1 hat1)
          refine ⟨⟨k + 1, by omega, ?_, ?_, ?_, grow_below W6.out O6.out hg1 (Nat.le_succ _) W6.out.size⟩, by simp [intOf]; omega⟩
          · have := HT.out
            congr 1; omega
          · rw [HN.out]
            have h := hown1
            rw [rowL_span] at h
            exact h
          · have hb7 : Below (w.heap.size + 1) _ w7 := (Below.refl _ _).grown hg1 (Nat.succ_le_of_lt (show w.heap.size < _ from lt_of_cell P6.out.1)) (own_ge O6.out)
            exact ⟨(hb7.cell (p := ⟨w.heap.size, 0, none⟩) (Nat.lt_succ_self _)).trans P6.out.1, (hb7.cell (p := ⟨w.heap.size, 1, none⟩) (Nat.lt_succ_self _)).trans P6.out.2⟩
    · have he : k = (z + 1 - a).toNat := by omega
      have HE := Lib.hid he; clear he ht
      go_wp2_with fail
      go_ret
      exact ⟨⟨_, rfl, by rw [← HE.out]; exact own_weaken (Nat.le_succ _) HO.out⟩, HB.out⟩
/-- Two tubes collide at a time. -/
def cfT (T X Y H R B : Nat → Int) (n : Nat) (T' X' Y' H' R' B' : Nat → Int) (n' : Nat) (lat ver t : Int) : Bool :=
  !sepB (tx T X (segI T n t) t) (tx T Y (segI T n t) t) (th T H (segI T n t) t) (tu T R (segI T n t) t) (tu T B (segI T n t) t) (tx T' X' (segI T' n' t) t) (tx T' Y' (segI T' n' t) t) (th T' H' (segI T' n' t) t) (tu T' R' (segI T' n' t) t) (tu T' B' (segI T' n' t) t) lat ver
set_option maxRecDepth 100000 in
set_option maxHeartbeats 2000000 in
theorem pair_bad (A A' : Option Addr) (m m' c c' : Nat) (lat ver E E' F : Int) (w : World) (C1 : Hid (CkC (.slice A m c) E w)) (C2 : Hid (CkC (.slice A' m' c') E' w)) (hE : twoE lat ver E E' = F) (hF : F ≠ 0) :
    Calls Try.prog 45 #[.slice A m c, .slice A' m' c', .agg #[.int .i64 lat, .int .i64 ver]] w fun e w' => e = .returned (.tuple #[.slice none 0 0, .int .i64 F]) ∧ Below w.heap.size w w' := by
  have HE := Lib.hid hE; clear hE
  obtain ⟨hF1, hF2⟩ := ge1 hF; clear hF
  have HP := Lib.hid (p2_new w 95 lat ver)
  have W0 := Lib.hid (b_alloc (Below.refl w.heap.size w) (.cells #[.int .i64 lat, .int .i64 ver] 95))
  have Q1 := q2_new (w.alloc (.cells #[.int .i64 lat, .int .i64 ver] 95)) 62 (.slice A m c) (.slice A' m' c')
  have W1 := Lib.hid (b_alloc W0.out (.cells #[.slice A m c, .slice A' m' c'] 62))
  have CH := Lib.hid (check_two lat ver Q1 (ckc_keep W1.out C1.out) (ckc_keep W1.out C2.out))
  clear Q1
  rw [HE.out, World.size_alloc] at CH
  go_enter Try.func45, Try.ntmps45
  go_wp2_with fail
  (with_reducible refine CH.out.mono ?_); rintro e w1 ⟨rfl, h⟩
  have hw := b_next W1.out h; clear h
  go_wp2_with fail
  go_ret2
  exact ⟨rfl, hw⟩
set_option maxRecDepth 100000 in
set_option maxHeartbeats 2000000 in
theorem pair_walk (A A' : Option Addr) (m m' c c' M : Nat) (F : Nat → Nat → Int) (lat ver : Int) (w : World) (C1 : Hid (CkC (.slice A m c) 0 w)) (C2 : Hid (CkC (.slice A' m' c') 0 w)) (hE : twoE lat ver 0 0 = 0)
    (SP : Hid (∀ w1, Below w.heap.size w w1 → Calls Try.prog 99 #[.slice A m c, .slice A' m' c', .agg #[.int .i64 lat, .int .i64 ver]] w1 fun e w' => (∃ q, e = .returned q ∧ Own w' w1.heap.size 102 2 q M F) ∧ Below w1.heap.size w1 w')) :
    Calls Try.prog 45 #[.slice A m c, .slice A' m' c', .agg #[.int .i64 lat, .int .i64 ver]] w fun e w' => (∃ q, e = .returned (.tuple #[q, .int .i64 0]) ∧ Own w' w.heap.size 102 2 q M F) ∧ Below w.heap.size w w' := by
  have HE := Lib.hid hE; clear hE
  have HP := Lib.hid (p2_new w 95 lat ver)
  have W0 := Lib.hid (b_alloc (Below.refl w.heap.size w) (.cells #[.int .i64 lat, .int .i64 ver] 95))
  have Q1 := q2_new (w.alloc (.cells #[.int .i64 lat, .int .i64 ver] 95)) 62 (.slice A m c) (.slice A' m' c')
  have W1 := Lib.hid (b_alloc W0.out (.cells #[.slice A m c, .slice A' m' c'] 62))
  have CH := Lib.hid (check_two lat ver Q1 (ckc_keep W1.out C1.out) (ckc_keep W1.out C2.out))
  clear Q1
  rw [HE.out, World.size_alloc] at CH
  have P1 := Lib.hid (p2_alloc (.cells #[.slice A m c, .slice A' m' c'] 62) HP.out)
  go_enter Try.func45, Try.ntmps45
  go_wp2_with fail
  (with_reducible refine CH.out.mono ?_); rintro e w1 ⟨rfl, h⟩
  have W2 := Lib.hid (b_next W1.out h); obtain ⟨p0, p1⟩ := p2_keep h P1.out; clear h
  go_wp2_with fail
  (with_reducible refine (SP.out _ W2.out).mono ?_); rintro e w2 ⟨⟨q, rfl, ho⟩, h⟩
  have W3 := Lib.hid (b_next W2.out h); have O3 := Lib.hid (own_weaken W2.out.size ho); clear h ho
  go_wp2_with fail
  go_ret2
  exact ⟨⟨q, rfl, O3.out⟩, W3.out⟩
section
variable {u v : Value} {n n' : Nat} {T X Y H R B T' X' Y' H' R' B' : Nat → Int} {w : World}
theorem pairC_bad (hu : TV w u n T X Y H R B) (hv : TV w v n' T' X' Y' H' R' B') {lat ver : Int} (hE : twoE lat ver (tck T X Y H R B n) (tck T' X' Y' H' R' B' n') ≠ 0) :
    Calls Try.prog 45 #[u, v, .agg #[.int .i64 lat, .int .i64 ver]] w fun e w' => e = .returned (.tuple #[.slice none 0 0, .int .i64 (twoE lat ver (tck T X Y H R B n) (tck T' X' Y' H' R' B' n'))]) ∧ Below w.heap.size w w' := by
  have C1 := checkC hu
  have C2 := checkC hv
  obtain ⟨A, c, rfl, -, -⟩ := tv_slice hu
  obtain ⟨A', c', rfl, -, -⟩ := tv_slice hv
  exact pair_bad A A' n n' c c' lat ver _ _ _ w (Lib.hid C1) (Lib.hid C2) rfl hE
theorem twoE_zero {lat ver E E' : Int} (h : twoE lat ver E E' = 0) : sepE lat ver = 0 ∧ E = 0 ∧ E' = 0 := by
  unfold twoE at h
  split at h
  · rename_i h1; exact absurd h h1
  · rename_i h1
    split at h
    · rename_i h2; exact absurd h h2
    · rename_i h2; exact ⟨Classical.not_not.1 h1, Classical.not_not.1 h2, h⟩
theorem sepE_zero {lat ver : Int} (h : sepE lat ver = 0) : (0 ≤ lat ∧ lat ≤ 1000000) ∧ (0 ≤ ver ∧ ver ≤ 60000) := by
  unfold sepE at h
  split at h <;> omega
theorem sepE_ok {lat ver : Int} (h : (0 ≤ lat ∧ lat ≤ 1000000) ∧ (0 ≤ ver ∧ ver ≤ 60000)) : sepE lat ver = 0 := by
  unfold sepE; rw [if_neg (by omega)]
theorem pairC_ok (hu : TV w u n T X Y H R B) (hv : TV w v n' T' X' Y' H' R' B') (hp : tok T X Y H R B n) (hp' : tok T' X' Y' H' R' B' n') {lat ver : Int} (hs : sepE lat ver = 0) :
    Calls Try.prog 45 #[u, v, .agg #[.int .i64 lat, .int .i64 ver]] w fun e w' => (∃ q, e = .returned (.tuple #[q, .int .i64 0]) ∧
      Own w' w.heap.size 102 2 q (spanN (cfT T X Y H R B n T' X' Y' H' R' B' n' lat ver) (max (T 0) (T' 0)) (min (T (n - 1)) (T' (n' - 1)) + 1 - max (T 0) (T' 0)).toNat).1 (spanN (cfT T X Y H R B n T' X' Y' H' R' B' n' lat ver) (max (T 0) (T' 0)) (min (T (n - 1)) (T' (n' - 1)) + 1 - max (T 0) (T' 0)).toNat).2) ∧ Below w.heap.size w w' := by
  have C1 := checkC hu
  have C2 := checkC hv
  rw [(tck_zero n).2 hp] at C1
  rw [(tck_zero n').2 hp'] at C2
  have t0 := hp.time 0 hp.pos
  have t0' := hp'.time 0 hp'.pos
  have tn := hp.time (n - 1) (by have := hp.pos; omega)
  have tn' := hp'.time (n' - 1) (by have := hp'.pos; omega)
  have h1 : T 0 ≤ max (T 0) (T' 0) := by omega
  have h2 : T' 0 ≤ max (T 0) (T' 0) := by omega
  have h3 : min (T (n - 1)) (T' (n' - 1)) ≤ T (n - 1) := by omega
  have h4 : min (T (n - 1)) (T' (n' - 1)) ≤ T' (n' - 1) := by omega
  have S := fun (w1 : World) (hb : Below w.heap.size w w1) => spans_walk u v (max (T 0) (T' 0)) (min (T (n - 1)) (T' (n' - 1))) lat ver _ _ _ _ _ _ _ _ _ _ (cfT T X Y H R B n T' X' Y' H' R' B' n' lat ver) (Lib.hid fun t => rfl) w1 (Lib.hid (commonC (tv_keep hb hu) (tv_keep hb hv) hp hp')) (by omega)
    (Lib.hid (at_of (tv_keep hb hu) hp h1 h3)) (Lib.hid (at_of (tv_keep hb hv) hp' h2 h4)) (Lib.hid (nd_bds hp h1 h3)) (Lib.hid (nd_bds hp' h2 h4))
  obtain ⟨A, c, rfl, -, -⟩ := tv_slice hu
  obtain ⟨A', c', rfl, -, -⟩ := tv_slice hv
  exact pair_walk A A' n n' c c' _ _ lat ver w (Lib.hid C1) (Lib.hid C2) (by unfold twoE; rw [if_neg (fun h => h hs), if_neg (fun h => h rfl)]) (Lib.hid S)
end
end Probe
end Go.Proofs.Yteaccanhahmclaa
