/- Joined texts: ProbeS, TubeW, ProbeM, PrT, PrO. -/
import Derived.Test.YteieagihdflapaaGreatDoorJ35
import Derived.Test.YteieagihdflapaaGreatDoorJ34
import Derived.Test.YteieagihdflapaaGreatDoorJ07
import Derived.Test.YteieagihdflapaaGreatDoorJ01
import Derived.Shelf.SlSortCmp.NoneTotal
import Derived.Shelf.SlSortCmp.WholeK
import Derived.Shelf.Lay
import Derived.Shelf.SlGeneric
import Derived.Ground.SlsfProg
import Derived.Ground.NamesProg
namespace Go.Proofs.YteieagihdflapaaGreatDoor
open Go.RowKit
namespace Probe
open Kit Plane Tube
abbrev CmC (u v : Value) (a z : Int) (w : World) : Prop := ∀ w1, Below w.heap.size w w1 → Calls Tryz.prog 88 #[u, v] w1 fun e w' => e = .returned (.tuple #[.int .i64 a, .int .i64 z]) ∧ Below w1.heap.size w1 w'
set_option maxRecDepth 100000 in
set_option maxHeartbeats 2000000 in
theorem common_w (n cap b off n' cap' b' off' : Nat) (T X Y H R B T' X' Y' H' R' B' : Nat → Int) (w : World) (h0 : 0 < n) (hn : n ≤ 64) (_hc : n ≤ cap) (_hm : cap ≤ 9223372036854775807) (h0' : 0 < n') (hn' : n' ≤ 64) (_hc' : n' ≤ cap') (_hm' : cap' ≤ 9223372036854775807)
    (HV : Hid (∀ k, k < n → S6 w b (off + k * 6) (T k) (X k) (Y k) (H k) (R k) (B k))) (HV' : Hid (∀ k, k < n' → S6 w b' (off' + k * 6) (T' k) (X' k) (Y' k) (H' k) (R' k) (B' k))) :
    Calls Tryz.prog 88 #[.slice (some ⟨b, off, none⟩) n cap, .slice (some ⟨b', off', none⟩) n' cap'] w fun e w' => e = .returned (.tuple #[.int .i64 (max (T 0) (T' 0)), .int .i64 (min (T (n - 1)) (T' (n' - 1)))]) ∧ Below w.heap.size w w' := by
  go_enter Tryz.func88, Tryz.ntmps88
  have e0 := HV.out 0 h0
  rw [Nat.zero_mul, Nat.add_zero] at e0
  have E0 := Lib.hid e0; have E1 := Lib.hid (HV.out (n - 1) (by omega)); clear e0
  have e0 := HV'.out 0 h0'
  rw [Nat.zero_mul, Nat.add_zero] at e0
  have F0 := Lib.hid e0; have F1 := Lib.hid (HV'.out (n' - 1) (by omega)); clear e0
  have u0 : (0 : Int) < (n : Int) := by omega
  have u1 : IntKind.i64.wrap ((n : Int) - 1) = ((n - 1 : Nat) : Int) := by rw [IntWalk.i64_in _ (by omega)]; omega
  have u2 : ((n - 1 : Nat) : Int) < (n : Int) := by omega
  have v0 : (0 : Int) < (n' : Int) := by omega
  have v1 : IntKind.i64.wrap ((n' : Int) - 1) = ((n' - 1 : Nat) : Int) := by rw [IntWalk.i64_in _ (by omega)]; omega
  have v2 : ((n' - 1 : Nat) : Int) < (n' : Int) := by omega
  go_wp2_with fail
  refine d_region (by kernel_rfl) (by kernel_rfl) ?_
  repeat
    first
      | (refine d_plain (by with_reducible rfl) ?_; apply Exists.intro; refine ⟨fun wq hc hq => ?_, ?_⟩)
      | (refine d_on (by with_reducible rfl) (by rfl) (by with_reducible rfl) ?_; apply Exists.intro; refine ⟨fun wq hc hq => ?_, ?_⟩)
      | (refine d_off (by with_reducible rfl) (by rfl) (by rfl) ?_)
      | (refine d_void (by with_reducible rfl) (by rfl) ?_)
    try any_goals
      (have q0 := s6_keep (cls hq) E0.out; have q1 := s6_keep (cls hq) E1.out; have q2 := s6_keep (cls hq) F0.out; have q3 := s6_keep (cls hq) F1.out; clear hc
       go_simp
       first
         | rfl)
    simp only [Act.put, List.setIfInBounds_toArray, List.set_cons_zero, List.set_cons_succ]
  refine d_nil ?_
  intro w1 hb1
  go_wp2_with fail
  all_goals
    go_ret2
    exact ⟨ret2 (by omega) (by omega), hb1⟩
theorem commonC {u v : Value} {n n' : Nat} {T X Y H R B T' X' Y' H' R' B' : Nat → Int} {w : World} (hu : TV w u n T X Y H R B) (hv : TV w v n' T' X' Y' H' R' B') (hp : tok T X Y H R B n) (hp' : tok T' X' Y' H' R' B' n') : CmC u v (max (T 0) (T' 0)) (min (T (n - 1)) (T' (n' - 1))) w := fun w1 hb => by
  rcases tv_keep hb hu with ⟨h0, -⟩ | ⟨h0, b, off, cap, rfl, h1, h2, h3⟩
  · have := hp.pos; omega
  · rcases tv_keep hb hv with ⟨k0, -⟩ | ⟨k0, b', off', cap', rfl, k1, k2, k3⟩
    · have := hp'.pos; omega
    · exact common_w n cap b off n' cap' b' off' T X Y H R B T' X' Y' H' R' B' w1 h0 hp.small h1 (Nat.le_trans h2 (by decide)) k0 hp'.small k1 (Nat.le_trans k2 (by decide)) (Lib.hid h3) (Lib.hid k3)
/-- What a call of At yields at a time. -/
abbrev AtC (v : Value) (w : World) (a z : Int) (x y h r d : Int → Int) : Prop := ∀ w1, Below w.heap.size w w1 → ∀ t, a ≤ t → t ≤ z → Calls Tryz.prog 31 #[v, .int .i64 t] w1 fun e w' => e = .returned (.tuple #[.agg #[.int .i64 t, .int .i64 (x t), .int .i64 (y t), .int .i64 (h t), .int .i64 (r t), .int .i64 (d t)], .int .i64 0]) ∧ Below w1.heap.size w1 w'
theorem at_of {v : Value} {n : Nat} {T X Y H R B : Nat → Int} {w : World} (hv : TV w v n T X Y H R B) (hp : tok T X Y H R B n) {a z : Int} (h0 : T 0 ≤ a) (hz : z ≤ T (n - 1)) :
    AtC v w a z (fun t => tx T X (segI T n t) t) (fun t => tx T Y (segI T n t) t) (fun t => th T H (segI T n t) t) (fun t => tu T R (segI T n t) t) (fun t => tu T B (segI T n t) t) :=
  fun _ hb t h1 h2 => tAt_ok (tv_keep hb hv) (tatE_ok hp (by omega) (by omega)) (segI_spec hp.pos (by omega))
theorem own_slice {w : World} {base : Nat} {E : TypeId} {C n : Nat} {v : Value} {f : Nat → Nat → Int} (h : Own w base E C v n f) : ∃ A cap, v = .slice A n cap ∧ n ≤ cap ∧ cap ≤ maxLen := by
  rcases h.2 with ⟨rfl, h1⟩ | ⟨g, cap, cur, hv, hb, hg, hnc, hcm, _⟩
  · exact ⟨none, 0, by rw [h1], by omega, by decide⟩
  · exact ⟨_, cap, hv, hnc, hcm⟩
theorem own_weaken {w : World} {base base' : Nat} {E : TypeId} {C n : Nat} {v : Value} {f : Nat → Nat → Int} (hb : base' ≤ base) (h : Own w base E C v n f) : Own w base' E C v n f := by
  refine ⟨h.1, ?_⟩
  rcases h.2 with hh | ⟨g, cap, cur, hv, h1, h2⟩
  · exact Or.inl hh
  · exact Or.inr ⟨g, cap, cur, hv, Nat.le_trans hb h1, h2⟩
theorem fits_span : (Tryz.prog.info? 35).map (fun i => (i.zero, i.size, i.bytes)) = some (some (.agg #[.int .i64 0, .int .i64 0]), 2, 16) := by kernel_rfl
theorem new2 (w : World) (ty : TypeId) (p q : Int) : ∀ j u, [Value.int .i64 p, .int .i64 q][j]? = some u → (w.alloc (.cells #[.int .i64 p, .int .i64 q] ty)).cell? ((⟨w.heap.size, 0, none⟩ : Addr).add j) = some u := by
  intro j u hj
  match j, hj with
  | 0, hj => simp at hj; subst hj; simp [Addr.add]
  | 1, hj => simp at hj; subst hj; simp [Addr.add]
theorem new2_one {p q : Int} : ∀ u ∈ [Value.int .i64 p, .int .i64 q], u.oneCell' = true := by
  intro u hu
  simp only [List.mem_cons, List.not_mem_nil, or_false] at hu
  rcases hu with rfl | rfl <;> rfl
theorem rowL_span (f : Nat → Nat → Int) (m : Nat) (p q : Int) : rowL 2 f m ++ [Value.int .i64 p, .int .i64 q] = rowL 2 (fun i j => if i = m then (if j = 0 then p else q) else f i j) (m + 1) := by
  rw [rowL, rowL_congr (f := f) (g := fun i j => if i = m then (if j = 0 then p else q) else f i j) (fun i hi j _ => by rw [if_neg (by omega)])]
  congr 1
  rw [show List.range 2 = [0, 1] from rfl]
  simp
set_option maxRecDepth 100000 in
set_option maxHeartbeats 8000000 in
theorem spans_walk (u v : Value) (a z lat ver : Int) (x y h r d x' y' h' r' d' : Int → Int) (cf : Int → Bool) (HC : Hid (∀ t, cf t = !sepB (x t) (y t) (h t) (r t) (d t) (x' t) (y' t) (h' t) (r' t) (d' t) lat ver)) (w : World) (CM : Hid (CmC u v a z w)) (ha : 0 ≤ a ∧ a ≤ 200000 ∧ 0 ≤ z ∧ z ≤ 200000)
    (D1 : Hid (AtC u w a z x y h r d)) (D2 : Hid (AtC v w a z x' y' h' r' d')) (B1 : Hid (NdB a z x y h r d)) (B2 : Hid (NdB a z x' y' h' r' d')) :
    Calls Tryz.prog 37 #[u, v, .agg #[.int .i64 lat, .int .i64 ver]] w fun e w' => (∃ q, e = .returned q ∧ Own w' w.heap.size 35 2 q (spanN cf a (z + 1 - a).toNat).1 (spanN cf a (z + 1 - a).toNat).2) ∧ Below w.heap.size w w' := by
  obtain ⟨i0, hi', hz0, hz1, hz2⟩ := info_parts fits_span
  have I := Lib.hid (And.intro hi' (And.intro hz0 (And.intro hz1 hz2))); clear hi' hz0 hz1 hz2
  have HP := Lib.hid (p2_new w 25 lat ver)
  have HW := Lib.hid (b_alloc (Below.refl w.heap.size w) (.cells #[.int .i64 lat, .int .i64 ver] 25))
  go_enter Tryz.func37, Tryz.ntmps37
  go_wp2_with fail
  (with_reducible refine (CM.out _ HW.out).mono ?_); rintro e w1 ⟨rfl, hb⟩
  have W1 := Lib.hid (b_next HW.out hb); have P1 := Lib.hid (p2_keep hb HP.out); clear hb
  go_wp2_with fail
  go_loopw [10, 7] (fun s q wr => ∃ k : Nat, k ≤ (z + 1 - a).toNat ∧ s = .int .i64 (a + k) ∧ Own wr (w.heap.size + 1) 35 2 q (spanN cf a k).1 (spanN cf a k).2 ∧ P2 wr w.heap.size lat ver ∧ Below w.heap.size w wr) (fun s _ _ => (z + 1 - intOf s).toNat)
  case atStart => exact ⟨0, Nat.zero_le _, by simp, own_nil _ _ _ _ _, P1.out, W1.out⟩
  case round =>
    obtain ⟨k, hk, rfl, ho, hp, hbl⟩ := hrel
    obtain ⟨t, ht⟩ : ∃ t : Int, t = a + k := ⟨_, rfl⟩
    rw [← ht]
    have ok := spanN_ok cf a k
    have few := ok.few
    have HO := Lib.hid ho; have HP1 := Lib.hid hp; have HB := Lib.hid hbl; have HT := Lib.hid ht; clear ho hp hbl ok
    by_cases hlt : t ≤ z
    · have t1 : a ≤ t := by omega
      have t2 : t ≤ 200000 := by omega
      have hkz : k < (z + 1 - a).toNat := by omega
      clear ht
      have b1 := B1.out t t1 hlt; have b2 := B2.out t t1 hlt
      have D1' := Lib.hid (fun w1 hb => D1.out w1 hb t t1 hlt); have D2' := Lib.hid (fun w1 hb => D2.out w1 hb t t1 hlt)
      have HCt := Lib.hid (HC.out t)
      generalize x t = xt at *
      generalize y t = yt at *
      generalize h t = ht at *
      generalize r t = rt at *
      generalize d t = dt at *
      generalize x' t = xt' at *
      generalize y' t = yt' at *
      generalize h' t = ht' at *
      generalize r' t = rt' at *
      generalize d' t = dt' at *
      have SD := Lib.hid (fun w => separated t xt yt ht rt dt t xt' yt' ht' rt' dt' lat ver w b1 b2)
      clear b1 b2
      generalize sepB xt yt ht rt dt xt' yt' ht' rt' dt' lat ver = sb at *
      go_wp2_with fail
      (with_reducible refine (D1'.out _ HB.out).mono ?_); rintro e w3 ⟨rfl, hb⟩
      have O3 := Lib.hid (own_keep (b_alloc (Below.refl w3.heap.size w3) (.cells #[.int .i64 t, .int .i64 xt, .int .i64 yt, .int .i64 ht, .int .i64 rt, .int .i64 dt] 74)) (own_keep hb HO.out)); have P3 := Lib.hid (p2_alloc (.cells #[.int .i64 t, .int .i64 xt, .int .i64 yt, .int .i64 ht, .int .i64 rt, .int .i64 dt] 74) (p2_keep hb HP1.out)); have W3 := Lib.hid (b_alloc (b_next HB.out hb) (.cells #[.int .i64 t, .int .i64 xt, .int .i64 yt, .int .i64 ht, .int .i64 rt, .int .i64 dt] 74))
      have Z3 := Lib.hid (d6_new w3 74 t xt yt ht rt dt)
      clear hb
      go_wp2_with fail
      (with_reducible refine (D2'.out _ W3.out).mono ?_); rintro e w4 ⟨rfl, hb⟩
      have O4 := Lib.hid (own_keep (b_alloc (Below.refl w4.heap.size w4) (.cells #[.int .i64 t, .int .i64 xt', .int .i64 yt', .int .i64 ht', .int .i64 rt', .int .i64 dt'] 74)) (own_keep hb O3.out)); have p4 := p2_alloc (.cells #[.int .i64 t, .int .i64 xt', .int .i64 yt', .int .i64 ht', .int .i64 rt', .int .i64 dt'] 74) (p2_keep hb P3.out); have W4 := Lib.hid (b_alloc (b_next W3.out hb) (.cells #[.int .i64 t, .int .i64 xt', .int .i64 yt', .int .i64 ht', .int .i64 rt', .int .i64 dt'] 74))
      have z4 := d6_keep (b_alloc (Below.refl w4.heap.size w4) (.cells #[.int .i64 t, .int .i64 xt', .int .i64 yt', .int .i64 ht', .int .i64 rt', .int .i64 dt'] 74)) (d6_keep hb Z3.out); have z5 := d6_new w4 74 t xt' yt' ht' rt' dt'
      have n4 := new_ne (d6_keep hb Z3.out).1.1; have n5 := new_ne (p2_keep hb P3.out).1
      have P4 := Lib.hid p4
      obtain ⟨p40, p41⟩ := p4
      obtain ⟨⟨a0, a1, a2⟩, a3, a4, a5⟩ := z4
      obtain ⟨⟨c0, c1, c2⟩, c3, c4, c5⟩ := z5
      clear hb
      go_wp2_with fail
      (with_reducible refine (SD.out _).mono ?_); rintro e w5 ⟨rfl, hb⟩
      have o5 := own_keep hb O4.out; have P5 := Lib.hid (p2_keep hb P4.out); have W5 := Lib.hid (b_next W4.out hb)
      clear hb p40 p41 a0 a1 a2 a3 a4 a5 c0 c1 c2 c3 c4 c5 n4 n5
      cases sb with
      | true =>
        have HN := Lib.hid (spanN_no (cf := cf) (a := a) (k := k) (by rw [← HT.out]; exact HCt.out))
        have O5 := Lib.hid o5; clear o5
        go_wp2_with fail
        refine ⟨⟨k + 1, by omega, ?_, by rw [HN.out]; exact O5.out, P5.out, W5.out⟩, by simp [intOf]; omega⟩
        have := HT.out
        congr 1; omega
      | false =>
        have hcf : cf (a + k) = true := by rw [← HT.out]; exact HCt.out
        have HCF := Lib.hid hcf; clear hcf
        obtain ⟨A, cap, rfl, hmc, hcm⟩ := own_slice o5
        have hcm' : cap ≤ 9223372036854775807 := Nat.le_trans hcm (by decide)
        obtain ⟨m, hm⟩ : ∃ m, m = (spanN cf a k).1 := ⟨_, rfl⟩
        obtain ⟨f, hf⟩ : ∃ f, f = (spanN cf a k).2 := ⟨_, rfl⟩
        rw [← hm, ← hf] at o5
        rw [← hm] at hmc few ⊢
        have HM := Lib.hid hm; have HF := Lib.hid hf; have O5 := Lib.hid o5; have HCM := Lib.hid hcm; clear hm hf o5 hcm
        by_cases hm0 : 0 < m
        · have i1 : (0 : Int) < (m : Int) := by omega
          have i2 := decide_eq_true i1
          have i3 := decide_eq_true hm0
          obtain ⟨g, cap2, he, hg1, hg2, -, -, hrow⟩ := own_row O5.out hm0
          injection he with e1 e2 e3
          subst e1 e3
          have u1 : IntKind.i64.wrap ((m : Int) - 1) = ((m - 1 : Nat) : Int) := by rw [IntWalk.i64_in _ (by omega)]; omega
          have u2 : ((m - 1 : Nat) : Int) < (m : Int) := by omega
          have u3 : (m : Int) - 1 = ((m - 1 : Nat) : Int) := by omega
          have k1 : w5.cell? ⟨g, (m - 1) * 2 + 1, none⟩ = some (.int .i64 (f (m - 1) 1)) := hrow.cell (m - 1) (by omega) 1 (by omega)
          have f1 := hrow.free ((m - 1) * 2 + 1)
          have HR := Lib.hid hrow; clear hrow
          by_cases hq : f (m - 1) 1 = t
          · have HN : Hid (spanN cf a (k + 1) = (m, upd f (m - 1) 1 (t + 1))) := Lib.hid (by
              have e := spanN_more (cf := cf) (a := a) (k := k) HCF.out (by rw [← HM.out]; exact hm0) (by rw [← HM.out, ← HF.out, hq, HT.out])
              rw [← HM.out, ← HF.out, ← HT.out] at e; exact e)
            have q1 : (f (m - 1) 1 == t) = true := by simp [hq]
            clear hq
            go_wp2_with fail
            refine ⟨⟨k + 1, by omega, ?_, ?_, p2_far _ _ (by show g ≠ w.heap.size; omega) P5.out, b_set W5.out (Nat.le_trans (Nat.le_succ _) hg1) _⟩, by simp [intOf]; omega⟩
            · have := HT.out
              congr 1; omega
            · rw [HN.out]
              exact own_set O5.out (by omega) (by omega) (t + 1)
          · have HN : Hid (spanN cf a (k + 1) = (m + 1, fun i j => if i = m then (if j = 0 then t else t + 1) else f i j)) := Lib.hid (by
              have e := spanN_new (cf := cf) (a := a) (k := k) HCF.out (fun h => hq (by have h2 := h.2; rw [← HM.out, ← HF.out, ← HT.out] at h2; exact h2))
              rw [← HM.out, ← HF.out, ← HT.out] at e; exact e)
            have q1 : (f (m - 1) 1 == t) = false := by simp [hq]
            clear hq
            have O6 := Lib.hid (own_keep (b_alloc (Below.refl w5.heap.size w5) (.cells #[.int .i64 t, .int .i64 (t + 1)] 35)) O5.out); have W6 := Lib.hid (b_alloc W5.out (.cells #[.int .i64 t, .int .i64 (t + 1)] 35)); have P6 := Lib.hid (p2_alloc (.cells #[.int .i64 t, .int .i64 (t + 1)] 35) P5.out)
            have HN2 := Lib.hid (new2 w5 35 t (t + 1))
            go_wp2_with (at_builtin; refine wpList_append_own_at _ rfl (.tmp 65) (.tmp 70) 31 rfl (w.heap.size + 1) 35 i0 _ 2 16 Tryz.underlying31 I.out.1 I.out.2.1 I.out.2.2.1 I.out.2.2.2 rfl (by decide) _ m _ rfl O6.out ⟨w5.heap.size, 0, none⟩ 1 1 [.int .i64 t, .int .i64 (t + 1)] rfl rfl HN2.out new2_one (by unfold maxLen; omega) (by omega) (Nat.succ_le_of_lt (show w.heap.size < _ from lt_of_cell P6.out.1)) ?_; intro v1 w7 hown1 hg1 hnil1 hat1)
            refine ⟨⟨k + 1, by omega, ?_, ?_, ?_, grow_below W6.out O6.out hg1 (Nat.le_succ _) W6.out.size⟩, by simp [intOf]; omega⟩
            · have := HT.out
              congr 1; omega
            · rw [HN.out]
              have h := hown1
              rw [rowL_span] at h
              exact h
            · have hb7 : Below (w.heap.size + 1) _ w7 := (Below.refl _ _).grown hg1 (Nat.succ_le_of_lt (show w.heap.size < _ from lt_of_cell P6.out.1)) (own_ge O6.out)
              exact ⟨(hb7.cell (p := ⟨w.heap.size, 0, none⟩) (Nat.lt_succ_self _)).trans P6.out.1, (hb7.cell (p := ⟨w.heap.size, 1, none⟩) (Nat.lt_succ_self _)).trans P6.out.2⟩
        · have i1 : ¬ (0 : Int) < (m : Int) := by omega
          have i2 := decide_eq_false i1
          have i3 := decide_eq_false hm0
          have HN : Hid (spanN cf a (k + 1) = (m + 1, fun i j => if i = m then (if j = 0 then t else t + 1) else f i j)) := Lib.hid (by
            have e := spanN_new (cf := cf) (a := a) (k := k) HCF.out (fun h => hm0 (by have h1 := h.1; rw [← HM.out] at h1; exact h1))
            rw [← HM.out, ← HF.out, ← HT.out] at e; exact e)
          have O6 := Lib.hid (own_keep (b_alloc (Below.refl w5.heap.size w5) (.cells #[.int .i64 t, .int .i64 (t + 1)] 35)) O5.out); have W6 := Lib.hid (b_alloc W5.out (.cells #[.int .i64 t, .int .i64 (t + 1)] 35)); have P6 := Lib.hid (p2_alloc (.cells #[.int .i64 t, .int .i64 (t + 1)] 35) P5.out)
          have HN2 := Lib.hid (new2 w5 35 t (t + 1))
          go_wp2_with (at_builtin; refine wpList_append_own_at _ rfl (.tmp 65) (.tmp 70) 31 rfl (w.heap.size + 1) 35 i0 _ 2 16 Tryz.underlying31 I.out.1 I.out.2.1 I.out.2.2.1 I.out.2.2.2 rfl (by decide) _ m _ rfl O6.out ⟨w5.heap.size, 0, none⟩ 1 1 [.int .i64 t, .int .i64 (t + 1)] rfl rfl HN2.out new2_one (by unfold maxLen; omega) (by omega) (Nat.succ_le_of_lt (show w.heap.size < _ from lt_of_cell P6.out.1)) ?_; intro v1 w7 hown1 hg1 hnil1 hat1)
          refine ⟨⟨k + 1, by omega, ?_, ?_, ?_, grow_below W6.out O6.out hg1 (Nat.le_succ _) W6.out.size⟩, by simp [intOf]; omega⟩
          · have := HT.out
            congr 1; omega
          · rw [HN.out]
            have h := hown1
            rw [rowL_span] at h
            exact h
          · have hb7 : Below (w.heap.size + 1) _ w7 := (Below.refl _ _).grown hg1 (Nat.succ_le_of_lt (show w.heap.size < _ from lt_of_cell P6.out.1)) (own_ge O6.out)
            exact ⟨(hb7.cell (p := ⟨w.heap.size, 0, none⟩) (Nat.lt_succ_self _)).trans P6.out.1, (hb7.cell (p := ⟨w.heap.size, 1, none⟩) (Nat.lt_succ_self _)).trans P6.out.2⟩
    · have he : k = (z + 1 - a).toNat := by omega
      have HE := Lib.hid he; clear he ht
      go_wp2_with fail
      go_ret
      exact ⟨⟨_, rfl, by rw [← HE.out]; exact own_weaken (Nat.le_succ _) HO.out⟩, HB.out⟩
/-- Two tubes collide at a time. -/
def cfT (T X Y H R B : Nat → Int) (n : Nat) (T' X' Y' H' R' B' : Nat → Int) (n' : Nat) (lat ver t : Int) : Bool :=
  !sepB (tx T X (segI T n t) t) (tx T Y (segI T n t) t) (th T H (segI T n t) t) (tu T R (segI T n t) t) (tu T B (segI T n t) t) (tx T' X' (segI T' n' t) t) (tx T' Y' (segI T' n' t) t) (th T' H' (segI T' n' t) t) (tu T' R' (segI T' n' t) t) (tu T' B' (segI T' n' t) t) lat ver
set_option maxRecDepth 100000 in
set_option maxHeartbeats 2000000 in
theorem pair_bad (A A' : Option Addr) (m m' c c' : Nat) (lat ver E E' F : Int) (w : World) (C1 : Hid (CkC (.slice A m c) E w)) (C2 : Hid (CkC (.slice A' m' c') E' w)) (hE : twoE lat ver E E' = F) (hF : F ≠ 0) :
    Calls Tryz.prog 12 #[.slice A m c, .slice A' m' c', .agg #[.int .i64 lat, .int .i64 ver]] w fun e w' => e = .returned (.tuple #[.slice none 0 0, .int .i64 F]) ∧ Below w.heap.size w w' := by
  have HE := Lib.hid hE; clear hE
  obtain ⟨hF1, hF2⟩ := ge1 hF; clear hF
  have HP := Lib.hid (p2_new w 25 lat ver)
  have W0 := Lib.hid (b_alloc (Below.refl w.heap.size w) (.cells #[.int .i64 lat, .int .i64 ver] 25))
  have Q1 := q2_new (w.alloc (.cells #[.int .i64 lat, .int .i64 ver] 25)) 23 (.slice A m c) (.slice A' m' c')
  have W1 := Lib.hid (b_alloc W0.out (.cells #[.slice A m c, .slice A' m' c'] 23))
  have CH := Lib.hid (check_two lat ver Q1 (ckc_keep W1.out C1.out) (ckc_keep W1.out C2.out))
  clear Q1
  rw [HE.out, World.size_alloc] at CH
  go_enter Tryz.func12, Tryz.ntmps12
  go_wp2_with fail
  (with_reducible refine CH.out.mono ?_); rintro e w1 ⟨rfl, h⟩
  have hw := b_next W1.out h; clear h
  go_wp2_with fail
  go_ret2
  exact ⟨rfl, hw⟩
set_option maxRecDepth 100000 in
set_option maxHeartbeats 2000000 in
theorem pair_walk (A A' : Option Addr) (m m' c c' M : Nat) (F : Nat → Nat → Int) (lat ver : Int) (w : World) (C1 : Hid (CkC (.slice A m c) 0 w)) (C2 : Hid (CkC (.slice A' m' c') 0 w)) (hE : twoE lat ver 0 0 = 0)
    (SP : Hid (∀ w1, Below w.heap.size w w1 → Calls Tryz.prog 37 #[.slice A m c, .slice A' m' c', .agg #[.int .i64 lat, .int .i64 ver]] w1 fun e w' => (∃ q, e = .returned q ∧ Own w' w1.heap.size 35 2 q M F) ∧ Below w1.heap.size w1 w')) :
    Calls Tryz.prog 12 #[.slice A m c, .slice A' m' c', .agg #[.int .i64 lat, .int .i64 ver]] w fun e w' => (∃ q, e = .returned (.tuple #[q, .int .i64 0]) ∧ Own w' w.heap.size 35 2 q M F) ∧ Below w.heap.size w w' := by
  have HE := Lib.hid hE; clear hE
  have HP := Lib.hid (p2_new w 25 lat ver)
  have W0 := Lib.hid (b_alloc (Below.refl w.heap.size w) (.cells #[.int .i64 lat, .int .i64 ver] 25))
  have Q1 := q2_new (w.alloc (.cells #[.int .i64 lat, .int .i64 ver] 25)) 23 (.slice A m c) (.slice A' m' c')
  have W1 := Lib.hid (b_alloc W0.out (.cells #[.slice A m c, .slice A' m' c'] 23))
  have CH := Lib.hid (check_two lat ver Q1 (ckc_keep W1.out C1.out) (ckc_keep W1.out C2.out))
  clear Q1
  rw [HE.out, World.size_alloc] at CH
  have P1 := Lib.hid (p2_alloc (.cells #[.slice A m c, .slice A' m' c'] 23) HP.out)
  go_enter Tryz.func12, Tryz.ntmps12
  go_wp2_with fail
  (with_reducible refine CH.out.mono ?_); rintro e w1 ⟨rfl, h⟩
  have W2 := Lib.hid (b_next W1.out h); obtain ⟨p0, p1⟩ := p2_keep h P1.out; clear h
  go_wp2_with fail
  (with_reducible refine (SP.out _ W2.out).mono ?_); rintro e w2 ⟨⟨q, rfl, ho⟩, h⟩
  have W3 := Lib.hid (b_next W2.out h); have O3 := Lib.hid (own_weaken W2.out.size ho); clear h ho
  go_wp2_with fail
  go_ret2
  exact ⟨⟨q, rfl, O3.out⟩, W3.out⟩
section
variable {u v : Value} {n n' : Nat} {T X Y H R B T' X' Y' H' R' B' : Nat → Int} {w : World}
theorem pairC_bad (hu : TV w u n T X Y H R B) (hv : TV w v n' T' X' Y' H' R' B') {lat ver : Int} (hE : twoE lat ver (tck T X Y H R B n) (tck T' X' Y' H' R' B' n') ≠ 0) :
    Calls Tryz.prog 12 #[u, v, .agg #[.int .i64 lat, .int .i64 ver]] w fun e w' => e = .returned (.tuple #[.slice none 0 0, .int .i64 (twoE lat ver (tck T X Y H R B n) (tck T' X' Y' H' R' B' n'))]) ∧ Below w.heap.size w w' := by
  have C1 := checkC hu
  have C2 := checkC hv
  obtain ⟨A, c, rfl, -, -⟩ := tv_slice hu
  obtain ⟨A', c', rfl, -, -⟩ := tv_slice hv
  exact pair_bad A A' n n' c c' lat ver _ _ _ w (Lib.hid C1) (Lib.hid C2) rfl hE
theorem twoE_zero {lat ver E E' : Int} (h : twoE lat ver E E' = 0) : sepE lat ver = 0 ∧ E = 0 ∧ E' = 0 := by
  unfold twoE at h
  split at h
  · rename_i h1; exact absurd h h1
  · rename_i h1
    split at h
    · rename_i h2; exact absurd h h2
    · rename_i h2; exact ⟨Classical.not_not.1 h1, Classical.not_not.1 h2, h⟩
theorem sepE_zero {lat ver : Int} (h : sepE lat ver = 0) : (0 ≤ lat ∧ lat ≤ 1000000) ∧ (0 ≤ ver ∧ ver ≤ 60000) := by
  unfold sepE at h
  split at h <;> omega
theorem sepE_ok {lat ver : Int} (h : (0 ≤ lat ∧ lat ≤ 1000000) ∧ (0 ≤ ver ∧ ver ≤ 60000)) : sepE lat ver = 0 := by
  unfold sepE; rw [if_neg (by omega)]
theorem pairC_ok (hu : TV w u n T X Y H R B) (hv : TV w v n' T' X' Y' H' R' B') (hp : tok T X Y H R B n) (hp' : tok T' X' Y' H' R' B' n') {lat ver : Int} (hs : sepE lat ver = 0) :
    Calls Tryz.prog 12 #[u, v, .agg #[.int .i64 lat, .int .i64 ver]] w fun e w' => (∃ q, e = .returned (.tuple #[q, .int .i64 0]) ∧
      Own w' w.heap.size 35 2 q (spanN (cfT T X Y H R B n T' X' Y' H' R' B' n' lat ver) (max (T 0) (T' 0)) (min (T (n - 1)) (T' (n' - 1)) + 1 - max (T 0) (T' 0)).toNat).1 (spanN (cfT T X Y H R B n T' X' Y' H' R' B' n' lat ver) (max (T 0) (T' 0)) (min (T (n - 1)) (T' (n' - 1)) + 1 - max (T 0) (T' 0)).toNat).2) ∧ Below w.heap.size w w' := by
  have C1 := checkC hu
  have C2 := checkC hv
  rw [(tck_zero n).2 hp] at C1
  rw [(tck_zero n').2 hp'] at C2
  have t0 := hp.time 0 hp.pos
  have t0' := hp'.time 0 hp'.pos
  have tn := hp.time (n - 1) (by have := hp.pos; omega)
  have tn' := hp'.time (n' - 1) (by have := hp'.pos; omega)
  have h1 : T 0 ≤ max (T 0) (T' 0) := by omega
  have h2 : T' 0 ≤ max (T 0) (T' 0) := by omega
  have h3 : min (T (n - 1)) (T' (n' - 1)) ≤ T (n - 1) := by omega
  have h4 : min (T (n - 1)) (T' (n' - 1)) ≤ T' (n' - 1) := by omega
  have S := fun (w1 : World) (hb : Below w.heap.size w w1) => spans_walk u v (max (T 0) (T' 0)) (min (T (n - 1)) (T' (n' - 1))) lat ver _ _ _ _ _ _ _ _ _ _ (cfT T X Y H R B n T' X' Y' H' R' B' n' lat ver) (Lib.hid fun t => rfl) w1 (Lib.hid (commonC (tv_keep hb hu) (tv_keep hb hv) hp hp')) (by omega)
    (Lib.hid (at_of (tv_keep hb hu) hp h1 h3)) (Lib.hid (at_of (tv_keep hb hv) hp' h2 h4)) (Lib.hid (nd_bds hp h1 h3)) (Lib.hid (nd_bds hp' h2 h4))
  obtain ⟨A, c, rfl, -, -⟩ := tv_slice hu
  obtain ⟨A', c', rfl, -, -⟩ := tv_slice hv
  exact pair_walk A A' n n' c c' _ _ lat ver w (Lib.hid C1) (Lib.hid C2) (by unfold twoE; rw [if_neg (fun h => h hs), if_neg (fun h => h rfl)]) (Lib.hid S)
end
end Probe
end Go.Proofs.YteieagihdflapaaGreatDoor
namespace Go.Proofs.YteieagihdflapaaGreatDoor
open Go.RowKit
namespace Tube
open Kit Plane Path
def wT (k : Nat) : Int := if k = 0 then 0 else 30
def wX (k : Nat) : Int := if k = 0 then 0 else 300
def w0 (_ : Nat) : Int := 0
def wR (k : Nat) : Int := 100 + wid wT 60 k
def wB (_ : Nat) : Int := 5
theorem works_of (w : World) (b : Nat) (h0 : N4 w b 0 0 0 0 0 0) (h1 : N4 w b 0 1 30 300 0 0) :
    Calls Tryz.prog 78 #[.slice (some ⟨b, 0, none⟩) 2 2, .int .i64 100, .int .i64 60, .int .i64 5] w fun e w' => ∃ g cap, e = .returned (.tuple #[.slice (some ⟨g, 0, none⟩) 2 cap, .int .i64 0]) ∧ 2 ≤ cap ∧ cap ≤ 9223372036854775807 ∧ TV w' (.slice (some ⟨g, 0, none⟩) 2 cap) 2 wT wX w0 w0 wR wB ∧ S6 w' g 6 30 300 0 0 130 5 ∧ Below w.heap.size w w' := by
  have hv : PV w (.slice (some ⟨b, 0, none⟩) 2 2) 2 wT wX w0 w0 := Or.inr ⟨by omega, b, 0, 2, rfl, by omega, by decide, fun k hk => by
    rcases (show k = 0 ∨ k = 1 from by omega) with rfl | rfl
    · exact h0
    · exact h1⟩
  refine (of_ok hv (r := 100) (g := 60) (d := 5) (by decide)).mono ?_
  rintro e w' ⟨g, cap, rfl, hc, hm, hr, -, hb⟩
  refine ⟨g, cap, rfl, hc, Nat.le_trans hm (by decide), tv_row (by omega) hc hm hr, ?_, hb⟩
  exact ⟨⟨hr.cell 1 (by omega) 0 (by omega), hr.cell 1 (by omega) 1 (by omega), hr.cell 1 (by omega) 2 (by omega)⟩, hr.cell 1 (by omega) 3 (by omega), hr.cell 1 (by omega) 4 (by omega), hr.cell 1 (by omega) 5 (by omega)⟩
theorem works_has {w : World} {v : Value} (hv : TV w v 2 wT wX w0 w0 wR wB) (qy : Int) (r : Bool) (hE : hasE wT wX w0 w0 wR wB 2 15 150 qy 5 = 0) (hB : hasB wT wX w0 w0 wR wB 0 15 150 qy 5 = r) :
    Calls Tryz.prog 19 #[v, .int .i64 15, .agg #[.int .i64 150, .int .i64 qy], .int .i64 5] w fun e w' => e = .returned (.tuple #[.bool r, .int .i64 0]) ∧ Below w.heap.size w w' := by
  have c := has_ok hv hE (i := 0) ⟨by decide, by decide, by decide⟩
  rw [hB] at c
  exact c
end Tube
end Go.Proofs.YteieagihdflapaaGreatDoor
namespace Go.Proofs.YteieagihdflapaaGreatDoor
open Go.RowKit
namespace Probe
open Kit Plane Tube
/-- The least of k numbers, and of a great one. -/
def minN (g : Int → Int) (a : Int) : Nat → Int
  | 0 => 4611686018427387904
  | k + 1 => min (minN g a k) (g (a + k))
theorem minN_le {g : Int → Int} {a : Int} : ∀ {k : Nat} {t : Int}, a ≤ t → t < a + k → minN g a k ≤ g t := by
  intro k
  induction k with
  | zero => intro t h1 h2; omega
  | succ k ih =>
    intro t h1 h2
    show min (minN g a k) (g (a + k)) ≤ g t
    by_cases ht : t = a + k
    · rw [ht]; omega
    · have := ih h1 (show t < a + k by omega); omega
theorem minN_at {g : Int → Int} {a : Int} {k : Nat} (h0 : 0 < k) (hg : ∀ t, a ≤ t → t < a + k → g t ≤ 1000000000) : ∃ t, a ≤ t ∧ t < a + k ∧ minN g a k = g t := by
  induction k with
  | zero => omega
  | succ k ih =>
    have hk := hg (a + k) (by omega) (by omega)
    by_cases hz : k = 0
    · subst hz
      refine ⟨a, by omega, by omega, ?_⟩
      have e : minN g a (0 + 1) = min 4611686018427387904 (g (a + ((0 : Nat) : Int))) := rfl
      rw [e]
      have e2 : a + ((0 : Nat) : Int) = a := by omega
      rw [e2] at hk ⊢
      omega
    · obtain ⟨t, h1, h2, h3⟩ := ih (by omega) (fun t h1 h2 => hg t h1 (by omega))
      by_cases hl : g (a + k) ≤ minN g a k
      · refine ⟨a + k, by omega, by omega, ?_⟩
        show min (minN g a k) (g (a + k)) = _
        omega
      · refine ⟨t, h1, by omega, ?_⟩
        show min (minN g a k) (g (a + k)) = _
        omega
theorem minN_bd {g : Int → Int} {a : Int} : ∀ {k : Nat}, (∀ t, a ≤ t → t < a + k → -2000000 ≤ g t) → -2000000 ≤ minN g a k := by
  intro k
  induction k with
  | zero => intro _; show (-2000000 : Int) ≤ 4611686018427387904; omega
  | succ k ih =>
    intro h
    have := ih fun t h1 h2 => h t h1 (by omega)
    have := h (a + k) (by omega) (by omega)
    show -2000000 ≤ min (minN g a k) (g (a + k))
    omega
theorem minN_top {g : Int → Int} {a : Int} : ∀ {k : Nat}, minN g a k ≤ 4611686018427387904 := by
  intro k
  induction k with
  | zero => exact Int.le_refl _
  | succ k ih => show min (minN g a k) (g (a + k)) ≤ _; omega
theorem minN_step (g : Int → Int) (a : Int) (k : Nat) : minN g a (k + 1) = min (minN g a k) (g (a + k)) := rfl
/-- By how much two nodes are apart, beyond their radii. -/
def gapN (x y r x' y' r' : Int) : Int := root (sqr x y x' y') - r - r'
section
variable {u v : Value} {n n' : Nat} {T X Y H R B T' X' Y' H' R' B' : Nat → Int} {w : World}
/-- By how much two tubes are apart at a time, beyond their radii. -/
def gapT (T X Y R : Nat → Int) (n : Nat) (T' X' Y' R' : Nat → Int) (n' : Nat) (t : Int) : Int := gapN (tx T X (segI T n t) t) (tx T Y (segI T n t) t) (tu T R (segI T n t) t) (tx T' X' (segI T' n' t) t) (tx T' Y' (segI T' n' t) t) (tu T' R' (segI T' n' t) t)
end
-- SEPARATED
/-- A tube of one node. -/
theorem one_tv {w : World} {b : Nat} {t x y h r d : Int} (hd : D6 w b t x y h r d) : TV w (.slice (some ⟨b, 0, none⟩) 1 1) 1 (fun _ => t) (fun _ => x) (fun _ => y) (fun _ => h) (fun _ => r) (fun _ => d) := by
  refine Or.inr ⟨by omega, b, 0, 1, rfl, by omega, by decide, fun k hk => ?_⟩
  obtain rfl : k = 0 := by omega
  exact hd
/-- What Check says of a tube of one node. -/
def nodeE (t x y h r d : Int) : Int := tck (fun _ => t) (fun _ => x) (fun _ => y) (fun _ => h) (fun _ => r) (fun _ => d) 1
theorem nodeE_bds {t x y h r d : Int} (he : nodeE t x y h r d = 0) : NB x y h r d ∧ 0 ≤ t ∧ t ≤ 200000 := by
  have hp := (tck_zero 1).1 he
  have g := hp.point 0 (by omega)
  have q := hp.nums 0 (by omega)
  have s := hp.time 0 (by omega)
  unfold good at g
  exact ⟨⟨g, q⟩, s⟩
/-- What Separated returns. -/
def SepdP (E t t' : Int) (b : Bool) (e : Ending) : Prop := (E ≠ 0 ∧ e = .returned (.tuple #[.bool false, .int .i64 E])) ∨ (E = 0 ∧ t ≠ t' ∧ e = .returned (.tuple #[.bool false, .int .i64 12])) ∨ (E = 0 ∧ t = t' ∧ e = .returned (.tuple #[.bool b, .int .i64 0]))
-- WORKS
theorem works_root : root 64 = 8 ∧ root 34 = 5 := ⟨root_unique (by omega) (by omega) (by omega), root_unique (by omega) (by omega) (by omega)⟩
end Probe
end Go.Proofs.YteieagihdflapaaGreatDoor
namespace Go.Proofs.YteieagihdflapaaGreatDoor
open Go.RowKit
namespace Tube
open Kit Plane
end Tube
namespace Probe
open Kit Plane Tube
set_option maxRecDepth 100000 in
set_option maxHeartbeats 4000000 in
theorem check_at (A0 : Option Addr) (m c : Nat) (A : Nat → Option Addr) (N K : Nat → Nat) (es : Nat → Int) (lat ver : Int) (w : World) (hs : sepE lat ver = 0) (hc : m ≤ c) (hm : c ≤ 9223372036854775807) (HV : Hid (∀ k, k < m → ∃ b off, A0 = some ⟨b, off, none⟩ ∧ w.cell? ⟨b, off + k, none⟩ = some (.slice (A k) (N k) (K k)))) (C : Hid (∀ k, k < m → CkC (.slice (A k) (N k) (K k)) (es k) w)) :
    Calls Tryz.prog 36 #[.agg #[.int .i64 lat, .int .i64 ver], .slice A0 m c] w fun e w' => e = .returned (.int .i64 (firstE es m)) ∧ Below w.heap.size w w' := by
  have HP := Lib.hid (p2_new w 25 lat ver)
  have HW := Lib.hid (b_alloc (Below.refl w.heap.size w) (.cells #[.int .i64 lat, .int .i64 ver] 25))
  have CS := Lib.hid (fun w => by have c := checkSep lat ver w; rw [hs] at c; exact c)
  clear hs
  go_enter Tryz.func36, Tryz.ntmps36
  go_wp2_with fail
  (with_reducible refine (CS.out _).mono ?_); rintro e w1 ⟨rfl, h⟩
  have W1 := Lib.hid (b_next HW.out h); clear h
  go_wp2_with fail
  go_loopw [16] (fun s wr => ∃ k : Nat, k ≤ m ∧ s = .int .i64 k ∧ firstE es k = 0 ∧ Below w.heap.size w wr) (fun s _ => m - (intOf s).toNat)
  case atStart => exact ⟨0, Nat.zero_le _, rfl, rfl, W1.out⟩
  case round =>
    obtain ⟨k, hk, rfl, hf, hbl⟩ := hrel
    have HF := Lib.hid hf; have HB := Lib.hid hbl; clear hf
    by_cases hlt : k < m
    · have hl : (k : Int) < (m : Int) := by omega
      obtain ⟨b, off, rfl, hcell⟩ := HV.out k hlt
      have hcell := keep hbl hcell
      have CK := Lib.hid (C.out k hlt)
      clear hbl
      by_cases hE : es k = 0
      · rw [hE] at CK
        have HE := Lib.hid hE; clear hE
        go_wp2_with fail
        (with_reducible refine (CK.out _ HB.out).mono ?_); rintro e w2 ⟨rfl, h⟩
        have HB2 := Lib.hid (b_next HB.out h); clear h
        go_wp2_with fail
        exact ⟨⟨k + 1, by omega, by go_num, by rw [first_step HF.out]; exact HE.out, HB2.out⟩, by simp [intOf]; omega⟩
      · have HFE := Lib.hid (first_stop HF.out hlt hE)
        obtain ⟨hE1, hE2⟩ := ge1 hE; clear hE
        go_wp2_with fail
        (with_reducible refine (CK.out _ HB.out).mono ?_); rintro e w2 ⟨rfl, h⟩
        have HB2 := Lib.hid (b_next HB.out h); clear h
        go_wp2_with fail
        go_ret
        exact ⟨ret1 HFE.out.symm, HB2.out⟩
    · have he : k = m := by omega
      have HE := Lib.hid he
      have hl : ¬ (k : Int) < (m : Int) := by omega
      clear he
      go_wp2_with fail
      go_ret
      exact ⟨ret1 (by rw [← HE.out]; exact HF.out.symm), hbl⟩
/-- What a tube is. -/
structure Td where
  n : Nat
  T : Nat → Int
  X : Nat → Int
  Y : Nat → Int
  H : Nat → Int
  R : Nat → Int
  B : Nat → Int
abbrev TD (w : World) (u : Value) (d : Td) : Prop := TV w u d.n d.T d.X d.Y d.H d.R d.B
/-- A list of tubes. -/
def TsV (w : World) (v : Value) (m : Nat) (D : Nat → Td) : Prop :=
  (m = 0 ∧ Chart.Nil0 v) ∨ (0 < m ∧ ∃ b off cap, v = .slice (some ⟨b, off, none⟩) m cap ∧ m ≤ cap ∧ cap ≤ maxLen ∧ ∀ k, k < m → ∃ u, w.cell? ⟨b, off + k, none⟩ = some u ∧ TD w u (D k))
theorem ts_keep {W w1 : World} (hb : Below W.heap.size W w1) {v : Value} {m : Nat} {D : Nat → Td} (h : TsV W v m D) : TsV w1 v m D := by
  rcases h with h | ⟨h0, b, off, cap, hv, h1, h2, h3⟩
  · exact Or.inl h
  · exact Or.inr ⟨h0, b, off, cap, hv, h1, h2, fun k hk => (h3 k hk).elim fun u hu => ⟨u, keep hb hu.1, tv_keep hb hu.2⟩⟩
theorem ts_at {w : World} {v : Value} {m : Nat} {D : Nat → Td} (h : TsV w v m D) (h0 : 0 < m) : ∃ b off cap, v = .slice (some ⟨b, off, none⟩) m cap ∧ m ≤ cap ∧ cap ≤ maxLen ∧ ∀ k, k < m → ∃ u, w.cell? ⟨b, off + k, none⟩ = some u ∧ TD w u (D k) := by
  rcases h with ⟨h1, -⟩ | ⟨-, h⟩
  · omega
  · exact h
theorem ts_slice {w : World} {v : Value} {m : Nat} {D : Nat → Td} (h : TsV w v m D) : ∃ A cap, v = .slice A m cap ∧ m ≤ cap ∧ cap ≤ maxLen := by
  rcases h with ⟨rfl, rfl | ⟨a, cap, rfl, hm⟩⟩ | ⟨h0, b, off, cap, rfl, h1, h2, h3⟩
  · exact ⟨_, _, rfl, Nat.le_refl _, Nat.zero_le _⟩
  · exact ⟨_, _, rfl, Nat.zero_le _, hm⟩
  · exact ⟨_, _, rfl, h1, h2⟩
/-- The first tubes of a list. -/
theorem ts_take {w : World} {A : Option Addr} {m cap : Nat} {D : Nat → Td} (h : TsV w (.slice A m cap) m D) {k : Nat} (hk : k ≤ m) (hm : cap ≤ maxLen) (h0 : 0 < m) : TsV w (.slice A k cap) k D := by
  obtain ⟨b, off, c, e, h1, h2, h3⟩ := ts_at h h0
  injection e with e1 _ e3
  subst e1 e3
  rcases Nat.eq_zero_or_pos k with rfl | hk0
  · exact Or.inl ⟨rfl, Or.inr ⟨_, _, rfl, hm⟩⟩
  · exact Or.inr ⟨hk0, b, off, cap, rfl, by omega, hm, fun j hj => h3 j (by omega)⟩
/-- An argument of tubes. -/
theorem ts_of {W : World} {v : Value} (h : Frame.Okc W (.sl [.sl [.int, .int, .int, .int, .int, .int]]) v) : ∃ m D, TsV W v m D := by
  rcases Frame.Okc.sl_inv h with rfl | ⟨a, cap, rfl, hc⟩ | ⟨b, off, len, cap, cells, rfl, h0, h1, h2, h3, h4⟩
  · exact ⟨0, fun _ => ⟨0, fun _ => 0, fun _ => 0, fun _ => 0, fun _ => 0, fun _ => 0, fun _ => 0⟩, Or.inl ⟨rfl, Or.inl rfl⟩⟩
  · exact ⟨0, fun _ => ⟨0, fun _ => 0, fun _ => 0, fun _ => 0, fun _ => 0, fun _ => 0, fun _ => 0⟩, Or.inl ⟨rfl, Or.inr ⟨_, _, rfl, hc⟩⟩⟩
  · have one : ∀ i, i < len → ∃ d, ∃ u, W.cell? ⟨b, off + i, none⟩ = some u ∧ TD W u d := fun i hi => by
      obtain ⟨n, T, X, Y, H, R, B, q⟩ := tv_of (h4 i hi 0 (by decide))
      have c := h3 i hi 0 (by decide)
      exact ⟨⟨n, T, X, Y, H, R, B⟩, _, by rw [show off + i = off + i * 1 + 0 by omega]; exact c, q⟩
    classical
    refine ⟨len, fun i => if h : i < len then Classical.choose (one i h) else ⟨0, fun _ => 0, fun _ => 0, fun _ => 0, fun _ => 0, fun _ => 0, fun _ => 0⟩, Or.inr ⟨h0, b, off, cap, rfl, h1, h2, fun k hk => ?_⟩⟩
    simp only [dif_pos hk]
    exact Classical.choose_spec (one k hk)
/-- Which tube is wrong first. -/
def tse (D : Nat → Td) (k : Nat) : Int := tck (D k).T (D k).X (D k).Y (D k).H (D k).R (D k).B (D k).n
theorem checkTs {w : World} {v : Value} {m : Nat} {D : Nat → Td} (h : TsV w v m D) {lat ver : Int} (hs : sepE lat ver = 0) :
    Calls Tryz.prog 36 #[.agg #[.int .i64 lat, .int .i64 ver], v] w fun e w' => e = .returned (.int .i64 (firstE (tse D) m)) ∧ Below w.heap.size w w' := by
  rcases h with ⟨rfl, rfl | ⟨a, cap, rfl, hm⟩⟩ | ⟨h0, b, off, cap, rfl, h1, h2, h3⟩
  · exact check_at none 0 0 (fun _ => none) (fun _ => 0) (fun _ => 0) (tse D) lat ver w hs (Nat.le_refl _) (by decide) (Lib.hid fun k hk => absurd hk (Nat.not_lt_zero k)) (Lib.hid fun k hk => absurd hk (Nat.not_lt_zero k))
  · exact check_at (some a) 0 cap (fun _ => none) (fun _ => 0) (fun _ => 0) (tse D) lat ver w hs (Nat.zero_le _) (Nat.le_trans hm (by decide)) (Lib.hid fun k hk => absurd hk (Nat.not_lt_zero k)) (Lib.hid fun k hk => absurd hk (Nat.not_lt_zero k))
  · have e : ∀ k, ∃ q : Option Addr × Nat, k < m → w.cell? ⟨b, off + k, none⟩ = some (.slice q.1 (D k).n q.2) ∧ TD w (.slice q.1 (D k).n q.2) (D k) := fun k => by
      by_cases hk : k < m
      · obtain ⟨u, hu1, hu2⟩ := h3 k hk
        obtain ⟨A, c, rfl, -, -⟩ := tv_slice hu2
        exact ⟨(A, c), fun _ => ⟨hu1, hu2⟩⟩
      · exact ⟨(none, 0), fun h => absurd h hk⟩
    obtain ⟨vs, hvs⟩ := Classical.axiomOfChoice e
    exact check_at _ m cap (fun k => (vs k).1) (fun k => (D k).n) (fun k => (vs k).2) (tse D) lat ver w hs h1 (Nat.le_trans h2 (by decide)) (Lib.hid fun k hk => ⟨b, off, rfl, (hvs k hk).1⟩) (Lib.hid fun k hk => checkC (hvs k hk).2)
end Probe
end Go.Proofs.YteieagihdflapaaGreatDoor
namespace Go.Proofs.YteieagihdflapaaGreatDoor
open Go.RowKit Go.Shelf
shelf_lay_g SlLaysF0.n6 Slsf 6 at Tryz 62 as clashSort
namespace Probe
open Kit
/-- A clash. -/
structure Ck where
  A : Int
  B : Int
  F : Int
  T : Int
deriving DecidableEq
/-- Its numbers are small enough for the order. -/
def ckOk (c : Ck) : Prop := (0 ≤ c.A ∧ c.A ≤ 100) ∧ (0 ≤ c.B ∧ c.B ≤ 100) ∧ 0 ≤ c.F ∧ c.F ≤ 1000000
abbrev Cs := {c : Ck // ckOk c}
instance : Inhabited Cs := ⟨⟨⟨0, 0, 0, 0⟩, by unfold ckOk; decide⟩⟩
def encC (c : Cs) : List Value := [.int .i64 c.1.A, .int .i64 c.1.B, .int .i64 c.1.F, .int .i64 c.1.T]
/-- The order of clashes. -/
def cfC (x y : Cs) : Int := if x.1.F - y.1.F ≠ 0 then x.1.F - y.1.F else if x.1.A - y.1.A ≠ 0 then x.1.A - y.1.A else x.1.B - y.1.B
def ltC (x y : Ck) : Prop := x.F < y.F ∨ (x.F = y.F ∧ (x.A < y.A ∨ (x.A = y.A ∧ x.B < y.B)))
theorem lt_iff (x y : Cs) : ltOf cfC x y = true ↔ ltC x.1 y.1 := by
  unfold ltOf cfC ltC
  rw [decide_eq_true_eq]
  split
  · omega
  · split <;> omega
theorem lt_not (x y : Cs) : ltOf cfC x y = false ↔ ¬ ltC x.1 y.1 := by
  rw [← lt_iff]; simp
theorem swoC : Go.Sort.SWO (ltOf cfC) where
  irrefl x := by rw [lt_not]; unfold ltC; omega
  trans x y z h1 h2 := by rw [lt_iff] at *; unfold ltC at *; omega
  ntrans x y z h1 h2 := by rw [lt_not] at *; unfold ltC at *; omega
set_option maxHeartbeats 1000000 in
theorem or_w (b : Nat) (d : Nat → Int) (w : World) (HV : Hid (∀ k, k < 3 → w.cell? ⟨b, k, none⟩ = some (.int .i64 (d k)))) :
    Calls Tryz.prog 64 #[.slice (some ⟨b, 0, none⟩) 3 3] w fun e w' => e = .returned (.int .i64 (if d 0 ≠ 0 then d 0 else if d 1 ≠ 0 then d 1 else d 2)) ∧ w' = w := by
  obtain ⟨R, hR⟩ : ∃ R, R = if d 0 ≠ 0 then d 0 else if d 1 ≠ 0 then d 1 else d 2 := ⟨_, rfl⟩
  rw [← hR]
  have STOP : Hid (∀ k, k < 3 → (∀ j, j < k → d j = 0) → d k ≠ 0 → R = d k) := Lib.hid fun k hk h0 h => by
    rw [hR]
    rcases (show k = 0 ∨ k = 1 ∨ k = 2 from by omega) with rfl | rfl | rfl
    · rw [if_pos h]
    · rw [if_neg (fun q => q (h0 0 (by omega))), if_pos h]
    · rw [if_neg (fun q => q (h0 0 (by omega))), if_neg (fun q => q (h0 1 (by omega)))]
  have END : Hid ((∀ j, j < 3 → d j = 0) → R = 0) := Lib.hid fun h => by
    rw [hR, if_neg (fun q => q (h 0 (by omega))), if_neg (fun q => q (h 1 (by omega)))]; exact h 2 (by omega)
  clear hR
  go_enter Tryz.func64, Tryz.ntmps64
  go_wp2_with fail
  go_loopw [8] (fun s wr => ∃ k : Nat, k ≤ 3 ∧ s = .int .i64 k ∧ (∀ j, j < k → d j = 0) ∧ wr = w) (fun s _ => 3 - (intOf s).toNat)
  case atStart => exact ⟨0, Nat.zero_le _, rfl, fun j hj => absurd hj (Nat.not_lt_zero j), rfl⟩
  case round =>
    obtain ⟨k, hk, rfl, hno, hw⟩ := hrel
    have NO := Lib.hid hno; have HW := Lib.hid hw; clear hno
    subst hw
    by_cases hlt : k < 3
    · have hl : (k : Int) < 3 := by omega
      have c := HV.out k hlt
      by_cases hz : d k = 0
      · have NX : Hid (∀ j, j < k + 1 → d j = 0) := Lib.hid fun j hj => by
          rcases Nat.lt_or_ge j k with h | h
          · exact NO.out j h
          · rw [show j = k by omega]; exact hz
        rw [hz] at c
        clear hz
        go_wp2_with fail
        go_roundw
        case rel => exact ⟨k + 1, by omega, by go_num, NX.out, by first | rfl | trivial⟩
        case measure => simp [intOf]; omega
      · have hR := Lib.hid (STOP.out k hlt NO.out hz)
        have hz1 : (d k != 0) = true := by simpa using hz
        have hz2 : (d k == 0) = false := by simpa using hz
        go_wp2_with fail
        all_goals (go_ret; exact ⟨by rw [hR.out]; rfl, rfl⟩)
    · have hR := Lib.hid (END.out fun j hj => NO.out j (by omega))
      have hl : ¬ (k : Int) < 3 := by omega
      go_wp2_with fail
      go_ret
      exact ⟨by rw [hR.out]; rfl, rfl⟩
set_option maxHeartbeats 1000000 in
/-- The closure, in whatever world: some blocks are laid. -/
theorem closC (x y : Cs) (W : World) : Calls Tryz.prog 63 #[.agg #[.int .i64 x.1.A, .int .i64 x.1.B, .int .i64 x.1.F, .int .i64 x.1.T], .agg #[.int .i64 y.1.A, .int .i64 y.1.B, .int .i64 y.1.F, .int .i64 y.1.T]] W fun e w' => e = .returned (.int .i64 (cfC x y)) ∧ ∃ q os', w' = Go.Sort.grow (W.drewN q) os' := by
  obtain ⟨⟨a1, b1, f1, t1⟩, ⟨ha1, ha2⟩, ⟨hb1, hb2⟩, hf1, hf2⟩ := x
  obtain ⟨⟨a2, b2, f2, t2⟩, ⟨ha3, ha4⟩, ⟨hb3, hb4⟩, hf3, hf4⟩ := y
  unfold cfC
  simp only at ha1 ha2 hb1 hb2 hf1 hf2 ha3 ha4 hb3 hb4 hf3 hf4 ⊢
  obtain ⟨R, hR⟩ : ∃ R, R = if f1 - f2 ≠ 0 then f1 - f2 else if a1 - a2 ≠ 0 then a1 - a2 else b1 - b2 := ⟨_, rfl⟩
  rw [← hR]
  have C3 : ∀ k, k < 3 → (((W.alloc (.cells #[.int .i64 a1, .int .i64 b1, .int .i64 f1, .int .i64 t1] 78)).alloc (.cells #[.int .i64 a2, .int .i64 b2, .int .i64 f2, .int .i64 t2] 78)).alloc (.cells #[.int .i64 (f1 - f2), .int .i64 (a1 - a2), .int .i64 (b1 - b2)] 3)).cell? ⟨W.heap.size + 1 + 1, k, none⟩ = some (.int .i64 ((fun k => if k = 0 then f1 - f2 else if k = 1 then a1 - a2 else b1 - b2) k)) := fun k hk => by
    have q : ∀ (w : World) (k : Nat), k < 3 → (w.alloc (.cells #[.int .i64 (f1 - f2), .int .i64 (a1 - a2), .int .i64 (b1 - b2)] 3)).cell? ⟨w.heap.size, k, none⟩ = some (.int .i64 ((fun k => if k = 0 then f1 - f2 else if k = 1 then a1 - a2 else b1 - b2) k)) := fun w k hk => by
      rcases (show k = 0 ∨ k = 1 ∨ k = 2 from by omega) with rfl | rfl | rfl <;> simp
    have c := q ((W.alloc (.cells #[.int .i64 a1, .int .i64 b1, .int .i64 f1, .int .i64 t1] 78)).alloc (.cells #[.int .i64 a2, .int .i64 b2, .int .i64 f2, .int .i64 t2] 78)) k hk
    rw [World.size_alloc, World.size_alloc] at c
    exact c
  have O4 : Hid (Calls Tryz.prog 64 #[.slice (some ⟨W.heap.size + 1 + 1, 0, none⟩) 3 3] (((W.alloc (.cells #[.int .i64 a1, .int .i64 b1, .int .i64 f1, .int .i64 t1] 78)).alloc (.cells #[.int .i64 a2, .int .i64 b2, .int .i64 f2, .int .i64 t2] 78)).alloc (.cells #[.int .i64 (f1 - f2), .int .i64 (a1 - a2), .int .i64 (b1 - b2)] 3)) fun e w' => e = .returned (.int .i64 R) ∧ w' = (((W.alloc (.cells #[.int .i64 a1, .int .i64 b1, .int .i64 f1, .int .i64 t1] 78)).alloc (.cells #[.int .i64 a2, .int .i64 b2, .int .i64 f2, .int .i64 t2] 78)).alloc (.cells #[.int .i64 (f1 - f2), .int .i64 (a1 - a2), .int .i64 (b1 - b2)] 3))) := Lib.hid (by
    have q := or_w (W.heap.size + 1 + 1) (fun k => if k = 0 then f1 - f2 else if k = 1 then a1 - a2 else b1 - b2) _ (Lib.hid C3)
    rw [hR]; exact q)
  clear C3 hR
  go_enter Tryz.func63, Tryz.ntmps63
  go_wp2_with fail
  (with_reducible refine O4.out.mono ?_); rintro e w1 ⟨rfl, rfl⟩
  go_wp2_with fail
  go_ret
  exact ⟨rfl, 0, _, by rw [Go.Sort.alloc_eq_grow, Go.Sort.alloc_eq_grow, Go.Sort.alloc_eq_grow, Go.Sort.grow_grow, Go.Sort.grow_grow]; rfl⟩
theorem cmpLays (blk off size : Nat) (w : World) : CmpLays Tryz.prog 63 #[] encC 4 cfC blk off size w := fun _ _ _ _ x y => closC x y _
/-- Clashes that can be read. -/
def CLV (w : World) (v : Value) (L : List Ck) : Prop :=
  (L = [] ∧ Chart.Nil0 v) ∨ (0 < L.length ∧ ∃ b cap, v = .slice (some ⟨b, 0, none⟩) L.length cap ∧ L.length ≤ cap ∧ cap ≤ maxLen ∧ ∀ k (h : k < L.length),
    w.cell? ⟨b, k * 4, none⟩ = some (.int .i64 L[k].A) ∧ w.cell? ⟨b, k * 4 + 1, none⟩ = some (.int .i64 L[k].B) ∧ w.cell? ⟨b, k * 4 + 2, none⟩ = some (.int .i64 L[k].F) ∧ w.cell? ⟨b, k * 4 + 3, none⟩ = some (.int .i64 L[k].T))
theorem clv_keep {W w1 : World} (hb : Below W.heap.size W w1) {v : Value} {L : List Ck} (h : CLV W v L) : CLV w1 v L := by
  rcases h with h | ⟨h0, b, cap, hv, h1, h2, h3⟩
  · exact Or.inl h
  · exact Or.inr ⟨h0, b, cap, hv, h1, h2, fun k hk => ⟨keep hb (h3 k hk).1, keep hb (h3 k hk).2.1, keep hb (h3 k hk).2.2.1, keep hb (h3 k hk).2.2.2⟩⟩
/-- The cells of a list of clashes. -/
def ckf (L : List Ck) (i j : Nat) : Int := if j = 0 then (L.getD i ⟨0, 0, 0, 0⟩).A else if j = 1 then (L.getD i ⟨0, 0, 0, 0⟩).B else if j = 2 then (L.getD i ⟨0, 0, 0, 0⟩).F else (L.getD i ⟨0, 0, 0, 0⟩).T
/-- No later clash is ahead of an earlier one. -/
def srt (L : List Ck) : Prop := ∀ i j (hi : i < L.length) (hj : j < L.length), i < j → ¬ ltC L[j] L[i]
theorem below_sort {α : Type} [Inhabited α] {enc : α → List Value} {k N : Nat} {w0 w : World} {g q : Nat} {d : Array α} {os : Array Obj} (h : Below N w0 w) (hN : N ≤ w0.heap.size) (hg : N ≤ g) : Below N w0 (sortWorldK enc k w g 0 q d os) := by
  have hp : Below N w0 (Go.Sort.putRow id (Go.Sort.ahead w q) g 0 (Go.Sort.flatK enc k d)) :=
    ⟨h.os, h.tape, h.output, by simpa [Go.Sort.putRow, Go.Sort.mapBlock, Go.Sort.ahead] using h.size, fun k hk => by
      rw [← h.block k hk]
      simp [Go.Sort.putRow, Go.Sort.mapBlock, Go.Sort.ahead, Array.getElem?_modify, show g ≠ k by omega]⟩
  refine ⟨hp.os, hp.tape, hp.output, ?_, fun k hk => ?_⟩
  · show w0.heap.size ≤ (Go.Sort.grow _ os).heap.size
    rw [Go.Sort.size_grow]; exact Nat.le_trans hp.size (Nat.le_add_right _ _)
  · rw [← hp.block k hk]
    exact Go.Sort.heap_grow_old _ _ (Nat.lt_of_lt_of_le hk (Nat.le_trans hN hp.size))
theorem isAggC : ∀ w, (isAgg 78).run Tryz.prog w = .ok true w := Tryz.isAgg78
theorem sizeC : ∀ w, (Go.sizeOf 78).run Tryz.prog w = .ok 4 w := Tryz.sizeOf78
theorem enc_one (x : Cs) : ∀ v ∈ encC x, v.oneCell' = true := by
  intro v hv
  simp only [encC, List.mem_cons, List.not_mem_nil, or_false] at hv
  rcases hv with rfl | rfl | rfl | rfl <;> rfl
theorem flat_get (d : Array Cs) (k : Nat) (h : k < d.size) : (Go.Sort.flatK encC 4 d)[k * 4]! = .int .i64 d[k].1.A ∧ (Go.Sort.flatK encC 4 d)[k * 4 + 1]! = .int .i64 d[k].1.B ∧ (Go.Sort.flatK encC 4 d)[k * 4 + 2]! = .int .i64 d[k].1.F ∧ (Go.Sort.flatK encC 4 d)[k * 4 + 3]! = .int .i64 d[k].1.T := by
  have e : d[k]! = d[k] := getElem!_pos d k h
  refine ⟨?_, ?_, ?_, ?_⟩
  · rw [Go.Sort.get_flatK encC 4 d _ (by omega), show k * 4 / 4 = k by omega, show k * 4 % 4 = 0 by omega, e]; rfl
  · rw [Go.Sort.get_flatK encC 4 d _ (by omega), show (k * 4 + 1) / 4 = k by omega, show (k * 4 + 1) % 4 = 1 by omega, e]; rfl
  · rw [Go.Sort.get_flatK encC 4 d _ (by omega), show (k * 4 + 2) / 4 = k by omega, show (k * 4 + 2) % 4 = 2 by omega, e]; rfl
  · rw [Go.Sort.get_flatK encC 4 d _ (by omega), show (k * 4 + 3) / 4 = k by omega, show (k * 4 + 3) % 4 = 3 by omega, e]; rfl
set_option maxHeartbeats 1000000 in
/-- slices.SortFunc at a row of clashes of the call's own. -/
theorem sortC {w : World} {base : Nat} {v : Value} {L : List Ck} (ho : Own w base 78 4 v L.length (ckf L)) (hL : ∀ c ∈ L, ckOk c) (hn : L.length ≤ 300) :
    Calls Tryz.prog 62 #[v, .func (.func 63) #[] #[]] w fun e w' => e = .returned (.tuple #[]) ∧
      (∃ L', L'.Perm L ∧ srt L' ∧ CLV w' v L') ∧ ∀ N w0, N ≤ base → N ≤ w0.heap.size → Below N w0 w → Below N w0 w' := by
  rcases Nat.eq_zero_or_pos L.length with h0 | h0
  · obtain rfl : L = [] := List.eq_nil_of_length_eq_zero h0
    have hq : ∃ A cap, v = .slice A 0 cap ∧ Chart.Nil0 v := by
      rcases ho.2 with ⟨hv, -⟩ | ⟨g, cap, cur, hv, -, -, -, hcm, -⟩
      · exact ⟨none, 0, hv, Or.inl hv⟩
      · exact ⟨_, cap, hv, Or.inr ⟨_, _, hv, hcm⟩⟩
    obtain ⟨A, cap, rfl, hnil⟩ := hq
    have hcon := AnyF.slices_SortFunc_none clashSort A cap (.func (.func 63) #[] #[]) w
    change Calls Tryz.prog 62 _ _ _ at hcon
    refine hcon.mono ?_
    rintro e w' ⟨rfl, rfl⟩
    exact ⟨rfl, ⟨[], List.Perm.refl _, fun i j hi => absurd hi (Nat.not_lt_zero i), Or.inl ⟨rfl, hnil⟩⟩, fun N w0 _ _ h => h⟩
  · obtain ⟨g, cap, rfl, hb, hg, h1, h2, hr⟩ := own_row ho h0
    have eg : ∀ args w, (callFunc 63 args).run Tryz.prog w = .ok (.enter 63 args) w := enters_of Tryz.func63 (by kernel_rfl) rfl
    obtain ⟨d, hd⟩ : ∃ d : Array Cs, d = (L.attach.map fun c => (⟨c.1, hL c.1 c.2⟩ : Cs)).toArray := ⟨_, rfl⟩
    have hds : d.size = L.length := by rw [hd]; simp
    have hdg : ∀ k (h : k < d.size), d[k].1 = L[k]'(by omega) := fun k h => by subst hd; simp
    have hH : Go.Sort.HoldsK encC 4 w g 0 d := by
      intro j hj
      rw [Go.Sort.size_flatK] at hj
      have hk : j / 4 < L.length := by omega
      have hkd : j / 4 < d.size := by omega
      have hm := Nat.mod_lt j (show 0 < 4 by decide)
      have c := hr.cell (j / 4) hk (j % 4) hm
      have f := hr.free j
      rw [show j / 4 * 4 + j % 4 = j by omega] at c
      rw [Nat.zero_add]
      refine ⟨?_, f⟩
      rw [c, Go.Sort.get_flatK encC 4 d j hj, getElem!_pos d (j / 4) hkd]
      have e := hdg (j / 4) hkd
      have eL : L.getD (j / 4) ⟨0, 0, 0, 0⟩ = L[j / 4] := by rw [List.getD_eq_getElem?_getD, List.getElem?_eq_getElem hk]; rfl
      unfold ckf encC
      rw [e, eL]
      rcases (show j % 4 = 0 ∨ j % 4 = 1 ∨ j % 4 = 2 ∨ j % 4 = 3 by omega) with h | h | h | h <;> rw [h] <;> rfl
    have hcon := AnyQ.slices_SortFunc clashSort 4 isAggC sizeC encC (fun _ => rfl) enc_one cfC swoC 63 #[] g 0 cap d w eg (cmpLays g 0 d.size w) hH hg (by omega)
    change Calls Tryz.prog 62 _ _ _ at hcon
    rw [hds] at hcon
    refine hcon.mono ?_
    rintro e w' ⟨rfl, d', n, os, hp, hs, rfl⟩
    obtain ⟨hz, -, hpm⟩ := hp
    have hl : (d'.toList.map fun c => c.1).length = L.length := by simp [hz, hds]
    have hget : ∀ k (h : k < (d'.toList.map fun c => c.1).length) (h2 : k < d'.size), (d'.toList.map fun c => c.1)[k] = d'[k].1 := fun k h h2 => by simp
    refine ⟨rfl, ⟨d'.toList.map fun c => c.1, ?_, ?_, ?_⟩, fun N w0 h3 h4 h5 => below_sort h5 h4 (Nat.le_trans h3 hb)⟩
    · have e1 : d'.extract 0 L.length = d' := by rw [← hds, ← hz]; simp
      have e2 : d.extract 0 L.length = d := by rw [← hds]; simp
      rw [e1, e2] at hpm
      have e3 : d.toList.map (fun c => c.1) = L := by subst hd; simp
      rw [← e3]
      exact hpm.map _
    · intro i j hi hj hij
      have hi2 : i < d'.size := by omega
      have hj2 : j < d'.size := by omega
      have q := hs i j (Nat.zero_le _) hij (by omega)
      rw [lt_not, getElem!_pos d' j hj2, getElem!_pos d' i hi2] at q
      rw [hget j hj hj2, hget i hi hi2]; exact q
    · have hH2 := holdsK_sortWorldK_c encC 4 w g 0 d d' n os hH hg hz
      refine Or.inr ⟨by omega, g, cap, by rw [hl], by omega, h2, fun k hk => ?_⟩
      have hk2 : k < d'.size := by omega
      have fg := flat_get d' k hk2
      rw [hget k hk hk2]
      have hz2 : (Go.Sort.flatK encC 4 d').size = d'.size * 4 := Go.Sort.size_flatK _ _ _
      have q0 := (hH2 (k * 4) (by omega)).1; have q1 := (hH2 (k * 4 + 1) (by omega)).1; have q2 := (hH2 (k * 4 + 2) (by omega)).1; have q3 := (hH2 (k * 4 + 3) (by omega)).1
      rw [Nat.zero_add] at q0 q1 q2 q3
      exact ⟨by rw [q0, fg.1]; rfl, by rw [q1, fg.2.1]; rfl, by rw [q2, fg.2.2.1]; rfl, by rw [q3, fg.2.2.2]; rfl⟩
end Probe
end Go.Proofs.YteieagihdflapaaGreatDoor
