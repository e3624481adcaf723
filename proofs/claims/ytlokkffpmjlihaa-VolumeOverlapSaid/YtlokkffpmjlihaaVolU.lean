/- volume.Union: what it returns. -/
import Derived.Test.YtlokkffpmjlihaaVolQ
import Derived.Test.YtlokkffpmjlihaaTail
namespace Go.Proofs.Ytlokkffpmjlihaa
open Go.RowKit
namespace Vol
open Kit Plane Poly
theorem fits_u : (Try.prog.info? 66).map (fun i => (i.zero, i.size, i.bytes)) = some (some (.agg #[.int .i64 0, .int .i64 0]), 2, 16) := by kernel_rfl
theorem new2 (w : World) (ty : TypeId) (p q : Int) : ∀ j u, [Value.int .i64 p, .int .i64 q][j]? = some u → (w.alloc (.cells #[.int .i64 p, .int .i64 q] ty)).cell? ((⟨w.heap.size, 0, none⟩ : Addr).add j) = some u := by
  intro j u h
  rw [Go.WideShapes.add_plain, Nat.zero_add]
  match j, h with
  | 0, h => simp at h; subst h; simp
  | 1, h => simp at h; subst h; simp
theorem new2_one {p q : Int} : ∀ u ∈ [Value.int .i64 p, .int .i64 q], u.oneCell' = true := by
  intro u hu
  simp at hu
  rcases hu with rfl | rfl <;> rfl
theorem e2_grown {w w1 : World} {v : Value} {b k : Nat} {x y : Int} (hg : w.grownBy w1 v.ownBlock) (h : E2 w b 0 k x y) (hne : ∀ k, v.ownBlock = some k → b < k) : E2 w1 b 0 k x y := by
  have hb : w1.heap[b]? = w.heap[b]? := hg.block b (lt_of_cell h.1) (fun e => absurd (hne b e.symm) (by omega))
  exact ⟨(World.cell?_of_block (a := ⟨b, _, none⟩) hb).trans h.1, (World.cell?_of_block (a := ⟨b, _, none⟩) hb).trans h.2⟩
theorem e2_set {w : World} {b k g o : Nat} {x y : Int} {u : Value} (h : E2 w b 0 k x y) (hne : g ≠ b) : E2 (w.setCell ⟨g, o, none⟩ u) b 0 k x y := ⟨cfar _ (fun e => hne (by injection e)) h.1, cfar _ (fun e => hne (by injection e)) h.2⟩
theorem own_slice {w : World} {base : Nat} {E : TypeId} {C n : Nat} {v : Value} {f : Nat → Nat → Int} (h : Own w base E C v n f) : ∃ A cap, v = .slice A n cap ∧ n ≤ cap ∧ cap ≤ maxLen := by
  rcases h.2 with ⟨rfl, rfl⟩ | ⟨g, cap, cur, rfl, -, -, h1, h2, -⟩
  · exact ⟨none, 0, rfl, Nat.le_refl _, Nat.zero_le _⟩
  · exact ⟨_, cap, rfl, h1, h2⟩
theorem own_weaken {w : World} {base base' : Nat} {E : TypeId} {C n : Nat} {v : Value} {f : Nat → Nat → Int} (hb : base' ≤ base) (h : Own w base E C v n f) : Own w base' E C v n f := by
  refine ⟨h.1, ?_⟩
  rcases h.2 with hh | ⟨g, cap, cur, hv, h1, h2⟩
  · exact Or.inl hh
  · exact Or.inr ⟨g, cap, cur, hv, Nat.le_trans hb h1, h2⟩
theorem step_new {L : List (Int × Int)} {s : Int × Int} (h : L.length = 0 ∨ ¬ s.1 ≤ Vol.rowsL L (L.length - 1) 1) : step L s = L ++ [s] := by
  rcases List.eq_nil_or_concat L with rfl | ⟨L0, p, rfl⟩
  · rfl
  · rw [List.concat_eq_append] at h ⊢
    rw [step_snoc]
    rcases h with h | h
    · rw [List.length_append, List.length_singleton] at h; omega
    · rw [List.length_append, List.length_singleton, Nat.add_sub_cancel, rowsL_last, if_neg (show ¬ (1 : Nat) = 0 by decide)] at h
      rw [if_neg h]
theorem step_ext {L : List (Int × Int)} {s : Int × Int} (h0 : 0 < L.length) (h : s.1 ≤ Vol.rowsL L (L.length - 1) 1) {w : World} {base g cap : Nat} {E : TypeId} (ho : Own w base E 2 (.slice (some ⟨g, 0, none⟩) L.length cap) L.length (Vol.rowsL L)) : (step L s).length = L.length ∧ Own (w.setCell ⟨g, (L.length - 1) * 2 + 1, none⟩ (.int .i64 (max (Vol.rowsL L (L.length - 1) 1) s.2))) base E 2 (.slice (some ⟨g, 0, none⟩) L.length cap) (step L s).length (Vol.rowsL (step L s)) := by
  rcases List.eq_nil_or_concat L with rfl | ⟨L0, p, rfl⟩
  · exact absurd h0 (Nat.lt_irrefl 0)
  · rw [List.concat_eq_append] at h ho ⊢
    rw [List.length_append, List.length_singleton] at ho h ⊢
    rw [Nat.add_sub_cancel, rowsL_last, if_neg (show ¬ (1 : Nat) = 0 by decide)] at h
    rw [Nat.add_sub_cancel, rowsL_last, if_neg (show ¬ (1 : Nat) = 0 by decide), step_snoc, if_pos h]
    exact ⟨by rw [List.length_append, List.length_singleton], own_last ho⟩
set_option maxHeartbeats 1000000 in
theorem union_bad (v : Value) (E : Int) (w : World) (C : Hid (CsC v E w)) (_hE1 : (E == 0) = false) (hE2 : (E != 0) = true) :
    Calls Try.prog 25 #[v] w fun e w' => e = .returned (.tuple #[.slice none 0 0, .int .i64 E]) ∧ Below w.heap.size w w' := by
  go_enter Try.func25, Try.ntmps25
  go_wp2_with fail
  (with_reducible refine (C.out _ (Below.refl _ _)).mono ?_); rintro e w1 ⟨rfl, h⟩
  go_wp2_with fail
  go_ret2
  exact ⟨rfl, h⟩
abbrev ClC (v : Value) (D : Array Sp) (w : World) : Prop := ∀ w1, Below w.heap.size w w1 → Calls Try.prog 62 #[v] w1 fun e w' => (∃ g c, e = .returned (.slice (some ⟨g, 0, none⟩) D.size c) ∧ w1.heap.size ≤ g ∧ g < w'.heap.size ∧ D.size ≤ c ∧ c ≤ maxLen ∧ RowAt w' g D.size 2 (rowsD D)) ∧ Below w1.heap.size w1 w'
/-- d is D, in order. -/
structure Sorted (D d : Array Sp) : Prop where
  size : d.size = D.size
  perm : d.toList.Perm D.toList
  asc : ∀ i j, i < j → j < d.size → d[i]!.fr ≤ d[j]!.fr
abbrev SoC (D : Array Sp) : Prop := ∀ w1 g c, RowAt w1 g D.size 2 (rowsD D) → g < w1.heap.size → Calls Try.prog 63 #[.slice (some ⟨g, 0, none⟩) D.size c, .func (.func 64) #[] #[]] w1 fun e w' => e = .returned (.tuple #[]) ∧ ∃ d : Array Sp, Sorted D d ∧ w1.grownBy w' (some g) ∧ ∀ i, i < d.size → E2 w' g 0 i (d[i]!.fr) (d[i]!.to)
/-- The intervals of an array. -/
def listD (d : Array Sp) : List (Int × Int) := upTo (fun i => d[i]!.fr) (fun i => d[i]!.to) d.size
set_option maxRecDepth 100000 in
set_option maxHeartbeats 8000000 in
theorem union_walk (v : Value) (D : Array Sp) (w : World) (hn : D.size ≤ 256) (C : Hid (CsC v 0 w)) (CL : Hid (ClC v D w)) (SO : Hid (SoC D)) :
    Calls Try.prog 25 #[v] w fun e w' => (∃ q, e = .returned (.tuple #[q, .int .i64 0]) ∧ ∃ d, Sorted D d ∧ Own w' w.heap.size 66 2 q (joinL (listD d)).length (rowsL (joinL (listD d)))) ∧ Below w.heap.size w w' := by
  obtain ⟨i0, hi', hz0, hz1, hz2⟩ := info_parts fits_u
  have I := Lib.hid (And.intro hi' (And.intro hz0 (And.intro hz1 hz2))); clear hi' hz0 hz1 hz2
  have hmf : ∀ fn first cap w, (Instr.makeFunc fn first cap).run Try.prog w = .ok (.func fn first cap) w := fun _ _ _ _ => rfl
  go_enter Try.func25, Try.ntmps25
  go_wp2_with fail
  (with_reducible refine (C.out _ (Below.refl _ _)).mono ?_); rintro e w1 ⟨rfl, hb⟩
  have W1 := Lib.hid hb; clear hb
  go_wp2_with fail
  (with_reducible refine (CL.out _ W1.out).mono ?_); rintro e w2 ⟨⟨g, c, rfl, hg1, hg2, hc1, hc2, hrow⟩, hb⟩
  have W2 := Lib.hid (b_next W1.out hb); have HG := Lib.hid (And.intro (Nat.le_trans W1.out.size hg1) hg2); have R2 := Lib.hid hrow; clear hb hrow hg1 hg2
  have hc3 : c ≤ 9223372036854775807 := Nat.le_trans hc2 (by decide)
  clear hc2
  go_wp2_with fail
  (with_reducible refine (SO.out w2 g c R2.out HG.out.2).mono ?_); rintro e w3 ⟨rfl, d, hsd, hgr, he2⟩
  have W3 := Lib.hid (W2.out.grown hgr W2.out.size (fun k hk => by injection hk with hk; rw [← hk]; exact HG.out.1))
  have SD := Lib.hid hsd; have EE := Lib.hid he2; have hsz := hsd.size
  have G3 := Lib.hid (And.intro HG.out.1 (Nat.lt_of_lt_of_le HG.out.2 hgr.size))
  clear he2 hsd hgr
  obtain ⟨n, hn'⟩ : ∃ n, n = D.size := ⟨_, rfl⟩
  rw [← hn'] at hn hc1 hsz
  rw [← hn']
  obtain ⟨X, hX⟩ : ∃ X : Nat → Int, X = fun i => d[i]!.fr := ⟨_, rfl⟩
  obtain ⟨Y, hY⟩ : ∃ Y : Nat → Int, Y = fun i => d[i]!.to := ⟨_, rfl⟩
  have E3 : Hid (∀ i, i < n → E2 w3 g 0 i (X i) (Y i)) := Lib.hid (by subst hX hY; intro i hi; exact EE.out i (by omega))
  have HJ : Hid (joinL (listD d) = joinL (upTo X Y n)) := Lib.hid (by subst hX hY; unfold listD; rw [hsz])
  have OK : Hid (∀ i, okS (X i) (Y i)) := Lib.hid (by subst hX hY; exact fun i => d[i]!.ok)
  clear hX hY EE HG R2 W1 W2
  go_wp2_with fail
  go_loopw [21, 6] (fun s q wr => ∃ i : Nat, i ≤ n ∧ s = .int .i64 i ∧ Own wr (g + 1) 66 2 q (joinL (upTo X Y i)).length (Vol.rowsL (joinL (upTo X Y i))) ∧ (∀ i, i < n → E2 wr g 0 i (X i) (Y i)) ∧ Below w.heap.size w wr) (fun s _ _ => n - (intOf s).toNat)
  case atStart => exact ⟨0, Nat.zero_le _, rfl, own_nil _ _ _ _ _, E3.out, W3.out⟩
  case round =>
    obtain ⟨i, hi, rfl, ho, he, hbl⟩ := hrel
    have HL := Lib.hid (Nat.le_trans (join_len (upTo X Y i)) (show (upTo X Y i).length ≤ i by unfold upTo; simp))
    have HNX := Lib.hid (join_next X Y i)
    obtain ⟨L, hL⟩ : ∃ L, L = joinL (upTo X Y i) := ⟨_, rfl⟩
    rw [← hL] at ho HL HNX
    have HLL := Lib.hid hL; clear hL
    obtain ⟨A, cap, rfl, hmc, hcm⟩ := own_slice ho
    have hcm' : cap ≤ 9223372036854775807 := Nat.le_trans hcm (by decide)
    have HO := Lib.hid ho; have HE := Lib.hid he; have HB := Lib.hid hbl; clear ho hcm
    have e0 := fun hl => he i hl
    clear he
    by_cases hlt : i < n
    · have hl : (i : Int) < (n : Int) := by omega
      obtain ⟨c0, c1⟩ := e0 hlt
      rw [Nat.zero_add] at c0 c1
      clear e0
      have O1 := Lib.hid (own_keep (b_alloc (Below.refl wr.heap.size wr) (.cells #[.int .i64 (X i), .int .i64 (Y i)] 66)) HO.out)
      have E1 : Hid (∀ k, k < n → E2 (wr.alloc (.cells #[.int .i64 (X i), .int .i64 (Y i)] 66)) g 0 k (X k) (Y k)) := Lib.hid fun k hk => e2_keep (b_alloc (Below.refl wr.heap.size wr) _) (HE.out k hk)
      have B1 := Lib.hid (b_alloc HB.out (.cells #[.int .i64 (X i), .int .i64 (Y i)] 66))
      have P1 := Lib.hid (p2_new wr 66 (X i) (Y i))
      obtain ⟨m, hm⟩ : ∃ m, m = L.length := ⟨_, rfl⟩
      obtain ⟨f, hf⟩ : ∃ f, f = Vol.rowsL L := ⟨_, rfl⟩
      have hml := HL.out
      rw [← hm] at hml hmc ⊢
      by_cases hm0 : 0 < m
      · have HO1 := O1.out
        rw [← hm, ← hf] at HO1
        obtain ⟨gu, cap2, hee, hu1, hu2, -, -, hrow⟩ := own_row HO1 hm0
        injection hee with e1 e2 e3
        subst e1 e3
        have i1 : (0 : Int) < (m : Int) := by omega
        have i2 := decide_eq_true i1
        have i3 := decide_eq_true hm0
        have u1 : IntKind.i64.wrap ((m : Int) - 1) = ((m - 1 : Nat) : Int) := by rw [IntWalk.i64_in _ (by omega)]; omega
        have u4 : IntKind.i64.wrap ((m - 1 : Nat) : Int) = ((m - 1 : Nat) : Int) := IntWalk.i64_in _ (by omega)
        have u2 : ((m - 1 : Nat) : Int) < (m : Int) := by omega
        have u3 : (m : Int) - 1 = ((m - 1 : Nat) : Int) := by omega
        have k1 : (wr.alloc (.cells #[.int .i64 (X i), .int .i64 (Y i)] 66)).cell? ⟨gu, (m - 1) * 2 + 1, none⟩ = some (.int .i64 (f (m - 1) 1)) := hrow.cell (m - 1) (by omega) 1 (by omega)
        have f1 := hrow.free ((m - 1) * 2 + 1)
        have K1 := Lib.hid k1; have HM := Lib.hid hm; have HF := Lib.hid hf; have FR := Lib.hid f1
        clear hrow HO1 hm hf k1 f1
        by_cases hle : X i ≤ f (m - 1) 1
        · have q1 := decide_eq_true hle
          go_wp2_with fail
          refine d_region (by kernel_rfl) (by kernel_rfl) ?_
          repeat
            first
              | (refine d_plain (by with_reducible rfl) ?_; apply Exists.intro; refine ⟨fun wq hc hq => ?_, ?_⟩)
              | (refine d_on (by with_reducible rfl) (by rfl) (by with_reducible rfl) ?_; apply Exists.intro; refine ⟨fun wq hc hq => ?_, ?_⟩)
              | (refine d_off (by with_reducible rfl) (by rfl) (by rfl) ?_)
              | (refine d_void (by with_reducible rfl) (by rfl) ?_)
            try any_goals
              (obtain ⟨q0, q1'⟩ := p2_keep (cls hq) P1.out; have q2 := keep (cls hq) K1.out; clear hc
               go_simp
               first
                 | rfl)
            simp only [Act.put, List.setIfInBounds_toArray, List.set_cons_zero, List.set_cons_succ]
          refine d_nil ?_
          intro w2 hb2
          have O2 := Lib.hid (own_keep hb2 O1.out); have E2' : Hid (∀ k, k < n → E2 w2 g 0 k (X k) (Y k)) := Lib.hid fun k hk => e2_keep hb2 (E1.out k hk); have B2 := Lib.hid (b_next B1.out hb2); have P2' := Lib.hid (p2_keep hb2 P1.out); have K2 := Lib.hid (keep hb2 K1.out); have F2 := Lib.hid ((hb2.frozen (p := ⟨gu, (m - 1) * 2 + 1, none⟩) hu2).trans FR.out); clear hb2
          obtain ⟨p0, p1⟩ := P2'.out
          go_wp2_with fail
          refine Tail.tail_region (by kernel_rfl) (by kernel_rfl) ?_
          apply Tail.Gq.p
          · intro wq
            (go_simp; first | exact Tail.pv_value | exact Tail.pv_skip)
          simp only [Act.put, List.setIfInBounds_toArray, List.set_cons_zero, List.set_cons_succ]
          apply Tail.Gq.p
          · intro wq
            (go_simp; first | exact Tail.pv_value | exact Tail.pv_skip)
          simp only [Act.put, List.setIfInBounds_toArray, List.set_cons_zero, List.set_cons_succ]
          apply Tail.Gq.p
          · intro wq
            (go_simp; first | exact Tail.pv_value | exact Tail.pv_skip)
          simp only [Act.put, List.setIfInBounds_toArray, List.set_cons_zero, List.set_cons_succ]
          apply Tail.Gq.p
          · intro wq
            (go_simp; first | exact Tail.pv_value | exact Tail.pv_skip)
          simp only [Act.put, List.setIfInBounds_toArray, List.set_cons_zero, List.set_cons_succ]
          apply Tail.Gq.p
          · intro wq
            (go_simp; first | exact Tail.pv_value | exact Tail.pv_skip)
          simp only [Act.put, List.setIfInBounds_toArray, List.set_cons_zero, List.set_cons_succ]
          apply Tail.Gq.p
          · intro wq
            (go_simp; first | exact Tail.pv_value | exact Tail.pv_skip)
          simp only [Act.put, List.setIfInBounds_toArray, List.set_cons_zero, List.set_cons_succ]
          apply Tail.Gq.p
          · intro wq
            (go_simp; first | exact Tail.pv_value | exact Tail.pv_skip)
          simp only [Act.put, List.setIfInBounds_toArray, List.set_cons_zero, List.set_cons_succ]
          apply Tail.Gq.p
          · intro wq
            (go_simp; first | exact Tail.pv_value | exact Tail.pv_skip)
          simp only [Act.put, List.setIfInBounds_toArray, List.set_cons_zero, List.set_cons_succ]
          apply Tail.Gq.r
          · intro wq hc hq
            (have q0 := keep (cls hq) K2.out; obtain ⟨q2, q3⟩ := p2_keep (cls hq) P2'.out; clear hc; go_simp; first | exact q2_value | exact q2_skip)
          simp only [Act.put, List.setIfInBounds_toArray, List.set_cons_zero, List.set_cons_succ]
          apply Tail.Gq.p
          · intro wq
            (go_simp; first | exact Tail.pv_value | exact Tail.pv_skip)
          simp only [Act.put, List.setIfInBounds_toArray, List.set_cons_zero, List.set_cons_succ]
          apply Tail.Gq.r
          · intro wq hc hq
            (have q0 := keep (cls hq) K2.out; obtain ⟨q2, q3⟩ := p2_keep (cls hq) P2'.out; clear hc; go_simp; first | exact q2_value | exact q2_skip)
          simp only [Act.put, List.setIfInBounds_toArray, List.set_cons_zero, List.set_cons_succ]
          apply Tail.Gq.p
          · intro wq
            (go_simp; first | exact Tail.pv_value | exact Tail.pv_skip)
          simp only [Act.put, List.setIfInBounds_toArray, List.set_cons_zero, List.set_cons_succ]
          apply Tail.Gq.p
          · intro wq
            (go_simp; first | exact Tail.pv_value | exact Tail.pv_skip)
          simp only [Act.put, List.setIfInBounds_toArray, List.set_cons_zero, List.set_cons_succ]
          apply Tail.Gq.p
          · intro wq
            (go_simp; first | exact Tail.pv_value | exact Tail.pv_skip)
          simp only [Act.put, List.setIfInBounds_toArray, List.set_cons_zero, List.set_cons_succ]
          apply Tail.Gq.t
          refine Tail.Gq.nil ⟨by kernel_rfl, fun w4 hb1 => ?_⟩
          simp only [List.reverse_cons, List.reverse_nil, List.nil_append]
          have K3 := keep hb1 K2.out; have F3 := (hb1.frozen (p := ⟨gu, (m - 1) * 2 + 1, none⟩) (lt_of_cell K2.out)).trans F2.out
          have O3 := Lib.hid (own_keep hb1 O2.out); have E3' : Hid (∀ k, k < n → E2 w4 g 0 k (X k) (Y k)) := Lib.hid fun k hk => e2_keep hb1 (E2'.out k hk); have B3 := Lib.hid (b_next B2.out hb1); clear hb1
          go_wp2_with fail
          all_goals
            simp only [Kit.Ends]
            go_wp2_with fail
            refine ⟨⟨i + 1, by omega, by go_num, ?_, fun k hk => e2_set (E3'.out k hk) (by omega), b_set B3.out (Nat.le_trans G3.out.1 (Nat.le_trans (Nat.le_succ _) hu1)) _⟩, by simp [intOf]; omega⟩
            rw [HNX.out]
            have h1 := HM.out
            have h2 := HF.out
            subst h1 h2
            have h := (step_ext (s := (X i, Y i)) hm0 hle O3.out).2
            dsimp only at h
            first
              | exact h
              | (rw [show max (Vol.rowsL L (L.length - 1) 1) (Y i) = Y i from by omega] at h; exact h)
              | (rw [show max (Vol.rowsL L (L.length - 1) 1) (Y i) = Vol.rowsL L (L.length - 1) 1 from by omega] at h; exact h)
        · have q1 := decide_eq_false hle
          go_wp2_with fail
          refine d_region (by kernel_rfl) (by kernel_rfl) ?_
          repeat
            first
              | (refine d_plain (by with_reducible rfl) ?_; apply Exists.intro; refine ⟨fun wq hc hq => ?_, ?_⟩)
              | (refine d_on (by with_reducible rfl) (by rfl) (by with_reducible rfl) ?_; apply Exists.intro; refine ⟨fun wq hc hq => ?_, ?_⟩)
              | (refine d_off (by with_reducible rfl) (by rfl) (by rfl) ?_)
              | (refine d_void (by with_reducible rfl) (by rfl) ?_)
            try any_goals
              (obtain ⟨q0, q1'⟩ := p2_keep (cls hq) P1.out; have q2 := keep (cls hq) K1.out; clear hc
               go_simp
               first
                 | rfl)
            simp only [Act.put, List.setIfInBounds_toArray, List.set_cons_zero, List.set_cons_succ]
          refine d_nil ?_
          intro w2 hb2
          have O2 := Lib.hid (own_keep hb2 O1.out); have E2' : Hid (∀ k, k < n → E2 w2 g 0 k (X k) (Y k)) := Lib.hid fun k hk => e2_keep hb2 (E1.out k hk); have B2 := Lib.hid (b_next B1.out hb2); have P2' := Lib.hid (p2_keep hb2 P1.out); clear hb2
          obtain ⟨p0, p1⟩ := P2'.out
          have O6 := Lib.hid (own_keep (b_alloc (Below.refl w2.heap.size w2) (.cells #[.int .i64 (X i), .int .i64 (Y i)] 66)) O2.out); have W6 := Lib.hid (b_alloc B2.out (.cells #[.int .i64 (X i), .int .i64 (Y i)] 66)); have E6 : Hid (∀ k, k < n → E2 (w2.alloc (.cells #[.int .i64 (X i), .int .i64 (Y i)] 66)) g 0 k (X k) (Y k)) := Lib.hid fun k hk => e2_keep (b_alloc (Below.refl w2.heap.size w2) _) (E2'.out k hk)
          have HN2 := Lib.hid (new2 w2 66 (X i) (Y i))
          have hgs : g + 1 ≤ (w2.alloc (.cells #[.int .i64 (X i), .int .i64 (Y i)] 66)).heap.size := lt_of_cell (E6.out i hlt).1
          have O7 := O6.out
          rw [← HM.out, ← HF.out] at O7
          have O8 := Lib.hid O7; clear O7
          go_wp2_with (at_builtin; refine wpList_append_own_at _ rfl (.tmp 54) (.tmp 56) 49 rfl (g + 1) 66 i0 _ 2 16 Try.underlying49 I.out.1 I.out.2.1 I.out.2.2.1 I.out.2.2.2 rfl (by decide) _ m _ rfl O8.out ⟨w2.heap.size, 0, none⟩ 1 1 [.int .i64 (X i), .int .i64 (Y i)] rfl rfl HN2.out new2_one (by unfold maxLen; omega) (by omega) hgs ?_; intro v1 w7 hown1 hg1 hnil1 hat1)
          refine ⟨⟨i + 1, by omega, by go_num, ?_, fun k hk => e2_grown hg1 (E6.out k hk) (own_ge O8.out), grow_below W6.out O8.out hg1 (Nat.le_trans G3.out.1 (Nat.le_succ _)) W6.out.size⟩, by simp [intOf]; omega⟩
          rw [HNX.out, step_new (Or.inr (by rw [← HM.out, ← HF.out]; show ¬ X i ≤ f (m - 1) 1; omega))]
          have h1 := HM.out
          have h2 := HF.out
          subst h1 h2
          exact own_more hown1
      · have i1 : ¬ (0 : Int) < (m : Int) := by omega
        have i2 := decide_eq_false i1
        have i3 := decide_eq_false hm0
        have HM := Lib.hid hm; have HF := Lib.hid hf; clear hm hf
        go_wp2_with fail
        refine d_region (by kernel_rfl) (by kernel_rfl) ?_
        repeat
          first
            | (refine d_plain (by with_reducible rfl) ?_; apply Exists.intro; refine ⟨fun wq hc hq => ?_, ?_⟩)
            | (refine d_on (by with_reducible rfl) (by rfl) (by with_reducible rfl) ?_; apply Exists.intro; refine ⟨fun wq hc hq => ?_, ?_⟩)
            | (refine d_off (by with_reducible rfl) (by rfl) (by rfl) ?_)
            | (refine d_void (by with_reducible rfl) (by rfl) ?_)
          try any_goals
            (obtain ⟨q0, q1'⟩ := p2_keep (cls hq) P1.out; clear hc
             go_simp
             first
               | rfl)
          simp only [Act.put, List.setIfInBounds_toArray, List.set_cons_zero, List.set_cons_succ]
        refine d_nil ?_
        intro w2 hb2
        have O2 := Lib.hid (own_keep hb2 O1.out); have E2' : Hid (∀ k, k < n → E2 w2 g 0 k (X k) (Y k)) := Lib.hid fun k hk => e2_keep hb2 (E1.out k hk); have B2 := Lib.hid (b_next B1.out hb2); have P2' := Lib.hid (p2_keep hb2 P1.out); clear hb2
        obtain ⟨p0, p1⟩ := P2'.out
        have O6 := Lib.hid (own_keep (b_alloc (Below.refl w2.heap.size w2) (.cells #[.int .i64 (X i), .int .i64 (Y i)] 66)) O2.out); have W6 := Lib.hid (b_alloc B2.out (.cells #[.int .i64 (X i), .int .i64 (Y i)] 66)); have E6 : Hid (∀ k, k < n → E2 (w2.alloc (.cells #[.int .i64 (X i), .int .i64 (Y i)] 66)) g 0 k (X k) (Y k)) := Lib.hid fun k hk => e2_keep (b_alloc (Below.refl w2.heap.size w2) _) (E2'.out k hk)
        have HN2 := Lib.hid (new2 w2 66 (X i) (Y i))
        have hgs : g + 1 ≤ (w2.alloc (.cells #[.int .i64 (X i), .int .i64 (Y i)] 66)).heap.size := lt_of_cell (E6.out i hlt).1
        have O7 := O6.out
        rw [← HM.out, ← HF.out] at O7
        have O8 := Lib.hid O7; clear O7
        go_wp2_with (at_builtin; refine wpList_append_own_at _ rfl (.tmp 54) (.tmp 56) 49 rfl (g + 1) 66 i0 _ 2 16 Try.underlying49 I.out.1 I.out.2.1 I.out.2.2.1 I.out.2.2.2 rfl (by decide) _ m _ rfl O8.out ⟨w2.heap.size, 0, none⟩ 1 1 [.int .i64 (X i), .int .i64 (Y i)] rfl rfl HN2.out new2_one (by unfold maxLen; omega) (by omega) hgs ?_; intro v1 w7 hown1 hg1 hnil1 hat1)
        refine ⟨⟨i + 1, by omega, by go_num, ?_, fun k hk => e2_grown hg1 (E6.out k hk) (own_ge O8.out), grow_below W6.out O8.out hg1 (Nat.le_trans G3.out.1 (Nat.le_succ _)) W6.out.size⟩, by simp [intOf]; omega⟩
        rw [HNX.out, step_new (Or.inl (by rw [← HM.out]; omega))]
        have h1 := HM.out
        have h2 := HF.out
        subst h1 h2
        exact own_more hown1
    · have hin : i = n := by omega
      have hl : ¬ (i : Int) < (n : Int) := by omega
      clear e0
      go_wp2_with fail
      go_ret2
      refine ⟨⟨_, rfl, d, SD.out, ?_⟩, HB.out⟩
      rw [HJ.out, ← hin, ← HLL.out]
      exact own_weaken (Nat.le_trans G3.out.1 (Nat.le_succ _)) HO.out
end Vol
end Go.Proofs.Ytlokkffpmjlihaa
