/- PolygonTurned: beginning with another vertex changes neither the area nor the position of a point. For every input. -/
import Derived.Test.YtlgdcpkjobbnnaaPolyWorks
import Derived.Test.YtlgdcpkjobbnnaaPolyR
import Derived.Test.YtlgdcpkjobbnnaaRowS
import Derived.Test.YtlgdcpkjobbnnaaTail
import Derived.Test.YtlgdcpkjobbnnaaFrameS
namespace Go.Proofs.Ytlgdcpkjobbnnaa
open Go.RowKit Go.ChangeShapes Go.WideShapes
namespace PolygonTurned
open Kit Plane Poly
theorem info_p : (Try.prog.info? 23).map (fun i => (i.zero, i.size, i.bytes)) = some (some (.agg #[.int .i64 0, .int .i64 0]), 2, 16) := by kernel_rfl
/-- Points as rows. -/
def pf (X Y : Nat → Int) : Nat → Nat → Int := fun i j => if j = 0 then X i else Y i
theorem pf_src {w : World} {n b off : Nat} {X Y : Nat → Int} (h : ∀ k, k < n → E2 w b off k (X k) (Y k)) : ∀ i, i < n → ∀ j, j < 2 → w.cell? ⟨b, off + i * 2 + j, none⟩ = some (.int .i64 (pf X Y i j)) := by
  intro i hi j hj
  rcases (show j = 0 ∨ j = 1 from by omega) with rfl | rfl
  · exact (h i hi).1
  · exact (h i hi).2
theorem pf_qv {w : World} {g n cap : Nat} {X Y : Nat → Int} (h0 : 0 < n) (hc : n ≤ cap) (hm : cap ≤ maxLen) (h : RowAt w g n 2 (pf X Y)) : QV w (.slice (some ⟨g, 0, none⟩) n cap) n X Y := by
  refine Or.inr ⟨h0, g, 0, cap, rfl, hc, hm, fun k hk => ?_⟩
  have c0 := h.cell k hk 0 (by omega); have c1 := h.cell k hk 1 (by omega)
  rw [Nat.add_zero] at c0
  unfold E2
  simp only [Nat.zero_add]
  exact ⟨c0, c1⟩
theorem rowL_two (C : Nat) (f : Nat → Nat → Int) (a : Nat) : ∀ c, rowL C f (a + c) = rowL C f a ++ rowL C (fun i j => f (a + i) j) c
  | 0 => by simp [rowL]
  | c + 1 => by
    show rowL C f (a + c) ++ _ = rowL C f a ++ (rowL C (fun i j => f (a + i) j) c ++ _)
    rw [rowL_two C f a c, List.append_assoc]
    rfl
/-- The two parts, one after the other. -/
theorem rot_rows {n k : Nat} (hk : k < n) (X Y : Nat → Int) : rowL 2 (pf (fun i => X (k + i)) (fun i => Y (k + i))) (n - k) ++ rowL 2 (pf X Y) k = rowL 2 (pf (rotN n X k) (rotN n Y k)) (n - k + k) := by
  rw [rowL_two]
  congr 1
  · refine rowL_congr fun i hi j hj => ?_
    unfold pf
    rw [rotN_at (by omega), rotN_at (by omega), Nat.mod_eq_of_lt (show k + i < n by omega)]
  · refine rowL_congr fun i hi j hj => ?_
    unfold pf
    rw [rotN_at (by omega), rotN_at (by omega), show k + (n - k + i) = i + n from by omega, Nat.add_mod_right, Nat.mod_eq_of_lt (by omega)]
theorem p2_grown {w w1 : World} {v : Value} {b : Nat} {x y : Int} (hg : w.grownBy w1 v.ownBlock) (h : P2 w b x y) (hne : ∀ k, v.ownBlock = some k → b < k) : P2 w1 b x y := by
  have hb : w1.heap[b]? = w.heap[b]? := hg.block b (lt_of_cell h.1) (fun e => absurd (hne b e.symm) (by omega))
  exact ⟨(World.cell?_of_block (a := ⟨b, 0, none⟩) hb).trans h.1, (World.cell?_of_block (a := ⟨b, 1, none⟩) hb).trans h.2⟩
set_option maxRecDepth 100000 in
set_option maxHeartbeats 4000000 in
theorem turned (n cap b off k : Nat) (X Y : Nat → Int) (qx qy K D a e a2 f m g m2 h : Int) (w : World) (h0 : 0 < n) (hn : n ≤ 8796093022208) (hc : n ≤ cap) (hm : cap ≤ 9223372036854775807) (hk : k < n) (HD : Hid (K.tmod (n : Int) = D ∧ (D + (n : Int)).tmod (n : Int) = (k : Int) ∧ -(n : Int) < D ∧ D < (n : Int))) (HV : Hid (∀ i, i < n → E2 w b off i (X i) (Y i)))
    (AR : Hid (∀ w1 v R S, QV w1 v n R S → (R = X ∧ S = Y) → Calls Try.prog 21 #[v] w1 fun e1 w' => e1 = .returned (.tuple #[.int .i64 a, .int .i64 e]) ∧ Below w1.heap.size w1 w')) 
    (AR2 : Hid (∀ w1 v, QV w1 v n (rotN n X k) (rotN n Y k) → Calls Try.prog 21 #[v] w1 fun e1 w' => e1 = .returned (.tuple #[.int .i64 a2, .int .i64 f]) ∧ Below w1.heap.size w1 w'))
    (LO : Hid (∀ w1 v R S, QV w1 v n R S → (R = X ∧ S = Y) → Calls Try.prog 19 #[v, .agg #[.int .i64 qx, .int .i64 qy]] w1 fun e1 w' => e1 = .returned (.tuple #[.int .i64 m, .int .i64 g]) ∧ Below w1.heap.size w1 w'))
    (LO2 : Hid (∀ w1 v, QV w1 v n (rotN n X k) (rotN n Y k) → Calls Try.prog 19 #[v, .agg #[.int .i64 qx, .int .i64 qy]] w1 fun e1 w' => e1 = .returned (.tuple #[.int .i64 m2, .int .i64 h]) ∧ Below w1.heap.size w1 w'))
    (FIN : Hid ((e ≠ 0 ∧ f ≠ 0 ∧ a = 0 ∧ a2 = 0) ∨ (e = 0 ∧ f = 0 ∧ a = a2 ∧ 0 < a ∧ g = h ∧ m = m2))) :
    Calls Try.prog 5 #[.slice (some ⟨b, off, none⟩) n cap, .agg #[.int .i64 qx, .int .i64 qy], .int .i64 K] w fun e w' => e = .returned (.bool true) ∧ Below w.heap.size w w' := by
  obtain ⟨i0, hi, hz0, hz1, hz2⟩ := info_parts info_p
  have I := Lib.hid (And.intro hi (And.intro hz0 (And.intro hz1 hz2))); clear hi hz0 hz1 hz2
  have HP := Lib.hid (p2_new w 23 qx qy)
  have HW := Lib.hid (b_alloc (Below.refl w.heap.size w) (.cells #[.int .i64 qx, .int .i64 qy] 23))
  go_enter Try.func5, Try.ntmps5
  go_wp2_with fail
  refine (polygonWorks _).mono ?_; rintro e1 w1 ⟨rfl, hb⟩
  have P1 := Lib.hid (p2_keep hb HP.out); have W1 := Lib.hid (b_next HW.out hb); clear hb
  have n1 : ((n : Int) == 0) = false := by simp; omega
  have n2 : ¬ (n : Int) = 0 := by omega
  obtain ⟨d1, d2, d3, d4⟩ := HD.out
  have hk1 : k ≤ n := by omega
  have hk2 : k ≤ cap := by omega
  have hk3 : ¬ cap = k := by omega
  go_wp2_with fail
  refine Tail.tail_region (by kernel_rfl) (by kernel_rfl) ?_
  apply Tail.Gq.t
  apply Tail.Gq.p
  · intro wq
    (go_simp; first | exact Tail.pv_value | exact Tail.pv_skip)
  simp only [Act.put, List.setIfInBounds_toArray, List.set_cons_zero, List.set_cons_succ]
  apply Tail.Gq.p
  · intro wq
    (go_simp; first | exact Tail.pv_value | exact Tail.pv_skip)
  simp only [Act.put, List.setIfInBounds_toArray, List.set_cons_zero, List.set_cons_succ]
  apply Tail.Gq.p
  · intro wq
    (go_simp; first | exact Tail.pv_value | exact Tail.pv_skip)
  simp only [Act.put, List.setIfInBounds_toArray, List.set_cons_zero, List.set_cons_succ]
  apply Tail.Gq.t
  apply Tail.Gq.p
  · intro wq
    (go_simp; first | exact Tail.pv_value | exact Tail.pv_skip)
  simp only [Act.put, List.setIfInBounds_toArray, List.set_cons_zero, List.set_cons_succ]
  apply Tail.Gq.p
  · intro wq
    (go_simp; first | exact Tail.pv_value | exact Tail.pv_skip)
  simp only [Act.put, List.setIfInBounds_toArray, List.set_cons_zero, List.set_cons_succ]
  apply Tail.Gq.p
  · intro wq
    (go_simp; first | exact Tail.pv_value | exact Tail.pv_skip)
  simp only [Act.put, List.setIfInBounds_toArray, List.set_cons_zero, List.set_cons_succ]
  apply Tail.Gq.t
  apply Tail.Gq.t
  refine Tail.Gq.nil ⟨by kernel_rfl, fun w2 hb1 => ?_⟩
  simp only [List.reverse_cons, List.reverse_nil, List.nil_append, List.cons_append]
  have W2 := Lib.hid (b_next W1.out hb1); have P3 := Lib.hid (p2_keep hb1 P1.out); clear hb1
  have B3 := Lib.hid (b_alloc W2.out (.cells #[] 23))
  have P4 := Lib.hid (p2_keep (b_alloc (Below.refl w2.heap.size w2) (.cells #[] 23)) P3.out)
  have hlt := lt_of_cell P3.out.1
  have O0 : Hid (Own (w2.alloc (.cells #[] 23)) (w.heap.size + 1) 23 2 (.slice (some ⟨w2.heap.size, 0, none⟩) 0 0) 0 (pf X Y)) := Lib.hid (World.ownsRow_made (e := 23) (size := 2) (base := w.heap.size + 1) w2 #[] 0 hlt (by decide) rfl)
  clear hlt
  have S1 : Hid (∀ j u, (rowL 2 (pf (fun i => X (k + i)) (fun i => Y (k + i))) (n - k))[j]? = some u → (w2.alloc (.cells #[] 23)).cell? ((⟨b, off + k * 2, none⟩ : Addr).add j) = some u) := Lib.hid (src_rows (pf_src fun i hi => by
    have := e2_keep B3.out (HV.out (k + i) (by omega))
    unfold E2 at this ⊢
    rw [show off + k * 2 + i * 2 = off + (k + i) * 2 from by omega]
    exact this))
  have L1 := Lib.hid (rowL_len 2 (pf (fun i => X (k + i)) (fun i => Y (k + i))) (n - k))
  have L2 := Lib.hid (rowL_len 2 (pf X Y) k)
  have hsz3 : w.heap.size + 1 ≤ (w2.alloc (.cells #[] 23)).heap.size := lt_of_cell P4.out.1
  go_wp2_with (at_builtin; refine wpList_append_own_at _ rfl (.tmp 31) (.tmp 34) 28 rfl (w.heap.size + 1) 23 i0 _ 2 16 Try.underlying28 I.out.1 I.out.2.1 I.out.2.2.1 I.out.2.2.2 rfl (by decide) (.slice (some ⟨w2.heap.size, 0, none⟩) 0 0) 0 [] rfl O0.out ⟨b, off + k * 2, none⟩ (n - k) (cap - k) (rowL 2 (pf (fun i => X (k + i)) (fun i => Y (k + i))) (n - k)) rfl L1.out S1.out rowL_one (by unfold maxLen; omega) (by omega) hsz3 ?_; intro v1 w3 hown1 hg1 hnil1 hat1; have B4 := Lib.hid (grow_below B3.out O0.out hg1 (Nat.le_succ _) B3.out.size); have P5 := Lib.hid (p2_grown hg1 P4.out (own_ge O0.out)); rw [Nat.zero_add, List.nil_append] at hown1; have hown1' : Own w3 (w.heap.size + 1) 23 2 v1 (n - k) (pf (fun i => X (k + i)) (fun i => Y (k + i))) := hown1; have O1 := Lib.hid hown1'; clear hown1 hown1'; refine wpList_append_own_at _ rfl (.tmp 35) (.tmp 38) 28 rfl (w.heap.size + 1) 23 i0 _ 2 16 Try.underlying28 I.out.1 I.out.2.1 I.out.2.2.1 I.out.2.2.2 rfl (by decide) v1 (n - k) _ rfl O1.out ⟨b, off, none⟩ k cap (rowL 2 (pf X Y) k) rfl L2.out (src_rows (pf_src fun i hi => e2_keep B4.out (HV.out i (by omega)))) rowL_one (by unfold maxLen; omega) (by omega) (lt_of_cell P5.out.1) ?_; intro v2 w4 hown2 hg2 hnil2 hat2; rw [rot_rows hk] at hown2; rw [Nat.sub_add_cancel (Nat.le_of_lt hk)] at hown2; have hown2' : Own w4 (w.heap.size + 1) 23 2 v2 n (pf (rotN n X k) (rotN n Y k)) := hown2; have O2 := Lib.hid hown2'; have B5 := Lib.hid (grow_below B4.out O1.out hg2 (Nat.le_succ _) B4.out.size); have P6 := Lib.hid (p2_grown hg2 P5.out (own_ge O1.out)); clear hown2 hown2' hg1 hg2 hnil1 hnil2 hat1 hat2; clear O1 O0 B3 B4 P3 P4 P5 S1 L1 L2)
  obtain ⟨g2, c2, rfl, hq1, -, hq3, hq4, hq5⟩ := own_row O2.out h0
  have Q2 := Lib.hid (pf_qv h0 hq3 hq4 hq5)
  have hQ1 : QV w4 (.slice (some ⟨b, off, none⟩) n cap) n X Y := Or.inr ⟨h0, b, off, cap, rfl, hc, hm, fun i hi => e2_keep B5.out (HV.out i hi)⟩
  have Q1 := Lib.hid hQ1; clear hQ1 hq5
  simp only [Kit.Ends]
  go_wp2_with fail
  (with_reducible refine (AR.out w4 _ X Y Q1.out ⟨rfl, rfl⟩).mono ?_); rintro e1 w5 ⟨rfl, hb⟩
  have P7 := Lib.hid (p2_keep hb P6.out); have B6 := Lib.hid (b_next B5.out hb); have Q3 := Lib.hid (qv_keep hb Q1.out); have Q4 := Lib.hid (qv_keep hb Q2.out); clear hb
  go_wp2_with fail
  (with_reducible refine (AR2.out w5 _ Q4.out).mono ?_); rintro e1 w6 ⟨rfl, hb⟩
  have P8 := Lib.hid (p2_keep hb P7.out); have B7 := Lib.hid (b_next B6.out hb); have Q5 := Lib.hid (qv_keep hb Q3.out); have Q6 := Lib.hid (qv_keep hb Q4.out); clear hb
  obtain ⟨p0, p1⟩ := P8.out
  go_wp2_with fail
  (with_reducible refine (LO.out w6 _ X Y Q5.out ⟨rfl, rfl⟩).mono ?_); rintro e1 w7 ⟨rfl, hb⟩
  have B8 := Lib.hid (b_next B7.out hb); have Q7 := Lib.hid (qv_keep hb Q6.out); obtain ⟨p2, p3⟩ := p2_keep hb P8.out; clear hb p0 p1
  go_wp2_with fail
  (with_reducible refine (LO2.out w7 _ Q7.out).mono ?_); rintro e1 w8 ⟨rfl, hb⟩
  have B9 := Lib.hid (b_next B8.out hb); clear hb p2 p3
  rcases FIN.out with ⟨f1, f2, f3, f4⟩ | ⟨f1, f2, f3, f4, f5, f6⟩
  · subst f3 f4
    have e1 : (e == 0) = false := by simp [f1]
    have e2 : (e != 0) = true := by simp [f1]
    have e3 : (f == 0) = false := by simp [f2]
    have e4 : (f != 0) = true := by simp [f2]
    clear FIN
    go_wp2_with fail
    all_goals (go_ret; exact ⟨by first | rfl | exact retb rfl, B9.out⟩)
  · subst f1 f2 f3 f5 f6
    clear FIN
    go_wp2_with fail
    all_goals (go_ret; exact ⟨by first | rfl | exact retb rfl, B9.out⟩)
theorem empty (A : Option Addr) (cap : Nat) (qx qy K : Int) (w : World) : Calls Try.prog 5 #[.slice A 0 cap, .agg #[.int .i64 qx, .int .i64 qy], .int .i64 K] w fun e w' => e = .returned (.bool true) ∧ Below w.heap.size w w' := by
  have HW := Lib.hid (b_alloc (Below.refl w.heap.size w) (.cells #[.int .i64 qx, .int .i64 qy] 23))
  go_enter Try.func5, Try.ntmps5
  go_wp2_with fail
  refine (polygonWorks _).mono ?_; rintro e1 w1 ⟨rfl, hb⟩
  have W1 := Lib.hid (b_next HW.out hb); clear hb
  go_wp2_with fail
  all_goals (go_ret; exact ⟨by first | rfl | exact retb rfl, W1.out⟩)
theorem walk (p : Value) (q_x : Int) (q_y : Int) (k : Int) (W : World) (h_p : Frame.Okc W (.sl [.int, .int]) p) (_h_q_x : -9223372036854775808 ≤ q_x ∧ q_x ≤ 9223372036854775807) (_h_q_y : -9223372036854775808 ≤ q_y ∧ q_y ≤ 9223372036854775807) (_h_k : -9223372036854775808 ≤ k ∧ k ≤ 9223372036854775807) (h_cap : ∀ a l c, p = .slice (some a) l c → c * 16 ≤ reachBytes) :
    Calls Try.prog 5 #[p, .agg #[.int .i64 q_x, .int .i64 q_y], .int .i64 k] W fun e w' => e = .returned (.bool true) ∧ Below W.heap.size W w' := by
  obtain ⟨n, X, Y, hv, -⟩ := qv_of h_p
  have hv' := hv
  rcases hv' with ⟨rfl, h⟩ | ⟨h0, b, off, cap, rfl, hc, hm, HV⟩
  · rcases h with rfl | ⟨a, cap, rfl, -⟩
    · exact empty none 0 q_x q_y k W
    · exact empty (some a) cap q_x q_y k W
  · have hn : n ≤ 8796093022208 := by
      have h1 := h_cap _ _ _ rfl
      have h2 := reachBytes_lt
      have h3 : (2 : Nat) ^ 47 = 140737488355328 := by decide
      omega
    have hn0 : (n : Int) ≠ 0 := by omega
    have t1 : -(n : Int) < k.tmod n ∧ k.tmod n < n := by
      have := Int.tmod_lt_of_pos k (show (0 : Int) < n by omega)
      have := Int.lt_tmod_of_pos k (show (0 : Int) < n by omega)
      omega
    have t2 : ∃ kk : Nat, (k.tmod n + (n : Int)).tmod n = (kk : Int) ∧ kk < n := by
      refine ⟨((k.tmod n + (n : Int)).toNat % n), ?_, Nat.mod_lt _ h0⟩
      rw [← tmod_nat, Int.toNat_of_nonneg (by omega)]
    obtain ⟨kk, t3, t4⟩ := t2
    have hrot := pck_rot (n := n) (X := X) (Y := Y) kk
    refine turned n cap b off kk X Y q_x q_y k _ (area n X Y).1 (area n X Y).2 (area n (rotN n X kk) (rotN n Y kk)).1 (area n (rotN n X kk) (rotN n Y kk)).2 (loc n X Y q_x q_y).1 (loc n X Y q_x q_y).2 (loc n (rotN n X kk) (rotN n Y kk) q_x q_y).1 (loc n (rotN n X kk) (rotN n Y kk) q_x q_y).2 W h0 hn hc hm t4 (Lib.hid ⟨rfl, t3, t1.1, t1.2⟩) (Lib.hid HV) (Lib.hid fun w1 v R S hq ⟨e1, e2⟩ => by subst e1 e2; exact areaC hq) (Lib.hid fun w1 v hq => areaC hq) (Lib.hid fun w1 v R S hq ⟨e1, e2⟩ => by subst e1 e2; exact locC hq q_x q_y) (Lib.hid fun w1 v hq => locC hq q_x q_y) (Lib.hid ?_)
    by_cases hp : pck n X Y = 0
    · have hp2 := hrot.2 hp
      have hok := pck_ok hp
      right
      have hl : loc n (rotN n X kk) (rotN n Y kk) q_x q_y = loc n X Y q_x q_y := by
        unfold loc
        rw [if_neg (fun h => h hp2), place_rot h0 kk, if_neg (fun h : pck n X Y ≠ 0 => h hp)]
      rw [hl]
      unfold area
      rw [if_neg (fun h : pck n X Y ≠ 0 => h hp), if_neg (fun h => h hp2), asum_rot h0 kk]
      exact ⟨rfl, rfl, rfl, hok.2.2.2.2, rfl, rfl⟩
    · have hp2 : ¬ pck n (rotN n X kk) (rotN n Y kk) = 0 := fun h => hp (hrot.1 h)
      left
      unfold area
      rw [if_pos hp, if_pos hp2]
      exact ⟨hp, hp2, rfl, rfl⟩

set_option maxRecDepth 100000 in
theorem lifted (os : Os) (started : os.Started) (H : Type) (enc : TypeId × Value → H) :
    ReturnsInHanded {} Try.checked os 5 .any (Rows.polygonTurnedSpec.pre6 enc Try.prog Try.f5 Rows.polygonTurnedRow.domain false) (Rows.polygonTurnedSpec.post enc Try.prog Try.f5 false true false false) :=
  Frame.lifted_sized (C := Try.checked) 5 Try.f5 Try.own started (by kernel_rfl) Try.func5 Try.laidOut rfl (by kernel_rfl) 4 rfl Try.underlying4
      (fun ds h => by match ds, h with | [_, _, _], _ => rfl)
      (ChangeSpec.witness6 (enc := enc) (C := Try.checked) false ⟨#[], #[.slice none 0 0, .agg #[.int .i64 0, .int .i64 0], .int .i64 0], []⟩ 8 (by kernel_rfl) (by kernel_rfl) (by kernel_rfl) (by kernel_rfl))
      (fun W base args ds ps hval0 hA _ hsz0 => by
        have hval : ∀ (j : Nat) t v, Try.f5.params[j]? = some t → args[j]? = some v → Value.okWide Try.prog W .any base t v := hval0
        have hA' : DataW.TrodAll enc Try.prog W 0 (fun _ => true) true Try.f5.params.toList args.toList ds ps := hA
        clear hval0 hA
        have hA := hA'
        clear hA'
        rw [Try.params5] at hA hval
        obtain ⟨v0, vs0, d0, ds0, p0, q0, ea, rfl, rfl, tr0, rest0⟩ := trodAll_cons hA
        obtain ⟨v1, vs1, d1, ds1, p1, q1, rfl, rfl, rfl, tr1, rest1⟩ := trodAll_cons rest0
        obtain ⟨v2, vs2, d2, ds2, p2, q2, rfl, rfl, rfl, tr2, rest2⟩ := trodAll_cons rest1
        obtain ⟨rfl, rfl, rfl⟩ := trodAll_nil rest2
        obtain rfl : args = #[v0, v1, v2] := by cases args; simp_all
        clear ea
        have sl_p : Frame.Okc W (.sl [.int, .int]) v0 := by obtain ⟨a, l, c, e⟩ := okWide_slice Try.underlying28 (hval 0 _ v0 rfl rfl); exact Frame.arg_cell (k := 8) (by kernel_rfl) (by have e2 : v0 = .slice a l c := e; rw [e2]; rfl) tr0
        obtain ⟨cs_q, e_q, hl_q, hc_q⟩ := Frame.arg_agg Try.underlying23 (k := 8) (ks := [.int, .int]) (by kernel_rfl) (hval 1 _ v1 rfl rfl) tr1
        subst e_q
        obtain ⟨c_q_x, c_q_y, rfl⟩ : ∃ c_q_x c_q_y, cs_q = [c_q_x, c_q_y] := by match cs_q, hl_q with | [x0, x1], _ => exact ⟨x0, x1, rfl⟩
        have o_q_x : Frame.Okc W (.int) c_q_x := hc_q 0 (by decide) (by simp)
        obtain ⟨q_x, e_q_x, w_q_x⟩ := o_q_x.int_inv; subst e_q_x
        have o_q_y : Frame.Okc W (.int) c_q_y := hc_q 1 (by decide) (by simp)
        obtain ⟨q_y, e_q_y, w_q_y⟩ := o_q_y.int_inv; subst e_q_y
        obtain ⟨k, rfl, w_k⟩ := Frame.arg_int Try.underlying3 (hval 2 _ v2 rfl rfl)
        have hcap : ∀ a l c, v0 = .slice (some a) l c → c * 16 ≤ reachBytes := by
          rintro a l c rfl
          obtain ⟨elems, spare, hd, hl⟩ := Frame.slice_cap Try.underlying28 tr0
          obtain ⟨vt, gs, hs⟩ := hsz0
          have h := sized_slice hs (j := 0) (t := 28) (e := 23) (elems := elems) (spare := spare) (by rw [Try.params5]; rfl) (by rw [hd]; rfl) Try.underlying28
          rw [hl, show Try.checked.prog.bytesOf 23 = 16 from by kernel_rfl] at h
          exact h
        exact walk v0 q_x q_y k W sl_p w_q_x w_q_y (Frame.bd w_k) hcap)

/-- The statement. -/
theorem proved : Rows.PolygonTurnedSaid :=
  OpenClaim.holds_of_wide 5 Try.f5 rfl rfl rfl rfl rfl rfl rfl ⟨rfl, rfl, rfl, rfl, rfl⟩ rfl rfl rfl rfl rfl (by kernel_rfl) Try.func5 (by kernel_rfl)
    (of_decide_eq_true (by kernel_rfl)) (by unfold Func.isWrapper; first | (rw [if_pos (by decide +kernel)]; kernel_rfl) | (rw [if_neg (by decide +kernel)]; exact ⟨rfl, rfl⟩))
    (fun os started H enc _ => lifted os started H enc)
#print axioms proved
end PolygonTurned
end Go.Proofs.Ytlgdcpkjobbnnaa
