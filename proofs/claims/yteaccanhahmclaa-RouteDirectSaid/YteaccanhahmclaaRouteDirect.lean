/- RouteDirect: the expanded fixes, as a route of fixes alone, are the same route. For every input. -/
import Derived.Test.YteaccanhahmclaaRtW
import Derived.Test.YteaccanhahmclaaExpD
import Derived.Test.YteaccanhahmclaaRowM
namespace Go.Proofs.Yteaccanhahmclaa
open Go.RowKit Go.ChangeShapes Go.WideShapes
namespace RouteDirect
open Kit Chart Route
theorem slice_lits {w : World} {r fx a : Value} {n m nr : Nat} {N : Nat → ByteArray} {X Y : Nat → Int} {M : Nat → ByteArray} {l : Nat → Nat} {S : Nat → Nat → ByteArray} {RT : Nat → ByteArray} (h1 : SV w r nr RT) (h2 : FV w fx n N X Y) (h3 : AV w a m M l S) :
    (∃ A c, r = .slice A nr c) ∧ (∃ A c, fx = .slice A n c) ∧ ∃ A c, a = .slice A m c := ⟨sv_slice h1, fv_slice h2, av_slice h3⟩
theorem own_far {w : World} {base Bq : Nat} {E : TypeId} {v : Value} {n : Nat} {xs : List Value} (h : w.ownsRow base E 1 v n xs) (hB : Bq < base) (i : Nat) (x : Value) : (w.setCell ⟨Bq, i, none⟩ x).ownsRow base E 1 v n xs := by
  refine ⟨h.1, ?_⟩
  rcases h.2 with hh | ⟨g, cap, cur, hv, h1, hg, h2⟩
  · exact Or.inl hh
  · exact Or.inr ⟨g, cap, cur, hv, h1, (Below.heap_setCell w ⟨Bq, i, none⟩ x g (by show g ≠ Bq; omega)).trans hg, h2⟩
/-- The plan's copy, its route written anew. -/
structure Q8 (w : World) (b : Nat) (c k f t : ByteArray) (off sp h : Int) (r : Value) : Prop where
  n8 : Plan.N8 w b c k f t off sp h r
  fr : ∀ i, w.frozen? ⟨b, i, none⟩ = false
theorem q8_keep {W w1 : World} (hb : Below W.heap.size W w1) {b : Nat} {c k f t : ByteArray} {off sp h : Int} {r : Value} (q : Q8 W b c k f t off sp h r) : Q8 w1 b c k f t off sp h r := ⟨Plan.n8_keep hb q.n8, fun i => (hb.frozen (p := ⟨b, i, none⟩) (lt_of_cell (a := ⟨b, 0, none⟩) q.n8.c0)).trans (q.fr i)⟩
theorem q8_grown {W w1 : World} {row : Option Nat} (hg : W.grownBy w1 row) {b : Nat} (hne : some b ≠ row) {c k f t : ByteArray} {off sp h : Int} {r : Value} (q : Q8 W b c k f t off sp h r) : Q8 w1 b c k f t off sp h r := by
  have hlt := lt_of_cell q.n8.c0
  have hb : w1.heap[b]? = W.heap[b]? := hg.block b hlt hne
  have hc : ∀ i, w1.cell? ⟨b, i, none⟩ = W.cell? ⟨b, i, none⟩ := fun i => World.cell?_of_block (a := ⟨b, i, none⟩) hb
  have hf : ∀ i, w1.frozen? ⟨b, i, none⟩ = W.frozen? ⟨b, i, none⟩ := fun i => World.frozen?_of_block (a := ⟨b, i, none⟩) hb
  exact ⟨⟨(hc 0).trans q.n8.c0, (hc 1).trans q.n8.c1, (hc 2).trans q.n8.c2, (hc 3).trans q.n8.c3, (hc 4).trans q.n8.c4, (hc 5).trans q.n8.c5, (hc 6).trans q.n8.c6, (hc 7).trans q.n8.c7⟩, fun i => (hf i).trans (q.fr i)⟩
theorem q8_set {w : World} {b : Nat} {c k f t : ByteArray} {off sp h : Int} {r : Value} (q : Q8 w b c k f t off sp h r) (r' : Value) : Q8 (w.setCell ⟨b, 7, none⟩ r') b c k f t off sp h r' :=
  ⟨⟨cfar _ (by simp) q.n8.c0, cfar _ (by simp) q.n8.c1, cfar _ (by simp) q.n8.c2, cfar _ (by simp) q.n8.c3, cfar _ (by simp) q.n8.c4, cfar _ (by simp) q.n8.c5, cfar _ (by simp) q.n8.c6, cset _ q.n8.c7⟩, fun i => (World.frozen?_setCell _ _ _ _).trans (q.fr i)⟩
theorem q8_new (w : World) (ty : TypeId) (c k f t : ByteArray) (off sp h : Int) (r : Value) : Q8 (w.alloc (.cells #[.string c, .string k, .string f, .string t, .int .i64 off, .int .i64 sp, .int .i64 h, r] ty)) w.heap.size c k f t off sp h r := ⟨Plan.n8_new w ty c k f t off sp h r, fun i => by simp⟩
set_option maxRecDepth 100000 in
set_option maxHeartbeats 8000000 in
theorem go_bad (cl kd f t : ByteArray) (off sp h : Int) (A1 A2 A3 : Option Addr) (n c1 m c2 nr c3 : Nat) (E : Int) (w : World) (hE1 : (E != 0) = true) (WK : Hid (∀ w1, Calls Try.prog 46 #[] w1 fun e w' => e = .returned (.bool true) ∧ Below w1.heap.size w1 w'))
    (EX : Hid (∀ w1, Below w.heap.size w w1 → Calls Try.prog 47 #[Plan.plan cl kd f t off sp h (.slice A3 nr c3), .agg #[.slice A1 n c1, .slice A2 m c2]] w1 fun e w' => e = .returned (.tuple #[.slice none 0 0, .int .i64 E]) ∧ Below w1.heap.size w1 w')) :
    Calls Try.prog 13 #[Plan.plan cl kd f t off sp h (.slice A3 nr c3), .agg #[.slice A1 n c1, .slice A2 m c2]] w fun e w' => e = .returned (.bool true) ∧ Below w.heap.size w w' := by
  have hE0 : (E == 0) = false := by simpa using hE1
  have n8 := Plan.n8_new w 107 cl kd f t off sp h (.slice A3 nr c3)
  have N0 : Hid (Plan.N8 ((w.alloc (.cells #[.string cl, .string kd, .string f, .string t, .int .i64 off, .int .i64 sp, .int .i64 h, .slice A3 nr c3] 107)).alloc (.cells #[.slice A1 n c1, .slice A2 m c2] 38)) w.heap.size cl kd f t off sp h (.slice A3 nr c3)) := Lib.hid (Plan.n8_keep (b_alloc (Below.refl _ _) _) n8)
  have p2 := p2v_new (w.alloc (.cells #[.string cl, .string kd, .string f, .string t, .int .i64 off, .int .i64 sp, .int .i64 h, .slice A3 nr c3] 107)) 38 (.slice A1 n c1) (.slice A2 m c2)
  rw [World.size_alloc] at p2
  have C0 := Lib.hid p2
  have W0 := Lib.hid (b_alloc (b_alloc (Below.refl w.heap.size w) (.cells #[.string cl, .string kd, .string f, .string t, .int .i64 off, .int .i64 sp, .int .i64 h, .slice A3 nr c3] 107)) (.cells #[.slice A1 n c1, .slice A2 m c2] 38))
  clear n8 p2
  go_enter Try.func13, Try.ntmps13
  go_wp2_with fail
  (with_reducible refine (WK.out _).mono ?_); rintro e w1 ⟨rfl, hb⟩
  have W1 := Lib.hid (b_next W0.out hb); have N1 := Lib.hid (Plan.n8_keep hb N0.out); have C1 := Lib.hid (p2v_keep hb C0.out); clear hb
  obtain ⟨x0, x1, x2, x3, x4, x5, x6, x7⟩ := N1.out
  obtain ⟨y0, y1⟩ := C1.out
  go_wp2_with fail
  (with_reducible refine (EX.out _ W1.out).mono ?_); rintro e w2 ⟨rfl, hb⟩
  have W2 := Lib.hid (b_next W1.out hb); have N2 := Lib.hid (Plan.n8_keep hb N1.out); have C2 := Lib.hid (p2v_keep hb C1.out); clear hb x0 x1 x2 x3 x4 x5 x6 x7 y0 y1
  go_wp2_with fail
  go_ret
  exact ⟨by first | rfl | exact retb rfl, W2.out⟩
set_option maxRecDepth 100000 in
set_option maxHeartbeats 8000000 in
theorem go_long (cl kd f t : ByteArray) (off sp h : Int) (A1 A2 A3 : Option Addr) (n c1 m c2 nr c3 : Nat) (k : Nat) (T : List ByteArray) (FXx FYy : Nat → Int) (w : World) (hk : 20 < k) (WK : Hid (∀ w1, Calls Try.prog 46 #[] w1 fun e w' => e = .returned (.bool true) ∧ Below w1.heap.size w1 w'))
    (EX : Hid (∀ w1, Below w.heap.size w w1 → Calls Try.prog 47 #[Plan.plan cl kd f t off sp h (.slice A3 nr c3), .agg #[.slice A1 n c1, .slice A2 m c2]] w1 fun e w' => (∃ v, e = .returned (.tuple #[v, .int .i64 0]) ∧ FV w' v k (nth T) FXx FYy) ∧ Below w1.heap.size w1 w')) :
    Calls Try.prog 13 #[Plan.plan cl kd f t off sp h (.slice A3 nr c3), .agg #[.slice A1 n c1, .slice A2 m c2]] w fun e w' => e = .returned (.bool true) ∧ Below w.heap.size w w' := by
  have n8 := Plan.n8_new w 107 cl kd f t off sp h (.slice A3 nr c3)
  have N0 : Hid (Plan.N8 ((w.alloc (.cells #[.string cl, .string kd, .string f, .string t, .int .i64 off, .int .i64 sp, .int .i64 h, .slice A3 nr c3] 107)).alloc (.cells #[.slice A1 n c1, .slice A2 m c2] 38)) w.heap.size cl kd f t off sp h (.slice A3 nr c3)) := Lib.hid (Plan.n8_keep (b_alloc (Below.refl _ _) _) n8)
  have p2 := p2v_new (w.alloc (.cells #[.string cl, .string kd, .string f, .string t, .int .i64 off, .int .i64 sp, .int .i64 h, .slice A3 nr c3] 107)) 38 (.slice A1 n c1) (.slice A2 m c2)
  rw [World.size_alloc] at p2
  have C0 := Lib.hid p2
  have W0 := Lib.hid (b_alloc (b_alloc (Below.refl w.heap.size w) (.cells #[.string cl, .string kd, .string f, .string t, .int .i64 off, .int .i64 sp, .int .i64 h, .slice A3 nr c3] 107)) (.cells #[.slice A1 n c1, .slice A2 m c2] 38))
  clear n8 p2
  go_enter Try.func13, Try.ntmps13
  go_wp2_with fail
  (with_reducible refine (WK.out _).mono ?_); rintro e w1 ⟨rfl, hb⟩
  have W1 := Lib.hid (b_next W0.out hb); have N1 := Lib.hid (Plan.n8_keep hb N0.out); have C1 := Lib.hid (p2v_keep hb C0.out); clear hb
  obtain ⟨x0, x1, x2, x3, x4, x5, x6, x7⟩ := N1.out
  obtain ⟨y0, y1⟩ := C1.out
  go_wp2_with fail
  (with_reducible refine (EX.out _ W1.out).mono ?_); rintro e w2 ⟨⟨v, rfl, hfv⟩, hb⟩
  have W2 := Lib.hid (b_next W1.out hb); have N2 := Lib.hid (Plan.n8_keep hb N1.out); have C2 := Lib.hid (p2v_keep hb C1.out)
  clear hb x0 x1 x2 x3 x4 x5 x6 x7 y0 y1
  obtain ⟨A, c, rfl⟩ := fv_slice hfv
  clear hfv
  have g1 : (20 : Int) < (k : Int) := by omega
  
  go_wp2_with fail
  go_ret
  exact ⟨by first | rfl | exact retb rfl | exact retb (by simp), W2.out⟩
set_option maxRecDepth 100000 in
set_option maxHeartbeats 8000000 in
theorem go_short (cl kd f t : ByteArray) (off sp h : Int) (A1 A2 A3 : Option Addr) (n c1 m c2 nr c3 : Nat) (k : Nat) (T : List ByteArray) (FXx FYy : Nat → Int) (w : World) (hk : k < 2) (WK : Hid (∀ w1, Calls Try.prog 46 #[] w1 fun e w' => e = .returned (.bool true) ∧ Below w1.heap.size w1 w'))
    (EX : Hid (∀ w1, Below w.heap.size w w1 → Calls Try.prog 47 #[Plan.plan cl kd f t off sp h (.slice A3 nr c3), .agg #[.slice A1 n c1, .slice A2 m c2]] w1 fun e w' => (∃ v, e = .returned (.tuple #[v, .int .i64 0]) ∧ FV w' v k (nth T) FXx FYy) ∧ Below w1.heap.size w1 w')) :
    Calls Try.prog 13 #[Plan.plan cl kd f t off sp h (.slice A3 nr c3), .agg #[.slice A1 n c1, .slice A2 m c2]] w fun e w' => e = .returned (.bool true) ∧ Below w.heap.size w w' := by
  have n8 := Plan.n8_new w 107 cl kd f t off sp h (.slice A3 nr c3)
  have N0 : Hid (Plan.N8 ((w.alloc (.cells #[.string cl, .string kd, .string f, .string t, .int .i64 off, .int .i64 sp, .int .i64 h, .slice A3 nr c3] 107)).alloc (.cells #[.slice A1 n c1, .slice A2 m c2] 38)) w.heap.size cl kd f t off sp h (.slice A3 nr c3)) := Lib.hid (Plan.n8_keep (b_alloc (Below.refl _ _) _) n8)
  have p2 := p2v_new (w.alloc (.cells #[.string cl, .string kd, .string f, .string t, .int .i64 off, .int .i64 sp, .int .i64 h, .slice A3 nr c3] 107)) 38 (.slice A1 n c1) (.slice A2 m c2)
  rw [World.size_alloc] at p2
  have C0 := Lib.hid p2
  have W0 := Lib.hid (b_alloc (b_alloc (Below.refl w.heap.size w) (.cells #[.string cl, .string kd, .string f, .string t, .int .i64 off, .int .i64 sp, .int .i64 h, .slice A3 nr c3] 107)) (.cells #[.slice A1 n c1, .slice A2 m c2] 38))
  clear n8 p2
  go_enter Try.func13, Try.ntmps13
  go_wp2_with fail
  (with_reducible refine (WK.out _).mono ?_); rintro e w1 ⟨rfl, hb⟩
  have W1 := Lib.hid (b_next W0.out hb); have N1 := Lib.hid (Plan.n8_keep hb N0.out); have C1 := Lib.hid (p2v_keep hb C0.out); clear hb
  obtain ⟨x0, x1, x2, x3, x4, x5, x6, x7⟩ := N1.out
  obtain ⟨y0, y1⟩ := C1.out
  go_wp2_with fail
  (with_reducible refine (EX.out _ W1.out).mono ?_); rintro e w2 ⟨⟨v, rfl, hfv⟩, hb⟩
  have W2 := Lib.hid (b_next W1.out hb); have N2 := Lib.hid (Plan.n8_keep hb N1.out); have C2 := Lib.hid (p2v_keep hb C1.out)
  clear hb x0 x1 x2 x3 x4 x5 x6 x7 y0 y1
  obtain ⟨A, c, rfl⟩ := fv_slice hfv
  clear hfv
  have g1 : ¬ (20 : Int) < (k : Int) := by omega
  have g2 : (k : Int) < 2 := by omega
  go_wp2_with fail
  go_ret
  exact ⟨by first | rfl | exact retb rfl | exact retb (by simp), W2.out⟩
set_option maxRecDepth 100000 in
set_option maxHeartbeats 8000000 in
theorem go (cl kd f t : ByteArray) (off sp h : Int) (A1 A2 A3 : Option Addr) (n c1 m c2 nr c3 : Nat) (k : Nat) (T : List ByteArray) (FXx FYy : Nat → Int) (w : World) (hk : 2 ≤ k) (hk2 : k ≤ 20) (WK : Hid (∀ w1, Calls Try.prog 46 #[] w1 fun e w' => e = .returned (.bool true) ∧ Below w1.heap.size w1 w'))
    (EX : Hid (∀ w1, Below w.heap.size w w1 → Calls Try.prog 47 #[Plan.plan cl kd f t off sp h (.slice A3 nr c3), .agg #[.slice A1 n c1, .slice A2 m c2]] w1 fun e w' => (∃ v, e = .returned (.tuple #[v, .int .i64 0]) ∧ FV w' v k (nth T) FXx FYy) ∧ Below w1.heap.size w1 w'))
    (EX2 : Hid (∀ w1 v, Below w.heap.size w w1 → SV w1 v (k - 2) (fun j => nth T (j + 1)) → Calls Try.prog 47 #[Plan.plan cl kd f t off sp h v, .agg #[.slice A1 n c1, .slice A2 m c2]] w1 fun e w' => (∃ v, e = .returned (.tuple #[v, .int .i64 0]) ∧ FV w' v k (nth T) FXx FYy) ∧ Below w1.heap.size w1 w')) :
    Calls Try.prog 13 #[Plan.plan cl kd f t off sp h (.slice A3 nr c3), .agg #[.slice A1 n c1, .slice A2 m c2]] w fun e w' => e = .returned (.bool true) ∧ Below w.heap.size w w' := by
  have n8 := Plan.n8_new w 107 cl kd f t off sp h (.slice A3 nr c3)
  have N0 : Hid (Plan.N8 ((w.alloc (.cells #[.string cl, .string kd, .string f, .string t, .int .i64 off, .int .i64 sp, .int .i64 h, .slice A3 nr c3] 107)).alloc (.cells #[.slice A1 n c1, .slice A2 m c2] 38)) w.heap.size cl kd f t off sp h (.slice A3 nr c3)) := Lib.hid (Plan.n8_keep (b_alloc (Below.refl _ _) _) n8)
  have p2 := p2v_new (w.alloc (.cells #[.string cl, .string kd, .string f, .string t, .int .i64 off, .int .i64 sp, .int .i64 h, .slice A3 nr c3] 107)) 38 (.slice A1 n c1) (.slice A2 m c2)
  rw [World.size_alloc] at p2
  have C0 := Lib.hid p2
  have W0 := Lib.hid (b_alloc (b_alloc (Below.refl w.heap.size w) (.cells #[.string cl, .string kd, .string f, .string t, .int .i64 off, .int .i64 sp, .int .i64 h, .slice A3 nr c3] 107)) (.cells #[.slice A1 n c1, .slice A2 m c2] 38))
  clear n8 p2
  go_enter Try.func13, Try.ntmps13
  go_wp2_with fail
  (with_reducible refine (WK.out _).mono ?_); rintro e w1 ⟨rfl, hb⟩
  have W1 := Lib.hid (b_next W0.out hb); have N1 := Lib.hid (Plan.n8_keep hb N0.out); have C1 := Lib.hid (p2v_keep hb C0.out); clear hb
  obtain ⟨x0, x1, x2, x3, x4, x5, x6, x7⟩ := N1.out
  obtain ⟨y0, y1⟩ := C1.out
  go_wp2_with fail
  (with_reducible refine (EX.out _ W1.out).mono ?_); rintro e w2 ⟨⟨v, rfl, hfv⟩, hb⟩
  have W2 := Lib.hid (b_next W1.out hb); have N2 := Lib.hid (Plan.n8_keep hb N1.out); have C2 := Lib.hid (p2v_keep hb C1.out)
  clear hb x0 x1 x2 x3 x4 x5 x6 x7 y0 y1
  have FV2 := Lib.hid hfv
  obtain ⟨b, o, c, rfl, hc1, hc2, h3⟩ := fv_at hfv (by omega)
  have H3 := Lib.hid h3
  have hc3 : c ≤ 9223372036854775807 := Nat.le_trans hc2 (by decide)
  clear h3 hfv
  have g1 : ¬ (20 : Int) < (k : Int) := by omega
  have g2 : ¬ (k : Int) < 2 := by omega
  obtain ⟨r, hr⟩ : ∃ r, r = k - 2 := ⟨_, rfl⟩
  obtain ⟨i0, hi, hz0, hz1, hz2⟩ := info_parts info_str
  have IN := Lib.hid (And.intro hi (And.intro hz0 (And.intro hz1 hz2))); clear hi hz0 hz1 hz2
  obtain ⟨x0, x1, x2, x3, x4, x5, x6, x7⟩ := N2.out
  obtain ⟨w3, hw3⟩ : ∃ w3, w3 = w2.alloc (.cells #[.string cl, .string kd, .string f, .string t, .int .i64 off, .int .i64 sp, .int .i64 h, .slice none 0 0] 107) := ⟨_, rfl⟩
  have B3 : Hid (Below w2.heap.size w2 w3) := Lib.hid (by rw [hw3]; exact b_alloc (Below.refl _ _) _)
  have Q3 : Hid (Q8 w3 w2.heap.size cl kd f t off sp h (.slice none 0 0)) := Lib.hid (by rw [hw3]; exact q8_new _ _ _ _ _ _ _ _ _ _)
  have S3 : Hid (w2.heap.size + 1 ≤ w3.heap.size) := Lib.hid (by rw [hw3]; simp)
  have H3' : Hid (w2.alloc (.cells #[.string cl, .string kd, .string f, .string t, .int .i64 off, .int .i64 sp, .int .i64 h, .slice none 0 0] 107) = w3) := Lib.hid hw3.symm
  clear hw3
  have r1 : (k : Int) - 1 = ((k - 1 : Nat) : Int) := by omega
  have r2 : ((k - 1 : Nat) : Int) = (k : Int) - 1 := by omega
  clear r1 r2
  have q1 : (1 : Int) ≤ (k : Int) - 1 := by omega
  have q2 : (k : Int) - 1 ≤ (c : Int) := by omega
  have q3 : ((k : Int) - 1).toNat = k - 1 := by omega
  go_wp2_with fail
  rw [H3'.out]
  go_loopw [48] (fun s wr => ∃ j : Nat, j ≤ r ∧ s = .int .i64 j ∧ (∃ v, Q8 wr w2.heap.size cl kd f t off sp h v ∧ wr.ownsRow (w2.heap.size + 1) 9 1 v (lst j (fun a => nth T (a + 1))).length (vs (lst j (fun a => nth T (a + 1))))) ∧ Below w2.heap.size w2 wr) (fun s _ => r - (intOf s).toNat)
  case atStart => exact ⟨0, Nat.zero_le _, rfl, ⟨_, Q3.out, rfl, Or.inl ⟨rfl, rfl⟩⟩, B3.out⟩
  case round =>
    obtain ⟨j, hj, rfl, ⟨v, hq8, hown⟩, hbl⟩ := hrel
    have WR := Lib.hid hbl; have OW := Lib.hid hown; have Q8R := Lib.hid hq8; clear hown hq8
    have LB : Hid (w2.heap.size + 1 ≤ wr.heap.size) := Lib.hid (lt_of_cell Q8R.out.n8.c0)
    by_cases hlt : j < r
    · have hl : (j : Int) < (r : Int) := by omega
      obtain ⟨f0', f1', f2'⟩ := e3_keep hbl (H3.out (j + 1) (by omega))
      have ea : o + (j + 1) * 3 = o + 3 + j * 3 := by omega
      rw [ea] at f0' f1' f2'
      have NX : Hid (lst (j + 1) (fun a => nth T (a + 1)) = lst j (fun a => nth T (a + 1)) ++ [nth T (j + 1)]) := Lib.hid (lst_snoc _ _)
      have hll : (lst j (fun a => nth T (a + 1))).length ≤ 62 := by rw [lst_len]; omega
      have hl2 : (j : Int) < ((k - 1 - 1 : Nat) : Int) := by omega
      clear hbl ea
      generalize nth T (j + 1) = s0 at *
      generalize FXx (j + 1) = x at *
      generalize FYy (j + 1) = y at *
      have BA := Lib.hid (b_alloc (b_alloc (Below.refl wr.heap.size wr) (.cells #[.string s0, .int .i64 x, .int .i64 y] 45)) (.cells #[.string s0] 9))
      have WA := Lib.hid (b_next WR.out BA.out)
      have OA := Lib.hid (own_vs BA.out OW.out)
      have QA := Lib.hid (q8_keep BA.out Q8R.out)
      have so := sl_one (wr.alloc (.cells #[.string s0, .int .i64 x, .int .i64 y] 45)) s0 9
      rw [World.size_alloc] at so
      have SO := Lib.hid so
      have HZ : Hid (w2.heap.size + 1 ≤ ((wr.alloc (.cells #[.string s0, .int .i64 x, .int .i64 y] 45)).alloc (.cells #[.string s0] 9)).heap.size) := Lib.hid (by have := LB.out; simp; omega)
      clear so
      have hLn : (lst j (fun a => nth T (a + 1))).length = j := lst_len _ _
      have HLn := Lib.hid hLn; clear hLn
      generalize lst j (fun a => nth T (a + 1)) = LJ at *
      have z7 := Q8R.out.n8.c7
      have nn := new_ne z7
      go_wp2_with (at_builtin; refine append_sl rfl (.tmp 53) (.tmp 56) 46 rfl (w2.heap.size + 1) 9 i0 _ Try.underlying46 IN.out.1 IN.out.2.1 IN.out.2.2.1 IN.out.2.2.2 rfl _ LJ rfl OA.out _ [s0] rfl SO.out (by simp; omega) HZ.out ?_; intro v2 w9 hown2 hg2; obtain ⟨g2, o2, cc2, rfl, -, -, -⟩ := sv_at (sl_own hown2) (by simp); have Q9 := Lib.hid (q8_grown hg2 (fun e => by have := (OA.out.lt _ e.symm).1; omega) QA.out); have q7 := Q9.out.n8.c7; have qf := Q9.out.fr 7)
      have W9 := Lib.hid (WA.out.grown hg2 WA.out.size (fun q hq => by have := (OA.out.lt q hq).1; omega))
      have O9 : Hid (w9.ownsRow (w2.heap.size + 1) 9 1 (.slice (some ⟨g2, o2, none⟩) (LJ.length + 1) cc2) (lst (j + 1) (fun a => nth T (a + 1))).length (vs (lst (j + 1) (fun a => nth T (a + 1))))) := Lib.hid (by rw [NX.out, List.length_append, List.length_singleton]; rw [List.length_append, List.length_singleton] at hown2; exact hown2)
      clear hown2 hg2 f0' f1' f2' q7 qf
      go_roundw
      case rel => exact ⟨j + 1, by omega, by go_num, ⟨_, q8_set Q9.out _, own_far O9.out (Nat.lt_succ_self _) 7 _⟩, b_set W9.out (Nat.le_refl _) _⟩
      case measure => simp [intOf]; omega
    · have hjr : j = r := by omega
      have hl2 : ¬ (j : Int) < ((k - 1 - 1 : Nat) : Int) := by omega
      have SVv : SV wr v (k - 2) (fun a => nth T (a + 1)) := by
        have e2 := sl_own OW.out
        have e3 : SV wr v (lst j (fun a => nth T (a + 1))).length (nth (lst j (fun a => nth T (a + 1)))) := e2
        rw [lst_len] at e3
        rw [← hr, ← hjr]
        exact sv_congr e3 fun a ha => lst_nth ha
      obtain ⟨Av, cv, rfl⟩ := sv_slice SVv
      have EXV := Lib.hid (EX2.out wr _ (b_next W2.out hbl) SVv)
      obtain ⟨x0, x1, x2, x3, x4, x5, x6, x7⟩ := Q8R.out.n8
      obtain ⟨y0, y1⟩ := p2v_keep hbl C2.out
      have FVR := Lib.hid (fv_keep hbl FV2.out)
      clear SVv hbl
      go_wp2_with fail
      (with_reducible refine EXV.out.mono ?_); rintro e w4 ⟨⟨v4, rfl, hfv4⟩, hb⟩
      have W4 := Lib.hid (b_next WR.out hb)
      obtain ⟨b', o', c', e, -, -, hA⟩ := fv_at (fv_keep hb FVR.out) (by omega)
      injection e with e1 _ e3
      injection e1 with e1
      injection e1 with e1 e2
      subst e1 e2 e3
      obtain ⟨b4, o4, c4, rfl, hc4, hc5, hB⟩ := fv_at hfv4 (by omega)
      have hc6 : c4 ≤ 9223372036854775807 := Nat.le_trans hc5 (by decide)
      have CA := Lib.hid hA; have CB := Lib.hid hB
      clear hA hB hb hfv4 x0 x1 x2 x3 x4 x5 x6 x7 y0 y1
      go_wp2_with fail
      go_loopw [77] (fun s wr => ∃ a : Nat, a ≤ k ∧ s = .int .i64 a ∧ Below w4.heap.size w4 wr) (fun s _ => k - (intOf s).toNat)
      case atStart => exact ⟨0, Nat.zero_le _, rfl, Below.refl _ _⟩
      case round =>
        obtain ⟨a, ha, rfl, hbl⟩ := hrel
        have WV := Lib.hid hbl
        by_cases hlt2 : a < k
        · have hl3 : (a : Int) < (k : Int) := by omega
          have C8' := e3_keep hbl (CA.out a hlt2)
          have C9' := e3_keep hbl (CB.out a hlt2)
          have C8 := Lib.hid (And.intro C8'.c0 (And.intro C8'.c1 C8'.c2)); have C9 := Lib.hid (And.intro C9'.c0 (And.intro C9'.c1 C9'.c2))
          have ss : ((nth T a).toList == (nth T a).toList) = true := by simp
          have ss2 : ((nth T a).toList != (nth T a).toList) = false := by simp
          clear hbl C8' C9'
          generalize nth T a = s0 at *
          generalize FXx a = x at *
          generalize FYy a = y at *
          go_wp2_with fail
          refine d_region (by kernel_rfl) (by kernel_rfl) ?_
          repeat
            first
              | (refine d_plain (by with_reducible rfl) ?_; apply Exists.intro; refine ⟨fun wq hc hq => ?_, ?_⟩)
              | (refine d_on (by with_reducible rfl) (by rfl) (by with_reducible rfl) ?_; apply Exists.intro; refine ⟨fun wq hc hq => ?_, ?_⟩)
              | (refine d_off (by with_reducible rfl) (by rfl) (by rfl) ?_)
              | (refine d_void (by with_reducible rfl) (by rfl) ?_)
            try any_goals
              (have q0 := keep (cls hq) C8.out.1; have q1 := keep (cls hq) C8.out.2.1; have q2 := keep (cls hq) C8.out.2.2; have q3 := keep (cls hq) C9.out.1; have q4 := keep (cls hq) C9.out.2.1; have q5 := keep (cls hq) C9.out.2.2; clear hc
               go_simp
               first
                 | rfl)
            simp only [Act.put, List.setIfInBounds_toArray, List.set_cons_zero, List.set_cons_succ]
          refine d_nil ?_
          intro w9 hbz
          go_wp2_with fail
          go_roundw
          case rel => exact ⟨a + 1, by omega, by go_num, b_next WV.out hbz⟩
          case measure => simp [intOf]; omega
        · have hl3 : ¬ (a : Int) < (k : Int) := by omega
          clear hbl
          go_wp2_with fail
          go_ret
          exact ⟨by first | rfl | exact retb rfl, b_next W2.out (b_next W4.out WV.out)⟩
theorem walk (p_call p_kind p_from p_to : ByteArray) (p_off p_speed p_height : Int) (p_route c_fixes c_airways : Value) (W : World) (_h_p_call : p_call.size ≤ maxLen) (_h_p_kind : p_kind.size ≤ maxLen) (_h_p_from : p_from.size ≤ maxLen) (_h_p_to : p_to.size ≤ maxLen) (_h_p_off : -9223372036854775808 ≤ p_off ∧ p_off ≤ 9223372036854775807) (_h_p_speed : -9223372036854775808 ≤ p_speed ∧ p_speed ≤ 9223372036854775807) (_h_p_height : -9223372036854775808 ≤ p_height ∧ p_height ≤ 9223372036854775807) (h_p_route : Frame.Okc W (.sl [.str]) p_route) (h_c_fixes : Frame.Okc W (.sl [.str, .int, .int]) c_fixes) (h_c_airways : Frame.Okc W (.sl [.str, .sl [.str]]) c_airways) :
    Calls Try.prog 13 #[Plan.plan p_call p_kind p_from p_to p_off p_speed p_height p_route, .agg #[c_fixes, c_airways]] W fun e w' => e = .returned (.bool true) ∧ Below W.heap.size W w' := by
  obtain ⟨nr, RT, hr⟩ := sv_of h_p_route
  obtain ⟨n, N, X, Y, m, M, l, S, hc⟩ := cv_of h_c_fixes h_c_airways
  have E := fun w1 (hb : Below W.heap.size W w1) => expandC (cl := p_call) (kd := p_kind) (f := p_from) (t := p_to) (off := p_off) (sp := p_speed) (h := p_height) (sv_keep hb hr) (cv_keep hb hc)
  have hcv := hc
  obtain ⟨fx', a', e, hf, ha⟩ := hc.ex
  injection e with e
  obtain ⟨rfl, rfl⟩ : c_fixes = fx' ∧ c_airways = a' := by simpa using e
  clear e
  obtain ⟨⟨A3, c3, rfl⟩, ⟨A1, c1, rfl⟩, A2, c2, rfl⟩ := slice_lits hr hf ha
  by_cases hE : rtE n N X Y m M l S p_call p_kind p_from p_to p_off p_speed p_height nr RT = 0
  · obtain ⟨hpl, o⟩ := rt_ok hE
    obtain ⟨T, hT⟩ : ∃ T, T = rts m M l S p_from p_to (lst nr RT) := ⟨_, rfl⟩
    have EX : ∀ w1, Below W.heap.size W w1 → Calls Try.prog 47 #[Plan.plan p_call p_kind p_from p_to p_off p_speed p_height (.slice A3 nr c3), .agg #[.slice A1 n c1, .slice A2 m c2]] w1 fun e w' => (∃ v, e = .returned (.tuple #[v, .int .i64 0]) ∧ FV w' v T.length (nth T) (fun j => X (pos n N (nth T j))) (fun j => Y (pos n N (nth T j)))) ∧ Below w1.heap.size w1 w' := fun w1 hb => (E w1 hb).mono fun e w' ⟨hp, hb'⟩ => by
      rcases hp with ⟨h0, -⟩ | ⟨-, v, he, hv⟩
      · exact absurd hE h0
      · rw [← hT] at hv; exact ⟨⟨v, he, hv⟩, hb'⟩
    by_cases hk20 : 20 < T.length
    · exact go_long p_call p_kind p_from p_to p_off p_speed p_height A1 A2 A3 n c1 m c2 nr c3 T.length T _ _ W hk20 (Lib.hid routeWorks) (Lib.hid EX)
    · by_cases hk2 : T.length < 2
      · exact go_short p_call p_kind p_from p_to p_off p_speed p_height A1 A2 A3 n c1 m c2 nr c3 T.length T _ _ W hk2 (Lib.hid routeWorks) (Lib.hid EX)
      · have hdir := direct o (by rw [← hT]; omega)
        have hpl2 := direct_plan hpl o (by rw [← hT]; omega)
        rw [← hT] at hdir hpl2
        have e0 : rtE n N X Y m M l S p_call p_kind p_from p_to p_off p_speed p_height (T.length - 2) (fun j => nth T (j + 1)) = 0 := rt_of hpl2 hdir.1
        have EX2 : ∀ w1 v, Below W.heap.size W w1 → SV w1 v (T.length - 2) (fun j => nth T (j + 1)) → Calls Try.prog 47 #[Plan.plan p_call p_kind p_from p_to p_off p_speed p_height v, .agg #[.slice A1 n c1, .slice A2 m c2]] w1 fun e w' => (∃ v, e = .returned (.tuple #[v, .int .i64 0]) ∧ FV w' v T.length (nth T) (fun j => X (pos n N (nth T j))) (fun j => Y (pos n N (nth T j)))) ∧ Below w1.heap.size w1 w' := fun w1 v hb hs => (expandC (cl := p_call) (kd := p_kind) (f := p_from) (t := p_to) (off := p_off) (sp := p_speed) (h := p_height) hs (cv_keep hb hcv)).mono fun e w' ⟨hp, hb'⟩ => by
          rcases hp with ⟨h0, -⟩ | ⟨-, v, he, hv⟩
          · exact absurd e0 h0
          · rw [show rts m M l S p_from p_to (lst (T.length - 2) fun j => nth T (j + 1)) = T from hdir.2] at hv; exact ⟨⟨v, he, hv⟩, hb'⟩
        exact go p_call p_kind p_from p_to p_off p_speed p_height A1 A2 A3 n c1 m c2 nr c3 T.length T _ _ W (by omega) (by omega) (Lib.hid routeWorks) (Lib.hid EX) (Lib.hid EX2)
  · have EX := fun w1 (hb : Below W.heap.size W w1) => (E w1 hb).mono fun e w' (h : ExpPost n N X Y _ _ e w' ∧ Below w1.heap.size w1 w') => (by
      obtain ⟨⟨-, he⟩ | ⟨h0, -⟩, hb'⟩ := h
      · exact ⟨he, hb'⟩
      · exact absurd h0 hE : e = .returned (.tuple #[.slice none 0 0, .int .i64 (rtE n N X Y m M l S p_call p_kind p_from p_to p_off p_speed p_height nr RT)]) ∧ Below w1.heap.size w1 w')
    exact go_bad p_call p_kind p_from p_to p_off p_speed p_height A1 A2 A3 n c1 m c2 nr c3 _ W (by simpa using hE) (Lib.hid routeWorks) (Lib.hid EX)
-- FRAME --

set_option maxRecDepth 100000 in
theorem lifted (os : Os) (started : os.Started) (H : Type) (enc : TypeId × Value → H) :
    ReturnsInHanded {} Try.checked os 13 .any (Rows.routeDirectSpec.pre6 enc Try.prog Try.f13 Rows.routeDirectRow.domain false) (Rows.routeDirectSpec.post enc Try.prog Try.f13 false true false false) :=
  Frame.lifted (C := Try.checked) 13 Try.f13 Try.own started (by kernel_rfl) Try.func13 Try.laidOut rfl (by kernel_rfl) 4 rfl Try.underlying4
      (fun ds h => by match ds, h with | [_, _], _ => rfl)
      (ChangeSpec.witness6 (enc := enc) (C := Try.checked) false ⟨#[], #[.agg #[.string ⟨#[]⟩, .string ⟨#[]⟩, .string ⟨#[]⟩, .string ⟨#[]⟩, .int .i64 0, .int .i64 0, .int .i64 0, .slice none 0 0], .agg #[.slice none 0 0, .slice none 0 0]], []⟩ 8 (by kernel_rfl) (by kernel_rfl) (by kernel_rfl) (by kernel_rfl))
      (fun W base args ds ps hval0 hA _ => by
        have hval : ∀ (j : Nat) t v, Try.f13.params[j]? = some t → args[j]? = some v → Value.okWide Try.prog W .any base t v := hval0
        have hA' : DataW.TrodAll enc Try.prog W 0 (fun _ => true) true Try.f13.params.toList args.toList ds ps := hA
        clear hval0 hA
        have hA := hA'
        clear hA'
        rw [Try.params13] at hA hval
        obtain ⟨v0, vs0, d0, ds0, p0, q0, ea, rfl, rfl, tr0, rest0⟩ := trodAll_cons hA
        obtain ⟨v1, vs1, d1, ds1, p1, q1, rfl, rfl, rfl, tr1, rest1⟩ := trodAll_cons rest0
        obtain ⟨rfl, rfl, rfl⟩ := trodAll_nil rest1
        obtain rfl : args = #[v0, v1] := by cases args; simp_all
        clear ea
        obtain ⟨cs_p, e_p, hl_p, hc_p⟩ := Frame.arg_agg Try.underlying107 (k := 8) (ks := [.str, .str, .str, .str, .int, .int, .int, .sl [.str]]) (by kernel_rfl) (hval 0 _ v0 rfl rfl) tr0
        subst e_p
        obtain ⟨c_p_call, c_p_kind, c_p_from, c_p_to, c_p_off, c_p_speed, c_p_height, c_p_route, rfl⟩ : ∃ c_p_call c_p_kind c_p_from c_p_to c_p_off c_p_speed c_p_height c_p_route, cs_p = [c_p_call, c_p_kind, c_p_from, c_p_to, c_p_off, c_p_speed, c_p_height, c_p_route] := by match cs_p, hl_p with | [x0, x1, x2, x3, x4, x5, x6, x7], _ => exact ⟨x0, x1, x2, x3, x4, x5, x6, x7, rfl⟩
        have o_p_call : Frame.Okc W (.str) c_p_call := hc_p 0 (by decide) (by simp)
        obtain ⟨p_call, e_p_call, w_p_call⟩ := o_p_call.str_inv; subst e_p_call
        have o_p_kind : Frame.Okc W (.str) c_p_kind := hc_p 1 (by decide) (by simp)
        obtain ⟨p_kind, e_p_kind, w_p_kind⟩ := o_p_kind.str_inv; subst e_p_kind
        have o_p_from : Frame.Okc W (.str) c_p_from := hc_p 2 (by decide) (by simp)
        obtain ⟨p_from, e_p_from, w_p_from⟩ := o_p_from.str_inv; subst e_p_from
        have o_p_to : Frame.Okc W (.str) c_p_to := hc_p 3 (by decide) (by simp)
        obtain ⟨p_to, e_p_to, w_p_to⟩ := o_p_to.str_inv; subst e_p_to
        have o_p_off : Frame.Okc W (.int) c_p_off := hc_p 4 (by decide) (by simp)
        obtain ⟨p_off, e_p_off, w_p_off⟩ := o_p_off.int_inv; subst e_p_off
        have o_p_speed : Frame.Okc W (.int) c_p_speed := hc_p 5 (by decide) (by simp)
        obtain ⟨p_speed, e_p_speed, w_p_speed⟩ := o_p_speed.int_inv; subst e_p_speed
        have o_p_height : Frame.Okc W (.int) c_p_height := hc_p 6 (by decide) (by simp)
        obtain ⟨p_height, e_p_height, w_p_height⟩ := o_p_height.int_inv; subst e_p_height
        have o_p_route : Frame.Okc W (.sl [.str]) c_p_route := hc_p 7 (by decide) (by simp)
        obtain ⟨cs_c, e_c, hl_c, hc_c⟩ := Frame.arg_agg Try.underlying38 (k := 8) (ks := [.sl [.str, .int, .int], .sl [.str, .sl [.str]]]) (by kernel_rfl) (hval 1 _ v1 rfl rfl) tr1
        subst e_c
        obtain ⟨c_c_fixes, c_c_airways, rfl⟩ : ∃ c_c_fixes c_c_airways, cs_c = [c_c_fixes, c_c_airways] := by match cs_c, hl_c with | [x0, x1], _ => exact ⟨x0, x1, rfl⟩
        have o_c_fixes : Frame.Okc W (.sl [.str, .int, .int]) c_c_fixes := hc_c 0 (by decide) (by simp)
        have o_c_airways : Frame.Okc W (.sl [.str, .sl [.str]]) c_c_airways := hc_c 1 (by decide) (by simp)
        exact walk p_call p_kind p_from p_to p_off p_speed p_height c_p_route c_c_fixes c_c_airways W w_p_call w_p_kind w_p_from w_p_to w_p_off w_p_speed w_p_height o_p_route o_c_fixes o_c_airways)

/-- The statement. -/
theorem proved : Rows.RouteDirectSaid :=
  OpenClaim.holds_of_wide 13 Try.f13 rfl rfl rfl rfl rfl rfl rfl ⟨rfl, rfl, rfl, rfl, rfl⟩ rfl rfl rfl rfl rfl (by kernel_rfl) Try.func13 (by kernel_rfl)
    (of_decide_eq_true (by kernel_rfl)) (by unfold Func.isWrapper; first | (rw [if_pos (by decide +kernel)]; kernel_rfl) | (rw [if_neg (by decide +kernel)]; exact ⟨rfl, rfl⟩))
    (fun os started H enc _ => lifted os started H enc)
#print axioms proved
end RouteDirect
end Go.Proofs.Yteaccanhahmclaa

