/- ExpW. -/
import Derived.Test.YtmkglhoahdlogaaGreatDoorJ27
import Derived.Deep.RegionHeld3
import Derived.Deep.AppendLies
namespace Go.Proofs.YtmkglhoahdlogaaGreatDoor
open Go.RowKit
namespace Route
open Kit Chart
set_option maxRecDepth 100000 in
set_option maxHeartbeats 8000000 in
theorem exp_plan (cl kd f t : ByteArray) (off sp h : Int) (A1 A2 A3 : Option Addr) (n c1 m c2 nr c3 : Nat) (E : Int) (w : World) (_hE1 : (E == 0) = false) (hE2 : (E != 0) = true) (PC : Hid (∀ w1, Below w.heap.size w w1 → Calls Tryz.prog 13 #[Plan.plan cl kd f t off sp h (.slice A3 nr c3)] w1 fun e w' => e = .returned (.int .i64 E) ∧ Below w1.heap.size w1 w')) :
    Calls Tryz.prog 5 #[Plan.plan cl kd f t off sp h (.slice A3 nr c3), .agg #[.slice A1 n c1, .slice A2 m c2]] w fun e w' => e = .returned (.tuple #[.slice none 0 0, .int .i64 E]) ∧ Below w.heap.size w w' := by
  have n8 := Plan.n8_new w 24 cl kd f t off sp h (.slice A3 nr c3)
  have N0 : Hid (Plan.N8 ((w.alloc (.cells #[.string cl, .string kd, .string f, .string t, .int .i64 off, .int .i64 sp, .int .i64 h, .slice A3 nr c3] 24)).alloc (.cells #[.slice A1 n c1, .slice A2 m c2] 28)) w.heap.size cl kd f t off sp h (.slice A3 nr c3)) := Lib.hid (Plan.n8_keep (b_alloc (Below.refl _ _) _) n8)
  have p2 := p2v_new (w.alloc (.cells #[.string cl, .string kd, .string f, .string t, .int .i64 off, .int .i64 sp, .int .i64 h, .slice A3 nr c3] 24)) 28 (.slice A1 n c1) (.slice A2 m c2)
  rw [World.size_alloc] at p2
  have C0 := Lib.hid p2
  have W0 := Lib.hid (b_alloc (b_alloc (Below.refl w.heap.size w) (.cells #[.string cl, .string kd, .string f, .string t, .int .i64 off, .int .i64 sp, .int .i64 h, .slice A3 nr c3] 24)) (.cells #[.slice A1 n c1, .slice A2 m c2] 28))
  clear n8 p2
  go_enter Tryz.func5, Tryz.ntmps5
  obtain ⟨x0, x1, x2, x3, x4, x5, x6, x7⟩ := N0.out
  go_wp2_with fail
  (with_reducible refine (PC.out _ W0.out).mono ?_); rintro e w1 ⟨rfl, hb⟩
  have W1 := Lib.hid (b_next W0.out hb); have N1 := Lib.hid (Plan.n8_keep hb N0.out); have C1 := Lib.hid (p2v_keep hb C0.out); clear hb x0 x1 x2 x3 x4 x5 x6 x7
  go_wp2_with fail
  refine bodyPost_ret (v := .tuple #[.slice none 0 0, .int .i64 E]) (by simp [results, Tryz.results5, go_sem]) rfl ⟨rfl, ?_⟩
  exact W1.out
set_option maxRecDepth 100000 in
set_option maxHeartbeats 8000000 in
theorem exp_chart (cl kd f t : ByteArray) (off sp h : Int) (A1 A2 A3 : Option Addr) (n c1 m c2 nr c3 : Nat) (E : Int) (w : World) (_hE1 : (E == 0) = false) (hE2 : (E != 0) = true) (PC : Hid (∀ w1, Below w.heap.size w w1 → Calls Tryz.prog 13 #[Plan.plan cl kd f t off sp h (.slice A3 nr c3)] w1 fun e w' => e = .returned (.int .i64 0) ∧ Below w1.heap.size w1 w')) (CK : Hid (∀ w1, Below w.heap.size w w1 → Calls Tryz.prog 14 #[.agg #[.slice A1 n c1, .slice A2 m c2]] w1 fun e w' => e = .returned (.int .i64 E) ∧ Below w1.heap.size w1 w')) :
    Calls Tryz.prog 5 #[Plan.plan cl kd f t off sp h (.slice A3 nr c3), .agg #[.slice A1 n c1, .slice A2 m c2]] w fun e w' => e = .returned (.tuple #[.slice none 0 0, .int .i64 E]) ∧ Below w.heap.size w w' := by
  have n8 := Plan.n8_new w 24 cl kd f t off sp h (.slice A3 nr c3)
  have N0 : Hid (Plan.N8 ((w.alloc (.cells #[.string cl, .string kd, .string f, .string t, .int .i64 off, .int .i64 sp, .int .i64 h, .slice A3 nr c3] 24)).alloc (.cells #[.slice A1 n c1, .slice A2 m c2] 28)) w.heap.size cl kd f t off sp h (.slice A3 nr c3)) := Lib.hid (Plan.n8_keep (b_alloc (Below.refl _ _) _) n8)
  have p2 := p2v_new (w.alloc (.cells #[.string cl, .string kd, .string f, .string t, .int .i64 off, .int .i64 sp, .int .i64 h, .slice A3 nr c3] 24)) 28 (.slice A1 n c1) (.slice A2 m c2)
  rw [World.size_alloc] at p2
  have C0 := Lib.hid p2
  have W0 := Lib.hid (b_alloc (b_alloc (Below.refl w.heap.size w) (.cells #[.string cl, .string kd, .string f, .string t, .int .i64 off, .int .i64 sp, .int .i64 h, .slice A3 nr c3] 24)) (.cells #[.slice A1 n c1, .slice A2 m c2] 28))
  clear n8 p2
  go_enter Tryz.func5, Tryz.ntmps5
  obtain ⟨x0, x1, x2, x3, x4, x5, x6, x7⟩ := N0.out
  go_wp2_with fail
  (with_reducible refine (PC.out _ W0.out).mono ?_); rintro e w1 ⟨rfl, hb⟩
  have W1 := Lib.hid (b_next W0.out hb); have N1 := Lib.hid (Plan.n8_keep hb N0.out); have C1 := Lib.hid (p2v_keep hb C0.out); clear hb x0 x1 x2 x3 x4 x5 x6 x7
  obtain ⟨y0, y1⟩ := C1.out
  go_wp2_with fail
  (with_reducible refine (CK.out _ W1.out).mono ?_); rintro e w2 ⟨rfl, hb⟩
  have W2 := Lib.hid (b_next W1.out hb); clear hb y0 y1
  go_wp2_with fail
  refine bodyPost_ret (v := .tuple #[.slice none 0 0, .int .i64 E]) (by simp [results, Tryz.results5, go_sem]) rfl ⟨rfl, ?_⟩
  exact W2.out
/-- The items of a plan. -/
def its (f t : ByteArray) (R : List ByteArray) : List ByteArray := pre (fun k => if k = 0 then [f] else if k = 1 then R else [t]) 3
theorem its_len (f t : ByteArray) (R : List ByteArray) : (its f t R).length = R.length + 2 := by
  show ((([] ++ [f]) ++ R) ++ [t]).length = _
  simp only [List.length_append, List.length_singleton, List.length_nil]; omega
/-- A list of fixes, told by their names. -/
def FXV (n : Nat) (N : Nat → ByteArray) (X Y : Nat → Int) (w : World) (v : Value) (T : List ByteArray) : Prop := FV w v T.length (nth T) (fun j => X (pos n N (nth T j))) (fun j => Y (pos n N (nth T j)))
/-- What route.Expand answers. -/
def ExpPost (n : Nat) (N : Nat → ByteArray) (X Y : Nat → Int) (E : Int) (T : List ByteArray) (e : Ending) (w' : World) : Prop :=
  (E ≠ 0 ∧ e = .returned (.tuple #[.slice none 0 0, .int .i64 E])) ∨ (E = 0 ∧ ∃ v, e = .returned (.tuple #[v, .int .i64 0]) ∧ FXV n N X Y w' v T)
theorem post_err {n : Nat} {N : Nat → ByteArray} {X Y : Nat → Int} {E E' : Int} {T : List ByteArray} {w' : World} (h : E = E') (h0 : E' ≠ 0) : ExpPost n N X Y E T (.returned (.tuple #[.slice none 0 0, .int .i64 E'])) w' := by
  subst h; exact Or.inl ⟨h0, rfl⟩
theorem t3_new (w : World) (ty : TypeId) (a b c : Value) : T3 (w.alloc (.cells #[a, b, c] ty)) w.heap.size (fun k => if k = 0 then a else if k = 1 then b else c) := fun k hk => by
  rcases (show k = 0 ∨ k = 1 ∨ k = 2 by omega) with rfl | rfl | rfl <;> simp
theorem nms_step {m : Nat} {M : Nat → ByteArray} {l : Nat → Nat} {S : Nat → Nat → ByteArray} {I : Nat → ByteArray} {i : Nat} (h : 0 < i) : nms m M l S I i = nms m M l S I (i - 1) ++ seg m M l S I i := by
  obtain ⟨j, rfl⟩ : ∃ j, i = j + 1 := ⟨i - 1, by omega⟩
  rfl
theorem own_vs {W w1 : World} {base : Nat} {E : TypeId} {v : Value} {n : Nat} {xs : List Value} (hb : Below W.heap.size W w1) (h : W.ownsRow base E 1 v n xs) : w1.ownsRow base E 1 v n xs := by
  refine ⟨h.1, ?_⟩
  rcases h.2 with hh | ⟨g, cap, cur, hv, h1, hg, h2⟩
  · exact Or.inl hh
  · have hlt : g < W.heap.size := by
      rcases Nat.lt_or_ge g W.heap.size with hl | hl
      · exact hl
      · rw [Array.getElem?_eq_none hl] at hg; cases hg
    exact Or.inr ⟨g, cap, cur, hv, h1, (hb.block g hlt).trans hg, h2⟩
theorem own_one (w : World) (base : Nat) (s : ByteArray) (ty : TypeId) (h : base ≤ w.heap.size) : (w.alloc (.cells #[.string s] ty)).ownsRow base ty 1 (.slice (some ⟨w.heap.size, 0, none⟩) 1 1) [s].length (vs [s]) :=
  ⟨rfl, Or.inr ⟨w.heap.size, 1, #[.string s], rfl, h, heap_alloc_new w _, Nat.le_refl _, by decide, rfl, rfl⟩⟩
/-- What lies behind the first one. -/
theorem sl_tail {w : World} {b o L c : Nat} {T : Nat → ByteArray} (h : SV w (.slice (some ⟨b, o, none⟩) L c) L T) (h0 : 0 < L) : SL w (.slice (some ⟨b, o + 1, none⟩) (L - 1) (c - 1)) ((List.range (L - 1)).map fun t => T (t + 1)) := by
  obtain ⟨b', o', c', e, h1, h2, h3⟩ := sv_at h h0
  injection e with e1 _ e3
  injection e1 with e1
  injection e1 with e1 e2
  subst e1 e2 e3
  show SV _ _ _ _
  rw [List.length_map, List.length_range]
  rcases Nat.eq_zero_or_pos (L - 1) with hz | hz
  · exact Or.inl ⟨hz, Or.inr ⟨_, _, by rw [hz], by omega⟩⟩
  · refine Or.inr ⟨hz, b, o + 1, c - 1, rfl, by omega, by omega, fun k hk => ?_⟩
    have hc := h3 (k + 1) (by omega)
    rw [show o + 1 + k = o + (k + 1) by omega, hc]
    show some (Value.string (T (k + 1))) = some (.string (((List.range (L - 1)).map fun t => T (t + 1)).getD k ⟨#[]⟩))
    rw [List.getD_eq_getElem?_getD, List.getElem?_map, List.getElem?_range hk]
    rfl
theorem sl_empty (w : World) (a : Addr) (c : Nat) (h : c ≤ maxLen) : SL w (.slice (some a) 0 c) [] := Or.inl ⟨rfl, Or.inr ⟨a, c, rfl, h⟩⟩
section
variable {n : Nat} {N : Nat → ByteArray} {X Y : Nat → Int} {m : Nat} {M : Nat → ByteArray} {l : Nat → Nat} {S : Nat → Nat → ByteArray} {I : Nat → ByteArray}
theorem bet_cases {i : Nat} {qv : Value} {w : World} (hE : cerr n N X Y m M l S = 0) (ha : aw m M (I i) = true) (h : betP n N X Y m M l S (I i) (I (i - 1)) (I (i + 1)) qv w) :
    ((ia m M l S I i < 0 ∨ ib m M l S I i < 0) ∧ qv = .tuple #[.slice none 0 0, .int .i64 6]) ∨
    (¬ (ia m M l S I i < 0 ∨ ib m M l S I i < 0) ∧ ∃ v, qv = .tuple #[v, .int .i64 0] ∧ SV w v (max (ia m M l S I i).toNat (ib m M l S I i).toNat + 1 - min (ia m M l S I i).toNat (ib m M l S I i).toNat) (way (S (ak m M I i)) (ia m M l S I i).toNat (ib m M l S I i).toNat)) := by
  obtain ⟨h1, h2, h3⟩ := aw_some ha
  unfold betP at h
  rw [if_neg (fun e => e hE), if_neg (by omega)] at h
  obtain ⟨k, hk, hkm, h⟩ := h
  have e : k = ak m M I i := by unfold ak; omega
  subst e
  by_cases hn : ia m M l S I i < 0 ∨ ib m M l S I i < 0
  · refine Or.inl ⟨hn, ?_⟩
    rw [if_pos (show fix (S (ak m M I i)) (I (i - 1)) (l (ak m M I i)) < 0 ∨ fix (S (ak m M I i)) (I (i + 1)) (l (ak m M I i)) < 0 from hn)] at h
    exact h
  · refine Or.inr ⟨hn, ?_⟩
    rw [if_neg (show ¬ (fix (S (ak m M I i)) (I (i - 1)) (l (ak m M I i)) < 0 ∨ fix (S (ak m M I i)) (I (i + 1)) (l (ak m M I i)) < 0) from hn)] at h
    obtain ⟨a, b, e1, e2, v, e3, e4⟩ := h
    have e1' : (ia m M l S I i).toNat = a := by show (fix (S (ak m M I i)) (I (i - 1)) (l (ak m M I i))).toNat = a; rw [e1]; exact Int.toNat_natCast a
    have e2' : (ib m M l S I i).toNat = b := by show (fix (S (ak m M I i)) (I (i + 1)) (l (ak m M I i))).toNat = b; rw [e2]; exact Int.toNat_natCast b
    rw [e1', e2']
    exact ⟨v, e3, e4⟩
end
/-- The cells of a fix. -/
def fxc (n : Nat) (N : Nat → ByteArray) (X Y : Nat → Int) (T : List ByteArray) (i j : Nat) : Value := if j = 0 then .string (nth T i) else if j = 1 then .int .i64 (X (pos n N (nth T i))) else .int .i64 (Y (pos n N (nth T i)))
theorem fxc_one {n : Nat} {N : Nat → ByteArray} {X Y : Nat → Int} {T : List ByteArray} (i j : Nat) : (fxc n N X Y T i j).oneCell' = true := by
  unfold fxc; split
  · rfl
  · split <;> rfl
theorem fxc_next {n : Nat} {N : Nat → ByteArray} {X Y : Nat → Int} {T : List ByteArray} (k : Nat) : rowG 3 (fxc n N X Y T) k ++ [.string (nth T k), .int .i64 (X (pos n N (nth T k))), .int .i64 (Y (pos n N (nth T k)))] = rowG 3 (fxc n N X Y T) (k + 1) := rfl
theorem fxv_own {w : World} {base : Nat} {E : TypeId} {v : Value} {n : Nat} {N : Nat → ByteArray} {X Y : Nat → Int} {T : List ByteArray} (h : OwnG w base E 3 v T.length (fxc n N X Y T)) (h0 : 0 < T.length) : FXV n N X Y w v T := by
  obtain ⟨g, cap, rfl, -, -, h1, h2, hr⟩ := ownG_row h h0
  exact Or.inr ⟨h0, g, 0, cap, rfl, h1, h2, fun k hk => ⟨by rw [Nat.zero_add]; exact hr.cell k hk 0 (by decide), by rw [Nat.zero_add]; exact hr.cell k hk 1 (by decide), by rw [Nat.zero_add]; exact hr.cell k hk 2 (by decide)⟩⟩
theorem info_fix : (Tryz.prog.info? 38).map (fun i => (i.zero, i.size, i.bytes)) = some (some (.agg #[.string ⟨#[]⟩, .int .i64 0, .int .i64 0]), 3, 32) := by kernel_rfl
theorem new3 (w : World) (ty : TypeId) (a b c : Value) : ∀ j u, ([a, b, c] : List Value)[j]? = some u → (w.alloc (.cells #[a, b, c] ty)).cell? ((⟨w.heap.size, 0, none⟩ : Addr).add j) = some u := fun j u hu => by
  rw [Go.WideShapes.add_plain]
  have hj : j < 3 := (List.getElem?_eq_some_iff.1 hu).1
  rcases (show j = 0 ∨ j = 1 ∨ j = 2 by omega) with rfl | rfl | rfl <;> simpa using hu
theorem sl_one (w : World) (s : ByteArray) (ty : TypeId) : SL (w.alloc (.cells #[.string s] ty)) (.slice (some ⟨w.heap.size, 0, none⟩) 1 1) [s] :=
  Or.inr ⟨Nat.one_pos, w.heap.size, 0, 1, rfl, Nat.le_refl _, by decide, fun k hk => by
    have e : k = 0 := by have : k < 1 := hk; omega
    subst e; simp⟩
set_option maxRecDepth 100000 in
set_option maxHeartbeats 8000000 in
theorem exp_w (cl kd f t : ByteArray) (off sp h : Int) (A1 A2 A3 : Option Addr) (n c1 m c2 nr c3 : Nat) (N : Nat → ByteArray) (X Y : Nat → Int) (M : Nat → ByteArray) (l : Nat → Nat) (S : Nat → Nat → ByteArray) (R : List ByteArray) (I : Nat → ByteArray) (q : Nat) (E : Int) (T : List ByteArray) (w : World) (hE : cerr n N X Y m M l S = 0) (hnr : R.length = nr) (h24 : nr ≤ 24) (PC : Hid (∀ w1, Below w.heap.size w w1 → Calls Tryz.prog 13 #[Plan.plan cl kd f t off sp h (.slice A3 nr c3)] w1 fun e w' => e = .returned (.int .i64 0) ∧ Below w1.heap.size w1 w')) (CK : Hid (∀ w1, Below w.heap.size w w1 → Calls Tryz.prog 14 #[.agg #[.slice A1 n c1, .slice A2 m c2]] w1 fun e w' => e = .returned (.int .i64 0) ∧ Below w1.heap.size w1 w')) (HR : Hid (SL w (.slice A3 nr c3) R)) (HA : Hid (AV w (.slice A2 m c2) m M l S)) (HC : Hid (CV w (.agg #[.slice A1 n c1, .slice A2 m c2]) n N X Y m M l S))
    (HI : Hid (I = nth (its f t R))) (HQ : Hid (q = (its f t R).length)) (HE : Hid (E = expE n N X Y m M l S q I)) (HT : Hid (T = nms m M l S I (q - 1))) :
    Calls Tryz.prog 5 #[Plan.plan cl kd f t off sp h (.slice A3 nr c3), .agg #[.slice A1 n c1, .slice A2 m c2]] w fun e w' => ExpPost n N X Y E T e w' ∧ Below w.heap.size w w' := by
  have hq2 : 2 ≤ q ∧ q ≤ 26 := by rw [HQ.out, its_len]; omega
  have HCE := Lib.hid hE; clear hE
  have n8 := Plan.n8_new w 24 cl kd f t off sp h (.slice A3 nr c3)
  have N0 : Hid (Plan.N8 ((w.alloc (.cells #[.string cl, .string kd, .string f, .string t, .int .i64 off, .int .i64 sp, .int .i64 h, .slice A3 nr c3] 24)).alloc (.cells #[.slice A1 n c1, .slice A2 m c2] 28)) w.heap.size cl kd f t off sp h (.slice A3 nr c3)) := Lib.hid (Plan.n8_keep (b_alloc (Below.refl _ _) _) n8)
  have p2 := p2v_new (w.alloc (.cells #[.string cl, .string kd, .string f, .string t, .int .i64 off, .int .i64 sp, .int .i64 h, .slice A3 nr c3] 24)) 28 (.slice A1 n c1) (.slice A2 m c2)
  rw [World.size_alloc] at p2
  have C0 := Lib.hid p2
  have W0 := Lib.hid (b_alloc (b_alloc (Below.refl w.heap.size w) (.cells #[.string cl, .string kd, .string f, .string t, .int .i64 off, .int .i64 sp, .int .i64 h, .slice A3 nr c3] 24)) (.cells #[.slice A1 n c1, .slice A2 m c2] 28))
  clear n8 p2
  go_enter Tryz.func5, Tryz.ntmps5
  obtain ⟨x0, x1, x2, x3, x4, x5, x6, x7⟩ := N0.out
  go_wp2_with fail
  (with_reducible refine (PC.out _ W0.out).mono ?_); rintro e w1 ⟨rfl, hb⟩
  have W1 := Lib.hid (b_next W0.out hb); have N1 := Lib.hid (Plan.n8_keep hb N0.out); have C1 := Lib.hid (p2v_keep hb C0.out); clear hb x0 x1 x2 x3 x4 x5 x6 x7
  obtain ⟨y0, y1⟩ := C1.out
  go_wp2_with fail
  (with_reducible refine (CK.out _ W1.out).mono ?_); rintro e w2 ⟨rfl, hb⟩
  have W2 := Lib.hid (b_next W1.out hb); have N2 := Lib.hid (Plan.n8_keep hb N1.out); have C2 := Lib.hid (p2v_keep hb C1.out); clear hb y0 y1
  obtain ⟨x0, x1, x2, x3, x4, x5, x6, x7⟩ := N2.out
  have nn := new_ne x0
  obtain ⟨w3, hw3⟩ : ∃ w3, w3 = ((w2.alloc (.cells #[.string f] 9)).alloc (.cells #[.string t] 9)).alloc (.cells #[.slice (some ⟨w2.heap.size, 0, none⟩) 1 1, .slice A3 nr c3, .slice (some ⟨w2.heap.size + 1, 0, none⟩) 1 1] 22) := ⟨_, rfl⟩
  have W3' : Hid (Below w2.heap.size w2 w3) := Lib.hid (by rw [hw3]; exact b_alloc (b_alloc (b_alloc (Below.refl _ _) _) _) _)
  have T3' : Hid (T3 w3 (w2.heap.size + 1 + 1) (fun k => if k = 0 then .slice (some ⟨w2.heap.size, 0, none⟩) 1 1 else if k = 1 then .slice A3 nr c3 else .slice (some ⟨w2.heap.size + 1, 0, none⟩) 1 1)) := Lib.hid (by
    rw [hw3]
    have q := t3_new ((w2.alloc (.cells #[.string f] 9)).alloc (.cells #[.string t] 9)) 22 (.slice (some ⟨w2.heap.size, 0, none⟩) 1 1) (.slice A3 nr c3) (.slice (some ⟨w2.heap.size + 1, 0, none⟩) 1 1)
    rw [World.size_alloc, World.size_alloc] at q
    exact q)
  have S3' : Hid (∀ k, k < 3 → SL w3 ((fun k => if k = 0 then .slice (some ⟨w2.heap.size, 0, none⟩) 1 1 else if k = 1 then .slice A3 nr c3 else .slice (some ⟨w2.heap.size + 1, 0, none⟩) 1 1 : Nat → Value) k) ((fun k => if k = 0 then [f] else if k = 1 then R else [t] : Nat → List ByteArray) k)) := Lib.hid (fun k hk => by
    have a0 := sl_one w2 f 9
    have a1 := sl_one (w2.alloc (.cells #[.string f] 9)) t 9
    rw [World.size_alloc] at a1
    rcases (show k = 0 ∨ k = 1 ∨ k = 2 by omega) with rfl | rfl | rfl
    · rw [hw3]; exact sl_keep (b_alloc (b_alloc (Below.refl _ _) _) _) a0
    · exact sl_keep (b_next W2.out W3'.out) HR.out
    · rw [hw3]; exact sl_keep (b_alloc (Below.refl _ _) _) a1)
  have CAT' := Lib.hid (concat_w (w2.heap.size + 1 + 1) _ _ w3 T3' S3' (Lib.hid fun k => by
    show (if k = 0 then [f] else if k = 1 then R else [t]).length ≤ 1000
    split
    · simp
    · split
      · omega
      · simp) Nat.one_pos)
  have H3 : Hid (((w2.alloc (.cells #[.string f] 9)).alloc (.cells #[.string t] 9)).alloc (.cells #[.slice (some ⟨w2.heap.size, 0, none⟩) 1 1, .slice A3 nr c3, .slice (some ⟨w2.heap.size + 1, 0, none⟩) 1 1] 22) = w3) := Lib.hid hw3.symm
  clear hw3 T3' S3'
  go_wp2_with fail
  rw [H3.out]
  (with_reducible refine CAT'.out.mono ?_); rintro e w4 ⟨⟨v4, rfl, hsl⟩, hb⟩
  have W4 := Lib.hid (b_next W2.out (b_next W3'.out hb)); have C4 := Lib.hid (p2v_keep (b_next W3'.out hb) C2.out)
  have hsv : SV w4 v4 q I := by
    have e : SV w4 v4 (its f t R).length (nth (its f t R)) := hsl
    rw [← HI.out, ← HQ.out] at e; exact e
  obtain ⟨ib', io, ic, rfl, hic1, hic2, hcell⟩ := sv_at hsv (by omega)
  have ic3 : ic ≤ 9223372036854775807 := Nat.le_trans hic2 (by decide)
  obtain ⟨w5, hw5⟩ : ∃ w5, w5 = w4.alloc (.cells #[.slice (some ⟨ib', io, none⟩) q ic] 22) := ⟨_, rfl⟩
  have W45 : Below w4.heap.size w4 w5 := by rw [hw5]; exact b_alloc (Below.refl _ _) _
  have W5 := Lib.hid (b_next W4.out W45)
  have C5 := Lib.hid (p2v_keep W45 C4.out)
  have V5 : Hid (w5.cell? ⟨w4.heap.size, 0, none⟩ = some (.slice (some ⟨ib', io, none⟩) q ic)) := Lib.hid (by rw [hw5]; simp)
  have S5 := Lib.hid (sv_keep W45 hsv)
  have I5 : Hid (∀ k, k < q → w5.cell? ⟨ib', io + k, none⟩ = some (.string (I k))) := Lib.hid fun k hk => keep W45 (hcell k hk)
  have H5 : Hid (w4.alloc (.cells #[.slice (some ⟨ib', io, none⟩) q ic] 22) = w5) := Lib.hid hw5.symm
  have FND := Lib.hid (findC (cv_keep W5.out HC.out) HCE.out)
  have AIR := Lib.hid (fun i (hi : i < q) => airC (q := q) (I := I) (av_keep W5.out HA.out) S5.out C5.out V5.out hi)
  have BET := Lib.hid (fun a s t w1 (hb : Below w5.heap.size w5 w1) => betweenC (cv_keep (b_next W5.out hb) HC.out) a s t)
  have HB4 := Lib.hid hb; have HB5 := Lib.hid W45
  obtain ⟨i0, hi, hz0, hz1, hz2⟩ := info_parts info_str
  have IN := Lib.hid (And.intro hi (And.intro hz0 (And.intro hz1 hz2))); clear hi hz0 hz1 hz2
  clear hw5 W45 hsv hcell hb hsl x0 x1 x2 x3 x4 x5 x6 x7
  go_wp2_with fail
  rw [H5.out]
  obtain ⟨v0⟩ := And.intro V5.out trivial
  go_wp2_with fail
  go_loopw [47] (fun s wr => ∃ k : Nat, k ≤ q ∧ s = .int .i64 k ∧ (∀ j, j < k → ierr n N m M q I j = 0) ∧ Below w5.heap.size w5 wr) (fun s _ => q - (intOf s).toNat)
  case atStart => exact ⟨0, Nat.zero_le _, rfl, fun j hj => absurd hj (Nat.not_lt_zero j), Below.refl _ _⟩
  case round =>
    obtain ⟨k, hk, rfl, hno, hbl⟩ := hrel
    have HN := Lib.hid hno; have WR := Lib.hid hbl; clear hno v0
    by_cases hlt : k < q
    · have hl : (k : Int) < (q : Int) := by omega
      have k0 := keep hbl (I5.out k hlt)
      obtain ⟨y0, y1⟩ := p2v_keep hbl C5.out
      have F := Lib.hid (FND.out (I k) wr hbl)
      have A := Lib.hid (AIR.out k hlt)
      have BAD : Hid (ierr n N m M q I k ≠ 0 → E = 6) := Lib.hid fun h => by
        rw [HE.out]; unfold expE
        have : ferr (ierr n N m M q I) q = ierr n N m M q I k := ferr_at HN.out h hlt
        rw [this, if_pos h]
      have GO : Hid (ierr n N m M q I k = 0 → ∀ j, j < k + 1 → ierr n N m M q I j = 0) := Lib.hid fun h j hj => by
        rcases Nat.lt_or_ge j k with hl | hl
        · exact HN.out j hl
        · rw [show j = k from by omega]; exact h
      by_cases hf : fix N (I k) n < 0
      · have hF : fndV n N X Y (I k) = .tuple #[.agg #[.string ⟨#[]⟩, .int .i64 0, .int .i64 0], .int .i64 6] := by unfold fndV; rw [if_pos hf]
        rw [hF] at F
        clear hF hbl
        by_cases hk0 : k = 0
        · have e := BAD.out (by unfold ierr; rw [if_pos ⟨hf, Or.inl hk0⟩]; decide)
          have HE6 := Lib.hid e; clear e BAD GO A
          subst hk0
          rw [Nat.add_zero] at k0
          go_wp2_with fail
          (with_reducible refine F.out.mono ?_); rintro e w6 ⟨rfl, hb⟩
          have W6 := Lib.hid (b_next WR.out hb); clear hb y0 y1 k0
          go_wp2_with fail
          refine bodyPost_ret (v := .tuple #[.slice none 0 0, .int .i64 6]) (by simp [results, Tryz.results5, go_sem]) rfl ⟨post_err HE6.out (by decide), ?_⟩
          exact b_alloc (b_next W5.out W6.out) _
        · have z0 : ((k : Int) == 0) = false := by simp; omega
          by_cases hkq : k + 1 = q
          · have e := BAD.out (by unfold ierr; rw [if_pos ⟨hf, Or.inr (Or.inl hkq)⟩]; decide)
            have HE6 := Lib.hid e; clear e BAD GO A
            have z1 : ((k : Int) == (q : Int) - 1) = true := by simp; omega
            go_wp2_with fail
            (with_reducible refine F.out.mono ?_); rintro e w6 ⟨rfl, hb⟩
            have W6 := Lib.hid (b_next WR.out hb); have v6 := keep (b_next WR.out hb) V5.out; have nn6 := new_ne v6; clear hb y0 y1 k0
            go_wp2_with fail
            refine bodyPost_ret (v := .tuple #[.slice none 0 0, .int .i64 6]) (by simp [results, Tryz.results5, go_sem]) rfl ⟨post_err HE6.out (by decide), ?_⟩
            exact b_alloc (b_next W5.out W6.out) _
          · have z1 : ((k : Int) == (q : Int) - 1) = false := by simp; omega
            go_wp2_with fail
            (with_reducible refine F.out.mono ?_); rintro e w6 ⟨rfl, hb⟩
            have W6 := Lib.hid (b_next WR.out hb); have v6 := keep (b_next WR.out hb) V5.out; have nn6 := new_ne v6; clear hb y0 y1 k0
            have A6 := Lib.hid (A.out _ (b_alloc W6.out (.cells #[.string ⟨#[]⟩, .int .i64 0, .int .i64 0] 38)))
            cases ha : aw m M (I k) with
            | false =>
              have e := BAD.out (by unfold ierr; rw [if_pos ⟨hf, Or.inr (Or.inr ha)⟩]; decide)
              rw [ha] at A6
              have HE6 := Lib.hid e; clear e BAD GO A ha
              go_wp2_with fail
              (with_reducible refine A6.out.mono ?_); rintro e w7 ⟨rfl, hb⟩
              have W7 := Lib.hid (b_next (b_alloc W6.out (.cells #[.string ⟨#[]⟩, .int .i64 0, .int .i64 0] 38)) hb); clear hb
              go_wp2_with fail
              refine bodyPost_ret (v := .tuple #[.slice none 0 0, .int .i64 6]) (by simp [results, Tryz.results5, go_sem]) rfl ⟨post_err HE6.out (by decide), ?_⟩
              exact b_next W5.out W7.out
            | true =>
              have e := GO.out (by unfold ierr; rw [if_neg (by rintro ⟨-, h | h | h⟩; exact hk0 h; exact hkq h; rw [ha] at h; cases h)])
              rw [ha] at A6
              have HN' := Lib.hid e; clear e BAD GO A ha
              go_wp2_with fail
              (with_reducible refine A6.out.mono ?_); rintro e w7 ⟨rfl, hb⟩
              have W7 := Lib.hid (b_next (b_alloc W6.out (.cells #[.string ⟨#[]⟩, .int .i64 0, .int .i64 0] 38)) hb); clear hb
              go_wp2_with fail
              go_roundw
              case rel => exact ⟨k + 1, by omega, by go_num, HN'.out, W7.out⟩
              case measure => simp [intOf]; omega
      · have hF : fndV n N X Y (I k) = .tuple #[.agg #[.string (I k), .int .i64 (X (pos n N (I k))), .int .i64 (Y (pos n N (I k)))], .int .i64 0] := by unfold fndV; rw [if_neg hf]
        rw [hF] at F
        have e := GO.out (by unfold ierr; rw [if_neg (fun h => hf h.1)])
        have HN' := Lib.hid e; clear e BAD GO A hF hbl
        go_wp2_with fail
        (with_reducible refine F.out.mono ?_); rintro e w6 ⟨rfl, hb⟩
        have W6 := Lib.hid (b_alloc (b_next WR.out hb) (.cells #[.string (I k), .int .i64 (X (pos n N (I k))), .int .i64 (Y (pos n N (I k)))] 38)); clear hb y0 y1 k0
        go_wp2_with fail
        go_roundw
        case rel => exact ⟨k + 1, by omega, by go_num, HN'.out, W6.out⟩
        case measure => simp [intOf]; omega
    · have hkq : k = q := by omega
      have IE : Hid (ferr (ierr n N m M q I) q = 0) := Lib.hid (ferr_zero fun j hj => HN.out j (by omega))
      clear HN
      subst hkq
      clear hbl
      go_wp2_with fail
      go_loopw [14] (fun s wr => ∃ i : Nat, 1 ≤ i ∧ i ≤ k ∧ s = .int .i64 i ∧ (∀ j, j < i → cser m M I j = 0) ∧ Below w5.heap.size w5 wr) (fun s _ => k - (intOf s).toNat)
      case atStart => exact ⟨1, Nat.le_refl _, by omega, rfl, fun j hj => by unfold cser; rw [if_neg (by omega)], WR.out⟩
      case round =>
        obtain ⟨i, hi0, hi, rfl, hno, hbl⟩ := hrel
        have HN := Lib.hid hno; have WR := Lib.hid hbl; clear hno
        have vv := keep hbl V5.out
        clear hbl
        by_cases hlt : i < k
        · have hl : (i : Int) < (k : Int) := by omega
          have BAD : Hid (cser m M I i ≠ 0 → E = 3) := Lib.hid fun h => by
            rw [HE.out]; unfold expE
            have : ferr (cser m M I) k = cser m M I i := ferr_at HN.out h hlt
            rw [if_neg (fun e => e IE.out), this, if_pos h]
          have GO : Hid (cser m M I i = 0 → ∀ j, j < i + 1 → cser m M I j = 0) := Lib.hid fun h j hj => by
            rcases Nat.lt_or_ge j i with hl | hl
            · exact HN.out j hl
            · rw [show j = i from by omega]; exact h
          have A := Lib.hid (AIR.out i hlt _ WR.out)
          cases ha : aw m M (I i) with
          | false =>
            have e := GO.out (by unfold cser; rw [if_neg (by rw [ha]; rintro ⟨-, h, -⟩; cases h)])
            rw [ha] at A
            have HN' := Lib.hid e; clear e BAD GO ha
            go_wp2_with fail
            (with_reducible refine A.out.mono ?_); rintro e w7 ⟨rfl, hb⟩
            have W7 := Lib.hid (b_next WR.out hb); clear hb vv
            go_wp2_with fail
            go_roundw
            case rel => exact ⟨i + 1, by omega, by omega, by go_num, HN'.out, W7.out⟩
            case measure => simp [intOf]; omega
          | true =>
            rw [ha] at A
            have B' := fun w1 (hb : Below w5.heap.size w5 w1) => AIR.out (i - 1) (by omega) w1 hb
            rw [show (((i - 1 : Nat) : Int)) = (i : Int) - 1 from by omega] at B'
            have B := Lib.hid B'; clear B'
            cases hb' : aw m M (I (i - 1)) with
            | false =>
              have e := GO.out (by unfold cser; rw [if_neg (by rw [hb']; rintro ⟨-, -, h⟩; cases h)])
              rw [hb'] at B
              have HN' := Lib.hid e; clear e BAD GO ha hb'
              go_wp2_with fail
              (with_reducible refine A.out.mono ?_); rintro e w7 ⟨rfl, hb⟩
              have W7 := Lib.hid (b_next WR.out hb); clear hb vv
              go_wp2_with fail
              (with_reducible refine (B.out _ W7.out).mono ?_); rintro e w8 ⟨rfl, hb⟩
              have W8 := Lib.hid (b_next W7.out hb); clear hb
              go_wp2_with fail
              go_roundw
              case rel => exact ⟨i + 1, by omega, by omega, by go_num, HN'.out, W8.out⟩
              case measure => simp [intOf]; omega
            | true =>
              have e := BAD.out (by unfold cser; rw [if_pos ⟨by omega, ha, hb'⟩]; decide)
              rw [hb'] at B
              have HE3 := Lib.hid e; clear e BAD GO ha hb'
              go_wp2_with fail
              (with_reducible refine A.out.mono ?_); rintro e w7 ⟨rfl, hb⟩
              have W7 := Lib.hid (b_next WR.out hb); clear hb vv
              go_wp2_with fail
              (with_reducible refine (B.out _ W7.out).mono ?_); rintro e w8 ⟨rfl, hb⟩
              have W8 := Lib.hid (b_next W7.out hb); clear hb
              go_wp2_with fail
              refine bodyPost_ret (v := .tuple #[.slice none 0 0, .int .i64 3]) (by simp [results, Tryz.results5, go_sem]) rfl ⟨post_err HE3.out (by decide), ?_⟩
              exact b_next W5.out W8.out
        · have hik : i = k := by omega
          have CE : Hid (ferr (cser m M I) k = 0) := Lib.hid (ferr_zero fun j hj => HN.out j (by omega))
          clear HN
          subst hik
          obtain ⟨x0, x1, x2, x3, x4, x5, x6, x7⟩ := Plan.n8_keep (b_next (b_next W3'.out (b_next HB4.out HB5.out)) WR.out) N2.out
          have hI0 : I 0 = f := by rw [HI.out]; rfl
          have O1 : Hid ((wr.alloc (.cells #[.string f] 9)).ownsRow w5.heap.size 9 1 (.slice (some ⟨wr.heap.size, 0, none⟩) 1 1) (nms m M l S I 0).length (vs (nms m M l S I 0))) := Lib.hid (by
            have := own_one wr w5.heap.size f 9 WR.out.size
            show (wr.alloc _).ownsRow _ _ _ _ [I 0].length (vs [I 0])
            rw [hI0]; exact this)
          have WO := Lib.hid (b_alloc WR.out (.cells #[.string f] 9))
          clear hI0
          go_wp2_with fail
          clear x0 x1 x2 x3 x4 x5 x6 x7
          go_loopw [15, 16] (fun v s wr => ∃ k : Nat, 1 ≤ k ∧ k ≤ i ∧ s = .int .i64 k ∧ (∀ j, j < k → serr m M l S I j = 0) ∧ wr.ownsRow w5.heap.size 9 1 v (nms m M l S I (k - 1)).length (vs (nms m M l S I (k - 1))) ∧ Below w5.heap.size w5 wr) (fun _ s _ => i - (intOf s).toNat)
          case atStart => exact ⟨1, Nat.le_refl _, by omega, rfl, fun j hj => by unfold serr; rw [if_neg (by omega)], O1.out, WO.out⟩
          case round =>
            obtain ⟨k, hk0, hk, rfl, hno, hown, hbl⟩ := hrel
            have HN := Lib.hid hno; have WR := Lib.hid hbl; have OW := Lib.hid hown; clear hno hown O1 WO
            have vv := keep hbl V5.out
            by_cases hlt : k < i
            · have hl : (k : Int) < (i : Int) := by omega
              have k0 := Lib.hid (keep hbl (I5.out k hlt))
              have kp := keep hbl (I5.out (k - 1) (by omega))
              obtain ⟨y0, y1⟩ := p2v_keep hbl C5.out
              have A := Lib.hid (AIR.out k hlt _ WR.out)
              have B' := fun w1 (hb : Below w5.heap.size w5 w1) => AIR.out (k - 1) (by omega) w1 hb
              have ek : (((k - 1 : Nat) : Int)) = (k : Int) - 1 := by omega
              rw [ek] at B'
              have B := Lib.hid B'; clear B' ek
              have hln := nms_len (I := I) HCE.out (k - 1)
              have BAD : Hid (serr m M l S I k ≠ 0 → E = 6) := Lib.hid fun h => by
                rw [HE.out]; unfold expE
                have : ferr (serr m M l S I) i = serr m M l S I k := ferr_at HN.out h hlt
                rw [if_neg (fun e => e IE.out), if_neg (fun e => e CE.out), this, if_pos h]
              have GO : Hid (serr m M l S I k = 0 → ∀ j, j < k + 1 → serr m M l S I j = 0) := Lib.hid fun h j hj => by
                rcases Nat.lt_or_ge j k with hl | hl
                · exact HN.out j hl
                · rw [show j = k from by omega]; exact h
              have NX : Hid (nms m M l S I k = nms m M l S I (k - 1) ++ seg m M l S I k) := Lib.hid (nms_step (by omega))
              have hsg := seg_len (I := I) HCE.out k
              clear hbl
              cases ha : aw m M (I k) with
              | true =>
                rw [ha] at A
                have hend : k + 1 < i := by
                  have h1 := (ierr_ok (ferr_inv IE.out k hlt) (aw_nofix HCE.out ha)).2.1
                  omega
                have kn := Lib.hid (keep WR.out (I5.out (k + 1) hend))
                have HAW := Lib.hid ha; clear ha
                obtain ⟨P, hP⟩ : ∃ P, P = k - 1 := ⟨_, rfl⟩
                obtain ⟨J, hJ⟩ : ∃ J, J = k + 1 := ⟨_, rfl⟩
                go_wp2_with fail
                (with_reducible refine A.out.mono ?_); rintro e w7 ⟨rfl, hb⟩
                have W7 := Lib.hid (b_next WR.out hb); have O7 := Lib.hid (own_vs hb OW.out)
                have Y7 := Lib.hid (p2v_keep hb ⟨y0, y1⟩); have V7 := Lib.hid (keep hb vv)
                have z0 := keep hb k0.out
                have z1 : w7.cell? ⟨ib', io + P, none⟩ = some (.string (I (k - 1))) := by rw [hP]; exact keep hb kp
                have z2 : w7.cell? ⟨ib', io + J, none⟩ = some (.string (I (k + 1))) := by rw [hJ]; exact keep hb kn.out
                have Z7 := Lib.hid (And.intro z0 (And.intro z1 z2)); clear hb vv y0 y1 z0 z1 z2 kp
                have BT := Lib.hid (fun w1 (hb : Below w7.heap.size w7 w1) => BET.out (I k) (I (k - 1)) (I (k + 1)) w1 (b_next W7.out hb))
                have u1 : IntKind.i64.wrap ((k : Int) - 1) = (P : Int) := by rw [IntWalk.i64_in _ (by omega)]; omega
                have u2 : IntKind.i64.wrap ((k : Int) + 1) = (J : Int) := by rw [IntWalk.i64_in _ (by omega)]; omega
                have bP : (P : Int) < (i : Int) := by omega
                have bJ : (J : Int) < (i : Int) := by omega
                have U := Lib.hid (And.intro u1 u2); clear u1 u2
                have HPJ := Lib.hid (And.intro hP hJ); clear hP hJ
                by_cases hn : ia m M l S I k < 0 ∨ ib m M l S I k < 0
                · have BT1 := Lib.hid (fun w1 (hb : Below w7.heap.size w7 w1) => (BT.out w1 hb).mono (fun e w' (h : (∃ qv, e = .returned qv ∧ betP n N X Y m M l S (I k) (I (k - 1)) (I (k + 1)) qv w') ∧ Below w1.heap.size w1 w') => (by
                    obtain ⟨⟨qv, h1, h2⟩, h3⟩ := h
                    rcases bet_cases HCE.out HAW.out h2 with ⟨-, rfl⟩ | ⟨h4, -⟩
                    · exact ⟨h1, h3⟩
                    · exact absurd hn h4 : e = .returned (.tuple #[.slice none 0 0, .int .i64 6]) ∧ Below w1.heap.size w1 w')))
                  have e := BAD.out (by unfold serr; rw [if_pos ⟨by omega, HAW.out, hn⟩]; decide)
                  have HE6 := Lib.hid e; clear e BAD GO BT hn
                  go_wp2_with fail
                  obtain ⟨u1, u2⟩ := U.out
                  go_region_held3 (fun w' => w'.cell? ⟨w.heap.size + 1, 0, none⟩ = some (.slice A1 n c1) ∧ w'.cell? ⟨w.heap.size + 1, 1, none⟩ = some (.slice A2 m c2) ∧ w'.cell? ⟨w4.heap.size, 0, none⟩ = some (.slice (some ⟨ib', io, none⟩) i ic) ∧ w'.cell? ⟨ib', io + k, none⟩ = some (.string (I k)) ∧ w'.cell? ⟨ib', io + P, none⟩ = some (.string (I (k - 1))) ∧ w'.cell? ⟨ib', io + J, none⟩ = some (.string (I (k + 1))) ∧ Below w7.heap.size w7 w')
                    (first
                      | exact ⟨Y7.out.1, Y7.out.2, V7.out, Z7.out.1, Z7.out.2.1, Z7.out.2.2, (Below.refl _ _).drew⟩
                      | exact ⟨keep hb9 Y7.out.1, keep hb9 Y7.out.2, keep hb9 V7.out, keep hb9 Z7.out.1, keep hb9 Z7.out.2.1, keep hb9 Z7.out.2.2, hb9⟩
                      | assumption)
                    ((first
                      | (go_at_call 20; refine (BT1.out _ (b_drew (Below.refl _ _))).mono ?_; rintro e w9 ⟨rfl, hb9'⟩; have hb9 := b_next (b_drew (Below.refl w7.heap.size w7)) hb9'; clear hb9')))
                  clear u1 u2
                  go_wp2_with fail
                  refine bodyPost_ret (v := .tuple #[.slice none 0 0, .int .i64 6]) (by simp [results, Tryz.results5, go_sem]) rfl ⟨post_err HE6.out (by decide), ?_⟩
                  exact b_next W5.out (b_next W7.out hb9)
                · have BT2 := Lib.hid (fun w1 (hb : Below w7.heap.size w7 w1) => (BT.out w1 hb).mono (fun e w' (h : (∃ qv, e = .returned qv ∧ betP n N X Y m M l S (I k) (I (k - 1)) (I (k + 1)) qv w') ∧ Below w1.heap.size w1 w') => (by
                    obtain ⟨⟨qv, h1, h2⟩, h3⟩ := h
                    rcases bet_cases HCE.out HAW.out h2 with ⟨h4, -⟩ | ⟨-, v, rfl, h5⟩
                    · exact absurd h4 hn
                    · exact ⟨⟨v, h1, h5⟩, h3⟩ : (∃ v, e = .returned (.tuple #[v, .int .i64 0]) ∧ SV w' v (max (ia m M l S I k).toNat (ib m M l S I k).toNat + 1 - min (ia m M l S I k).toNat (ib m M l S I k).toNat) (way (S (ak m M I k)) (ia m M l S I k).toNat (ib m M l S I k).toNat)) ∧ Below w1.heap.size w1 w')))
                  have e := GO.out (by unfold serr; rw [if_neg (fun h => hn h.2.2)])
                  have HN' := Lib.hid e; clear e BAD GO BT hn
                  go_wp2_with fail
                  obtain ⟨u1, u2⟩ := U.out
                  go_region_held3 (fun w' => w'.cell? ⟨w.heap.size + 1, 0, none⟩ = some (.slice A1 n c1) ∧ w'.cell? ⟨w.heap.size + 1, 1, none⟩ = some (.slice A2 m c2) ∧ w'.cell? ⟨w4.heap.size, 0, none⟩ = some (.slice (some ⟨ib', io, none⟩) i ic) ∧ w'.cell? ⟨ib', io + k, none⟩ = some (.string (I k)) ∧ w'.cell? ⟨ib', io + P, none⟩ = some (.string (I (k - 1))) ∧ w'.cell? ⟨ib', io + J, none⟩ = some (.string (I (k + 1))) ∧ Below w7.heap.size w7 w')
                    (first
                      | exact ⟨Y7.out.1, Y7.out.2, V7.out, Z7.out.1, Z7.out.2.1, Z7.out.2.2, (Below.refl _ _).drew⟩
                      | exact ⟨keep hb9 Y7.out.1, keep hb9 Y7.out.2, keep hb9 V7.out, keep hb9 Z7.out.1, keep hb9 Z7.out.2.1, keep hb9 Z7.out.2.2, hb9⟩
                      | assumption)
                    ((first
                      | (go_at_call 20; refine (BT2.out _ (b_drew (Below.refl _ _))).mono ?_; rintro e w9 ⟨⟨v9, rfl, hs9⟩, hb9'⟩; have hb9 := b_next (b_drew (Below.refl w7.heap.size w7)) hb9'; clear hb9')))
                  clear u1 u2
                  obtain ⟨L, hL⟩ : ∃ L, L = max (ia m M l S I k).toNat (ib m M l S I k).toNat + 1 - min (ia m M l S I k).toNat (ib m M l S I k).toNat := ⟨_, rfl⟩
                  rw [← hL] at hs9
                  have es : seg m M l S I k = (List.range (L - 1)).map fun t => way (S (ak m M I k)) (ia m M l S I k).toNat (ib m M l S I k).toNat (t + 1) := by
                    unfold seg; rw [if_pos HAW.out, show max (ia m M l S I k).toNat (ib m M l S I k).toNat - min (ia m M l S I k).toNat (ib m M l S I k).toNat = L - 1 by omega]
                  have hL1 : 1 ≤ L := by omega
                  obtain ⟨b9, o9, c9, rfl, hc1, hc2, -⟩ := sv_at hs9 hL1
                  have T9 := sl_tail hs9 hL1
                  rw [← es] at T9
                  have ES := Lib.hid es
                  have hsl : L - 1 ≤ 24 := by rw [es, List.length_map, List.length_range] at hsg; exact hsg
                  have hm9 : c9 ≤ 9223372036854775807 := Nat.le_trans hc2 (by decide)
                  have HT9 := Lib.hid T9; have W9 := Lib.hid (b_next W7.out hb9); have O9 := Lib.hid (own_vs hb9 O7.out); have HS9 := Lib.hid hs9
                  clear es hL T9 hb9 hs9
                  have q1 : (1 : Int) ≤ (L : Int) := by omega
                  have q2 : (L : Int) ≤ (c9 : Int) := by omega
                  by_cases hcc : c9 = 1
                  · have hL2 : L = 1 := by omega
                    subst hcc hL2
                    have e0 : seg m M l S I k = [] := by rw [ES.out]; rfl
                    rw [e0, List.append_nil] at NX
                    have HZ := Lib.hid W9.out.size
                    go_wp2_with (at_builtin; refine append_sl rfl (.tmp 128) (.tmp 130) 22 rfl w5.heap.size 9 i0 _ Tryz.underlying22 IN.out.1 IN.out.2.1 IN.out.2.2.1 IN.out.2.2.2 rfl _ (nms m M l S I (k - 1)) rfl O9.out _ [] rfl (sl_empty _ _ _ (by decide)) (by simp; omega) HZ.out ?_; intro v2 w9' hown2 hg2)
                    have W9' := Lib.hid (W9.out.grown hg2 W9.out.size (fun q hq => (O9.out.lt q hq).1))
                    have O9' : Hid (w9'.ownsRow w5.heap.size 9 1 v2 (nms m M l S I k).length (vs (nms m M l S I k))) := Lib.hid (by rw [NX.out]; rw [List.append_nil] at hown2; exact hown2)
                    clear hown2 hg2
                    go_roundw
                    case rel => exact ⟨k + 1, by omega, by omega, by go_num, HN'.out, O9'.out, W9'.out⟩
                    case measure => simp [intOf]; omega
                  · have HZ := Lib.hid W9.out.size
                    go_wp2_with (at_builtin; refine append_sl rfl (.tmp 128) (.tmp 130) 22 rfl w5.heap.size 9 i0 _ Tryz.underlying22 IN.out.1 IN.out.2.1 IN.out.2.2.1 IN.out.2.2.2 rfl _ (nms m M l S I (k - 1)) rfl O9.out (.slice (some ⟨b9, o9 + 1, none⟩) (L - 1) (c9 - 1)) (seg m M l S I k) rfl HT9.out (by omega) HZ.out ?_; intro v2 w9' hown2 hg2)
                    have W9' := Lib.hid (W9.out.grown hg2 W9.out.size (fun q hq => (O9.out.lt q hq).1))
                    have O9' : Hid (w9'.ownsRow w5.heap.size 9 1 v2 (nms m M l S I k).length (vs (nms m M l S I k))) := Lib.hid (by rw [NX.out]; exact hown2)
                    clear hown2 hg2
                    go_roundw
                    case rel => exact ⟨k + 1, by omega, by omega, by go_num, HN'.out, O9'.out, W9'.out⟩
                    case measure => simp [intOf]; omega
              | false =>
                rw [ha] at A
                have e := GO.out (by unfold serr; rw [if_neg (by rw [ha]; rintro ⟨-, h, -⟩; cases h)])
                have HN' := Lib.hid e; clear e BAD GO
                cases hb' : aw m M (I (k - 1)) with
                | true =>
                  have e : seg m M l S I k = [] := by unfold seg; rw [if_neg (by rw [ha]; decide), if_neg (by rw [hb']; decide)]
                  have OW' : Hid (wr.ownsRow w5.heap.size 9 1 u15 (nms m M l S I k).length (vs (nms m M l S I k))) := Lib.hid (by rw [NX.out, e, List.append_nil]; exact OW.out)
                  rw [hb'] at B
                  clear e ha hb'
                  go_wp2_with fail
                  (with_reducible refine A.out.mono ?_); rintro e w7 ⟨rfl, hb⟩
                  have W7 := Lib.hid (b_next WR.out hb); have O7 := Lib.hid (own_vs hb OW'.out); clear hb vv y0 y1
                  go_wp2_with fail
                  (with_reducible refine (B.out _ W7.out).mono ?_); rintro e w8 ⟨rfl, hb⟩
                  have W8 := Lib.hid (b_next W7.out hb); have O8 := Lib.hid (own_vs hb O7.out); clear hb
                  go_wp2_with fail
                  go_roundw
                  case rel => exact ⟨k + 1, by omega, by omega, by go_num, HN'.out, O8.out, W8.out⟩
                  case measure => simp [intOf]; omega
                | false =>
                  have e : seg m M l S I k = [I k] := by unfold seg; rw [if_neg (by rw [ha]; decide), if_pos hb']
                  rw [e] at NX
                  rw [hb'] at B
                  clear e ha hb' hsg
                  go_wp2_with fail
                  (with_reducible refine A.out.mono ?_); rintro e w7 ⟨rfl, hb⟩
                  have W7 := Lib.hid (b_next WR.out hb); have O7 := Lib.hid (own_vs hb OW.out); have K7 := Lib.hid (keep hb k0.out); clear hb vv y0 y1
                  go_wp2_with fail
                  (with_reducible refine (B.out _ W7.out).mono ?_); rintro e w8 ⟨rfl, hb⟩
                  have W8 := Lib.hid (b_next W7.out hb); have O8 := Lib.hid (own_vs (b_alloc hb (.cells #[.string (I k)] 9)) O7.out); have k8 := keep hb K7.out; clear hb
                  have v8 := keep W8.out V5.out
                  have hg8 := W8.out.size
                  have SO := Lib.hid (sl_one w8 (I k) 9)
                  have HZ : Hid (w5.heap.size ≤ (w8.alloc (.cells #[.string (I k)] 9)).heap.size) := Lib.hid (by simp; omega)
                  go_wp2_with (at_builtin; refine append_sl rfl (.tmp 138) (.tmp 143) 22 rfl w5.heap.size 9 i0 _ Tryz.underlying22 IN.out.1 IN.out.2.1 IN.out.2.2.1 IN.out.2.2.2 rfl _ (nms m M l S I (k - 1)) rfl O8.out _ [I k] rfl SO.out (by simp; omega) HZ.out ?_; intro v2 w9 hown2 hg2)
                  have W9 := Lib.hid ((b_alloc W8.out (.cells #[.string (I k)] 9)).grown hg2 (b_alloc W8.out (.cells #[.string (I k)] 9)).size (fun q hq => (O8.out.lt q hq).1))
                  have O9 : Hid (w9.ownsRow w5.heap.size 9 1 v2 (nms m M l S I k).length (vs (nms m M l S I k))) := Lib.hid (by rw [NX.out]; exact hown2)
                  clear hown2 hg2 k8 v8
                  go_roundw
                  case rel => exact ⟨k + 1, by omega, by omega, by go_num, HN'.out, O9.out, W9.out⟩
                  case measure => simp [intOf]; omega
            · have hki : k = i := by omega
              have SE : Hid (∀ j, j < i → serr m M l S I j = 0) := Lib.hid fun j hj => HN.out j (by omega)
              clear HN
              subst hki
              obtain ⟨w6, hw6⟩ : ∃ w6, w6 = wr := ⟨_, rfl⟩
              subst hw6
              have hln := nms_len (I := I) HCE.out (k - 1)
              have FN := nms_fnd HCE.out IE.out SE.out (by omega) (Nat.le_refl _) (k - 1) (by omega)
              have O6' := OW.out
              rw [← HT.out] at hln FN O6'
              have S6' := sl_own O6'
              obtain ⟨r, hr⟩ : ∃ r, r = T.length := ⟨_, rfl⟩
              have S6 : SV w6 u15 r (nth T) := by rw [hr]; exact S6'
              rw [← hr] at hln
              have HFN := Lib.hid FN; have HR' := Lib.hid hr
              clear FN O6' S6' hr
              obtain ⟨tb, tO, tc, rfl, ht1, ht2, htc⟩ := sv_at S6 (by omega)
              have ht3 : tc ≤ 9223372036854775807 := Nat.le_trans ht2 (by decide)
              have TC := Lib.hid htc
              have C6 := Lib.hid (p2v_keep hbl C5.out)
              clear htc S6 hbl
              obtain ⟨i1, hi, hz0, hz1, hz2⟩ := info_parts info_fix
              have IF := Lib.hid (And.intro hi (And.intro hz0 (And.intro hz1 hz2))); clear hi hz0 hz1 hz2
              have ZE : Hid (∀ a, zer n N X Y T a ≠ 0 → (∀ b, b < a → zer n N X Y T b = 0) → a < r → E = 10) := Lib.hid fun a h1 h2 h3 => by
                rw [HE.out]; unfold expE
                rw [← HT.out, if_neg (fun e => e IE.out), if_neg (fun e => e CE.out), if_neg (fun e => e (ferr_zero SE.out)), if_pos]
                rw [HR'.out] at h3
                rw [ferr_at h2 h1 h3]; exact h1
              have ZL : Hid ((∀ a, a < r → zer n N X Y T a = 0) → E = if 62 < r then 2 else 0) := Lib.hid fun h => by
                rw [HE.out]; unfold expE
                rw [← HT.out, if_neg (fun e => e IE.out), if_neg (fun e => e CE.out), if_neg (fun e => e (ferr_zero SE.out)), ← HR'.out, if_neg (fun e => e (ferr_zero h))]
              go_wp2_with fail
              clear vv
              go_loopw [19, 147] (fun v s wr => ∃ j : Nat, j ≤ r ∧ s = .int .i64 j ∧ (∀ a, a < j → zer n N X Y T a = 0) ∧ OwnG wr w6.heap.size 38 3 v j (fxc n N X Y T) ∧ Below w6.heap.size w6 wr) (fun _ s _ => r - (intOf s).toNat)
              case atStart => exact ⟨0, Nat.zero_le _, rfl, fun j hj => absurd hj (Nat.not_lt_zero j), ownG_nil _ _ _ _ _, Below.refl _ _⟩
              case round =>
                obtain ⟨j, hj, rfl, hno, hown, hbl⟩ := hrel
                have HN := Lib.hid hno; have WV := Lib.hid hbl; have OV := Lib.hid hown; clear hno hown
                by_cases hlt : j < r
                · have hl : (j : Int) < (r : Int) := by omega
                  have t0 := keep hbl (TC.out j hlt)
                  obtain ⟨y0, y1⟩ := p2v_keep hbl C6.out
                  have hf : ¬ fix N (nth T j) n < 0 := HFN.out _ (nth_mem (by rw [← HR'.out]; exact hlt))
                  have F := Lib.hid (FND.out (nth T j) wr (b_next WR.out hbl))
                  have hF : fndV n N X Y (nth T j) = .tuple #[.agg #[.string (nth T j), .int .i64 (X (pos n N (nth T j))), .int .i64 (Y (pos n N (nth T j)))], .int .i64 0] := by unfold fndV; rw [if_neg hf]
                  rw [hF] at F
                  have BAD := Lib.hid fun h => ZE.out j h HN.out hlt
                  have GO : Hid (zer n N X Y T j = 0 → ∀ a, a < j + 1 → zer n N X Y T a = 0) := Lib.hid fun h a ha => by
                    rcases Nat.lt_or_ge a j with hl | hl
                    · exact HN.out a hl
                    · rw [show a = j from by omega]; exact h
                  have HZr : Hid (zer n N X Y T j = if 0 < j ∧ X (pos n N (nth T j)) = X (pos n N (nth T (j - 1))) ∧ Y (pos n N (nth T j)) = Y (pos n N (nth T (j - 1))) then 10 else 0) := Lib.hid rfl
                  have HRW : Hid (rowG 3 (fxc n N X Y T) j ++ [.string (nth T j), .int .i64 (X (pos n N (nth T j))), .int .i64 (Y (pos n N (nth T j)))] = rowG 3 (fxc n N X Y T) (j + 1)) := Lib.hid rfl
                  clear hF hbl hf
                  by_cases hj0 : j = 0
                  · subst hj0
                    have e := GO.out (by rw [HZr.out, if_neg (by omega)])
                    have HN' := Lib.hid e; clear e BAD GO HZr
                    rw [Nat.add_zero] at t0
                    generalize nth T 0 = s0 at *
                    generalize X (pos n N s0) = x at *
                    generalize Y (pos n N s0) = y at *
                    go_wp2_with fail
                    (with_reducible refine F.out.mono ?_); rintro e w7 ⟨rfl, hb⟩
                    have W7 := Lib.hid (b_next WV.out hb); have O7 := Lib.hid (ownG_keep hb OV.out); clear hb y0 y1 t0
                    obtain ⟨w8, hw8⟩ : ∃ w8, w8 = w7.alloc (.cells #[.string s0, .int .i64 x, .int .i64 y] 38) := ⟨_, rfl⟩
                    have W78 : Below w7.heap.size w7 w8 := by rw [hw8]; exact b_alloc (Below.refl _ _) _
                    have W8 := Lib.hid (b_next W7.out W78)
                    have O8 := Lib.hid (ownG_keep W78 O7.out)
                    have F8 : Hid (w8.cell? ⟨w7.heap.size, 0, none⟩ = some (.string s0) ∧ w8.cell? ⟨w7.heap.size, 1, none⟩ = some (.int .i64 x) ∧ w8.cell? ⟨w7.heap.size, 2, none⟩ = some (.int .i64 y)) := Lib.hid (by rw [hw8]; exact ⟨by simp, by simp, by simp⟩)
                    have H8 : Hid (w7.alloc (.cells #[.string s0, .int .i64 x, .int .i64 y] 38) = w8) := Lib.hid hw8.symm
                    clear hw8 W78
                    go_wp2_with fail
                    rw [H8.out]
                    refine d_region (by kernel_rfl) (by kernel_rfl) ?_
                    repeat
                      first
                        | (refine d_plain (by with_reducible rfl) ?_; apply Exists.intro; refine ⟨fun wq hc hq => ?_, ?_⟩)
                        | (refine d_on (by with_reducible rfl) (by rfl) (by with_reducible rfl) ?_; apply Exists.intro; refine ⟨fun wq hc hq => ?_, ?_⟩)
                        | (refine d_off (by with_reducible rfl) (by rfl) (by rfl) ?_)
                        | (refine d_void (by with_reducible rfl) (by rfl) ?_)
                      try any_goals
                        (clear hc
                         go_simp
                         first
                           | rfl)
                      simp only [Act.put, List.setIfInBounds_toArray, List.set_cons_zero, List.set_cons_succ]
                    refine d_nil ?_
                    intro w9 hbz
                    have F9 := Lib.hid (And.intro (keep hbz F8.out.1) (And.intro (keep hbz F8.out.2.1) (keep hbz F8.out.2.2)))
                    obtain ⟨f0, f1, f2⟩ := F9.out
                    have nf := new_ne f0
                    have O9 := Lib.hid (ownG_keep (b_alloc (Below.refl _ _) (.cells #[.string s0, .int .i64 x, .int .i64 y] 38)) (ownG_keep hbz O8.out))
                    have W9 := Lib.hid (b_alloc (b_next W8.out hbz) (.cells #[.string s0, .int .i64 x, .int .i64 y] 38))
                    have NW := Lib.hid (new3 w9 38 (.string s0) (.int .i64 x) (.int .i64 y))
                    have ON : Hid (∀ u ∈ ([.string s0, .int .i64 x, .int .i64 y] : List Value), u.oneCell' = true) := Lib.hid (by intro u hu; simp only [List.mem_cons, List.not_mem_nil, or_false] at hu; rcases hu with rfl | rfl | rfl <;> rfl)
                    go_wp2_with (at_builtin; refine wpList_append_own_at _ rfl (.tmp 171) (.tmp 173) 25 rfl w6.heap.size 38 i1 _ 3 32 Tryz.underlying25 IF.out.1 IF.out.2.1 IF.out.2.2.1 IF.out.2.2.2 rfl (by decide) _ 0 _ rfl O9.out ⟨w9.heap.size, 0, none⟩ 1 1 [.string s0, .int .i64 x, .int .i64 y] rfl rfl NW.out ON.out (by unfold maxLen; omega) (by omega) W9.out.size ?_; intro v2 w10 hown1 hg1 hnil1 hat1)
                    have O10 : Hid (OwnG w10 w6.heap.size 38 3 v2 (0 + 1) (fxc n N X Y T)) := Lib.hid (by rw [HRW.out] at hown1; exact hown1)
                    have W10 := Lib.hid (growG_below W9.out O9.out hg1 (Nat.le_refl _) W9.out.size)
                    clear hown1 hg1 hnil1 hat1 f0 f1 f2
                    go_roundw
                    case rel => exact ⟨0 + 1, by omega, by go_num, HN'.out, O10.out, W10.out⟩
                    case measure => simp [intOf]; omega
                  · have hjp : 0 < j := by omega
                    have hjI : (0 : Int) < (j : Int) := by omega
                    obtain ⟨P, hP⟩ : ∃ P, P = j - 1 := ⟨_, rfl⟩
                    obtain ⟨g, gc, rfl, hg1, hg2, hg3, hg4, hg5⟩ := ownG_row OV.out hjp
                    have hg6 : gc ≤ 9223372036854775807 := Nat.le_trans hg4 (by decide)
                    have p1 : wr.cell? ⟨g, P * 3 + 1, none⟩ = some (.int .i64 (X (pos n N (nth T P)))) := hg5.cell P (by omega) 1 (by decide)
                    have p2 : wr.cell? ⟨g, P * 3 + 2, none⟩ = some (.int .i64 (Y (pos n N (nth T P)))) := hg5.cell P (by omega) 2 (by decide)
                    have HP12 := Lib.hid (And.intro p1 p2)
                    have u1 : IntKind.i64.wrap ((j : Int) - 1) = (P : Int) := by rw [IntWalk.i64_in _ (by omega)]; omega
                    have bP : (P : Int) < (j : Int) := by omega
                    have U := Lib.hid u1
                    rw [← hP] at HZr
                    clear p1 p2 u1 hg5 hP
                    generalize nth T j = s0 at *
                    generalize X (pos n N s0) = x at *
                    generalize Y (pos n N s0) = y at *
                    generalize X (pos n N (nth T P)) = x' at *
                    generalize Y (pos n N (nth T P)) = y' at *
                    go_wp2_with fail
                    (with_reducible refine F.out.mono ?_); rintro e w7 ⟨rfl, hb⟩
                    have W7 := Lib.hid (b_next WV.out hb); have O7 := Lib.hid (ownG_keep hb OV.out)
                    have HQ12 := Lib.hid (And.intro (keep hb HP12.out.1) (keep hb HP12.out.2)); clear hb y0 y1 t0
                    obtain ⟨w8, hw8⟩ : ∃ w8, w8 = w7.alloc (.cells #[.string s0, .int .i64 x, .int .i64 y] 38) := ⟨_, rfl⟩
                    have W78 : Below w7.heap.size w7 w8 := by rw [hw8]; exact b_alloc (Below.refl _ _) _
                    have W8 := Lib.hid (b_next W7.out W78)
                    have O8 := Lib.hid (ownG_keep W78 O7.out)
                    have Q8 := Lib.hid (And.intro (keep W78 HQ12.out.1) (keep W78 HQ12.out.2))
                    have F8 : Hid (w8.cell? ⟨w7.heap.size, 0, none⟩ = some (.string s0) ∧ w8.cell? ⟨w7.heap.size, 1, none⟩ = some (.int .i64 x) ∧ w8.cell? ⟨w7.heap.size, 2, none⟩ = some (.int .i64 y)) := Lib.hid (by rw [hw8]; exact ⟨by simp, by simp, by simp⟩)
                    have H8 : Hid (w7.alloc (.cells #[.string s0, .int .i64 x, .int .i64 y] 38) = w8) := Lib.hid hw8.symm
                    clear hw8 W78
                    go_wp2_with fail
                    rw [H8.out]
                    by_cases hx : x = x'
                    · subst hx
                      by_cases hy : y = y'
                      · subst hy
                        have e := BAD.out (by rw [HZr.out, if_pos ⟨hjp, rfl, rfl⟩]; decide)
                        have HE10 := Lib.hid e; clear e BAD GO HZr
                        have u1 := U.out
                        refine d_region (by kernel_rfl) (by kernel_rfl) ?_
                        repeat
                          first
                            | (refine d_plain (by with_reducible rfl) ?_; apply Exists.intro; refine ⟨fun wq hc hq => ?_, ?_⟩)
                            | (refine d_on (by with_reducible rfl) (by rfl) (by with_reducible rfl) ?_; apply Exists.intro; refine ⟨fun wq hc hq => ?_, ?_⟩)
                            | (refine d_off (by with_reducible rfl) (by rfl) (by rfl) ?_)
                            | (refine d_void (by with_reducible rfl) (by rfl) ?_)
                          try any_goals
                            (have q0 := keep (cls hq) F8.out.2.1; have q1 := keep (cls hq) F8.out.2.2; have q2 := keep (cls hq) Q8.out.1; have q3 := keep (cls hq) Q8.out.2; clear hc
                             go_simp
                             first
                               | rfl)
                          simp only [Act.put, List.setIfInBounds_toArray, List.set_cons_zero, List.set_cons_succ]
                        refine d_nil ?_
                        intro w9 hbz
                        clear u1
                        go_wp2_with fail
                        refine bodyPost_ret (v := .tuple #[.slice none 0 0, .int .i64 10]) (by simp [results, Tryz.results5, go_sem]) rfl ⟨post_err HE10.out (by decide), ?_⟩
                        exact b_next W5.out (b_next WR.out (b_next W8.out hbz))
                      · have e := GO.out (by rw [HZr.out, if_neg (fun h => hy h.2.2)])
                        have HN' := Lib.hid e; clear e BAD GO HZr
                        have u1 := U.out
                        refine d_region (by kernel_rfl) (by kernel_rfl) ?_
                        repeat
                          first
                            | (refine d_plain (by with_reducible rfl) ?_; apply Exists.intro; refine ⟨fun wq hc hq => ?_, ?_⟩)
                            | (refine d_on (by with_reducible rfl) (by rfl) (by with_reducible rfl) ?_; apply Exists.intro; refine ⟨fun wq hc hq => ?_, ?_⟩)
                            | (refine d_off (by with_reducible rfl) (by rfl) (by rfl) ?_)
                            | (refine d_void (by with_reducible rfl) (by rfl) ?_)
                          try any_goals
                            (have q0 := keep (cls hq) F8.out.2.1; have q1 := keep (cls hq) F8.out.2.2; have q2 := keep (cls hq) Q8.out.1; have q3 := keep (cls hq) Q8.out.2; clear hc
                             go_simp
                             first
                               | rfl)
                          simp only [Act.put, List.setIfInBounds_toArray, List.set_cons_zero, List.set_cons_succ]
                        refine d_nil ?_
                        intro w9 hbz
                        clear u1
                        have F9 := Lib.hid (And.intro (keep hbz F8.out.1) (And.intro (keep hbz F8.out.2.1) (keep hbz F8.out.2.2)))
                        obtain ⟨f0, f1, f2⟩ := F9.out
                        have nf := new_ne f0
                        have O9 := Lib.hid (ownG_keep (b_alloc (Below.refl _ _) (.cells #[.string s0, .int .i64 x, .int .i64 y] 38)) (ownG_keep hbz O8.out))
                        have W9 := Lib.hid (b_alloc (b_next W8.out hbz) (.cells #[.string s0, .int .i64 x, .int .i64 y] 38))
                        have NW := Lib.hid (new3 w9 38 (.string s0) (.int .i64 x) (.int .i64 y))
                        have ON : Hid (∀ u ∈ ([.string s0, .int .i64 x, .int .i64 y] : List Value), u.oneCell' = true) := Lib.hid (by intro u hu; simp only [List.mem_cons, List.not_mem_nil, or_false] at hu; rcases hu with rfl | rfl | rfl <;> rfl)
                        go_wp2_with (at_builtin; refine wpList_append_own_at _ rfl (.tmp 171) (.tmp 173) 25 rfl w6.heap.size 38 i1 _ 3 32 Tryz.underlying25 IF.out.1 IF.out.2.1 IF.out.2.2.1 IF.out.2.2.2 rfl (by decide) _ j _ rfl O9.out ⟨w9.heap.size, 0, none⟩ 1 1 [.string s0, .int .i64 x, .int .i64 y] rfl rfl NW.out ON.out (by unfold maxLen; omega) (by omega) W9.out.size ?_; intro v2 w10 hown1 hg1 hnil1 hat1)
                        have O10 : Hid (OwnG w10 w6.heap.size 38 3 v2 (j + 1) (fxc n N X Y T)) := Lib.hid (by rw [HRW.out] at hown1; exact hown1)
                        have W10 := Lib.hid (growG_below W9.out O9.out hg1 (Nat.le_refl _) W9.out.size)
                        clear hown1 hg1 hnil1 hat1 f0 f1 f2
                        go_roundw
                        case rel => exact ⟨j + 1, by omega, by go_num, HN'.out, O10.out, W10.out⟩
                        case measure => simp [intOf]; omega
                    · have e := GO.out (by rw [HZr.out, if_neg (fun h => hx h.2.1)])
                      have HN' := Lib.hid e; clear e BAD GO HZr
                      have u1 := U.out
                      refine d_region (by kernel_rfl) (by kernel_rfl) ?_
                      repeat
                        first
                          | (refine d_plain (by with_reducible rfl) ?_; apply Exists.intro; refine ⟨fun wq hc hq => ?_, ?_⟩)
                          | (refine d_on (by with_reducible rfl) (by rfl) (by with_reducible rfl) ?_; apply Exists.intro; refine ⟨fun wq hc hq => ?_, ?_⟩)
                          | (refine d_off (by with_reducible rfl) (by rfl) (by rfl) ?_)
                          | (refine d_void (by with_reducible rfl) (by rfl) ?_)
                        try any_goals
                          (have q0 := keep (cls hq) F8.out.2.1; have q1 := keep (cls hq) F8.out.2.2; have q2 := keep (cls hq) Q8.out.1; have q3 := keep (cls hq) Q8.out.2; clear hc
                           go_simp
                           first
                             | rfl)
                        simp only [Act.put, List.setIfInBounds_toArray, List.set_cons_zero, List.set_cons_succ]
                      refine d_nil ?_
                      intro w9 hbz
                      clear u1
                      have F9 := Lib.hid (And.intro (keep hbz F8.out.1) (And.intro (keep hbz F8.out.2.1) (keep hbz F8.out.2.2)))
                      obtain ⟨f0, f1, f2⟩ := F9.out
                      have nf := new_ne f0
                      have O9 := Lib.hid (ownG_keep (b_alloc (Below.refl _ _) (.cells #[.string s0, .int .i64 x, .int .i64 y] 38)) (ownG_keep hbz O8.out))
                      have W9 := Lib.hid (b_alloc (b_next W8.out hbz) (.cells #[.string s0, .int .i64 x, .int .i64 y] 38))
                      have NW := Lib.hid (new3 w9 38 (.string s0) (.int .i64 x) (.int .i64 y))
                      have ON : Hid (∀ u ∈ ([.string s0, .int .i64 x, .int .i64 y] : List Value), u.oneCell' = true) := Lib.hid (by intro u hu; simp only [List.mem_cons, List.not_mem_nil, or_false] at hu; rcases hu with rfl | rfl | rfl <;> rfl)
                      go_wp2_with (at_builtin; refine wpList_append_own_at _ rfl (.tmp 171) (.tmp 173) 25 rfl w6.heap.size 38 i1 _ 3 32 Tryz.underlying25 IF.out.1 IF.out.2.1 IF.out.2.2.1 IF.out.2.2.2 rfl (by decide) _ j _ rfl O9.out ⟨w9.heap.size, 0, none⟩ 1 1 [.string s0, .int .i64 x, .int .i64 y] rfl rfl NW.out ON.out (by unfold maxLen; omega) (by omega) W9.out.size ?_; intro v2 w10 hown1 hg1 hnil1 hat1)
                      have O10 : Hid (OwnG w10 w6.heap.size 38 3 v2 (j + 1) (fxc n N X Y T)) := Lib.hid (by rw [HRW.out] at hown1; exact hown1)
                      have W10 := Lib.hid (growG_below W9.out O9.out hg1 (Nat.le_refl _) W9.out.size)
                      clear hown1 hg1 hnil1 hat1 f0 f1 f2
                      go_roundw
                      case rel => exact ⟨j + 1, by omega, by go_num, HN'.out, O10.out, W10.out⟩
                      case measure => simp [intOf]; omega
                · have hjr : j = r := by omega
                  have EL := Lib.hid (ZL.out (fun a ha => HN.out a (by omega)))
                  clear HN ZL ZE hbl
                  subst hjr
                  obtain ⟨g, gc, rfl, hg1, hg2, hg3, hg4, hg5⟩ := ownG_row OV.out (by omega)
                  have hg6 : gc ≤ 9223372036854775807 := Nat.le_trans hg4 (by decide)
                  clear hg5
                  by_cases h62 : 62 < j
                  · have e := EL.out
                    rw [if_pos h62] at e
                    have HE2 := Lib.hid e; clear e EL
                    have hI : (62 : Int) < (j : Int) := by omega
                    go_wp2_with fail
                    refine bodyPost_ret (v := .tuple #[.slice none 0 0, .int .i64 2]) (by simp [results, Tryz.results5, go_sem]) rfl ⟨post_err HE2.out (by decide), ?_⟩
                    exact b_next W5.out (b_next WR.out WV.out)
                  · have e := EL.out
                    rw [if_neg h62] at e
                    have HE0 := Lib.hid e; clear e EL
                    have hI : ¬ (62 : Int) < (j : Int) := by omega
                    go_wp2_with fail
                    refine bodyPost_ret (v := .tuple #[.slice (some ⟨g, 0, none⟩) j gc, .int .i64 0]) (by simp [results, Tryz.results5, go_sem]) rfl ⟨Or.inr ⟨HE0.out, _, rfl, ?_⟩, ?_⟩
                    · have q := OV.out
                      rw [HR'.out] at q ⊢
                      exact fxv_own q (by rw [← HR'.out]; omega)
                    · exact b_next W5.out (b_next WR.out WV.out)
end Route
end Go.Proofs.YtmkglhoahdlogaaGreatDoor
