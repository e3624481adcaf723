/- shortest.ends, walked over what its callees answer. The graph that a chart gives: its fixes in the order of their names, their links and lengths. The functions of a net, told by its graph. -/
import Derived.Test.YtokioemmjfjhkaaNetB
import Derived.Test.YtokioemmjfjhkaaLnkS
import Derived.Test.YtokioemmjfjhkaaChL
namespace Go.Proofs.Ytokioemmjfjhkaa
open Go.RowKit
namespace Net
open Kit Chart Route
abbrev EnC (c : Value) (s t : ByteArray) (w : World) (post : Ending → World → Prop) : Prop := Calls Try.prog 40 #[c, .string s, .string t] w fun e w' => post e w' ∧ Below w.heap.size w w'
theorem kg_refl (N : Nat) (w : World) : Kg N w w := fun _ _ _ h => h
theorem kg_below {N : Nat} {w W w1 : World} (h : Kg N w W) (hb : Below W.heap.size W w1) : Kg N w w1 := fun a u ha hc => keep hb (h a u ha hc)
theorem kg_set {N : Nat} {w W : World} (h : Kg N w W) (p : Addr) (hp : p.block < N) (y : Value) : Kg N w (W.setCell p y) := fun a u ha hc => cfar _ (fun e => by have ha : N ≤ a.block := ha; rw [← e] at ha; omega) (h a u ha hc)
theorem b_set3 {N k : Nat} {w W : World} (hb : Below N w W) (hk : N ≤ k) (a b c : Value) : Below N w (((W.setCell ⟨k, 0, none⟩ a).setCell ⟨k, 1, none⟩ b).setCell ⟨k, 2, none⟩ c) :=
  ((hb.setCell (p := ⟨k, 0, none⟩) hk a).setCell (p := ⟨k, 1, none⟩) hk b).setCell (p := ⟨k, 2, none⟩) hk c
/-- No net. -/
abbrev net0 : Value := .agg #[.slice none 0 0, .slice none 0 0, .slice none 0 0]
theorem bx_two (w : World) (o : Obj) (t : TypeId) (a b c : Value) : Bx ((w.alloc o).alloc (.cells #[a, b, c] t)) (w.heap.size + 1) a b c := by
  have h := bx_new (w.alloc o) t a b c
  simp only [World.size_alloc] at h
  exact h
set_option maxRecDepth 100000 in
set_option maxHeartbeats 2000000 in
theorem ends_bad (fx aw : Value) (s t : ByteArray) (E : Int) (w : World) (C : Hid (CcC (.agg #[fx, aw]) E w)) (_hE1 : (E == 0) = false) (hE2 : (E != 0) = true) : EnC (.agg #[fx, aw]) s t w fun e _ => e = .returned (.tuple #[net0, .int .i64 0, .int .i64 0, .int .i64 E]) := by
  have W0 := Lib.hid (b_alloc (b_alloc (Below.refl w.heap.size w) (.cells #[fx, aw] 37)) (.cells #[.slice none 0 0, .slice none 0 0, .slice none 0 0] 83))
  have P0 := Lib.hid (p2v_keep (b_alloc (Below.refl _ _) (.cells #[.slice none 0 0, .slice none 0 0, .slice none 0 0] 83)) (p2v_new w 37 fx aw))
  have X0 := Lib.hid (bx_two w (.cells #[fx, aw] 37) 83 (.slice none 0 0) (.slice none 0 0) (.slice none 0 0))
  obtain ⟨x0, x1⟩ := P0.out
  go_enter Try.func40, Try.ntmps40
  go_wp2_with fail
  (with_reducible refine (C.out _ W0.out).mono ?_); rintro e w1 ⟨rfl, hb⟩
  have W1 := Lib.hid (b_next W0.out hb); have X1 := Lib.hid (bx_keep hb X0.out); clear hb x0 x1
  obtain ⟨z0, z1, z2, z3, z4, z5⟩ := X1.out
  go_wp2_with fail
  have R3 := bx_set2 (bx_set1 (bx_set0 X1.out (.slice none 0 0)) (.slice none 0 0)) (.slice none 0 0)
  refine bodyPost_ret (v := .tuple #[net0, .int .i64 0, .int .i64 0, .int .i64 E]) (by simp [results, Try.results40, go_sem, R3.c0, R3.c1, R3.c2]) rfl ⟨rfl, ?_⟩
  exact b_set3 W1.out (Nat.le_succ _) _ _ _
set_option maxRecDepth 100000 in
set_option maxHeartbeats 4000000 in
theorem ends_w (fx aw : Value) (s t : ByteArray) (ps pt : Int) (R : World → Value → Value → Value → Prop) (w : World) (HR : Hid (∀ W w1 o ob oc, R W o ob oc → Below W.heap.size W w1 → R w1 o ob oc)) (C : Hid (CcC (.agg #[fx, aw]) 0 w))
    (HO : Hid (∀ w1, Below w.heap.size w w1 → Calls Try.prog 49 #[.agg #[fx, aw]] w1 fun e w' => (∃ A1 n1 c1 A2 n2 c2 A3 n3 c3, e = .returned (.agg #[.slice A1 n1 c1, .slice A2 n2 c2, .slice A3 n3 c3]) ∧ ∀ W, Kg w1.heap.size w' W → R W (.slice A1 n1 c1) (.slice A2 n2 c2) (.slice A3 n3 c3)) ∧ Below w1.heap.size w1 w'))
    (HS : Hid (∀ w1 o ob oc, R w1 o ob oc → Calls Try.prog 42 #[.agg #[o, ob, oc], .string s] w1 fun e w' => e = .returned (.int .i64 ps) ∧ Below w1.heap.size w1 w'))
    (HT : Hid (∀ w1 o ob oc, R w1 o ob oc → Calls Try.prog 42 #[.agg #[o, ob, oc], .string t] w1 fun e w' => e = .returned (.int .i64 pt) ∧ Below w1.heap.size w1 w')) :
    EnC (.agg #[fx, aw]) s t w fun e w' => if ps < 0 ∨ pt < 0 then e = .returned (.tuple #[net0, .int .i64 0, .int .i64 0, .int .i64 6]) else ∃ o ob oc, e = .returned (.tuple #[.agg #[o, ob, oc], .int .i64 ps, .int .i64 pt, .int .i64 0]) ∧ R w' o ob oc := by
  have W0 := Lib.hid (b_alloc (b_alloc (Below.refl w.heap.size w) (.cells #[fx, aw] 37)) (.cells #[.slice none 0 0, .slice none 0 0, .slice none 0 0] 83))
  have P0 := Lib.hid (p2v_keep (b_alloc (Below.refl _ _) (.cells #[.slice none 0 0, .slice none 0 0, .slice none 0 0] 83)) (p2v_new w 37 fx aw))
  have X0 := Lib.hid (bx_two w (.cells #[fx, aw] 37) 83 (.slice none 0 0) (.slice none 0 0) (.slice none 0 0))
  obtain ⟨x0, x1⟩ := P0.out
  go_enter Try.func40, Try.ntmps40
  go_wp2_with fail
  (with_reducible refine (C.out _ W0.out).mono ?_); rintro e w1 ⟨rfl, hb⟩
  have W1 := Lib.hid (b_next W0.out hb); have X1 := Lib.hid (bx_keep hb X0.out); clear x0 x1; obtain ⟨x0, x1⟩ := p2v_keep hb P0.out; clear hb
  have Q1 : Hid (w.heap.size + 1 < w1.heap.size) := Lib.hid (lt_of_cell X1.out.c0)
  go_wp2_with fail
  (with_reducible refine (HO.out _ W1.out).mono ?_); rintro e w2 ⟨⟨A1, n1, c1, A2, n2, c2, A3, n3, c3, rfl, hr⟩, hb⟩
  have W2 := Lib.hid (b_next W1.out hb); have X2 := Lib.hid (bx_keep hb X1.out); have HR2 := Lib.hid hr; clear hr x0 x1
  have S12 := Lib.hid hb.size
  have RA : Hid (R (w2.alloc (.cells #[.slice A1 n1 c1, .slice A2 n2 c2, .slice A3 n3 c3] 83)) (.slice A1 n1 c1) (.slice A2 n2 c2) (.slice A3 n3 c3)) := Lib.hid (HR2.out _ fun a u _ hc => keep (b_alloc (Below.refl _ _) _) hc)
  have BA := Lib.hid (b_alloc (Below.refl w2.heap.size w2) (.cells #[.slice A1 n1 c1, .slice A2 n2 c2, .slice A3 n3 c3] 83))
  have N2 := Lib.hid (bx_new w2 83 (.slice A1 n1 c1) (.slice A2 n2 c2) (.slice A3 n3 c3))
  clear hb
  go_wp2_with fail
  obtain ⟨b2, hb2⟩ : ∃ b, b = w2.heap.size := ⟨_, rfl⟩
  obtain ⟨w3, hw3⟩ : ∃ x, x = w2.alloc (.cells #[.slice A1 n1 c1, .slice A2 n2 c2, .slice A3 n3 c3] 83) := ⟨_, rfl⟩
  rw [← hw3, ← hb2]
  rw [← hw3] at RA BA N2; rw [← hb2] at N2
  clear hw3 hb2
  refine d_region (by kernel_rfl) (by kernel_rfl) ?_
  repeat
    first
      | (refine d_plain (by with_reducible rfl) ?_; apply Exists.intro; refine ⟨fun wq hc hq => ?_, ?_⟩)
      | (refine d_on (by with_reducible rfl) (by rfl) (by with_reducible rfl) ?_; apply Exists.intro; refine ⟨fun wq hc hq => ?_, ?_⟩)
      | (refine d_off (by with_reducible rfl) (by rfl) (by rfl) ?_)
      | (refine d_void (by with_reducible rfl) (by rfl) ?_)
    try any_goals
      (obtain ⟨y0, y1, y2, y3, y4, y5⟩ := bx_keep (cls hq) N2.out; clear hc
       go_simp
       first
         | rfl
         | (go_at_call 42; with_reducible exact call_below hq (HS.out _ _ _ _ (HR.out _ _ _ _ _ RA.out (cls hq))))
         | (go_at_call 42; with_reducible exact call_below hq (HT.out _ _ _ _ (HR.out _ _ _ _ _ RA.out (cls hq)))))
    simp only [Act.put, List.setIfInBounds_toArray, List.set_cons_zero, List.set_cons_succ]
  refine d_nil ?_
  intro w4 hb4
  have B4 : Hid (Below w2.heap.size w2 w4) := Lib.hid (b_next BA.out hb4)
  have W4 := Lib.hid (b_next W2.out B4.out)
  have X4 := Lib.hid (bx_keep B4.out X2.out)
  have N4 := Lib.hid (bx_keep hb4 N2.out)
  clear hb4
  obtain ⟨y0, y1, y2, y3, y4, y5⟩ := N4.out
  obtain ⟨z0, z1, z2, z3, z4, z5⟩ := X4.out
  have bad : ∀ w5, w5 = ((w4.setCell ⟨w.heap.size + 1, 0, none⟩ (.slice none 0 0)).setCell ⟨w.heap.size + 1, 1, none⟩ (.slice none 0 0)).setCell ⟨w.heap.size + 1, 2, none⟩ (.slice none 0 0) → Bx w5 (w.heap.size + 1) (.slice none 0 0) (.slice none 0 0) (.slice none 0 0) := fun w5 e => e ▸ bx_set2 (bx_set1 (bx_set0 X4.out (.slice none 0 0)) (.slice none 0 0)) (.slice none 0 0)
  have BAD := Lib.hid (bad _ rfl)
  clear bad
  by_cases h1 : ps < 0
  · go_wp2_with fail
    refine bodyPost_ret (v := .tuple #[net0, .int .i64 0, .int .i64 0, .int .i64 6]) (by simp [results, Try.results40, go_sem, BAD.out.c0, BAD.out.c1, BAD.out.c2]) rfl ⟨rfl, ?_⟩
    exact b_set3 W4.out (Nat.le_succ _) _ _ _
  · by_cases h2 : pt < 0
    · go_wp2_with fail
      refine bodyPost_ret (v := .tuple #[net0, .int .i64 0, .int .i64 0, .int .i64 6]) (by simp [results, Try.results40, go_sem, BAD.out.c0, BAD.out.c1, BAD.out.c2]) rfl ⟨rfl, ?_⟩
      exact b_set3 W4.out (Nat.le_succ _) _ _ _
    · go_wp2_with fail
      have R3 := bx_set2 (bx_set1 (bx_set0 X4.out (.slice A1 n1 c1)) (.slice A2 n2 c2)) (.slice A3 n3 c3)
      have KG := kg_set (kg_set (kg_set (kg_below (kg_refl w1.heap.size w2) B4.out) ⟨w.heap.size + 1, 0, none⟩ Q1.out (.slice A1 n1 c1)) ⟨w.heap.size + 1, 1, none⟩ Q1.out (.slice A2 n2 c2)) ⟨w.heap.size + 1, 2, none⟩ Q1.out (.slice A3 n3 c3)
      refine bodyPost_ret (v := .tuple #[.agg #[.slice A1 n1 c1, .slice A2 n2 c2, .slice A3 n3 c3], .int .i64 ps, .int .i64 pt, .int .i64 0]) (by simp [results, Try.results40, go_sem, R3.c0, R3.c1, R3.c2]) rfl ⟨?_, ?_⟩
      · exact ⟨_, _, _, rfl, HR2.out _ KG⟩
      · exact b_set3 W4.out (Nat.le_succ _) _ _ _
end Net
end Go.Proofs.Ytokioemmjfjhkaa
namespace Go.Proofs.Ytokioemmjfjhkaa
namespace Net
open Kit Plane Chart Lnk
/-- The names in order. -/
def gS (n : Nat) (N : Nat → ByteArray) : Nat → ByteArray := nth (srt (nms N (fun i => i) n))
theorem srt_n (n : Nat) (N : Nat → ByteArray) : (srt (nms N (fun i => i) n)).length = n := by rw [srt_len, nms_len]
theorem gS_at {n : Nat} {N : Nat → ByteArray} {k : Nat} (hk : k < n) : ∃ h : k < (srt (nms N (fun i => i) n)).length, (gS n N k).data.toList = (srt (nms N (fun i => i) n))[k] := by
  have h : k < (srt (nms N (fun i => i) n)).length := by rw [srt_n]; exact hk
  refine ⟨h, ?_⟩
  unfold gS nth
  rw [List.getD_eq_getElem?_getD, List.getElem?_eq_getElem h]
  rfl
theorem srt_mem {n : Nat} {N : Nat → ByteArray} {x : List UInt8} : x ∈ srt (nms N (fun i => i) n) ↔ ∃ j, j < n ∧ (N j).data.toList = x := by
  unfold srt nms
  rw [List.mem_mergeSort, List.mem_map]
  constructor
  · rintro ⟨y, hy, e⟩
    obtain ⟨j, hj, e2⟩ := List.mem_map.1 hy
    exact ⟨j, List.mem_range.1 hj, by rw [← e, ← e2]⟩
  · rintro ⟨j, hj, e⟩
    exact ⟨N j, List.mem_map.2 ⟨j, List.mem_range.2 hj, rfl⟩, e⟩
theorem gS_mem {n : Nat} {N : Nat → ByteArray} {k : Nat} (hk : k < n) : ∃ j, j < n ∧ gS n N k = N j := by
  obtain ⟨h, e⟩ := gS_at (N := N) hk
  obtain ⟨j, hj, e2⟩ := srt_mem.1 (List.getElem_mem h)
  exact ⟨j, hj, ba_eq (e.trans e2.symm)⟩
theorem gS_has {n : Nat} {N : Nat → ByteArray} {j : Nat} (hj : j < n) : ∃ k, k < n ∧ gS n N k = N j := by
  have q : (N j).data.toList ∈ srt (nms N (fun i => i) n) := srt_mem.2 ⟨j, hj, rfl⟩
  obtain ⟨k, hk, e⟩ := List.mem_iff_getElem.1 q
  have hk' : k < n := by rw [srt_n] at hk; exact hk
  obtain ⟨h, e2⟩ := gS_at (N := N) hk'
  exact ⟨k, hk', ba_eq (e2.trans e)⟩
/-- No name twice. -/
theorem once {n : Nat} {N : Nat → ByteArray} {X Y : Nat → Int} {m : Nat} {M : Nat → ByteArray} {l : Nat → Nat} {S : Nat → Nat → ByteArray} (h : cerr n N X Y m M l S = 0) : ∀ i j, i < n → j < n → N i = N j → i = j := by
  have one : ∀ i j, i < j → j < n → N i = N j → False := fun i j hij hj e => by
    have q := (fe_ok ((cerr_ok h).2.2.1 j hj)).2.1
    have q0 : 0 ≤ fnd (fun k => decide (N k = N j)) n := by unfold fix at q; omega
    obtain ⟨k, hk, e1, -, e3⟩ := fnd_pos q0
    have q1 : fix N (N j) n = (k : Int) := e1
    have := e3 i (by omega)
    rw [decide_eq_false_iff_not] at this
    exact this e
  intro i j hi hj e
  rcases Nat.lt_trichotomy i j with q | q | q
  · exact (one i j q hj e).elim
  · exact q
  · exact (one j i q hi e.symm).elim
theorem gS_srt {n : Nat} {N : Nat → ByteArray} (h : ∀ i j, i < n → j < n → N i = N j → i = j) : Srt (gS n N) n := by
  intro i j hij hj
  obtain ⟨h1, e1⟩ := gS_at (N := N) (show i < n by omega)
  obtain ⟨h2, e2⟩ := gS_at (N := N) hj
  have nd : (srt (nms N (fun i => i) n)).Nodup := by
    unfold srt nms
    refine (List.mergeSort_perm _ _).nodup_iff.2 ?_
    rw [List.map_map]
    unfold List.Nodup
    rw [List.pairwise_map]
    refine List.Pairwise.imp_of_mem ?_ (List.nodup_range (n := n))
    intro a b ha hb hab e
    exact hab (h a b (List.mem_range.1 ha) (List.mem_range.1 hb) (ba_eq e))
  rw [ByteArray.toList_eq, ByteArray.toList_eq, bytesLess_eq]
  refine decide_eq_true ?_
  rw [e1, e2]
  have l0 : (srt (nms N (fun i => i) n)).Pairwise fun x y => ¬ y < x := sort_pair _
  have l1 := List.pairwise_iff_getElem.1 l0 i j h1 h2 hij
  have l2 := List.pairwise_iff_getElem.1 nd i j h1 h2 hij
  rcases Classical.em ((srt (nms N (fun i => i) n))[i] < (srt (nms N (fun i => i) n))[j]) with q | q
  · exact q
  · exact absurd (List.le_antisymm q l1).symm l2
/-- A name that is one of them stands where its place says. -/
theorem pos_of {n : Nat} {T : Nat → ByteArray} {t : ByteArray} (h : ∃ k, k < n ∧ T k = t) : pos n T t < n ∧ T (pos n T t) = t := by
  obtain ⟨k, hk, e⟩ := h
  have q : 0 ≤ fix T t n := by
    rcases Int.lt_or_le (fix T t n) 0 with g | g
    · have := fnd_neg g k hk
      rw [decide_eq_false_iff_not] at this
      exact absurd e this
    · exact g
  obtain ⟨k', h1, h2, h3, -⟩ := fnd_pos q
  have h2 : fix T t n = (k' : Int) := h2
  unfold pos
  rw [h2]
  exact ⟨by omega, by simpa using h3⟩
theorem fix_has {n : Nat} {T : Nat → ByteArray} {t : ByteArray} (h : 0 ≤ fix T t n) : ∃ k, k < n ∧ T k = t := by
  obtain ⟨k, h1, -, h3, -⟩ := fnd_pos h
  exact ⟨k, h1, by simpa using h3⟩
theorem has_fix {n : Nat} {T : Nat → ByteArray} {t : ByteArray} (h : ∃ k, k < n ∧ T k = t) : 0 ≤ fix T t n := by
  obtain ⟨k, hk, e⟩ := h
  rcases Int.lt_or_le (fix T t n) 0 with g | g
  · have := fnd_neg g k hk
    rw [decide_eq_false_iff_not] at this
    exact absurd e this
  · exact g
theorem pos_at {n : Nat} {T : Nat → ByteArray} (h : Srt T n) {b : Nat} (hb : b < n) : pos n T (T b) = b := by
  have q := pos_of (T := T) (t := T b) ⟨b, hb, rfl⟩
  exact srt_inj h q.1 hb q.2
/-- The length between two fixes. -/
def dst (n : Nat) (N : Nat → ByteArray) (X Y : Nat → Int) (s t : ByteArray) : Int := dup (sqr (X (pos n N s)) (Y (pos n N s)) (X (pos n N t)) (Y (pos n N t)))
/-- The graph. -/
def gr (n : Nat) (N : Nat → ByteArray) (X Y : Nat → Int) (m : Nat) (l : Nat → Nat) (S : Nat → Nat → ByteArray) : Short.Gr where
  N := n
  deg := fun i => (links l S (gS n N i) m).length
  lk := fun i j => pos n (gS n N) ((links l S (gS n N i) m).getD j ⟨#[]⟩)
  d := fun a b => dst n N X Y (gS n N a) (gS n N b)
section
variable {n : Nat} {N : Nat → ByteArray} {X Y : Nat → Int} {m : Nat} {M : Nat → ByteArray} {l : Nat → Nat} {S : Nat → Nat → ByteArray}
theorem link_in (h : cerr n N X Y m M l S = 0) {s t : ByteArray} (q : t ∈ links l S s m) : ∃ k, k < n ∧ gS n N k = t := by
  obtain ⟨j, hj, e⟩ := fix_has (links_fix h q)
  obtain ⟨k, hk, e2⟩ := gS_has (N := N) hj
  exact ⟨k, hk, e2.trans e⟩
theorem link_at {L : List ByteArray} {i : Nat} (hi : i < L.length) : L.getD i ⟨#[]⟩ ∈ L := by
  rw [List.getD_eq_getElem?_getD, List.getElem?_eq_getElem hi]
  exact List.getElem_mem hi
theorem gr_lk (h : cerr n N X Y m M l S = 0) {a i : Nat} (hi : i < (gr n N X Y m l S).deg a) : (gr n N X Y m l S).lk a i < n ∧ gS n N ((gr n N X Y m l S).lk a i) = (links l S (gS n N a) m).getD i ⟨#[]⟩ :=
  pos_of (link_in h (link_at hi))
theorem gr_adj (h : cerr n N X Y m M l S = 0) {a b : Nat} : (gr n N X Y m l S).adj a b ↔ b < n ∧ gS n N b ∈ links l S (gS n N a) m := by
  constructor
  · rintro ⟨i, hi, e⟩
    have q := gr_lk h hi
    rw [e] at q
    exact ⟨q.1, by rw [q.2]; exact link_at hi⟩
  · rintro ⟨hb, hm⟩
    obtain ⟨i, hi, e⟩ := List.mem_iff_getElem.1 hm
    refine ⟨i, hi, ?_⟩
    show pos n (gS n N) ((links l S (gS n N a) m).getD i ⟨#[]⟩) = b
    rw [List.getD_eq_getElem?_getD, List.getElem?_eq_getElem hi, Option.getD_some, e]
    exact pos_at (gS_srt (once h)) hb
theorem sqr_turn (ax ay bx by' : Int) : sqr ax ay bx by' = sqr bx by' ax ay := by unfold sqr; grind
theorem dst_turn (s t : ByteArray) : dst n N X Y s t = dst n N X Y t s := by unfold dst; rw [sqr_turn]
theorem sqr_some {ax ay bx by' : Int} (h : ¬ (ax = bx ∧ ay = by')) : 0 < sqr ax ay bx by' := by
  have h0 := sqr_nonneg ax ay bx by'
  rcases Int.lt_or_eq_of_le h0 with q | q
  · exact q
  · refine absurd ?_ h
    unfold sqr at q
    have h1 : 0 ≤ (ax - bx) * (ax - bx) := by
      rcases Int.le_total 0 (ax - bx) with g | g
      · exact Int.mul_nonneg g g
      · exact Int.mul_nonneg_of_nonpos_of_nonpos g g
    have h2 : 0 ≤ (ay - by') * (ay - by') := by
      rcases Int.le_total 0 (ay - by') with g | g
      · exact Int.mul_nonneg g g
      · exact Int.mul_nonneg_of_nonpos_of_nonpos g g
    have e1 : (ax - bx) * (ax - bx) = 0 := by omega
    have e2 : (ay - by') * (ay - by') = 0 := by omega
    have f1 := Int.mul_eq_zero.1 e1
    have f2 := Int.mul_eq_zero.1 e2
    omega
theorem dst_bd (h : cerr n N X Y m M l S = 0) (h0 : 0 < n) (s t : ByteArray) : 0 ≤ dst n N X Y s t ∧ dst n N X Y s t ≤ 2828428 := by
  have g : ∀ k, k < n → good (X k) (Y k) := fun k hk => (fe_ok ((cerr_ok h).2.2.1 k hk)).2.2
  have q := sqr_near (g _ (pos_lt (N := N) s h0)) (g _ (pos_lt (N := N) t h0))
  have q0 := sqr_nonneg (X (pos n N s)) (Y (pos n N s)) (X (pos n N t)) (Y (pos n N t))
  exact ⟨(dup_spec q0).1, (dup_le q0 q).1⟩
theorem dst_link (h : cerr n N X Y m M l S = 0) {s t : ByteArray} (q : t ∈ links l S s m) : 1 ≤ dst n N X Y s t := by
  rw [links_mem h] at q
  obtain ⟨a, ha, i, hi, h3⟩ := q
  have one : ∀ x y, S a i = x → S a (i + 1) = y → 1 ≤ dst n N X Y y x := by
    intro x y e1 e2
    have q := (aerr_len ((cerr_ok h).2.2.2 a ha)).2.2.2.2.2 (i + 1) hi
    unfold nerr at q
    split at q
    · exact absurd q (by decide)
    · split at q
      · exact absurd q (by decide)
      · split at q
        · exact absurd q (by decide)
        · rename_i h4
          rw [show i + 1 - 1 = i from rfl, e1, e2] at h4
          have hs : 0 < sqr (X (pos n N y)) (Y (pos n N y)) (X (pos n N x)) (Y (pos n N x)) := sqr_some fun g => h4 ⟨Nat.succ_pos i, g⟩
          have d := dup_spec (Int.le_of_lt hs)
          unfold dst
          rcases Int.lt_or_le 0 (dup (sqr (X (pos n N y)) (Y (pos n N y)) (X (pos n N x)) (Y (pos n N x)))) with g | g
          · omega
          · have e : dup (sqr (X (pos n N y)) (Y (pos n N y)) (X (pos n N x)) (Y (pos n N x))) = 0 := by have := d.1; omega
            have := d.2.1
            rw [e] at this
            omega
  rcases h3 with ⟨e1, e2⟩ | ⟨e1, e2⟩
  · rw [dst_turn]; exact one _ _ e1 e2
  · exact one _ _ e1 e2
theorem gr_ok (h : cerr n N X Y m M l S = 0) : (gr n N X Y m l S).Ok 10000000 where
  lt := fun k _ i hi => (gr_lk h hi).1
  sym := fun a ha b hab => by
    have ⟨hb, q⟩ := (gr_adj h).1 hab
    exact (gr_adj h).2 ⟨ha, links_symm h q⟩
  dsym := fun a b => dst_turn _ _
  pos := fun a ha b hab => by
    have ⟨hb, q⟩ := (gr_adj h).1 hab
    have h0 : 0 < n := by omega
    have b1 := dst_bd h h0 (gS n N a) (gS n N b)
    exact ⟨dst_link h q, by show dst n N X Y _ _ ≤ _; omega⟩
  deg32 := fun k _ => by
    have h1 := links_len (l := l) (S := S) (s' := gS n N k) (m := m)
    have h2 := (cerr_ok h).2.1
    show (links l S (gS n N k) m).length ≤ 32
    omega
  n64 := (cerr_ok h).1
  b0 := by decide
end
end Net
end Go.Proofs.Ytokioemmjfjhkaa
namespace Go.Proofs.Ytokioemmjfjhkaa
open Go.RowKit
namespace Net
open Kit Chart Short Route
theorem nv_parts {w : World} {v : Value} {G : Gr} {S : Nat → ByteArray} (h : NV w v G S) (h0 : 0 < G.N) : ∃ ba oa ca bb ob cb bc oc cc, v = .agg #[.slice (some ⟨ba, oa, none⟩) G.N ca, .slice (some ⟨bb, ob, none⟩) G.N cb, .slice (some ⟨bc, oc, none⟩) G.N cc] ∧ (G.N ≤ ca ∧ ca ≤ 9223372036854775807) ∧ (G.N ≤ cb ∧ cb ≤ 9223372036854775807) ∧ (G.N ≤ cc ∧ cc ≤ 9223372036854775807) ∧
    (∀ k, k < G.N → w.cell? ⟨ba, oa + k, none⟩ = some (.string (S k))) ∧ (∀ k, k < G.N → ∃ u, w.cell? ⟨bb, ob + k, none⟩ = some u ∧ IV w u (G.deg k) (fun i => (G.lk k i : Int))) ∧ (∀ k, k < G.N → ∃ u, w.cell? ⟨bc, oc + k, none⟩ = some u ∧ IV w u (G.deg k) (fun i => G.d k (G.lk k i))) := by
  obtain ⟨a, b, c, rfl, h1, h2, h3⟩ := h.ex
  obtain ⟨ba, oa, ca, rfl, p1, p2, p3⟩ := sv_at0 h1 h0
  obtain ⟨bb, ob, cb, rfl, q1, q2, q3⟩ := lv_at h2 h0
  obtain ⟨bc, oc, cc, rfl, r1, r2, r3⟩ := lv_at h3 h0
  exact ⟨ba, oa, ca, bb, ob, cb, bc, oc, cc, rfl, ⟨p1, Nat.le_trans p2 (by decide)⟩, ⟨q1, Nat.le_trans q2 (by decide)⟩, ⟨r1, Nat.le_trans r2 (by decide)⟩, p3, q3, r3⟩
/-- The shortest lengths. -/
theorem lengthsC {w : World} {v cv : Value} {G : Gr} {S : Nat → ByteArray} {cl : Nat → Bool} {tgt : Nat} (hv : NV w v G S) (hG : G.Ok 10000000) (hto : tgt < G.N) (hc : BV w cv G.N cl) :
    Calls Try.prog 41 #[v, .int .i64 tgt, cv] w fun e w' => (∃ u o, e = .returned u ∧ IV w' u G.N o ∧ Fin G tgt cl o ∧ ∀ k, k < G.N → o k ≤ 640000000) ∧ Below w.heap.size w w' := by
  obtain ⟨ba, oa, ca, bb, ob, cb, bc, oc, cc, rfl, -, h2, h3, -, h5, h6⟩ := nv_parts hv (by omega)
  obtain ⟨bv, ov, cv', rfl, g1, g2, g3⟩ := bv_at hc (by omega)
  exact lengths_w _ ca bb ob cb bc oc cc bv ov cv' tgt G 10000000 cl w hG (Int.le_refl _) hto h2 h3 ⟨g1, Nat.le_trans g2 (by decide)⟩ (Lib.hid h5) (Lib.hid h6) (Lib.hid g3)
/-- The shortest way. -/
theorem wayC {w : World} {v cv : Value} {G : Gr} {S : Nat → ByteArray} {cl : Nat → Bool} {fr tgt : Nat} (bar : Int) (hv : NV w v G S) (hG : G.Ok 10000000) (ha : fr < G.N) (hto : tgt < G.N) (hct : fr ≠ tgt → cl tgt = false) (hc : BV w cv G.N cl) :
    Calls Try.prog 44 #[v, .int .i64 fr, .int .i64 tgt, cv, .int .i64 bar] w fun e w' => WayR G fr tgt cl bar e w' ∧ Below w.heap.size w w' := by
  by_cases hne : fr = tgt
  · subst hne
    obtain ⟨a, b, c, rfl, -⟩ := hv.ex
    exact way_same a b c fr bar cv G 10000000 cl w hG ha
  · obtain ⟨ba, oa, ca, bb, ob, cb, bc, oc, cc, rfl, -, h2, h3, -, h5, h6⟩ := nv_parts hv (by omega)
    obtain ⟨bv, ov, cv', rfl, g1, g2, g3⟩ := bv_at hc (by omega)
    exact way_w _ ca bb ob cb bc oc cc bv ov cv' fr tgt bar G 10000000 cl w hG (Int.le_refl _) ha hto hne (hct hne) h2 h3 ⟨g1, Nat.le_trans g2 (by decide)⟩ (Lib.hid h5) (Lib.hid h6) (Lib.hid g3)
/-- The names of numbers. -/
theorem textC {w : World} {v u : Value} {G : Gr} {S : Nat → ByteArray} {n : Nat} {g : Nat → Nat} (hv : NV w v G S) (hN : G.N ≤ 64) (h0 : 0 < G.N) (hn : n ≤ 100) (hu : IV w u n (fun i => (g i : Int))) (hg : ∀ k, k < n → g k < G.N) :
    Calls Try.prog 45 #[v, u] w fun e w' => (∃ x, e = .returned x ∧ SL w' x (nms S g n)) ∧ Below w.heap.size w w' := by
  obtain ⟨ba, oa, ca, bb, ob, cb, bc, oc, cc, rfl, h1, -, -, h4, -, -⟩ := nv_parts hv h0
  rcases hu with ⟨rfl, h⟩ | ⟨hp, b, off, cap, rfl, k1, k2, k3⟩
  · rcases h with rfl | ⟨a, c, rfl, hc'⟩
    · exact text_w ba oa ca 0 0 G.N none _ _ S g w hN hn h1 (by decide) ⟨_, _, _, rfl⟩ ⟨_, _, _, rfl⟩ (Lib.hid h4) (Lib.hid (Or.inl ⟨rfl, Or.inl rfl⟩)) (Lib.hid hg)
    · exact text_w ba oa ca 0 c G.N (some a) _ _ S g w hN hn h1 ⟨Nat.zero_le _, Nat.le_trans hc' (by decide)⟩ ⟨_, _, _, rfl⟩ ⟨_, _, _, rfl⟩ (Lib.hid h4) (Lib.hid (Or.inl ⟨rfl, Or.inr ⟨a, c, rfl, hc'⟩⟩)) (Lib.hid hg)
  · exact text_w ba oa ca n cap G.N _ _ _ S g w hN hn h1 ⟨k1, Nat.le_trans k2 (by decide)⟩ ⟨_, _, _, rfl⟩ ⟨_, _, _, rfl⟩ (Lib.hid h4) (Lib.hid (Or.inr ⟨hp, b, off, cap, rfl, k1, k2, k3⟩)) (Lib.hid hg)
/-- Where a name stands. -/
theorem find_fix {w : World} {v : Value} {G : Gr} {S : Nat → ByteArray} (hv : NV w v G S) (hs : Srt S G.N) (hn : G.N ≤ 1000000) (x : ByteArray) :
    Calls Try.prog 42 #[v, .string x] w fun e w' => e = .returned (.int .i64 (fix S x G.N)) ∧ Below w.heap.size w w' := by
  refine (findC hv hs hn x).mono ?_
  rintro e w' ⟨h, hb⟩
  refine ⟨?_, hb⟩
  rcases h with ⟨k, hk, e1, rfl⟩ | ⟨h, rfl⟩
  · have q := pos_of (T := S) (t := x) ⟨k, hk, e1⟩
    have q2 : pos G.N S x = k := srt_inj hs q.1 hk (q.2.trans e1.symm)
    have q3 := has_fix (T := S) (t := x) ⟨k, hk, e1⟩
    unfold pos at q2
    rw [show fix S x G.N = (k : Int) by omega]
  · have q : fix S x G.N = -1 := fnd_no fun k hk => decide_eq_false (h k hk)
    rw [q]
end Net
end Go.Proofs.Ytokioemmjfjhkaa
