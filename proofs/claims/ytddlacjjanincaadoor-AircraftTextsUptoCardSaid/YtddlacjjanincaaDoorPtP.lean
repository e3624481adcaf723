/- plantext.Print: what it returns. -/
import Derived.Test.YtddlacjjanincaaDoorPtN
import Derived.Test.YtddlacjjanincaaDoorSpl
import Derived.Test.YtddlacjjanincaaDoorPlanC
import Derived.Test.YtddlacjjanincaaDoorExpB
import Derived.Test.YtddlacjjanincaaDoorTail
import Derived.Test.YtddlacjjanincaaDoorOwnS
import Derived.Shelf.Strings.OnBuilder
import Derived.Lib.ItoaLen
namespace Go.Proofs.YtddlacjjanincaaDoor
open Go.RowKit Go.Shelf
shelf_lay Lays.n156 Nm 156 at Tryd as joinLays
namespace Pt
open Kit Chart Route Plan Name
theorem extra : Builder.Extra Tryd.prog joinLays_ren where
  sizeBuilder := by kernel_rfl
  liesBuilder := by kernel_rfl
  t5 := Tryd.underlying5
  a5 := Tryd.isAgg5
  z5 := Tryd.sizeOf5
  v5 := Tryd.zeroValue5
  infoByte := by kernel_rfl
  cellsByte := by kernel_rfl
  sizeByte := by kernel_rfl
  neB5 := by decide
/-- The fields of a plan's text. -/
def fld (c k f t : ByteArray) (off sp h : Int) (R : List ByteArray) : List ByteArray := [c, k, f, t, txt off, txt sp, txt h] ++ R
abbrev raw (L : List ByteArray) : List (List UInt8) := L.map fun x => x.data.toList
/-- The text of a plan. -/
def ptext (c k f t : ByteArray) (off sp h : Int) (R : List ByteArray) : ByteArray := ⟨(Spl.jn 32 (raw (fld c k f t off sp h R))).toArray⟩
theorem jn_len : ∀ (xs : List (List UInt8)) (m : Nat), (∀ x ∈ xs, x.length ≤ m) → (Spl.jn 32 xs).length ≤ (m + 1) * xs.length
  | [], _, _ => Nat.zero_le _
  | [x], m, h => by rw [Spl.jn_one]; have := h x List.mem_cons_self; simp; omega
  | x :: y :: t, m, h => by
    have ih := jn_len (y :: t) m fun z hz => h z (List.mem_cons_of_mem _ hz)
    have := h x List.mem_cons_self
    rw [Spl.jn_cons, List.length_append, List.length_cons]
    show _ ≤ (m + 1) * ((y :: t).length + 1)
    rw [Nat.mul_succ]
    omega
theorem name_len {s : ByteArray} (h : nameB s = true) : s.size ≤ 8 := by
  unfold nameB at h
  exact (of_decide_eq_true h).2.1
theorem size_raw (s : ByteArray) : s.data.toList.length = s.size := by rw [Array.length_toList]; rfl
/-- What a plan without a fault gives. -/
structure PlOk (c k f t : ByteArray) (off sp h : Int) (R : List ByteArray) : Prop where
  nm : nameB c = true ∧ nameB k = true ∧ nameB f = true ∧ nameB t = true
  off : 0 ≤ off ∧ off ≤ 200000
  sp : 1 ≤ sp ∧ sp ≤ 400
  h : 1 ≤ h ∧ h ≤ 60000
  len : R.length ≤ 24
  rt : ∀ x ∈ R, nameB x = true
abbrev rtF (R : List ByteArray) : Nat → ByteArray := fun k => R.getD k ⟨#[]⟩
theorem plan_ok {c k f t : ByteArray} {off sp h : Int} {R : List ByteArray} (e : planE c k f t off sp h R.length (rtF R) = 0) : PlOk c k f t off sp h R := by
  unfold planE at e
  split at e
  · exact absurd e (by decide)
  rename_i h1
  split at e
  · exact absurd e (by decide)
  rename_i h2
  split at e
  · exact absurd e (by decide)
  rename_i h3
  split at e
  · exact absurd e (by decide)
  rename_i h4
  split at e
  · exact absurd e (by decide)
  rename_i h5
  have b : ∀ s : ByteArray, nameB s ≠ false → nameB s = true := fun s q => by simpa using q
  refine ⟨⟨b c fun q => h1 (Or.inl q), b k fun q => h1 (Or.inr (Or.inl q)), b f fun q => h1 (Or.inr (Or.inr (Or.inl q))), b t fun q => h1 (Or.inr (Or.inr (Or.inr q)))⟩, by omega, by omega, by omega, by omega, fun x hx => ?_⟩
  obtain ⟨i, hi, rfl⟩ := List.mem_iff_getElem.1 hx
  have q := fnd_neg (Int.not_le.1 h5) i hi
  rw [rtF, List.getD_eq_getElem?_getD, List.getElem?_eq_getElem hi] at q
  simpa using q
theorem plan_zero {c k f t : ByteArray} {off sp h : Int} {R : List ByteArray} (e : PlOk c k f t off sp h R) : planE c k f t off sp h R.length (rtF R) = 0 := by
  unfold planE
  rw [if_neg (by rw [e.nm.1, e.nm.2.1, e.nm.2.2.1, e.nm.2.2.2]; simp), if_neg (by have := e.off; omega), if_neg (by have := e.sp; have := e.h; omega), if_neg (by have := e.len; omega), if_neg]
  intro q
  obtain ⟨i, hi, -, h2, -⟩ := fnd_pos q
  have := e.rt (rtF R i) (by rw [rtF, List.getD_eq_getElem?_getD, List.getElem?_eq_getElem hi]; exact List.getElem_mem hi)
  rw [this] at h2
  exact absurd h2 (by decide)
theorem fld_len {c k f t : ByteArray} {off sp h : Int} {R : List ByteArray} (e : PlOk c k f t off sp h R) : ∀ x ∈ raw (fld c k f t off sp h R), x.length ≤ 21 := by
  intro x hx
  obtain ⟨s, hs, rfl⟩ := List.mem_map.1 hx
  have nm : ∀ s : ByteArray, nameB s = true → s.data.toList.length ≤ 21 := fun s q => by rw [size_raw]; have := name_len q; omega
  have it : ∀ n : Int, 0 ≤ n → n ≤ 200000 → (txt n).data.toList.length ≤ 21 := fun n h0 h1 => Lib.itoa_length_le n (by omega) (by omega)
  rcases List.mem_append.1 hs with q | q
  · simp only [List.mem_cons, List.not_mem_nil, or_false] at q
    have a1 := e.off; have a2 := e.sp; have a3 := e.h
    rcases q with rfl | rfl | rfl | rfl | rfl | rfl | rfl
    · exact nm _ e.nm.1
    · exact nm _ e.nm.2.1
    · exact nm _ e.nm.2.2.1
    · exact nm _ e.nm.2.2.2
    · exact it _ a1.1 a1.2
    · exact it _ (by omega) (by omega)
    · exact it _ (by omega) (by omega)
  · exact nm _ (e.rt s q)
theorem text_len {c k f t : ByteArray} {off sp h : Int} {R : List ByteArray} (e : PlOk c k f t off sp h R) : (Spl.jn 32 (raw (fld c k f t off sp h R))).length ≤ 682 := by
  have q := jn_len _ 21 (fld_len e)
  have l : (raw (fld c k f t off sp h R)).length ≤ 31 := by
    have := e.len
    rw [List.length_map]; unfold fld; rw [List.length_append]; simp; omega
  omega
abbrev PrC (c k f t : ByteArray) (off sp h : Int) (r : Value) (w : World) (s : ByteArray) (E : Int) : Prop := Calls Tryd.prog 16 #[plan c k f t off sp h r] w fun e w' => e = .returned (.tuple #[.string s, .int .i64 E]) ∧ Below w.heap.size w w'
set_option maxHeartbeats 1000000 in
theorem print_bad (c k f t : ByteArray) (off sp h : Int) (r : Value) (E : Int) (w : World) (CK : Hid (∀ w1, Below w.heap.size w w1 → Calls Tryd.prog 17 #[plan c k f t off sp h r] w1 fun e w' => e = .returned (.int .i64 E) ∧ Below w1.heap.size w1 w')) (_hE1 : (E == 0) = false) (hE2 : (E != 0) = true) : PrC c k f t off sp h r w ⟨#[]⟩ E := by
  have W0 := Lib.hid (b_alloc (Below.refl w.heap.size w) (.cells #[.string c, .string k, .string f, .string t, .int .i64 off, .int .i64 sp, .int .i64 h, r] 39))
  obtain ⟨x0, x1, x2, x3, x4, x5, x6, x7⟩ := n8_new w 39 c k f t off sp h r
  go_enter Tryd.func16, Tryd.ntmps16
  go_wp2_with fail
  (with_reducible refine (CK.out _ W0.out).mono ?_); rintro e w1 ⟨rfl, hb⟩
  have W1 := Lib.hid (b_next W0.out hb); clear hb
  go_wp2_with fail
  all_goals (go_ret2; exact ⟨rfl, W1.out⟩)
set_option maxRecDepth 100000 in
set_option maxHeartbeats 8000000 in
theorem print_ok (c k f t : ByteArray) (off sp h : Int) (A : Option Addr) (n cap : Nat) (R : List ByteArray) (w : World) (hn : n = R.length) (HR : Hid (SL w (.slice A n cap) R)) (e : Hid (PlOk c k f t off sp h R)) (CK : Hid (∀ w1, Below w.heap.size w w1 → Calls Tryd.prog 17 #[plan c k f t off sp h (.slice A n cap)] w1 fun e w' => e = .returned (.int .i64 0) ∧ Below w1.heap.size w1 w'))
    (IT : Hid (∀ n : Int, -9223372036854775808 ≤ n → n ≤ 9223372036854775807 → ∀ w1, Below w.heap.size w w1 → Calls Tryd.prog 24 #[.int .i64 n] w1 fun e w' => e = .returned (.string (txt n)) ∧ Below w1.heap.size w1 w')) :
    PrC c k f t off sp h (.slice A n cap) w (ptext c k f t off sp h R) 0 := by
  have W0 := Lib.hid (b_alloc (Below.refl w.heap.size w) (.cells #[.string c, .string k, .string f, .string t, .int .i64 off, .int .i64 sp, .int .i64 h, .slice A n cap] 39))
  have N0 := Lib.hid (n8_new w 39 c k f t off sp h (.slice A n cap))
  have I1 := Lib.hid (IT.out off (by have := e.out.off; omega) (by have := e.out.off; omega))
  have I2 := Lib.hid (IT.out sp (by have := e.out.sp; omega) (by have := e.out.sp; omega))
  have I3 := Lib.hid (IT.out h (by have := e.out.h; omega) (by have := e.out.h; omega))
  have LN := Lib.hid e.out.len
  have TL := Lib.hid (text_len e.out)
  have HN := Lib.hid hn; clear hn
  obtain ⟨i0, hi, hz0, hz1, hz2⟩ := info_parts info_str
  have IN := Lib.hid (And.intro hi (And.intro hz0 (And.intro hz1 hz2))); clear hi hz0 hz1 hz2
  have F7 : Hid ([Value.string c, .string k, .string f, .string t, .string (txt off), .string (txt sp), .string (txt h)] = vs [c, k, f, t, txt off, txt sp, txt h]) := Lib.hid rfl
  have RES : Hid (ptext c k f t off sp h R = ⟨(Lib.join (([c, k, f, t, txt off, txt sp, txt h] ++ R).map fun x => x.data.toList) [32]).toArray⟩) := Lib.hid rfl
  have TL' : Hid ((Lib.join (([c, k, f, t, txt off, txt sp, txt h] ++ R).map fun x => x.data.toList) [32]).length ≤ 682) := TL
  obtain ⟨PT, hPT⟩ : ∃ PT, PT = ptext c k f t off sp h R := ⟨_, rfl⟩
  rw [← hPT] at RES ⊢
  generalize txt off = t1 at *
  generalize txt sp = t2 at *
  generalize txt h = t3 at *
  clear hPT TL e IT
  obtain ⟨x0, x1, x2, x3, x4, x5, x6, x7⟩ := N0.out
  go_enter Tryd.func16, Tryd.ntmps16
  go_wp2_with fail
  obtain ⟨b0, hb0⟩ : ∃ b0, b0 = w.heap.size := ⟨_, rfl⟩
  rw [← hb0] at N0 ⊢
  have HB0 := Lib.hid hb0
  clear hb0 x0 x1 x2 x3 x4 x5 x6 x7
  (with_reducible refine (CK.out _ W0.out).mono ?_); rintro e w1 ⟨rfl, hb⟩
  have W1 := Lib.hid (b_next W0.out hb); have N1 := Lib.hid (n8_keep hb N0.out); clear hb
  obtain ⟨x0, x1, x2, x3, x4, x5, x6, x7⟩ := N1.out
  go_wp2_with fail
  refine Tail.tail_region (by kernel_rfl) (by kernel_rfl) ?_
  apply Tail.Gq.p
  · intro wq
    (go_simp; first | exact Tail.pv_value | exact Tail.pv_skip)
  simp only [Act.put, List.setIfInBounds_toArray, List.set_cons_zero, List.set_cons_succ]
  apply Tail.Gq.r
  · intro wq hc hq
    (have l0 := keep (cls hq) x0; have l1 := keep (cls hq) x1; have l2 := keep (cls hq) x2; have l3 := keep (cls hq) x3; have l4 := keep (cls hq) x4; have l5 := keep (cls hq) x5; have l6 := keep (cls hq) x6; clear hc; go_simp; first | exact q2_value | exact q2_skip | (apply q2_enter; go_at_call 24; with_reducible exact I1.out _ (b_next W1.out (cls hq))) | (apply q2_enter; go_at_call 24; with_reducible exact I2.out _ (b_next W1.out (cls hq))) | (apply q2_enter; go_at_call 24; with_reducible exact I3.out _ (b_next W1.out (cls hq))))
  simp only [Act.put, List.setIfInBounds_toArray, List.set_cons_zero, List.set_cons_succ]
  apply Tail.Gq.p
  · intro wq
    (go_simp; first | exact Tail.pv_value | exact Tail.pv_skip)
  simp only [Act.put, List.setIfInBounds_toArray, List.set_cons_zero, List.set_cons_succ]
  apply Tail.Gq.r
  · intro wq hc hq
    (have l0 := keep (cls hq) x0; have l1 := keep (cls hq) x1; have l2 := keep (cls hq) x2; have l3 := keep (cls hq) x3; have l4 := keep (cls hq) x4; have l5 := keep (cls hq) x5; have l6 := keep (cls hq) x6; clear hc; go_simp; first | exact q2_value | exact q2_skip | (apply q2_enter; go_at_call 24; with_reducible exact I1.out _ (b_next W1.out (cls hq))) | (apply q2_enter; go_at_call 24; with_reducible exact I2.out _ (b_next W1.out (cls hq))) | (apply q2_enter; go_at_call 24; with_reducible exact I3.out _ (b_next W1.out (cls hq))))
  simp only [Act.put, List.setIfInBounds_toArray, List.set_cons_zero, List.set_cons_succ]
  apply Tail.Gq.p
  · intro wq
    (go_simp; first | exact Tail.pv_value | exact Tail.pv_skip)
  simp only [Act.put, List.setIfInBounds_toArray, List.set_cons_zero, List.set_cons_succ]
  apply Tail.Gq.r
  · intro wq hc hq
    (have l0 := keep (cls hq) x0; have l1 := keep (cls hq) x1; have l2 := keep (cls hq) x2; have l3 := keep (cls hq) x3; have l4 := keep (cls hq) x4; have l5 := keep (cls hq) x5; have l6 := keep (cls hq) x6; clear hc; go_simp; first | exact q2_value | exact q2_skip | (apply q2_enter; go_at_call 24; with_reducible exact I1.out _ (b_next W1.out (cls hq))) | (apply q2_enter; go_at_call 24; with_reducible exact I2.out _ (b_next W1.out (cls hq))) | (apply q2_enter; go_at_call 24; with_reducible exact I3.out _ (b_next W1.out (cls hq))))
  simp only [Act.put, List.setIfInBounds_toArray, List.set_cons_zero, List.set_cons_succ]
  apply Tail.Gq.p
  · intro wq
    (go_simp; first | exact Tail.pv_value | exact Tail.pv_skip)
  simp only [Act.put, List.setIfInBounds_toArray, List.set_cons_zero, List.set_cons_succ]
  apply Tail.Gq.r
  · intro wq hc hq
    (have l0 := keep (cls hq) x0; have l1 := keep (cls hq) x1; have l2 := keep (cls hq) x2; have l3 := keep (cls hq) x3; have l4 := keep (cls hq) x4; have l5 := keep (cls hq) x5; have l6 := keep (cls hq) x6; clear hc; go_simp; first | exact q2_value | exact q2_skip | (apply q2_enter; go_at_call 24; with_reducible exact I1.out _ (b_next W1.out (cls hq))) | (apply q2_enter; go_at_call 24; with_reducible exact I2.out _ (b_next W1.out (cls hq))) | (apply q2_enter; go_at_call 24; with_reducible exact I3.out _ (b_next W1.out (cls hq))))
  simp only [Act.put, List.setIfInBounds_toArray, List.set_cons_zero, List.set_cons_succ]
  apply Tail.Gq.p
  · intro wq
    (go_simp; first | exact Tail.pv_value | exact Tail.pv_skip)
  simp only [Act.put, List.setIfInBounds_toArray, List.set_cons_zero, List.set_cons_succ]
  apply Tail.Gq.r
  · intro wq hc hq
    (have l0 := keep (cls hq) x0; have l1 := keep (cls hq) x1; have l2 := keep (cls hq) x2; have l3 := keep (cls hq) x3; have l4 := keep (cls hq) x4; have l5 := keep (cls hq) x5; have l6 := keep (cls hq) x6; clear hc; go_simp; first | exact q2_value | exact q2_skip | (apply q2_enter; go_at_call 24; with_reducible exact I1.out _ (b_next W1.out (cls hq))) | (apply q2_enter; go_at_call 24; with_reducible exact I2.out _ (b_next W1.out (cls hq))) | (apply q2_enter; go_at_call 24; with_reducible exact I3.out _ (b_next W1.out (cls hq))))
  simp only [Act.put, List.setIfInBounds_toArray, List.set_cons_zero, List.set_cons_succ]
  apply Tail.Gq.r
  · intro wq hc hq
    (have l0 := keep (cls hq) x0; have l1 := keep (cls hq) x1; have l2 := keep (cls hq) x2; have l3 := keep (cls hq) x3; have l4 := keep (cls hq) x4; have l5 := keep (cls hq) x5; have l6 := keep (cls hq) x6; clear hc; go_simp; first | exact q2_value | exact q2_skip | (apply q2_enter; go_at_call 24; with_reducible exact I1.out _ (b_next W1.out (cls hq))) | (apply q2_enter; go_at_call 24; with_reducible exact I2.out _ (b_next W1.out (cls hq))) | (apply q2_enter; go_at_call 24; with_reducible exact I3.out _ (b_next W1.out (cls hq))))
  simp only [Act.put, List.setIfInBounds_toArray, List.set_cons_zero, List.set_cons_succ]
  apply Tail.Gq.p
  · intro wq
    (go_simp; first | exact Tail.pv_value | exact Tail.pv_skip)
  simp only [Act.put, List.setIfInBounds_toArray, List.set_cons_zero, List.set_cons_succ]
  apply Tail.Gq.r
  · intro wq hc hq
    (have l0 := keep (cls hq) x0; have l1 := keep (cls hq) x1; have l2 := keep (cls hq) x2; have l3 := keep (cls hq) x3; have l4 := keep (cls hq) x4; have l5 := keep (cls hq) x5; have l6 := keep (cls hq) x6; clear hc; go_simp; first | exact q2_value | exact q2_skip | (apply q2_enter; go_at_call 24; with_reducible exact I1.out _ (b_next W1.out (cls hq))) | (apply q2_enter; go_at_call 24; with_reducible exact I2.out _ (b_next W1.out (cls hq))) | (apply q2_enter; go_at_call 24; with_reducible exact I3.out _ (b_next W1.out (cls hq))))
  simp only [Act.put, List.setIfInBounds_toArray, List.set_cons_zero, List.set_cons_succ]
  apply Tail.Gq.r
  · intro wq hc hq
    (have l0 := keep (cls hq) x0; have l1 := keep (cls hq) x1; have l2 := keep (cls hq) x2; have l3 := keep (cls hq) x3; have l4 := keep (cls hq) x4; have l5 := keep (cls hq) x5; have l6 := keep (cls hq) x6; clear hc; go_simp; first | exact q2_value | exact q2_skip | (apply q2_enter; go_at_call 24; with_reducible exact I1.out _ (b_next W1.out (cls hq))) | (apply q2_enter; go_at_call 24; with_reducible exact I2.out _ (b_next W1.out (cls hq))) | (apply q2_enter; go_at_call 24; with_reducible exact I3.out _ (b_next W1.out (cls hq))))
  simp only [Act.put, List.setIfInBounds_toArray, List.set_cons_zero, List.set_cons_succ]
  apply Tail.Gq.p
  · intro wq
    (go_simp; first | exact Tail.pv_value | exact Tail.pv_skip)
  simp only [Act.put, List.setIfInBounds_toArray, List.set_cons_zero, List.set_cons_succ]
  apply Tail.Gq.r
  · intro wq hc hq
    (have l0 := keep (cls hq) x0; have l1 := keep (cls hq) x1; have l2 := keep (cls hq) x2; have l3 := keep (cls hq) x3; have l4 := keep (cls hq) x4; have l5 := keep (cls hq) x5; have l6 := keep (cls hq) x6; clear hc; go_simp; first | exact q2_value | exact q2_skip | (apply q2_enter; go_at_call 24; with_reducible exact I1.out _ (b_next W1.out (cls hq))) | (apply q2_enter; go_at_call 24; with_reducible exact I2.out _ (b_next W1.out (cls hq))) | (apply q2_enter; go_at_call 24; with_reducible exact I3.out _ (b_next W1.out (cls hq))))
  simp only [Act.put, List.setIfInBounds_toArray, List.set_cons_zero, List.set_cons_succ]
  apply Tail.Gq.r
  · intro wq hc hq
    (have l0 := keep (cls hq) x0; have l1 := keep (cls hq) x1; have l2 := keep (cls hq) x2; have l3 := keep (cls hq) x3; have l4 := keep (cls hq) x4; have l5 := keep (cls hq) x5; have l6 := keep (cls hq) x6; clear hc; go_simp; first | exact q2_value | exact q2_skip | (apply q2_enter; go_at_call 24; with_reducible exact I1.out _ (b_next W1.out (cls hq))) | (apply q2_enter; go_at_call 24; with_reducible exact I2.out _ (b_next W1.out (cls hq))) | (apply q2_enter; go_at_call 24; with_reducible exact I3.out _ (b_next W1.out (cls hq))))
  simp only [Act.put, List.setIfInBounds_toArray, List.set_cons_zero, List.set_cons_succ]
  apply Tail.Gq.t
  apply Tail.Gq.t
  refine Tail.Gq.nil ⟨by kernel_rfl, fun w3 hb3 => ?_⟩
  simp only [List.reverse_cons, List.reverse_nil, List.nil_append, List.cons_append]
  have W3 := Lib.hid (b_next W1.out hb3); have N3 := Lib.hid (n8_keep hb3 N1.out)
  clear hb3 x0 x1 x2 x3 x4 x5 x6 x7
  go_wp2_with fail
  simp only [Kit.Ends]
  have OM := Lib.hid (World.ownsRow_lit (base := w.heap.size) (size := 1) (e := 9) w3 #[.string c, .string k, .string f, .string t, .string t1, .string t2, .string t3] 7 W3.out.size (by decide) rfl)
  have W4 := Lib.hid (b_alloc W3.out (.cells #[.string c, .string k, .string f, .string t, .string t1, .string t2, .string t3] 9))
  have N4 := Lib.hid (n8_keep (b_alloc (Below.refl w3.heap.size w3) (.cells #[.string c, .string k, .string f, .string t, .string t1, .string t2, .string t3] 9)) N3.out)
  obtain ⟨n3, hn3⟩ : ∃ n3, n3 = w3.heap.size := ⟨_, rfl⟩
  rw [← hn3] at OM ⊢
  clear hn3
  generalize w3.alloc (.cells #[.string c, .string k, .string f, .string t, .string t1, .string t2, .string t3] 9) = w4 at *
  have OW : Hid (w4.ownsRow w.heap.size 9 1 (.slice (some ⟨n3, 0, none⟩) 7 7) [c, k, f, t, t1, t2, t3].length (vs [c, k, f, t, t1, t2, t3])) := Lib.hid (by have q := OM.out; exact q)
  have HR4 := Lib.hid (sl_keep W4.out HR.out)
  obtain ⟨x0, x1, x2, x3, x4, x5, x6, x7⟩ := N4.out
  have SZ := Lib.hid W4.out.size
  go_wp2_with (at_builtin; refine append_sl rfl (.tmp 29) (.tmp 31) 37 rfl w.heap.size 9 i0 _ Tryd.underlying37 IN.out.1 IN.out.2.1 IN.out.2.2.1 IN.out.2.2.2 rfl _ _ rfl OW.out _ R rfl HR4.out (by have := LN.out; simp; omega) SZ.out ?_; intro v5 w5 ho' hg'; have ho := Lib.hid ho'; have hg := Lib.hid hg'; clear ho' hg'; refine Hid.out ?_)
  have W5 := Lib.hid (Own0.grow_b W4.out OW.out hg.out (Nat.le_refl _) SZ.out)
  obtain ⟨g, cg, e1, hg1, hg2, hg3, hg4, hgr⟩ := Own0.row_of ho.out (by simp)
  have JC := Any.strings_Join joinLays extra g 0 cg ([c, k, f, t, t1, t2, t3] ++ R) ⟨#[32]⟩ w5 (fun j x hx => by
    have hj := (List.getElem?_eq_some_iff.1 hx).1
    rw [Nat.zero_add, (hgr j hj).1]
    show some (Value.string (([c, k, f, t, t1, t2, t3] ++ R).getD j ⟨#[]⟩)) = _
    rw [List.getD_eq_getElem?_getD, hx]; rfl) hg2 (by have := LN.out; simp; omega) hg3 (Nat.le_trans TL'.out (by decide))
  change Calls Tryd.prog 31 _ _ _ at JC
  rw [show ([c, k, f, t, t1, t2, t3] ++ R).length = R.length + 1 + 1 + 1 + 1 + 1 + 1 + 1 from by rw [List.length_append]; simp; omega] at JC
  subst e1
  have JCH := Lib.hid JC
  clear JC hgr ho hg x0 x1 x2 x3 x4 x5 x6 x7
  refine Lib.hid ?_
  go_wp2_with fail
  (with_reducible refine JCH.out.mono ?_); rintro e w6 ⟨rfl, hb⟩
  have W6 := Lib.hid (b_next W5.out hb); clear hb
  go_wp2_with fail
  go_ret2
  exact ⟨by rw [RES.out]; rfl, W6.out⟩
/-- plantext.Print. -/
theorem printC {w : World} (V : Vars w) {r : Value} {R : List ByteArray} (hr : SL w r R) (c k f t : ByteArray) (off sp h : Int) :
    PrC c k f t off sp h r w (if planE c k f t off sp h R.length (rtF R) = 0 then ptext c k f t off sp h R else ⟨#[]⟩) (planE c k f t off sp h R.length (rtF R)) := by
  have CK := checkC (c := c) (k := k) (f := f) (t := t) (off := off) (sp := sp) (h := h) hr
  by_cases e : planE c k f t off sp h R.length (rtF R) = 0
  · rw [if_pos e, e]
    rw [e] at CK
    obtain ⟨A, cap, rfl⟩ := sl_slice hr
    exact print_ok c k f t off sp h A R.length cap R w rfl (Lib.hid hr) (Lib.hid (plan_ok e)) (Lib.hid CK) (Lib.hid fun n h0 h1 _ hb => itoaC (vars_keep hb V) n h0 h1)
  · rw [if_neg e]
    exact print_bad c k f t off sp h r _ w (Lib.hid CK) (by simpa using e) (by simpa using e)
end Pt
end Go.Proofs.YtddlacjjanincaaDoor
