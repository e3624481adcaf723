/- PolygonOverlap: two polygons overlap if one contains a vertex of the other one inside; the order does not matter; a polygon overlaps itself. For every input. -/
import Derived.Test.YtlokkffpmjlihaaOvD
import Derived.Test.YtlokkffpmjlihaaPolyWorks
namespace Go.Proofs.Ytlokkffpmjlihaa
open Go.RowKit Go.ChangeShapes Go.WideShapes
namespace PolygonOverlap
open Kit Plane Poly Vol Over
abbrev OvC (u v : Value) (B : Bool) (E : Int) (w : World) : Prop := ∀ w1, Below w.heap.size w w1 → Calls Try.prog 31 #[u, v] w1 fun e w' => e = .returned (.tuple #[.bool B, .int .i64 E]) ∧ Below w1.heap.size w1 w'
abbrev LoC (v : Value) (qx qy p : Int) (w : World) : Prop := ∀ w1, Below w.heap.size w w1 → Calls Try.prog 28 #[v, .agg #[.int .i64 qx, .int .i64 qy]] w1 fun e w' => e = .returned (.tuple #[.int .i64 p, .int .i64 0]) ∧ Below w1.heap.size w1 w'
set_option maxHeartbeats 2000000 in
theorem bad (u v : Value) (E : Int) (w : World) (O : Hid (OvC u v false E w)) (_hE1 : (E == 0) = false) (hE2 : (E != 0) = true) :
    Calls Try.prog 10 #[u, v] w fun e w' => e = .returned (.bool true) ∧ Below w.heap.size w w' := by
  go_enter Try.func10, Try.ntmps10
  go_wp2_with fail
  refine (polygonWorks _).mono ?_; rintro e w1 ⟨rfl, hb⟩
  have W1 := Lib.hid hb; clear hb
  go_wp2_with fail
  (with_reducible refine (O.out _ W1.out).mono ?_); rintro e w2 ⟨rfl, hb⟩
  have W2 := Lib.hid (b_next W1.out hb); clear hb
  go_wp2_with fail
  all_goals (go_ret; exact ⟨by first | rfl | exact retb rfl, W2.out⟩)
set_option maxHeartbeats 4000000 in
theorem ok (n cap b off : Nat) (v : Value) (X Y pv : Nat → Int) (B : Bool) (w : World) (_h0 : 0 < n) (hc : n ≤ cap) (hm : cap ≤ 9223372036854775807) (HV : Hid (∀ k, k < n → E2 w b off k (X k) (Y k)))
    (O1 : Hid (OvC (.slice (some ⟨b, off, none⟩) n cap) v B 0 w)) (O2 : Hid (OvC v (.slice (some ⟨b, off, none⟩) n cap) B 0 w)) (O3 : Hid (OvC (.slice (some ⟨b, off, none⟩) n cap) (.slice (some ⟨b, off, none⟩) n cap) true 0 w))
    (LO : Hid (∀ k, k < n → LoC v (X k) (Y k) (pv k) w)) (HI : Hid (∀ k, k < n → 0 < pv k → B = true)) :
    Calls Try.prog 10 #[.slice (some ⟨b, off, none⟩) n cap, v] w fun e w' => e = .returned (.bool true) ∧ Below w.heap.size w w' := by
  have bb : ∀ x : Bool, (x != x) = false := fun x => by cases x <;> rfl
  have BB := Lib.hid (bb B); clear bb
  go_enter Try.func10, Try.ntmps10
  go_wp2_with fail
  refine (polygonWorks _).mono ?_; rintro e w1 ⟨rfl, hb⟩
  have W1 := Lib.hid hb; clear hb
  go_wp2_with fail
  (with_reducible refine (O1.out _ W1.out).mono ?_); rintro e w2 ⟨rfl, hb⟩
  have W2 := Lib.hid (b_next W1.out hb); clear hb
  go_wp2_with fail
  (with_reducible refine (O2.out _ W2.out).mono ?_); rintro e w3 ⟨rfl, hb⟩
  have W3 := Lib.hid (b_next W2.out hb); clear hb
  have bb := BB.out
  go_wp2_with fail
  clear bb
  go_loopw [43, 9] (fun s q wr => ∃ k : Nat, ∃ r : Bool, k ≤ n ∧ s = .int .i64 k ∧ q = .bool r ∧ (r = true → B = true) ∧ Below w.heap.size w wr) (fun s _ _ => n - (intOf s).toNat)
  case atStart => exact ⟨0, false, Nat.zero_le _, rfl, rfl, fun h => (by cases h), W3.out⟩
  case round =>
    obtain ⟨k, r, hk, rfl, rfl, hr, hbl⟩ := hrel
    have HR := Lib.hid hr; have WR := Lib.hid hbl; clear hr
    by_cases hlt : k < n
    · have hl : (k : Int) < (n : Int) := by omega
      obtain ⟨c0, c1⟩ := e2_keep hbl (HV.out k hlt)
      have LL := Lib.hid (LO.out k hlt); have HH := Lib.hid (HI.out k hlt)
      have P1 := Lib.hid (p2_new wr 34 (X k) (Y k))
      have W5 := Lib.hid (b_alloc WR.out (.cells #[.int .i64 (X k), .int .i64 (Y k)] 34))
      clear hbl
      generalize X k = x at *
      generalize Y k = y at *
      generalize pv k = p at *
      go_wp2_with fail
      (with_reducible refine (LL.out _ W5.out).mono ?_); rintro e w6 ⟨rfl, hb⟩
      have W6 := Lib.hid (b_next W5.out hb); clear hb
      by_cases hp : 0 < p
      · have q1 := decide_eq_true hp
        have e := HH.out hp
        subst e
        cases r <;> (go_wp2_with fail) <;> exact ⟨⟨k + 1, true, by omega, by go_num, rfl, fun _ => by first | rfl | trivial, W6.out⟩, by simp [intOf]; omega⟩
      · have q1 := decide_eq_false hp
        cases r with
        | true =>
          have e := HR.out rfl
          subst e
          go_wp2_with fail
          exact ⟨⟨k + 1, true, by omega, by go_num, rfl, fun _ => by first | rfl | trivial, W6.out⟩, by simp [intOf]; omega⟩
        | false =>
          go_wp2_with fail
          exact ⟨⟨k + 1, false, by omega, by go_num, rfl, fun h => (by cases h), W6.out⟩, by simp [intOf]; omega⟩
    · have hkn : k = n := by omega
      have hl : ¬ (k : Int) < (n : Int) := by omega
      clear hbl
      go_wp2_with fail
      (with_reducible refine (O3.out _ WR.out).mono ?_); rintro e w6 ⟨rfl, hb⟩
      have W6 := Lib.hid (b_next WR.out hb); clear hb
      cases r with
      | true =>
        have e := HR.out rfl
        subst e
        go_wp2_with fail
        go_ret
        exact ⟨by first | rfl | exact retb rfl, W6.out⟩
      | false =>
        cases B <;> (go_wp2_with fail) <;> (go_ret; exact ⟨by first | rfl | exact retb rfl, W6.out⟩)
theorem walk (p : Value) (q : Value) (W : World) (h_p : Frame.Okc W (.sl [.int, .int]) p) (h_q : Frame.Okc W (.sl [.int, .int]) q) :
    Calls Try.prog 10 #[p, q] W fun e w' => e = .returned (.bool true) ∧ Below W.heap.size W w' := by
  obtain ⟨n, X, Y, hu, -⟩ := qv_of h_p
  obtain ⟨m, U, V, hv, -⟩ := qv_of h_q
  obtain ⟨B1, h1⟩ := bool_of (EntD n X Y m U V)
  obtain ⟨B2, h2⟩ := bool_of (EntD m U V n X Y)
  obtain ⟨B3, h3⟩ := bool_of (EntD n X Y n X Y)
  have O1 := fun w1 (hb : Below W.heap.size W w1) => ov_full (qv_keep hb hu) (qv_keep hb hv) h1 h2
  have O2 := fun w1 (hb : Below W.heap.size W w1) => ov_full (qv_keep hb hv) (qv_keep hb hu) h2 h1
  have O3 := fun w1 (hb : Below W.heap.size W w1) => ov_full (qv_keep hb hu) (qv_keep hb hu) h3 h3
  rcases ov_err (n := n) (X := X) (Y := Y) (m := m) (U := U) (V := V) (B1 := B1) (B2 := B2) with ⟨he, hp, hq⟩ | ⟨he, hf⟩
  · rw [ov_sym hp hq] at O2
    rw [ov_self h3 hp] at O3
    rw [he] at O1 O2
    have LO : ∀ k, k < n → LoC q (X k) (Y k) (place m U V (X k) (Y k)) W := fun k hk w1 hb => by
      obtain ⟨-, -, hg, -, -⟩ := pck_ok hp
      have := locC (qv_keep hb hv) (X k) (Y k)
      unfold loc at this
      rw [if_neg (fun h => h hq), if_neg (by
        have h1 : goodB (X k) (Y k) = true := goodB_iff.2 (hg k hk)
        rw [h1]; decide)] at this
      exact this
    have HI : ∀ k, k < n → 0 < place m U V (X k) (Y k) → (ovR n X Y m U V B1 B2).1 = true := fun k hk hpos => ov_inside h1 hp hq hk (by
      unfold place at hpos ⊢
      split at hpos
      · omega
      · rename_i hc
        rw [if_neg hc]
        rcases pin_bd m U V (X k) (Y k) m with h | h <;> omega)
    rcases hu with ⟨h, -⟩ | ⟨n0, b, off, c, e, hc1, hc2, HP⟩
    · obtain ⟨n3, -, -, -, -⟩ := pck_ok hp; omega
    · subst e
      exact ok n c b off q X Y _ _ W n0 hc1 (Nat.le_trans hc2 (by decide)) (Lib.hid HP) (Lib.hid O1) (Lib.hid O2) (Lib.hid O3) (Lib.hid LO) (Lib.hid HI)
  · rw [hf] at O1
    exact bad p q _ W (Lib.hid O1) (by simpa using he) (by simpa using he)
-- FRAME --

set_option maxRecDepth 100000 in
theorem lifted (os : Os) (started : os.Started) (H : Type) (enc : TypeId × Value → H) :
    ReturnsInHanded {} Try.checked os 10 .any (Rows.polygonOverlapSpec.pre6 enc Try.prog Try.f10 Rows.polygonOverlapRow.domain false) (Rows.polygonOverlapSpec.post enc Try.prog Try.f10 false true false false) :=
  Frame.lifted (C := Try.checked) 10 Try.f10 Try.own started (by kernel_rfl) Try.func10 Try.laidOut rfl (by kernel_rfl) 4 rfl Try.underlying4
      (fun ds h => by match ds, h with | [_, _], _ => rfl)
      (ChangeSpec.witness6 (enc := enc) (C := Try.checked) false ⟨#[], #[.slice none 0 0, .slice none 0 0], []⟩ 8 (by kernel_rfl) (by kernel_rfl) (by kernel_rfl) (by kernel_rfl))
      (fun W base args ds ps hval0 hA _ => by
        have hval : ∀ (j : Nat) t v, Try.f10.params[j]? = some t → args[j]? = some v → Value.okWide Try.prog W .any base t v := hval0
        have hA' : DataW.TrodAll enc Try.prog W 0 (fun _ => true) true Try.f10.params.toList args.toList ds ps := hA
        clear hval0 hA
        have hA := hA'
        clear hA'
        rw [Try.params10] at hA hval
        obtain ⟨v0, vs0, d0, ds0, p0, q0, ea, rfl, rfl, tr0, rest0⟩ := trodAll_cons hA
        obtain ⟨v1, vs1, d1, ds1, p1, q1, rfl, rfl, rfl, tr1, rest1⟩ := trodAll_cons rest0
        obtain ⟨rfl, rfl, rfl⟩ := trodAll_nil rest1
        obtain rfl : args = #[v0, v1] := by cases args; simp_all
        clear ea
        have sl_p : Frame.Okc W (.sl [.int, .int]) v0 := by obtain ⟨a, l, c, e⟩ := okWide_slice Try.underlying46 (hval 0 _ v0 rfl rfl); exact Frame.arg_cell (k := 8) (by kernel_rfl) (by have e2 : v0 = .slice a l c := e; rw [e2]; rfl) tr0
        have sl_q : Frame.Okc W (.sl [.int, .int]) v1 := by obtain ⟨a, l, c, e⟩ := okWide_slice Try.underlying46 (hval 1 _ v1 rfl rfl); exact Frame.arg_cell (k := 8) (by kernel_rfl) (by have e2 : v1 = .slice a l c := e; rw [e2]; rfl) tr1
        exact walk v0 v1 W sl_p sl_q)

/-- The statement. -/
theorem proved : Rows.PolygonOverlapSaid :=
  OpenClaim.holds_of_wide 10 Try.f10 rfl rfl rfl rfl rfl rfl rfl ⟨rfl, rfl, rfl, rfl, rfl⟩ rfl rfl rfl rfl rfl (by kernel_rfl) Try.func10 (by kernel_rfl)
    (of_decide_eq_true (by kernel_rfl)) (by unfold Func.isWrapper; first | (rw [if_pos (by decide +kernel)]; kernel_rfl) | (rw [if_neg (by decide +kernel)]; exact ⟨rfl, rfl⟩))
    (fun os started H enc _ => lifted os started H enc)
#print axioms proved
end PolygonOverlap
end Go.Proofs.Ytlokkffpmjlihaa

