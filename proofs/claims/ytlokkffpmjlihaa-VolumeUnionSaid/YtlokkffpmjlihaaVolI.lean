/- volume.Free's contract; a union is told by its times. -/
import Derived.Test.YtlokkffpmjlihaaVolG
import Derived.Test.YtlokkffpmjlihaaVolD
namespace Go.Proofs.Ytlokkffpmjlihaa
open Go.RowKit
namespace Vol
open Kit Plane Poly
theorem good_tail {p : Int × Int} {U : List (Int × Int)} {m : Int} (h : Good (p :: U) m) : Good U m := ⟨fun q hq => h.ok q (List.mem_cons_of_mem _ hq), (List.pairwise_cons.1 h.apart).2⟩
theorem inL_cons {p : Int × Int} {U : List (Int × Int)} {t : Int} : InL (p :: U) t ↔ (p.1 ≤ t ∧ t < p.2) ∨ InL U t := by
  rw [show p :: U = [p] ++ U from rfl, inL_app, inL_one]
theorem good_head {p : Int × Int} {U : List (Int × Int)} {m t : Int} (h : Good (p :: U) m) (ht : InL U t) : p.2 < t := by
  obtain ⟨q, hq, h1, h2⟩ := ht
  have := (List.pairwise_cons.1 h.apart).1 q hq
  omega
theorem good_unique : ∀ {U V : List (Int × Int)} {m m' : Int}, Good U m → Good V m' → (∀ t, InL U t ↔ InL V t) → U = V
  | [], [], _, _, _, _, _ => rfl
  | [], q :: V, _, _, _, hV, h => by
    have hq : okS q.1 q.2 := (hV.ok q (List.mem_cons_self ..)).1
    unfold okS at hq
    exact absurd ((h q.1).2 (inL_cons.2 (Or.inl ⟨Int.le_refl _, hq.2.2⟩))) inL_nil
  | p :: U, [], _, _, hU, _, h => by
    have hq : okS p.1 p.2 := (hU.ok p (List.mem_cons_self ..)).1
    unfold okS at hq
    exact absurd ((h p.1).1 (inL_cons.2 (Or.inl ⟨Int.le_refl _, hq.2.2⟩))) inL_nil
  | p :: U, q :: V, m, m', hU, hV, h => by
    have hp : okS p.1 p.2 := (hU.ok p (List.mem_cons_self ..)).1
    have hq : okS q.1 q.2 := (hV.ok q (List.mem_cons_self ..)).1
    unfold okS at hp hq
    have e1 : p.1 = q.1 := by
      have h1 := (h p.1).1 (inL_cons.2 (Or.inl ⟨Int.le_refl _, hp.2.2⟩))
      have h2 := (h q.1).2 (inL_cons.2 (Or.inl ⟨Int.le_refl _, hq.2.2⟩))
      have h3 : q.1 ≤ p.1 := by
        rcases inL_cons.1 h1 with h1 | h1
        · exact h1.1
        · have := good_head hV h1; omega
      have h4 : p.1 ≤ q.1 := by
        rcases inL_cons.1 h2 with h2 | h2
        · exact h2.1
        · have := good_head hU h2; omega
      omega
    have e2 : p.2 = q.2 := by
      rcases Int.lt_trichotomy p.2 q.2 with hl | hl | hl
      · exfalso
        have h1 := (h p.2).2 (inL_cons.2 (Or.inl ⟨by omega, hl⟩))
        rcases inL_cons.1 h1 with h1 | h1
        · omega
        · have := good_head hU h1; omega
      · exact hl
      · exfalso
        have h1 := (h q.2).1 (inL_cons.2 (Or.inl ⟨by omega, hl⟩))
        rcases inL_cons.1 h1 with h1 | h1
        · omega
        · have := good_head hV h1; omega
    have e : p = q := Prod.ext e1 e2
    subst e
    congr 1
    refine good_unique (good_tail hU) (good_tail hV) fun t => ?_
    constructor
    · intro h1
      have h2 := good_head hU h1
      rcases inL_cons.1 ((h t).1 (inL_cons.2 (Or.inr h1))) with h3 | h3
      · omega
      · exact h3
    · intro h1
      have h2 := good_head hV h1
      rcases inL_cons.1 ((h t).2 (inL_cons.2 (Or.inr h1))) with h3 | h3
      · omega
      · exact h3
theorem uok_unique {n : Nat} {F T : Nat → Int} {U V : List (Int × Int)} (hU : UOk n F T U) (hV : UOk n F T V) : U = V := by
  obtain ⟨m, h1⟩ := hU.good
  obtain ⟨m', h2⟩ := hV.good
  exact good_unique h1 h2 fun t => (hU.mem t).trans (hV.mem t).symm
/-- An own list, as any list of pairs. -/
theorem own_qv {w : World} {base : Nat} {v : Value} {L : List (Int × Int)} (h : Own w base 66 2 v L.length (rowsL L)) : QV w v L.length (fun i => rowsL L i 0) (fun i => rowsL L i 1) := by
  rcases Nat.eq_zero_or_pos L.length with h0 | h0
  · obtain ⟨A, cap, rfl, -, hc⟩ := own_slice h
    refine Or.inl ⟨h0, ?_⟩
    rcases h.2 with ⟨e, -⟩ | ⟨g, cap', cur, e, -⟩
    · exact Or.inl e
    · injection e with e1 e2 e3
      subst e1 e3
      rw [h0]
      exact Or.inr ⟨_, _, rfl, hc⟩
  · obtain ⟨g, c, rfl, -, -, h1, h2, hr⟩ := own_row h h0
    refine Or.inr ⟨h0, g, 0, c, rfl, h1, h2, fun k hk => ?_⟩
    have c0 := hr.cell k hk 0 (by omega); have c1 := hr.cell k hk 1 (by omega)
    exact ⟨by rw [Nat.zero_add]; exact c0, by rw [Nat.zero_add]; exact c1⟩
/-- volume.Free's error. -/
def frE (E a b : Int) : Int := if E ≠ 0 then E else if a < 0 ∨ 200000 < b ∨ b < a then 12 else 0
set_option maxHeartbeats 1000000 in
theorem free_bad (v : Value) (E a b : Int) (w : World) (_hE1 : (E == 0) = false) (hE2 : (E != 0) = true) (UN : Hid (∀ w1, Below w.heap.size w w1 → Calls Try.prog 25 #[v] w1 fun e w' => e = .returned (.tuple #[.slice none 0 0, .int .i64 E]) ∧ Below w1.heap.size w1 w')) :
    Calls Try.prog 24 #[v, .int .i64 a, .int .i64 b] w fun e w' => e = .returned (.tuple #[.slice none 0 0, .int .i64 E]) ∧ Below w.heap.size w w' := by
  go_enter Try.func24, Try.ntmps24
  go_wp2_with fail
  (with_reducible refine (UN.out _ (Below.refl _ _)).mono ?_); rintro e w1 ⟨rfl, hb⟩
  have W1 := Lib.hid hb; clear hb
  go_wp2_with fail
  all_goals (go_ret2; exact ⟨rfl, W1.out⟩)
set_option maxHeartbeats 1000000 in
theorem free_range (v : Value) (n : Nat) (F T : Nat → Int) (a b : Int) (w : World) (h : a < 0 ∨ 200000 < b ∨ b < a) (UN : Hid (UnC v n F T w)) :
    Calls Try.prog 24 #[v, .int .i64 a, .int .i64 b] w fun e w' => e = .returned (.tuple #[.slice none 0 0, .int .i64 12]) ∧ Below w.heap.size w w' := by
  go_enter Try.func24, Try.ntmps24
  go_wp2_with fail
  (with_reducible refine (UN.out _ (Below.refl _ _)).mono ?_); rintro e w1 ⟨⟨q, U, rfl, -, -⟩, hb⟩
  have W1 := Lib.hid hb; clear hb
  rcases h with h | h | h
  all_goals
    go_wp2_with fail
    all_goals first | (exfalso; omega) | (go_ret2; exact ⟨rfl, W1.out⟩)
/-- What volume.Free's list is, and where. -/
def FrP (w : World) (base n : Nat) (F T : Nat → Int) (a b : Int) (q : Value) : Prop := ∃ U L, UOk n F T U ∧ Fre a b U L ∧ L.length ≤ n + 1 ∧ Own w base 66 2 q L.length (rowsL L)
abbrev FrC (v : Value) (n : Nat) (F T : Nat → Int) (a b : Int) (w : World) : Prop := ∀ w1, Below w.heap.size w w1 → Calls Try.prog 24 #[v, .int .i64 a, .int .i64 b] w1 fun e w' => (∃ q, e = .returned (.tuple #[q, .int .i64 (frE (ckS n F T) a b)]) ∧ (frE (ckS n F T) a b ≠ 0 → q = .slice none 0 0) ∧ (frE (ckS n F T) a b = 0 → FrP w' w1.heap.size n F T a b q)) ∧ Below w1.heap.size w1 w'
theorem freeC {v : Value} {n : Nat} {F T : Nat → Int} {w : World} (hv : QV w v n F T) (a b : Int) : FrC v n F T a b w := fun w1 hb => by
  have hv1 := qv_keep hb hv
  unfold frE
  by_cases hE : ckS n F T = 0
  · rw [if_neg (fun h : ckS n F T ≠ 0 => h hE)]
    by_cases hr : a < 0 ∨ 200000 < b ∨ b < a
    · rw [if_pos hr]
      refine (free_range v n F T a b w1 hr (Lib.hid (unC hv1 hE))).mono ?_
      rintro e w' ⟨rfl, h⟩
      exact ⟨⟨_, rfl, fun _ => rfl, fun h => absurd h (by decide)⟩, h⟩
    · rw [if_neg hr]
      have hn := (ckS_ok hE).1
      refine (free_walk v n F T a b w1 hn (by omega) (by omega) (by omega) (Lib.hid (unC hv1 hE))).mono ?_
      rintro e w' ⟨⟨q, rfl, U, hU, ho⟩, h⟩
      refine ⟨⟨q, rfl, fun h => absurd rfl h, fun _ => ⟨U, _, hU, fre_of (by omega) hU.good, ?_, ho⟩⟩, h⟩
      have h1 := frA_len (U ++ [(b, b)]) a b (U.length + 1)
      have h2 := hU.len
      omega
  · rw [if_pos hE]
    refine (free_bad v _ a b w1 (by simp [hE]) (by simp [hE]) (Lib.hid fun w2 hb2 => union_bad v _ w2 (Lib.hid (spansC (qv_keep hb2 hv1))) (by simp [hE]) (by simp [hE]))).mono ?_
    rintro e w' ⟨rfl, h⟩
    exact ⟨⟨_, rfl, fun _ => rfl, fun h => absurd h hE⟩, h⟩
theorem qv_at {w : World} {A : Option Addr} {n cap : Nat} {X Y : Nat → Int} (h : QV w (.slice A n cap) n X Y) : ∃ b off, (0 < n → A = some ⟨b, off, none⟩) ∧ cap ≤ 9223372036854775807 ∧ n ≤ cap ∧ ∀ k, k < n → E2 w b off k (X k) (Y k) := by
  rcases h with ⟨h0, h⟩ | ⟨h0, b, off, cap', e, hc, hm, HV⟩
  · refine ⟨0, 0, fun h => absurd h (by omega), ?_, by omega, fun k hk => absurd hk (by omega)⟩
    rcases h with e | ⟨a, c, e, hc⟩
    · injection e with _ _ e; omega
    · injection e with _ _ e; subst e; unfold maxLen at hc; omega
  · injection e with e1 _ e3
    subst e1 e3
    exact ⟨b, off, fun _ => rfl, hm, hc, HV⟩
end Vol
end Go.Proofs.Ytlokkffpmjlihaa
