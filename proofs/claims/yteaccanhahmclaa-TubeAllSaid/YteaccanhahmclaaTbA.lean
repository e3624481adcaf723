/- tube.All: what it yields. -/
import Derived.Test.YteaccanhahmclaaTubeD
import Derived.Test.YteaccanhahmclaaTubeI
import Derived.RangeFuncNested
import Derived.RangeFuncBound
import Derived.RangeFuncCalls
import Derived.RangeFuncLeaves
import Derived.Shelf.Abstract
import Derived.Shelf.RegionOpen
import Derived.WalkKit
import Derived.OwnWalkIn
import Derived.TacticsInMore
import Derived.LoopNIn
import Derived.LoopIn
namespace Go.Proofs.Yteaccanhahmclaa
open Go.RowKit
attribute [local go_sem] Oper.semAt_some
namespace Tube
open Kit Plane
/-- A node. -/
structure TN where
  t : Int
  x : Int
  y : Int
  h : Int
  r : Int
  b : Int
def encT (x : TN) : Array Value := #[.agg #[.int .i64 x.t, .int .i64 x.x, .int .i64 x.y, .int .i64 x.h, .int .i64 x.r, .int .i64 x.b]]
/-- The node of a time. -/
noncomputable def nodeT (T X Y H R B : Nat → Int) (n : Nat) (t : Int) : TN := ⟨t, tx T X (segI T n t) t, tx T Y (segI T n t) t, th T H (segI T n t) t, tu T R (segI T n t) t, tu T B (segI T n t) t⟩
/-- The first k of K. -/
def upK (K : Nat) : (k : Nat) → k ≤ K → List (Fin K)
  | 0, _ => []
  | k + 1, h => upK K k (Nat.le_of_succ_le h) ++ [⟨k, h⟩]
theorem up_val (K : Nat) : ∀ (k : Nat) (h : k ≤ K), (upK K k h).map Fin.val = List.range k
  | 0, _ => rfl
  | k + 1, h => by
    unfold upK
    rw [List.map_append, up_val K k (Nat.le_of_succ_le h), List.range_succ]; rfl
theorem up_len (K k : Nat) (h : k ≤ K) : (upK K k h).length = k := by
  have := congrArg List.length (up_val K k h)
  simpa using this
/-- These are the first ones, in order. -/
def ordK {K : Nat} (l : List (Fin K)) : Prop := l.map Fin.val = List.range l.length
theorem up_ord (K k : Nat) (h : k ≤ K) : ordK (upK K k h) := by unfold ordK; rw [up_val, up_len]
/-- The node of second i. -/
noncomputable def encF (T X Y H R B : Nat → Int) (n K : Nat) (i : Fin K) : Array Value := encT (nodeT T X Y H R B n (T 0 + (i.val : Int)))
/-- What a round leaves: the blocks from n₁ up to n₀. -/
def KpR (n₁ n₀ : Nat) (W W' : World) : Prop := ∀ k, n₁ ≤ k → k < n₀ → W'.heap[k]? = W.heap[k]?
theorem kp_t {n₁ n₀ : Nat} {A B C : World} (h : KpR n₁ n₀ A B) (k : KpR n₁ n₀ B C) : KpR n₁ n₀ A C := fun i h1 h2 => (k i h1 h2).trans (h i h1 h2)
theorem kp_below {n₁ n₀ : Nat} {A B : World} (h : Below n₀ A B) : KpR n₁ n₀ A B := fun i _ h2 => h.block i h2
theorem kp_cell {n₁ n₀ : Nat} {A B : World} (h : KpR n₁ n₀ A B) {b o : Nat} (h1 : n₁ ≤ b) (h2 : b < n₀) : B.cell? ⟨b, o, none⟩ = A.cell? ⟨b, o, none⟩ := World.cell?_of_block (h b h1 h2)
theorem kp_b {n₁ n₀ : Nat} {w : World} (hn : n₀ ≤ w.heap.size) (W : World) (l : Nat) (o o' : Obj) (hl : w.heap.size ≤ l) (h : W.heap[l]? = some o) (h1 : o.isCells = false) (h2 : o.isWalk = false) : KpR n₁ n₀ W (W.putObj l o') :=
  kp_below (belowK_b hn W l o o' hl h h1 h2)
/-- The iterator's memory: the captured variable, and the row. -/
structure GK (W : World) (Bx g n cap : Nat) (T X Y H R B : Nat → Int) : Prop where
  box : W.cell? ⟨Bx, 0, none⟩ = some (.slice (some ⟨g, 0, none⟩) n cap)
  row : ∀ k, k < n → S6 W g (0 + k * 6) (T k) (X k) (Y k) (H k) (R k) (B k)
theorem gk_keep {W w1 : World} (hb : Below W.heap.size W w1) {Bx g n cap : Nat} {T X Y H R B : Nat → Int} (h : GK W Bx g n cap T X Y H R B) : GK w1 Bx g n cap T X Y H R B := ⟨keep hb h.box, fun k hk => s6_keep hb (h.row k hk)⟩
theorem gk_kp {n₁ n₀ : Nat} {W w1 : World} (hk : KpR n₁ n₀ W w1) {Bx g n cap : Nat} {T X Y H R B : Nat → Int} (h1 : n₁ ≤ Bx ∧ Bx < n₀) (h2 : n₁ ≤ g ∧ g < n₀) (h : GK W Bx g n cap T X Y H R B) : GK w1 Bx g n cap T X Y H R B :=
  ⟨(kp_cell hk h1.1 h1.2).trans h.box, fun k hk' => by
    obtain ⟨⟨a, b, c⟩, d, e, f⟩ := h.row k hk'
    exact ⟨⟨(kp_cell hk h2.1 h2.2).trans a, (kp_cell hk h2.1 h2.2).trans b, (kp_cell hk h2.1 h2.2).trans c⟩, (kp_cell hk h2.1 h2.2).trans d, (kp_cell hk h2.1 h2.2).trans e, (kp_cell hk h2.1 h2.2).trans f⟩⟩
theorem gk_tv {W : World} {Bx g n cap : Nat} {T X Y H R B : Nat → Int} (h0 : 0 < n) (hc : n ≤ cap) (hm : cap ≤ maxLen) (h : GK W Bx g n cap T X Y H R B) : TV W (.slice (some ⟨g, 0, none⟩) n cap) n T X Y H R B := Or.inr ⟨h0, g, 0, cap, rfl, hc, hm, h.row⟩
theorem grown_of_below {A B : World} (h : Below A.heap.size A B) : A.grownBy B none := ⟨h.os, h.tape, h.output, h.size, fun k hk _ => h.block k hk⟩
set_option maxRecDepth 100000 in
set_option maxHeartbeats 4000000 in
/-- The iterator at a tube that passes: for every loop body that keeps the iterator's memory. -/
theorem all1_ok (d : Nat) (hd : 1 ≤ d) (l Bx g n cap n₁ n₀ : Nat) (T X Y H R B : Nat → Int) (h1 : n₁ ≤ Bx ∧ Bx < n₀) (h2 : n₁ ≤ g ∧ g < n₀) (h0 : 0 < n) (hc : n ≤ cap) (hm : cap ≤ maxLen) (hp : tok T X Y H R B n) (K : Nat) (hK : T 0 + K = T (n - 1) + 1)
    (J Jx : List (Fin K) → World → Prop) (hJ : ∀ s A B', J s A → Below A.heap.size A B' → J s B')
    (hY : ∀ pre x W, J pre W → pre.length < K → YieldAt Fence.wide (d - 1) Try.prog l (encF T X Y H R B n K x) W fun e W' => (e = .returned (.bool true) ∧ J (pre ++ [x]) W' ∧ KpR n₁ n₀ W W') ∨ (e = .returned (.bool false) ∧ Jx (pre ++ [x]) W'))
    (W : World) (hG : GK W Bx g n cap T X Y H R B) (hJ0 : J [] W) :
    CallsIn Fence.wide d Try.prog 82 #[.func (.yield l) #[] #[], .pointer (some ⟨Bx, 0, none⟩)] W fun e W' => (∃ v, e = .returned v) ∧ ((∃ ys, (ordK ys ∧ ys.length = K) ∧ J ys W') ∨ (∃ pre, ordK pre ∧ Jx pre W')) := by
  have HP := Lib.hid hp
  have c0 := hG.box
  have CK := Lib.hid (checkC (gk_tv h0 hc hm hG))
  rw [(tck_zero n).2 hp] at CK
  have EN := Lib.hid (endsC (gk_tv h0 hc hm hG) hp)
  have t0 := hp.time 0 hp.pos
  have tn := hp.time (n - 1) (by omega)
  obtain ⟨a, ha⟩ : ∃ a, a = T 0 := ⟨_, rfl⟩
  obtain ⟨z, hz⟩ : ∃ z, z = T (n - 1) := ⟨_, rfl⟩
  rw [← ha] at hK EN t0
  rw [← hz] at hK EN tn
  have HA := Lib.hid ha; have HZ := Lib.hid hz
  clear ha hz
  have HG := Lib.hid hG; have HJ0 := Lib.hid hJ0; clear hG hJ0 hp
  refine callsIn_of_wp Try.func82 rfl trivial ?_ rfl
  simp only [Try.ntmps82, List.size_toArray, List.length_cons, List.length_nil, Nat.reduceAdd, Nat.reduceSub, Array.replicate_succ, Array.replicate_zero, List.push_toArray, List.append_toArray, List.nil_append, List.cons_append]
  gi_wp2_with fail
  refine ⟨trivial, ?_⟩; refine (callsIn_wide.2 (CK.out _ (Below.refl _ _))).mono ?_; rintro e w1 ⟨rfl, hb⟩
  have J1 := Lib.hid (hJ _ _ _ HJ0.out hb); have G1 := Lib.hid (gk_keep hb HG.out); have W1 := Lib.hid hb; clear hb c0
  have c0 := G1.out.box
  gi_wp2_with fail
  refine ⟨trivial, ?_⟩; refine (callsIn_wide.2 (EN.out _ W1.out)).mono ?_; rintro e w2 ⟨rfl, hb⟩
  have J2 := Lib.hid (hJ _ _ _ J1.out hb); have G2 := Lib.hid (gk_keep hb G1.out); clear hb c0
  gi_wp2_with fail
  gi_loopw [5] (fun p wr => ∃ (k : Nat) (hk : k ≤ K), p = .int .i64 (a + k) ∧ GK wr Bx g n cap T X Y H R B ∧ J (upK K k hk) wr) (fun p _ => (z + 1 - intOf p).toNat)
  case atStart => exact ⟨0, Nat.zero_le _, by simp, G2.out, J2.out⟩
  case round =>
    obtain ⟨k, hk, rfl, hg, hj⟩ := hrel
    have GR := Lib.hid hg; have JR := Lib.hid hj; clear hg hj
    have c0 := GR.out.box
    by_cases hlt : k < K
    · have hle : a + (k : Int) ≤ z := by omega
      have AC := Lib.hid (atC (gk_tv h0 hc hm GR.out) HP.out (segI_spec HP.out.pos (show T 0 ≤ a + k from by rw [← HA.out]; omega)) (by rw [← HZ.out]; exact hle))
      have ND : Hid (encF T X Y H R B n K ⟨k, hlt⟩ = #[.agg #[.int .i64 (a + k), .int .i64 (tx T X (segI T n (a + k)) (a + k)), .int .i64 (tx T Y (segI T n (a + k)) (a + k)), .int .i64 (th T H (segI T n (a + k)) (a + k)), .int .i64 (tu T R (segI T n (a + k)) (a + k)), .int .i64 (tu T B (segI T n (a + k)) (a + k))]]) := Lib.hid (by rw [HA.out]; rfl)
      gi_wp2_with fail
      refine ⟨trivial, ?_⟩; refine (callsIn_wide.2 AC.out).mono ?_; rintro e w3 ⟨rfl, hb⟩
      have J3 := hJ _ _ _ JR.out hb; have G3 := Lib.hid (gk_keep hb GR.out); clear hb c0
      obtain ⟨fn, tmps, assign, body, hy, hR⟩ := hY _ ⟨k, hlt⟩ w3 J3 (by rw [up_len]; exact hlt)
      rw [ND.out] at hy
      have HR := Lib.hid hR; clear hR J3
      gi_wp2_with fail
      refine HR.out.mono ?_
      rintro e w4 (⟨rfl, hj4, hk4⟩ | ⟨rfl, hx4⟩)
      · have G4 := Lib.hid (gk_kp hk4 h1 h2 G3.out)
        have J4 : Hid (J (upK K (k + 1) hlt) w4) := Lib.hid hj4
        clear hj4 hk4 hy
        gi_wp2_with fail
        go_roundw
        case rel => exact ⟨k + 1, hlt, by go_num, G4.out, J4.out⟩
        case measure => simp [intOf]; omega
      · clear hy
        gi_wp2_with fail
        refine bodyPost_ret (results_none rfl _ _ _) rfl ?_
        exact ⟨⟨_, rfl⟩, Or.inr ⟨upK K (k + 1) hlt, up_ord _ _ _, hx4⟩⟩
    · have hkK : k = K := by omega
      subst hkK
      have hle : ¬ a + (k : Int) ≤ z := by omega
      gi_wp2_with fail
      go_end0
      exact ⟨⟨_, rfl⟩, Or.inl ⟨_, ⟨up_ord _ _ _, up_len _ _ _⟩, JR.out⟩⟩
set_option maxRecDepth 100000 in
set_option maxHeartbeats 4000000 in
/-- The iterator at a tube that does not pass: nothing is yielded. -/
theorem all1_bad (d : Nat) (hd : 1 ≤ d) (l Bx : Nat) (A : Option Addr) (n c : Nat) (E : Int) (hE : E ≠ 0) (J : World → Prop) (hJ : ∀ A B', J A → Below A.heap.size A B' → J B') (W : World) (c0 : W.cell? ⟨Bx, 0, none⟩ = some (.slice A n c)) (CK : CkC (.slice A n c) E W) (hJ0 : J W) :
    CallsIn Fence.wide d Try.prog 82 #[.func (.yield l) #[] #[], .pointer (some ⟨Bx, 0, none⟩)] W fun e W' => (∃ v, e = .returned v) ∧ J W' := by
  have CK := Lib.hid CK
  have h1 : (E != 0) = true := by simpa using hE
  have h2 : (E == 0) = false := by simpa using hE
  have HJ := Lib.hid hJ0; clear hJ0 hE
  refine callsIn_of_wp Try.func82 rfl trivial ?_ rfl
  simp only [Try.ntmps82, List.size_toArray, List.length_cons, List.length_nil, Nat.reduceAdd, Nat.reduceSub, Array.replicate_succ, Array.replicate_zero, List.push_toArray, List.append_toArray, List.nil_append, List.cons_append]
  gi_wp2_with fail
  refine ⟨trivial, ?_⟩; refine (callsIn_wide.2 (CK.out _ (Below.refl _ _))).mono ?_; rintro e w1 ⟨rfl, hb⟩
  have J1 := Lib.hid (hJ _ _ HJ.out hb); clear hb c0
  gi_wp2_with fail
  refine bodyPost_ret (results_none rfl _ _ _) rfl ?_
  exact ⟨⟨_, rfl⟩, J1.out⟩
set_option maxHeartbeats 1000000 in
theorem clone_nil_t (w : World) :
    Calls Try.prog 81 #[.slice none 0 0] w fun e w' => (∃ A cap, e = .returned (.slice A 0 cap) ∧ (A = none → cap = 0) ∧ cap ≤ maxLen) ∧ Below w.heap.size w w' := by
  have hnil := fun W : World => Lib.run_eql_slice_nil (P := Try.prog) W 62 70 none 0 0 0 0 Try.underlying62
  go_enter Try.func81, Try.ntmps81
  go_wp2_with fail
  all_goals (go_ret; exact ⟨⟨_, _, rfl, fun _ => rfl, Nat.zero_le _⟩, Below.refl _ _⟩)
set_option maxRecDepth 100000 in
set_option maxHeartbeats 1000000 in
theorem clone_empty_t (a : Addr) (cap : Nat) (w : World) (_hc : cap ≤ maxLen) :
    Calls Try.prog 81 #[.slice (some a) 0 cap] w fun e w' => (∃ A cap, e = .returned (.slice A 0 cap) ∧ (A = none → cap = 0) ∧ cap ≤ maxLen) ∧ Below w.heap.size w w' := by
  obtain ⟨i0, hi, hz0, hz1, hz2⟩ := info_parts info_tube
  have hnil := fun W : World => Lib.run_eql_slice_nil (P := Try.prog) W 62 70 (some a) 0 cap 0 0 Try.underlying62
  go_enter Try.func81, Try.ntmps81
  have hb0 := b_alloc (Below.refl w.heap.size w) (.cells #[] 70)
  have HB := Lib.hid hb0; clear hb0
  go_wp2_with (at_builtin; refine wpList_append_own_at _ rfl (.tmp 5) (.tmp 6) 62 rfl w.heap.size 70 i0 _ 6 48 Try.underlying62 hi hz0 hz1 hz2 rfl (by decide) (.slice (some ⟨w.heap.size, 0, none⟩) 0 0) 0 [] rfl (World.ownsRow_made w #[] 0 (Nat.le_refl _) (by decide) rfl) a 0 cap [] rfl rfl (fun j u h => by simp at h) (fun u h => by simp at h) (by unfold maxLen; omega) (by omega) (by simp) ?_; intro v1 w1 hown1 hg1 hnil1 hat1)
  go_ret
  have hq : ∃ A c, v1 = .slice A 0 c ∧ (A = none → c = 0) ∧ c ≤ maxLen := by
    rcases hown1.2 with ⟨hv, -⟩ | ⟨g, c, cur, hv, -, -, -, hcm, -⟩
    · exact ⟨none, 0, hv, fun _ => rfl, Nat.zero_le _⟩
    · exact ⟨_, c, hv, fun h => (by cases h), hcm⟩
  obtain ⟨A, c, rfl, h1, h2⟩ := hq
  exact ⟨⟨A, c, rfl, h1, h2⟩, HB.out.grown hg1 HB.out.size (fun k hk => by simp [Value.ownBlock] at hk; omega)⟩
/-- slices.Clone at a short tube: the same tube, in new memory. -/
theorem cloneC {v : Value} {n : Nat} {T X Y H R B : Nat → Int} {w : World} (hv : TV w v n T X Y H R B) (hn : n ≤ 1000) :
    Calls Try.prog 81 #[v] w fun e w' => (∃ A cap, e = .returned (.slice A n cap) ∧ TV w' (.slice A n cap) n T X Y H R B ∧ (0 < n → ∃ g, A = some ⟨g, 0, none⟩ ∧ w.heap.size ≤ g ∧ g < w'.heap.size)) ∧ Below w.heap.size w w' := by
  rcases hv with ⟨rfl, rfl | ⟨a, cap, rfl, hc⟩⟩ | ⟨h0, b, off, cap, rfl, h1, h2, h3⟩
  · refine (clone_nil_t w).mono ?_
    rintro e w' ⟨⟨A, c, rfl, ha, hc⟩, hb⟩
    refine ⟨⟨A, c, rfl, Or.inl ⟨rfl, ?_⟩, fun h => absurd h (Nat.lt_irrefl 0)⟩, hb⟩
    cases A with
    | none => exact Or.inl (by rw [ha rfl])
    | some a => exact Or.inr ⟨a, c, rfl, hc⟩
  · refine (clone_empty_t a cap w hc).mono ?_
    rintro e w' ⟨⟨A, c, rfl, ha, hc⟩, hb⟩
    refine ⟨⟨A, c, rfl, Or.inl ⟨rfl, ?_⟩, fun h => absurd h (Nat.lt_irrefl 0)⟩, hb⟩
    cases A with
    | none => exact Or.inl (by rw [ha rfl])
    | some a => exact Or.inr ⟨a, c, rfl, hc⟩
  · refine (clone_tube n cap b off (tf T X Y H R B) w h0 hn h1 (Lib.hid (tf_src h3))).mono ?_
    rintro e w' ⟨v', rfl, ho, hb⟩
    obtain ⟨g, c, rfl, hg1, hg2, hc1, hc2, hr⟩ := own_row ho h0
    exact ⟨⟨_, c, rfl, tf_tv h0 hc1 hc2 hr, fun _ => ⟨g, rfl, hg1, hg2⟩⟩, hb⟩
set_option maxRecDepth 100000 in
set_option maxHeartbeats 1000000 in
/-- tube.All: a closure over a box of its own that holds a copy of the tube. -/
theorem allC {v : Value} {n : Nat} {T X Y H R B : Nat → Int} {w : World} (hv : TV w v n T X Y H R B) (hn : n ≤ 1000) :
    Calls Try.prog 34 #[v] w fun e w' => ∃ A cap, e = .returned (.func (.func 82) #[] #[.pointer (some ⟨w.heap.size, 0, none⟩)]) ∧ w'.cell? ⟨w.heap.size, 0, none⟩ = some (.slice A n cap) ∧ TV w' (.slice A n cap) n T X Y H R B ∧ (0 < n → ∃ g, A = some ⟨g, 0, none⟩ ∧ w.heap.size < g ∧ g < w'.heap.size) ∧ Below w.heap.size w w' := by
  have hmf : ∀ fn first cap w, (Instr.makeFunc fn first cap).run Try.prog w = .ok (.func fn first cap) w := fun _ _ _ _ => rfl
  obtain ⟨A0, c0, rfl, -, -⟩ := tv_slice hv
  have W0 := Lib.hid (b_alloc (Below.refl w.heap.size w) (.cells #[.slice A0 n c0] 62))
  have L0 : Hid ((w.alloc (.cells #[.slice A0 n c0] 62)).cell? ⟨w.heap.size, 0, none⟩ = some (.slice A0 n c0) ∧ (w.alloc (.cells #[.slice A0 n c0] 62)).frozen? ⟨w.heap.size, 0, none⟩ = false) := Lib.hid ⟨by simp, by simp⟩
  have CL := Lib.hid (cloneC (tv_keep (b_alloc (Below.refl w.heap.size w) (.cells #[.slice A0 n c0] 62)) hv) hn)
  go_enter Try.func34, Try.ntmps34
  go_wp2_with fail
  (with_reducible refine CL.out.mono ?_); rintro e w1 ⟨⟨A, cap, rfl, ht, hg⟩, hb⟩
  have W1 := Lib.hid (b_next W0.out hb)
  have l1 := keep hb L0.out.1; have l2 := keepF hb L0.out.1 L0.out.2
  have HT := Lib.hid ht; have HG := Lib.hid hg; clear ht hg hb
  go_wp2_with fail
  go_ret
  refine ⟨A, cap, rfl, ?_, ?_, ?_, b_set W1.out (Nat.le_refl _) _⟩
  · exact World.cell?_setCell_same' _ _ _ (by rw [l1]; rfl)
  · rcases HT.out with ⟨h0, h⟩ | ⟨h0, b, off, cap', e, h1, h2, h3⟩
    · exact Or.inl ⟨h0, h⟩
    · obtain ⟨g, hA, hg1, -⟩ := HG.out h0
      have hne : b ≠ w.heap.size := by
        injection e with e1
        rw [hA] at e1
        injection e1 with e1; injection e1 with e1
        rw [World.size_alloc] at hg1
        omega
      refine Or.inr ⟨h0, b, off, cap', e, h1, h2, fun k hk => ?_⟩
      have ec := fun o => World.cell?_of_block (w := w1) (w' := w1.setCell ⟨w.heap.size, 0, none⟩ (.slice A n cap)) (a := ⟨b, o, none⟩) (Below.heap_setCell w1 ⟨w.heap.size, 0, none⟩ _ b hne)
      obtain ⟨⟨q1, q2, q3⟩, q4, q5, q6⟩ := h3 k hk
      exact ⟨⟨(ec _).trans q1, (ec _).trans q2, (ec _).trans q3⟩, (ec _).trans q4, (ec _).trans q5, (ec _).trans q6⟩
  · intro h0
    obtain ⟨g, rfl, h1, h2⟩ := HG.out h0
    rw [World.size_alloc] at h1
    exact ⟨g, rfl, by omega, by simpa using h2⟩
/-- How many nodes there are. -/
noncomputable def cntT (T X Y H R B : Nat → Int) (n : Nat) : Nat := if tck T X Y H R B n = 0 then (T (n - 1) - T 0 + 1).toNat else 0
/-- The iterator's contract. -/
theorem stopsT {w : World} (d : Nat) (hd : 1 ≤ d) {A : Option Addr} {n cap Bx n₁ : Nat} {T X Y H R B : Nat → Int} (h1 : n₁ ≤ Bx) (hbox : w.cell? ⟨Bx, 0, none⟩ = some (.slice A n cap)) (htv : TV w (.slice A n cap) n T X Y H R B) (hg : 0 < n → ∃ g, A = some ⟨g, 0, none⟩ ∧ Bx < g ∧ g < w.heap.size) :
    SeqStopsK Fence.wide d Try.prog 82 #[.pointer (some ⟨Bx, 0, none⟩)] (encF T X Y H R B n (cntT T X Y H R B n)) (KpR n₁ w.heap.size) (fun ys => ordK ys ∧ ys.length = cntT T X Y H R B n) (fun pre => ordK pre) (cntT T X Y H R B n) w := fun l J Jx W hW hJ _ hY h0 => by
  have hJ' : ∀ s A B', J s A → Below A.heap.size A B' → J s B' := fun s A B' hs hb => hJ s A B' none hs (grown_of_below hb) (fun r e => by cases e)
  have hB := lt_of_cell hbox
  by_cases hE : tck T X Y H R B n = 0
  · have hp := (tck_zero n).1 hE
    obtain ⟨g, rfl, hg1, hg2⟩ := hg hp.pos
    have ht := tok_le hp (show 0 ≤ n - 1 by omega) (show n - 1 < n by have := hp.pos; omega)
    have hG : GK w Bx g n cap T X Y H R B := ⟨hbox, by
      rcases htv with ⟨h, -⟩ | ⟨-, b, off, c, e, -, -, h3⟩
      · have := hp.pos; omega
      · injection e with e1 e2 e3
        injection e1 with e1; injection e1 with e1 e4
        subst e1 e4
        exact h3⟩
    have hcm : n ≤ cap ∧ cap ≤ maxLen := by
      obtain ⟨A', c', e, q1, q2⟩ := tv_slice htv
      injection e with _ _ e3
      subst e3
      exact ⟨q1, q2⟩
    have hG' : GK W Bx g n cap T X Y H R B := gk_keep hW hG
    have hK : T 0 + (cntT T X Y H R B n : Int) = T (n - 1) + 1 := by unfold cntT; rw [if_pos hE]; omega
    exact all1_ok d hd l Bx g n cap n₁ w.heap.size T X Y H R B ⟨h1, hB⟩ ⟨by omega, hg2⟩ hp.pos hcm.1 hcm.2 hp _ hK J Jx hJ' hY W hG' h0
  · have hK : cntT T X Y H R B n = 0 := by unfold cntT; rw [if_neg hE]
    refine (all1_bad d hd l Bx A n cap _ hE (J []) (fun A B' hs hb => hJ' [] A B' hs hb) W (keep hW hbox) (checkC (tv_keep hW htv)) h0).mono ?_
    rintro e W' ⟨hv, hj⟩
    exact ⟨hv, Or.inl ⟨[], ⟨rfl, hK.symm⟩, hj⟩⟩
end Tube
end Go.Proofs.Yteaccanhahmclaa
