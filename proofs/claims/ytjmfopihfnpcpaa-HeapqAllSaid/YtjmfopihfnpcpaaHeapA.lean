/- The iterator over a queue: what it yields. -/
import Derived.Test.YtjmfopihfnpcpaaHeapI
import Derived.RangeFuncNested
import Derived.RangeFuncBound
import Derived.RangeFuncCalls
import Derived.RangeFuncLeaves
import Derived.Shelf.Abstract
import Derived.Shelf.RegionOpen
import Derived.WalkKit
import Derived.OwnWalkIn
import Derived.TacticsInMore
import Derived.LoopNIn
import Derived.LoopIn
namespace Go.Proofs.Ytjmfopihfnpcpaa
open Go.RowKit
attribute [local go_sem] Oper.semAt_some
namespace Heap
open Kit
/-- The first k of K. -/
def qupK (K : Nat) : (k : Nat) → k ≤ K → List (Fin K)
  | 0, _ => []
  | k + 1, h => qupK K k (Nat.le_of_succ_le h) ++ [⟨k, h⟩]
theorem qup_val (K : Nat) : ∀ (k : Nat) (h : k ≤ K), (qupK K k h).map Fin.val = List.range k
  | 0, _ => rfl
  | k + 1, h => by
    unfold qupK
    rw [List.map_append, qup_val K k (Nat.le_of_succ_le h), List.range_succ]; rfl
theorem qup_len (K k : Nat) (h : k ≤ K) : (qupK K k h).length = k := by
  have := congrArg List.length (qup_val K k h)
  simpa using this
/-- These are the first ones, in order. -/
def ordK {K : Nat} (l : List (Fin K)) : Prop := l.map Fin.val = List.range l.length
theorem qup_ord (K k : Nat) (h : k ≤ K) : ordK (qupK K k h) := by unfold ordK; rw [qup_val, qup_len]
/-- What a round leaves: the blocks from n₁ up to n₀. -/
def KpR (n₁ n₀ : Nat) (W W' : World) : Prop := W.heap.size ≤ W'.heap.size ∧ ∀ k, n₁ ≤ k → k < n₀ → W'.heap[k]? = W.heap[k]?
/-- How many items the queue in block q has. -/
def lenAt (W : World) (q : Nat) : Nat := match W.cell? ⟨q, 0, none⟩ with
  | some (.slice _ n _) => n
  | _ => 0
namespace Ki
/-- What is yielded. -/
def encH (n : Nat) (f : Hp) (x : Fin n) : Array Value := #[.int .i64 (pops n f x.val 0).p, (pops n f x.val 0).v]
theorem qg_kp {n₁ n₀ : Nat} {W w1 : World} (hk : KpR n₁ n₀ W w1) {N q g cap n : Nat} {f : Hp} {nx : Int} (h1 : n₁ ≤ q ∧ q < n₀) (h2 : n₁ ≤ g ∧ g < n₀) (h : QG W N q g cap n f nx) : QG w1 N q g cap n f nx := by
  obtain ⟨v, rfl, hq, ho, hK⟩ := h
  have eq := hk.2 q h1.1 h1.2
  have eg := hk.2 g h2.1 h2.2
  refine ⟨_, rfl, ⟨(World.cell?_of_block eq).trans hq.c0, (World.cell?_of_block eq).trans hq.c1, (World.frozen?_of_block eq).trans hq.f0, (World.frozen?_of_block eq).trans hq.f1⟩, ⟨ho.1, ?_⟩, hK⟩
  rcases ho.2 with ⟨e, -⟩ | ⟨g', cap', cur, hv, hb, hg, h2⟩
  · cases e
  · refine Or.inr ⟨g', cap', cur, hv, hb, ?_, h2⟩
    injection hv with e _ _
    injection e with e
    injection e with e _ _
    subst e
    exact eg.trans hg
theorem popG {w : World} {N q g cap m : Nat} {f : Hp} {nx : Int} (h : QG w N q g cap (m + 1) f nx) (hNq : N ≤ q) (hgq : ¬ g = q) (hn : m + 1 ≤ 100000) :
    Calls Try.prog 7 #[.pointer (some ⟨q, 0, none⟩)] w fun e w' => e = .returned (.tuple #[.int .i64 (f 0).p, (f 0).v, .bool true]) ∧ QG w' N q g cap m (popF (m + 1) f) nx ∧ Bg N q g w w' := by
  obtain ⟨v, rfl, hq, ho, hK⟩ := h
  exact popG_w N q (m + 1) f nx g cap w hNq hgq (Nat.succ_pos m) hn (lt_of_cell hq.c0) (Lib.hid hq) (Lib.hid ho) (Lib.hid hK)
theorem len_at {w : World} {N q g cap m : Nat} {f : Hp} {nx : Int} (h : QG w N q g cap m f nx) : lenAt w q = m := by
  obtain ⟨v, rfl, hq, -, -⟩ := h
  unfold lenAt
  rw [hq.c0]
set_option maxRecDepth 100000 in
set_option maxHeartbeats 1000000 in
theorem pop_no {w : World} {N q g cap : Nat} {f : Hp} {nx : Int} (h : QG w N q g cap 0 f nx) :
    Calls Try.prog 7 #[.pointer (some ⟨q, 0, none⟩)] w fun e w' => e = .returned (.tuple #[.int .i64 0, .int .i64 0, .bool false]) ∧ w = w' := by
  obtain ⟨v, rfl, ⟨c0, -, -, -⟩, -, -⟩ := h
  go_enter Try.func7, Try.ntmps7
  go_wp2_with fail
  refine bodyPost_ret (v := .tuple #[.int .i64 0, .int .i64 0, .bool false]) (by simp [results, Try.results7, go_sem]) rfl ⟨rfl, rfl⟩
/-- What the iterator itself leaves: the blocks below m, and those from N1 on. -/
structure KQ (m N1 : Nat) (A B : World) : Prop where
  b : Below m A B
  k : ∀ j, N1 ≤ j → j < A.heap.size → B.heap[j]? = A.heap[j]?
set_option maxRecDepth 100000 in
set_option maxHeartbeats 4000000 in
/-- The iterator at a queue that is not empty: for every loop body that keeps the iterator's memory. -/
theorem all1_some (d : Nat) (hd : 1 ≤ d) (l Bx q n g0 cap0 : Nat) (f : Hp) (hn0 : 0 < n) (hn : n ≤ 1000) (W : World) (cB : W.cell? ⟨Bx, 0, none⟩ = some (.pointer (some ⟨q, 0, none⟩))) (cq : W.cell? ⟨q, 0, none⟩ = some (.slice (some ⟨g0, 0, none⟩) n cap0)) (base : Nat) (HV : Hid (OwnG W base 43 3 (.slice (some ⟨g0, 0, none⟩) n cap0) n (cel f))) (HK : Hid (∀ i, i < n → KV (f i).v))
    (J : Nat → List (Fin n) → World → Prop) (hJ : ∀ N1 s A B, J N1 s A → KQ W.heap.size N1 A B → J N1 s B)
    (hY : ∀ N1 pre x W1, ordK pre → x.val = pre.length → J N1 pre W1 → W.heap.size ≤ N1 → N1 ≤ W1.heap.size → YieldAt Fence.wide (d - 1) Try.prog l (encH n f x) W1 fun e W' => e = .returned (.bool true) ∧ J N1 (pre ++ [x]) W' ∧ KpR W.heap.size N1 W1 W')
    (hJ0 : ∀ A, Below W.heap.size W A → J A.heap.size [] A) :
    CallsIn Fence.wide d Try.prog 16 #[.func (.yield l) #[] #[], .pointer (some ⟨Bx, 0, none⟩)] W fun e W' => (∃ v, e = .returned v) ∧ ∃ N1 ys, ordK ys ∧ ys.length = n ∧ J N1 ys W' := by
  have CL := Lib.hid (clone_some n cap0 g0 base f W hn0 hn HV HK)
  have H0 := Lib.hid hJ0; clear hJ0
  refine callsIn_of_wp Try.func16 rfl trivial ?_ rfl
  simp only [Try.ntmps16, List.size_toArray, List.length_cons, List.length_nil, Nat.reduceAdd, Nat.reduceSub, Array.replicate_succ, Array.replicate_zero, List.push_toArray, List.append_toArray, List.nil_append, List.cons_append]
  gi_wp2_with fail
  refine ⟨trivial, ?_⟩; refine (callsIn_wide.2 CL.out).mono ?_; rintro e w1 ⟨⟨g, cap, rfl, hO⟩, hb⟩
  have B1 := Lib.hid hb; have O1 := Lib.hid hO; clear hb hO cB cq
  gi_wp2_with fail
  obtain ⟨w2, hw2⟩ : ∃ w2, w2 = w1.alloc (.cells #[.slice (some ⟨g, 0, none⟩) n cap, .int .i64 0] 41) := ⟨_, rfl⟩
  rw [← hw2]
  have hs2 : w2.heap.size = w1.heap.size + 1 := by rw [hw2]; simp
  have hg := (ownG_row O1.out hn0)
  obtain ⟨g', cap', e, hg1, hg2, -, -, -⟩ := hg
  injection e with e1 _ e3
  injection e1 with e1
  injection e1 with e1 _ _
  subst e1 e3
  have hs1 := B1.out.size
  have B2 : Below W.heap.size W w2 := by rw [hw2]; exact b_alloc B1.out _
  have Q2 : Hid (QG w2 W.heap.size w1.heap.size g cap n f 0) := by
    refine Lib.hid ⟨_, rfl, ⟨?_, ?_, ?_, ?_⟩, ?_, HK.out⟩
    · rw [hw2]; simp
    · rw [hw2]; simp
    · rw [hw2]; simp
    · rw [hw2]; simp
    · rw [hw2]; exact ownG_keep (b_alloc (Below.refl w1.heap.size w1) _) O1.out
  have J2 : Hid (J w2.heap.size [] w2) := Lib.hid (H0.out w2 B2)
  obtain ⟨N1, hN1⟩ : ∃ N1, N1 = w2.heap.size := ⟨_, rfl⟩
  rw [← hN1] at J2
  obtain ⟨qc, hqc⟩ : ∃ qc, qc = w1.heap.size := ⟨_, rfl⟩
  rw [← hqc] at Q2 ⊢
  have i1 : qc < N1 := by omega
  have i2 : g < qc := by omega
  have i3 : W.heap.size ≤ qc := by omega
  have i4 : W.heap.size ≤ g := hg1
  have i5 : N1 ≤ w2.heap.size := by omega
  clear hw2 B1 O1 hqc hN1 hs2 hg1 hg2 hs1 H0
  gi_loopw [] (fun wr => ∃ (k : Nat) (hk : k ≤ n) (x : Int), QG wr W.heap.size qc g cap (n - k) (pops n f k) x ∧ J N1 (qupK n k hk) wr ∧ N1 ≤ wr.heap.size) (fun wr => lenAt wr qc)
  case atStart => exact ⟨0, Nat.zero_le _, 0, Q2.out, J2.out, by omega⟩
  case round =>
    obtain ⟨k, hk, nx, hq, hj, hs⟩ := hrel
    have QR := Lib.hid hq; have JR := Lib.hid hj; clear hq hj
    have ML := Lib.hid (len_at QR.out)
    by_cases hlt : k < n
    · obtain ⟨m, hm⟩ : ∃ m, n - k = m + 1 := ⟨n - k - 1, by omega⟩
      rw [hm] at QR
      obtain ⟨z, hz⟩ : ∃ z, (pops n f k 0).v = .int .i64 z := by
        obtain ⟨_, _, _, _, hK⟩ := QR.out
        exact hK 0 (by omega)
      have PP := Lib.hid (popG QR.out (by omega) (by omega) (by omega))
      rw [hz] at PP
      have HY := fun w3 h1 h2 h3 => hY N1 _ ⟨k, hlt⟩ w3 (qup_ord n k hk) (by rw [qup_len]) h1 h2 h3
      have ND : encH n f ⟨k, hlt⟩ = #[.int .i64 (pops n f k 0).p, .int .i64 z] := by unfold encH; rw [hz]
      rw [ND] at HY
      have HM := Lib.hid hm; clear hz ND hm
      gi_wp2_with fail
      refine ⟨trivial, ?_⟩; refine (callsIn_wide.2 PP.out).mono ?_; rintro e w3 ⟨rfl, hq3, hb3⟩
      have Q3 := Lib.hid hq3
      have J3 := hJ _ _ _ w3 JR.out ⟨hb3.b, fun j h1 h2 => hb3.k j h2 (by omega) (by omega)⟩
      have hs3 := hb3.b.size
      obtain ⟨fn, tmps, assign, body, hy, hR⟩ := HY w3 J3 (by omega) (by omega)
      have HR := Lib.hid hR; clear hR J3 HY hq3 hb3
      gi_wp2_with fail
      refine HR.out.mono ?_
      rintro e w4 ⟨rfl, hj4, hk4⟩
      have Q4 := Lib.hid (qg_kp hk4 (by omega) (by omega) Q3.out)
      have J4 : Hid (J N1 (qupK n (k + 1) hlt) w4) := Lib.hid hj4
      have hs4 := hk4.1
      clear hj4 hk4 hy
      gi_wp2_with fail
      go_roundw
      case rel =>
        refine ⟨k + 1, hlt, nx, ?_, J4.out, by omega⟩
        have e1 : n - (k + 1) = m := by have := HM.out; omega
        have e2 : pops n f (k + 1) = popF (m + 1) (pops n f k) := by rw [← HM.out]; rfl
        rw [e1, e2]; exact Q4.out
      case measure => rw [ML.out, len_at Q4.out, HM.out]; omega
    · have hkn : k = n := by omega
      subst hkn
      rw [Nat.sub_self] at QR
      have PN := Lib.hid (pop_no QR.out)
      gi_wp2_with fail
      refine ⟨trivial, ?_⟩; refine (callsIn_wide.2 PN.out).mono ?_; rintro e w3 ⟨rfl, rfl⟩
      gi_wp2_with fail
      refine ⟨fun _ e => (by cases e), ?_⟩
      gi_wp2_with fail
      refine bodyPost_ret (results_none rfl _ _ _) rfl ?_
      exact ⟨⟨_, rfl⟩, N1, _, qup_ord _ _ _, qup_len _ _ _, JR.out⟩
end Ki
end Heap
end Go.Proofs.Ytjmfopihfnpcpaa
