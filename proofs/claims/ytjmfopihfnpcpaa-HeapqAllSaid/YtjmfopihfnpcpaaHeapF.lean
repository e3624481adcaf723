/- A range over a queue: the law of a loop over the iterator. -/
import Derived.Test.YtjmfopihfnpcpaaHeapE
namespace Go.Proofs.Ytjmfopihfnpcpaa
open Go.RowKit
namespace Heap
open Kit
namespace Ki
theorem kq_refl (m N1 : Nat) (A : World) : KQ m N1 A A := ⟨Below.refl _ _, fun _ _ _ => rfl⟩
theorem kq_mono {m m' N1 : Nat} {A B : World} (h : KQ m N1 A B) (hm : m' ≤ m) : KQ m' N1 A B := ⟨h.b.mono hm, h.k⟩
theorem b_put {m k : Nat} {A : World} (h : m ≤ k) (o : Obj) : Below m A (A.putObj k o) :=
  ⟨rfl, rfl, rfl, by simp, fun j hj => World.putObj_heap_other (by omega)⟩
theorem kq_put {m N1 k : Nat} {A : World} (h : m ≤ k) (h2 : k < N1) (o : Obj) : KQ m N1 A (A.putObj k o) :=
  ⟨b_put h o, fun j h1 _ => World.putObj_heap_other (by omega)⟩
/-- What the body of the loop owes. -/
def postQ {α : Type} (n₁ N1 : Nat) (I : Nat → List α → World → Prop) (xs : List α) (W : World) : Exit → Act → World → Prop
  | .normal, _, W' => KpR n₁ N1 W W' ∧ I N1 xs W'
  | _, _, _ => False
set_option maxHeartbeats 2000000 in
/-- A range over a queue, for every body that keeps what lay since the loop began, up to where the iterator's own memory ends. -/
theorem range_q {g : Operand} {ps : Array Tmp} {assign body : Code} {Q : Exit → Act → World → Prop} {a : Act} {w : World} {d : Nat} (hd : 1 ≤ d)
    (Bx q n base : Nat) (f : Hp) (v : Value) (hn : n ≤ 1000) (cB : w.cell? ⟨Bx, 0, none⟩ = some (.pointer (some ⟨q, 0, none⟩))) (cq : w.cell? ⟨q, 0, none⟩ = some v) (HV : OwnG w base 43 3 v n (cel f)) (HK : ∀ i, i < n → KV (f i).v)
    (hg : a.eval g = .func (.func 16) #[] #[.pointer (some ⟨Bx, 0, none⟩)]) (hps : ps.size = 2)
    (I : Nat → List (Fin n) → World → Prop) (hI : ∀ N1 s A B, I N1 s A → KQ w.heap.size N1 A B → I N1 s B) (h0 : ∀ A, Below w.heap.size w A → I A.heap.size [] A) (a₁ : Fin n → Act)
    (hassign : ∀ (l : Nat) (x : Fin n) (W : World) (K : Act → World → Prop), K (a₁ x) W →
      assign.wpIn (Fence.wide.inRound l) (d - 1) Try.prog (Exit.then K (fun _ _ _ => False)) { tmps := (ps.zip (encH n f x)).foldl (fun t (p, v) => t.setIfInBounds p v) a.tmps, defers := [] } W)
    (hbody : ∀ (l N1 : Nat) (pre : List (Fin n)) (x : Fin n) (W : World), ordK pre → x.val = pre.length → I N1 pre W → w.heap.size ≤ N1 → N1 ≤ W.heap.size → body.wpIn (Fence.wide.inRound l) (d - 1) Try.prog (postQ w.heap.size N1 I (pre ++ [x]) W) (a₁ x) W)
    (hdone : ∀ (D N1 : Nat) (xs : List (Fin n)) (W : World), w.heap.size ≤ D → w.heap.size ≤ N1 → ordK xs → xs.length = n → I N1 xs W → W.heap[D]? = some (.deferred (some [])) → Q .normal { a with defers := { target := .collected D, args := #[] } :: a.defers } W) :
    (Code.rangeFunc g ps assign body).wpIn Fence.wide (d + 1) Try.prog Q a w := by
  refine wpIn_rangeFunc ?_
  intro fn hfn
  obtain ⟨rec, hrec⟩ : ∃ rec : LoopState → Option Code → Loop, rec = fun st pe => { state := st, pending := pe, fn, tmps := a.tmps, params := ps, assign, body, defers := w.heap.size } := ⟨_, rfl⟩
  obtain ⟨W1, hW1⟩ : ∃ W1, (w.alloc (.deferred (some []))).alloc (.loop (rec .ready none)) = W1 := ⟨_, rfl⟩
  have hs1 : W1.heap.size = w.heap.size + 2 := by rw [← hW1]; simp
  have hL1 : W1.heap[w.heap.size + 1]? = some (.loop (rec .ready none)) := by
    rw [← hW1]; have := World.alloc_heap_new (w.alloc (.deferred (some []))) (.loop (rec .ready none)); rwa [World.size_alloc] at this
  have hK1 : W1.heap[w.heap.size]? = some (.deferred (some [])) := by
    rw [← hW1]; exact (Below.heap_alloc _ _ _ (by simp)).trans (World.alloc_heap_new w _)
  have hb1 : Below w.heap.size w W1 := by
    rw [← hW1]; exact ((Below.refl _ w).alloc (Nat.le_refl _) _).alloc (by simp) _
  have eg : ∀ args w, (callFunc 16 args).run Try.prog w = .ok (.enter 16 args) w := enters_of Try.func16 (by kernel_rfl) rfl
  refine ⟨w.heap.size + 1, [{ target := .collected w.heap.size, args := #[] }], W1, { target := .fn (.func 16) #[.pointer (some ⟨Bx, 0, none⟩)], args := #[.func (.yield (w.heap.size + 1)) #[] #[]] }, W1, 16,
    #[.func (.yield (w.heap.size + 1)) #[] #[]] ++ #[.pointer (some ⟨Bx, 0, none⟩)], W1, ?_, ?_, ?_, ?_, fun _ => by omega, ?_⟩
  · rw [← hW1, hrec]; exact run_enterLoop_outer _ _ _ _ _
  · simp only [resolve, hg]
    simp [go_sem]
  · intro f' hf'; trivial
  · simp [invoke, go_sem, eg]
  · have cB1 := keep hb1 cB
    have cq1 := keep hb1 cq
    have HV1 := ownG_keep hb1 HV
    have fin : ∀ (jump : Option Code) (W3 : World), W3.heap[w.heap.size + 1]? = some (.loop { rec .ready none with state := .busy }) →
        (Instr.endRound (w.heap.size + 1) jump).run Try.prog W3 = .ok (.bool jump.isNone) (W3.putObj (w.heap.size + 1) (.loop (rec (if jump.isNone then .ready else .done) jump))) := fun jump W3 hl3 => by
      have := run_endRound (P := Try.prog) jump hl3
      rw [hrec] at this ⊢
      exact this
    -- behind the iterator
    have behind : ∀ (N1 : Nat) (xs : List (Fin n)) (W2 : World), ordK xs → xs.length = n → W1.heap.size ≤ N1 → I N1 xs W2 → W2.heap[w.heap.size + 1]? = some (.loop (rec .ready none)) → W2.heap[w.heap.size]? = some (.deferred (some [])) →
        ∀ u, rangePost Fence.wide (d + 1) Try.prog (w.heap.size + 1) Q { a with defers := [{ target := .collected w.heap.size, args := #[] }] ++ a.defers } (.returned u) W2 := fun N1 xs W2 ho hlx hN hi hl hk u =>
      ⟨none, _, by have := run_endLoop (P := Try.prog) hl (by rw [hrec]; simp); rw [hrec] at this; exact this,
        hdone _ N1 xs _ (Nat.le_refl _) (by omega) ho hlx (hI _ _ _ _ hi (kq_put (by omega) (by omega) _)) ((World.putObj_heap_other (by omega)).trans hk)⟩
    by_cases hn0 : 0 < n
    · obtain ⟨g0, cap0, rfl, -, -, -, -, -⟩ := ownG_row HV hn0
      refine (all1_some d hd (w.heap.size + 1) Bx q n g0 cap0 f hn0 hn W1 cB1 cq1 base (Lib.hid HV1) (Lib.hid HK)
        (fun N1 s W => I N1 s W ∧ W.heap[w.heap.size + 1]? = some (.loop (rec .ready none)) ∧ W.heap[w.heap.size]? = some (.deferred (some [])) ∧ W1.heap.size ≤ N1)
        (fun N1 s A B h hq => ⟨hI N1 s A B h.1 (kq_mono hq (by omega)), (hq.b.block _ (by omega)).trans h.2.1, (hq.b.block _ (by omega)).trans h.2.2.1, h.2.2.2⟩)
        ?_ (fun A hA => ⟨h0 A (hb1.trans (hA.mono (by omega))), (hA.block _ (by omega)).trans hL1, (hA.block _ (by omega)).trans hK1, hA.size⟩)).mono ?_
      · rintro N1 pre x W hord hx ⟨hi, hl, hk, hN⟩ hN1 hN2
        have hlt : w.heap.size + 1 < W.heap.size := by omega
        have hy := run_yield (P := Try.prog) (args := encH n f x) hl (by rw [hrec]; exact hps.symm)
        rw [hrec] at hy
        refine ⟨fn, _, assign, body, hy, roundIn_of_wpIn hfn (hassign _ x W _ ?_)⟩
        clear hy
        refine ⟨_, run_beginRound hl (by rw [hrec]), ?_⟩
        have hl2 : (W.putObj (w.heap.size + 1) (.loop { rec .ready none with state := .busy })).heap[w.heap.size + 1]? = some (.loop { rec .ready none with state := .busy }) := World.putObj_heap_same hlt
        have hk2 : (W.putObj (w.heap.size + 1) (.loop { rec .ready none with state := .busy })).heap[w.heap.size]? = some (.deferred (some [])) := (World.putObj_heap_other (by omega)).trans hk
        refine wpIn_mono (hbody _ N1 pre x _ hord hx (hI _ _ _ _ hi (kq_put (by omega) (by omega) _)) (by omega) (by simpa using hN2)) ?_
        rintro e a3 W3 hp
        cases e with
        | normal =>
          obtain ⟨hkp, hi3⟩ := hp
          have hl3 := (hkp.2 (w.heap.size + 1) (by omega) (by omega)).trans hl2
          have hk3 := (hkp.2 w.heap.size (by omega) (by omega)).trans hk2
          have hz3 : W.heap.size ≤ W3.heap.size := by simpa using hkp.1
          have hlt3 : w.heap.size + 1 < W3.heap.size := by omega
          refine ⟨_, _, fin none W3 hl3, rfl, ⟨hI _ _ _ _ hi3 (kq_put (by omega) (by omega) _), World.putObj_heap_same hlt3, (World.putObj_heap_other (by omega)).trans hk3, hN⟩, ?_, ?_⟩
          · simpa using hz3
          · intro k h1 h2
            refine (World.putObj_heap_other (by omega)).trans ((hkp.2 k (by omega) h2).trans (World.putObj_heap_other (by omega)))
        | ret => exact hp.elim
        | exit id => exact hp.elim
        | goto t => exact hp.elim
        | panic ch => exact hp.elim
        | outgrown => exact hp.elim
      · rintro e W2 ⟨⟨u, rfl⟩, N1, ys, ho, hlen, hi, hl, hk, hN⟩
        exact behind N1 ys W2 ho hlen hN hi hl hk u
    · obtain rfl : n = 0 := by omega
      have hv : ∃ A0 cap0, v = .slice A0 0 cap0 ∧ (A0 = none → cap0 = 0) := by
        rcases HV.2 with ⟨e, -⟩ | ⟨g', cap', cur, e, -⟩
        · exact ⟨none, 0, e, fun _ => rfl⟩
        · exact ⟨_, _, e, fun h => by cases h⟩
      obtain ⟨A0, cap0, rfl, hA⟩ := hv
      refine (all1_none d hd (w.heap.size + 1) Bx q cap0 A0 hA W1 cB1 cq1).mono ?_
      rintro e W2 ⟨⟨u, rfl⟩, hb2⟩
      exact behind W2.heap.size [] W2 rfl rfl hb2.size (h0 W2 (hb1.trans (hb2.mono (by omega)))) ((hb2.block _ (by omega)).trans hL1) ((hb2.block _ (by omega)).trans hK1) u
end Ki
end Heap
end Go.Proofs.Ytjmfopihfnpcpaa
