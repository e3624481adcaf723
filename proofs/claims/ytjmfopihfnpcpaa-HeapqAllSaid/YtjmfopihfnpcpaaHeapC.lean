/- heapq: contracts, and the fixed example. -/
import Derived.Test.YtjmfopihfnpcpaaHeapW
namespace Go.Proofs.Ytjmfopihfnpcpaa
open Go.RowKit
namespace Heap
open Kit
namespace Ki
theorem pushC {q n : Nat} {f : Hp} {nx : Int} {w : World} (h : QS 43 KV w q n f nx) (hn : n ≤ 100000) (hnx : 0 ≤ nx ∧ nx ≤ 100000) (p : Int) (z : Int) :
    Calls Try.prog 6 #[.pointer (some ⟨q, 0, none⟩), .int .i64 p, .int .i64 z] w fun e w' => e = .returned (.tuple #[]) ∧ QS 43 KV w' q (n + 1) (pushF n f ⟨p, nx, .int .i64 z⟩) (nx + 1) ∧ Below q w w' := by
  obtain ⟨v, hq, ho, hk⟩ := h
  obtain ⟨A, cap, rfl, -⟩ := ownG_slice ho
  exact push_w q n f nx p z A cap w hn hnx (lt_of_cell hq.c0) (Lib.hid hq) (Lib.hid ho) (Lib.hid hk)
theorem popC {q n : Nat} {f : Hp} {nx : Int} {w : World} (h : QS 43 KV w q n f nx) (h0 : 0 < n) (hn : n ≤ 100000) :
    Calls Try.prog 7 #[.pointer (some ⟨q, 0, none⟩)] w fun e w' => e = .returned (.tuple #[.int .i64 (f 0).p, (f 0).v, .bool true]) ∧ QS 43 KV w' q (n - 1) (popF n f) nx ∧ Below q w w' := by
  obtain ⟨v, hq, ho, hk⟩ := h
  obtain ⟨g, cap, rfl, -, -, -, -, -⟩ := ownG_row ho h0
  exact pop_w q n f nx g cap w h0 hn (lt_of_cell hq.c0) (Lib.hid hq) (Lib.hid ho) (Lib.hid hk)
theorem qs_keep {W w1 : World} (hb : Below W.heap.size W w1) {q n : Nat} {f : Hp} {nx : Int} (h : QS 43 KV W q n f nx) : QS 43 KV w1 q n f nx := by
  obtain ⟨v, hq, ho, hk⟩ := h
  exact ⟨v, keepQ' hb hq, ownG_keep hb ho, hk⟩
theorem qs_lt {w : World} {q n : Nat} {f : Hp} {nx : Int} (h : QS 43 KV w q n f nx) : q < w.heap.size := by
  obtain ⟨v, hq, -, -⟩ := h
  exact lt_of_cell hq.c0
end Ki
namespace Ks
theorem pushC {q n : Nat} {f : Hp} {nx : Int} {w : World} (h : QS 51 KV w q n f nx) (hn : n ≤ 100000) (hnx : 0 ≤ nx ∧ nx ≤ 100000) (p : Int) (z : ByteArray) :
    Calls Try.prog 12 #[.pointer (some ⟨q, 0, none⟩), .int .i64 p, .string z] w fun e w' => e = .returned (.tuple #[]) ∧ QS 51 KV w' q (n + 1) (pushF n f ⟨p, nx, .string z⟩) (nx + 1) ∧ Below q w w' := by
  obtain ⟨v, hq, ho, hk⟩ := h
  obtain ⟨A, cap, rfl, -⟩ := ownG_slice ho
  exact push_w q n f nx p z A cap w hn hnx (lt_of_cell hq.c0) (Lib.hid hq) (Lib.hid ho) (Lib.hid hk)
theorem popC {q n : Nat} {f : Hp} {nx : Int} {w : World} (h : QS 51 KV w q n f nx) (h0 : 0 < n) (hn : n ≤ 100000) :
    Calls Try.prog 13 #[.pointer (some ⟨q, 0, none⟩)] w fun e w' => e = .returned (.tuple #[.int .i64 (f 0).p, (f 0).v, .bool true]) ∧ QS 51 KV w' q (n - 1) (popF n f) nx ∧ Below q w w' := by
  obtain ⟨v, hq, ho, hk⟩ := h
  obtain ⟨g, cap, rfl, -, -, -, -, -⟩ := ownG_row ho h0
  exact pop_w q n f nx g cap w h0 hn (lt_of_cell hq.c0) (Lib.hid hq) (Lib.hid ho) (Lib.hid hk)
theorem qs_keep {W w1 : World} (hb : Below W.heap.size W w1) {q n : Nat} {f : Hp} {nx : Int} (h : QS 51 KV W q n f nx) : QS 51 KV w1 q n f nx := by
  obtain ⟨v, hq, ho, hk⟩ := h
  exact ⟨v, keepQ' hb hq, ownG_keep hb ho, hk⟩
theorem qs_lt {w : World} {q n : Nat} {f : Hp} {nx : Int} (h : QS 51 KV w q n f nx) : q < w.heap.size := by
  obtain ⟨v, hq, -, -⟩ := h
  exact lt_of_cell hq.c0
end Ks

abbrev f00 : Hp := fun _ => ⟨0, 0, .string ⟨#[]⟩⟩
abbrev iA : It := ⟨2, 0, .string ⟨#[97]⟩⟩
abbrev iB : It := ⟨1, 1, .string ⟨#[98]⟩⟩
abbrev iC : It := ⟨1, 2, .string ⟨#[99]⟩⟩
theorem ex1 : pushF 0 f00 iA = put 0 f00 iA := up_no (by omega)
theorem ex2 : pushF 1 (put 0 f00 iA) iB = sw (put 1 (put 0 f00 iA) iB) 1 0 := by
  show up (put 1 (put 0 f00 iA) iB) 1 = _
  rw [up_yes (by omega) (by decide), up_no (by omega)]
theorem ex3 : pushF 2 (sw (put 1 (put 0 f00 iA) iB) 1 0) iC = put 2 (sw (put 1 (put 0 f00 iA) iB) 1 0) iC := up_no (by decide)
theorem ex4 : (put 2 (sw (put 1 (put 0 f00 iA) iB) 1 0) iC) 0 = iB := rfl
set_option maxRecDepth 100000 in
set_option maxHeartbeats 4000000 in
theorem heapWorks (w : World) : Calls Try.prog 4 #[] w fun e w' => e = .returned (.bool true) ∧ Below w.heap.size w w' := by
  go_enter Try.func4, Try.ntmps4
  go_wp2_with fail
  (with_reducible refine (Ks.new_q _).mono ?_); rintro e w1 ⟨⟨q, rfl, hq, -, hqs⟩, hb⟩
  have W1 := Lib.hid hb; have H1 := Lib.hid (hqs f00); have Q1 := Lib.hid hq; clear hb hqs hq
  go_wp2_with fail
  (with_reducible refine (Ks.pushC H1.out (by omega) (by omega) 2 ⟨#[97]⟩).mono ?_); rintro e w2 ⟨rfl, hs, hb⟩
  have W2 := Lib.hid (W1.out.trans (hb.mono Q1.out)); have H2 := Lib.hid hs; clear hb hs
  go_wp2_with fail
  (with_reducible refine (Ks.pushC H2.out (by omega) (by omega) 1 ⟨#[98]⟩).mono ?_); rintro e w3 ⟨rfl, hs, hb⟩
  have W3 := Lib.hid (W2.out.trans (hb.mono Q1.out)); have H3 := Lib.hid hs; clear hb hs
  go_wp2_with fail
  (with_reducible refine (Ks.pushC H3.out (by omega) (by omega) 1 ⟨#[99]⟩).mono ?_); rintro e w4 ⟨rfl, hs, hb⟩
  rw [show pushF (0 + 1 + 1) (pushF (0 + 1) (pushF 0 f00 ⟨2, 0, .string ⟨#[97]⟩⟩) ⟨1, 0 + 1, .string ⟨#[98]⟩⟩) ⟨1, 0 + 1 + 1, .string ⟨#[99]⟩⟩ = put 2 (sw (put 1 (put 0 f00 iA) iB) 1 0) iC from by
    show pushF 2 (pushF 1 (pushF 0 f00 iA) iB) iC = _
    rw [ex1, ex2, ex3]] at hs
  have W4 := Lib.hid (W3.out.trans (hb.mono Q1.out)); have H4 := Lib.hid hs; clear hb hs
  go_wp2_with fail
  (with_reducible refine (Ks.popC H4.out (by omega) (by omega)).mono ?_); rintro e w5 ⟨rfl, hs, hb⟩
  have W5 := Lib.hid (W4.out.trans (hb.mono Q1.out)); have H5 := Lib.hid hs; clear hb hs
  rw [ex4]
  go_wp2_with fail
  (with_reducible refine (Ks.len_q q 2 _ _ _ (by omega) H5.out).mono ?_); rintro e w6 ⟨rfl, rfl⟩
  go_wp2_with fail
  go_ret
  exact ⟨rfl, W5.out⟩
end Heap
end Go.Proofs.Ytjmfopihfnpcpaa
