/- Joined texts: HeapC, NetA, Mul64, Cpy. -/
import Derived.Test.YtmkglhoahdlogaaGreatDoorHeapW
import Derived.Test.YtmkglhoahdlogaaGreatDoorJ07
import Derived.Test.YtmkglhoahdlogaaGreatDoorS1
import Derived.Test.YtmkglhoahdlogaaGreatDoorJ01
import Derived.Test.YtmkglhoahdlogaaGreatDoorJ02
import Derived.Shelf.Bits.Mul64
import Derived.Laws.CopyRow
import Derived.Laws.OwnMore
import Derived.Laws.CopyOwn
import Derived.Deep.RegionLaw
import Derived.Deep.OwnRows
namespace Go.Proofs.YtmkglhoahdlogaaGreatDoor
open Go.RowKit
namespace Heap
open Kit
namespace Ki
theorem pushC {q n : Nat} {f : Hp} {nx : Int} {w : World} (h : QS 176 KV w q n f nx) (hn : n ≤ 100000) (hnx : 0 ≤ nx ∧ nx ≤ 100000) (p : Int) (z : Int) :
    Calls Tryz.prog 87 #[.pointer (some ⟨q, 0, none⟩), .int .i64 p, .int .i64 z] w fun e w' => e = .returned (.tuple #[]) ∧ QS 176 KV w' q (n + 1) (pushF n f ⟨p, nx, .int .i64 z⟩) (nx + 1) ∧ Below q w w' := by
  obtain ⟨v, hq, ho, hk⟩ := h
  obtain ⟨A, cap, rfl, -⟩ := ownG_slice ho
  exact push_w q n f nx p z A cap w hn hnx (lt_of_cell hq.c0) (Lib.hid hq) (Lib.hid ho) (Lib.hid hk)
theorem popC {q n : Nat} {f : Hp} {nx : Int} {w : World} (h : QS 176 KV w q n f nx) (h0 : 0 < n) (hn : n ≤ 100000) :
    Calls Tryz.prog 89 #[.pointer (some ⟨q, 0, none⟩)] w fun e w' => e = .returned (.tuple #[.int .i64 (f 0).p, (f 0).v, .bool true]) ∧ QS 176 KV w' q (n - 1) (popF n f) nx ∧ Below q w w' := by
  obtain ⟨v, hq, ho, hk⟩ := h
  obtain ⟨g, cap, rfl, -, -, -, -, -⟩ := ownG_row ho h0
  exact pop_w q n f nx g cap w h0 hn (lt_of_cell hq.c0) (Lib.hid hq) (Lib.hid ho) (Lib.hid hk)
theorem qs_keep {W w1 : World} (hb : Below W.heap.size W w1) {q n : Nat} {f : Hp} {nx : Int} (h : QS 176 KV W q n f nx) : QS 176 KV w1 q n f nx := by
  obtain ⟨v, hq, ho, hk⟩ := h
  exact ⟨v, keepQ' hb hq, ownG_keep hb ho, hk⟩
theorem qs_lt {w : World} {q n : Nat} {f : Hp} {nx : Int} (h : QS 176 KV w q n f nx) : q < w.heap.size := by
  obtain ⟨v, hq, -, -⟩ := h
  exact lt_of_cell hq.c0
end Ki
namespace Ks
end Ks

abbrev f00 : Hp := fun _ => ⟨0, 0, .string ⟨#[]⟩⟩
abbrev iA : It := ⟨2, 0, .string ⟨#[97]⟩⟩
abbrev iB : It := ⟨1, 1, .string ⟨#[98]⟩⟩
abbrev iC : It := ⟨1, 2, .string ⟨#[99]⟩⟩
theorem ex1 : pushF 0 f00 iA = put 0 f00 iA := up_no (by omega)
theorem ex2 : pushF 1 (put 0 f00 iA) iB = sw (put 1 (put 0 f00 iA) iB) 1 0 := by
  show up (put 1 (put 0 f00 iA) iB) 1 = _
  rw [up_yes (by omega) (by decide), up_no (by omega)]
theorem ex3 : pushF 2 (sw (put 1 (put 0 f00 iA) iB) 1 0) iC = put 2 (sw (put 1 (put 0 f00 iA) iB) 1 0) iC := up_no (by decide)
theorem ex4 : (put 2 (sw (put 1 (put 0 f00 iA) iB) 1 0) iC) 0 = iB := rfl
end Heap
end Go.Proofs.YtmkglhoahdlogaaGreatDoor
namespace Go.Proofs.YtmkglhoahdlogaaGreatDoor
open Go.RowKit
namespace Net
open Kit Chart
/-- Numbers in memory. -/
def IV (w : World) (v : Value) (n : Nat) (f : Nat → Int) : Prop := (n = 0 ∧ Nil0 v) ∨ (0 < n ∧ ∃ b off cap, v = .slice (some ⟨b, off, none⟩) n cap ∧ n ≤ cap ∧ cap ≤ maxLen ∧ ∀ k, k < n → w.cell? ⟨b, off + k, none⟩ = some (.int .i64 (f k)))
/-- Lists of numbers in memory. -/
def LV (w : World) (v : Value) (n : Nat) (d : Nat → Nat) (f : Nat → Nat → Int) : Prop := (n = 0 ∧ Nil0 v) ∨ (0 < n ∧ ∃ b off cap, v = .slice (some ⟨b, off, none⟩) n cap ∧ n ≤ cap ∧ cap ≤ maxLen ∧ ∀ k, k < n → ∃ u, w.cell? ⟨b, off + k, none⟩ = some u ∧ IV w u (d k) (f k))
/-- Marks in memory. -/
def BV (w : World) (v : Value) (n : Nat) (f : Nat → Bool) : Prop := (n = 0 ∧ Nil0 v) ∨ (0 < n ∧ ∃ b off cap, v = .slice (some ⟨b, off, none⟩) n cap ∧ n ≤ cap ∧ cap ≤ maxLen ∧ ∀ k, k < n → w.cell? ⟨b, off + k, none⟩ = some (.bool (f k)))
theorem iv_keep {W w1 : World} (hb : Below W.heap.size W w1) {v : Value} {n : Nat} {f : Nat → Int} (h : IV W v n f) : IV w1 v n f := by
  rcases h with h | ⟨h0, b, off, cap, hv, h1, h2, h3⟩
  · exact Or.inl h
  · exact Or.inr ⟨h0, b, off, cap, hv, h1, h2, fun k hk => keep hb (h3 k hk)⟩
theorem lv_keep {W w1 : World} (hb : Below W.heap.size W w1) {v : Value} {n : Nat} {d : Nat → Nat} {f : Nat → Nat → Int} (h : LV W v n d f) : LV w1 v n d f := by
  rcases h with h | ⟨h0, b, off, cap, hv, h1, h2, h3⟩
  · exact Or.inl h
  · exact Or.inr ⟨h0, b, off, cap, hv, h1, h2, fun k hk => (h3 k hk).elim fun u hu => ⟨u, keep hb hu.1, iv_keep hb hu.2⟩⟩
theorem bv_keep {W w1 : World} (hb : Below W.heap.size W w1) {v : Value} {n : Nat} {f : Nat → Bool} (h : BV W v n f) : BV w1 v n f := by
  rcases h with h | ⟨h0, b, off, cap, hv, h1, h2, h3⟩
  · exact Or.inl h
  · exact Or.inr ⟨h0, b, off, cap, hv, h1, h2, fun k hk => keep hb (h3 k hk)⟩
theorem iv_at {w : World} {v : Value} {n : Nat} {f : Nat → Int} (h : IV w v n f) (h0 : 0 < n) : ∃ b off cap, v = .slice (some ⟨b, off, none⟩) n cap ∧ n ≤ cap ∧ cap ≤ maxLen ∧ ∀ k, k < n → w.cell? ⟨b, off + k, none⟩ = some (.int .i64 (f k)) := by
  rcases h with ⟨h1, -⟩ | ⟨-, h⟩
  · omega
  · exact h
theorem lv_at {w : World} {v : Value} {n : Nat} {d : Nat → Nat} {f : Nat → Nat → Int} (h : LV w v n d f) (h0 : 0 < n) : ∃ b off cap, v = .slice (some ⟨b, off, none⟩) n cap ∧ n ≤ cap ∧ cap ≤ maxLen ∧ ∀ k, k < n → ∃ u, w.cell? ⟨b, off + k, none⟩ = some u ∧ IV w u (d k) (f k) := by
  rcases h with ⟨h1, -⟩ | ⟨-, h⟩
  · omega
  · exact h
theorem bv_at {w : World} {v : Value} {n : Nat} {f : Nat → Bool} (h : BV w v n f) (h0 : 0 < n) : ∃ b off cap, v = .slice (some ⟨b, off, none⟩) n cap ∧ n ≤ cap ∧ cap ≤ maxLen ∧ ∀ k, k < n → w.cell? ⟨b, off + k, none⟩ = some (.bool (f k)) := by
  rcases h with ⟨h1, -⟩ | ⟨-, h⟩
  · omega
  · exact h
theorem iv_slice {w : World} {v : Value} {n : Nat} {f : Nat → Int} (h : IV w v n f) : ∃ A cap, v = .slice A n cap := by
  rcases h with ⟨rfl, h⟩ | ⟨-, b, off, cap, rfl, -⟩
  · exact nil0_slice h
  · exact ⟨_, _, rfl⟩
theorem lv_slice {w : World} {v : Value} {n : Nat} {d : Nat → Nat} {f : Nat → Nat → Int} (h : LV w v n d f) : ∃ A cap, v = .slice A n cap := by
  rcases h with ⟨rfl, h⟩ | ⟨-, b, off, cap, rfl, -⟩
  · exact nil0_slice h
  · exact ⟨_, _, rfl⟩
theorem bv_slice {w : World} {v : Value} {n : Nat} {f : Nat → Bool} (h : BV w v n f) : ∃ A cap, v = .slice A n cap := by
  rcases h with ⟨rfl, h⟩ | ⟨-, b, off, cap, rfl, -⟩
  · exact nil0_slice h
  · exact ⟨_, _, rfl⟩
open Short in
/-- The net's value. -/
structure NV (w : World) (v : Value) (G : Gr) (S : Nat → ByteArray) : Prop where
  ex : ∃ a b c, v = .agg #[a, b, c] ∧ SV w a G.N S ∧ LV w b G.N G.deg (fun k i => (G.lk k i : Int)) ∧ LV w c G.N G.deg (fun k i => G.d k (G.lk k i))
open Short in
theorem nv_keep {W w1 : World} (hb : Below W.heap.size W w1) {v : Value} {G : Gr} {S : Nat → ByteArray} (h : NV W v G S) : NV w1 v G S := by
  obtain ⟨a, b, c, e, h1, h2, h3⟩ := h.ex
  exact ⟨a, b, c, e, sv_keep hb h1, lv_keep hb h2, lv_keep hb h3⟩
end Net
end Go.Proofs.YtmkglhoahdlogaaGreatDoor
namespace Go.Proofs.YtmkglhoahdlogaaGreatDoor
open Go.RowKit Go.Lib
namespace Num
theorem retu2 {a b c d : Int} (h1 : a = c) (h2 : b = d) : Ending.returned (.tuple #[.int .u64 a, .int .u64 b]) = .returned (.tuple #[.int .u64 c, .int .u64 d]) := by rw [h1, h2]
set_option maxHeartbeats 1000000 in
theorem mul64 (x y : Nat) (hx : x < 18446744073709551616) (hy : y < 18446744073709551616) (w : World) :
    Calls Tryz.prog 119 #[.int .u64 x, .int .u64 y] w fun e w' => e = .returned (.tuple #[.int .u64 ((x * y / 18446744073709551616 : Nat) : Int), .int .u64 ((x * y % 18446744073709551616 : Nat) : Int)]) ∧ w = w' := by
  obtain ⟨bd, bt, bw, hhi⟩ := Lib.mul64_hi x y hx hy
  have ba := Lib.half_mul_le (a := x / 4294967296) (b := y / 4294967296) (by omega) (by omega)
  have bb := Lib.half_mul_le (a := x / 4294967296) (b := y % 4294967296) (by omega) (by omega)
  have bc := Lib.half_mul_le (a := x % 4294967296) (b := y / 4294967296) (by omega) (by omega)
  have ba' : x / 4294967296 * (y / 4294967296) < 18446744073709551616 := by omega
  have bb' : x / 4294967296 * (y % 4294967296) < 18446744073709551616 := by omega
  have bc' : x % 4294967296 * (y / 4294967296) < 18446744073709551616 := by omega
  have bh1 : x / 4294967296 * (y / 4294967296) + (x / 4294967296 * (y % 4294967296) + x % 4294967296 * (y % 4294967296) / 4294967296) / 4294967296 < 18446744073709551616 := by omega
  have bh : x / 4294967296 * (y / 4294967296) + (x / 4294967296 * (y % 4294967296) + x % 4294967296 * (y % 4294967296) / 4294967296) / 4294967296 + ((x / 4294967296 * (y % 4294967296) + x % 4294967296 * (y % 4294967296) / 4294967296) % 4294967296 + x % 4294967296 * (y / 4294967296)) / 4294967296 < 18446744073709551616 := by omega
  go_enter Tryz.func119, Tryz.ntmps119
  go_wp2
  simp only [Mul64.maskN x hx, Mul64.maskN y hy, Mul64.divN, Mul64.mulN, Mul64.addN, Mul64.wrapN _ bd, Mul64.wrapN _ bb', Mul64.wrapN _ bt, Mul64.maskN _ bt, Mul64.wrapN _ bc', Mul64.wrapN _ bw, Mul64.wrapN _ ba', Mul64.wrapN _ bh1, Mul64.wrapN _ bh, Mul64.wrapM (x * y)]
  rw [hhi]
  go_ret2
  exact ⟨rfl, rfl⟩
end Num
end Go.Proofs.YtmkglhoahdlogaaGreatDoor
namespace Go.Proofs.YtmkglhoahdlogaaGreatDoor
open Go.RowKit
namespace Cpy
open Kit
section
variable {P : Program}
/-- copy of rows of C cells, the source read first. -/
theorem copy_rowC (w : World) (dT sT ty elem : TypeId) (C g o dLen dCap : Nat) (a : Addr) (sLen sCap : Nat) (cur : Array Value) (t : TypeId) (cs : List Value)
    (hu : P.underlying dT = some (.slice elem)) (hs : (P.info? elem).map (·.size) = some C)
    (hg : w.heap[g]? = some (.cells cur t (0, 0))) (hn : cs.length = Nat.min sLen dLen * C)
    (hsrc : ∀ j v, cs[j]? = some v → w.cell? (a.add j) = some v) (hfit : o + cs.length ≤ cur.size) (h1 : ∀ v ∈ cs, v.oneCell' = true) :
    (Builtin.copy_ #[dT, sT] ty #[.slice (some ⟨g, o, none⟩) dLen dCap, .slice (some a) sLen sCap]).run P w =
      .ok (goInt (Nat.min sLen dLen)) (w.setRow g (cur.toList.take o ++ cs ++ cur.toList.drop (o + cs.length)).toArray) := by
  have hl := run_loadCells_list (P := P) w a cs hsrc
  have hst := run_storeCells_at P g o t cs 0 cur w hg (by simpa using hfit) h1
  cases hq : P.info? elem with
  | none => simp [hq] at hs
  | some i =>
    have hi : i.size = C := by simpa [hq] using hs
    simp [Builtin.copy_, run_underlying hu, Builtin.lenOf, Builtin.firstCells, sizeOf, typeInfo, hq, hi, ← hn, hl, hst]
theorem step_copy_run {ops : Array Oper} {o : Oper} {a : Act} {w : World} {K : Act → World → Prop} {Q : Exit → Act → World → Prop} {E : Prop}
    (hg : o.guard = none) (d x : Operand) (dT sT : TypeId) (hop : o.op = Op.call { callee := Callee.builtin Builtin.copy, args := #[d, x], argTypes := #[dT, sT] })
    (v u : Value) (hd : a.eval d = v) (hx : a.eval x = u) {v' : Value} {w' : World} (hr : (Builtin.copy_ #[dT, sT] o.type #[v, u]).run P w = .ok v' w') (hK : K (a.put o.dst v') w') :
    if Region.wanted o (yielded ops a.tmps) = true then Oper.wp P o a w K Q else E := by
  have hw : Region.wanted o (yielded ops a.tmps) = true := by simp [Region.wanted, hg]
  rw [if_pos hw]
  unfold Oper.wp
  simp [execOp, hop, resolve, invoke, builtin, hd, hx, hr, Result.andThen]
  exact hK
end
/-- m numbers v, then nothing yet. -/
def rw0 (m n : Nat) (v : Int) : List Value := List.replicate m (.int .i64 v) ++ List.replicate (n - m) (.int .i64 0)
theorem rw_len {m n : Nat} (v : Int) (h : m ≤ n) : (rw0 m n v).length = n := by
  unfold rw0; rw [List.length_append, List.length_replicate, List.length_replicate]; omega
theorem rw_next {m n k : Nat} (v : Int) (_h : m + k ≤ n) : (rw0 m n v).take m ++ List.replicate k (.int .i64 v) ++ (rw0 m n v).drop (m + k) = rw0 (m + k) n v := by
  unfold rw0
  have hl : (List.replicate m (Value.int .i64 v)).length = m := List.length_replicate
  rw [List.take_left' hl, List.drop_append, List.drop_eq_nil_of_le (by rw [hl]; omega), List.nil_append, hl, show m + k - m = k from by omega, List.drop_replicate, List.replicate_append_replicate, Nat.sub_sub]
theorem rw_get {m n j : Nat} (v : Int) (h : j < m) : (rw0 m n v)[j]? = some (.int .i64 v) := by
  unfold rw0
  rw [List.getElem?_append_left (by rw [List.length_replicate]; exact h), List.getElem?_replicate, if_pos h]
theorem mulC (x y : Nat) (h : x * y < 18446744073709551616) (hx : x < 18446744073709551616) (hy : y < 18446744073709551616) (w : World) : Calls Tryz.prog 104 #[.int .u64 x, .int .u64 y] w fun e w' => e = .returned (.tuple #[.int .u64 0, .int .u64 ((x * y : Nat) : Int)]) ∧ w = w' := by
  have M := Lib.hid (Num.mul64 x y hx hy)
  have d : x * y / 18446744073709551616 = 0 := Nat.div_eq_of_lt h
  have r : x * y % 18446744073709551616 = x * y := Nat.mod_eq_of_lt h
  rw [d, r] at M
  go_enter Tryz.func104, Tryz.ntmps104
  go_wp2_with fail
  (with_reducible refine (M.out _).mono ?_); rintro e w' ⟨rfl, rfl⟩
  go_wp2_with fail
  go_ret2
  exact ⟨rfl, rfl⟩
theorem int_info : (Tryz.prog.info? 3).map (fun i => (i.zero, i.size, i.bytes)) = some (some (.int .i64 0), 1, 8) := by kernel_rfl
theorem int_size : (Tryz.prog.info? 3).map (·.size) = some 1 := by kernel_rfl
theorem made_rw (n : Nat) (v : Int) : (madeCells #[Value.int .i64 0] n) = (rw0 0 n v).toArray := by
  apply Array.toList_inj.1
  rw [toList_madeCells_one]
  simp [rw0]
abbrev Row0 (w : World) (g m n : Nat) (v : Int) : Prop := w.heap[g]? = some (.cells (rw0 m n v).toArray 3 (0, 0))
theorem row0_cell {w : World} {g m n : Nat} {v : Int} (h : Row0 w g m n v) {j : Nat} (hj : j < m) : w.cell? ⟨g, j, none⟩ = some (.int .i64 v) := by
  have := cell_of_row w g j _ _ _ h
  rw [this, List.getElem?_toArray, rw_get v hj]
theorem copy_more {W : World} {g m n : Nat} {v : Int} (bx ox sl sc dc : Nat) (h : W.heap[g]? = some (.cells (rw0 m n v).toArray 3 (0, 0))) (hm : m ≤ n) (hsrc : ∀ j, j < sl → W.cell? ⟨bx, ox + j, none⟩ = some (.int .i64 v)) :
    (Builtin.copy_ #[83, 83] 3 #[.slice (some ⟨g, m, none⟩) (n - m) dc, .slice (some ⟨bx, ox, none⟩) sl sc]).run Tryz.prog W = .ok (goInt ((Nat.min sl (n - m) : Nat) : Int)) (W.setRow g (rw0 (m + Nat.min sl (n - m)) n v).toArray) := by
  have hk : Nat.min sl (n - m) ≤ n - m := Nat.min_le_right _ _
  have hk2 : Nat.min sl (n - m) ≤ sl := Nat.min_le_left _ _
  have := copy_rowC (P := Tryz.prog) W 83 83 3 3 1 g m (n - m) dc ⟨bx, ox, none⟩ sl sc (rw0 m n v).toArray 3 (List.replicate (Nat.min sl (n - m)) (.int .i64 v)) Tryz.underlying83 int_size h (by rw [List.length_replicate, Nat.mul_one])
    (fun j u hj => by
      rw [List.getElem?_replicate] at hj
      split at hj
      · injection hj with hj
        rw [Go.WideShapes.add_plain, ← hj]
        exact hsrc j (by omega)
      · cases hj) (by rw [List.length_replicate, List.size_toArray, rw_len v hm]; omega) (by intro u hu; rw [List.mem_replicate] at hu; rw [hu.2]; rfl)
  rw [List.length_replicate] at this
  rw [this]
  have e : ((rw0 m n v).toArray.toList.take m ++ List.replicate (Nat.min sl (n - m)) (Value.int .i64 v) ++ (rw0 m n v).toArray.toList.drop (m + Nat.min sl (n - m))) = rw0 (m + Nat.min sl (n - m)) n v := rw_next v (by omega)
  rw [e]
set_option maxRecDepth 100000 in
set_option maxHeartbeats 4000000 in
theorem repeatC (bx : Nat) (v : Int) (n : Nat) (w : World) (hn : n ≤ 1000) (hx : w.cell? ⟨bx, 0, none⟩ = some (.int .i64 v)) :
    Calls Tryz.prog 85 #[.slice (some ⟨bx, 0, none⟩) 1 1, .int .i64 n] w fun e w' => (∃ g, e = .returned (.slice (some ⟨g, 0, none⟩) n n) ∧ w.heap.size ≤ g ∧ Row0 w' g n n v) ∧ Below w.heap.size w w' := by
  have MU : Hid (Calls Tryz.prog 104 #[.int .u64 1, .int .u64 n] w fun e w' => e = .returned (.tuple #[.int .u64 0, .int .u64 n]) ∧ w = w') := Lib.hid (by
    have := mulC 1 n (by omega) (by decide) (by omega) w
    rw [Nat.one_mul] at this; exact this)
  have hmk := run_make_row' (P := Tryz.prog) 83 3 (.int .i64 0) 8 Tryz.underlying83 int_info rfl .i64 .i64 n (by omega) (by omega)
  rw [made_rw n v] at hmk
  have hcp := copy_more (W := w.alloc (.cells (rw0 0 n v).toArray 3)) (g := w.heap.size) (m := 0) (n := n) (v := v) bx 0 1 1 n (heap_alloc_new w _) (Nat.zero_le _) (fun j hj => by
    rw [show j = 0 from by omega, Nat.add_zero]; exact keep (b_alloc (Below.refl _ _) _) hx)
  rw [Nat.sub_zero, Nat.zero_add] at hcp
  obtain ⟨k1, hk1⟩ : ∃ k1, k1 = Nat.min 1 n := ⟨_, rfl⟩
  rw [← hk1] at hcp
  have K1 : Hid (k1 ≤ n ∧ (n = 0 ∨ k1 = 1)) := Lib.hid (by rw [hk1]; simp only [Nat.min_def]; split <;> omega)
  clear hk1
  obtain ⟨W1, hW1⟩ : ∃ W1, W1 = (w.alloc (.cells (rw0 0 n v).toArray 3)).setRow w.heap.size (rw0 k1 n v).toArray := ⟨_, rfl⟩
  rw [← hW1] at hcp
  have R1 : Hid (Row0 W1 w.heap.size k1 n v) := Lib.hid (by rw [hW1]; exact setRow_heap _ _ _ _ _ _ (heap_alloc_new w _))
  have B1 : Hid (Below w.heap.size w W1) := Lib.hid (by rw [hW1]; exact below_setRow (b_alloc (Below.refl _ _) _) (Nat.le_refl _) _)
  have HMK := Lib.hid hmk; have HCP := Lib.hid hcp
  clear hW1 hx
  have h0 : ¬ (n : Int) < 0 := by omega
  have h1 : IntKind.u64.wrap (n : Int) = (n : Int) := IntWalk.u64_in _ (by omega)
  have h2 : ¬ 9223372036854775807 < (n : Int) := by omega
  have h3 : IntKind.i64.wrap (n : Int) = (n : Int) := IntWalk.i64_in _ (by omega)
  go_enter Tryz.func85, Tryz.ntmps85
  go_wp2_with fail
  (with_reducible refine MU.out.mono ?_); rintro e w' ⟨rfl, rfl⟩
  go_wp2_with fail
  clear hmk hcp
  obtain ⟨g, hg⟩ : ∃ g, g = w.heap.size := ⟨_, rfl⟩
  rw [← hg] at R1 ⊢
  have HG := Lib.hid hg; clear hg
  go_loopw [8] (fun s wr => ∃ m : Nat, s = .int .i64 m ∧ m ≤ n ∧ (n = 0 ∨ 1 ≤ m) ∧ Row0 wr g m n v ∧ Below w.heap.size w wr) (fun s _ => n - (intOf s).toNat)
  case atStart => exact ⟨k1, rfl, K1.out.1, by have := K1.out.2; omega, R1.out, B1.out⟩
  case round =>
    obtain ⟨m, rfl, hm, hm1, hr, hbl⟩ := hrel
    have HR := Lib.hid hr; have HB := Lib.hid hbl; clear hr hbl
    by_cases hlt : m < n
    · have hl : (m : Int) < (n : Int) := by omega
      have hrun := copy_more (W := wr.drew) (v := v) g 0 m n (n - m) HR.out hm (fun j hj => by rw [Nat.zero_add]; exact row0_cell (w := wr.drew) HR.out hj)
      obtain ⟨k, hk⟩ : ∃ k, k = Nat.min m (n - m) := ⟨_, rfl⟩
      rw [← hk] at hrun
      have hk1 : 1 ≤ k ∧ m + k ≤ n := by rw [hk]; simp only [Nat.min_def]; split <;> omega
      clear hk
      have u1 : IntKind.i64.wrap ((m : Int) + (k : Int)) = (m : Int) + (k : Int) := IntWalk.i64_in _ (by omega)
      have l1 : (m : Int) ≤ (n : Int) := by omega
      have l2 : (0 : Int) ≤ (m : Int) := by omega
      have hnm : ¬ n = m := by omega
      go_wp2_with fail
      go_region_law (refine step_copy_run rfl _ _ 83 83 rfl (.slice (some ⟨g, m, none⟩) (n - m) (n - m)) (.slice (some ⟨g, 0, none⟩) m n) (by simp [Act.eval, Act.put]) (by simp [Act.eval, Act.put]) hrun ?_)
      have R2 : Hid (Row0 (wr.drew.setRow g (rw0 (m + k) n v).toArray) g (m + k) n v) := Lib.hid (setRow_heap wr.drew g _ _ _ _ HR.out)
      have B2 : Hid (Below w.heap.size w (wr.drew.setRow g (rw0 (m + k) n v).toArray)) := Lib.hid (below_setRow (b_drew HB.out) (Nat.le_of_eq HG.out.symm) _)
      generalize wr.drew.setRow g (rw0 (m + k) n v).toArray = W2 at *
      clear hrun hnm
      simp only [List.getElem_toArray, List.getElem_cons_succ, List.getElem_cons_zero, Act.put, List.setIfInBounds_toArray, List.set_cons_zero, List.set_cons_succ]
      go_wp2_with fail
      go_roundw
      case rel => exact ⟨m + k, by go_num, by omega, by omega, R2.out, B2.out⟩
      case measure => simp [intOf]; omega
    · obtain rfl : m = n := by omega
      have hl : ¬ (m : Int) < (m : Int) := by omega
      go_wp2_with fail
      go_ret
      exact ⟨⟨g, rfl, Nat.le_of_eq HG.out.symm, HR.out⟩, HB.out⟩
end Cpy
end Go.Proofs.YtmkglhoahdlogaaGreatDoor
