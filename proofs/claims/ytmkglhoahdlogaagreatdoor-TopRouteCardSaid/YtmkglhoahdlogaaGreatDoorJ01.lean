/- Joined texts: Kit, Draw, Kit2, RowK, RowM. -/
import Derived.WalkKit
import Derived.WalkSpells
import Derived.WalkLawsBesides
import Derived.Lib.Hide
import Derived.Deep.QuietTactic
import Derived.BigQuiet
import Derived.BigRegion
import Derived.Deep.RegionWith
import Derived.Laws.OwnMore
import Derived.Deep.AppendLies
import Derived.Maps.AppendAt
import Derived.WideShapes
import Derived.Lib.SliceRun
namespace Go.Proofs.YtmkglhoahdlogaaGreatDoor
open Go.RowKit
namespace Kit
theorem ret1 {k : IntKind} {a c : Int} (h1 : a = c) : Ending.returned (.int k a) = .returned (.int k c) := by rw [h1]
theorem ret2 {a b c d : Int} (h1 : a = c) (h2 : b = d) : Ending.returned (.tuple #[.int .i64 a, .int .i64 b]) = .returned (.tuple #[.int .i64 c, .int .i64 d]) := by rw [h1, h2]
theorem retb {a c : Bool} (h1 : a = c) : Ending.returned (.bool a) = .returned (.bool c) := by rw [h1]
theorem bcell {W w1 : World} (hb : Below W.heap.size W w1) : (∀ b o, b < W.heap.size → w1.cell? ⟨b, o, none⟩ = W.cell? ⟨b, o, none⟩) ∧ (∀ b o, b < W.heap.size → w1.frozen? ⟨b, o, none⟩ = W.frozen? ⟨b, o, none⟩) :=
  ⟨fun b o h => hb.cell (p := ⟨b, o, none⟩) h, fun b o h => hb.frozen (p := ⟨b, o, none⟩) h⟩
section
variable {w W w1 : World}
theorem b_alloc (h : Below w.heap.size w W) (o : Obj) : Below w.heap.size w (W.alloc o) := h.alloc h.size o
theorem b_next (h : Below w.heap.size w W) (hb : Below W.heap.size W w1) : Below w.heap.size w w1 := h.trans (hb.mono h.size)
theorem b_drew (h : Below w.heap.size w W) : Below w.heap.size w W.drew := h.drew
theorem b_drewN (h : Below w.heap.size w W) (n : Nat) : Below w.heap.size w (W.drewN n) := ⟨h.os, h.tape, h.output, h.size, h.block⟩
theorem b_set (h : Below w.heap.size w W) {p : Addr} (hp : w.heap.size ≤ p.block) (u : Value) : Below w.heap.size w (W.setCell p u) := h.setCell hp u
theorem b_eq (h : W = w1) (hb : Below w.heap.size w W) : Below w.heap.size w w1 := h ▸ hb
end
theorem lt_of_cell {w : World} {a : Addr} {v : Value} (h : w.cell? a = some v) : a.block < w.heap.size := by
  rcases Nat.lt_or_ge a.block w.heap.size with hl | hl
  · exact hl
  · exfalso
    unfold World.cell? at h
    rw [Array.getElem?_eq_none hl] at h
    cases h
/-- A cell stays what it is. -/
theorem keep {W w1 : World} (hb : Below W.heap.size W w1) {a : Addr} {v : Value} (h : W.cell? a = some v) : w1.cell? a = some v := (hb.cell (lt_of_cell h)).trans h
theorem keepA {W : World} (o : Obj) {a : Addr} {v : Value} (h : W.cell? a = some v) : (W.alloc o).cell? a = some v := keep (b_alloc (Below.refl _ _) o) h
theorem keepF {W w1 : World} (hb : Below W.heap.size W w1) {a : Addr} {v : Value} (h : W.cell? a = some v) (hf : W.frozen? a = false) : w1.frozen? a = false := (hb.frozen (lt_of_cell h)).trans hf
/-- A point lies in block b. -/
abbrev P2 (w : World) (b : Nat) (x y : Int) : Prop := w.cell? ⟨b, 0, none⟩ = some (.int .i64 x) ∧ w.cell? ⟨b, 1, none⟩ = some (.int .i64 y)
theorem p2_keep {W w1 : World} (hb : Below W.heap.size W w1) {b : Nat} {x y : Int} (h : P2 W b x y) : P2 w1 b x y := ⟨keep hb h.1, keep hb h.2⟩
theorem p2_alloc {W : World} (o : Obj) {b : Nat} {x y : Int} (h : P2 W b x y) : P2 (W.alloc o) b x y := ⟨keepA o h.1, keepA o h.2⟩
theorem p2_new (w : World) (t : TypeId) (x y : Int) : P2 (w.alloc (.cells #[.int .i64 x, .int .i64 y] t)) w.heap.size x y := ⟨by simp, by simp⟩
theorem cset {w : World} {a : Addr} {u : Value} (v : Value) (h : w.cell? a = some u) : (w.setCell a v).cell? a = some v := World.cell?_setCell_same _ _ _ h
theorem cfar {w : World} {a p : Addr} {v : Value} (u : Value) (hne : a ≠ p) (h : w.cell? p = some v) : (w.setCell a u).cell? p = some v := (World.cell?_setCell_other _ _ _ _ hne).trans h
theorem p2_set0 {w : World} {b : Nat} {x y : Int} (x' : Int) (h : P2 w b x y) : P2 (w.setCell ⟨b, 0, none⟩ (.int .i64 x')) b x' y := ⟨cset _ h.1, cfar _ (by simp) h.2⟩
theorem p2_set1 {w : World} {b : Nat} {x y : Int} (y' : Int) (h : P2 w b x y) : P2 (w.setCell ⟨b, 1, none⟩ (.int .i64 y')) b x y' := ⟨cfar _ (by simp) h.1, cset _ h.2⟩
theorem p2_far {w : World} {b : Nat} {x y : Int} (a : Addr) (u : Value) (hne : a.block ≠ b) (h : P2 w b x y) : P2 (w.setCell a u) b x y := ⟨cfar _ (fun e => hne (by rw [e])) h.1, cfar _ (fun e => hne (by rw [e])) h.2⟩
theorem p2_new1 (w : World) (o : Obj) (t : TypeId) (x y : Int) : P2 ((w.alloc o).alloc (.cells #[.int .i64 x, .int .i64 y] t)) (w.heap.size + 1) x y := by
  have h := p2_new (w.alloc o) t x y; rw [World.size_alloc] at h; exact h
theorem p2_new2 (w : World) (o o' : Obj) (t : TypeId) (x y : Int) : P2 (((w.alloc o).alloc o').alloc (.cells #[.int .i64 x, .int .i64 y] t)) (w.heap.size + 1 + 1) x y := by
  have h := p2_new1 (w.alloc o) o' t x y; rw [World.size_alloc] at h; exact h
/-- A point lies in block b, and may be written. -/
abbrev B2 (w : World) (b : Nat) (x y : Int) : Prop := (w.cell? ⟨b, 0, none⟩ = some (.int .i64 x) ∧ w.cell? ⟨b, 1, none⟩ = some (.int .i64 y)) ∧ w.frozen? ⟨b, 0, none⟩ = false ∧ w.frozen? ⟨b, 1, none⟩ = false
theorem b2_keep {W w1 : World} (hb : Below W.heap.size W w1) {b : Nat} {x y : Int} (h : B2 W b x y) : B2 w1 b x y := ⟨p2_keep hb h.1, keepF hb h.1.1 h.2.1, keepF hb h.1.2 h.2.2⟩
theorem b2_alloc {W : World} (o : Obj) {b : Nat} {x y : Int} (h : B2 W b x y) : B2 (W.alloc o) b x y := b2_keep (b_alloc (Below.refl _ _) o) h
theorem b2_new (w : World) (t : TypeId) (x y : Int) : B2 (w.alloc (.cells #[.int .i64 x, .int .i64 y] t)) w.heap.size x y := ⟨p2_new w t x y, by simp, by simp⟩
theorem b2_new1 (w : World) (o : Obj) (t : TypeId) (x y : Int) : B2 ((w.alloc o).alloc (.cells #[.int .i64 x, .int .i64 y] t)) (w.heap.size + 1) x y := by
  have h := b2_new (w.alloc o) t x y; rw [World.size_alloc] at h; exact h
theorem b2_new2 (w : World) (o o' : Obj) (t : TypeId) (x y : Int) : B2 (((w.alloc o).alloc o').alloc (.cells #[.int .i64 x, .int .i64 y] t)) (w.heap.size + 1 + 1) x y := by
  have h := b2_new1 (w.alloc o) o' t x y; rw [World.size_alloc] at h; exact h
theorem b2_set0 {w : World} {b : Nat} {x y : Int} (x' : Int) (h : B2 w b x y) : B2 (w.setCell ⟨b, 0, none⟩ (.int .i64 x')) b x' y := ⟨p2_set0 x' h.1, (World.frozen?_setCell _ _ _ _).trans h.2.1, (World.frozen?_setCell _ _ _ _).trans h.2.2⟩
theorem b2_set1 {w : World} {b : Nat} {x y : Int} (y' : Int) (h : B2 w b x y) : B2 (w.setCell ⟨b, 1, none⟩ (.int .i64 y')) b x y' := ⟨p2_set1 y' h.1, (World.frozen?_setCell _ _ _ _).trans h.2.1, (World.frozen?_setCell _ _ _ _).trans h.2.2⟩
theorem b2_far {w : World} {b : Nat} {x y : Int} (a : Addr) (u : Value) (hne : a.block ≠ b) (h : B2 w b x y) : B2 (w.setCell a u) b x y := ⟨p2_far a u hne h.1, (World.frozen?_setCell _ _ _ _).trans h.2.1, (World.frozen?_setCell _ _ _ _).trans h.2.2⟩
/-- The class of worlds that have only grown, as seen from w. -/
def Cls (w w' : World) : Prop := Below w.heap.size w w'
section
variable {P : Program} {ops : Array Oper}
theorem call_below {f : FuncId} {args : Array Value} {w w' : World} {v : Value} (hq : Cls w w')
    (h : Calls P f args w' fun e w'' => e = .returned v ∧ Below w'.heap.size w' w'') : Calls P f args w' fun e w'' => e = .returned v ∧ Cls w w'' :=
  h.mono fun _ _ ⟨he, hb⟩ => ⟨he, b_next hq hb⟩
theorem call_same {f : FuncId} {args : Array Value} {w w' : World} {v : Value} (hq : Cls w w')
    (h : Calls P f args w' fun e w'' => e = .returned v ∧ w' = w'') : Calls P f args w' fun e w'' => e = .returned v ∧ Cls w w'' :=
  h.mono fun _ _ ⟨he, hb⟩ => ⟨he, hb ▸ hq⟩
theorem call_drew {f : FuncId} {args : Array Value} {w w' : World} {v : Value} (hq : Cls w w')
    (h : Calls P f args w' fun e w'' => e = .returned v ∧ ∃ n, w'.drewN n = w'') : Calls P f args w' fun e w'' => e = .returned v ∧ Cls w w'' :=
  h.mono fun _ _ ⟨he, n, hb⟩ => ⟨he, hb ▸ b_drewN hq n⟩
/-- A drawn region whose operations, in every world that has only grown, yield one value each. -/
theorem region_below {id : Nat} {Q : Exit → Act → World → Prop} {a : Act} {w : World} {l : List Oper} (hm : P.follows .mixedOrders = true) (hB : Region.lexB .any l.toArray = true)
    (h : wpQuiet P l.toArray (Cls w) (fun a' => ∀ w', Below w.heap.size w w' → Q .normal a' w') l a) : (Code.region id l.toArray true).wp P Q a w :=
  wp_region_quiet (C := Cls w) hm hB (Below.refl _ _).drew (by simpa [Cls] using h)
/-- One operation of it. -/
theorem q_step {w : World} {Q : Act → Prop} {a : Act} {o : Oper} {rest : List Oper} (hw : Region.wanted o (yielded ops a.tmps) = true)
    (hq : ∃ v : Value, (∀ w', (∀ b o, b < w.heap.size → w'.cell? ⟨b, o, none⟩ = w.cell? ⟨b, o, none⟩) → Cls w w' → Oper.quietUpon P (Cls w) w' v ((execOp a.eval o).run P w')) ∧
      wpQuiet P ops (Cls w) Q rest (a.put o.dst v)) : wpQuiet P ops (Cls w) Q (o :: rest) a := by
  show if Region.wanted o (yielded ops a.tmps) then o.quiet P a _ (wpQuiet P ops _ Q rest) else _
  rw [if_pos hw]
  obtain ⟨v, h1, h2⟩ := hq
  exact ⟨v, fun w' h => h1 w' (bcell h).1 h, h2⟩
theorem q_skip {C : World → Prop} {Q : Act → Prop} {a : Act} {o : Oper} {rest : List Oper} (hw : Region.wanted o (yielded ops a.tmps) = false)
    (h : wpQuiet P ops C Q rest (a.put o.dst undef)) : wpQuiet P ops C Q (o :: rest) a := by
  show if Region.wanted o (yielded ops a.tmps) then o.quiet P a C (wpQuiet P ops C Q rest) else _
  rw [hw]
  exact h
end
end Kit
end Go.Proofs.YtmkglhoahdlogaaGreatDoor
namespace Go.Proofs.YtmkglhoahdlogaaGreatDoor
open Go.RowKit
namespace Kit
/-- The rest of a drawn region's walk. A structure, so that nothing unfolds it unasked. -/
structure Dq (P : Program) (ops : Array Oper) (w : World) (Q : Act → Prop) (l : List Oper) (a : Act) : Prop where
  out : wpQuiet P ops (Cls w) Q l a
section
variable {P : Program} {ops : Array Oper} {w : World} {Q : Act → Prop} {a : Act} {o : Oper} {rest : List Oper}
theorem d_region {id : Nat} {Q : Exit → Act → World → Prop} {l : List Oper} (hm : P.follows .mixedOrders = true) (hB : Region.lexB .any l.toArray = true)
    (h : Dq P l.toArray w (fun a' => ∀ w', Below w.heap.size w w' → Q .normal a' w') l a) : (Code.region id l.toArray true).wp P Q a w :=
  region_below hm hB h.out
theorem d_nil (h : Q a) : Dq P ops w Q [] a := ⟨wpQuiet_nil h⟩
theorem d_plain (hg : o.guard = none)
    (hq : ∃ v : Value, (∀ w', (∀ b o, b < w.heap.size → w'.cell? ⟨b, o, none⟩ = w.cell? ⟨b, o, none⟩) → Cls w w' → Oper.quietUpon P (Cls w) w' v ((execOp a.eval o).run P w')) ∧
      Dq P ops w Q rest (a.put o.dst v)) : Dq P ops w Q (o :: rest) a :=
  ⟨q_step (by unfold Region.wanted; rw [hg]) (hq.elim fun v h => ⟨v, h.1, h.2.out⟩)⟩
theorem d_on {j : Nat} {b c : Bool} (hg : o.guard = some (j, b)) (hy : yielded ops a.tmps j = some c) (hc : c = b)
    (hq : ∃ v : Value, (∀ w', (∀ b o, b < w.heap.size → w'.cell? ⟨b, o, none⟩ = w.cell? ⟨b, o, none⟩) → Cls w w' → Oper.quietUpon P (Cls w) w' v ((execOp a.eval o).run P w')) ∧
      Dq P ops w Q rest (a.put o.dst v)) : Dq P ops w Q (o :: rest) a :=
  ⟨q_step (by unfold Region.wanted; rw [hg]; simp [hy, hc]) (hq.elim fun v h => ⟨v, h.1, h.2.out⟩)⟩
theorem d_off {j : Nat} {b c : Bool} (hg : o.guard = some (j, b)) (hy : yielded ops a.tmps j = some c) (hc : c = !b)
    (h : Dq P ops w Q rest (a.put o.dst undef)) : Dq P ops w Q (o :: rest) a :=
  ⟨q_skip (by unfold Region.wanted; rw [hg]; simp [hy, hc]) h.out⟩
/-- The guard's own operation was skipped: so is this one. -/
theorem d_void {j : Nat} {b : Bool} (hg : o.guard = some (j, b)) (hy : yielded ops a.tmps j = none)
    (h : Dq P ops w Q rest (a.put o.dst undef)) : Dq P ops w Q (o :: rest) a :=
  ⟨q_skip (by unfold Region.wanted; rw [hg]; simp [hy]) h.out⟩
end
end Kit
end Go.Proofs.YtmkglhoahdlogaaGreatDoor
namespace Go.Proofs.YtmkglhoahdlogaaGreatDoor
open Go.RowKit
namespace Kit
theorem new_ne {w : World} {b off : Nat} {u : Value} (h : w.cell? ⟨b, off, none⟩ = some u) : ¬ w.heap.size = b ∧ ¬ b = w.heap.size ∧ b < w.heap.size := by
  have := lt_of_cell h
  have h' : b < w.heap.size := this
  omega
theorem cls {w w' : World} (h : Cls w w') : Below w.heap.size w w' := h
/-- A piece of code whose ways come to one end: what is known there. -/
def Ends (F : Act → World → Prop) : Exit → Act → World → Prop
  | .normal, a, w => F a w
  | _, _, _ => False
theorem cut_region {P : Program} {c : Code} {Q : Exit → Act → World → Prop} {a : Act} {w : World} (F : Act → Act → World → Prop) (h : c.wp P (Ends (F a)) a w) (k : ∀ a' w', F a a' w' → Q .normal a' w') : c.wp P Q a w :=
  wp_mono h (by intro e a' w' h; cases e <;> first | exact k a' w' h | exact h.elim)
def puts (a : Act) : List (Nat × Value) → Act
  | [] => a
  | (d, v) :: l => puts (a.put (some d) v) l
theorem b2_pairA (w : World) (ty : TypeId) (x y x' y' : Int) : B2 ((w.alloc (.cells #[.int .i64 x, .int .i64 y] ty)).alloc (.cells #[.int .i64 x', .int .i64 y'] ty)) w.heap.size x y := b2_alloc _ (b2_new w ty x y)
end Kit
end Go.Proofs.YtmkglhoahdlogaaGreatDoor
namespace Go.Proofs.YtmkglhoahdlogaaGreatDoor
open Go.RowKit
namespace Kit
/-- n elements of C numbers each. -/
def rowL (C : Nat) (f : Nat → Nat → Int) : Nat → List Value
  | 0 => []
  | n + 1 => rowL C f n ++ (List.range C).map fun j => .int .i64 (f n j)
theorem rowL_len (C : Nat) (f : Nat → Nat → Int) : ∀ n, (rowL C f n).length = n * C
  | 0 => by simp [rowL]
  | n + 1 => by rw [rowL, List.length_append, rowL_len C f n]; simp [Nat.succ_mul]
theorem rowL_get {C : Nat} {f : Nat → Nat → Int} : ∀ {n i j : Nat}, i < n → j < C → (rowL C f n)[i * C + j]? = some (.int .i64 (f i j))
  | 0, _, _, h, _ => by omega
  | n + 1, i, j, h, hj => by
    rw [rowL]
    rcases Nat.lt_or_ge i n with hl | hl
    · rw [List.getElem?_append_left (by
        rw [rowL_len]
        have : i * C + C ≤ n * C := by have := Nat.mul_le_mul_right C (show i + 1 ≤ n by omega); rw [Nat.succ_mul] at this; exact this
        omega)]
      exact rowL_get hl hj
    · obtain rfl : i = n := by omega
      rw [List.getElem?_append_right (by rw [rowL_len]; omega), rowL_len, show i * C + j - i * C = j from by omega]
      simp [hj]
theorem rowL_at {C : Nat} {f : Nat → Nat → Int} {n k : Nat} {u : Value} (h : (rowL C f n)[k]? = some u) : k / C < n ∧ k % C < C ∧ u = .int .i64 (f (k / C) (k % C)) := by
  have hk : k < n * C := by
    have := (List.getElem?_eq_some_iff.1 h).1
    rwa [rowL_len] at this
  have hC : 0 < C := by
    rcases Nat.eq_zero_or_pos C with h0 | h0
    · subst h0; omega
    · exact h0
  have h1 : k / C < n := Nat.div_lt_of_lt_mul (by rw [Nat.mul_comm]; exact hk)
  have h2 : k % C < C := Nat.mod_lt _ hC
  have h3 := rowL_get (f := f) h1 h2
  rw [show k / C * C + k % C = k from by rw [Nat.mul_comm]; exact Nat.div_add_mod k C, h] at h3
  exact ⟨h1, h2, Option.some.inj h3⟩
theorem rowL_one {C : Nat} {f : Nat → Nat → Int} {n : Nat} : ∀ u ∈ rowL C f n, u.oneCell' = true := by
  intro u hu
  obtain ⟨k, hk⟩ := List.getElem?_of_mem hu
  rw [(rowL_at hk).2.2]; rfl
theorem rowL_congr {C : Nat} {f g : Nat → Nat → Int} : ∀ {n : Nat}, (∀ i, i < n → ∀ j, j < C → f i j = g i j) → rowL C f n = rowL C g n
  | 0, _ => rfl
  | n + 1, h => by
    rw [rowL, rowL, rowL_congr (n := n) (fun i hi j hj => h i (by omega) j hj)]
    congr 1
    apply List.map_congr_left
    intro j hj
    rw [h n (by omega) j (List.mem_range.1 hj)]
/-- The slice value v holds the rows, in memory from block base on. -/
abbrev Own (w : World) (base : Nat) (E : TypeId) (C : Nat) (v : Value) (n : Nat) (f : Nat → Nat → Int) : Prop := w.ownsRow base E C v n (rowL C f n)
/-- The rows of an own slice, cell by cell. -/
structure RowAt (w : World) (g n C : Nat) (f : Nat → Nat → Int) : Prop where
  cell : ∀ i, i < n → ∀ j, j < C → w.cell? ⟨g, i * C + j, none⟩ = some (.int .i64 (f i j))
  free : ∀ k, w.frozen? ⟨g, k, none⟩ = false
theorem own_row {w : World} {base : Nat} {E : TypeId} {C n : Nat} {v : Value} {f : Nat → Nat → Int} (h : Own w base E C v n f) (h0 : 0 < n) : ∃ g cap, v = .slice (some ⟨g, 0, none⟩) n cap ∧ base ≤ g ∧ g < w.heap.size ∧ n ≤ cap ∧ cap ≤ maxLen ∧ RowAt w g n C f := by
  have hh := h
  rcases h.2 with ⟨_, h1⟩ | ⟨g, cap, cur, hv, hb, hg, hnc, hcm, _⟩
  · omega
  · subst hv
    have hlt : g < w.heap.size := by
      rcases Nat.lt_or_ge g w.heap.size with hl | hl
      · exact hl
      · rw [Array.getElem?_eq_none hl] at hg; cases hg
    refine ⟨g, cap, rfl, hb, hlt, hnc, hcm, fun i hi j hj => ?_, fun k => hh.frozenAt k⟩
    have hlt : i * C + j < n * C := by
      have := Nat.mul_le_mul_right C (show i + 1 ≤ n by omega); rw [Nat.succ_mul] at this; omega
    rw [hh.cellAt _ hlt]
    exact rowL_get hi hj
theorem row_keep {w w1 : World} {g n C : Nat} {f : Nat → Nat → Int} (hb : Below w.heap.size w w1) (hg : g < w.heap.size) (h : RowAt w g n C f) : RowAt w1 g n C f :=
  ⟨fun i hi j hj => keep hb (h.cell i hi j hj), fun k => (hb.frozen (p := ⟨g, k, none⟩) hg).trans (h.free k)⟩
/-- One number turned. -/
def upd (f : Nat → Nat → Int) (i j : Nat) (x : Int) : Nat → Nat → Int := fun a b => if a = i ∧ b = j then x else f a b
theorem row_set {w : World} {g n C : Nat} {f : Nat → Nat → Int} (h : RowAt w g n C f) {i j : Nat} (hi : i < n) (hj : j < C) (x : Int) : RowAt (w.setCell ⟨g, i * C + j, none⟩ (.int .i64 x)) g n C (upd f i j x) := by
  refine ⟨fun a ha b hb => ?_, fun k => (World.frozen?_setCell _ _ _ _).trans (h.free k)⟩
  unfold upd
  by_cases e : a = i ∧ b = j
  · rw [if_pos e, e.1, e.2]
    exact cset _ (h.cell i hi j hj)
  · rw [if_neg e]
    refine cfar _ (fun he => e ?_) (h.cell a ha b hb)
    injection he with _ h2
    rcases Nat.lt_trichotomy a i with hl | hl | hl
    · have := Nat.mul_le_mul_right C (show a + 1 ≤ i by omega); rw [Nat.succ_mul] at this; omega
    · subst hl; omega
    · have := Nat.mul_le_mul_right C (show i + 1 ≤ a by omega); rw [Nat.succ_mul] at this; omega
/-- A source that reads as rows. -/
theorem src_rows {w : World} {b off n C : Nat} {f : Nat → Nat → Int} (h : ∀ i, i < n → ∀ j, j < C → w.cell? ⟨b, off + i * C + j, none⟩ = some (.int .i64 (f i j))) :
    ∀ j u, (rowL C f n)[j]? = some u → w.cell? ((⟨b, off, none⟩ : Addr).add j) = some u := by
  intro k u hk
  obtain ⟨h1, h2, rfl⟩ := rowL_at hk
  rw [Go.WideShapes.add_plain]
  have := h (k / C) h1 (k % C) h2
  rw [show off + k / C * C + k % C = off + k from by
    have := Nat.div_add_mod k C
    rw [Nat.mul_comm] at this
    omega] at this
  exact this
end Kit
end Go.Proofs.YtmkglhoahdlogaaGreatDoor
namespace Go.Proofs.YtmkglhoahdlogaaGreatDoor
open Go.RowKit
namespace Kit
theorem own_keep {W w1 : World} {base : Nat} {E : TypeId} {C n : Nat} {v : Value} {f : Nat → Nat → Int} (hb : Below W.heap.size W w1) (h : Own W base E C v n f) : Own w1 base E C v n f := by
  refine ⟨h.1, ?_⟩
  rcases h.2 with hh | ⟨g, cap, cur, hv, h1, hg, h2⟩
  · exact Or.inl hh
  · have hlt : g < W.heap.size := by
      rcases Nat.lt_or_ge g W.heap.size with hl | hl
      · exact hl
      · rw [Array.getElem?_eq_none hl] at hg; cases hg
    exact Or.inr ⟨g, cap, cur, hv, h1, (hb.block g hlt).trans hg, h2⟩
theorem own_ge {W : World} {base : Nat} {E : TypeId} {C n : Nat} {v : Value} {f : Nat → Nat → Int} (h : Own W base E C v n f) : ∀ k, v.ownBlock = some k → base ≤ k := by
  intro k hk
  rcases h.2 with ⟨rfl, -⟩ | ⟨g, cap, cur, rfl, h1, -⟩
  · simp [Value.ownBlock] at hk
  · simp [Value.ownBlock] at hk; omega
theorem own_nil (w : World) (base : Nat) (E : TypeId) (C : Nat) (f : Nat → Nat → Int) : Own w base E C (.slice none 0 0) 0 f := ⟨by simp [rowL], Or.inl ⟨rfl, rfl⟩⟩
theorem grow_below {N : Nat} {W w w1 : World} {v : Value} {base : Nat} {E : TypeId} {C n : Nat} {f : Nat → Nat → Int} (hb : Below N W w) (h : Own w base E C v n f) (hg : w.grownBy w1 v.ownBlock) (hN : N ≤ base) (hs : N ≤ w.heap.size) : Below N W w1 :=
  hb.grown hg hs (fun k hk => Nat.le_trans hN (own_ge h k hk))
end Kit
end Go.Proofs.YtmkglhoahdlogaaGreatDoor
