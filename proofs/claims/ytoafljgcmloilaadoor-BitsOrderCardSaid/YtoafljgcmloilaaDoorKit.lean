/- Small laws for walks: worlds that grow, and regions that draw their order, whose operations read old cells and call functions that make new memory alone. -/
import Derived.WalkKit
import Derived.WalkSpells
import Derived.WalkLawsBesides
import Derived.Lib.Hide
import Derived.Deep.QuietTactic
import Derived.BigQuiet
namespace Go.Proofs.YtoafljgcmloilaaDoor
open Go.RowKit
namespace Kit
theorem ret1 {k : IntKind} {a c : Int} (h1 : a = c) : Ending.returned (.int k a) = .returned (.int k c) := by rw [h1]
theorem ret2 {a b c d : Int} (h1 : a = c) (h2 : b = d) : Ending.returned (.tuple #[.int .i64 a, .int .i64 b]) = .returned (.tuple #[.int .i64 c, .int .i64 d]) := by rw [h1, h2]
theorem retb {a c : Bool} (h1 : a = c) : Ending.returned (.bool a) = .returned (.bool c) := by rw [h1]
theorem bcell {W w1 : World} (hb : Below W.heap.size W w1) : (∀ b o, b < W.heap.size → w1.cell? ⟨b, o, none⟩ = W.cell? ⟨b, o, none⟩) ∧ (∀ b o, b < W.heap.size → w1.frozen? ⟨b, o, none⟩ = W.frozen? ⟨b, o, none⟩) :=
  ⟨fun b o h => hb.cell (p := ⟨b, o, none⟩) h, fun b o h => hb.frozen (p := ⟨b, o, none⟩) h⟩
section
variable {w W w1 : World}
theorem b_alloc (h : Below w.heap.size w W) (o : Obj) : Below w.heap.size w (W.alloc o) := h.alloc h.size o
theorem b_next (h : Below w.heap.size w W) (hb : Below W.heap.size W w1) : Below w.heap.size w w1 := h.trans (hb.mono h.size)
theorem b_drew (h : Below w.heap.size w W) : Below w.heap.size w W.drew := h.drew
theorem b_drewN (h : Below w.heap.size w W) (n : Nat) : Below w.heap.size w (W.drewN n) := ⟨h.os, h.tape, h.output, h.size, h.block⟩
theorem b_set (h : Below w.heap.size w W) {p : Addr} (hp : w.heap.size ≤ p.block) (u : Value) : Below w.heap.size w (W.setCell p u) := h.setCell hp u
theorem b_eq (h : W = w1) (hb : Below w.heap.size w W) : Below w.heap.size w w1 := h ▸ hb
end
theorem lt_of_cell {w : World} {a : Addr} {v : Value} (h : w.cell? a = some v) : a.block < w.heap.size := by
  rcases Nat.lt_or_ge a.block w.heap.size with hl | hl
  · exact hl
  · exfalso
    unfold World.cell? at h
    rw [Array.getElem?_eq_none hl] at h
    cases h
/-- A cell stays what it is. -/
theorem keep {W w1 : World} (hb : Below W.heap.size W w1) {a : Addr} {v : Value} (h : W.cell? a = some v) : w1.cell? a = some v := (hb.cell (lt_of_cell h)).trans h
theorem keepA {W : World} (o : Obj) {a : Addr} {v : Value} (h : W.cell? a = some v) : (W.alloc o).cell? a = some v := keep (b_alloc (Below.refl _ _) o) h
theorem keepF {W w1 : World} (hb : Below W.heap.size W w1) {a : Addr} {v : Value} (h : W.cell? a = some v) (hf : W.frozen? a = false) : w1.frozen? a = false := (hb.frozen (lt_of_cell h)).trans hf
/-- A point lies in block b. -/
abbrev P2 (w : World) (b : Nat) (x y : Int) : Prop := w.cell? ⟨b, 0, none⟩ = some (.int .i64 x) ∧ w.cell? ⟨b, 1, none⟩ = some (.int .i64 y)
theorem p2_keep {W w1 : World} (hb : Below W.heap.size W w1) {b : Nat} {x y : Int} (h : P2 W b x y) : P2 w1 b x y := ⟨keep hb h.1, keep hb h.2⟩
theorem p2_alloc {W : World} (o : Obj) {b : Nat} {x y : Int} (h : P2 W b x y) : P2 (W.alloc o) b x y := ⟨keepA o h.1, keepA o h.2⟩
theorem p2_new (w : World) (t : TypeId) (x y : Int) : P2 (w.alloc (.cells #[.int .i64 x, .int .i64 y] t)) w.heap.size x y := ⟨by simp, by simp⟩
theorem cset {w : World} {a : Addr} {u : Value} (v : Value) (h : w.cell? a = some u) : (w.setCell a v).cell? a = some v := World.cell?_setCell_same _ _ _ h
theorem cfar {w : World} {a p : Addr} {v : Value} (u : Value) (hne : a ≠ p) (h : w.cell? p = some v) : (w.setCell a u).cell? p = some v := (World.cell?_setCell_other _ _ _ _ hne).trans h
theorem p2_set0 {w : World} {b : Nat} {x y : Int} (x' : Int) (h : P2 w b x y) : P2 (w.setCell ⟨b, 0, none⟩ (.int .i64 x')) b x' y := ⟨cset _ h.1, cfar _ (by simp) h.2⟩
theorem p2_set1 {w : World} {b : Nat} {x y : Int} (y' : Int) (h : P2 w b x y) : P2 (w.setCell ⟨b, 1, none⟩ (.int .i64 y')) b x y' := ⟨cfar _ (by simp) h.1, cset _ h.2⟩
theorem p2_far {w : World} {b : Nat} {x y : Int} (a : Addr) (u : Value) (hne : a.block ≠ b) (h : P2 w b x y) : P2 (w.setCell a u) b x y := ⟨cfar _ (fun e => hne (by rw [e])) h.1, cfar _ (fun e => hne (by rw [e])) h.2⟩
theorem p2_new1 (w : World) (o : Obj) (t : TypeId) (x y : Int) : P2 ((w.alloc o).alloc (.cells #[.int .i64 x, .int .i64 y] t)) (w.heap.size + 1) x y := by
  have h := p2_new (w.alloc o) t x y; rw [World.size_alloc] at h; exact h
theorem p2_new2 (w : World) (o o' : Obj) (t : TypeId) (x y : Int) : P2 (((w.alloc o).alloc o').alloc (.cells #[.int .i64 x, .int .i64 y] t)) (w.heap.size + 1 + 1) x y := by
  have h := p2_new1 (w.alloc o) o' t x y; rw [World.size_alloc] at h; exact h
/-- A point lies in block b, and may be written. -/
abbrev B2 (w : World) (b : Nat) (x y : Int) : Prop := (w.cell? ⟨b, 0, none⟩ = some (.int .i64 x) ∧ w.cell? ⟨b, 1, none⟩ = some (.int .i64 y)) ∧ w.frozen? ⟨b, 0, none⟩ = false ∧ w.frozen? ⟨b, 1, none⟩ = false
theorem b2_keep {W w1 : World} (hb : Below W.heap.size W w1) {b : Nat} {x y : Int} (h : B2 W b x y) : B2 w1 b x y := ⟨p2_keep hb h.1, keepF hb h.1.1 h.2.1, keepF hb h.1.2 h.2.2⟩
theorem b2_alloc {W : World} (o : Obj) {b : Nat} {x y : Int} (h : B2 W b x y) : B2 (W.alloc o) b x y := b2_keep (b_alloc (Below.refl _ _) o) h
theorem b2_new (w : World) (t : TypeId) (x y : Int) : B2 (w.alloc (.cells #[.int .i64 x, .int .i64 y] t)) w.heap.size x y := ⟨p2_new w t x y, by simp, by simp⟩
theorem b2_new1 (w : World) (o : Obj) (t : TypeId) (x y : Int) : B2 ((w.alloc o).alloc (.cells #[.int .i64 x, .int .i64 y] t)) (w.heap.size + 1) x y := by
  have h := b2_new (w.alloc o) t x y; rw [World.size_alloc] at h; exact h
theorem b2_new2 (w : World) (o o' : Obj) (t : TypeId) (x y : Int) : B2 (((w.alloc o).alloc o').alloc (.cells #[.int .i64 x, .int .i64 y] t)) (w.heap.size + 1 + 1) x y := by
  have h := b2_new1 (w.alloc o) o' t x y; rw [World.size_alloc] at h; exact h
theorem b2_set0 {w : World} {b : Nat} {x y : Int} (x' : Int) (h : B2 w b x y) : B2 (w.setCell ⟨b, 0, none⟩ (.int .i64 x')) b x' y := ⟨p2_set0 x' h.1, (World.frozen?_setCell _ _ _ _).trans h.2.1, (World.frozen?_setCell _ _ _ _).trans h.2.2⟩
theorem b2_set1 {w : World} {b : Nat} {x y : Int} (y' : Int) (h : B2 w b x y) : B2 (w.setCell ⟨b, 1, none⟩ (.int .i64 y')) b x y' := ⟨p2_set1 y' h.1, (World.frozen?_setCell _ _ _ _).trans h.2.1, (World.frozen?_setCell _ _ _ _).trans h.2.2⟩
theorem b2_far {w : World} {b : Nat} {x y : Int} (a : Addr) (u : Value) (hne : a.block ≠ b) (h : B2 w b x y) : B2 (w.setCell a u) b x y := ⟨p2_far a u hne h.1, (World.frozen?_setCell _ _ _ _).trans h.2.1, (World.frozen?_setCell _ _ _ _).trans h.2.2⟩
/-- The class of worlds that have only grown, as seen from w. -/
def Cls (w w' : World) : Prop := Below w.heap.size w w'
section
variable {P : Program} {ops : Array Oper}
theorem call_below {f : FuncId} {args : Array Value} {w w' : World} {v : Value} (hq : Cls w w')
    (h : Calls P f args w' fun e w'' => e = .returned v ∧ Below w'.heap.size w' w'') : Calls P f args w' fun e w'' => e = .returned v ∧ Cls w w'' :=
  h.mono fun _ _ ⟨he, hb⟩ => ⟨he, b_next hq hb⟩
theorem call_same {f : FuncId} {args : Array Value} {w w' : World} {v : Value} (hq : Cls w w')
    (h : Calls P f args w' fun e w'' => e = .returned v ∧ w' = w'') : Calls P f args w' fun e w'' => e = .returned v ∧ Cls w w'' :=
  h.mono fun _ _ ⟨he, hb⟩ => ⟨he, hb ▸ hq⟩
theorem call_drew {f : FuncId} {args : Array Value} {w w' : World} {v : Value} (hq : Cls w w')
    (h : Calls P f args w' fun e w'' => e = .returned v ∧ ∃ n, w'.drewN n = w'') : Calls P f args w' fun e w'' => e = .returned v ∧ Cls w w'' :=
  h.mono fun _ _ ⟨he, n, hb⟩ => ⟨he, hb ▸ b_drewN hq n⟩
/-- A drawn region whose operations, in every world that has only grown, yield one value each. -/
theorem region_below {id : Nat} {Q : Exit → Act → World → Prop} {a : Act} {w : World} {l : List Oper} (hm : P.follows .mixedOrders = true) (hB : Region.lexB .any l.toArray = true)
    (h : wpQuiet P l.toArray (Cls w) (fun a' => ∀ w', Below w.heap.size w w' → Q .normal a' w') l a) : (Code.region id l.toArray true).wp P Q a w :=
  wp_region_quiet (C := Cls w) hm hB (Below.refl _ _).drew (by simpa [Cls] using h)
/-- One operation of it. -/
theorem q_step {w : World} {Q : Act → Prop} {a : Act} {o : Oper} {rest : List Oper} (hw : Region.wanted o (yielded ops a.tmps) = true)
    (hq : ∃ v : Value, (∀ w', (∀ b o, b < w.heap.size → w'.cell? ⟨b, o, none⟩ = w.cell? ⟨b, o, none⟩) → Cls w w' → Oper.quietUpon P (Cls w) w' v ((execOp a.eval o).run P w')) ∧
      wpQuiet P ops (Cls w) Q rest (a.put o.dst v)) : wpQuiet P ops (Cls w) Q (o :: rest) a := by
  show if Region.wanted o (yielded ops a.tmps) then o.quiet P a _ (wpQuiet P ops _ Q rest) else _
  rw [if_pos hw]
  obtain ⟨v, h1, h2⟩ := hq
  exact ⟨v, fun w' h => h1 w' (bcell h).1 h, h2⟩
theorem q_skip {C : World → Prop} {Q : Act → Prop} {a : Act} {o : Oper} {rest : List Oper} (hw : Region.wanted o (yielded ops a.tmps) = false)
    (h : wpQuiet P ops C Q rest (a.put o.dst undef)) : wpQuiet P ops C Q (o :: rest) a := by
  show if Region.wanted o (yielded ops a.tmps) then o.quiet P a C (wpQuiet P ops C Q rest) else _
  rw [hw]
  exact h
end
end Kit
end Go.Proofs.YtoafljgcmloilaaDoor
