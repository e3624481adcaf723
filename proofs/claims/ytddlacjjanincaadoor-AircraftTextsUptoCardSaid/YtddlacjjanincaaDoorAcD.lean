/- aircraft.Read: what it returns. -/
import Derived.Test.YtddlacjjanincaaDoorAcL
import Derived.Test.YtddlacjjanincaaDoorAcN
import Derived.Test.YtddlacjjanincaaDoorPtS
import Derived.Test.YtddlacjjanincaaDoorPtR
import Derived.Test.YtddlacjjanincaaDoorFreshU
import Derived.Test.YtddlacjjanincaaDoorChA
namespace Go.Proofs.YtddlacjjanincaaDoor
open Go.RowKit
namespace Ac
open Kit Chart Name Kind Pt
/-- A type in a block of its own that may be turned. -/
structure Z7 (w : World) (b : Nat) (s : ByteArray) (q : Int) (N : Nat → Int) : Prop where
  c0 : w.cell? ⟨b, 0, none⟩ = some (.string s)
  c1 : w.cell? ⟨b, 1, none⟩ = some (.int .i64 q)
  c2 : w.cell? ⟨b, 2, none⟩ = some (.int .i64 (N 0))
  c3 : w.cell? ⟨b, 3, none⟩ = some (.int .i64 (N 1))
  c4 : w.cell? ⟨b, 4, none⟩ = some (.int .i64 (N 2))
  c5 : w.cell? ⟨b, 5, none⟩ = some (.int .i64 (N 3))
  c6 : w.cell? ⟨b, 6, none⟩ = some (.int .i64 (N 4))
  fr : ∀ k, w.frozen? ⟨b, k, none⟩ = false
abbrev n0 : Nat → Int := fun _ => 0
abbrev zk : Value := .agg #[.string ⟨#[]⟩, .int .i64 0, .int .i64 0, .int .i64 0, .int .i64 0, .int .i64 0, .int .i64 0]
theorem z7_new (w : World) (ty : TypeId) (s : ByteArray) (q : Int) (N : Nat → Int) : Z7 (w.alloc (.cells #[.string s, .int .i64 q, .int .i64 (N 0), .int .i64 (N 1), .int .i64 (N 2), .int .i64 (N 3), .int .i64 (N 4)] ty)) w.heap.size s q N :=
  ⟨by simp, by simp, by simp, by simp, by simp, by simp, by simp, fun k => by simp⟩
theorem z7_keep {W w1 : World} (hb : Below W.heap.size W w1) {b : Nat} {s : ByteArray} {q : Int} {N : Nat → Int} (n : Z7 W b s q N) : Z7 w1 b s q N :=
  ⟨keep hb n.c0, keep hb n.c1, keep hb n.c2, keep hb n.c3, keep hb n.c4, keep hb n.c5, keep hb n.c6, fun j => (hb.frozen (p := ⟨b, j, none⟩) (lt_of_cell (a := ⟨b, 0, none⟩) n.c0)).trans (n.fr j)⟩
theorem blk_k7 {w : World} {b : Nat} {ty : TypeId} {s : ByteArray} {q a c d e f : Int} (hh : w.heap[b]? = some (.cells #[.string s, .int .i64 q, .int .i64 a, .int .i64 c, .int .i64 d, .int .i64 e, .int .i64 f] ty (0, 0))) : Z7 w b s q (fun i => if i = 0 then a else if i = 1 then c else if i = 2 then d else if i = 3 then e else f) :=
  ⟨blk_cell hh 0, blk_cell hh 1, blk_cell hh 2, blk_cell hh 3, blk_cell hh 4, blk_cell hh 5, blk_cell hh 6, fun k => blk_free hh k⟩
theorem z7_set {w : World} {b : Nat} {s : ByteArray} {q : Int} {N : Nat → Int} (n : Z7 w b s q N) (s' : ByteArray) (q' : Int) (N' : Nat → Int) :
    Z7 (((((((w.setCell ⟨b, 0, none⟩ (.string s')).setCell ⟨b, 1, none⟩ (.int .i64 q')).setCell ⟨b, 2, none⟩ (.int .i64 (N' 0))).setCell ⟨b, 3, none⟩ (.int .i64 (N' 1))).setCell ⟨b, 4, none⟩ (.int .i64 (N' 2))).setCell ⟨b, 5, none⟩ (.int .i64 (N' 3))).setCell ⟨b, 6, none⟩ (.int .i64 (N' 4))) b s' q' N' := by
  have F : ∀ (w : World) (i j : Nat) (u v : Value), i ≠ j → w.cell? ⟨b, j, none⟩ = some v → (w.setCell ⟨b, i, none⟩ u).cell? ⟨b, j, none⟩ = some v := fun w i j u v h hc => cfar _ (ne_off h) hc
  have S : ∀ (w : World) (i : Nat) (u v : Value), w.cell? ⟨b, i, none⟩ = some v → (w.setCell ⟨b, i, none⟩ u).cell? ⟨b, i, none⟩ = some u := fun w i u v hc => cset _ hc
  obtain ⟨a0, a1, a2, a3, a4, a5, a6, fr⟩ := n
  refine ⟨?_, ?_, ?_, ?_, ?_, ?_, ?_, fun j => ?_⟩
  · exact F _ 6 0 _ _ (by decide) (F _ 5 0 _ _ (by decide) (F _ 4 0 _ _ (by decide) (F _ 3 0 _ _ (by decide) (F _ 2 0 _ _ (by decide) (F _ 1 0 _ _ (by decide) (S _ 0 _ _ a0))))))
  · exact F _ 6 1 _ _ (by decide) (F _ 5 1 _ _ (by decide) (F _ 4 1 _ _ (by decide) (F _ 3 1 _ _ (by decide) (F _ 2 1 _ _ (by decide) (S _ 1 _ _ (F _ 0 1 _ _ (by decide) a1))))))
  · exact F _ 6 2 _ _ (by decide) (F _ 5 2 _ _ (by decide) (F _ 4 2 _ _ (by decide) (F _ 3 2 _ _ (by decide) (S _ 2 _ _ (F _ 1 2 _ _ (by decide) (F _ 0 2 _ _ (by decide) a2))))))
  · exact F _ 6 3 _ _ (by decide) (F _ 5 3 _ _ (by decide) (F _ 4 3 _ _ (by decide) (S _ 3 _ _ (F _ 2 3 _ _ (by decide) (F _ 1 3 _ _ (by decide) (F _ 0 3 _ _ (by decide) a3))))))
  · exact F _ 6 4 _ _ (by decide) (F _ 5 4 _ _ (by decide) (S _ 4 _ _ (F _ 3 4 _ _ (by decide) (F _ 2 4 _ _ (by decide) (F _ 1 4 _ _ (by decide) (F _ 0 4 _ _ (by decide) a4))))))
  · exact F _ 6 5 _ _ (by decide) (S _ 5 _ _ (F _ 4 5 _ _ (by decide) (F _ 3 5 _ _ (by decide) (F _ 2 5 _ _ (by decide) (F _ 1 5 _ _ (by decide) (F _ 0 5 _ _ (by decide) a5))))))
  · exact S _ 6 _ _ (F _ 5 6 _ _ (by decide) (F _ 4 6 _ _ (by decide) (F _ 3 6 _ _ (by decide) (F _ 2 6 _ _ (by decide) (F _ 1 6 _ _ (by decide) (F _ 0 6 _ _ (by decide) a6))))))
  · simp only [World.frozen?_setCell]; exact fr j
abbrev upN (N : Nat → Int) (k : Nat) (x : Int) : Nat → Int := fun i => if i = k then x else N i
theorem z7_num {w : World} {b : Nat} {s : ByteArray} {q : Int} {N : Nat → Int} (n : Z7 w b s q N) (k : Nat) (hk : k < 5) (x : Int) : Z7 (w.setCell ⟨b, 2 + k, none⟩ (.int .i64 x)) b s q (upN N k x) := by
  have F : ∀ (j : Nat) (v : Value), 2 + k ≠ j → w.cell? ⟨b, j, none⟩ = some v → (w.setCell ⟨b, 2 + k, none⟩ (.int .i64 x)).cell? ⟨b, j, none⟩ = some v := fun j v h hc => cfar _ (ne_off h) hc
  have S : ∀ (v : Value), w.cell? ⟨b, 2 + k, none⟩ = some v → (w.setCell ⟨b, 2 + k, none⟩ (.int .i64 x)).cell? ⟨b, 2 + k, none⟩ = some (.int .i64 x) := fun v hc => cset _ hc
  obtain ⟨a0, a1, a2, a3, a4, a5, a6, fr⟩ := n
  rcases (show k = 0 ∨ k = 1 ∨ k = 2 ∨ k = 3 ∨ k = 4 by omega) with rfl | rfl | rfl | rfl | rfl
  · exact ⟨F _ _ (by decide) a0, F _ _ (by decide) a1, S _ a2, F _ _ (by decide) a3, F _ _ (by decide) a4, F _ _ (by decide) a5, F _ _ (by decide) a6, fun j => by rw [World.frozen?_setCell]; exact fr j⟩
  · exact ⟨F _ _ (by decide) a0, F _ _ (by decide) a1, F _ _ (by decide) a2, S _ a3, F _ _ (by decide) a4, F _ _ (by decide) a5, F _ _ (by decide) a6, fun j => by rw [World.frozen?_setCell]; exact fr j⟩
  · exact ⟨F _ _ (by decide) a0, F _ _ (by decide) a1, F _ _ (by decide) a2, F _ _ (by decide) a3, S _ a4, F _ _ (by decide) a5, F _ _ (by decide) a6, fun j => by rw [World.frozen?_setCell]; exact fr j⟩
  · exact ⟨F _ _ (by decide) a0, F _ _ (by decide) a1, F _ _ (by decide) a2, F _ _ (by decide) a3, F _ _ (by decide) a4, S _ a5, F _ _ (by decide) a6, fun j => by rw [World.frozen?_setCell]; exact fr j⟩
  · exact ⟨F _ _ (by decide) a0, F _ _ (by decide) a1, F _ _ (by decide) a2, F _ _ (by decide) a3, F _ _ (by decide) a4, F _ _ (by decide) a5, S _ a6, fun j => by rw [World.frozen?_setCell]; exact fr j⟩
theorem b_set7 {W w : World} (h : Below W.heap.size W w) {b : Nat} (hb : W.heap.size ≤ b) (u0 u1 u2 u3 u4 u5 u6 : Value) : Below W.heap.size W (((((((w.setCell ⟨b, 0, none⟩ u0).setCell ⟨b, 1, none⟩ u1).setCell ⟨b, 2, none⟩ u2).setCell ⟨b, 3, none⟩ u3).setCell ⟨b, 4, none⟩ u4).setCell ⟨b, 5, none⟩ u5).setCell ⟨b, 6, none⟩ u6) :=
  b_set (b_set (b_set (b_set (b_set (b_set (b_set h hb _) hb _) hb _) hb _) hb _) hb _) hb _
theorem z7_far {w : World} {b m : Nat} (hne : m ≠ b) {s : ByteArray} {q : Int} {N : Nat → Int} (n : Z7 w m s q N) (i : Nat) (v : Value) : Z7 (w.setCell ⟨b, i, none⟩ v) m s q N := by
  have p : ∀ j, (⟨b, i, none⟩ : Addr) ≠ ⟨m, j, none⟩ := fun j e => hne (by injection e with e _; exact e.symm)
  obtain ⟨a0, a1, a2, a3, a4, a5, a6, fr⟩ := n
  exact ⟨cfar _ (p _) a0, cfar _ (p _) a1, cfar _ (p _) a2, cfar _ (p _) a3, cfar _ (p _) a4, cfar _ (p _) a5, cfar _ (p _) a6, fun j => by rw [World.frozen?_setCell]; exact fr j⟩
abbrev RdE (s : ByteArray) (w : World) (E : Int) : Prop := Calls Tryd.prog 13 #[.string s] w fun e w' => e = .returned (.tuple #[zk, .int .i64 E]) ∧ Below w.heap.size w w'
abbrev SpC (s : ByteArray) (F : List ByteArray) (w : World) : Prop := ∀ w1, Below w.heap.size w w1 → Calls Tryd.prog 25 #[.string s, .string ⟨#[32]⟩] w1 fun e w' => (∃ g, e = .returned (.slice (some ⟨g, 0, none⟩) F.length F.length) ∧ ∀ k, k < F.length → w'.cell? ⟨g, k, none⟩ = some (.string (F.getD k ⟨#[]⟩))) ∧ Below w1.heap.size w1 w'
set_option maxRecDepth 100000 in
set_option maxHeartbeats 2000000 in
theorem read_few (s : ByteArray) (w : World) (F : List ByteArray) (hF : F.length ≠ 7) (SP : Hid (SpC s F w)) : RdE s w 5 := by
  have Z0 := Lib.hid (z7_new w 23 ⟨#[]⟩ 0 n0)
  have W0 := Lib.hid (b_alloc (Below.refl w.heap.size w) (.cells #[.string ⟨#[]⟩, .int .i64 0, .int .i64 0, .int .i64 0, .int .i64 0, .int .i64 0, .int .i64 0] 23))
  have hf : ((F.length : Int) != 7) = true := by simp; omega
  have hf2 : ¬ F.length = 7 := hF
  go_enter Tryd.func13, Tryd.ntmps13
  go_wp2_with fail
  (with_reducible refine (SP.out _ W0.out).mono ?_); rintro e w1 ⟨⟨g, rfl, -⟩, hb⟩
  have W1 := Lib.hid (b_next W0.out hb); have Z1 := Lib.hid (z7_keep hb Z0.out); clear hb
  obtain ⟨z0, z1, z2, z3, z4, z5, z6, zf⟩ := Z1.out; have zf0 := zf 0; have zf1 := zf 1; have zf2 := zf 2; have zf3 := zf 3; have zf4 := zf 4; have zf5 := zf 5; have zf6 := zf 6; clear zf
  go_wp2_with fail
  have Z := z7_set Z1.out ⟨#[]⟩ 0 n0
  refine bodyPost_ret (v := .tuple #[zk, .int .i64 5]) (by simp [results, Tryd.results13, go_sem, Z.c0, Z.c1, Z.c2, Z.c3, Z.c4, Z.c5, Z.c6]) rfl ⟨rfl, b_set7 W1.out (Nat.le_refl _) _ _ _ _ _ _ _⟩
set_option maxRecDepth 100000 in
set_option maxHeartbeats 4000000 in
theorem read_wake (s : ByteArray) (w : World) (F : List ByteArray) (hF : F.length = 7) (f0 f1 : ByteArray) (e0 : f0 = F.getD 0 ⟨#[]⟩) (e1 : f1 = F.getD 1 ⟨#[]⟩) (SP : Hid (SpC s F w))
    (IXC : Hid (∀ w1, Below w.heap.size w w1 → Calls Tryd.prog 26 #[.slice (some ⟨0, 0, none⟩) 4 4, .string f1] w1 fun e w' => e = .returned (.int .i64 (-1)) ∧ Below w1.heap.size w1 w')) : RdE s w 5 := by
  have Z0 := Lib.hid (z7_new w 23 ⟨#[]⟩ 0 n0)
  have W0 := Lib.hid (b_alloc (Below.refl w.heap.size w) (.cells #[.string ⟨#[]⟩, .int .i64 0, .int .i64 0, .int .i64 0, .int .i64 0, .int .i64 0, .int .i64 0] 23))
  have HE := Lib.hid (And.intro e0 e1); clear e0 e1
  rw [show SpC s F w = SpC s F w from rfl] at SP
  go_enter Tryd.func13, Tryd.ntmps13
  go_wp2_with fail
  obtain ⟨m0, hm0⟩ : ∃ m0, m0 = w.heap.size := ⟨_, rfl⟩
  rw [← hm0] at Z0 ⊢
  have HM0 := Lib.hid hm0; clear hm0
  (with_reducible refine (SP.out _ W0.out).mono ?_); rintro e w1 ⟨⟨g, rfl, hc⟩, hb⟩
  have W1 := Lib.hid (b_next W0.out hb); have Z1 := Lib.hid (z7_keep hb Z0.out)
  have C0 : Hid (w1.cell? ⟨g, 0, none⟩ = some (.string f0)) := Lib.hid (by rw [HE.out.1]; exact hc 0 (by omega))
  have C1 : Hid (w1.cell? ⟨g, 1, none⟩ = some (.string f1)) := Lib.hid (by rw [HE.out.2]; exact hc 1 (by omega))
  have IX := Lib.hid fun (w2 : World) (hb : Below w1.heap.size w1 w2) => IXC.out w2 (b_next W1.out hb)
  clear hb hc
  rw [hF]
  go_wp2_with fail
  refine fresh_region (by kernel_rfl) (by kernel_rfl) ?_
  apply Fq.r
  · intro wq hc hq
    (have q0 := keep (cls hq) C0.out; have q1 := keep (cls hq) C1.out; clear hc; go_simp; first | exact q2_value | exact q2_skip | (apply q2_enter; go_at_call 26; with_reducible exact IX.out _ (cls hq)))
  simp only [Act.put, List.setIfInBounds_toArray, List.set_cons_zero, List.set_cons_succ]
  apply Fq.r
  · intro wq hc hq
    (have q0 := keep (cls hq) C0.out; have q1 := keep (cls hq) C1.out; clear hc; go_simp; first | exact q2_value | exact q2_skip | (apply q2_enter; go_at_call 26; with_reducible exact IX.out _ (cls hq)))
  simp only [Act.put, List.setIfInBounds_toArray, List.set_cons_zero, List.set_cons_succ]
  apply Fq.r
  · intro wq hc hq
    (have q0 := keep (cls hq) C0.out; have q1 := keep (cls hq) C1.out; clear hc; go_simp; first | exact q2_value | exact q2_skip | (apply q2_enter; go_at_call 26; with_reducible exact IX.out _ (cls hq)))
  simp only [Act.put, List.setIfInBounds_toArray, List.set_cons_zero, List.set_cons_succ]
  apply Fq.r
  · intro wq hc hq
    (have q0 := keep (cls hq) C0.out; have q1 := keep (cls hq) C1.out; clear hc; go_simp; first | exact q2_value | exact q2_skip | (apply q2_enter; go_at_call 26; with_reducible exact IX.out _ (cls hq)))
  simp only [Act.put, List.setIfInBounds_toArray, List.set_cons_zero, List.set_cons_succ]
  apply Fq.r
  · intro wq hc hq
    (have q0 := keep (cls hq) C0.out; have q1 := keep (cls hq) C1.out; clear hc; go_simp; first | exact q2_value | exact q2_skip | (apply q2_enter; go_at_call 26; with_reducible exact IX.out _ (cls hq)))
  simp only [Act.put, List.setIfInBounds_toArray, List.set_cons_zero, List.set_cons_succ]
  apply Fq.r
  · intro wq hc hq
    (have q0 := keep (cls hq) C0.out; have q1 := keep (cls hq) C1.out; clear hc; go_simp; first | exact q2_value | exact q2_skip | (apply q2_enter; go_at_call 26; with_reducible exact IX.out _ (cls hq)))
  simp only [Act.put, List.setIfInBounds_toArray, List.set_cons_zero, List.set_cons_succ]
  apply Fq.r
  · intro wq hc hq
    (have q0 := keep (cls hq) C0.out; have q1 := keep (cls hq) C1.out; clear hc; go_simp; first | exact q2_value | exact q2_skip | (apply q2_enter; go_at_call 26; with_reducible exact IX.out _ (cls hq)))
  simp only [Act.put, List.setIfInBounds_toArray, List.set_cons_zero, List.set_cons_succ]
  apply Fq.r
  · intro wq hc hq
    (have q0 := keep (cls hq) C0.out; have q1 := keep (cls hq) C1.out; clear hc; go_simp; first | exact q2_value | exact q2_skip | (apply q2_enter; go_at_call 26; with_reducible exact IX.out _ (cls hq)))
  simp only [Act.put, List.setIfInBounds_toArray, List.set_cons_zero, List.set_cons_succ]
  apply Fq.r
  · intro wq hc hq
    (have q0 := keep (cls hq) C0.out; have q1 := keep (cls hq) C1.out; clear hc; go_simp; first | exact q2_value | exact q2_skip | (apply q2_enter; go_at_call 26; with_reducible exact IX.out _ (cls hq)))
  simp only [Act.put, List.setIfInBounds_toArray, List.set_cons_zero, List.set_cons_succ]
  refine Fq.al 5 23 #[.string ⟨#[]⟩, .int .i64 0, .int .i64 0, .int .i64 0, .int .i64 0, .int .i64 0, .int .i64 0] rfl (by simp) (fun wq => by go_simp) ?_
  refine Fq.st 9 #[.string f0, .int .i64 (-1), .int .i64 0, .int .i64 0, .int .i64 0, .int .i64 0, .int .i64 0] 5 23 #[.string ⟨#[]⟩, .int .i64 0, .int .i64 0, .int .i64 0, .int .i64 0, .int .i64 0, .int .i64 0] rfl rfl (fun wq bq hq => ⟨(((((((wq.setCell ⟨bq, 0, none⟩ (.string f0)).setCell ⟨bq, 1, none⟩ (.int .i64 (-1))).setCell ⟨bq, 2, none⟩ (.int .i64 0)).setCell ⟨bq, 3, none⟩ (.int .i64 0)).setCell ⟨bq, 4, none⟩ (.int .i64 0)).setCell ⟨bq, 5, none⟩ (.int .i64 0)).setCell ⟨bq, 6, none⟩ (.int .i64 0)), ?_, blk_set (blk_set (blk_set (blk_set (blk_set (blk_set (blk_set (hq) 0 (.string f0)) 1 (.int .i64 (-1))) 2 (.int .i64 0)) 3 (.int .i64 0)) 4 (.int .i64 0)) 5 (.int .i64 0)) 6 (.int .i64 0), only_set (only_set (only_set (only_set (only_set (only_set (only_set (only_refl _ _) 0 (.string f0)) 1 (.int .i64 (-1))) 2 (.int .i64 0)) 3 (.int .i64 0)) 4 (.int .i64 0)) 5 (.int .i64 0)) 6 (.int .i64 0)⟩) ?_
  · (have c0 : wq.cell? ⟨bq, 0, none⟩ = some (.string ⟨#[]⟩) := blk_cell hq 0; have f0 := blk_free hq 0; have c1 : wq.cell? ⟨bq, 1, none⟩ = some (.int .i64 0) := blk_cell hq 1; have f1 := blk_free hq 1; have c2 : wq.cell? ⟨bq, 2, none⟩ = some (.int .i64 0) := blk_cell hq 2; have f2 := blk_free hq 2; have c3 : wq.cell? ⟨bq, 3, none⟩ = some (.int .i64 0) := blk_cell hq 3; have f3 := blk_free hq 3; have c4 : wq.cell? ⟨bq, 4, none⟩ = some (.int .i64 0) := blk_cell hq 4; have f4 := blk_free hq 4; have c5 : wq.cell? ⟨bq, 5, none⟩ = some (.int .i64 0) := blk_cell hq 5; have f5 := blk_free hq 5; have c6 : wq.cell? ⟨bq, 6, none⟩ = some (.int .i64 0) := blk_cell hq 6; have f6 := blk_free hq 6; simp only [Act.put, List.setIfInBounds_toArray, List.set_cons_zero, List.set_cons_succ]; clear hq; go_simp)
  refine Fq.nil ⟨by kernel_rfl, fun β w2 M => ?_⟩
  simp only [List.reverse_cons, List.reverse_nil, List.nil_append, List.cons_append, putAl, Act.put, List.setIfInBounds_toArray, List.set_cons_zero, List.set_cons_succ, Nat.reduceAdd]
  have z9 := blk_k7 (M.block 10 9 _ _ _ _ rfl rfl)
  have l9 := M.fresh 9 _ _ _ rfl
  have hbw2 := M.below
  clear M
  generalize β 9 = b at *
  have W2 := Lib.hid (b_next W1.out hbw2); have Z2 := Lib.hid (z7_keep hbw2 Z1.out); have ZB := Lib.hid z9
  clear hbw2
  obtain ⟨z0, z1, z2, z3, z4, z5, z6, zf⟩ := Z2.out; have zf0 := zf 0; have zf1 := zf 1; have zf2 := zf 2; have zf3 := zf 3; have zf4 := zf 4; have zf5 := zf 5; have zf6 := zf 6; clear zf
  obtain ⟨p0, p1, p2, p3, p4, p5, p6, pf⟩ := ZB.out; have pf0 := pf 0; have pf1 := pf 1; have pf2 := pf 2; have pf3 := pf 3; have pf4 := pf 4; have pf5 := pf 5; have pf6 := pf 6; clear pf
  go_wp2_with fail
  have Z := z7_set Z2.out ⟨#[]⟩ 0 n0
  refine bodyPost_ret (v := .tuple #[zk, .int .i64 5]) (by simp [results, Tryd.results13, go_sem, Z.c0, Z.c1, Z.c2, Z.c3, Z.c4, Z.c5, Z.c6]) rfl ⟨rfl, b_set7 W2.out (Nat.le_of_eq HM0.out.symm) _ _ _ _ _ _ _⟩
theorem z7_at {w : World} {b : Nat} {s : ByteArray} {q : Int} {N : Nat → Int} (n : Z7 w b s q N) (k : Nat) (hk : k < 5) : w.cell? ⟨b, 2 + k, none⟩ = some (.int .i64 (N k)) := by
  rcases (show k = 0 ∨ k = 1 ∨ k = 2 ∨ k = 3 ∨ k = 4 by omega) with rfl | rfl | rfl | rfl | rfl
  · exact n.c2
  · exact n.c3
  · exact n.c4
  · exact n.c5
  · exact n.c6
/-- What the loop over the five numbers has done. -/
def ParK (F : List ByteArray) (k : Nat) (N : Nat → Int) : Prop := ∀ i, i < 5 → if i < k then NumT.numB (F.getD (2 + i) ⟨#[]⟩).data.toList = some (N i) else N i = 0
theorem park_next {F : List ByteArray} {k : Nat} {N : Nat → Int} {x : Int} (h : ParK F k N) (hx : NumT.numB (F.getD (2 + k) ⟨#[]⟩).data.toList = some x) : ParK F (k + 1) (upN N k x) := fun i hi => by
  have q := h i hi
  show if i < k + 1 then NumT.numB (F.getD (2 + i) ⟨#[]⟩).data.toList = some (if i = k then x else N i) else (if i = k then x else N i) = 0
  rcases Nat.lt_trichotomy i k with hl | hl | hl
  · rw [if_pos hl] at q; rw [if_pos (by omega), if_neg (by omega)]; exact q
  · subst hl; rw [if_pos (by omega), if_pos rfl]; exact hx
  · rw [if_neg (by omega)] at q; rw [if_neg (by omega), if_neg (by omega)]; exact q
/-- The cells outside of one block are as they were. -/
def FarK (b : Nat) (W wr : World) : Prop := ∀ a u, a.block ≠ b → W.cell? a = some u → wr.cell? a = some u
theorem fark_keep {b : Nat} {W wr w1 : World} (h : FarK b W wr) (hb : Below wr.heap.size wr w1) : FarK b W w1 := fun a u ha hc => keep hb (h a u ha hc)
theorem fark_set {b : Nat} {W wr : World} (h : FarK b W wr) (i : Nat) (v : Value) : FarK b W (wr.setCell ⟨b, i, none⟩ v) := fun a u ha hc => cfar _ (fun e => ha (by rw [← e])) (h a u ha hc)
/-- What Read makes of its fields. -/
def RdR (f0 : ByteArray) (q : Nat) (F : List ByteArray) (e : Ending) : Prop :=
  (∃ E : Int, E ≠ 0 ∧ e = .returned (.tuple #[zk, .int .i64 E]) ∧ ∀ N, ParK F 5 N → kE f0 q N ≠ 0) ∨ (∃ N, ParK F 5 N ∧ kE f0 q N = 0 ∧ e = .returned (.tuple #[kv f0 q N, .int .i64 0]))
set_option maxRecDepth 100000 in
set_option maxHeartbeats 16000000 in
theorem read_main (s : ByteArray) (w : World) (F : List ByteArray) (hF : F.length = 7) (f0 f1 : ByteArray) (e0 : f0 = F.getD 0 ⟨#[]⟩) (e1 : f1 = F.getD 1 ⟨#[]⟩) (q : Nat) (hq : q < 4) (SP : Hid (SpC s F w))
    (IXC : Hid (∀ w1, Below w.heap.size w w1 → Calls Tryd.prog 26 #[.slice (some ⟨0, 0, none⟩) 4 4, .string f1] w1 fun e w' => e = .returned (.int .i64 q) ∧ Below w1.heap.size w1 w'))
    (NC : Hid (∀ k, k < 5 → ∀ w', Below w.heap.size w w' → Calls Tryd.prog 27 #[.string (F.getD (2 + k) ⟨#[]⟩)] w' fun e w'' => NumR (F.getD (2 + k) ⟨#[]⟩) e ∧ Below w'.heap.size w' w'')) :
    Calls Tryd.prog 13 #[.string s] w fun e w' => RdR f0 q F e ∧ Below w.heap.size w w' := by
  have Z0 := Lib.hid (z7_new w 23 ⟨#[]⟩ 0 n0)
  have W0 := Lib.hid (b_alloc (Below.refl w.heap.size w) (.cells #[.string ⟨#[]⟩, .int .i64 0, .int .i64 0, .int .i64 0, .int .i64 0, .int .i64 0, .int .i64 0] 23))
  have HE := Lib.hid (And.intro e0 e1); clear e0 e1
  have hq0 : ¬ (q : Int) < 0 := by omega
  go_enter Tryd.func13, Tryd.ntmps13
  go_wp2_with fail
  obtain ⟨m0, hm0⟩ : ∃ m0, m0 = w.heap.size := ⟨_, rfl⟩
  rw [← hm0] at Z0 ⊢
  have HM0 := Lib.hid hm0; clear hm0
  (with_reducible refine (SP.out _ W0.out).mono ?_); rintro e w1 ⟨⟨g, rfl, hc⟩, hb⟩
  have W1 := Lib.hid (b_next W0.out hb); have Z1 := Lib.hid (z7_keep hb Z0.out)
  have C0 : Hid (w1.cell? ⟨g, 0, none⟩ = some (.string f0)) := Lib.hid (by rw [HE.out.1]; exact hc 0 (by omega))
  have C1 : Hid (w1.cell? ⟨g, 1, none⟩ = some (.string f1)) := Lib.hid (by rw [HE.out.2]; exact hc 1 (by omega))
  have CN : Hid (∀ k, k < 5 → w1.cell? ⟨g, 2 + k, none⟩ = some (.string (F.getD (2 + k) ⟨#[]⟩))) := Lib.hid fun k hk => hc (2 + k) (by omega)
  have IX := Lib.hid fun (w2 : World) (hb : Below w1.heap.size w1 w2) => IXC.out w2 (b_next W1.out hb)
  clear hb hc
  rw [hF]
  go_wp2_with fail
  refine fresh_region (by kernel_rfl) (by kernel_rfl) ?_
  apply Fq.r
  · intro wq hc hq
    (have q0 := keep (cls hq) C0.out; have q1 := keep (cls hq) C1.out; clear hc; go_simp; first | exact q2_value | exact q2_skip | (apply q2_enter; go_at_call 26; with_reducible exact IX.out _ (cls hq)))
  simp only [Act.put, List.setIfInBounds_toArray, List.set_cons_zero, List.set_cons_succ]
  apply Fq.r
  · intro wq hc hq
    (have q0 := keep (cls hq) C0.out; have q1 := keep (cls hq) C1.out; clear hc; go_simp; first | exact q2_value | exact q2_skip | (apply q2_enter; go_at_call 26; with_reducible exact IX.out _ (cls hq)))
  simp only [Act.put, List.setIfInBounds_toArray, List.set_cons_zero, List.set_cons_succ]
  apply Fq.r
  · intro wq hc hq
    (have q0 := keep (cls hq) C0.out; have q1 := keep (cls hq) C1.out; clear hc; go_simp; first | exact q2_value | exact q2_skip | (apply q2_enter; go_at_call 26; with_reducible exact IX.out _ (cls hq)))
  simp only [Act.put, List.setIfInBounds_toArray, List.set_cons_zero, List.set_cons_succ]
  apply Fq.r
  · intro wq hc hq
    (have q0 := keep (cls hq) C0.out; have q1 := keep (cls hq) C1.out; clear hc; go_simp; first | exact q2_value | exact q2_skip | (apply q2_enter; go_at_call 26; with_reducible exact IX.out _ (cls hq)))
  simp only [Act.put, List.setIfInBounds_toArray, List.set_cons_zero, List.set_cons_succ]
  apply Fq.r
  · intro wq hc hq
    (have q0 := keep (cls hq) C0.out; have q1 := keep (cls hq) C1.out; clear hc; go_simp; first | exact q2_value | exact q2_skip | (apply q2_enter; go_at_call 26; with_reducible exact IX.out _ (cls hq)))
  simp only [Act.put, List.setIfInBounds_toArray, List.set_cons_zero, List.set_cons_succ]
  apply Fq.r
  · intro wq hc hq
    (have q0 := keep (cls hq) C0.out; have q1 := keep (cls hq) C1.out; clear hc; go_simp; first | exact q2_value | exact q2_skip | (apply q2_enter; go_at_call 26; with_reducible exact IX.out _ (cls hq)))
  simp only [Act.put, List.setIfInBounds_toArray, List.set_cons_zero, List.set_cons_succ]
  apply Fq.r
  · intro wq hc hq
    (have q0 := keep (cls hq) C0.out; have q1 := keep (cls hq) C1.out; clear hc; go_simp; first | exact q2_value | exact q2_skip | (apply q2_enter; go_at_call 26; with_reducible exact IX.out _ (cls hq)))
  simp only [Act.put, List.setIfInBounds_toArray, List.set_cons_zero, List.set_cons_succ]
  apply Fq.r
  · intro wq hc hq
    (have q0 := keep (cls hq) C0.out; have q1 := keep (cls hq) C1.out; clear hc; go_simp; first | exact q2_value | exact q2_skip | (apply q2_enter; go_at_call 26; with_reducible exact IX.out _ (cls hq)))
  simp only [Act.put, List.setIfInBounds_toArray, List.set_cons_zero, List.set_cons_succ]
  apply Fq.r
  · intro wq hc hq
    (have q0 := keep (cls hq) C0.out; have q1 := keep (cls hq) C1.out; clear hc; go_simp; first | exact q2_value | exact q2_skip | (apply q2_enter; go_at_call 26; with_reducible exact IX.out _ (cls hq)))
  simp only [Act.put, List.setIfInBounds_toArray, List.set_cons_zero, List.set_cons_succ]
  refine Fq.al 5 23 #[.string ⟨#[]⟩, .int .i64 0, .int .i64 0, .int .i64 0, .int .i64 0, .int .i64 0, .int .i64 0] rfl (by simp) (fun wq => by go_simp) ?_
  refine Fq.st 9 #[.string f0, .int .i64 q, .int .i64 0, .int .i64 0, .int .i64 0, .int .i64 0, .int .i64 0] 5 23 #[.string ⟨#[]⟩, .int .i64 0, .int .i64 0, .int .i64 0, .int .i64 0, .int .i64 0, .int .i64 0] rfl rfl (fun wq bq hq => ⟨(((((((wq.setCell ⟨bq, 0, none⟩ (.string f0)).setCell ⟨bq, 1, none⟩ (.int .i64 q)).setCell ⟨bq, 2, none⟩ (.int .i64 0)).setCell ⟨bq, 3, none⟩ (.int .i64 0)).setCell ⟨bq, 4, none⟩ (.int .i64 0)).setCell ⟨bq, 5, none⟩ (.int .i64 0)).setCell ⟨bq, 6, none⟩ (.int .i64 0)), ?_, blk_set (blk_set (blk_set (blk_set (blk_set (blk_set (blk_set (hq) 0 (.string f0)) 1 (.int .i64 q)) 2 (.int .i64 0)) 3 (.int .i64 0)) 4 (.int .i64 0)) 5 (.int .i64 0)) 6 (.int .i64 0), only_set (only_set (only_set (only_set (only_set (only_set (only_set (only_refl _ _) 0 (.string f0)) 1 (.int .i64 q)) 2 (.int .i64 0)) 3 (.int .i64 0)) 4 (.int .i64 0)) 5 (.int .i64 0)) 6 (.int .i64 0)⟩) ?_
  · (have c0 : wq.cell? ⟨bq, 0, none⟩ = some (.string ⟨#[]⟩) := blk_cell hq 0; have f0 := blk_free hq 0; have c1 : wq.cell? ⟨bq, 1, none⟩ = some (.int .i64 0) := blk_cell hq 1; have f1 := blk_free hq 1; have c2 : wq.cell? ⟨bq, 2, none⟩ = some (.int .i64 0) := blk_cell hq 2; have f2 := blk_free hq 2; have c3 : wq.cell? ⟨bq, 3, none⟩ = some (.int .i64 0) := blk_cell hq 3; have f3 := blk_free hq 3; have c4 : wq.cell? ⟨bq, 4, none⟩ = some (.int .i64 0) := blk_cell hq 4; have f4 := blk_free hq 4; have c5 : wq.cell? ⟨bq, 5, none⟩ = some (.int .i64 0) := blk_cell hq 5; have f5 := blk_free hq 5; have c6 : wq.cell? ⟨bq, 6, none⟩ = some (.int .i64 0) := blk_cell hq 6; have f6 := blk_free hq 6; simp only [Act.put, List.setIfInBounds_toArray, List.set_cons_zero, List.set_cons_succ]; clear hq; go_simp)
  refine Fq.nil ⟨by kernel_rfl, fun β w2 M => ?_⟩
  simp only [List.reverse_cons, List.reverse_nil, List.nil_append, List.cons_append, putAl, Act.put, List.setIfInBounds_toArray, List.set_cons_zero, List.set_cons_succ, Nat.reduceAdd]
  have z9 := blk_k7 (M.block 10 9 _ _ _ _ rfl rfl)
  have l9 := M.fresh 9 _ _ _ rfl
  have hbw2 := M.below
  clear M
  generalize β 9 = b at *
  have W2 := Lib.hid (b_next W1.out hbw2); have Z2 := Lib.hid (z7_keep hbw2 Z1.out); have ZB : Hid (Z7 w2 b f0 q n0) := Lib.hid ⟨z9.c0, z9.c1, z9.c2, z9.c3, z9.c4, z9.c5, z9.c6, z9.fr⟩
  have HGB : Hid (g ≠ b) := Lib.hid (by have h1 := lt_of_cell C0.out; simp only at h1; omega)
  have HNB : Hid (m0 ≠ b) := Lib.hid (by have h1 := lt_of_cell Z1.out.c0; simp only at h1; omega)
  have HWB : Hid (w.heap.size ≤ b) := Lib.hid (by have h1 := W1.out.size; omega)
  have CM : Hid (∀ k, k < 5 → w2.cell? ⟨g, 2 + k, none⟩ = some (.string (F.getD (2 + k) ⟨#[]⟩))) := Lib.hid fun k hk => keep hbw2 (CN.out k hk)
  have HBL : Hid (b < w2.heap.size) := Lib.hid (lt_of_cell ZB.out.c0)
  clear hbw2 z9 IX CN C0 C1
  obtain ⟨p0, p1, p2, p3, p4, p5, p6, pf⟩ := ZB.out; have pf0 := pf 0; have pf1 := pf 1; have pf2 := pf 2; have pf3 := pf 3; have pf4 := pf 4; have pf5 := pf 5; have pf6 := pf 6; clear pf
  obtain ⟨bb, hbb⟩ : ∃ bb, bb = w2.heap.size := ⟨_, rfl⟩
  obtain ⟨P7, hP7⟩ : ∃ P7, P7 = w2.alloc (.cells #[.pointer (some ⟨b, 2, none⟩), .pointer (some ⟨b, 3, none⟩), .pointer (some ⟨b, 4, none⟩), .pointer (some ⟨b, 5, none⟩), .pointer (some ⟨b, 6, none⟩)] 59) := ⟨_, rfl⟩
  have HBB : Hid (bb ≠ b) := Lib.hid (by have h1 := HBL.out; omega)
  have b7 : Below w2.heap.size w2 P7 := by rw [hP7]; exact b_alloc (Below.refl _ _) _
  have CP : Hid (∀ k, k < 5 → P7.cell? ⟨bb, k, none⟩ = some (.pointer (some ⟨b, 2 + k, none⟩))) := Lib.hid fun k hk => by
    subst hP7; subst hbb
    rcases (show k = 0 ∨ k = 1 ∨ k = 2 ∨ k = 3 ∨ k = 4 by omega) with rfl | rfl | rfl | rfl | rfl <;> simp
  have CG := Lib.hid fun k hk => keep b7 (CM.out k hk)
  have ZS := Lib.hid (z7_keep b7 ZB.out); have NS := Lib.hid (z7_keep b7 Z2.out); have BS := Lib.hid (b_next W2.out b7)
  clear b7 CM
  go_wp2_with fail
  rw [← hbb, ← hP7]
  clear hbb hP7 p0 p1 p2 p3 p4 p5 p6 pf0 pf1 pf2 pf3 pf4 pf5 pf6
  go_loopw [37] (fun t wr => ∃ k : Nat, k ≤ 5 ∧ t = .int .i64 k ∧ ∃ N : Nat → Int, ParK F k N ∧ Z7 wr b f0 q N ∧ Z7 wr m0 ⟨#[]⟩ 0 n0 ∧ FarK b P7 wr ∧ Below w.heap.size w wr) (fun t _ => 5 - (intOf t).toNat)
  case atStart => exact ⟨0, by decide, rfl, n0, fun i _ => by rw [if_neg (Nat.not_lt_zero i)], ZS.out, NS.out, fun _ _ _ h => h, BS.out⟩
  case round =>
    obtain ⟨k, hk, rfl, N, hp, hz, hn, hfar, hbl⟩ := hrel
    have HP := Lib.hid hp; have HZ := Lib.hid hz; have HN := Lib.hid hn; have HF := Lib.hid hfar; have HB := Lib.hid hbl
    clear hp hz hn hfar hbl
    by_cases hlt : k < 5
    · have hl : (k : Int) < 5 := by omega
      have l2 : 2 + (k : Int) < 7 := by omega
      have l3 : (0 : Int) ≤ 2 + (k : Int) := by omega
      have u2 : IntKind.i64.wrap (2 + (k : Int)) = 2 + (k : Int) := IntWalk.i64_in _ (by omega)
      have u3 : (2 + (k : Int)).toNat = 2 + k := by omega
      have cp := HF.out ⟨bb, k, none⟩ _ HBB.out (CP.out k hlt); have cf := HF.out ⟨g, 2 + k, none⟩ _ HGB.out (CG.out k hlt)
      have NCi := Lib.hid (NC.out k hlt wr HB.out)
      have PN := Lib.hid fun x hx => park_next (x := x) HP.out hx
      have BAD : Hid (NumT.numB (F.getD (2 + k) ⟨#[]⟩).data.toList = none → ∀ N, ¬ ParK F 5 N) := Lib.hid fun h N p => by
        have := p k hlt
        rw [if_pos hlt, h] at this; cases this
      generalize F.getD (2 + k) ⟨#[]⟩ = fk at *
      go_wp2_with fail
      (with_reducible refine NCi.out.mono ?_); rintro e w8 ⟨hn, hb⟩
      have B8 := Lib.hid (b_next HB.out hb); have Z8b := Lib.hid (z7_keep hb HZ.out); have Z8n := Lib.hid (z7_keep hb HN.out); have F8 := Lib.hid (fark_keep HF.out hb)
      clear hb
      rcases hn with ⟨m, hm, rfl⟩ | ⟨hm, v, rfl⟩
      · have HM := Lib.hid hm; clear hm
        have zc := z7_at Z8b.out k hlt
        have zf := Z8b.out.fr (2 + k)
        go_wp2_with fail
        exact ⟨⟨k + 1, by omega, by go_num, upN N k m, PN.out m HM.out, z7_num Z8b.out k hlt m, z7_far HNB.out Z8n.out _ _, fark_set F8.out _ _, b_set B8.out HWB.out _⟩, by simp [intOf]; omega⟩
      · have HM := Lib.hid hm; clear hm
        obtain ⟨y0, y1, y2, y3, y4, y5, y6, yf⟩ := Z8n.out; have yf0 := yf 0; have yf1 := yf 1; have yf2 := yf 2; have yf3 := yf 3; have yf4 := yf 4; have yf5 := yf 5; have yf6 := yf 6; clear yf
        go_wp2_with fail
        have Z := z7_set Z8n.out ⟨#[]⟩ 0 n0
        refine bodyPost_ret (v := .tuple #[zk, .int .i64 5]) (by simp [results, Tryd.results13, go_sem, Z.c0, Z.c1, Z.c2, Z.c3, Z.c4, Z.c5, Z.c6]) rfl ⟨Or.inl ⟨5, by decide, rfl, fun N p => absurd p (BAD.out HM.out N)⟩, b_set7 B8.out (Nat.le_of_eq HM0.out.symm) _ _ _ _ _ _ _⟩
    · obtain rfl : k = 5 := by omega
      have kk : ¬ ((5 : Nat) : Int) < 5 := by decide
      have KK := Lib.hid fun w => kindC f0 q (N 0) (N 1) (N 2) (N 3) (N 4) w
      have HKE : Hid (∀ N', ParK F 5 N' → kE f0 q N' = kE f0 q N) := Lib.hid fun N' h => by
        have e : ∀ i, i < 5 → N' i = N i := fun i hi => by
          have a := h i hi; have b := HP.out i hi
          rw [if_pos hi] at a b
          exact Option.some.inj (a.symm.trans b)
        unfold kE
        rw [e 0 (by decide), e 1 (by decide), e 2 (by decide), e 3 (by decide), e 4 (by decide)]
      obtain ⟨E, hE⟩ : ∃ E, E = kE f0 q N := ⟨_, rfl⟩
      rw [← hE] at HKE
      rw [show kchk f0 q (N 0) (N 1) (N 2) (N 3) (N 4) = E from hE.symm] at KK
      have HEE := Lib.hid hE; clear hE
      obtain ⟨p0, p1, p2, p3, p4, p5, p6, pf⟩ := HZ.out; have pf0 := pf 0; have pf1 := pf 1; have pf2 := pf 2; have pf3 := pf 3; have pf4 := pf 4; have pf5 := pf 5; have pf6 := pf 6; clear pf
      go_wp2_with fail
      (with_reducible refine (KK.out _).mono ?_); rintro e w8 ⟨rfl, hb⟩
      have B8 := Lib.hid (b_next HB.out hb); have Z8b := Lib.hid (z7_keep hb HZ.out); have Z8n := Lib.hid (z7_keep hb HN.out)
      clear hb p0 p1 p2 p3 p4 p5 p6 pf0 pf1 pf2 pf3 pf4 pf5 pf6
      obtain ⟨y0, y1, y2, y3, y4, y5, y6, yf⟩ := Z8n.out; have yf0 := yf 0; have yf1 := yf 1; have yf2 := yf 2; have yf3 := yf 3; have yf4 := yf 4; have yf5 := yf 5; have yf6 := yf 6; clear yf
      by_cases hE0 : E = 0
      · subst hE0
        obtain ⟨x0, x1, x2, x3, x4, x5, x6, xf⟩ := Z8b.out; have xf0 := xf 0; have xf1 := xf 1; have xf2 := xf 2; have xf3 := xf 3; have xf4 := xf 4; have xf5 := xf 5; have xf6 := xf 6; clear xf
        go_wp2_with fail
        have Z := z7_set Z8n.out f0 q N
        refine bodyPost_ret (v := .tuple #[kv f0 q N, .int .i64 0]) (by simp [results, Tryd.results13, go_sem, Z.c0, Z.c1, Z.c2, Z.c3, Z.c4, Z.c5, Z.c6]) rfl ⟨Or.inr ⟨N, HP.out, HEE.out.symm, rfl⟩, b_set7 B8.out (Nat.le_of_eq HM0.out.symm) _ _ _ _ _ _ _⟩
      · have h1 : (E != 0) = true := by simpa using hE0
        have HE0 := Lib.hid hE0; clear hE0
        go_wp2_with fail
        have Z := z7_set Z8n.out ⟨#[]⟩ 0 n0
        refine bodyPost_ret (v := .tuple #[zk, .int .i64 E]) (by simp [results, Tryd.results13, go_sem, Z.c0, Z.c1, Z.c2, Z.c3, Z.c4, Z.c5, Z.c6]) rfl ⟨Or.inl ⟨E, HE0.out, rfl, fun N' p => by rw [HKE.out N' p]; exact HE0.out⟩, b_set7 B8.out (Nat.le_of_eq HM0.out.symm) _ _ _ _ _ _ _⟩
theorem wk_sv {w : World} (V : VarsA w) : SV w (.slice (some ⟨0, 0, none⟩) 4 4) 4 wkS := Or.inr ⟨by decide, _, 0, 4, rfl, by decide, by decide, fun k hk => by rw [Nat.zero_add]; exact V.wk k hk⟩
theorem park_of {F : List ByteArray} {N : Nat → Int} (h : ∀ k, k < 5 → NumT.numB (F.getD (2 + k) ⟨#[]⟩).data.toList = some (N k)) : ParK F 5 N := fun i hi => by rw [if_pos hi]; exact h i hi
/-- aircraft.Read: the type whose text it is, or an error where there is none. -/
def RdA (s : ByteArray) (e : Ending) : Prop := (∃ E : Int, E ≠ 0 ∧ e = .returned (.tuple #[zk, .int .i64 E]) ∧ ¬ GoodK s) ∨ (∃ c q N, kE c (q : Nat) N = 0 ∧ ktext c q N = s ∧ e = .returned (.tuple #[kv c q N, .int .i64 0]))
theorem readC {w : World} (V : Vars w) (A : VarsA w) (s : ByteArray) (hs : s.size ≤ 2000000) : Calls Tryd.prog 13 #[.string s] w fun e w' => RdA s e ∧ Below w.heap.size w w' := by
  obtain ⟨F, hF, hlen, hsz⟩ := parts s
  have SP : Hid (SpC s F w) := Lib.hid fun w1 hb => (splitC (vars_keep hb V) s hs).mono (by
    rintro e w' ⟨⟨F', hF', -, g, he, -, hc⟩, hb'⟩
    obtain rfl := raw_inj (hF'.trans hF.symm)
    exact ⟨⟨g, he, hc⟩, hb'⟩)
  by_cases h7 : F.length = 7
  · have IX := fun w1 (hb : Below w.heap.size w w1) => sidxC (wk_sv (varsA_keep hb A)) (F.getD 1 ⟨#[]⟩)
    by_cases hneg : fix wkS (F.getD 1 ⟨#[]⟩) 4 < 0
    · have e1 : fix wkS (F.getD 1 ⟨#[]⟩) 4 = -1 := by have := fnd_bd (fun k => decide (wkS k = F.getD 1 ⟨#[]⟩)) 4; have h2 : fix wkS (F.getD 1 ⟨#[]⟩) 4 = fnd (fun k => decide (wkS k = F.getD 1 ⟨#[]⟩)) 4 := rfl; omega
      rw [e1] at IX
      refine (read_wake s w F h7 _ _ rfl rfl SP (Lib.hid IX)).mono ?_
      rintro e w' ⟨he, hb⟩
      refine ⟨Or.inl ⟨5, by decide, he, fun g => ?_⟩, hb⟩
      obtain ⟨c, q, N, -, hq, rfl⟩ := goodk_fld hF g
      have := fnd_neg (p := fun k => decide (wkS k = (kfld c q N).getD 1 ⟨#[]⟩)) hneg q hq
      exact absurd (of_decide_eq_false this) (fun h => h rfl)
    · obtain ⟨q, hq, e1, h2, -⟩ := fnd_pos (p := fun k => decide (wkS k = F.getD 1 ⟨#[]⟩)) (show (0 : Int) ≤ fix wkS (F.getD 1 ⟨#[]⟩) 4 by omega)
      have hw : wkS q = F.getD 1 ⟨#[]⟩ := of_decide_eq_true h2
      rw [show fix wkS (F.getD 1 ⟨#[]⟩) 4 = (q : Int) from e1] at IX
      refine (read_main s w F h7 _ _ rfl rfl q hq SP (Lib.hid IX) (Lib.hid fun k hk w' hb => Ac.numberC (vars_keep hb V) _ (by have := hsz (2 + k); omega))).mono ?_
      rintro e w' ⟨hr, hb⟩
      refine ⟨?_, hb⟩
      rcases hr with ⟨E, hE, he, hn⟩ | ⟨N, hp, hk, he⟩
      · refine Or.inl ⟨E, hE, he, fun g => ?_⟩
        obtain ⟨c, q', N, hk, hq', rfl⟩ := goodk_fld hF g
        have e2 : q = q' := wk_inj hq hq' hw
        subst e2
        have hb := num_bds hk
        refine hn N (park_of fun k hk5 => ?_) hk
        rcases (show k = 0 ∨ k = 1 ∨ k = 2 ∨ k = 3 ∨ k = 4 by omega) with rfl | rfl | rfl | rfl | rfl
        · exact txt_num (hb 0 (by decide)).1 (by have := (hb 0 (by decide)).2; omega)
        · exact txt_num (hb 1 (by decide)).1 (by have := (hb 1 (by decide)).2; omega)
        · exact txt_num (hb 2 (by decide)).1 (by have := (hb 2 (by decide)).2; omega)
        · exact txt_num (hb 3 (by decide)).1 (by have := (hb 3 (by decide)).2; omega)
        · exact txt_num (hb 4 (by decide)).1 (by have := (hb 4 (by decide)).2; omega)
      · refine Or.inr ⟨_, q, N, hk, fld_good hF h7 hw.symm (fun k hk5 => ?_), he⟩
        have := hp k hk5
        rwa [if_pos hk5] at this
  · refine (read_few s w F h7 SP).mono ?_
    rintro e w' ⟨he, hb⟩
    refine ⟨Or.inl ⟨5, by decide, he, fun g => ?_⟩, hb⟩
    obtain ⟨c, q, N, -, -, rfl⟩ := goodk_fld hF g
    exact h7 rfl
end Ac
end Go.Proofs.YtddlacjjanincaaDoor
