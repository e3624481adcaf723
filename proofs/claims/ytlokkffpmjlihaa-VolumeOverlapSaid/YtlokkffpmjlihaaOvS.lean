/- plane.Square and the comparison of enters, in the form that the shelf's sort wants: nothing is turned, blocks are laid, orders drawn. -/
import Derived.Test.YtlokkffpmjlihaaOvO
import Derived.Test.YtlokkffpmjlihaaVolS
namespace Go.Proofs.Ytlokkffpmjlihaa
open Go.Shelf Go.RowKit Go.Lib Go.Sort
shelf_lay_g SlLaysF0.n6 Slsf 6 at Try 110 as Try.sortPts
namespace Over
open Kit Plane Poly
/-- Some draws, some blocks more. -/
def Gr (w w' : World) : Prop := ∃ q os, w' = Go.Sort.grow (w.drewN q) os
theorem gr_trans {w w1 w2 : World} (h1 : Gr w w1) (h2 : Gr w1 w2) : Gr w w2 := by
  obtain ⟨n, os, rfl⟩ := h1
  obtain ⟨q, os', rfl⟩ := h2
  refine ⟨n + q, os ++ os', ?_⟩
  show Go.Sort.grow (Go.Sort.grow ((w.drewN n).drewN q) os) os' = _
  rw [Go.Sort.grow_grow, World.drewN_drewN]
theorem gr_alloc (w : World) (o : Obj) : Gr w (w.alloc o) := ⟨0, #[o], by rw [Go.Sort.alloc_eq_grow]; rfl⟩
theorem sub_g (ax ay bx by' : Int) (w : World) :
    Calls Try.prog 113 #[.agg #[.int .i64 ax, .int .i64 ay], .agg #[.int .i64 bx, .int .i64 by']] w fun e w' => e = .returned (.agg #[.int .i64 (wrap64 (ax - bx)), .int .i64 (wrap64 (ay - by'))]) ∧ Gr w w' := by
  go_enter Try.func113, Try.ntmps113
  go_wp2
  refine bodyPost_ret (v := .agg #[.int .i64 (wrap64 (ax - bx)), .int .i64 (wrap64 (ay - by'))]) (by simp [results, Try.results113, go_sem]) rfl ⟨rfl, ?_⟩
  exact gr_trans (gr_trans (gr_alloc _ _) (gr_alloc _ _)) (gr_alloc _ _)
theorem dot_g (ax ay bx by' : Int) (w : World) :
    Calls Try.prog 112 #[.agg #[.int .i64 ax, .int .i64 ay], .agg #[.int .i64 bx, .int .i64 by']] w fun e w' => e = .returned (.int .i64 (wrap64 (wrap64 (ax * bx) + wrap64 (ay * by')))) ∧ Gr w w' := by
  go_enter Try.func112, Try.ntmps112
  go_wp2
  go_ret
  exact ⟨rfl, gr_trans (gr_alloc _ _) (gr_alloc _ _)⟩
set_option maxHeartbeats 400000 in
theorem square_g (ax ay bx by' : Int) (w : World) :
    Calls Try.prog 100 #[.agg #[.int .i64 ax, .int .i64 ay], .agg #[.int .i64 bx, .int .i64 by']] w fun e w' => e = .returned (.int .i64 (wrap64 (wrap64 (wrap64 (ax - bx) * wrap64 (ax - bx)) + wrap64 (wrap64 (ay - by') * wrap64 (ay - by'))))) ∧ Gr w w' := by
  go_enter Try.func100, Try.ntmps100
  go_wp2_with fail
  refine (sub_g ax ay bx by' _).mono ?_; rintro e w1 ⟨rfl, hb⟩
  go_wp2_with fail
  refine (dot_g _ _ _ _ _).mono ?_; rintro e w2 ⟨rfl, hb2⟩
  go_wp2_with fail
  go_ret
  exact ⟨rfl, gr_trans (gr_trans (gr_trans (gr_trans (gr_alloc _ _) (gr_alloc _ _)) hb) (gr_alloc _ _)) hb2⟩
/-- Coordinates that a doubled polygon may have. -/
def P2M (x y : Int) : Prop := (-2000000 ≤ x ∧ x ≤ 2000000) ∧ (-2000000 ≤ y ∧ y ≤ 2000000)
theorem square_g2 {ax ay bx by' : Int} (ha : P2M ax ay) (hb : P2M bx by') (w : World) (n : Nat) (os : Array Obj) :
    Calls Try.prog 100 #[.agg #[.int .i64 ax, .int .i64 ay], .agg #[.int .i64 bx, .int .i64 by']] (Go.Sort.grow (w.drewN n) os) fun e w'' => e = .returned (.int .i64 (sqr ax ay bx by')) ∧ ∃ p : Go.GrownBy, w'' = Go.Sort.grow (w.drewN p.n) p.os := by
  have c := square_g ax ay bx by' (Go.Sort.grow (w.drewN n) os)
  rw [(sqr_wrap (M := 1000000000) rfl (by unfold P2M at *; omega)).1] at c
  exact Go.Calls.grown_of (c.mono fun e w' h => h)
theorem gr_below {w w' : World} (h : Gr w w') : Below w.heap.size w w' := by
  obtain ⟨q, os, rfl⟩ := h
  exact ⟨rfl, rfl, rfl, by simp [Go.Sort.grow], fun k hk => by simp [Go.Sort.grow, Array.getElem?_append, hk]⟩
/-- A drawn region's walk in that class. -/
structure Gd (P : Program) (ops : Array Oper) (w : World) (Q : Act → Prop) (l : List Oper) (a : Act) : Prop where
  out : wpQuiet P ops (Gr w) Q l a
theorem gd_region {P : Program} {a : Act} {w : World} {id : Nat} {Q : Exit → Act → World → Prop} {l : List Oper} (hm : P.follows .mixedOrders = true) (hB : Region.lexB .any l.toArray = true)
    (h : Gd P l.toArray w (fun a' => ∀ w', Gr w w' → Q .normal a' w') l a) : (Code.region id l.toArray true).wp P Q a w :=
  wp_region_quiet (C := Gr w) hm hB ⟨1, #[], by rw [Go.Sort.grow_empty]; rfl⟩ (by simpa using h.out)
theorem gd_nil {P : Program} {ops : Array Oper} {w : World} {Q : Act → Prop} {a : Act} (h : Q a) : Gd P ops w Q [] a := ⟨wpQuiet_nil h⟩
theorem gd_plain {P : Program} {ops : Array Oper} {w : World} {Q : Act → Prop} {a : Act} {o : Oper} {rest : List Oper} (hg : o.guard = none)
    (hq : ∃ v : Value, (∀ w', Cls w w' → Gr w w' → Oper.quietUpon P (Gr w) w' v ((execOp a.eval o).run P w')) ∧ Gd P ops w Q rest (a.put o.dst v)) : Gd P ops w Q (o :: rest) a := by
  refine ⟨?_⟩
  show if Region.wanted o (yielded ops a.tmps) then o.quiet P a _ (wpQuiet P ops _ Q rest) else _
  rw [if_pos (by unfold Region.wanted; rw [hg])]
  obtain ⟨v, h1, h2⟩ := hq
  exact ⟨v, fun w' h => h1 w' (gr_below h) h, h2.out⟩
theorem call_gr {P : Program} {f : FuncId} {args : Array Value} {w w' : World} {v : Value} (hq : Gr w w') (h : Calls P f args w' fun e w'' => e = .returned v ∧ Gr w' w'') : Calls P f args w' fun e w'' => e = .returned v ∧ Gr w w'' :=
  h.mono fun _ _ ⟨he, hb⟩ => ⟨he, gr_trans hq hb⟩
theorem square_g3 {ax ay bx by' : Int} (ha : P2M ax ay) (hb : P2M bx by') (w : World) :
    Calls Try.prog 100 #[.agg #[.int .i64 ax, .int .i64 ay], .agg #[.int .i64 bx, .int .i64 by']] w fun e w' => e = .returned (.int .i64 (sqr ax ay bx by')) ∧ Gr w w' := by
  have c := square_g ax ay bx by' w
  rw [(sqr_wrap (M := 1000000000) rfl (by unfold P2M at *; omega)).1] at c
  exact c
set_option maxRecDepth 100000 in
set_option maxHeartbeats 1000000 in
theorem cmp_w (ax ay px py qx qy : Int) (pb : Nat) (W : World) (ha : P2M ax ay) (hp : P2M px py) (hq : P2M qx qy) (hc : P2 W pb ax ay) : Calls Try.prog 111 #[.agg #[.int .i64 px, .int .i64 py], .agg #[.int .i64 qx, .int .i64 qy], .pointer (some ⟨pb, 0, none⟩)] W fun e w' => e = .returned (.int .i64 (sqr ax ay px py - sqr ax ay qx qy)) ∧ Gr W w' := by
  obtain ⟨W2, hW2⟩ : ∃ W2, W2 = (W.alloc (.cells #[.int .i64 px, .int .i64 py] 34)).alloc (.cells #[.int .i64 qx, .int .i64 qy] 34) := ⟨_, rfl⟩
  have G2 : Hid (Gr W W2) := Lib.hid (by rw [hW2]; exact gr_trans (gr_alloc _ _) (gr_alloc _ _))
  have A2 : Hid (P2 W2 pb ax ay) := Lib.hid (by rw [hW2]; exact p2_keep (b_alloc (b_alloc (Below.refl _ _) _) _) hc)
  have X2 : Hid (P2 W2 W.heap.size px py) := Lib.hid (by rw [hW2]; exact p2_keep (b_alloc (Below.refl _ _) _) (p2_new W _ px py))
  have Y2 : Hid (P2 W2 (W.heap.size + 1) qx qy) := Lib.hid (by
    have h := p2_new (W.alloc (.cells #[.int .i64 px, .int .i64 py] 34)) 34 qx qy
    rw [World.size_alloc] at h; rw [hW2]; exact h)
  have S1 := Lib.hid (square_g3 ha hp)
  have S2 := Lib.hid (square_g3 ha hq)
  have b1 := (sqr_wrap (ax := ax) (ay := ay) (bx := px) (by' := py) (M := 1000000000) rfl (by unfold P2M at *; omega)).2
  have b2 := (sqr_wrap (ax := ax) (ay := ay) (bx := qx) (by' := qy) (M := 1000000000) rfl (by unfold P2M at *; omega)).2
  have b3 := sqr_nonneg ax ay px py
  have b4 := sqr_nonneg ax ay qx qy
  generalize sqr ax ay px py = s1 at *
  generalize sqr ax ay qx qy = s2 at *
  have hd : IntKind.i64.wrap (s1 - s2) = s1 - s2 := IntWalk.i64_in _ (by omega)
  clear ha hp hq
  go_enter Try.func111, Try.ntmps111
  go_wp2_with fail
  rw [← hW2]
  clear hW2 hc
  refine gd_region (by kernel_rfl) (by kernel_rfl) ?_
  repeat
    (refine gd_plain (by with_reducible rfl) ?_; apply Exists.intro; refine ⟨fun wq hc hq => ?_, ?_⟩)
    try any_goals
      (obtain ⟨a0, a1⟩ := p2_keep hc A2.out; obtain ⟨x0, x1⟩ := p2_keep hc X2.out; obtain ⟨y0, y1⟩ := p2_keep hc Y2.out; clear hc
       go_simp
       first
         | rfl
         | exact hq
         | (go_at_call 100; with_reducible exact call_gr hq (S1.out _))
         | (go_at_call 100; with_reducible exact call_gr hq (S2.out _)))
    simp only [Act.put, List.setIfInBounds_toArray, List.set_cons_zero, List.set_cons_succ]
  refine gd_nil ?_
  intro w3 hg3
  have G3 := Lib.hid (gr_trans G2.out hg3); clear hg3
  go_wp2_with fail
  go_ret
  exact ⟨rfl, G3.out⟩
/-- A point of a doubled polygon. -/
structure Pt where
  x : Int
  y : Int
  ok : P2M x y
theorem p2m_zero : P2M 0 0 := by unfold P2M; omega
instance : Inhabited Pt := ⟨⟨0, 0, p2m_zero⟩⟩
def encP (p : Pt) : List Value := [.int .i64 p.x, .int .i64 p.y]
def cfP (ax ay : Int) (p q : Pt) : Int := sqr ax ay p.x p.y - sqr ax ay q.x q.y
def rowsP (d : Array Pt) : Nat → Nat → Int := fun i j => if j = 0 then d[i]!.x else d[i]!.y
theorem sortP_grown {w : World} {blk off m : Nat} {d : Array Pt} {os : Array Obj} : w.grownBy (sortWorldK encP 2 w blk off m d os) (some blk) := by
  refine ⟨rfl, rfl, rfl, by simp [sortWorldK, Go.Sort.grow, Go.Sort.putRowK, Go.Sort.putRow, Go.Sort.mapBlock, Go.Sort.ahead], fun i hi hne => ?_⟩
  have hb : i ≠ blk := fun h => hne (by rw [h])
  simp only [sortWorldK, Go.Sort.grow, Go.Sort.putRowK, Go.Sort.putRow, Go.Sort.mapBlock, Go.Sort.ahead]
  rw [Array.getElem?_append_left (by rw [Array.size_modify]; exact hi), Array.getElem?_modify, if_neg (fun h => hb h.symm)]
theorem cell_other {w w1 : World} {blk b j : Nat} {u : Value} (hg : w.grownBy w1 (some blk)) (h : w.cell? ⟨b, j, none⟩ = some u) (hne : b ≠ blk) : w1.cell? ⟨b, j, none⟩ = some u := by
  have hb : w1.heap[b]? = w.heap[b]? := hg.block b (lt_of_cell h) (fun e => hne (by injection e with e))
  exact (World.cell?_of_block (a := ⟨b, _, none⟩) hb).trans h
theorem cmpLaysP {ax ay : Int} {pb blk size : Nat} {w : World} (ha : P2M ax ay) (hc : P2 w pb ax ay) (hne : pb ≠ blk) : CmpLays Try.prog 111 #[.pointer (some ⟨pb, 0, none⟩)] encP 2 (cfP ax ay) blk 0 size w :=
  fun _ _ _ _ x y => cmp_w ax ay x.x x.y y.x y.y pb _ ha x.ok y.ok ⟨cell_other sortP_grown hc.1 hne, cell_other sortP_grown hc.2 hne⟩
theorem ltP_iff {ax ay : Int} (x y : Pt) : ltOf (cfP ax ay) x y = true ↔ sqr ax ay x.x x.y < sqr ax ay y.x y.y := by
  unfold ltOf cfP; rw [decide_eq_true_eq]; omega
theorem nltP_iff {ax ay : Int} (x y : Pt) : ltOf (cfP ax ay) x y = false ↔ sqr ax ay y.x y.y ≤ sqr ax ay x.x x.y := by
  unfold ltOf cfP; rw [decide_eq_false_iff_not]; omega
theorem swoP (ax ay : Int) : Go.Sort.SWO (ltOf (cfP ax ay)) where
  irrefl x := (nltP_iff x x).2 (by omega)
  trans x y z h1 h2 := (ltP_iff x z).2 (by have := (ltP_iff x y).1 h1; have := (ltP_iff y z).1 h2; omega)
  ntrans x y z h1 h2 := (nltP_iff x z).2 (by have := (nltP_iff x y).1 h1; have := (nltP_iff y z).1 h2; omega)
theorem flat_atP (d : Array Pt) {i j : Nat} (hi : i < d.size) (hj : j < 2) : (Go.Sort.flatK encP 2 d)[i * 2 + j]! = .int .i64 (rowsP d i j) := by
  rw [Go.Sort.get_flatK _ _ _ _ (by omega), show (i * 2 + j) / 2 = i from by omega, show (i * 2 + j) % 2 = j from by omega]
  rcases (show j = 0 ∨ j = 1 from by omega) with rfl | rfl <;> rfl
theorem holds_ofP {w : World} {g : Nat} {d : Array Pt} (h : RowAt w g d.size 2 (rowsP d)) : Go.Sort.HoldsK encP 2 w g 0 d := by
  intro j hj
  rw [Go.Sort.size_flatK] at hj
  have h1 := h.cell (j / 2) (by omega) (j % 2) (by omega)
  have h2 := flat_atP d (i := j / 2) (j := j % 2) (by omega) (by omega)
  rw [show j / 2 * 2 + j % 2 = j from by omega] at h1 h2
  rw [Nat.zero_add, h1, h2]
  exact ⟨rfl, h.free j⟩
theorem of_holdsP {w : World} {g : Nat} {d : Array Pt} (h : Go.Sort.HoldsK encP 2 w g 0 d) : ∀ i, i < d.size → E2 w g 0 i (rowsP d i 0) (rowsP d i 1) := by
  intro i hi
  have h1 := (h (i * 2 + 0) (by rw [Go.Sort.size_flatK]; omega)).1
  have h2 := (h (i * 2 + 1) (by rw [Go.Sort.size_flatK]; omega)).1
  rw [flat_atP d hi (by omega)] at h1 h2
  rw [Nat.add_zero] at h1
  exact ⟨h1, by rw [Nat.add_assoc]; exact h2⟩
/-- slices.SortFunc at the cuts of an edge. -/
theorem sortP (g cap pb : Nat) (ax ay : Int) (d : Array Pt) (w : World) (ha : P2M ax ay) (hc : P2 w pb ax ay) (hne : pb ≠ g) (hr : RowAt w g d.size 2 (rowsP d)) (hg : g < w.heap.size) (hn : d.size ≤ 256) :
    Calls Try.prog 110 #[.slice (some ⟨g, 0, none⟩) d.size cap, .func (.func 111) #[] #[.pointer (some ⟨pb, 0, none⟩)]] w fun e w' => e = .returned (.tuple #[]) ∧ ∃ d' : Array Pt, d'.size = d.size ∧ d'.toList.Perm d.toList ∧ (∀ i j, i < j → j < d'.size → sqr ax ay d'[i]!.x d'[i]!.y ≤ sqr ax ay d'[j]!.x d'[j]!.y) ∧ w.grownBy w' (some g) ∧ ∀ i, i < d'.size → E2 w' g 0 i (d'[i]!.x) (d'[i]!.y) := by
  have eg : ∀ args w, (callFunc 111 args).run Try.prog w = .ok (.enter 111 args) w := enters_of Try.func111 (by kernel_rfl) rfl
  have hcon := AnyQ.slices_SortFunc Try.sortPts 2 Try.isAgg34 Try.sizeOf34 encP (fun _ => rfl) (fun x v hv => by simp [encP] at hv; rcases hv with rfl | rfl <;> rfl) (cfP ax ay) (swoP ax ay) 111 #[.pointer (some ⟨pb, 0, none⟩)] g 0 cap d w eg (cmpLaysP (size := d.size) ha hc hne) (holds_ofP hr) hg (by omega)
  refine hcon.mono ?_
  rintro e w' ⟨rfl, d', n, os, hp, hs, rfl⟩
  refine ⟨rfl, d', hp.1, ?_, fun i j h1 h2 => (nltP_iff _ _).1 (hs i j (Nat.zero_le _) h1 (by rw [← hp.1]; exact h2)), sortP_grown, ?_⟩
  · have h3 := hp.2.2
    rw [Array.extract_size, ← hp.1, Array.extract_size] at h3
    exact h3
  · have h4 := holdsK_sortWorldK_c encP 2 w g 0 d d' n os (holds_ofP hr) hg hp.1
    exact fun i hi => of_holdsP h4 i hi
end Over
end Go.Proofs.Ytlokkffpmjlihaa
