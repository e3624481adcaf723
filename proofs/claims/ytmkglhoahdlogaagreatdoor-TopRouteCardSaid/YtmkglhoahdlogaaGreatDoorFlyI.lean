/- FlyI. -/
import Derived.Test.YtmkglhoahdlogaaGreatDoorJ02
import Derived.Test.YtmkglhoahdlogaaGreatDoorJ05
import Derived.Laws.CopyRow
import Derived.Lib.AppendZeros
import Derived.Lib.AppendZerosOnto
import Derived.Lib.Overlaps
import Derived.Deep.RegionLaw
namespace Go.Proofs.YtmkglhoahdlogaaGreatDoor
open Go.RowKit
namespace Fly
open Kit
section
variable {P : Program}
/-- copy of rows of C cells, the source read first. -/
theorem copy_rowC (w : World) (dT sT ty elem : TypeId) (C g o dLen dCap : Nat) (a : Addr) (sLen sCap : Nat) (cur : Array Value) (t : TypeId) (cs : List Value)
    (hu : P.underlying dT = some (.slice elem)) (hs : (P.info? elem).map (·.size) = some C)
    (hg : w.heap[g]? = some (.cells cur t (0, 0))) (hn : cs.length = Nat.min sLen dLen * C)
    (hsrc : ∀ j v, cs[j]? = some v → w.cell? (a.add j) = some v) (hfit : o + cs.length ≤ cur.size) (h1 : ∀ v ∈ cs, v.oneCell' = true) :
    (Builtin.copy_ #[dT, sT] ty #[.slice (some ⟨g, o, none⟩) dLen dCap, .slice (some a) sLen sCap]).run P w =
      .ok (goInt (Nat.min sLen dLen)) (w.setRow g (cur.toList.take o ++ cs ++ cur.toList.drop (o + cs.length)).toArray) := by
  have hl := run_loadCells_list (P := P) w a cs hsrc
  have hst := run_storeCells_at P g o t cs 0 cur w hg (by simpa using hfit) h1
  cases hq : P.info? elem with
  | none => simp [hq] at hs
  | some i =>
    have hi : i.size = C := by simpa [hq] using hs
    simp [Builtin.copy_, run_underlying hu, Builtin.lenOf, Builtin.firstCells, sizeOf, typeInfo, hq, hi, ← hn, hl, hst]
/-- The operation, where its run is known. -/
theorem wpList_copy_run (w : World) {ops : Array Oper} {rest : List Oper} {o : Oper} {a : Act} {Q : Exit → Act → World → Prop} (hgd : o.guard = none) (d s : Operand) (t t' : TypeId)
    (ho : o.op = .call { callee := .builtin .copy, args := #[d, s], argTypes := #[t, t'] }) (v u : Value) (hd : a.eval d = v) (hs : a.eval s = u) {v' : Value} {w' : World}
    (hr : (Builtin.copy_ #[t, t'] o.type #[v, u]).run P w = .ok v' w') (h : wpList P ops Q rest (a.put o.dst v') w') : wpList P ops Q (o :: rest) a w :=
  wpList_plain hgd fun K hK => by
    unfold Oper.wp execOp
    simp only [ho, resolve, invoke, builtin, Sem.run_bind, Sem.run_pure, Result.andThen_ok, List.map_toArray, List.map_cons, List.map_nil, hd, hs, hr]
    exact hK _ _ h
theorem step_copy_run {ops : Array Oper} {o : Oper} {a : Act} {w : World} {K : Act → World → Prop} {Q : Exit → Act → World → Prop} {E : Prop}
    (hg : o.guard = none) (d x : Operand) (dT sT : TypeId) (hop : o.op = Op.call { callee := Callee.builtin Builtin.copy, args := #[d, x], argTypes := #[dT, sT] })
    (v u : Value) (hd : a.eval d = v) (hx : a.eval x = u) {v' : Value} {w' : World} (hr : (Builtin.copy_ #[dT, sT] o.type #[v, u]).run P w = .ok v' w') (hK : K (a.put o.dst v') w') :
    if Region.wanted o (yielded ops a.tmps) = true then Oper.wp P o a w K Q else E := by
  have hw : Region.wanted o (yielded ops a.tmps) = true := by simp [Region.wanted, hg]
  rw [if_pos hw]
  unfold Oper.wp
  simp [execOp, hop, resolve, invoke, builtin, hd, hx, hr, Result.andThen]
  exact hK
end
/-- A row of cells with something put in, from a place on. -/
def over (l : List Value) (o : Nat) (cs : List Value) : List Value := l.take o ++ cs ++ l.drop (o + cs.length)
theorem over_len {l : List Value} {o : Nat} {cs : List Value} (h : o + cs.length ≤ l.length) : (over l o cs).length = l.length := by
  unfold over; simp only [List.length_append, List.length_take, List.length_drop]; omega
theorem over_get {l : List Value} {o : Nat} {cs : List Value} (h : o + cs.length ≤ l.length) (k : Nat) : (over l o cs)[k]? = if k < o then l[k]? else if k < o + cs.length then cs[k - o]? else l[k]? := by
  unfold over
  have hl : (l.take o).length = o := by rw [List.length_take]; omega
  by_cases h1 : k < o
  · rw [if_pos h1, List.append_assoc, List.getElem?_append_left (by omega), List.getElem?_take, if_pos h1]
  · rw [if_neg h1]
    by_cases h2 : k < o + cs.length
    · rw [if_pos h2, List.getElem?_append_left (by rw [List.length_append]; omega), List.getElem?_append_right (by omega), hl]
    · rw [if_neg h2, List.getElem?_append_right (by rw [List.length_append]; omega), List.length_append, hl, List.getElem?_drop, show o + cs.length + (k - (o + cs.length)) = k by omega]
theorem info_node : (Tryz.prog.info? 55).map (fun i => (i.zero, i.size, i.bytes)) = some (some (.agg #[.int .i64 0, .int .i64 0, .int .i64 0, .int .i64 0]), 4, 32) := by kernel_rfl
theorem size_node : (Tryz.prog.info? 55).map (·.size) = some 4 := by kernel_rfl
theorem run_size (w : World) : (Go.sizeOf 55).run Tryz.prog w = .ok 4 w := by
  obtain ⟨i0, hi, hz0, hz1, hz2⟩ := info_parts info_node
  simp [Go.sizeOf, typeInfo, hi, hz1]
/-- The cells of rows i to n - 1. -/
def tl (cur : Array Value) (n i : Nat) : List Value := (cur.toList.drop (i * 4)).take ((n - i) * 4)
theorem tl_len {cur : Array Value} {n i cap : Nat} (hs : cur.size = cap * 4) (hn : n ≤ cap) (hi : i ≤ n) : (tl cur n i).length = (n - i) * 4 := by
  unfold tl; rw [List.length_take, List.length_drop, Array.length_toList, hs]; omega
theorem tl_get {cur : Array Value} {n i j : Nat} {v : Value} (h : (tl cur n i)[j]? = some v) : j < (n - i) * 4 ∧ cur.toList[i * 4 + j]? = some v := by
  unfold tl at h
  rw [List.getElem?_take] at h
  split at h
  · rename_i hj; rw [List.getElem?_drop] at h; exact ⟨hj, h⟩
  · cases h
abbrev One (l : List Value) : Prop := ∀ v ∈ l, v.oneCell' = true
theorem tl_one {cur : Array Value} {n i : Nat} {f : Nat → Nat → Int} (hi : i ≤ n) (hr : cur.toList.take (n * 4) = rowL 4 f n) : One (tl cur n i) := fun v hv => by
  obtain ⟨j, hj⟩ := List.getElem?_of_mem hv
  obtain ⟨h1, h2⟩ := tl_get hj
  have h3 : (cur.toList.take (n * 4))[i * 4 + j]? = some v := by rw [List.getElem?_take, if_pos (by omega)]; exact h2
  rw [hr] at h3
  exact rowL_one v (List.mem_of_getElem? h3)
/-- What slices.Insert leaves where there is room. -/
def RoomPost (g cap n i : Nat) (t x y h : Int) (cur : Array Value) (w : World) (e : Ending) (w' : World) : Prop :=
  e = .returned (.slice (some ⟨g, 0, none⟩) (n + 1) cap) ∧ w' = (w.drew.setRow g (over cur.toList ((i + 1) * 4) (tl cur n i)).toArray).setRow g (over (over cur.toList ((i + 1) * 4) (tl cur n i)) (i * 4) [.int .i64 t, .int .i64 x, .int .i64 y, .int .i64 h]).toArray
set_option maxRecDepth 100000 in
set_option maxHeartbeats 4000000 in
theorem ins_room (g cap n i vb : Nat) (t x y h : Int) (cur : Array Value) (f : Nat → Nat → Int) (w : World) (_hcap : cap ≤ 9223372036854775807) (hg : Hid (w.heap[g]? = some (.cells cur 55 (0, 0)))) (hs : Hid (cur.size = cap * 4)) (hr : Hid (cur.toList.take (n * 4) = rowL 4 f n)) (hn : n + 1 ≤ cap) (hi : i < n) (h64 : n ≤ 64)
    (hv : Hid (w.heap[vb]? = some (.cells #[.int .i64 t, .int .i64 x, .int .i64 y, .int .i64 h] 55 (0, 0)))) (hne : vb ≠ g) :
    Calls Tryz.prog 61 #[.slice (some ⟨g, 0, none⟩) n cap, .int .i64 i, .slice (some ⟨vb, 0, none⟩) 1 1] w (RoomPost g cap n i t x y h cur w) := by
  have htl := tl_len hs.out (show n ≤ cap by omega) (Nat.le_of_lt hi)
  have hcl : cur.toList.length = cap * 4 := by rw [Array.length_toList]; exact hs.out
  have hov : ∀ (W : World) (lb cb : Nat), W.heap = w.heap → (callFunc 95 #[.slice (some ⟨vb, 0, none⟩) 1 1, .slice (some ⟨g, (i + 1) * 4, none⟩) lb cb]).run Tryz.prog W = .ok (.value (.bool false)) W := fun W lb cb hW => by
    have e1 : W.shape? vb = some (55, 4) := by unfold World.shape?; rw [hW, hv.out]; rfl
    have e2 : W.shape? g = some (55, cap * 4) := by unfold World.shape?; rw [hW, hg.out, ← hs.out]
    have e3 : ∀ k, W.frozen? ⟨vb, k, none⟩ = false := fun k => by unfold World.frozen?; rw [hW]; simp [hv.out]
    rw [run_callFunc_extern Tryz.func95 (by kernel_rfl) (by kernel_rfl) (by kernel_rfl) (e := Extern.SlicesOverlaps.overlaps #[44, 44] #[4]) (by kernel_rfl),
      Lib.run_overlaps_apart W 44 4 55 Tryz.underlying44 4 run_size ⟨vb, 0, none⟩ ⟨g, (i + 1) * 4, none⟩ 1 1 lb cb hne _ _ _ _ e1 e2 (by omega) (e3 0) (e3 4)]
    rfl
  have hcp1 : ∀ (W : World) ty dc sc, W.heap = w.heap → (Builtin.copy_ #[45, 45] ty #[.slice (some ⟨g, (i + 1) * 4, none⟩) (n - i) dc, .slice (some ⟨g, i * 4, none⟩) (n + 1 - i) sc]).run Tryz.prog W = .ok (goInt ((n - i : Nat) : Int)) (W.setRow g (over cur.toList ((i + 1) * 4) (tl cur n i)).toArray) := fun W ty dc sc hW => by
    have hmin : Nat.min (n + 1 - i) (n - i) = n - i := by simp only [Nat.min_def]; split <;> omega
    have := copy_rowC (P := Tryz.prog) W 45 45 ty 55 4 g ((i + 1) * 4) (n - i) dc ⟨g, i * 4, none⟩ (n + 1 - i) sc cur 55 (tl cur n i) Tryz.underlying45 size_node (by rw [hW]; exact hg.out) (by rw [hmin, htl])
      (fun j v hj => by
        rw [Go.WideShapes.add_plain]
        have := (tl_get hj).2
        simpa [World.cell?, hW, hg.out] using this) (by rw [htl, hs.out]; omega) (tl_one (Nat.le_of_lt hi) hr.out)
    rw [hmin] at this
    unfold over
    exact this
  have hcp2 : ∀ (W : World) ty dc (cur' : Array Value), W.heap[g]? = some (.cells cur' 55 (0, 0)) → W.heap[vb]? = w.heap[vb]? → cur'.size = cap * 4 → (Builtin.copy_ #[45, 44] ty #[.slice (some ⟨g, i * 4, none⟩) (n + 1 - i) dc, .slice (some ⟨vb, 0, none⟩) 1 1]).run Tryz.prog W = .ok (goInt 1) (W.setRow g (over cur'.toList (i * 4) [.int .i64 t, .int .i64 x, .int .i64 y, .int .i64 h]).toArray) := fun W ty dc cur' h1 h2 h3 => by
    have hmin : Nat.min 1 (n + 1 - i) = 1 := by simp only [Nat.min_def]; split <;> omega
    have := copy_rowC (P := Tryz.prog) W 45 44 ty 55 4 g (i * 4) (n + 1 - i) dc ⟨vb, 0, none⟩ 1 1 cur' 55 [.int .i64 t, .int .i64 x, .int .i64 y, .int .i64 h] Tryz.underlying45 size_node h1 (by rw [hmin]; rfl)
      (fun j v hj => by
        rw [Go.WideShapes.add_plain]
        have hj4 : j < 4 := (List.getElem?_eq_some_iff.1 hj).1
        have hc : W.cell? ⟨vb, 0 + j, none⟩ = (#[.int .i64 t, .int .i64 x, .int .i64 y, .int .i64 h] : Array Value)[0 + j]? := by
          simp [World.cell?, h2, hv.out]
        rw [hc, Nat.zero_add]
        simpa using hj) (by rw [h3]; simp; omega) (by intro v hv; simp only [List.mem_cons, List.not_mem_nil, or_false] at hv; rcases hv with rfl | rfl | rfl | rfl <;> rfl)
    rw [hmin] at this
    unfold over
    exact this
  have r1 : (i : Int) < (n : Int) := by omega
  have r2 : ¬ ((i : Int) == (n : Int)) = true := by simp; omega
  have r3 : ((i : Int) == (n : Int)) = false := by simpa using r2
  have r4 : ¬ (cap : Int) < (n : Int) + 1 := by omega
  have r5 : IntKind.i64.wrap ((i : Int) + 1) = (i : Int) + 1 := IntWalk.i64_in _ (by omega)
  have r6 : ((i : Int) + 1).toNat = i + 1 := by omega
  have r7 : (i : Int) + 1 ≤ (n : Int) + 1 := by omega
  have r8 : (0 : Int) ≤ (i : Int) + 1 := by omega
  have r9 : ¬ cap = i := by omega
  have r11 : (i : Int) ≤ (n : Int) + 1 := by omega
  have r10 : ¬ cap = i + 1 := by omega
  have HO := Lib.hid hov; have HC1 := Lib.hid hcp1; have HC2 := Lib.hid hcp2
  clear hov hcp1 hcp2
  go_enter Tryz.func61, Tryz.ntmps61
  have ho := fun lb cb => HO.out w lb cb rfl
  go_wp2_with (simp only [ho])
  have hrun := HC1.out w.drew 3 (cap - (i + 1)) (cap - i) rfl
  go_region_law (refine step_copy_run rfl _ _ 45 45 rfl (.slice (some ⟨g, (i + 1) * 4, none⟩) (n - i) (cap - (i + 1))) (.slice (some ⟨g, i * 4, none⟩) (n + 1 - i) (cap - i)) (by simp [Act.eval, Act.put]) (by simp [Act.eval, Act.put]) hrun ?_)
  clear hrun
  have hg1 : (w.drew.setRow g (over cur.toList ((i + 1) * 4) (tl cur n i)).toArray).heap[g]? = some (.cells (over cur.toList ((i + 1) * 4) (tl cur n i)).toArray 55 (0, 0)) := setRow_heap w.drew g cur _ 55 _ hg.out
  have hv1 : (w.drew.setRow g (over cur.toList ((i + 1) * 4) (tl cur n i)).toArray).heap[vb]? = w.heap[vb]? := by
    simp [World.setRow, Array.getElem?_modify, Ne.symm hne]
    rfl
  have hs1 : (over cur.toList ((i + 1) * 4) (tl cur n i)).toArray.size = cap * 4 := by
    rw [List.size_toArray, over_len (by rw [htl, hcl]; omega), hcl]
  have HR2 := Lib.hid (HC2.out _ 3 (cap - i) _ hg1 hv1 hs1)
  obtain ⟨W1, hW1⟩ : ∃ W1, W1 = w.drew.setRow g (over cur.toList ((i + 1) * 4) (tl cur n i)).toArray := ⟨_, rfl⟩
  rw [← hW1] at HR2
  have HW1 := Lib.hid hW1
  rw [← hW1]
  clear hg1 hv1 hs1 hW1
  have hrun2 := HR2.out
  go_wp2_with fail
  refine bodyPost_ret (v := .slice (some ⟨g, 0, none⟩) (n + 1) cap) (by simp [results, Tryz.results61, go_sem]) rfl ⟨rfl, by rw [HW1.out]⟩
/-- What slices.Insert leaves where there is no room. -/
def GrowPost (n i : Nat) (t x y h : Int) (cur : Array Value) (w : World) (e : Ending) (w' : World) : Prop :=
  ∃ (G : Nat) (ROW : Array Value), n + 1 ≤ G ∧ G ≤ maxLen ∧ ROW.size = G * 4 ∧ ROW.toList.take (i * 4) = cur.toList.take (i * 4) ∧ e = .returned (.slice (some ⟨w.heap.size, 0, none⟩) (n + 1) G) ∧
    w' = (((w.drew.alloc (.cells ROW 55)).setRow w.heap.size (over ROW.toList (i * 4) [.int .i64 t, .int .i64 x, .int .i64 y, .int .i64 h]).toArray).drew).setRow w.heap.size (over (over ROW.toList (i * 4) [.int .i64 t, .int .i64 x, .int .i64 y, .int .i64 h]) ((i + 1) * 4) (tl cur n i)).toArray
theorem zero_size (k : Nat) : (Builtin.zeroCells (Value.agg #[.int .i64 0, .int .i64 0, .int .i64 0, .int .i64 0]).cells k).size = k * 4 := by
  simp [Builtin.zeroCells, Value.cells]
set_option maxRecDepth 100000 in
set_option maxHeartbeats 4000000 in
theorem ins_grow (g cap n i vb : Nat) (t x y h : Int) (cur : Array Value) (f : Nat → Nat → Int) (w : World) (hcap : cap ≤ 9223372036854775807) (hg : Hid (w.heap[g]? = some (.cells cur 55 (0, 0)))) (hs : Hid (cur.size = cap * 4)) (hr : Hid (cur.toList.take (n * 4) = rowL 4 f n)) (hnc : n ≤ cap) (hn : cap < n + 1) (hi : i < n) (h64 : n ≤ 64)
    (hv : Hid (w.heap[vb]? = some (.cells #[.int .i64 t, .int .i64 x, .int .i64 y, .int .i64 h] 55 (0, 0)))) :
    Calls Tryz.prog 61 #[.slice (some ⟨g, 0, none⟩) n cap, .int .i64 i, .slice (some ⟨vb, 0, none⟩) 1 1] w (GrowPost n i t x y h cur w) := by
  obtain ⟨i0, hi0, hz0, hz1, hz2⟩ := info_parts info_node
  have htl := tl_len hs.out hnc (Nat.le_of_lt hi)
  have hcl : cur.toList.length = cap * 4 := by rw [Array.length_toList]; exact hs.out
  have hgl : g < w.heap.size := by
    rcases Nat.lt_or_ge g w.heap.size with hl | hl
    · exact hl
    · have := hg.out; rw [Array.getElem?_eq_none hl] at this; cases this
  have hvl : vb < w.heap.size := by
    rcases Nat.lt_or_ge vb w.heap.size with hl | hl
    · exact hl
    · have := hv.out; rw [Array.getElem?_eq_none hl] at this; cases this
  have hold : (Builtin.firstCells i0.size i (.slice (some ⟨g, 0, none⟩) i cap)).run Tryz.prog w.drew = .ok (cur.toList.take (i * 4)).toArray w.drew := by
    rw [hz1]
    refine run_firstCells_some w.drew 4 i ⟨g, 0, none⟩ i cap (cur.toList.take (i * 4)) (by rw [List.length_take, hcl]; omega) (fun j v hj => ?_)
    rw [Go.WideShapes.add_plain, Nat.zero_add]
    rw [List.getElem?_take] at hj
    split at hj
    · have e : w.drew.cell? ⟨g, j, none⟩ = cur[j]? := by show w.cell? ⟨g, j, none⟩ = _; simp [World.cell?, hg.out]
      rw [e]; simpa using hj
    · cases hj
  have hkk : (n : Int) + 1 - (i : Int) = ((n + 1 - i : Nat) : Int) := by omega
  have hik : i + (n + 1 - i) = n + 1 := by omega
  have hfit : Builtin.nextslicecap (n + 1) cap * i0.bytes ≤ 281474976710656 := by rw [hz2]; exact growslice_fits (by omega) (by omega)
  have hrz : ∀ ty, (Builtin.append_ #[45, 3] ty #[.slice (some ⟨g, 0, none⟩) i cap, .int .i64 ((n : Int) + 1 - (i : Int))]).run Tryz.prog w =
      .ok (.slice (some ⟨w.heap.size, 0, none⟩) (n + 1) (grownCap w (n + 1) cap 55)) (w.drew.alloc (.cells ((cur.toList.take (i * 4)).toArray ++ Builtin.zeroCells (Value.agg #[.int .i64 0, .int .i64 0, .int .i64 0, .int .i64 0]).cells (n + 1 - i) ++ Builtin.zeroCells (Value.agg #[.int .i64 0, .int .i64 0, .int .i64 0, .int .i64 0]).cells (grownCap w (n + 1) cap 55 - (n + 1))) 55)) := fun ty => by
    have q := Lib.run_append_grow_zeros w 45 3 ty 55 i0 _ .i64 .i64 Tryz.underlying45 Tryz.underlying3 hi0 hz0 (some ⟨g, 0, none⟩) i cap (cur.toList.take (i * 4)) hold (n + 1 - i) (by omega) (by rw [hz1]; decide) (by omega) (by omega) (by rw [hz2]; omega) (by rw [hik]; exact hfit)
    rw [hik] at q
    rw [hkk]
    exact q
  have hGm := grownCap_le_maxLen w (n + 1) cap 55 (by unfold maxLen; omega)
  have hGn := grownCap_ge w (n + 1) cap 55
  obtain ⟨G, hG⟩ : ∃ G, G = grownCap w (n + 1) cap 55 := ⟨_, rfl⟩
  rw [← hG] at hrz hGm hGn
  obtain ⟨ROW, hROW⟩ : ∃ ROW : Array Value, ROW = (cur.toList.take (i * 4)).toArray ++ Builtin.zeroCells (Value.agg #[.int .i64 0, .int .i64 0, .int .i64 0, .int .i64 0]).cells (n + 1 - i) ++ Builtin.zeroCells (Value.agg #[.int .i64 0, .int .i64 0, .int .i64 0, .int .i64 0]).cells (G - (n + 1)) := ⟨_, rfl⟩
  rw [← hROW] at hrz
  have hRs : ROW.size = G * 4 := by
    rw [hROW, Array.size_append, Array.size_append, zero_size, zero_size, List.size_toArray, List.length_take, hcl]
    omega
  have hRt : ROW.toList.take (i * 4) = cur.toList.take (i * 4) := by
    rw [hROW, Array.toList_append, Array.toList_append, List.append_assoc, List.take_append_of_le_length (by have := hs.out; simp; omega), List.take_of_length_le (by simp; omega)]
  have hRl : ROW.toList.length = G * 4 := by rw [Array.length_toList]; exact hRs
  obtain ⟨W1, hW1⟩ : ∃ W1, W1 = w.drew.alloc (.cells ROW 55) := ⟨_, rfl⟩
  rw [← hW1] at hrz
  have hN1 : W1.heap[w.heap.size]? = some (.cells ROW 55 (0, 0)) := by rw [hW1]; exact heap_alloc_new w.drew _
  have hv1 : W1.heap[vb]? = w.heap[vb]? := by rw [hW1]; exact heap_alloc_old w.drew _ hvl
  have hg1 : W1.heap[g]? = w.heap[g]? := by rw [hW1]; exact heap_alloc_old w.drew _ hgl
  have hcpA : ∀ ty dc, (Builtin.copy_ #[45, 44] ty #[.slice (some ⟨w.heap.size, i * 4, none⟩) (n + 1 - i) dc, .slice (some ⟨vb, 0, none⟩) 1 1]).run Tryz.prog W1 = .ok (goInt 1) (W1.setRow w.heap.size (over ROW.toList (i * 4) [.int .i64 t, .int .i64 x, .int .i64 y, .int .i64 h]).toArray) := fun ty dc => by
    have hmin : Nat.min 1 (n + 1 - i) = 1 := by simp only [Nat.min_def]; split <;> omega
    have := copy_rowC (P := Tryz.prog) W1 45 44 ty 55 4 w.heap.size (i * 4) (n + 1 - i) dc ⟨vb, 0, none⟩ 1 1 ROW 55 [.int .i64 t, .int .i64 x, .int .i64 y, .int .i64 h] Tryz.underlying45 size_node hN1 (by rw [hmin]; rfl)
      (fun j v hj => by
        rw [Go.WideShapes.add_plain]
        have hc : W1.cell? ⟨vb, 0 + j, none⟩ = (#[.int .i64 t, .int .i64 x, .int .i64 y, .int .i64 h] : Array Value)[0 + j]? := by
          simp [World.cell?, hv1, hv.out]
        rw [hc, Nat.zero_add]
        simpa using hj) (by rw [hRs]; simp; omega) (by intro v hv; simp only [List.mem_cons, List.not_mem_nil, or_false] at hv; rcases hv with rfl | rfl | rfl | rfl <;> rfl)
    rw [hmin] at this
    unfold over
    exact this
  obtain ⟨W2, hW2⟩ : ∃ W2, W2 = (W1.setRow w.heap.size (over ROW.toList (i * 4) [.int .i64 t, .int .i64 x, .int .i64 y, .int .i64 h]).toArray).drew := ⟨_, rfl⟩
  have hN2 : W2.heap[w.heap.size]? = some (.cells (over ROW.toList (i * 4) [.int .i64 t, .int .i64 x, .int .i64 y, .int .i64 h]).toArray 55 (0, 0)) := by rw [hW2]; exact setRow_heap W1 w.heap.size ROW _ 55 _ hN1
  have hg2 : W2.heap[g]? = w.heap[g]? := by
    rw [hW2, ← hg1]
    show (W1.setRow w.heap.size _).heap[g]? = W1.heap[g]?
    simp [World.setRow, Array.getElem?_modify, Nat.ne_of_gt hgl]
  have hol : (over ROW.toList (i * 4) [.int .i64 t, .int .i64 x, .int .i64 y, .int .i64 h]).length = G * 4 := by rw [over_len (by rw [hRl]; simp; omega), hRl]
  have hcpB : ∀ ty dc sc, (Builtin.copy_ #[45, 45] ty #[.slice (some ⟨w.heap.size, (i + 1) * 4, none⟩) (n - i) dc, .slice (some ⟨g, i * 4, none⟩) (n - i) sc]).run Tryz.prog W2 = .ok (goInt ((n - i : Nat) : Int)) (W2.setRow w.heap.size (over (over ROW.toList (i * 4) [.int .i64 t, .int .i64 x, .int .i64 y, .int .i64 h]) ((i + 1) * 4) (tl cur n i)).toArray) := fun ty dc sc => by
    have hmin : Nat.min (n - i) (n - i) = n - i := Nat.min_self _
    have := copy_rowC (P := Tryz.prog) W2 45 45 ty 55 4 w.heap.size ((i + 1) * 4) (n - i) dc ⟨g, i * 4, none⟩ (n - i) sc _ 55 (tl cur n i) Tryz.underlying45 size_node hN2 (by rw [hmin, htl])
      (fun j v hj => by
        rw [Go.WideShapes.add_plain]
        have := (tl_get hj).2
        simpa [World.cell?, hg2, hg.out] using this) (by rw [htl, List.size_toArray, hol]; omega) (tl_one (Nat.le_of_lt hi) hr.out)
    rw [hmin] at this
    exact this
  have HRZ := Lib.hid (hrz 45); have HA := Lib.hid hcpA; have HB := Lib.hid hcpB; have HW2 := Lib.hid hW2; have HW1 := Lib.hid hW1
  have r1 : (i : Int) < (n : Int) := by omega
  have r3 : ((i : Int) == (n : Int)) = false := by simp; omega
  have r4 : (cap : Int) < (n : Int) + 1 := by omega
  have r5 : IntKind.i64.wrap ((i : Int) + 1) = (i : Int) + 1 := IntWalk.i64_in _ (by omega)
  have r6 : ((i : Int) + 1).toNat = i + 1 := by omega
  have r7 : (i : Int) + 1 ≤ (n : Int) + 1 := by omega
  have r8 : (0 : Int) ≤ (i : Int) + 1 := by omega
  have r9 : ¬ cap = i := by omega
  have r11 : (i : Int) ≤ (n : Int) + 1 := by omega
  have r12 : ¬ G = i := by omega
  have r13 : ¬ G = i + 1 := by omega
  have r14 : (n : Int) + 1 ≤ (G : Int) := by omega
  have r15 : (i : Int) ≤ (n : Int) := by omega
  have hG63 : G ≤ 9223372036854775807 := Nat.le_trans hGm (by decide)
  have FIN : Hid (n + 1 ≤ G ∧ G ≤ maxLen ∧ ROW.size = G * 4 ∧ ROW.toList.take (i * 4) = cur.toList.take (i * 4)) := Lib.hid ⟨hGn, hGm, hRs, hRt⟩
  clear hold hfit hrz hG hROW hRs hRt hRl hN1 hv1 hg1 hN2 hg2 hol hcpA hcpB hi0 hz0 hz1 hz2 htl hcl hik hW1 hW2 hGm hGn hkk
  go_enter Tryz.func61, Tryz.ntmps61
  have hr1 := HA.out 3 (G - i)
  go_wp2_with (at_builtin; refine Lib.wpList_append_run _ rfl _ _ _ _ rfl _ _ rfl rfl _ _ HRZ.out ?_)
  clear hr1
  have hr2 := HB.out 3 (G - (i + 1)) (cap - i)
  rw [HW2.out] at hr2
  go_region_law (refine step_copy_run rfl _ _ 45 45 rfl (.slice (some ⟨w.heap.size, (i + 1) * 4, none⟩) (n - i) (G - (i + 1))) (.slice (some ⟨g, i * 4, none⟩) (n - i) (cap - i)) (by simp [Act.eval, Act.put]) (by simp [Act.eval, Act.put]) hr2 ?_)
  clear hr2
  go_wp2_with fail
  refine bodyPost_ret (v := .slice (some ⟨w.heap.size, 0, none⟩) (n + 1) G) (by simp [results, Tryz.results61, go_sem]) rfl ⟨G, ROW, FIN.out.1, FIN.out.2.1, FIN.out.2.2.1, FIN.out.2.2.2, rfl, by rw [HW1.out]⟩
/-- One row put in at place i. -/
def insR (f : Nat → Nat → Int) (i : Nat) (t x y h : Int) : Nat → Nat → Int := fun k j => if k < i then f k j else if k = i then (if j = 0 then t else if j = 1 then x else if j = 2 then y else h) else f (k - 1) j
theorem take_rowL {C n : Nat} {f : Nat → Nat → Int} {L : List Value} (hl : n * C ≤ L.length) (h : ∀ k, k < n → ∀ j, j < C → L[k * C + j]? = some (.int .i64 (f k j))) : L.take (n * C) = rowL C f n := by
  refine List.ext_getElem? fun a => ?_
  rcases Nat.lt_or_ge a (n * C) with ha | ha
  · have hC : 0 < C := by
      rcases Nat.eq_zero_or_pos C with h0 | h0
      · subst h0; omega
      · exact h0
    have h1 : a / C < n := Nat.div_lt_of_lt_mul (by rw [Nat.mul_comm]; exact ha)
    have h2 : a % C < C := Nat.mod_lt _ hC
    have e : a / C * C + a % C = a := by rw [Nat.mul_comm]; exact Nat.div_add_mod a C
    have g1 := h _ h1 _ h2
    have g2 := rowL_get (f := f) h1 h2
    rw [e] at g1 g2
    rw [List.getElem?_take, if_pos ha, g1, g2]
  · rw [List.getElem?_eq_none (by rw [List.length_take]; omega), List.getElem?_eq_none (by rw [rowL_len]; exact ha)]
theorem nd_get (t x y h : Int) {j : Nat} (hj : j < 4) : ([.int .i64 t, .int .i64 x, .int .i64 y, .int .i64 h] : List Value)[j]? = some (.int .i64 (if j = 0 then t else if j = 1 then x else if j = 2 then y else h)) := by
  rcases (show j = 0 ∨ j = 1 ∨ j = 2 ∨ j = 3 by omega) with rfl | rfl | rfl | rfl <;> rfl
theorem row_at {cur : Array Value} {n : Nat} {f : Nat → Nat → Int} (hr : cur.toList.take (n * 4) = rowL 4 f n) {k j : Nat} (hk : k < n) (hj : j < 4) : cur.toList[k * 4 + j]? = some (.int .i64 (f k j)) := by
  have := rowL_get (f := f) hk hj
  rw [← hr, List.getElem?_take, if_pos (by omega)] at this
  exact this
theorem tl_at {cur : Array Value} {n i : Nat} {f : Nat → Nat → Int} (hr : cur.toList.take (n * 4) = rowL 4 f n) {k j : Nat} (hk : i < k) (hkn : k < n + 1) (hj : j < 4) : (tl cur n i)[k * 4 + j - (i + 1) * 4]? = some (.int .i64 (f (k - 1) j)) := by
  unfold tl
  rw [List.getElem?_take, if_pos (by omega), List.getElem?_drop, show i * 4 + (k * 4 + j - (i + 1) * 4) = (k - 1) * 4 + j by omega]
  exact row_at hr (by omega) hj
theorem room_row {cur : Array Value} {n i cap : Nat} {f : Nat → Nat → Int} {t x y h : Int} (hs : cur.size = cap * 4) (hn : n + 1 ≤ cap) (hi : i < n) (hr : cur.toList.take (n * 4) = rowL 4 f n) :
    (over (over cur.toList ((i + 1) * 4) (tl cur n i)) (i * 4) [.int .i64 t, .int .i64 x, .int .i64 y, .int .i64 h]).take ((n + 1) * 4) = rowL 4 (insR f i t x y h) (n + 1) := by
  have htl := tl_len hs (show n ≤ cap by omega) (Nat.le_of_lt hi)
  have hcl : cur.toList.length = cap * 4 := by rw [Array.length_toList]; exact hs
  have h1 : (i + 1) * 4 + (tl cur n i).length ≤ cur.toList.length := by rw [htl, hcl]; omega
  have h2 : i * 4 + ([.int .i64 t, .int .i64 x, .int .i64 y, .int .i64 h] : List Value).length ≤ (over cur.toList ((i + 1) * 4) (tl cur n i)).length := by rw [over_len h1, hcl]; simp; omega
  refine take_rowL (by rw [over_len h2, over_len h1, hcl]; omega) fun k hk j hj => ?_
  rw [over_get h2, over_get h1]
  unfold insR
  simp only [List.length_cons, List.length_nil]
  rcases Nat.lt_trichotomy k i with hl | hl | hl
  · rw [if_pos hl, if_pos (by omega), if_pos (by omega)]; exact row_at hr (by omega) hj
  · subst hl
    rw [if_neg (Nat.lt_irrefl _), if_pos rfl, if_neg (by omega), if_pos (by omega), show k * 4 + j - k * 4 = j by omega]
    exact nd_get t x y h hj
  · have a1 : ¬ k * 4 + j < i * 4 := by omega
    have a2 : ¬ k * 4 + j < i * 4 + (0 + 1 + 1 + 1 + 1) := by omega
    have a3 : ¬ k * 4 + j < (i + 1) * 4 := by omega
    have a4 : k * 4 + j < (i + 1) * 4 + (tl cur n i).length := by rw [htl]; omega
    have a5 : ¬ k < i := by omega
    have a6 : ¬ k = i := by omega
    simp only [if_neg a1, if_neg a2, if_neg a3, if_pos a4, if_neg a5, if_neg a6]
    exact tl_at hr hl hk hj
theorem grow_row {cur ROW : Array Value} {n i cap G : Nat} {f : Nat → Nat → Int} {t x y h : Int} (hs : cur.size = cap * 4) (hnc : n ≤ cap) (hG : n + 1 ≤ G) (hR : ROW.size = G * 4) (hRt : ROW.toList.take (i * 4) = cur.toList.take (i * 4)) (hi : i < n) (hr : cur.toList.take (n * 4) = rowL 4 f n) :
    (over (over ROW.toList (i * 4) [.int .i64 t, .int .i64 x, .int .i64 y, .int .i64 h]) ((i + 1) * 4) (tl cur n i)).take ((n + 1) * 4) = rowL 4 (insR f i t x y h) (n + 1) ∧ (over (over ROW.toList (i * 4) [.int .i64 t, .int .i64 x, .int .i64 y, .int .i64 h]) ((i + 1) * 4) (tl cur n i)).length = G * 4 := by
  have htl := tl_len hs hnc (Nat.le_of_lt hi)
  have hRl : ROW.toList.length = G * 4 := by rw [Array.length_toList]; exact hR
  have h1 : i * 4 + ([.int .i64 t, .int .i64 x, .int .i64 y, .int .i64 h] : List Value).length ≤ ROW.toList.length := by rw [hRl]; simp; omega
  have h2 : (i + 1) * 4 + (tl cur n i).length ≤ (over ROW.toList (i * 4) [.int .i64 t, .int .i64 x, .int .i64 y, .int .i64 h]).length := by rw [over_len h1, hRl, htl]; omega
  refine ⟨take_rowL (by rw [over_len h2, over_len h1, hRl]; omega) fun k hk j hj => ?_, by rw [over_len h2, over_len h1, hRl]⟩
  rw [over_get h2, over_get h1]
  unfold insR
  simp only [List.length_cons, List.length_nil]
  rcases Nat.lt_trichotomy k i with hl | hl | hl
  · rw [if_pos hl, if_pos (by omega), if_pos (by omega)]
    have g := row_at hr (show k < n by omega) hj
    have e : (ROW.toList.take (i * 4))[k * 4 + j]? = (cur.toList.take (i * 4))[k * 4 + j]? := by rw [hRt]
    rw [List.getElem?_take, List.getElem?_take, if_pos (by omega), if_pos (by omega)] at e
    rw [e]; exact g
  · subst hl
    rw [if_neg (Nat.lt_irrefl _), if_pos rfl, if_pos (by omega), if_neg (by omega), if_pos (by omega), show k * 4 + j - k * 4 = j by omega]
    exact nd_get t x y h hj
  · have a3 : ¬ k * 4 + j < (i + 1) * 4 := by omega
    have a4 : k * 4 + j < (i + 1) * 4 + (tl cur n i).length := by rw [htl]; omega
    have a5 : ¬ k < i := by omega
    have a6 : ¬ k = i := by omega
    simp only [if_neg a3, if_pos a4, if_neg a5, if_neg a6]
    exact tl_at hr hl hk hj
theorem below_row {B : Nat} {w0 w : World} (hb : Below B w0 w) {g : Nat} (hg : B ≤ g) (cur : Array Value) : Below B w0 (w.setRow g cur) :=
  ⟨hb.os, hb.tape, hb.output, Nat.le_trans hb.size (by simp [World.setRow]), fun k hk => by
    have e : (w.setRow g cur).heap[k]? = w.heap[k]? := by simp [World.setRow, Array.getElem?_modify, Nat.ne_of_gt (Nat.lt_of_lt_of_le hk hg)]
    rw [e]; exact hb.block k hk⟩
theorem grown_row {w w' : World} {g : Nat} (h : w.grownBy w' (some g)) (cur : Array Value) : w.grownBy (w'.setRow g cur) (some g) :=
  ⟨h.os, h.tape, h.output, Nat.le_trans h.size (by simp [World.setRow]), fun k hk hne => by
    have hne' : ¬ g = k := fun e => hne (by rw [e])
    have e : (w'.setRow g cur).heap[k]? = w'.heap[k]? := by simp [World.setRow, Array.getElem?_modify, hne']
    rw [e]; exact h.block k hk hne⟩
theorem grown_of {w w' : World} (h : Below w.heap.size w w') (row : Option Nat) : w.grownBy w' row := ⟨h.os, h.tape, h.output, h.size, fun k hk _ => h.block k hk⟩
/-- slices.Insert of one node into an own path. -/
theorem insC {base n i vb : Nat} {t x y h : Int} {v : Value} {f : Nat → Nat → Int} {w : World} (ho : Own w base 55 4 v n f) (hi : i < n) (h64 : n ≤ 64) (hb : base ≤ w.heap.size)
    (hv : w.heap[vb]? = some (.cells #[.int .i64 t, .int .i64 x, .int .i64 y, .int .i64 h] 55 (0, 0))) (hne : v.ownBlock ≠ some vb) :
    Calls Tryz.prog 61 #[v, .int .i64 i, .slice (some ⟨vb, 0, none⟩) 1 1] w fun e w' => ((∃ v', e = .returned v' ∧ Own w' base 55 4 v' (n + 1) (insR f i t x y h) ∧ (v'.ownBlock = v.ownBlock ∨ v'.ownBlock = some w.heap.size)) ∧ w.grownBy w' v.ownBlock) ∧ Below base w w' := by
  rcases ho.2 with ⟨-, h0⟩ | ⟨g, cap, cur, rfl, hbg, hg, hnc, hcm, hsz, htk⟩
  · omega
  have hne' : vb ≠ g := fun e => hne (by rw [e]; rfl)
  have hcap : cap ≤ 9223372036854775807 := Nat.le_trans hcm (by decide)
  by_cases hroom : n + 1 ≤ cap
  · refine (ins_room g cap n i vb t x y h cur f w hcap (Lib.hid hg) (Lib.hid hsz) (Lib.hid htk) hroom hi h64 (Lib.hid hv) hne').mono ?_
    rintro e w' ⟨rfl, rfl⟩
    have hrow := room_row (t := t) (x := x) (y := y) (h := h) hsz hroom hi htk
    have htl := tl_len hsz hnc (Nat.le_of_lt hi)
    have hcl : cur.toList.length = cap * 4 := by rw [Array.length_toList]; exact hsz
    refine ⟨⟨⟨_, rfl, ⟨rowL_len _ _ _, Or.inr ⟨g, cap, _, rfl, hbg, setRow_heap _ g _ _ 55 _ (setRow_heap w.drew g cur _ 55 _ hg), hroom, hcm, ?_, hrow⟩⟩, Or.inl rfl⟩, grown_row (grown_row (show w.grownBy w.drew (some g) from ⟨rfl, rfl, rfl, Nat.le_refl _, fun _ _ _ => rfl⟩) _) _⟩, below_row (below_row (Below.refl _ _).drew hbg _) hbg _⟩
    rw [List.size_toArray, over_len (by rw [over_len (by rw [htl, hcl]; omega), hcl]; simp; omega), over_len (by rw [htl, hcl]; omega), hcl]
  · refine (ins_grow g cap n i vb t x y h cur f w hcap (Lib.hid hg) (Lib.hid hsz) (Lib.hid htk) hnc (by omega) hi h64 (Lib.hid hv)).mono ?_
    rintro e w' ⟨G, ROW, h1, h2, h3, h4, rfl, rfl⟩
    have hrow := grow_row (t := t) (x := x) (y := y) (h := h) hsz hnc h1 h3 h4 hi htk
    have hN : (w.drew.alloc (.cells ROW 55)).heap[w.heap.size]? = some (.cells ROW 55 (0, 0)) := heap_alloc_new w.drew _
    have hN2 := setRow_heap _ w.heap.size _ (over ROW.toList (i * 4) [.int .i64 t, .int .i64 x, .int .i64 y, .int .i64 h]).toArray 55 _ hN
    refine ⟨⟨⟨_, rfl, ⟨rowL_len _ _ _, Or.inr ⟨w.heap.size, G, _, rfl, hb, setRow_heap _ w.heap.size _ _ 55 _ hN2, h1, h2, ?_, ?_⟩⟩, Or.inr rfl⟩, (grown_of (below_row (below_row ((Below.refl w.heap.size w).drew.alloc (Nat.le_refl _) _) (Nat.le_refl _) _).drew (Nat.le_refl _) _) _)⟩, below_row (below_row ((Below.refl base w).drew.alloc hb _) hb _).drew hb _⟩
    · rw [List.size_toArray]; exact hrow.2
    · exact hrow.1
end Fly
end Go.Proofs.YtmkglhoahdlogaaGreatDoor
