/- probe.All's order: cmp.Or, the closure, slices.SortFunc at clashes. -/
import Derived.Test.YteaccanhahmclaaKit2
import Derived.Test.YteaccanhahmclaaProbeS
import Derived.Test.YteaccanhahmclaaChV
import Derived.Shelf.SlSortCmp.NoneTotal
import Derived.Shelf.SlSortCmp.WholeK
import Derived.Shelf.Lay
import Derived.Shelf.SlGeneric
import Derived.Ground.SlsfProg
import Derived.Ground.NamesProg
namespace Go.Proofs.Yteaccanhahmclaa
open Go.RowKit Go.Shelf
shelf_lay_g SlLaysF0.n6 Slsf 6 at Try 100 as clashSort
namespace Probe
open Kit
/-- A clash. -/
structure Ck where
  A : Int
  B : Int
  F : Int
  T : Int
deriving DecidableEq
/-- Its numbers are small enough for the order. -/
def ckOk (c : Ck) : Prop := (0 ≤ c.A ∧ c.A ≤ 100) ∧ (0 ≤ c.B ∧ c.B ≤ 100) ∧ 0 ≤ c.F ∧ c.F ≤ 1000000
abbrev Cs := {c : Ck // ckOk c}
instance : Inhabited Cs := ⟨⟨⟨0, 0, 0, 0⟩, by unfold ckOk; decide⟩⟩
def encC (c : Cs) : List Value := [.int .i64 c.1.A, .int .i64 c.1.B, .int .i64 c.1.F, .int .i64 c.1.T]
/-- The order of clashes. -/
def cfC (x y : Cs) : Int := if x.1.F - y.1.F ≠ 0 then x.1.F - y.1.F else if x.1.A - y.1.A ≠ 0 then x.1.A - y.1.A else x.1.B - y.1.B
def ltC (x y : Ck) : Prop := x.F < y.F ∨ (x.F = y.F ∧ (x.A < y.A ∨ (x.A = y.A ∧ x.B < y.B)))
theorem lt_iff (x y : Cs) : ltOf cfC x y = true ↔ ltC x.1 y.1 := by
  unfold ltOf cfC ltC
  rw [decide_eq_true_eq]
  split
  · omega
  · split <;> omega
theorem lt_not (x y : Cs) : ltOf cfC x y = false ↔ ¬ ltC x.1 y.1 := by
  rw [← lt_iff]; simp
theorem swoC : Go.Sort.SWO (ltOf cfC) where
  irrefl x := by rw [lt_not]; unfold ltC; omega
  trans x y z h1 h2 := by rw [lt_iff] at *; unfold ltC at *; omega
  ntrans x y z h1 h2 := by rw [lt_not] at *; unfold ltC at *; omega
set_option maxHeartbeats 1000000 in
theorem or_w (b : Nat) (d : Nat → Int) (w : World) (HV : Hid (∀ k, k < 3 → w.cell? ⟨b, k, none⟩ = some (.int .i64 (d k)))) :
    Calls Try.prog 102 #[.slice (some ⟨b, 0, none⟩) 3 3] w fun e w' => e = .returned (.int .i64 (if d 0 ≠ 0 then d 0 else if d 1 ≠ 0 then d 1 else d 2)) ∧ w' = w := by
  obtain ⟨R, hR⟩ : ∃ R, R = if d 0 ≠ 0 then d 0 else if d 1 ≠ 0 then d 1 else d 2 := ⟨_, rfl⟩
  rw [← hR]
  have STOP : Hid (∀ k, k < 3 → (∀ j, j < k → d j = 0) → d k ≠ 0 → R = d k) := Lib.hid fun k hk h0 h => by
    rw [hR]
    rcases (show k = 0 ∨ k = 1 ∨ k = 2 from by omega) with rfl | rfl | rfl
    · rw [if_pos h]
    · rw [if_neg (fun q => q (h0 0 (by omega))), if_pos h]
    · rw [if_neg (fun q => q (h0 0 (by omega))), if_neg (fun q => q (h0 1 (by omega)))]
  have END : Hid ((∀ j, j < 3 → d j = 0) → R = 0) := Lib.hid fun h => by
    rw [hR, if_neg (fun q => q (h 0 (by omega))), if_neg (fun q => q (h 1 (by omega)))]; exact h 2 (by omega)
  clear hR
  go_enter Try.func102, Try.ntmps102
  go_wp2_with fail
  go_loopw [8] (fun s wr => ∃ k : Nat, k ≤ 3 ∧ s = .int .i64 k ∧ (∀ j, j < k → d j = 0) ∧ wr = w) (fun s _ => 3 - (intOf s).toNat)
  case atStart => exact ⟨0, Nat.zero_le _, rfl, fun j hj => absurd hj (Nat.not_lt_zero j), rfl⟩
  case round =>
    obtain ⟨k, hk, rfl, hno, hw⟩ := hrel
    have NO := Lib.hid hno; have HW := Lib.hid hw; clear hno
    subst hw
    by_cases hlt : k < 3
    · have hl : (k : Int) < 3 := by omega
      have c := HV.out k hlt
      by_cases hz : d k = 0
      · have NX : Hid (∀ j, j < k + 1 → d j = 0) := Lib.hid fun j hj => by
          rcases Nat.lt_or_ge j k with h | h
          · exact NO.out j h
          · rw [show j = k by omega]; exact hz
        rw [hz] at c
        clear hz
        go_wp2_with fail
        go_roundw
        case rel => exact ⟨k + 1, by omega, by go_num, NX.out, by first | rfl | trivial⟩
        case measure => simp [intOf]; omega
      · have hR := Lib.hid (STOP.out k hlt NO.out hz)
        have hz1 : (d k != 0) = true := by simpa using hz
        have hz2 : (d k == 0) = false := by simpa using hz
        go_wp2_with fail
        all_goals (go_ret; exact ⟨by rw [hR.out]; rfl, rfl⟩)
    · have hR := Lib.hid (END.out fun j hj => NO.out j (by omega))
      have hl : ¬ (k : Int) < 3 := by omega
      go_wp2_with fail
      go_ret
      exact ⟨by rw [hR.out]; rfl, rfl⟩
set_option maxHeartbeats 1000000 in
/-- The closure, in whatever world: some blocks are laid. -/
theorem closC (x y : Cs) (W : World) : Calls Try.prog 101 #[.agg #[.int .i64 x.1.A, .int .i64 x.1.B, .int .i64 x.1.F, .int .i64 x.1.T], .agg #[.int .i64 y.1.A, .int .i64 y.1.B, .int .i64 y.1.F, .int .i64 y.1.T]] W fun e w' => e = .returned (.int .i64 (cfC x y)) ∧ ∃ q os', w' = Go.Sort.grow (W.drewN q) os' := by
  obtain ⟨⟨a1, b1, f1, t1⟩, ⟨ha1, ha2⟩, ⟨hb1, hb2⟩, hf1, hf2⟩ := x
  obtain ⟨⟨a2, b2, f2, t2⟩, ⟨ha3, ha4⟩, ⟨hb3, hb4⟩, hf3, hf4⟩ := y
  unfold cfC
  simp only at ha1 ha2 hb1 hb2 hf1 hf2 ha3 ha4 hb3 hb4 hf3 hf4 ⊢
  obtain ⟨R, hR⟩ : ∃ R, R = if f1 - f2 ≠ 0 then f1 - f2 else if a1 - a2 ≠ 0 then a1 - a2 else b1 - b2 := ⟨_, rfl⟩
  rw [← hR]
  have C3 : ∀ k, k < 3 → (((W.alloc (.cells #[.int .i64 a1, .int .i64 b1, .int .i64 f1, .int .i64 t1] 104)).alloc (.cells #[.int .i64 a2, .int .i64 b2, .int .i64 f2, .int .i64 t2] 104)).alloc (.cells #[.int .i64 (f1 - f2), .int .i64 (a1 - a2), .int .i64 (b1 - b2)] 3)).cell? ⟨W.heap.size + 1 + 1, k, none⟩ = some (.int .i64 ((fun k => if k = 0 then f1 - f2 else if k = 1 then a1 - a2 else b1 - b2) k)) := fun k hk => by
    have q : ∀ (w : World) (k : Nat), k < 3 → (w.alloc (.cells #[.int .i64 (f1 - f2), .int .i64 (a1 - a2), .int .i64 (b1 - b2)] 3)).cell? ⟨w.heap.size, k, none⟩ = some (.int .i64 ((fun k => if k = 0 then f1 - f2 else if k = 1 then a1 - a2 else b1 - b2) k)) := fun w k hk => by
      rcases (show k = 0 ∨ k = 1 ∨ k = 2 from by omega) with rfl | rfl | rfl <;> simp
    have c := q ((W.alloc (.cells #[.int .i64 a1, .int .i64 b1, .int .i64 f1, .int .i64 t1] 104)).alloc (.cells #[.int .i64 a2, .int .i64 b2, .int .i64 f2, .int .i64 t2] 104)) k hk
    rw [World.size_alloc, World.size_alloc] at c
    exact c
  have O4 : Hid (Calls Try.prog 102 #[.slice (some ⟨W.heap.size + 1 + 1, 0, none⟩) 3 3] (((W.alloc (.cells #[.int .i64 a1, .int .i64 b1, .int .i64 f1, .int .i64 t1] 104)).alloc (.cells #[.int .i64 a2, .int .i64 b2, .int .i64 f2, .int .i64 t2] 104)).alloc (.cells #[.int .i64 (f1 - f2), .int .i64 (a1 - a2), .int .i64 (b1 - b2)] 3)) fun e w' => e = .returned (.int .i64 R) ∧ w' = (((W.alloc (.cells #[.int .i64 a1, .int .i64 b1, .int .i64 f1, .int .i64 t1] 104)).alloc (.cells #[.int .i64 a2, .int .i64 b2, .int .i64 f2, .int .i64 t2] 104)).alloc (.cells #[.int .i64 (f1 - f2), .int .i64 (a1 - a2), .int .i64 (b1 - b2)] 3))) := Lib.hid (by
    have q := or_w (W.heap.size + 1 + 1) (fun k => if k = 0 then f1 - f2 else if k = 1 then a1 - a2 else b1 - b2) _ (Lib.hid C3)
    rw [hR]; exact q)
  clear C3 hR
  go_enter Try.func101, Try.ntmps101
  go_wp2_with fail
  (with_reducible refine O4.out.mono ?_); rintro e w1 ⟨rfl, rfl⟩
  go_wp2_with fail
  go_ret
  exact ⟨rfl, 0, _, by rw [Go.Sort.alloc_eq_grow, Go.Sort.alloc_eq_grow, Go.Sort.alloc_eq_grow, Go.Sort.grow_grow, Go.Sort.grow_grow]; rfl⟩
theorem cmpLays (blk off size : Nat) (w : World) : CmpLays Try.prog 101 #[] encC 4 cfC blk off size w := fun _ _ _ _ x y => closC x y _
/-- Clashes that can be read. -/
def CLV (w : World) (v : Value) (L : List Ck) : Prop :=
  (L = [] ∧ Chart.Nil0 v) ∨ (0 < L.length ∧ ∃ b cap, v = .slice (some ⟨b, 0, none⟩) L.length cap ∧ L.length ≤ cap ∧ cap ≤ maxLen ∧ ∀ k (h : k < L.length),
    w.cell? ⟨b, k * 4, none⟩ = some (.int .i64 L[k].A) ∧ w.cell? ⟨b, k * 4 + 1, none⟩ = some (.int .i64 L[k].B) ∧ w.cell? ⟨b, k * 4 + 2, none⟩ = some (.int .i64 L[k].F) ∧ w.cell? ⟨b, k * 4 + 3, none⟩ = some (.int .i64 L[k].T))
theorem clv_keep {W w1 : World} (hb : Below W.heap.size W w1) {v : Value} {L : List Ck} (h : CLV W v L) : CLV w1 v L := by
  rcases h with h | ⟨h0, b, cap, hv, h1, h2, h3⟩
  · exact Or.inl h
  · exact Or.inr ⟨h0, b, cap, hv, h1, h2, fun k hk => ⟨keep hb (h3 k hk).1, keep hb (h3 k hk).2.1, keep hb (h3 k hk).2.2.1, keep hb (h3 k hk).2.2.2⟩⟩
/-- The cells of a list of clashes. -/
def ckf (L : List Ck) (i j : Nat) : Int := if j = 0 then (L.getD i ⟨0, 0, 0, 0⟩).A else if j = 1 then (L.getD i ⟨0, 0, 0, 0⟩).B else if j = 2 then (L.getD i ⟨0, 0, 0, 0⟩).F else (L.getD i ⟨0, 0, 0, 0⟩).T
/-- No later clash is ahead of an earlier one. -/
def srt (L : List Ck) : Prop := ∀ i j (hi : i < L.length) (hj : j < L.length), i < j → ¬ ltC L[j] L[i]
theorem below_sort {α : Type} [Inhabited α] {enc : α → List Value} {k N : Nat} {w0 w : World} {g q : Nat} {d : Array α} {os : Array Obj} (h : Below N w0 w) (hN : N ≤ w0.heap.size) (hg : N ≤ g) : Below N w0 (sortWorldK enc k w g 0 q d os) := by
  have hp : Below N w0 (Go.Sort.putRow id (Go.Sort.ahead w q) g 0 (Go.Sort.flatK enc k d)) :=
    ⟨h.os, h.tape, h.output, by simpa [Go.Sort.putRow, Go.Sort.mapBlock, Go.Sort.ahead] using h.size, fun k hk => by
      rw [← h.block k hk]
      simp [Go.Sort.putRow, Go.Sort.mapBlock, Go.Sort.ahead, Array.getElem?_modify, show g ≠ k by omega]⟩
  refine ⟨hp.os, hp.tape, hp.output, ?_, fun k hk => ?_⟩
  · show w0.heap.size ≤ (Go.Sort.grow _ os).heap.size
    rw [Go.Sort.size_grow]; exact Nat.le_trans hp.size (Nat.le_add_right _ _)
  · rw [← hp.block k hk]
    exact Go.Sort.heap_grow_old _ _ (Nat.lt_of_lt_of_le hk (Nat.le_trans hN hp.size))
theorem isAggC : ∀ w, (isAgg 104).run Try.prog w = .ok true w := Try.isAgg104
theorem sizeC : ∀ w, (Go.sizeOf 104).run Try.prog w = .ok 4 w := Try.sizeOf104
theorem enc_one (x : Cs) : ∀ v ∈ encC x, v.oneCell' = true := by
  intro v hv
  simp only [encC, List.mem_cons, List.not_mem_nil, or_false] at hv
  rcases hv with rfl | rfl | rfl | rfl <;> rfl
theorem flat_get (d : Array Cs) (k : Nat) (h : k < d.size) : (Go.Sort.flatK encC 4 d)[k * 4]! = .int .i64 d[k].1.A ∧ (Go.Sort.flatK encC 4 d)[k * 4 + 1]! = .int .i64 d[k].1.B ∧ (Go.Sort.flatK encC 4 d)[k * 4 + 2]! = .int .i64 d[k].1.F ∧ (Go.Sort.flatK encC 4 d)[k * 4 + 3]! = .int .i64 d[k].1.T := by
  have e : d[k]! = d[k] := getElem!_pos d k h
  refine ⟨?_, ?_, ?_, ?_⟩
  · rw [Go.Sort.get_flatK encC 4 d _ (by omega), show k * 4 / 4 = k by omega, show k * 4 % 4 = 0 by omega, e]; rfl
  · rw [Go.Sort.get_flatK encC 4 d _ (by omega), show (k * 4 + 1) / 4 = k by omega, show (k * 4 + 1) % 4 = 1 by omega, e]; rfl
  · rw [Go.Sort.get_flatK encC 4 d _ (by omega), show (k * 4 + 2) / 4 = k by omega, show (k * 4 + 2) % 4 = 2 by omega, e]; rfl
  · rw [Go.Sort.get_flatK encC 4 d _ (by omega), show (k * 4 + 3) / 4 = k by omega, show (k * 4 + 3) % 4 = 3 by omega, e]; rfl
set_option maxHeartbeats 1000000 in
/-- slices.SortFunc at a row of clashes of the call's own. -/
theorem sortC {w : World} {base : Nat} {v : Value} {L : List Ck} (ho : Own w base 104 4 v L.length (ckf L)) (hL : ∀ c ∈ L, ckOk c) (hn : L.length ≤ 300) :
    Calls Try.prog 100 #[v, .func (.func 101) #[] #[]] w fun e w' => e = .returned (.tuple #[]) ∧
      (∃ L', L'.Perm L ∧ srt L' ∧ CLV w' v L') ∧ ∀ N w0, N ≤ base → N ≤ w0.heap.size → Below N w0 w → Below N w0 w' := by
  rcases Nat.eq_zero_or_pos L.length with h0 | h0
  · obtain rfl : L = [] := List.eq_nil_of_length_eq_zero h0
    have hq : ∃ A cap, v = .slice A 0 cap ∧ Chart.Nil0 v := by
      rcases ho.2 with ⟨hv, -⟩ | ⟨g, cap, cur, hv, -, -, -, hcm, -⟩
      · exact ⟨none, 0, hv, Or.inl hv⟩
      · exact ⟨_, cap, hv, Or.inr ⟨_, _, hv, hcm⟩⟩
    obtain ⟨A, cap, rfl, hnil⟩ := hq
    have hcon := AnyF.slices_SortFunc_none clashSort A cap (.func (.func 101) #[] #[]) w
    change Calls Try.prog 100 _ _ _ at hcon
    refine hcon.mono ?_
    rintro e w' ⟨rfl, rfl⟩
    exact ⟨rfl, ⟨[], List.Perm.refl _, fun i j hi => absurd hi (Nat.not_lt_zero i), Or.inl ⟨rfl, hnil⟩⟩, fun N w0 _ _ h => h⟩
  · obtain ⟨g, cap, rfl, hb, hg, h1, h2, hr⟩ := own_row ho h0
    have eg : ∀ args w, (callFunc 101 args).run Try.prog w = .ok (.enter 101 args) w := enters_of Try.func101 (by kernel_rfl) rfl
    obtain ⟨d, hd⟩ : ∃ d : Array Cs, d = (L.attach.map fun c => (⟨c.1, hL c.1 c.2⟩ : Cs)).toArray := ⟨_, rfl⟩
    have hds : d.size = L.length := by rw [hd]; simp
    have hdg : ∀ k (h : k < d.size), d[k].1 = L[k]'(by omega) := fun k h => by subst hd; simp
    have hH : Go.Sort.HoldsK encC 4 w g 0 d := by
      intro j hj
      rw [Go.Sort.size_flatK] at hj
      have hk : j / 4 < L.length := by omega
      have hkd : j / 4 < d.size := by omega
      have hm := Nat.mod_lt j (show 0 < 4 by decide)
      have c := hr.cell (j / 4) hk (j % 4) hm
      have f := hr.free j
      rw [show j / 4 * 4 + j % 4 = j by omega] at c
      rw [Nat.zero_add]
      refine ⟨?_, f⟩
      rw [c, Go.Sort.get_flatK encC 4 d j hj, getElem!_pos d (j / 4) hkd]
      have e := hdg (j / 4) hkd
      have eL : L.getD (j / 4) ⟨0, 0, 0, 0⟩ = L[j / 4] := by rw [List.getD_eq_getElem?_getD, List.getElem?_eq_getElem hk]; rfl
      unfold ckf encC
      rw [e, eL]
      rcases (show j % 4 = 0 ∨ j % 4 = 1 ∨ j % 4 = 2 ∨ j % 4 = 3 by omega) with h | h | h | h <;> rw [h] <;> rfl
    have hcon := AnyQ.slices_SortFunc clashSort 4 isAggC sizeC encC (fun _ => rfl) enc_one cfC swoC 101 #[] g 0 cap d w eg (cmpLays g 0 d.size w) hH hg (by omega)
    change Calls Try.prog 100 _ _ _ at hcon
    rw [hds] at hcon
    refine hcon.mono ?_
    rintro e w' ⟨rfl, d', n, os, hp, hs, rfl⟩
    obtain ⟨hz, -, hpm⟩ := hp
    have hl : (d'.toList.map fun c => c.1).length = L.length := by simp [hz, hds]
    have hget : ∀ k (h : k < (d'.toList.map fun c => c.1).length) (h2 : k < d'.size), (d'.toList.map fun c => c.1)[k] = d'[k].1 := fun k h h2 => by simp
    refine ⟨rfl, ⟨d'.toList.map fun c => c.1, ?_, ?_, ?_⟩, fun N w0 h3 h4 h5 => below_sort h5 h4 (Nat.le_trans h3 hb)⟩
    · have e1 : d'.extract 0 L.length = d' := by rw [← hds, ← hz]; simp
      have e2 : d.extract 0 L.length = d := by rw [← hds]; simp
      rw [e1, e2] at hpm
      have e3 : d.toList.map (fun c => c.1) = L := by subst hd; simp
      rw [← e3]
      exact hpm.map _
    · intro i j hi hj hij
      have hi2 : i < d'.size := by omega
      have hj2 : j < d'.size := by omega
      have q := hs i j (Nat.zero_le _) hij (by omega)
      rw [lt_not, getElem!_pos d' j hj2, getElem!_pos d' i hi2] at q
      rw [hget j hj hj2, hget i hi hi2]; exact q
    · have hH2 := holdsK_sortWorldK_c encC 4 w g 0 d d' n os hH hg hz
      refine Or.inr ⟨by omega, g, cap, by rw [hl], by omega, h2, fun k hk => ?_⟩
      have hk2 : k < d'.size := by omega
      have fg := flat_get d' k hk2
      rw [hget k hk hk2]
      have hz2 : (Go.Sort.flatK encC 4 d').size = d'.size * 4 := Go.Sort.size_flatK _ _ _
      have q0 := (hH2 (k * 4) (by omega)).1; have q1 := (hH2 (k * 4 + 1) (by omega)).1; have q2 := (hH2 (k * 4 + 2) (by omega)).1; have q3 := (hH2 (k * 4 + 3) (by omega)).1
      rw [Nat.zero_add] at q0 q1 q2 q3
      exact ⟨by rw [q0, fg.1]; rfl, by rw [q1, fg.2.1]; rfl, by rw [q2, fg.2.2.1]; rfl, by rw [q3, fg.2.2.2]; rfl⟩
end Probe
end Go.Proofs.Yteaccanhahmclaa
