/- A decimal of strconv's in memory; trim. -/
import Derived.Test.YtoafljgcmloilaaDoorDraw
import Derived.Test.YtoafljgcmloilaaDoorRowG
import Derived.Test.YtoafljgcmloilaaDoorShapes
namespace Go.Proofs.YtoafljgcmloilaaDoor
open Go.RowKit
namespace Dec
open Kit
/-- A decimal in block b: its digits, how many there are, where the point stands. -/
structure DV (w : World) (b : Nat) (d : Nat → Nat) (n : Nat) (p : Int) : Prop where
  cd : ∀ k, k < 800 → w.cell? ⟨b, k, none⟩ = some (.int .u8 (d k : Nat))
  cn : w.cell? ⟨b, 800, none⟩ = some (.int .i64 (n : Nat))
  cp : w.cell? ⟨b, 801, none⟩ = some (.int .i64 p)
  fr : ∀ k, w.frozen? ⟨b, k, none⟩ = false
theorem DV.lt {w : World} {b : Nat} {d : Nat → Nat} {n : Nat} {p : Int} (h : DV w b d n p) : b < w.heap.size := lt_of_cell h.cn
theorem dv_keep {W w1 : World} (hb : Below W.heap.size W w1) {b : Nat} {d : Nat → Nat} {n : Nat} {p : Int} (h : DV W b d n p) : DV w1 b d n p :=
  ⟨fun k hk => keep hb (h.cd k hk), keep hb h.cn, keep hb h.cp, fun k => (World.frozen?_of_block (hb.block b h.lt)).trans (h.fr k)⟩
theorem frz_set (w : World) (a : Addr) (u : Value) (c : Addr) : (w.setCell a u).frozen? c = w.frozen? c := by
  simp
theorem b_set' {N : Nat} {w W : World} (h : Below N w W) {p : Addr} (hp : N ≤ p.block) (u : Value) : Below N w (W.setCell p u) := h.setCell hp u
theorem dv_n {w : World} {b : Nat} {d : Nat → Nat} {n : Nat} {p : Int} (h : DV w b d n p) (m : Nat) : DV (w.setCell ⟨b, 800, none⟩ (.int .i64 (m : Nat))) b d m p :=
  ⟨fun k hk => by rw [World.cell?_setCell_other _ _ _ _ (by intro e; cases e; omega)]; exact h.cd k hk, World.cell?_setCell_same' _ _ _ (by rw [h.cn]; rfl), by rw [World.cell?_setCell_other _ _ _ _ (by intro e; cases e)]; exact h.cp, fun k => by rw [frz_set]; exact h.fr k⟩
theorem dv_p {w : World} {b : Nat} {d : Nat → Nat} {n : Nat} {p : Int} (h : DV w b d n p) (q : Int) : DV (w.setCell ⟨b, 801, none⟩ (.int .i64 q)) b d n q :=
  ⟨fun k hk => by rw [World.cell?_setCell_other _ _ _ _ (by intro e; cases e; omega)]; exact h.cd k hk, by rw [World.cell?_setCell_other _ _ _ _ (by intro e; cases e)]; exact h.cn, World.cell?_setCell_same' _ _ _ (by rw [h.cp]; rfl), fun k => by rw [frz_set]; exact h.fr k⟩
/-- One digit written. -/
def upd (d : Nat → Nat) (i x : Nat) : Nat → Nat := fun k => if k = i then x else d k
theorem dv_d {w : World} {b : Nat} {d : Nat → Nat} {n : Nat} {p : Int} (h : DV w b d n p) {i : Nat} (hi : i < 800) (x : Nat) : DV (w.setCell ⟨b, i, none⟩ (.int .u8 (x : Nat))) b (upd d i x) n p :=
  ⟨fun k hk => by
    unfold upd
    by_cases e : k = i
    · subst e; rw [if_pos rfl]; exact World.cell?_setCell_same' _ _ _ (by rw [h.cd k hk]; rfl)
    · rw [if_neg e, World.cell?_setCell_other _ _ _ _ (by intro q; cases q; exact e rfl)]; exact h.cd k hk,
   by rw [World.cell?_setCell_other _ _ _ _ (by intro q; cases q; omega)]; exact h.cn, by rw [World.cell?_setCell_other _ _ _ _ (by intro q; cases q; omega)]; exact h.cp, fun k => by rw [frz_set]; exact h.fr k⟩
def ndAt (w : World) (b : Nat) : Nat := match w.cell? ⟨b, 800, none⟩ with
  | some (.int _ x) => x.toNat
  | _ => 0
theorem nd_at {w : World} {b : Nat} {d : Nat → Nat} {n : Nat} {p : Int} (h : DV w b d n p) : ndAt w b = n := by unfold ndAt; rw [h.cn]; simp
/-- How many digits are left when the zeros at the end are gone. -/
def trimN (d : Nat → Nat) : Nat → Nat
  | 0 => 0
  | n + 1 => if d n = 48 then trimN d n else n + 1
theorem trimN_le (d : Nat → Nat) : ∀ n, trimN d n ≤ n
  | 0 => Nat.le_refl 0
  | n + 1 => by unfold trimN; split; exact Nat.le_trans (trimN_le d n) (Nat.le_succ n); exact Nat.le_refl _
/-- The point of a decimal of m digits. -/
def pnt (m : Nat) (p : Int) : Int := if m = 0 then 0 else p
set_option maxRecDepth 100000 in
set_option maxHeartbeats 4000000 in
theorem trim_w (b : Nat) (d : Nat → Nat) (n : Nat) (p : Int) (w : World) (hn : n ≤ 800) (V0 : Hid (DV w b d n p)) :
    Calls Tryd.prog 83 #[.pointer (some ⟨b, 0, none⟩)] w fun e w' => e = .returned (.tuple #[]) ∧ DV w' b d (trimN d n) (pnt (trimN d n) p) ∧ Below b w w' := by
  go_enter Tryd.func83, Tryd.ntmps83
  go_wp2_with fail
  go_loopw [] (fun wr => ∃ m, m ≤ n ∧ trimN d m = trimN d n ∧ DV wr b d m p ∧ Below b w wr) (fun wr => ndAt wr b)
  case atStart => exact ⟨n, Nat.le_refl _, rfl, V0.out, Below.refl _ _⟩
  case round =>
    obtain ⟨m, hm, ht, hv, hb⟩ := hrel
    have V := Lib.hid hv; have B := Lib.hid hb; have T := Lib.hid ht
    clear hv hb ht
    rcases Nat.eq_zero_or_pos m with rfl | hm0
    · have h0 : ¬ (0 : Int) < 0 := by omega
      go_wp2_with fail
      refine d_region (by kernel_rfl) (by kernel_rfl) ?_
      repeat
        first
          | (refine d_plain (by with_reducible rfl) ?_; apply Exists.intro; refine ⟨fun wq hc hq => ?_, ?_⟩)
          | (refine d_on (by with_reducible rfl) (by rfl) (by with_reducible rfl) ?_; apply Exists.intro; refine ⟨fun wq hc hq => ?_, ?_⟩)
          | (refine d_off (by with_reducible rfl) (by rfl) (by rfl) ?_)
          | (refine d_void (by with_reducible rfl) (by rfl) ?_)
        try any_goals
          (have x0 := keep (cls hq) V.out.cn; clear hc
           go_simp
           first
             | rfl)
        simp only [Act.put, List.setIfInBounds_toArray, List.set_cons_zero, List.set_cons_succ]
      refine d_nil ?_
      intro w1 hb1
      have V1 := Lib.hid (dv_keep hb1 V.out); have B1 := Lib.hid (B.out.trans (hb1.mono (Nat.le_of_lt V.out.lt)))
      clear hb1
      have a0 := V1.out.cn; have a1 := V1.out.fr 800; have a2 := V1.out.fr 801; have a3 := V1.out.cp
      have TT : trimN d n = 0 := by rw [← T.out]; rfl
      go_wp2_with fail
      refine ⟨rfl, .tuple #[], results_none rfl _ _ _, rfl, ?_, b_set' B1.out (Nat.le_refl _) _⟩
      rw [TT]
      exact dv_p V1.out 0
    · obtain ⟨j, hj⟩ : ∃ j, m = j + 1 := ⟨m - 1, by omega⟩
      have HJ := Lib.hid hj
      have hj8 : j < 800 := by omega
      have hj8' : (j : Int) < 800 := by omega
      have hl0 : (0 : Int) < (m : Int) := by omega
      have hj1 : (m : Int) - 1 = (j : Int) := by omega
      have hwr : IntKind.i64.wrap (j : Int) = (j : Int) := IntWalk.i64_in _ (by omega)
      have hwr2 : IntKind.i64.wrap ((m : Int) - 1) = (j : Int) := by rw [hj1, hwr]
      clear hj
      by_cases he : d j = 48
      · have he1 : ((d j : Int) == 48) = true := by simp; omega
        go_wp2_with fail
        refine d_region (by kernel_rfl) (by kernel_rfl) ?_
        repeat
          first
            | (refine d_plain (by with_reducible rfl) ?_; apply Exists.intro; refine ⟨fun wq hc hq => ?_, ?_⟩)
            | (refine d_on (by with_reducible rfl) (by rfl) (by with_reducible rfl) ?_; apply Exists.intro; refine ⟨fun wq hc hq => ?_, ?_⟩)
            | (refine d_off (by with_reducible rfl) (by rfl) (by rfl) ?_)
            | (refine d_void (by with_reducible rfl) (by rfl) ?_)
          try any_goals
            (have x0 := keep (cls hq) V.out.cn; have x1 := keep (cls hq) (V.out.cd j hj8); clear hc
             go_simp
             first
               | rfl)
          simp only [Act.put, List.setIfInBounds_toArray, List.set_cons_zero, List.set_cons_succ]
        refine d_nil ?_
        intro w1 hb1
        have V1 := Lib.hid (dv_keep hb1 V.out); have B1 := Lib.hid (B.out.trans (hb1.mono (Nat.le_of_lt V.out.lt)))
        clear hb1
        have a0 := V1.out.cn; have a1 := V1.out.fr 800; have a2 := V1.out.fr 801; have a3 := V1.out.cp
        go_wp2_with fail
        go_roundw
        case rel => exact ⟨j, by have := HJ.out; omega, by rw [← T.out, HJ.out]; simp [trimN, he], dv_n V1.out j, b_set' B1.out (Nat.le_refl _) _⟩
        case measure => rw [nd_at V.out, nd_at (dv_n V1.out j)]; have := HJ.out; omega
      · have he1 : ((d j : Int) == 48) = false := by simp; omega
        go_wp2_with fail
        refine d_region (by kernel_rfl) (by kernel_rfl) ?_
        repeat
          first
            | (refine d_plain (by with_reducible rfl) ?_; apply Exists.intro; refine ⟨fun wq hc hq => ?_, ?_⟩)
            | (refine d_on (by with_reducible rfl) (by rfl) (by with_reducible rfl) ?_; apply Exists.intro; refine ⟨fun wq hc hq => ?_, ?_⟩)
            | (refine d_off (by with_reducible rfl) (by rfl) (by rfl) ?_)
            | (refine d_void (by with_reducible rfl) (by rfl) ?_)
          try any_goals
            (have x0 := keep (cls hq) V.out.cn; have x1 := keep (cls hq) (V.out.cd j hj8); clear hc
             go_simp
             first
               | rfl)
          simp only [Act.put, List.setIfInBounds_toArray, List.set_cons_zero, List.set_cons_succ]
        refine d_nil ?_
        intro w1 hb1
        have V1 := Lib.hid (dv_keep hb1 V.out); have B1 := Lib.hid (B.out.trans (hb1.mono (Nat.le_of_lt V.out.lt)))
        clear hb1
        have a0 := V1.out.cn; have a1 := V1.out.fr 800; have a2 := V1.out.fr 801; have a3 := V1.out.cp
        have TT : Hid (trimN d n = m) := Lib.hid (by rw [← T.out, HJ.out]; simp [trimN, he])
        have hmz : ((m : Int) == 0) = false := by simp; omega
        go_wp2_with fail
        refine ⟨rfl, .tuple #[], results_none rfl _ _ _, rfl, ?_, B1.out⟩
        rw [TT.out]
        unfold pnt
        rw [if_neg (by omega)]
        exact V1.out
end Dec
end Go.Proofs.YtoafljgcmloilaaDoor
