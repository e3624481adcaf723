/- strconv's Assign at a new decimal. -/
import Derived.Test.YtoafljgcmloilaaDoorDecP
import Derived.Test.YtoafljgcmloilaaDoorTail
namespace Go.Proofs.YtoafljgcmloilaaDoor
open Go.RowKit
namespace Dec
open Kit
/-- So many digits has a number. -/
structure Nd (v N : Nat) : Prop where
  some : ∀ a, a < N → v / 10 ^ a ≠ 0
  zero : v / 10 ^ N = 0
theorem Nd.same {v N N' : Nat} (h : Nd v N) (h' : Nd v N') : N = N' := by
  rcases Nat.lt_trichotomy N N' with g | g | g
  · exact absurd h.zero (h'.some N g)
  · exact g
  · exact absurd h'.zero (h.some N' g)
theorem div_next (v i : Nat) : v / 10 ^ i / 10 = v / 10 ^ (i + 1) := by rw [Nat.div_div_eq_div_mul, Nat.pow_succ]
theorem nd_most {v i : Nat} (hv : v < 18446744073709551616) (h : v / 10 ^ i ≠ 0) : i ≤ 19 := by
  rcases Nat.lt_or_ge 19 i with g | g
  · exfalso
    apply h
    have q : 10 ^ 20 ≤ 10 ^ i := Nat.pow_le_pow_right (by decide) (by omega)
    have q4 : (10 : Nat) ^ 20 = 100000000000000000000 := by decide
    exact Nat.div_eq_of_lt (by omega)
  · exact g
/-- The buffer: the last i digits, the last one first. -/
def bfd (v i : Nat) : Nat → Nat := fun a => if a < i then 48 + v / 10 ^ a % 10 else 0
/-- The digits, the first j ones being written. -/
def dgd (v N j : Nat) : Nat → Nat := fun a => if a < j then 48 + v / 10 ^ (N - 1 - a) % 10 else 0
theorem bfd_next {v i : Nat} : upd (bfd v i) i (48 + v / 10 ^ i % 10) = bfd v (i + 1) := by
  funext j
  unfold upd bfd
  by_cases e : j = i
  · subst e; rw [if_pos rfl, if_pos (by omega)]
  · rw [if_neg e]
    by_cases g : j < i
    · rw [if_pos g, if_pos (by omega)]
    · rw [if_neg g, if_neg (by omega)]
theorem dgd_next {v N i : Nat} : upd (dgd v N i) i (48 + v / 10 ^ (N - 1 - i) % 10) = dgd v N (i + 1) := by
  funext j
  unfold upd dgd
  by_cases e : j = i
  · subst e; rw [if_pos rfl, if_pos (by omega)]
  · rw [if_neg e]
    by_cases g : j < i
    · rw [if_pos g, if_pos (by omega)]
    · rw [if_neg g, if_neg (by omega)]
theorem trimN_pos {d : Nat → Nat} (h : d 0 ≠ 48) : ∀ n, 1 ≤ n → 1 ≤ trimN d n
  | 0, h0 => h0
  | n + 1, _ => by
    unfold trimN
    split
    · rename_i e
      rcases Nat.eq_zero_or_pos n with q | q
      · subst q; exact absurd e h
      · exact trimN_pos h n q
    · omega
/-- The digits of a number, zeros at the end left out. -/
theorem dgs_of {v N : Nat} (hv : v < 18446744073709551616) (h0 : v ≠ 0) (h : Nd v N) : Dgs (dgd v N N) (trimN (dgd v N N) N) ∧ 1 ≤ N ∧ N ≤ 20 := by
  have h1 : 1 ≤ N := by
    rcases Nat.eq_zero_or_pos N with e | e
    · subst e; have := h.zero; rw [Nat.pow_zero, Nat.div_one] at this; exact absurd this h0
    · exact e
  have h20 : N ≤ 20 := by have := nd_most hv (h.some (N - 1) (by omega)); omega
  have hd0 : dgd v N N 0 = 48 + v / 10 ^ (N - 1) := by
    unfold dgd
    rw [if_pos (by omega), Nat.sub_zero]
    have q := div_next v (N - 1)
    rw [show N - 1 + 1 = N by omega, h.zero] at q
    rw [Nat.mod_eq_of_lt (by omega)]
  have hs := h.some (N - 1) (by omega)
  have h49 : 49 ≤ dgd v N N 0 := by rw [hd0]; have := Nat.pos_of_ne_zero hs; omega
  refine ⟨⟨trimN_pos (by omega) N h1, Nat.le_trans (trimN_le _ _) h20, h49, fun r hr => ?_⟩, h1, h20⟩
  have := trimN_le (dgd v N N) N
  unfold dgd
  rw [if_pos (by omega)]
  have := Nat.mod_lt (v / 10 ^ (N - 1 - r)) (show 0 < 10 by decide)
  omega
/-- 24 bytes. -/
structure BV (w : World) (b : Nat) (f : Nat → Nat) : Prop where
  cell : ∀ a, a < 24 → w.cell? ⟨b, a, none⟩ = some (.int .u8 (f a : Nat))
  free : ∀ a, w.frozen? ⟨b, a, none⟩ = false
theorem bv_new (w : World) (t : TypeId) : BV (w.alloc (.cells #[.int .u8 0, .int .u8 0, .int .u8 0, .int .u8 0, .int .u8 0, .int .u8 0, .int .u8 0, .int .u8 0, .int .u8 0, .int .u8 0, .int .u8 0, .int .u8 0, .int .u8 0, .int .u8 0, .int .u8 0, .int .u8 0, .int .u8 0, .int .u8 0, .int .u8 0, .int .u8 0, .int .u8 0, .int .u8 0, .int .u8 0, .int .u8 0] t)) w.heap.size (fun _ => 0) :=
  ⟨fun a ha => by
    have : a = 0 ∨ a = 1 ∨ a = 2 ∨ a = 3 ∨ a = 4 ∨ a = 5 ∨ a = 6 ∨ a = 7 ∨ a = 8 ∨ a = 9 ∨ a = 10 ∨ a = 11 ∨ a = 12 ∨ a = 13 ∨ a = 14 ∨ a = 15 ∨ a = 16 ∨ a = 17 ∨ a = 18 ∨ a = 19 ∨ a = 20 ∨ a = 21 ∨ a = 22 ∨ a = 23 := by omega
    rcases this with rfl | rfl | rfl | rfl | rfl | rfl | rfl | rfl | rfl | rfl | rfl | rfl | rfl | rfl | rfl | rfl | rfl | rfl | rfl | rfl | rfl | rfl | rfl | rfl <;> simp, fun a => by simp⟩
theorem bv_keep {W w1 : World} (hb : Below W.heap.size W w1) {b : Nat} {f : Nat → Nat} (h : BV W b f) : BV w1 b f :=
  ⟨fun a ha => keep hb (h.cell a ha), fun a => (World.frozen?_of_block (hb.block b (lt_of_cell (h.cell 0 (by decide))))).trans (h.free a)⟩
theorem bv_set {w : World} {b : Nat} {f : Nat → Nat} (h : BV w b f) {i : Nat} (x : Nat) : BV (w.setCell ⟨b, i, none⟩ (.int .u8 (x : Nat))) b (upd f i x) :=
  ⟨fun k hk => by
    unfold upd
    by_cases e : k = i
    · subst e; rw [if_pos rfl]; exact World.cell?_setCell_same' _ _ _ (by rw [h.cell k hk]; rfl)
    · rw [if_neg e, World.cell?_setCell_other _ _ _ _ (by intro q; cases q; exact e rfl)]; exact h.cell k hk, fun k => by rw [frz_set]; exact h.free k⟩
theorem bv_far {w : World} {b : Nat} {f : Nat → Nat} (h : BV w b f) (a : Addr) (ha : a.block ≠ b) (u : Value) : BV (w.setCell a u) b f :=
  ⟨fun k hk => by rw [World.cell?_setCell_other _ _ _ _ (by intro q; rw [q] at ha; exact ha rfl)]; exact h.cell k hk, fun k => by rw [frz_set]; exact h.free k⟩
theorem dv_far {w : World} {b : Nat} {d : Nat → Nat} {n : Nat} {p : Int} (h : DV w b d n p) (a : Addr) (ha : a.block ≠ b) (u : Value) : DV (w.setCell a u) b d n p :=
  ⟨fun k hk => by rw [World.cell?_setCell_other _ _ _ _ (by intro q; rw [q] at ha; exact ha rfl)]; exact h.cd k hk, by rw [World.cell?_setCell_other _ _ _ _ (by intro q; rw [q] at ha; exact ha rfl)]; exact h.cn, by rw [World.cell?_setCell_other _ _ _ _ (by intro q; rw [q] at ha; exact ha rfl)]; exact h.cp, fun k => by rw [frz_set]; exact h.fr k⟩
set_option maxRecDepth 100000 in
set_option maxHeartbeats 8000000 in
theorem as_w (b v : Nat) (w : World) (hv : v < 18446744073709551616) (h0 : v ≠ 0) (V0 : Hid (DV w b (fun _ => 0) 0 0)) :
    Calls Tryd.prog 59 #[.pointer (some ⟨b, 0, none⟩), .int .u64 (v : Nat)] w fun e w' => e = .returned (.tuple #[]) ∧ (∃ N, Nd v N ∧ DV w' b (dgd v N N) (trimN (dgd v N N) N) (pnt (trimN (dgd v N N) N) (N : Nat))) ∧ Below b w w' := by
  have hbw := V0.out.lt
  go_enter Tryd.func59, Tryd.ntmps59
  go_wp2_with fail
  have VB := bv_new w 83
  have VA := dv_keep (b_alloc (Below.refl w.heap.size w) (.cells #[.int .u8 0, .int .u8 0, .int .u8 0, .int .u8 0, .int .u8 0, .int .u8 0, .int .u8 0, .int .u8 0, .int .u8 0, .int .u8 0, .int .u8 0, .int .u8 0, .int .u8 0, .int .u8 0, .int .u8 0, .int .u8 0, .int .u8 0, .int .u8 0, .int .u8 0, .int .u8 0, .int .u8 0, .int .u8 0, .int .u8 0, .int .u8 0] 83)) V0.out
  have BA := (b_alloc (Below.refl w.heap.size w) (.cells #[.int .u8 0, .int .u8 0, .int .u8 0, .int .u8 0, .int .u8 0, .int .u8 0, .int .u8 0, .int .u8 0, .int .u8 0, .int .u8 0, .int .u8 0, .int .u8 0, .int .u8 0, .int .u8 0, .int .u8 0, .int .u8 0, .int .u8 0, .int .u8 0, .int .u8 0, .int .u8 0, .int .u8 0, .int .u8 0, .int .u8 0, .int .u8 0] 83)).mono (Nat.le_of_lt hbw)
  obtain ⟨c, hc⟩ : ∃ c, c = w.heap.size := ⟨_, rfl⟩
  rw [← hc] at VB ⊢
  rw [← hc] at hbw
  have HC := Lib.hid hc
  generalize w.alloc (.cells #[.int .u8 0, .int .u8 0, .int .u8 0, .int .u8 0, .int .u8 0, .int .u8 0, .int .u8 0, .int .u8 0, .int .u8 0, .int .u8 0, .int .u8 0, .int .u8 0, .int .u8 0, .int .u8 0, .int .u8 0, .int .u8 0, .int .u8 0, .int .u8 0, .int .u8 0, .int .u8 0, .int .u8 0, .int .u8 0, .int .u8 0, .int .u8 0] 83) = wa at *
  have VBH := Lib.hid VB; have VAH := Lib.hid VA; have BAH := Lib.hid BA
  clear VB VA BA hc
  go_loopw [1, 5] (fun x u wr => ∃ i : Nat, i ≤ 20 ∧ x = .int .u64 (v / 10 ^ i : Nat) ∧ u = .int .i64 (i : Nat) ∧ (∀ a, a < i → v / 10 ^ a ≠ 0) ∧ BV wr c (bfd v i) ∧ DV wr b (fun _ => 0) 0 0 ∧ Below b w wr) (fun _ u _ => 21 - (intOf u).toNat)
  case atStart => exact ⟨0, Nat.zero_le _, by rw [Nat.pow_zero, Nat.div_one], rfl, fun a h => absurd h (Nat.not_lt_zero a), VBH.out, VAH.out, BAH.out⟩
  case round =>
    clear VBH VAH BAH
    obtain ⟨i, hi, rfl, rfl, hall, hbv, hdv, hbl⟩ := hrel
    have AL := Lib.hid hall; have Z := Lib.hid hbv; have V := Lib.hid hdv; have B := Lib.hid hbl
    have NX := Lib.hid (div_next v i)
    have hle : v / 10 ^ i ≤ v := Nat.div_le_self _ _
    by_cases hz : v / 10 ^ i = 0
    · have ND : Hid (Nd v i) := Lib.hid ⟨hall, hz⟩
      have hg : ¬ (0 : Int) < ((v / 10 ^ i : Nat) : Int) := by omega
      have DG := Lib.hid (dgs_of hv h0 ⟨hall, hz⟩)
      have hi1 := DG.out.2.1
      have a0 := hdv.fr 800; have a1 := hdv.cn
      have V1 := Lib.hid (dv_n hdv 0)
      have B1 := Lib.hid (b_set' hbl (p := ⟨b, 800, none⟩) (Nat.le_refl _) (.int .i64 ((0 : Nat) : Int)))
      have Z1 := Lib.hid (bv_far hbv ⟨b, 800, none⟩ (by show b ≠ c; omega) (.int .i64 ((0 : Nat) : Int)))
      have hlt9 : (i : Int) ≤ 20 := by omega
      clear hall hbv hdv hbl Z V B hz hle
      generalize v / 10 ^ i = x at *
      go_wp2_with fail
      go_loopw [5] (fun u wr => ∃ j : Nat, j ≤ i ∧ u = .int .i64 ((i : Int) - 1 - (j : Int)) ∧ BV wr c (bfd v i) ∧ DV wr b (dgd v i j) j 0 ∧ Below b w wr) (fun u _ => ((intOf u) + 1).toNat)
      case atStart => exact ⟨0, Nat.zero_le _, by congr 1; omega, Z1.out, V1.out, B1.out⟩
      case round =>
        clear V1 B1 Z1
        obtain ⟨j, hj, rfl, hbv, hdv, hbl⟩ := hrel
        have B := Lib.hid hbl; have V := Lib.hid hdv; have Z := Lib.hid hbv
        rcases Nat.lt_or_ge j i with hlt | hge
        · obtain ⟨m, hm⟩ : ∃ m, m = i - 1 - j := ⟨_, rfl⟩
          rw [show (i : Int) - 1 - (j : Int) = (m : Int) by omega]
          have hm24 : m < 24 := by omega
          have hm24' : (m : Int) < 24 := by omega
          have hj8 : j < 800 := by omega
          have hj8' : (j : Int) < 800 := by omega
          obtain ⟨y, hy⟩ : ∃ y, y = 48 + v / 10 ^ (i - 1 - j) % 10 := ⟨_, rfl⟩
          have HY := Lib.hid hy
          have zc := hbv.cell m hm24
          rw [show bfd v i m = y by unfold bfd; rw [if_pos (by omega), hm, hy]] at zc
          have ZC := Lib.hid zc
          have HM := Lib.hid hm
          clear hy zc
          clear hm hbv hdv hbl
          go_wp2_with fail
          refine Tail.tail_region (by kernel_rfl) (by kernel_rfl) ?_
          apply Tail.Gq.p
          · intro wq
            (go_simp; first | exact Tail.pv_value | exact Tail.pv_skip)
          simp only [Act.put, List.setIfInBounds_toArray, List.set_cons_zero, List.set_cons_succ]
          apply Tail.Gq.p
          · intro wq
            (go_simp; first | exact Tail.pv_value | exact Tail.pv_skip)
          simp only [Act.put, List.setIfInBounds_toArray, List.set_cons_zero, List.set_cons_succ]
          apply Tail.Gq.p
          · intro wq
            (go_simp; first | exact Tail.pv_value | exact Tail.pv_skip)
          simp only [Act.put, List.setIfInBounds_toArray, List.set_cons_zero, List.set_cons_succ]
          apply Tail.Gq.p
          · intro wq
            (go_simp; first | exact Tail.pv_value | exact Tail.pv_skip)
          simp only [Act.put, List.setIfInBounds_toArray, List.set_cons_zero, List.set_cons_succ]
          apply Tail.Gq.r
          · intro wq hc hq
            (have x0 := keep (cls hq) V.out.cn; have x1 := keep (cls hq) ZC.out; clear hc; go_simp; first | exact q2_value | exact q2_skip)
          simp only [Act.put, List.setIfInBounds_toArray, List.set_cons_zero, List.set_cons_succ]
          apply Tail.Gq.p
          · intro wq
            (go_simp; first | exact Tail.pv_value | exact Tail.pv_skip)
          simp only [Act.put, List.setIfInBounds_toArray, List.set_cons_zero, List.set_cons_succ]
          apply Tail.Gq.p
          · intro wq
            (go_simp; first | exact Tail.pv_value | exact Tail.pv_skip)
          simp only [Act.put, List.setIfInBounds_toArray, List.set_cons_zero, List.set_cons_succ]
          apply Tail.Gq.r
          · intro wq hc hq
            (have x0 := keep (cls hq) V.out.cn; have x1 := keep (cls hq) ZC.out; clear hc; go_simp; first | exact q2_value | exact q2_skip)
          simp only [Act.put, List.setIfInBounds_toArray, List.set_cons_zero, List.set_cons_succ]
          apply Tail.Gq.p
          · intro wq
            (go_simp; first | exact Tail.pv_value | exact Tail.pv_skip)
          simp only [Act.put, List.setIfInBounds_toArray, List.set_cons_zero, List.set_cons_succ]
          apply Tail.Gq.p
          · intro wq
            (go_simp; first | exact Tail.pv_value | exact Tail.pv_skip)
          simp only [Act.put, List.setIfInBounds_toArray, List.set_cons_zero, List.set_cons_succ]
          apply Tail.Gq.p
          · intro wq
            (go_simp; first | exact Tail.pv_value | exact Tail.pv_skip)
          simp only [Act.put, List.setIfInBounds_toArray, List.set_cons_zero, List.set_cons_succ]
          apply Tail.Gq.t
          refine Tail.Gq.nil ⟨by kernel_rfl, fun w1 hb1 => ?_⟩
          simp only [List.reverse_cons, List.reverse_nil, List.nil_append]
          have V1 := Lib.hid (dv_keep hb1 V.out); have B1 := Lib.hid (B.out.trans (hb1.mono (Nat.le_of_lt V.out.lt))); have Z1 := Lib.hid (bv_keep hb1 Z.out)
          clear hb1 V B Z
          have a0 := V1.out.cd j hj8; have a1 := V1.out.fr j
          have V2 := dv_d V1.out hj8 y
          rw [show upd (dgd v i j) j y = dgd v i (j + 1) by rw [HY.out]; exact dgd_next] at V2
          have Z2 := Lib.hid (bv_far Z1.out ⟨b, j, none⟩ (by show b ≠ c; omega) (.int .u8 (y : Nat)))
          have B2 := Lib.hid (b_set' B1.out (p := ⟨b, j, none⟩) (Nat.le_refl _) (.int .u8 (y : Nat)))
          clear ZC
          have a2 := V2.cn; have a3 := V2.fr 800
          have V3 := Lib.hid (dv_n V2 (j + 1))
          have Z3 := Lib.hid (bv_far Z2.out ⟨b, 800, none⟩ (by show b ≠ c; omega) (.int .i64 ((j + 1 : Nat) : Int)))
          have B3 := Lib.hid (b_set' B2.out (p := ⟨b, 800, none⟩) (Nat.le_refl _) (.int .i64 ((j + 1 : Nat) : Int)))
          clear V2
          go_wp2_with fail
          simp only [Kit.Ends]
          go_wp2_with fail
          go_roundw
          case rel => exact ⟨j + 1, hlt, by have := HM.out; congr 1; omega, Z3.out, V3.out, B3.out⟩
          case measure => simp [intOf]; try omega
        · obtain rfl : j = i := by omega
          rw [show (j : Int) - 1 - (j : Int) = -1 by omega]
          have a0 := hdv.cn; have a1 := hdv.cp; have a2 := hdv.fr 801
          have V1 := Lib.hid (dv_p hdv (j : Nat))
          have B1 := Lib.hid (b_set' hbl (p := ⟨b, 801, none⟩) (Nat.le_refl _) (.int .i64 (j : Nat)))
          have TR := Lib.hid (trim_w b (dgd v j j) j (j : Nat) _ (by omega) V1)
          clear hbv hdv hbl
          go_wp2_with fail
          (with_reducible refine TR.out.mono ?_); rintro e w9 ⟨rfl, hv9, hb9⟩
          go_wp2_with fail
          exact ⟨rfl, .tuple #[], results_none rfl _ _ _, rfl, ⟨j, ND.out, hv9⟩, B1.out.trans hb9⟩
    · have hi19 := nd_most hv hz
      have hg : (0 : Int) < ((v / 10 ^ i : Nat) : Int) := by exact_mod_cast Nat.pos_of_ne_zero hz
      have hd10 : ¬ (10 : Int) = 0 := by decide
      have a0 := hbv.cell i (by omega); have a1 := hbv.free i
      have hi24 : (i : Int) < 24 := by omega
      have ALN : Hid (∀ a, a < i + 1 → v / 10 ^ a ≠ 0) := Lib.hid fun a ha => by
        rcases Nat.lt_or_ge a i with g | g
        · exact hall a g
        · rw [show a = i by omega]; exact hz
      have Z1 := bv_set hbv (i := i) (48 + v / 10 ^ i % 10)
      rw [bfd_next] at Z1
      have V1 := Lib.hid (dv_far hdv ⟨c, i, none⟩ (by show c ≠ b; omega) (.int .u8 ((48 + v / 10 ^ i % 10 : Nat) : Int)))
      have B1 := Lib.hid (b_set' hbl (p := ⟨c, i, none⟩) (by show b ≤ c; omega) (.int .u8 ((48 + v / 10 ^ i % 10 : Nat) : Int)))
      have ZH := Lib.hid Z1
      clear hall hbv hdv hbl Z1 hz
      generalize hx : v / 10 ^ i = x at *
      rw [show ((48 + x % 10 : Nat) : Int) = (x : Int) - 10 * ((x : Int) / 10) + 48 by omega] at ZH V1 B1
      clear hx
      go_wp2_with fail
      go_roundw
      case rel => exact ⟨i + 1, by omega, by rw [← NX.out]; congr 1, by go_num, ALN.out, ZH.out, V1.out, B1.out⟩
      case measure => simp [intOf]; try omega
end Dec
end Go.Proofs.YtoafljgcmloilaaDoor
