/- Joined texts: WindA, FrameD. -/
import Derived.Test.YtkapllakofndlaaDoorM08
import Derived.Test.YtkapllakofndlaaDoorM02
import Derived.Test.YtkapllakofndlaaDoorTie
import Derived.WalkLawsBesides
import Derived.Lib.LaidTab
namespace Go.Proofs.YtkapllakofndlaaDoor
open Go.RowKit
namespace Wind
open Kit
section
variable (L H : Nat → Int) (h : Int)
def hit (j : Nat) : Prop := L j ≤ h ∧ h < H j
/-- The first of n bands that has the height, or n. -/
def fi : Nat → Nat
  | 0 => 0
  | k + 1 => if fi k < k then fi k else if decide (L k ≤ h ∧ h < H k) then k else k + 1
variable {L H h}
theorem fi_none : ∀ {n : Nat}, (∀ j, j < n → ¬ hit L H h j) → fi L H h n = n
  | 0, _ => rfl
  | n + 1, hn => by
    have e := fi_none (n := n) (fun j hj => hn j (by omega))
    show (if fi L H h n < n then _ else _) = _
    rw [e, if_neg (by omega), if_neg (by rw [decide_eq_true_eq]; exact hn n (by omega))]
theorem fi_hit {k : Nat} (hn : ∀ j, j < k → ¬ hit L H h j) (hk : hit L H h k) : ∀ n, k < n → fi L H h n = k
  | 0, h0 => by omega
  | n + 1, h0 => by
    show (if fi L H h n < n then _ else _) = _
    rcases Nat.lt_or_ge k n with hl | hl
    · rw [fi_hit hn hk n hl, if_pos hl]
    · obtain rfl : k = n := by omega
      rw [fi_none hn, if_neg (by omega), if_pos (by rw [decide_eq_true_eq]; exact hk)]
theorem fi_spec : ∀ {n : Nat}, fi L H h n ≤ n ∧ (fi L H h n < n → hit L H h (fi L H h n))
  | 0 => ⟨Nat.le_refl _, fun h => absurd h (Nat.not_lt_zero _)⟩
  | n + 1 => by
    have ih := fi_spec (n := n)
    show (if fi L H h n < n then fi L H h n else if decide (L n ≤ h ∧ h < H n) then n else n + 1) ≤ n + 1 ∧ _
    have e : fi L H h (n + 1) = if fi L H h n < n then fi L H h n else if decide (L n ≤ h ∧ h < H n) then n else n + 1 := rfl
    rw [e]
    by_cases h1 : fi L H h n < n
    · rw [if_pos h1]; exact ⟨by omega, fun _ => ih.2 h1⟩
    · rw [if_neg h1]
      by_cases h2 : L n ≤ h ∧ h < H n
      · rw [if_pos (by rw [decide_eq_true_eq]; exact h2)]; exact ⟨by omega, fun _ => h2⟩
      · rw [if_neg (by rw [decide_eq_true_eq]; exact h2)]; exact ⟨by omega, fun h => by omega⟩
end
/-- A number of the band that is returned. -/
def pickW (f : Nat → Int) (d : Int) (i n : Nat) : Int := if i < n then f i else d
abbrev WkC (v : Value) (e : Int) (w : World) : Prop := ∀ w1, Below w.heap.size w w1 → Calls Tryd.prog 39 #[v] w1 fun ed w' => ed = .returned (.int .i64 e) ∧ Below w1.heap.size w1 w'
abbrev band (l h x y e : Int) : Value := .agg #[.int .i64 l, .int .i64 h, .int .i64 x, .int .i64 y, .int .i64 e]
/-- A band in a variable of the call's own. -/
structure F5 (w : World) (b : Nat) : Prop where
  cs : N5 w b 0 0 0 0 0 0
  f0 : w.frozen? ⟨b, 0, none⟩ = false
  f1 : w.frozen? ⟨b, 1, none⟩ = false
  f2 : w.frozen? ⟨b, 2, none⟩ = false
  f3 : w.frozen? ⟨b, 3, none⟩ = false
  f4 : w.frozen? ⟨b, 4, none⟩ = false
theorem f5_new (w : World) (t : TypeId) : F5 (w.alloc (.cells #[.int .i64 0, .int .i64 0, .int .i64 0, .int .i64 0, .int .i64 0] t)) w.heap.size := ⟨n5_new w t 0 0 0 0 0, by simp, by simp, by simp, by simp, by simp⟩
theorem f5_keep {W w1 : World} (hb : Below W.heap.size W w1) {b : Nat} (h : F5 W b) : F5 w1 b :=
  ⟨n5_keep hb h.cs, keepF hb h.cs.c0 h.f0, keepF hb h.cs.c1 h.f1, keepF hb h.cs.c2 h.f2, keepF hb h.cs.c3 h.f3, keepF hb h.cs.c4 h.f4⟩
set_option maxRecDepth 100000 in
set_option maxHeartbeats 1000000 in
theorem at_bad (A : Option Addr) (n c : Nat) (h E : Int) (w : World) (C : Hid (WkC (.slice A n c) E w)) (_hE1 : (E == 0) = false) (hE2 : (E != 0) = true) :
    Calls Tryd.prog 24 #[.slice A n c, .int .i64 h] w fun e w' => e = .returned (.tuple #[band 0 0 0 0 0, .int .i64 E]) ∧ Below w.heap.size w w' := by
  have W1 := Lib.hid (b_alloc (Below.refl w.heap.size w) (.cells #[.int .i64 0, .int .i64 0, .int .i64 0, .int .i64 0, .int .i64 0] 38))
  have N1 := Lib.hid (f5_new w 38)
  go_enter Tryd.func24, Tryd.ntmps24
  go_wp2_with fail
  (with_reducible refine (C.out _ W1.out).mono ?_); rintro e w2 ⟨rfl, hb⟩
  have W2 := Lib.hid (b_next W1.out hb); obtain ⟨⟨c0, c1, c2, c3, c4⟩, f0, f1, f2, f3, f4⟩ := f5_keep hb N1.out; clear hb
  rw [Nat.zero_add] at c1 c2 c3 c4
  go_wp2_with fail
  refine bodyPost_ret (v := .tuple #[band 0 0 0 0 0, .int .i64 E]) (by simp [results, Tryd.results24, go_sem, c0, c1, c2, c3, c4]) rfl ⟨rfl, ?_⟩
  exact b_set (b_set (b_set (b_set (b_set W2.out (Nat.le_refl _) _) (Nat.le_refl _) _) (Nat.le_refl _) _) (Nat.le_refl _) _) (Nat.le_refl _) _
set_option maxRecDepth 100000 in
set_option maxHeartbeats 1000000 in
theorem at_range (A : Option Addr) (n c : Nat) (h : Int) (w : World) (C : Hid (WkC (.slice A n c) 0 w)) (hh : h < 0 ∨ 60000 < h) :
    Calls Tryd.prog 24 #[.slice A n c, .int .i64 h] w fun e w' => e = .returned (.tuple #[band 0 0 0 0 0, .int .i64 4]) ∧ Below w.heap.size w w' := by
  have W1 := Lib.hid (b_alloc (Below.refl w.heap.size w) (.cells #[.int .i64 0, .int .i64 0, .int .i64 0, .int .i64 0, .int .i64 0] 38))
  have N1 := Lib.hid (f5_new w 38)
  go_enter Tryd.func24, Tryd.ntmps24
  go_wp2_with fail
  (with_reducible refine (C.out _ W1.out).mono ?_); rintro e w2 ⟨rfl, hb⟩
  have W2 := Lib.hid (b_next W1.out hb); obtain ⟨⟨c0, c1, c2, c3, c4⟩, f0, f1, f2, f3, f4⟩ := f5_keep hb N1.out; clear hb
  rw [Nat.zero_add] at c1 c2 c3 c4
  go_wp2_with fail
  all_goals first
    | (exfalso; omega)
    | (refine bodyPost_ret (v := .tuple #[band 0 0 0 0 0, .int .i64 4]) (by simp [results, Tryd.results24, go_sem, c0, c1, c2, c3, c4]) rfl ⟨rfl, ?_⟩
       exact b_set (b_set (b_set (b_set (b_set W2.out (Nat.le_refl _) _) (Nat.le_refl _) _) (Nat.le_refl _) _) (Nat.le_refl _) _) (Nat.le_refl _) _)
set_option maxRecDepth 100000 in
set_option maxHeartbeats 4000000 in
theorem at_w (n cap b off : Nat) (L H X Y E : Nat → Int) (h : Int) (w : World) (hc : n ≤ cap) (hm : cap ≤ 9223372036854775807) (HV : Hid (∀ k, k < n → N5 w b (off + k * 5) (L k) (H k) (X k) (Y k) (E k))) (C : Hid (WkC (.slice (some ⟨b, off, none⟩) n cap) 0 w)) (h1 : 0 ≤ h) (h2 : h ≤ 60000) :
    Calls Tryd.prog 24 #[.slice (some ⟨b, off, none⟩) n cap, .int .i64 h] w fun e w' => e = .returned (.tuple #[band (pickW L 0 (fi L H h n) n) (pickW H 60001 (fi L H h n) n) (pickW X 0 (fi L H h n) n) (pickW Y 0 (fi L H h n) n) (pickW E 0 (fi L H h n) n), .int .i64 0]) ∧ Below w.heap.size w w' := by
  have W1 := Lib.hid (b_alloc (Below.refl w.heap.size w) (.cells #[.int .i64 0, .int .i64 0, .int .i64 0, .int .i64 0, .int .i64 0] 38))
  have N1 := Lib.hid (f5_new w 38)
  obtain ⟨R, hR⟩ : ∃ R : Value, R = .tuple #[band (pickW L 0 (fi L H h n) n) (pickW H 60001 (fi L H h n) n) (pickW X 0 (fi L H h n) n) (pickW Y 0 (fi L H h n) n) (pickW E 0 (fi L H h n) n), .int .i64 0] := ⟨_, rfl⟩
  rw [← hR]
  have HR := Lib.hid hR; clear hR
  have g1 : ¬ h < 0 := by omega
  have g2 : ¬ 60000 < h := by omega
  have hw : w.heap.size < w.heap.size + 1 := by omega
  go_enter Tryd.func24, Tryd.ntmps24
  go_wp2_with fail
  (with_reducible refine (C.out _ W1.out).mono ?_); rintro e w2 ⟨rfl, hb⟩
  have W2 := Lib.hid (b_next W1.out hb); have F2 := Lib.hid (f5_keep hb N1.out); clear hb
  go_wp2_with fail
  go_loopw [24] (fun s wr => ∃ k : Nat, k ≤ n ∧ s = .int .i64 k ∧ (∀ j, j < k → ¬ hit L H h j) ∧ Below w2.heap.size w2 wr) (fun s _ => n - (intOf s).toNat)
  case atStart => exact ⟨0, Nat.zero_le _, rfl, fun j hj => absurd hj (Nat.not_lt_zero j), Below.refl _ _⟩
  case round =>
    obtain ⟨k, hk, rfl, hn, hbl⟩ := hrel
    have HN := Lib.hid hn; have WR := Lib.hid hbl; have WT := Lib.hid (b_next W2.out hbl); clear hn
    by_cases hlt : k < n
    · have hl : (k : Int) < (n : Int) := by omega
      obtain ⟨c0, c1, c2, c3, c4⟩ := n5_keep WT.out (HV.out k hlt)
      have PN := Lib.hid (n5_new wr 38 (L k) (H k) (X k) (Y k) (E k))
      have WZ := Lib.hid (b_alloc WR.out (.cells #[.int .i64 (L k), .int .i64 (H k), .int .i64 (X k), .int .i64 (Y k), .int .i64 (E k)] 38))
      have WY := Lib.hid (b_alloc WT.out (.cells #[.int .i64 (L k), .int .i64 (H k), .int .i64 (X k), .int .i64 (Y k), .int .i64 (E k)] 38))
      have HIT : Hid (hit L H h k → R = .tuple #[band (L k) (H k) (X k) (Y k) (E k), .int .i64 0]) := Lib.hid fun q => by
        rw [HR.out, fi_hit HN.out q n hlt]; unfold pickW; simp only [if_pos hlt]
      have NO : Hid (¬ hit L H h k → ∀ j, j < k + 1 → ¬ hit L H h j) := Lib.hid fun q j hj => by
        rcases Nat.lt_or_ge j k with hl | hl
        · exact HN.out j hl
        · rw [show j = k from by omega]; exact q
      have HD : Hid (hit L H h k ↔ (L k ≤ h ∧ h < H k)) := Lib.hid Iff.rfl
      obtain ⟨⟨d0, d1, d2, d3, d4⟩, f0, f1, f2, f3, f4⟩ := f5_keep hbl F2.out
      rw [Nat.zero_add] at d1 d2 d3 d4
      have nn := new_ne d0
      clear hbl
      generalize L k = l at *
      generalize H k = hh at *
      generalize X k = x at *
      generalize Y k = y at *
      generalize E k = er at *
      by_cases p1 : l ≤ h
      · by_cases p2 : h < hh
        · have q := Lib.hid (HIT.out (HD.out.2 ⟨p1, p2⟩))
          have q1 := decide_eq_true p1; have q2 := decide_eq_true p2
          clear HIT NO
          go_wp2_with fail
          refine bodyPost_ret (v := .tuple #[band l hh x y er, .int .i64 0]) (by simp [results, Tryd.results24, go_sem, d0, d1, d2, d3, d4, nn]) rfl ⟨by rw [q.out], ?_⟩
          exact b_alloc (b_set (b_set (b_set (b_set (b_set WT.out (Nat.le_refl _) _) (Nat.le_refl _) _) (Nat.le_refl _) _) (Nat.le_refl _) _) (Nat.le_refl _) _) _
        · have q := Lib.hid (NO.out (fun t => p2 (HD.out.1 t).2))
          have q1 := decide_eq_true p1; have q2 := decide_eq_false p2
          clear HIT NO
          go_wp2_with fail
          all_goals first | (exfalso; omega) | exact ⟨⟨k + 1, by omega, by go_num, q.out, WZ.out⟩, by simp [intOf]; omega⟩
      · have q := Lib.hid (NO.out (fun t => p1 (HD.out.1 t).1))
        have q1 := decide_eq_false p1
        clear HIT NO
        go_wp2_with fail
        all_goals first | (exfalso; omega) | exact ⟨⟨k + 1, by omega, by go_num, q.out, WZ.out⟩, by simp [intOf]; omega⟩
    · have hkn : k = n := by omega
      have hl : ¬ (k : Int) < (n : Int) := by omega
      have HF : Hid (R = .tuple #[band 0 60001 0 0 0, .int .i64 0]) := Lib.hid (by
        rw [HR.out, fi_none (fun j hj => HN.out j (by omega))]; unfold pickW; simp only [if_neg (Nat.lt_irrefl n)])
      obtain ⟨⟨d0, d1, d2, d3, d4⟩, f0, f1, f2, f3, f4⟩ := f5_keep hbl F2.out
      rw [Nat.zero_add] at d1 d2 d3 d4
      clear hbl
      go_wp2_with fail
      refine bodyPost_ret (v := .tuple #[band 0 60001 0 0 0, .int .i64 0]) (by simp [results, Tryd.results24, go_sem, d0, d1, d2, d3, d4]) rfl ⟨by rw [HF.out], ?_⟩
      exact b_set (b_set (b_set (b_set (b_set WT.out (Nat.le_refl _) _) (Nat.le_refl _) _) (Nat.le_refl _) _) (Nat.le_refl _) _) (Nat.le_refl _) _
/-- What wind.At says. -/
def atE (L H X Y E : Nat → Int) (n : Nat) (h : Int) : Int := if wck L H X Y E n ≠ 0 then wck L H X Y E n else if h < 0 ∨ 60000 < h then 4 else 0
theorem at_none (A : Option Addr) (cap : Nat) (h : Int) (w : World) (C : Hid (WkC (.slice A 0 cap) 0 w)) (h1 : 0 ≤ h) (h2 : h ≤ 60000) :
    Calls Tryd.prog 24 #[.slice A 0 cap, .int .i64 h] w fun e w' => e = .returned (.tuple #[band 0 60001 0 0 0, .int .i64 0]) ∧ Below w.heap.size w w' := by
  have W1 := Lib.hid (b_alloc (Below.refl w.heap.size w) (.cells #[.int .i64 0, .int .i64 0, .int .i64 0, .int .i64 0, .int .i64 0] 38))
  have N1 := Lib.hid (f5_new w 38)
  have g1 : ¬ h < 0 := by omega
  have g2 : ¬ 60000 < h := by omega
  go_enter Tryd.func24, Tryd.ntmps24
  go_wp2_with fail
  (with_reducible refine (C.out _ W1.out).mono ?_); rintro e w2 ⟨rfl, hb⟩
  have W2 := Lib.hid (b_next W1.out hb); have F2 := Lib.hid (f5_keep hb N1.out); clear hb
  go_wp2_with fail
  go_loopw [24] (fun s wr => s = .int .i64 0 ∧ w2 = wr) (fun _ _ => 0)
  case atStart => exact ⟨rfl, rfl⟩
  case round =>
    obtain ⟨rfl, rfl⟩ := hrel
    obtain ⟨⟨d0, d1, d2, d3, d4⟩, f0, f1, f2, f3, f4⟩ := F2.out
    rw [Nat.zero_add] at d1 d2 d3 d4
    go_wp2_with fail
    refine bodyPost_ret (v := .tuple #[band 0 60001 0 0 0, .int .i64 0]) (by simp [results, Tryd.results24, go_sem, d0, d1, d2, d3, d4]) rfl ⟨rfl, ?_⟩
    exact b_set (b_set (b_set (b_set (b_set W2.out (Nat.le_refl _) _) (Nat.le_refl _) _) (Nat.le_refl _) _) (Nat.le_refl _) _) (Nat.le_refl _) _
theorem atC_bad {v : Value} {n : Nat} {L H X Y E : Nat → Int} {h : Int} {w : World} (hv : WV w v n L H X Y E) (he : atE L H X Y E n h ≠ 0) :
    Calls Tryd.prog 24 #[v, .int .i64 h] w fun e w' => e = .returned (.tuple #[band 0 0 0 0 0, .int .i64 (atE L H X Y E n h)]) ∧ Below w.heap.size w w' := by
  have C := checkC hv
  have hs : ∃ A c, v = .slice A n c := by
    rcases hv with ⟨h0, rfl | ⟨a, cap, rfl, -⟩⟩ | ⟨h0, b, off, cap, rfl, -⟩
    · exact ⟨_, _, by rw [h0]⟩
    · exact ⟨_, _, by rw [h0]⟩
    · exact ⟨_, _, rfl⟩
  obtain ⟨A, c, rfl⟩ := hs
  unfold atE at *
  by_cases hz : wck L H X Y E n ≠ 0
  · rw [if_pos hz]
    exact at_bad A n c h _ w (Lib.hid C) (by simpa using hz) (by simpa using hz)
  · rw [if_neg hz] at he ⊢
    rw [Classical.not_not.1 hz] at C
    by_cases hh : h < 0 ∨ 60000 < h
    · rw [if_pos hh]; exact at_range A n c h w (Lib.hid C) hh
    · rw [if_neg hh] at he; exact absurd rfl he
theorem atC_ok {v : Value} {n : Nat} {L H X Y E : Nat → Int} {h : Int} {w : World} (hv : WV w v n L H X Y E) (he : atE L H X Y E n h = 0) :
    Calls Tryd.prog 24 #[v, .int .i64 h] w fun e w' => e = .returned (.tuple #[band (pickW L 0 (fi L H h n) n) (pickW H 60001 (fi L H h n) n) (pickW X 0 (fi L H h n) n) (pickW Y 0 (fi L H h n) n) (pickW E 0 (fi L H h n) n), .int .i64 0]) ∧ Below w.heap.size w w' := by
  have C := checkC hv
  unfold atE at he
  have hz : wck L H X Y E n = 0 := by
    by_cases hz : wck L H X Y E n ≠ 0
    · rw [if_pos hz] at he; exact he
    · exact Classical.not_not.1 hz
  rw [if_neg (fun h => h hz)] at he
  have hh : 0 ≤ h ∧ h ≤ 60000 := by
    by_cases hh : h < 0 ∨ 60000 < h
    · rw [if_pos hh] at he; exact absurd he (by decide)
    · omega
  rw [hz] at C
  rcases hv with ⟨h0, hs⟩ | ⟨h0, b, off, cap, rfl, h1, h2, h3⟩
  · subst h0
    have e : ∀ f d i, pickW f d i 0 = d := fun f d i => by unfold pickW; rw [if_neg (Nat.not_lt_zero _)]
    simp only [e]
    rcases hs with rfl | ⟨a, cap, rfl, -⟩
    · exact at_none _ _ h w (Lib.hid C) hh.1 hh.2
    · exact at_none _ _ h w (Lib.hid C) hh.1 hh.2
  · exact at_w n cap b off L H X Y E h w h1 (Nat.le_trans h2 (by decide)) (Lib.hid h3) (Lib.hid C) hh.1 hh.2
end Wind
end Go.Proofs.YtkapllakofndlaaDoor
namespace Go.Proofs.YtkapllakofndlaaDoor
open Go.ChangeShapes Go.WideShapes Go.ChangeAt Go.RowKit
namespace Frame
section
variable {H : Type} {enc : TypeId × Value → H} {P : Program}
/-- The lifted contract of a law whose row lists variables: from its walk. -/
theorem lifted_laid {C : Checked} {os : Os} {s : ChangeSpec} {laid : List (String × DataW Unit)} (f : FuncId) (fn : Func)
    (own : ownKnob C.prog.godebug = none) (started : os.Started) (noInit : C.prog.inits.idxOf? f = none) (hfn : C.prog.funcs[f]? = some fn)
    (hl : laidOutB C.prog = true) (hvars : s.vars = [])
    (hparams : (fn.params.toList.all fun t => C.prog.readableRec t && decide (t < C.prog.types.size)) = true)
    (tb : TypeId) (hres : fn.resultTypes = #[tb]) (hb : C.prog.underlying tb = some .bool)
    (hspec : ∀ ds : List (DataW H), ds.length = fn.params.size → s.fn H (ds ++ []) = { results := [.lit (.bool true)], args := ds })
    (witness : ∃ (w : World) (tape : Tape) (i : Input), w.os = os ∧ (w.forCall tape i).Shaped C.prog ∧ i.vars = [] ∧ Input.okWide C.prog (w.forCall tape i) .any w.heap.size f i ∧
      ((s.pre enc C.prog fn [] false (w.forCall tape i).memory i.args ∧ laidMetH C.prog laid (w.forCall tape i).memory) ∧ sizedMet enc C.prog fn (OpenSpec.ofChange s) false (w.forCall tape i).memory i.args) ∧ ({} : Assume).holds C.prog (lone (Frame.enter C.prog f i.args .normal) [] (w.forCall tape i)))
    (walk : ∀ (W : World) (base : Nat) (args : Array Value) (ds : List (DataW H)) (ps : List MemPlace),
      (∀ (j : Nat) t v, fn.params[j]? = some t → args[j]? = some v → Value.okWide C.prog W .any base t v) →
      DataW.TrodAll enc C.prog W 0 (fun _ => true) true fn.params.toList args.toList ds ps → (∀ x ∈ ps, x.block < W.heap.size) → laidMetH C.prog laid W →
      Calls C.prog f args W fun e W' => e = .returned (.bool true) ∧ Below W.heap.size W W') :
    ReturnsInHanded {} C os f .any (fun w args => (s.pre enc C.prog fn [] false w args ∧ laidMetH C.prog laid w) ∧ sizedMet enc C.prog fn (OpenSpec.ofChange s) false w args) (s.post enc C.prog fn false true false false) := by
  refine returnsInHanded_of_change_and (X := fun w _ => laidMetH C.prog laid w) (fun _ _ _ hh h => h.of_heap hh) own started noInit hfn witness ?_
  intro W base args ds gs before hval hW _ _ hL _
  have hWk := hW
  obtain ⟨p, q, hA, hV, rfl, _, _⟩ := hW
  rw [hvars] at hV
  obtain ⟨rfl, rfl⟩ := trodVars_none hV
  have hlt : ∀ x ∈ p ++ [], x.block < W.heap.size := fun x hx => hWk.lt x hx
  have hlen : ds.length = fn.params.size := by
    have h : ∀ {ts : List TypeId} {vs : List Value} {ds : List (DataW H)} {ps : List MemPlace}, DataW.TrodAll enc C.prog W 0 (fun _ => true) true ts vs ds ps → ds.length = ts.length := by
      intro ts
      induction ts with
      | nil => intro vs ds ps h; obtain ⟨_, rfl, _⟩ := trodAll_nil h; rfl
      | cons t ts ih => intro vs ds ps h; obtain ⟨_, _, _, _, _, _, _, rfl, _, _, h2⟩ := trodAll_cons h; simp [ih h2]
    simpa using h hA
  refine (walk W base args ds p hval hA (fun x hx => hlt x (by simpa using hx)) hL).mono fun e W' ⟨he, hbl⟩ => ?_
  subst he
  have hp : p ++ [] = p := List.append_nil p
  refine ⟨_, rfl, ds, [], p ++ [], [], p, [], hWk, ?_, ?_, ?_, World.keptBut_mono (fun x hx => ⟨hx, Or.inr (Or.inl (by rw [← hp]; exact hx))⟩) (hbl.frame (· ∈ p ++ [])), fun h => by cases h⟩
  · rw [hspec ds hlen, hres]
    exact trodAll_cons_mk (shut_bool hb _) trodAll_mk0
  · rw [hspec ds hlen]
    exact trodAll_below hl hbl hparams hA (fun x hx => hlt x (by rw [hp]; exact hx))
  · rw [hspec ds hlen, hvars]
    exact rfl
/-- A float that reads as a datum. -/
theorem trod_float {w : World} {base fuel : Nat} {sp : Nat → Bool} {held : Bool} {t : TypeId} {k : FloatKind} {cs : List Value} {x : DataW H × List MemPlace} (ht : P.underlying t = some (.float k)) (h : DataW.trod enc P w base sp held fuel t cs = some x) : ∃ b, cs = [.float k b] ∧ x = (.lit (.float k b), []) := by
  cases fuel with
  | zero => simp [DataW.trod] at h
  | succ n =>
    unfold DataW.trod at h
    rw [ht] at h
    split at h <;> simp_all
/-- The variable NAME holds just these floats. -/
def FTabIs (P : Program) (w : World) (name : String) (k : FloatKind) (zs : List Nat) : Prop := w.var? P name = some (zs.map fun z => Value.float k z).toArray
theorem cells_of_ftab {w : World} {base : Nat} {sp : Nat → Bool} {held : Bool} {fuel : Nat} {t e : TypeId} {n : Nat} {k : FloatKind} {cs : List Value} {zs : List Nat} {p : List MemPlace}
    (ht : P.underlying t = some (.array n e)) (he : P.underlying e = some (.float k)) (hce : P.cellsOf e = 1) (hct : P.cellsOf t = n)
    (h : DataW.trod enc P w base sp held fuel t cs = some (.agg (zs.map fun z => .lit (.float k z)), p)) : cs = zs.map fun z => Value.float k z := by
  cases fuel with
  | zero => simp [DataW.trod] at h
  | succ fuel =>
    simp only [DataW.trod, ht, hce, hct, Nat.mul_one] at h
    split at h
    · rename_i hl
      obtain ⟨xs, hm, hx⟩ := Option.map_eq_some_iff.1 h
      have hxs : xs.map (·.1) = zs.map fun z => (DataW.lit (.float k z) : DataW H) := by
        have := congrArg Prod.fst hx
        simpa using this
      have hxl : xs.length = n := by simpa using Lib.mapM_length hm
      have hzl : zs.length = n := by
        have := congrArg List.length hxs
        simp at this
        omega
      apply List.ext_getElem?
      intro i
      by_cases hi : i < n
      · obtain ⟨b, hb, hf⟩ := Lib.mapM_at hm i i (by simp [hi])
        obtain ⟨z, hc, hz⟩ := trod_float he hf; rw [hz] at hb
        have h1 : cs[i]? = some (.float k z) := by
          have := congrArg (·[0]?) hc
          simpa [List.getElem?_take, List.getElem?_drop] using this
        have h2 : (xs.map (·.1))[i]? = some (DataW.lit (.float k z) : DataW H) := by simp [hb]
        rw [hxs] at h2
        simp only [List.getElem?_map, Option.map_eq_some_iff, DataW.lit.injEq, Lit.float.injEq, true_and] at h2
        obtain ⟨z', hz', rfl⟩ := h2
        simp [h1, hz']
      · rw [List.getElem?_eq_none (by omega), List.getElem?_eq_none (by simp; omega)]
    · cases h
end
/-- A listed array of floats: its cells. -/
theorem ftab_of {P : Program} {W : World} {l : List (String × DataW Unit)} {name : String} {k : FloatKind} {zs : List Nat} {g : Nat} {t e : TypeId} {n : Nat}
    (hg : P.globalNamed name = some g) (hty : (P.globals[g]?).map (·.type) = some t) (ht : P.underlying t = some (.array n e)) (he : P.underlying e = some (.float k)) (hce : P.cellsOf e = 1) (hct : P.cellsOf t = n)
    (hm : (name, .agg (zs.map fun z => .lit (.float k z))) ∈ l) (h : laidMet P l W) : FTabIs P W name k zs := by
  obtain ⟨ps, hv, -⟩ := h
  have key : ∀ (l : List (String × DataW Unit)) (ps : List MemPlace), DataW.LaidVars P W l ps → (name, DataW.agg (zs.map fun z => .lit (.float k z))) ∈ l → FTabIs P W name k zs := by
    intro l
    induction l with
    | nil => intro _ _ hm; cases hm
    | cons x r ih =>
      intro ps hv hm
      obtain ⟨g', t', cs, fuel, p, q, hg', ht', hvar, hd, hq, rfl⟩ := hv
      rcases List.mem_cons.1 hm with e | hm
      · subst e
        obtain rfl := Option.some.inj (hg.symm.trans hg')
        obtain rfl := Option.some.inj (hty.symm.trans ht')
        unfold FTabIs
        rw [hvar, ← cells_of_ftab ht he hce hct hd]
      · exact ih q hq hm
  exact key l ps hv hm
theorem FTabIs.cell {P : Program} {W : World} {name : String} {k : FloatKind} {zs : List Nat} {g : Nat} (h : FTabIs P W name k zs) (hg : P.globalNamed name = some g) (i : Nat) (hi : i < zs.length) :
    W.cell? ⟨g, i, none⟩ = some (.float k (zs.getD i 0)) := by
  have := World.var?_cell hg h i
  simpa [List.getD, hi] using this
end Frame
end Go.Proofs.YtkapllakofndlaaDoor
