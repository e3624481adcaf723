/- Joined texts: WindA, FrameD, SinW, AngS. -/
import Derived.Test.YtmkglhoahdlogaaGreatDoorJ11
import Derived.Test.YtmkglhoahdlogaaGreatDoorJ02
import Derived.Test.YtmkglhoahdlogaaGreatDoorTie
import Derived.WalkLawsBesides
import Derived.Lib.LaidTab
import Derived.Test.YtmkglhoahdlogaaGreatDoorJ01
import Derived.Laws.Externs
namespace Go.Proofs.YtmkglhoahdlogaaGreatDoor
open Go.RowKit
namespace Wind
open Kit
section
variable (L H : Nat → Int) (h : Int)
def hit (j : Nat) : Prop := L j ≤ h ∧ h < H j
/-- The first of n bands that has the height, or n. -/
def fi : Nat → Nat
  | 0 => 0
  | k + 1 => if fi k < k then fi k else if decide (L k ≤ h ∧ h < H k) then k else k + 1
variable {L H h}
theorem fi_none : ∀ {n : Nat}, (∀ j, j < n → ¬ hit L H h j) → fi L H h n = n
  | 0, _ => rfl
  | n + 1, hn => by
    have e := fi_none (n := n) (fun j hj => hn j (by omega))
    show (if fi L H h n < n then _ else _) = _
    rw [e, if_neg (by omega), if_neg (by rw [decide_eq_true_eq]; exact hn n (by omega))]
theorem fi_hit {k : Nat} (hn : ∀ j, j < k → ¬ hit L H h j) (hk : hit L H h k) : ∀ n, k < n → fi L H h n = k
  | 0, h0 => by omega
  | n + 1, h0 => by
    show (if fi L H h n < n then _ else _) = _
    rcases Nat.lt_or_ge k n with hl | hl
    · rw [fi_hit hn hk n hl, if_pos hl]
    · obtain rfl : k = n := by omega
      rw [fi_none hn, if_neg (by omega), if_pos (by rw [decide_eq_true_eq]; exact hk)]
theorem fi_spec : ∀ {n : Nat}, fi L H h n ≤ n ∧ (fi L H h n < n → hit L H h (fi L H h n))
  | 0 => ⟨Nat.le_refl _, fun h => absurd h (Nat.not_lt_zero _)⟩
  | n + 1 => by
    have ih := fi_spec (n := n)
    show (if fi L H h n < n then fi L H h n else if decide (L n ≤ h ∧ h < H n) then n else n + 1) ≤ n + 1 ∧ _
    have e : fi L H h (n + 1) = if fi L H h n < n then fi L H h n else if decide (L n ≤ h ∧ h < H n) then n else n + 1 := rfl
    rw [e]
    by_cases h1 : fi L H h n < n
    · rw [if_pos h1]; exact ⟨by omega, fun _ => ih.2 h1⟩
    · rw [if_neg h1]
      by_cases h2 : L n ≤ h ∧ h < H n
      · rw [if_pos (by rw [decide_eq_true_eq]; exact h2)]; exact ⟨by omega, fun _ => h2⟩
      · rw [if_neg (by rw [decide_eq_true_eq]; exact h2)]; exact ⟨by omega, fun h => by omega⟩
end
/-- A number of the band that is returned. -/
def pickW (f : Nat → Int) (d : Int) (i n : Nat) : Int := if i < n then f i else d
abbrev WkC (v : Value) (e : Int) (w : World) : Prop := ∀ w1, Below w.heap.size w w1 → Calls Tryz.prog 91 #[v] w1 fun ed w' => ed = .returned (.int .i64 e) ∧ Below w1.heap.size w1 w'
abbrev band (l h x y e : Int) : Value := .agg #[.int .i64 l, .int .i64 h, .int .i64 x, .int .i64 y, .int .i64 e]
/-- A band in a variable of the call's own. -/
structure F5 (w : World) (b : Nat) : Prop where
  cs : N5 w b 0 0 0 0 0 0
  f0 : w.frozen? ⟨b, 0, none⟩ = false
  f1 : w.frozen? ⟨b, 1, none⟩ = false
  f2 : w.frozen? ⟨b, 2, none⟩ = false
  f3 : w.frozen? ⟨b, 3, none⟩ = false
  f4 : w.frozen? ⟨b, 4, none⟩ = false
theorem f5_new (w : World) (t : TypeId) : F5 (w.alloc (.cells #[.int .i64 0, .int .i64 0, .int .i64 0, .int .i64 0, .int .i64 0] t)) w.heap.size := ⟨n5_new w t 0 0 0 0 0, by simp, by simp, by simp, by simp, by simp⟩
theorem f5_keep {W w1 : World} (hb : Below W.heap.size W w1) {b : Nat} (h : F5 W b) : F5 w1 b :=
  ⟨n5_keep hb h.cs, keepF hb h.cs.c0 h.f0, keepF hb h.cs.c1 h.f1, keepF hb h.cs.c2 h.f2, keepF hb h.cs.c3 h.f3, keepF hb h.cs.c4 h.f4⟩
set_option maxRecDepth 100000 in
set_option maxHeartbeats 1000000 in
theorem at_bad (A : Option Addr) (n c : Nat) (h E : Int) (w : World) (C : Hid (WkC (.slice A n c) E w)) (_hE1 : (E == 0) = false) (hE2 : (E != 0) = true) :
    Calls Tryz.prog 93 #[.slice A n c, .int .i64 h] w fun e w' => e = .returned (.tuple #[band 0 0 0 0 0, .int .i64 E]) ∧ Below w.heap.size w w' := by
  have W1 := Lib.hid (b_alloc (Below.refl w.heap.size w) (.cells #[.int .i64 0, .int .i64 0, .int .i64 0, .int .i64 0, .int .i64 0] 158))
  have N1 := Lib.hid (f5_new w 158)
  go_enter Tryz.func93, Tryz.ntmps93
  go_wp2_with fail
  (with_reducible refine (C.out _ W1.out).mono ?_); rintro e w2 ⟨rfl, hb⟩
  have W2 := Lib.hid (b_next W1.out hb); obtain ⟨⟨c0, c1, c2, c3, c4⟩, f0, f1, f2, f3, f4⟩ := f5_keep hb N1.out; clear hb
  rw [Nat.zero_add] at c1 c2 c3 c4
  go_wp2_with fail
  refine bodyPost_ret (v := .tuple #[band 0 0 0 0 0, .int .i64 E]) (by simp [results, Tryz.results93, go_sem, c0, c1, c2, c3, c4]) rfl ⟨rfl, ?_⟩
  exact b_set (b_set (b_set (b_set (b_set W2.out (Nat.le_refl _) _) (Nat.le_refl _) _) (Nat.le_refl _) _) (Nat.le_refl _) _) (Nat.le_refl _) _
set_option maxRecDepth 100000 in
set_option maxHeartbeats 1000000 in
theorem at_range (A : Option Addr) (n c : Nat) (h : Int) (w : World) (C : Hid (WkC (.slice A n c) 0 w)) (hh : h < 0 ∨ 60000 < h) :
    Calls Tryz.prog 93 #[.slice A n c, .int .i64 h] w fun e w' => e = .returned (.tuple #[band 0 0 0 0 0, .int .i64 4]) ∧ Below w.heap.size w w' := by
  have W1 := Lib.hid (b_alloc (Below.refl w.heap.size w) (.cells #[.int .i64 0, .int .i64 0, .int .i64 0, .int .i64 0, .int .i64 0] 158))
  have N1 := Lib.hid (f5_new w 158)
  go_enter Tryz.func93, Tryz.ntmps93
  go_wp2_with fail
  (with_reducible refine (C.out _ W1.out).mono ?_); rintro e w2 ⟨rfl, hb⟩
  have W2 := Lib.hid (b_next W1.out hb); obtain ⟨⟨c0, c1, c2, c3, c4⟩, f0, f1, f2, f3, f4⟩ := f5_keep hb N1.out; clear hb
  rw [Nat.zero_add] at c1 c2 c3 c4
  go_wp2_with fail
  all_goals first
    | (exfalso; omega)
    | (refine bodyPost_ret (v := .tuple #[band 0 0 0 0 0, .int .i64 4]) (by simp [results, Tryz.results93, go_sem, c0, c1, c2, c3, c4]) rfl ⟨rfl, ?_⟩
       exact b_set (b_set (b_set (b_set (b_set W2.out (Nat.le_refl _) _) (Nat.le_refl _) _) (Nat.le_refl _) _) (Nat.le_refl _) _) (Nat.le_refl _) _)
set_option maxRecDepth 100000 in
set_option maxHeartbeats 4000000 in
theorem at_w (n cap b off : Nat) (L H X Y E : Nat → Int) (h : Int) (w : World) (hc : n ≤ cap) (hm : cap ≤ 9223372036854775807) (HV : Hid (∀ k, k < n → N5 w b (off + k * 5) (L k) (H k) (X k) (Y k) (E k))) (C : Hid (WkC (.slice (some ⟨b, off, none⟩) n cap) 0 w)) (h1 : 0 ≤ h) (h2 : h ≤ 60000) :
    Calls Tryz.prog 93 #[.slice (some ⟨b, off, none⟩) n cap, .int .i64 h] w fun e w' => e = .returned (.tuple #[band (pickW L 0 (fi L H h n) n) (pickW H 60001 (fi L H h n) n) (pickW X 0 (fi L H h n) n) (pickW Y 0 (fi L H h n) n) (pickW E 0 (fi L H h n) n), .int .i64 0]) ∧ Below w.heap.size w w' := by
  have W1 := Lib.hid (b_alloc (Below.refl w.heap.size w) (.cells #[.int .i64 0, .int .i64 0, .int .i64 0, .int .i64 0, .int .i64 0] 158))
  have N1 := Lib.hid (f5_new w 158)
  obtain ⟨R, hR⟩ : ∃ R : Value, R = .tuple #[band (pickW L 0 (fi L H h n) n) (pickW H 60001 (fi L H h n) n) (pickW X 0 (fi L H h n) n) (pickW Y 0 (fi L H h n) n) (pickW E 0 (fi L H h n) n), .int .i64 0] := ⟨_, rfl⟩
  rw [← hR]
  have HR := Lib.hid hR; clear hR
  have g1 : ¬ h < 0 := by omega
  have g2 : ¬ 60000 < h := by omega
  have hw : w.heap.size < w.heap.size + 1 := by omega
  go_enter Tryz.func93, Tryz.ntmps93
  go_wp2_with fail
  (with_reducible refine (C.out _ W1.out).mono ?_); rintro e w2 ⟨rfl, hb⟩
  have W2 := Lib.hid (b_next W1.out hb); have F2 := Lib.hid (f5_keep hb N1.out); clear hb
  go_wp2_with fail
  go_loopw [24] (fun s wr => ∃ k : Nat, k ≤ n ∧ s = .int .i64 k ∧ (∀ j, j < k → ¬ hit L H h j) ∧ Below w2.heap.size w2 wr) (fun s _ => n - (intOf s).toNat)
  case atStart => exact ⟨0, Nat.zero_le _, rfl, fun j hj => absurd hj (Nat.not_lt_zero j), Below.refl _ _⟩
  case round =>
    obtain ⟨k, hk, rfl, hn, hbl⟩ := hrel
    have HN := Lib.hid hn; have WR := Lib.hid hbl; have WT := Lib.hid (b_next W2.out hbl); clear hn
    by_cases hlt : k < n
    · have hl : (k : Int) < (n : Int) := by omega
      obtain ⟨c0, c1, c2, c3, c4⟩ := n5_keep WT.out (HV.out k hlt)
      have PN := Lib.hid (n5_new wr 158 (L k) (H k) (X k) (Y k) (E k))
      have WZ := Lib.hid (b_alloc WR.out (.cells #[.int .i64 (L k), .int .i64 (H k), .int .i64 (X k), .int .i64 (Y k), .int .i64 (E k)] 158))
      have WY := Lib.hid (b_alloc WT.out (.cells #[.int .i64 (L k), .int .i64 (H k), .int .i64 (X k), .int .i64 (Y k), .int .i64 (E k)] 158))
      have HIT : Hid (hit L H h k → R = .tuple #[band (L k) (H k) (X k) (Y k) (E k), .int .i64 0]) := Lib.hid fun q => by
        rw [HR.out, fi_hit HN.out q n hlt]; unfold pickW; simp only [if_pos hlt]
      have NO : Hid (¬ hit L H h k → ∀ j, j < k + 1 → ¬ hit L H h j) := Lib.hid fun q j hj => by
        rcases Nat.lt_or_ge j k with hl | hl
        · exact HN.out j hl
        · rw [show j = k from by omega]; exact q
      have HD : Hid (hit L H h k ↔ (L k ≤ h ∧ h < H k)) := Lib.hid Iff.rfl
      obtain ⟨⟨d0, d1, d2, d3, d4⟩, f0, f1, f2, f3, f4⟩ := f5_keep hbl F2.out
      rw [Nat.zero_add] at d1 d2 d3 d4
      have nn := new_ne d0
      clear hbl
      generalize L k = l at *
      generalize H k = hh at *
      generalize X k = x at *
      generalize Y k = y at *
      generalize E k = er at *
      by_cases p1 : l ≤ h
      · by_cases p2 : h < hh
        · have q := Lib.hid (HIT.out (HD.out.2 ⟨p1, p2⟩))
          have q1 := decide_eq_true p1; have q2 := decide_eq_true p2
          clear HIT NO
          go_wp2_with fail
          refine bodyPost_ret (v := .tuple #[band l hh x y er, .int .i64 0]) (by simp [results, Tryz.results93, go_sem, d0, d1, d2, d3, d4, nn]) rfl ⟨by rw [q.out], ?_⟩
          exact b_alloc (b_set (b_set (b_set (b_set (b_set WT.out (Nat.le_refl _) _) (Nat.le_refl _) _) (Nat.le_refl _) _) (Nat.le_refl _) _) (Nat.le_refl _) _) _
        · have q := Lib.hid (NO.out (fun t => p2 (HD.out.1 t).2))
          have q1 := decide_eq_true p1; have q2 := decide_eq_false p2
          clear HIT NO
          go_wp2_with fail
          all_goals first | (exfalso; omega) | exact ⟨⟨k + 1, by omega, by go_num, q.out, WZ.out⟩, by simp [intOf]; omega⟩
      · have q := Lib.hid (NO.out (fun t => p1 (HD.out.1 t).1))
        have q1 := decide_eq_false p1
        clear HIT NO
        go_wp2_with fail
        all_goals first | (exfalso; omega) | exact ⟨⟨k + 1, by omega, by go_num, q.out, WZ.out⟩, by simp [intOf]; omega⟩
    · have hkn : k = n := by omega
      have hl : ¬ (k : Int) < (n : Int) := by omega
      have HF : Hid (R = .tuple #[band 0 60001 0 0 0, .int .i64 0]) := Lib.hid (by
        rw [HR.out, fi_none (fun j hj => HN.out j (by omega))]; unfold pickW; simp only [if_neg (Nat.lt_irrefl n)])
      obtain ⟨⟨d0, d1, d2, d3, d4⟩, f0, f1, f2, f3, f4⟩ := f5_keep hbl F2.out
      rw [Nat.zero_add] at d1 d2 d3 d4
      clear hbl
      go_wp2_with fail
      refine bodyPost_ret (v := .tuple #[band 0 60001 0 0 0, .int .i64 0]) (by simp [results, Tryz.results93, go_sem, d0, d1, d2, d3, d4]) rfl ⟨by rw [HF.out], ?_⟩
      exact b_set (b_set (b_set (b_set (b_set WT.out (Nat.le_refl _) _) (Nat.le_refl _) _) (Nat.le_refl _) _) (Nat.le_refl _) _) (Nat.le_refl _) _
/-- What wind.At says. -/
def atE (L H X Y E : Nat → Int) (n : Nat) (h : Int) : Int := if wck L H X Y E n ≠ 0 then wck L H X Y E n else if h < 0 ∨ 60000 < h then 4 else 0
theorem at_none (A : Option Addr) (cap : Nat) (h : Int) (w : World) (C : Hid (WkC (.slice A 0 cap) 0 w)) (h1 : 0 ≤ h) (h2 : h ≤ 60000) :
    Calls Tryz.prog 93 #[.slice A 0 cap, .int .i64 h] w fun e w' => e = .returned (.tuple #[band 0 60001 0 0 0, .int .i64 0]) ∧ Below w.heap.size w w' := by
  have W1 := Lib.hid (b_alloc (Below.refl w.heap.size w) (.cells #[.int .i64 0, .int .i64 0, .int .i64 0, .int .i64 0, .int .i64 0] 158))
  have N1 := Lib.hid (f5_new w 158)
  have g1 : ¬ h < 0 := by omega
  have g2 : ¬ 60000 < h := by omega
  go_enter Tryz.func93, Tryz.ntmps93
  go_wp2_with fail
  (with_reducible refine (C.out _ W1.out).mono ?_); rintro e w2 ⟨rfl, hb⟩
  have W2 := Lib.hid (b_next W1.out hb); have F2 := Lib.hid (f5_keep hb N1.out); clear hb
  go_wp2_with fail
  go_loopw [24] (fun s wr => s = .int .i64 0 ∧ w2 = wr) (fun _ _ => 0)
  case atStart => exact ⟨rfl, rfl⟩
  case round =>
    obtain ⟨rfl, rfl⟩ := hrel
    obtain ⟨⟨d0, d1, d2, d3, d4⟩, f0, f1, f2, f3, f4⟩ := F2.out
    rw [Nat.zero_add] at d1 d2 d3 d4
    go_wp2_with fail
    refine bodyPost_ret (v := .tuple #[band 0 60001 0 0 0, .int .i64 0]) (by simp [results, Tryz.results93, go_sem, d0, d1, d2, d3, d4]) rfl ⟨rfl, ?_⟩
    exact b_set (b_set (b_set (b_set (b_set W2.out (Nat.le_refl _) _) (Nat.le_refl _) _) (Nat.le_refl _) _) (Nat.le_refl _) _) (Nat.le_refl _) _
theorem atC_bad {v : Value} {n : Nat} {L H X Y E : Nat → Int} {h : Int} {w : World} (hv : WV w v n L H X Y E) (he : atE L H X Y E n h ≠ 0) :
    Calls Tryz.prog 93 #[v, .int .i64 h] w fun e w' => e = .returned (.tuple #[band 0 0 0 0 0, .int .i64 (atE L H X Y E n h)]) ∧ Below w.heap.size w w' := by
  have C := checkC hv
  have hs : ∃ A c, v = .slice A n c := by
    rcases hv with ⟨h0, rfl | ⟨a, cap, rfl, -⟩⟩ | ⟨h0, b, off, cap, rfl, -⟩
    · exact ⟨_, _, by rw [h0]⟩
    · exact ⟨_, _, by rw [h0]⟩
    · exact ⟨_, _, rfl⟩
  obtain ⟨A, c, rfl⟩ := hs
  unfold atE at *
  by_cases hz : wck L H X Y E n ≠ 0
  · rw [if_pos hz]
    exact at_bad A n c h _ w (Lib.hid C) (by simpa using hz) (by simpa using hz)
  · rw [if_neg hz] at he ⊢
    rw [Classical.not_not.1 hz] at C
    by_cases hh : h < 0 ∨ 60000 < h
    · rw [if_pos hh]; exact at_range A n c h w (Lib.hid C) hh
    · rw [if_neg hh] at he; exact absurd rfl he
theorem atC_ok {v : Value} {n : Nat} {L H X Y E : Nat → Int} {h : Int} {w : World} (hv : WV w v n L H X Y E) (he : atE L H X Y E n h = 0) :
    Calls Tryz.prog 93 #[v, .int .i64 h] w fun e w' => e = .returned (.tuple #[band (pickW L 0 (fi L H h n) n) (pickW H 60001 (fi L H h n) n) (pickW X 0 (fi L H h n) n) (pickW Y 0 (fi L H h n) n) (pickW E 0 (fi L H h n) n), .int .i64 0]) ∧ Below w.heap.size w w' := by
  have C := checkC hv
  unfold atE at he
  have hz : wck L H X Y E n = 0 := by
    by_cases hz : wck L H X Y E n ≠ 0
    · rw [if_pos hz] at he; exact he
    · exact Classical.not_not.1 hz
  rw [if_neg (fun h => h hz)] at he
  have hh : 0 ≤ h ∧ h ≤ 60000 := by
    by_cases hh : h < 0 ∨ 60000 < h
    · rw [if_pos hh] at he; exact absurd he (by decide)
    · omega
  rw [hz] at C
  rcases hv with ⟨h0, hs⟩ | ⟨h0, b, off, cap, rfl, h1, h2, h3⟩
  · subst h0
    have e : ∀ f d i, pickW f d i 0 = d := fun f d i => by unfold pickW; rw [if_neg (Nat.not_lt_zero _)]
    simp only [e]
    rcases hs with rfl | ⟨a, cap, rfl, -⟩
    · exact at_none _ _ h w (Lib.hid C) hh.1 hh.2
    · exact at_none _ _ h w (Lib.hid C) hh.1 hh.2
  · exact at_w n cap b off L H X Y E h w h1 (Nat.le_trans h2 (by decide)) (Lib.hid h3) (Lib.hid C) hh.1 hh.2
end Wind
end Go.Proofs.YtmkglhoahdlogaaGreatDoor
namespace Go.Proofs.YtmkglhoahdlogaaGreatDoor
open Go.ChangeShapes Go.WideShapes Go.ChangeAt Go.RowKit
namespace Frame
section
variable {H : Type} {enc : TypeId × Value → H} {P : Program}
/-- The lifted contract of a law whose row lists variables: from its walk. -/
theorem lifted_laid {C : Checked} {os : Os} {s : ChangeSpec} {laid : List (String × DataW Unit)} (f : FuncId) (fn : Func)
    (own : ownKnob C.prog.godebug = none) (started : os.Started) (noInit : C.prog.inits.idxOf? f = none) (hfn : C.prog.funcs[f]? = some fn)
    (hl : laidOutB C.prog = true) (hvars : s.vars = [])
    (hparams : (fn.params.toList.all fun t => C.prog.readableRec t && decide (t < C.prog.types.size)) = true)
    (tb : TypeId) (hres : fn.resultTypes = #[tb]) (hb : C.prog.underlying tb = some .bool)
    (hspec : ∀ ds : List (DataW H), ds.length = fn.params.size → s.fn H (ds ++ []) = { results := [.lit (.bool true)], args := ds })
    (witness : ∃ (w : World) (tape : Tape) (i : Input), w.os = os ∧ (w.forCall tape i).Shaped C.prog ∧ i.vars = [] ∧ Input.okWide C.prog (w.forCall tape i) .any w.heap.size f i ∧
      ((s.pre enc C.prog fn [] false (w.forCall tape i).memory i.args ∧ laidMetH C.prog laid (w.forCall tape i).memory) ∧ sizedMet enc C.prog fn (OpenSpec.ofChange s) false (w.forCall tape i).memory i.args) ∧ ({} : Assume).holds C.prog (lone (Frame.enter C.prog f i.args .normal) [] (w.forCall tape i)))
    (walk : ∀ (W : World) (base : Nat) (args : Array Value) (ds : List (DataW H)) (ps : List MemPlace),
      (∀ (j : Nat) t v, fn.params[j]? = some t → args[j]? = some v → Value.okWide C.prog W .any base t v) →
      DataW.TrodAll enc C.prog W 0 (fun _ => true) true fn.params.toList args.toList ds ps → (∀ x ∈ ps, x.block < W.heap.size) → laidMetH C.prog laid W →
      Calls C.prog f args W fun e W' => e = .returned (.bool true) ∧ Below W.heap.size W W') :
    ReturnsInHanded {} C os f .any (fun w args => (s.pre enc C.prog fn [] false w args ∧ laidMetH C.prog laid w) ∧ sizedMet enc C.prog fn (OpenSpec.ofChange s) false w args) (s.post enc C.prog fn false true false false) := by
  refine returnsInHanded_of_change_and (X := fun w _ => laidMetH C.prog laid w) (fun _ _ _ hh h => h.of_heap hh) own started noInit hfn witness ?_
  intro W base args ds gs before hval hW _ _ hL _
  have hWk := hW
  obtain ⟨p, q, hA, hV, rfl, _, _⟩ := hW
  rw [hvars] at hV
  obtain ⟨rfl, rfl⟩ := trodVars_none hV
  have hlt : ∀ x ∈ p ++ [], x.block < W.heap.size := fun x hx => hWk.lt x hx
  have hlen : ds.length = fn.params.size := by
    have h : ∀ {ts : List TypeId} {vs : List Value} {ds : List (DataW H)} {ps : List MemPlace}, DataW.TrodAll enc C.prog W 0 (fun _ => true) true ts vs ds ps → ds.length = ts.length := by
      intro ts
      induction ts with
      | nil => intro vs ds ps h; obtain ⟨_, rfl, _⟩ := trodAll_nil h; rfl
      | cons t ts ih => intro vs ds ps h; obtain ⟨_, _, _, _, _, _, _, rfl, _, _, h2⟩ := trodAll_cons h; simp [ih h2]
    simpa using h hA
  refine (walk W base args ds p hval hA (fun x hx => hlt x (by simpa using hx)) hL).mono fun e W' ⟨he, hbl⟩ => ?_
  subst he
  have hp : p ++ [] = p := List.append_nil p
  refine ⟨_, rfl, ds, [], p ++ [], [], p, [], hWk, ?_, ?_, ?_, World.keptBut_mono (fun x hx => ⟨hx, Or.inr (Or.inl (by rw [← hp]; exact hx))⟩) (hbl.frame (· ∈ p ++ [])), fun h => by cases h⟩
  · rw [hspec ds hlen, hres]
    exact trodAll_cons_mk (shut_bool hb _) trodAll_mk0
  · rw [hspec ds hlen]
    exact trodAll_below hl hbl hparams hA (fun x hx => hlt x (by rw [hp]; exact hx))
  · rw [hspec ds hlen, hvars]
    exact rfl
/-- A float that reads as a datum. -/
theorem trod_float {w : World} {base fuel : Nat} {sp : Nat → Bool} {held : Bool} {t : TypeId} {k : FloatKind} {cs : List Value} {x : DataW H × List MemPlace} (ht : P.underlying t = some (.float k)) (h : DataW.trod enc P w base sp held fuel t cs = some x) : ∃ b, cs = [.float k b] ∧ x = (.lit (.float k b), []) := by
  cases fuel with
  | zero => simp [DataW.trod] at h
  | succ n =>
    unfold DataW.trod at h
    rw [ht] at h
    split at h <;> simp_all
/-- The variable NAME holds just these floats. -/
def FTabIs (P : Program) (w : World) (name : String) (k : FloatKind) (zs : List Nat) : Prop := w.var? P name = some (zs.map fun z => Value.float k z).toArray
theorem cells_of_ftab {w : World} {base : Nat} {sp : Nat → Bool} {held : Bool} {fuel : Nat} {t e : TypeId} {n : Nat} {k : FloatKind} {cs : List Value} {zs : List Nat} {p : List MemPlace}
    (ht : P.underlying t = some (.array n e)) (he : P.underlying e = some (.float k)) (hce : P.cellsOf e = 1) (hct : P.cellsOf t = n)
    (h : DataW.trod enc P w base sp held fuel t cs = some (.agg (zs.map fun z => .lit (.float k z)), p)) : cs = zs.map fun z => Value.float k z := by
  cases fuel with
  | zero => simp [DataW.trod] at h
  | succ fuel =>
    simp only [DataW.trod, ht, hce, hct, Nat.mul_one] at h
    split at h
    · rename_i hl
      obtain ⟨xs, hm, hx⟩ := Option.map_eq_some_iff.1 h
      have hxs : xs.map (·.1) = zs.map fun z => (DataW.lit (.float k z) : DataW H) := by
        have := congrArg Prod.fst hx
        simpa using this
      have hxl : xs.length = n := by simpa using Lib.mapM_length hm
      have hzl : zs.length = n := by
        have := congrArg List.length hxs
        simp at this
        omega
      apply List.ext_getElem?
      intro i
      by_cases hi : i < n
      · obtain ⟨b, hb, hf⟩ := Lib.mapM_at hm i i (by simp [hi])
        obtain ⟨z, hc, hz⟩ := trod_float he hf; rw [hz] at hb
        have h1 : cs[i]? = some (.float k z) := by
          have := congrArg (·[0]?) hc
          simpa [List.getElem?_take, List.getElem?_drop] using this
        have h2 : (xs.map (·.1))[i]? = some (DataW.lit (.float k z) : DataW H) := by simp [hb]
        rw [hxs] at h2
        simp only [List.getElem?_map, Option.map_eq_some_iff, DataW.lit.injEq, Lit.float.injEq, true_and] at h2
        obtain ⟨z', hz', rfl⟩ := h2
        simp [h1, hz']
      · rw [List.getElem?_eq_none (by omega), List.getElem?_eq_none (by simp; omega)]
    · cases h
end
/-- A listed array of floats: its cells. -/
theorem ftab_of {P : Program} {W : World} {l : List (String × DataW Unit)} {name : String} {k : FloatKind} {zs : List Nat} {g : Nat} {t e : TypeId} {n : Nat}
    (hg : P.globalNamed name = some g) (hty : (P.globals[g]?).map (·.type) = some t) (ht : P.underlying t = some (.array n e)) (he : P.underlying e = some (.float k)) (hce : P.cellsOf e = 1) (hct : P.cellsOf t = n)
    (hm : (name, .agg (zs.map fun z => .lit (.float k z))) ∈ l) (h : laidMet P l W) : FTabIs P W name k zs := by
  obtain ⟨ps, hv, -⟩ := h
  have key : ∀ (l : List (String × DataW Unit)) (ps : List MemPlace), DataW.LaidVars P W l ps → (name, DataW.agg (zs.map fun z => .lit (.float k z))) ∈ l → FTabIs P W name k zs := by
    intro l
    induction l with
    | nil => intro _ _ hm; cases hm
    | cons x r ih =>
      intro ps hv hm
      obtain ⟨g', t', cs, fuel, p, q, hg', ht', hvar, hd, hq, rfl⟩ := hv
      rcases List.mem_cons.1 hm with e | hm
      · subst e
        obtain rfl := Option.some.inj (hg.symm.trans hg')
        obtain rfl := Option.some.inj (hty.symm.trans ht')
        unfold FTabIs
        rw [hvar, ← cells_of_ftab ht he hce hct hd]
      · exact ih q hq hm
  exact key l ps hv hm
theorem FTabIs.cell {P : Program} {W : World} {name : String} {k : FloatKind} {zs : List Nat} {g : Nat} (h : FTabIs P W name k zs) (hg : P.globalNamed name = some g) (i : Nat) (hi : i < zs.length) :
    W.cell? ⟨g, i, none⟩ = some (.float k (zs.getD i 0)) := by
  have := World.var?_cell hg h i
  simpa [List.getD, hi] using this
end Frame
end Go.Proofs.YtmkglhoahdlogaaGreatDoor
namespace Go.Proofs.YtmkglhoahdlogaaGreatDoor
open Go.RowKit
namespace Ang
theorem tmod_pm (h : Int) : h.tmod 4096 = h % 4096 ∨ (h.tmod 4096 = h % 4096 - 4096) := by
  rcases (show 0 ≤ h ∨ h < 0 by omega) with h0 | h0
  · exact Or.inl (Int.tmod_eq_emod_of_nonneg h0)
  · have e : h.tmod 4096 = -((-h) % 4096) := by
      rw [← Int.tmod_eq_emod_of_nonneg (show 0 ≤ -h by omega), Int.neg_tmod, Int.neg_neg]
    rw [e]; omega
theorem norm_eq (h : Int) : (wrap64 (h.tmod 4096 + 4096)).tmod 4096 = h % 4096 := by
  have hb : -4096 ≤ h.tmod 4096 ∧ h.tmod 4096 < 4096 := by rcases tmod_pm h with e | e <;> rw [e] <;> omega
  have hp : 0 ≤ h.tmod 4096 + 4096 := by omega
  rw [IntWalk.wrap64_in _ (by omega), Int.tmod_eq_emod_of_nonneg hp]
  rcases tmod_pm h with e | e <;> rw [e] <;> omega
theorem norm_w (h : Int) (w : World) : Calls Tryz.prog 110 #[.int .i64 h] w fun e w' => e = .returned (.int .i64 (h % 4096)) ∧ w = w' := by
  go_enter Tryz.func110, Tryz.ntmps110
  go_wp2
  go_ret
  exact ⟨Kit.ret1 (norm_eq h), rfl⟩
theorem to_bits (b : Nat) (w : World) : (callFunc 134 #[.float .f64 b]).run Tryz.prog w = .ok (.value (.int .u64 b)) w := by
  rw [run_callFunc_extern (e := Extern.MathFloatBits.float64bits) Tryz.func134 (by kernel_rfl) (by kernel_rfl) (by kernel_rfl) (by kernel_rfl)]
  rfl
theorem of_bits (n : Int) (w : World) : (callFunc 135 #[.int .u64 n]).run Tryz.prog w = .ok (.value (.float .f64 n.toNat)) w := by
  rw [run_callFunc_extern (e := Extern.MathFloatBits.float64frombits) Tryz.func135 (by kernel_rfl) (by kernel_rfl) (by kernel_rfl) (by kernel_rfl)]
  rfl
/-- math.Round, on bits. -/
def roundB (b : Nat) : Nat :=
  if bits .and .u64 ((b : Int) / 4503599627370496) 2047 < 1023 then
    (if (bits .and .u64 ((b : Int) / 4503599627370496) 2047 == 1022) = true then (bits .or .u64 (bits .and .u64 (b : Int) 9223372036854775808) 4607182418800017408).toNat else (bits .and .u64 (b : Int) 9223372036854775808).toNat)
  else if bits .and .u64 ((b : Int) / 4503599627370496) 2047 < 1075 then
    (bits .andNot .u64 (IntKind.u64.wrap ((b : Int) + 2251799813685248 / 2 ^ (bits .and .u64 ((b : Int) / 4503599627370496) 2047 - 1023).toNat)) (4503599627370495 / 2 ^ (bits .and .u64 ((b : Int) / 4503599627370496) 2047 - 1023).toNat)).toNat
  else b
theorem retf {a c : Nat} (h : a = c) : Ending.returned (.float .f64 a) = .returned (.float .f64 c) := by rw [h]
set_option maxRecDepth 100000 in
set_option maxHeartbeats 400000 in
theorem round_w (b : Nat) (w : World) : Calls Tryz.prog 124 #[.float .f64 b] w fun e w' => e = .returned (.float .f64 (roundB b)) ∧ w = w' := by
  have tb := to_bits; have ob := of_bits
  obtain ⟨R, hR⟩ : ∃ R, R = roundB b := ⟨_, rfl⟩
  rw [← hR]
  unfold roundB at hR
  obtain ⟨e, he⟩ : ∃ e, bits .and .u64 ((b : Int) / 4503599627370496) 2047 = e := ⟨_, rfl⟩
  rw [he] at hR
  by_cases h1 : e < 1023
  · rw [if_pos h1] at hR
    cases h2 : (e == 1022) with
    | true =>
      rw [if_pos h2] at hR
      have HR := Lib.hid hR; clear hR
      go_enter Tryz.func124, Tryz.ntmps124
      go_wp2
      go_ret
      exact ⟨retf HR.out.symm, rfl⟩
    | false =>
      rw [if_neg (by rw [h2]; decide)] at hR
      have HR := Lib.hid hR; clear hR
      go_enter Tryz.func124, Tryz.ntmps124
      go_wp2
      go_ret
      exact ⟨retf HR.out.symm, rfl⟩
  · rw [if_neg h1] at hR
    by_cases h2 : e < 1075
    · rw [if_pos h2] at hR
      have HR := Lib.hid hR; clear hR
      go_enter Tryz.func124, Tryz.ntmps124
      go_wp2
      go_ret
      exact ⟨retf HR.out.symm, rfl⟩
    · rw [if_neg h2] at hR
      have HR := Lib.hid hR; clear hR
      go_enter Tryz.func124, Tryz.ntmps124
      go_wp2
      go_ret
      exact ⟨retf (by rw [HR.out]), rfl⟩
set_option maxRecDepth 100000 in
theorem abs_w (b : Nat) (w : World) : Calls Tryz.prog 138 #[.float .f64 b] w fun e w' => e = .returned (.float .f64 (bits .andNot .u64 (b : Int) 9223372036854775808).toNat) ∧ w = w' := by
  have tb := to_bits; have ob := of_bits
  go_enter Tryz.func138, Tryz.ntmps138
  go_wp2
  go_ret
  exact ⟨by first | rfl | trivial, rfl⟩
theorem nan_w (b : Nat) (w : World) (h : (FloatKind.f64.format.order b b != some .eq) = false) : Calls Tryz.prog 127 #[.float .f64 b] w fun e w' => e = .returned (.bool false) ∧ w = w' := by
  go_enter Tryz.func127, Tryz.ntmps127
  go_wp2
  go_ret
  exact ⟨by first | rfl | trivial, rfl⟩
theorem inf_w (b : Nat) (w : World) (h : (FloatKind.f64.format.order (bits .andNot .u64 (b : Int) 9223372036854775808).toNat 9218868437227405311 == some .gt) = false) : Calls Tryz.prog 128 #[.float .f64 b, .int .i64 0] w fun e w' => e = .returned (.bool false) ∧ w = w' := by
  go_enter Tryz.func128, Tryz.ntmps128
  go_wp2_with fail
  (with_reducible refine (abs_w b _).mono ?_); rintro e w1 ⟨rfl, rfl⟩
  generalize (bits .andNot .u64 (b : Int) 9223372036854775808).toNat = a at *
  go_wp2_with fail
  go_ret
  exact ⟨by first | rfl | trivial, rfl⟩
abbrev Ar (op : BinOp) (x y r : Nat) : Prop := floatBits op .f64 x y = some r
theorem ar_run {op : BinOp} {x y r : Nat} (h : Ar op x y r) : ∀ (t : TypeId) (w : World), (binOp op t (.float .f64 x) (.float .f64 y)).run Tryz.prog w = .ok (.float .f64 r) w := fun t w => run_float_arith w op t .f64 x y r h
theorem neg_run {P : Program} (b : Nat) (w : World) : (Op.unary .neg (.float .f64 b)).run P w = .ok (.float .f64 (Op.negFloat .f64 b)) w := rfl
/-- What math.sin asks of its argument. -/
structure Fine (x : Nat) : Prop where
  n0 : (FloatKind.f64.format.order x 0 == some .eq) = false
  nn : (FloatKind.f64.format.order x x != some .eq) = false
  ni : (FloatKind.f64.format.order (bits .andNot .u64 (x : Int) 9223372036854775808).toNat 9218868437227405311 == some .gt) = false
  pos : (FloatKind.f64.format.order x 0 == some .lt) = false
  lo1 : (FloatKind.f64.format.order x 4737786807993761792 == some .gt) = false
  lo2 : (FloatKind.f64.format.order x 4737786807993761792 == some .eq) = false
/-- The tables of math.sin. -/
structure Tabs (w : World) : Prop where
  c0 : w.cell? ⟨1, 0, none⟩ = some (.float .f64 13666448263388469915)
  c1 : w.cell? ⟨1, 1, none⟩ = some (.float .f64 4477121864728985349)
  c2 : w.cell? ⟨1, 2, none⟩ = some (.float .f64 13732177093698800582)
  c3 : w.cell? ⟨1, 3, none⟩ = some (.float .f64 4537941361668146421)
  c4 : w.cell? ⟨1, 4, none⟩ = some (.float .f64 13787419979223748497)
  c5 : w.cell? ⟨1, 5, none⟩ = some (.float .f64 4586165620538955083)
  s0 : w.cell? ⟨2, 0, none⟩ = some (.float .f64 4460209587652500685)
  s1 : w.cell? ⟨2, 1, none⟩ = some (.float .f64 13716528389658582877)
  s2 : w.cell? ⟨2, 2, none⟩ = some (.float .f64 4523617212962785441)
  s3 : w.cell? ⟨2, 3, none⟩ = some (.float .f64 13774824197404483331)
  s4 : w.cell? ⟨2, 4, none⟩ = some (.float .f64 4575957461383575504)
  s5 : w.cell? ⟨2, 5, none⟩ = some (.float .f64 13818544856648471880)
set_option maxRecDepth 100000 in
set_option maxHeartbeats 1000000 in
theorem sin_0 (x m p1 d1 p2 d2 p3 z zz z2 a1 b1 a2 b2 a3 b3 a4 b4 a5 b5 q v : Nat) (w : World) (F : Fine x) (T : Tabs w) (J : floatToIntVal .f64 m .u64 = some 0) (A0 : Ar .mul x 4608412980311869571 m) (A1 : Ar .mul 0 4605249456957292544 p1) (A2 : Ar .sub x p1 d1) (A3 : Ar .mul 0 4495793288086814720 p2) (A4 : Ar .sub d1 p2 d2) (A5 : Ar .mul 0 4388835458085048688 p3) (A6 : Ar .sub d2 p3 z) (A7 : Ar .mul z z zz) (A8 : Ar .mul z zz z2) (A9 : Ar .mul 4460209587652500685 zz a1) (A10 : Ar .add a1 13716528389658582877 b1) (A11 : Ar .mul b1 zz a2) (A12 : Ar .add a2 4523617212962785441 b2) (A13 : Ar .mul b2 zz a3) (A14 : Ar .add a3 13774824197404483331 b3) (A15 : Ar .mul b3 zz a4) (A16 : Ar .add a4 4575957461383575504 b4) (A17 : Ar .mul b4 zz a5) (A18 : Ar .add a5 13818544856648471880 b5) (A19 : Ar .mul z2 b5 q) (A20 : Ar .add z q v) :
    Calls Tryz.prog 137 #[.float .f64 x] w fun e w' => e = .returned (.float .f64 (v)) ∧ w = w' := by
  obtain ⟨f0, fn, fi, fp, f1, f2⟩ := F
  have FN := Lib.hid fn; have FI := Lib.hid fi; clear fn fi
  obtain ⟨c0, c1, c2, c3, c4, c5, s0, s1, s2, s3, s4, s5⟩ := T
  have r0 := ar_run A0
  have r1 := ar_run A1
  have r2 := ar_run A2
  have r3 := ar_run A3
  have r4 := ar_run A4
  have r5 := ar_run A5
  have r6 := ar_run A6
  have r7 := ar_run A7
  have r8 := ar_run A8
  have r9 := ar_run A9
  have r10 := ar_run A10
  have r11 := ar_run A11
  have r12 := ar_run A12
  have r13 := ar_run A13
  have r14 := ar_run A14
  have r15 := ar_run A15
  have r16 := ar_run A16
  have r17 := ar_run A17
  have r18 := ar_run A18
  have r19 := ar_run A19
  have r20 := ar_run A20
  have rj : ∀ w, (convert 179 142 (.float .f64 m)).run Tryz.prog w = .ok (.int .u64 0) w := fun w => run_convert_float_int w _ _ .f64 .u64 m 0 (by rw [Tryz.underlying179]; rfl) Tryz.underlying142 J
  have rk : ∀ w, (convert 142 179 (.int .u64 0)).run Tryz.prog w = .ok (.float .f64 0) w := fun w => run_convert_int_float w _ _ .u64 .f64 0 (by rw [Tryz.underlying142]; rfl) Tryz.underlying179
  have rn := neg_run (P := Tryz.prog)
  clear A0 A1 A2 A3 A4 A5 A6 A7 A8 A9 A10 A11 A12 A13 A14 A15 A16 A17 A18 A19 A20 J
  go_enter Tryz.func137, Tryz.ntmps137
  go_wp2_with fail
  (with_reducible refine (nan_w x _ FN.out).mono ?_); rintro e w1 ⟨rfl, rfl⟩
  go_wp2_with fail
  (with_reducible refine (inf_w x _ FI.out).mono ?_); rintro e w1 ⟨rfl, rfl⟩
  go_wp2_with fail
  go_ret
  exact ⟨by first | rfl | trivial, rfl⟩
set_option maxRecDepth 100000 in
set_option maxHeartbeats 1000000 in
theorem sin_1 (x m p1 d1 p2 d2 p3 z zz h1 h2 z2 a1 b1 a2 b2 a3 b3 a4 b4 a5 b5 q v : Nat) (w : World) (F : Fine x) (T : Tabs w) (J : floatToIntVal .f64 m .u64 = some 1) (A0 : Ar .mul x 4608412980311869571 m) (A1 : Ar .mul 4611686018427387904 4605249456957292544 p1) (A2 : Ar .sub x p1 d1) (A3 : Ar .mul 4611686018427387904 4495793288086814720 p2) (A4 : Ar .sub d1 p2 d2) (A5 : Ar .mul 4611686018427387904 4388835458085048688 p3) (A6 : Ar .sub d2 p3 z) (A7 : Ar .mul z z zz) (A8 : Ar .mul 4602678819172646912 zz h1) (A9 : Ar .sub 4607182418800017408 h1 h2) (A10 : Ar .mul zz zz z2) (A11 : Ar .mul 13666448263388469915 zz a1) (A12 : Ar .add a1 4477121864728985349 b1) (A13 : Ar .mul b1 zz a2) (A14 : Ar .add a2 13732177093698800582 b2) (A15 : Ar .mul b2 zz a3) (A16 : Ar .add a3 4537941361668146421 b3) (A17 : Ar .mul b3 zz a4) (A18 : Ar .add a4 13787419979223748497 b4) (A19 : Ar .mul b4 zz a5) (A20 : Ar .add a5 4586165620538955083 b5) (A21 : Ar .mul z2 b5 q) (A22 : Ar .add h2 q v) :
    Calls Tryz.prog 137 #[.float .f64 x] w fun e w' => e = .returned (.float .f64 (v)) ∧ w = w' := by
  obtain ⟨f0, fn, fi, fp, f1, f2⟩ := F
  have FN := Lib.hid fn; have FI := Lib.hid fi; clear fn fi
  obtain ⟨c0, c1, c2, c3, c4, c5, s0, s1, s2, s3, s4, s5⟩ := T
  have r0 := ar_run A0
  have r1 := ar_run A1
  have r2 := ar_run A2
  have r3 := ar_run A3
  have r4 := ar_run A4
  have r5 := ar_run A5
  have r6 := ar_run A6
  have r7 := ar_run A7
  have r8 := ar_run A8
  have r9 := ar_run A9
  have r10 := ar_run A10
  have r11 := ar_run A11
  have r12 := ar_run A12
  have r13 := ar_run A13
  have r14 := ar_run A14
  have r15 := ar_run A15
  have r16 := ar_run A16
  have r17 := ar_run A17
  have r18 := ar_run A18
  have r19 := ar_run A19
  have r20 := ar_run A20
  have r21 := ar_run A21
  have r22 := ar_run A22
  have ry := ar_run (show Ar .add 4607182418800017408 4607182418800017408 4611686018427387904 by unfold Ar; kernel_rfl)
  have rj : ∀ w, (convert 179 142 (.float .f64 m)).run Tryz.prog w = .ok (.int .u64 1) w := fun w => run_convert_float_int w _ _ .f64 .u64 m 1 (by rw [Tryz.underlying179]; rfl) Tryz.underlying142 J
  have rk : ∀ w, (convert 142 179 (.int .u64 1)).run Tryz.prog w = .ok (.float .f64 4607182418800017408) w := fun w => run_convert_int_float w _ _ .u64 .f64 1 (by rw [Tryz.underlying142]; rfl) Tryz.underlying179
  have rn := neg_run (P := Tryz.prog)
  clear A0 A1 A2 A3 A4 A5 A6 A7 A8 A9 A10 A11 A12 A13 A14 A15 A16 A17 A18 A19 A20 A21 A22 J
  go_enter Tryz.func137, Tryz.ntmps137
  go_wp2_with fail
  (with_reducible refine (nan_w x _ FN.out).mono ?_); rintro e w1 ⟨rfl, rfl⟩
  go_wp2_with fail
  (with_reducible refine (inf_w x _ FI.out).mono ?_); rintro e w1 ⟨rfl, rfl⟩
  go_wp2_with fail
  go_ret
  exact ⟨by first | rfl | trivial, rfl⟩
set_option maxRecDepth 100000 in
set_option maxHeartbeats 1000000 in
theorem sin_2 (x m p1 d1 p2 d2 p3 z zz h1 h2 z2 a1 b1 a2 b2 a3 b3 a4 b4 a5 b5 q v : Nat) (w : World) (F : Fine x) (T : Tabs w) (J : floatToIntVal .f64 m .u64 = some 2) (A0 : Ar .mul x 4608412980311869571 m) (A1 : Ar .mul 4611686018427387904 4605249456957292544 p1) (A2 : Ar .sub x p1 d1) (A3 : Ar .mul 4611686018427387904 4495793288086814720 p2) (A4 : Ar .sub d1 p2 d2) (A5 : Ar .mul 4611686018427387904 4388835458085048688 p3) (A6 : Ar .sub d2 p3 z) (A7 : Ar .mul z z zz) (A8 : Ar .mul 4602678819172646912 zz h1) (A9 : Ar .sub 4607182418800017408 h1 h2) (A10 : Ar .mul zz zz z2) (A11 : Ar .mul 13666448263388469915 zz a1) (A12 : Ar .add a1 4477121864728985349 b1) (A13 : Ar .mul b1 zz a2) (A14 : Ar .add a2 13732177093698800582 b2) (A15 : Ar .mul b2 zz a3) (A16 : Ar .add a3 4537941361668146421 b3) (A17 : Ar .mul b3 zz a4) (A18 : Ar .add a4 13787419979223748497 b4) (A19 : Ar .mul b4 zz a5) (A20 : Ar .add a5 4586165620538955083 b5) (A21 : Ar .mul z2 b5 q) (A22 : Ar .add h2 q v) :
    Calls Tryz.prog 137 #[.float .f64 x] w fun e w' => e = .returned (.float .f64 (v)) ∧ w = w' := by
  obtain ⟨f0, fn, fi, fp, f1, f2⟩ := F
  have FN := Lib.hid fn; have FI := Lib.hid fi; clear fn fi
  obtain ⟨c0, c1, c2, c3, c4, c5, s0, s1, s2, s3, s4, s5⟩ := T
  have r0 := ar_run A0
  have r1 := ar_run A1
  have r2 := ar_run A2
  have r3 := ar_run A3
  have r4 := ar_run A4
  have r5 := ar_run A5
  have r6 := ar_run A6
  have r7 := ar_run A7
  have r8 := ar_run A8
  have r9 := ar_run A9
  have r10 := ar_run A10
  have r11 := ar_run A11
  have r12 := ar_run A12
  have r13 := ar_run A13
  have r14 := ar_run A14
  have r15 := ar_run A15
  have r16 := ar_run A16
  have r17 := ar_run A17
  have r18 := ar_run A18
  have r19 := ar_run A19
  have r20 := ar_run A20
  have r21 := ar_run A21
  have r22 := ar_run A22
  have rj : ∀ w, (convert 179 142 (.float .f64 m)).run Tryz.prog w = .ok (.int .u64 2) w := fun w => run_convert_float_int w _ _ .f64 .u64 m 2 (by rw [Tryz.underlying179]; rfl) Tryz.underlying142 J
  have rk : ∀ w, (convert 142 179 (.int .u64 2)).run Tryz.prog w = .ok (.float .f64 4611686018427387904) w := fun w => run_convert_int_float w _ _ .u64 .f64 2 (by rw [Tryz.underlying142]; rfl) Tryz.underlying179
  have rn := neg_run (P := Tryz.prog)
  clear A0 A1 A2 A3 A4 A5 A6 A7 A8 A9 A10 A11 A12 A13 A14 A15 A16 A17 A18 A19 A20 A21 A22 J
  go_enter Tryz.func137, Tryz.ntmps137
  go_wp2_with fail
  (with_reducible refine (nan_w x _ FN.out).mono ?_); rintro e w1 ⟨rfl, rfl⟩
  go_wp2_with fail
  (with_reducible refine (inf_w x _ FI.out).mono ?_); rintro e w1 ⟨rfl, rfl⟩
  go_wp2_with fail
  go_ret
  exact ⟨by first | rfl | trivial, rfl⟩
set_option maxRecDepth 100000 in
set_option maxHeartbeats 1000000 in
theorem sin_3 (x m p1 d1 p2 d2 p3 z zz z2 a1 b1 a2 b2 a3 b3 a4 b4 a5 b5 q v : Nat) (w : World) (F : Fine x) (T : Tabs w) (J : floatToIntVal .f64 m .u64 = some 3) (A0 : Ar .mul x 4608412980311869571 m) (A1 : Ar .mul 4616189618054758400 4605249456957292544 p1) (A2 : Ar .sub x p1 d1) (A3 : Ar .mul 4616189618054758400 4495793288086814720 p2) (A4 : Ar .sub d1 p2 d2) (A5 : Ar .mul 4616189618054758400 4388835458085048688 p3) (A6 : Ar .sub d2 p3 z) (A7 : Ar .mul z z zz) (A8 : Ar .mul z zz z2) (A9 : Ar .mul 4460209587652500685 zz a1) (A10 : Ar .add a1 13716528389658582877 b1) (A11 : Ar .mul b1 zz a2) (A12 : Ar .add a2 4523617212962785441 b2) (A13 : Ar .mul b2 zz a3) (A14 : Ar .add a3 13774824197404483331 b3) (A15 : Ar .mul b3 zz a4) (A16 : Ar .add a4 4575957461383575504 b4) (A17 : Ar .mul b4 zz a5) (A18 : Ar .add a5 13818544856648471880 b5) (A19 : Ar .mul z2 b5 q) (A20 : Ar .add z q v) :
    Calls Tryz.prog 137 #[.float .f64 x] w fun e w' => e = .returned (.float .f64 (Op.negFloat .f64 v)) ∧ w = w' := by
  obtain ⟨f0, fn, fi, fp, f1, f2⟩ := F
  have FN := Lib.hid fn; have FI := Lib.hid fi; clear fn fi
  obtain ⟨c0, c1, c2, c3, c4, c5, s0, s1, s2, s3, s4, s5⟩ := T
  have r0 := ar_run A0
  have r1 := ar_run A1
  have r2 := ar_run A2
  have r3 := ar_run A3
  have r4 := ar_run A4
  have r5 := ar_run A5
  have r6 := ar_run A6
  have r7 := ar_run A7
  have r8 := ar_run A8
  have r9 := ar_run A9
  have r10 := ar_run A10
  have r11 := ar_run A11
  have r12 := ar_run A12
  have r13 := ar_run A13
  have r14 := ar_run A14
  have r15 := ar_run A15
  have r16 := ar_run A16
  have r17 := ar_run A17
  have r18 := ar_run A18
  have r19 := ar_run A19
  have r20 := ar_run A20
  have ry := ar_run (show Ar .add 4613937818241073152 4607182418800017408 4616189618054758400 by unfold Ar; kernel_rfl)
  have rj : ∀ w, (convert 179 142 (.float .f64 m)).run Tryz.prog w = .ok (.int .u64 3) w := fun w => run_convert_float_int w _ _ .f64 .u64 m 3 (by rw [Tryz.underlying179]; rfl) Tryz.underlying142 J
  have rk : ∀ w, (convert 142 179 (.int .u64 3)).run Tryz.prog w = .ok (.float .f64 4613937818241073152) w := fun w => run_convert_int_float w _ _ .u64 .f64 3 (by rw [Tryz.underlying142]; rfl) Tryz.underlying179
  have rn := neg_run (P := Tryz.prog)
  clear A0 A1 A2 A3 A4 A5 A6 A7 A8 A9 A10 A11 A12 A13 A14 A15 A16 A17 A18 A19 A20 J
  go_enter Tryz.func137, Tryz.ntmps137
  go_wp2_with fail
  (with_reducible refine (nan_w x _ FN.out).mono ?_); rintro e w1 ⟨rfl, rfl⟩
  go_wp2_with fail
  (with_reducible refine (inf_w x _ FI.out).mono ?_); rintro e w1 ⟨rfl, rfl⟩
  go_wp2_with fail
  go_ret
  exact ⟨by first | rfl | trivial, rfl⟩
set_option maxRecDepth 100000 in
set_option maxHeartbeats 1000000 in
theorem sin_4 (x m p1 d1 p2 d2 p3 z zz z2 a1 b1 a2 b2 a3 b3 a4 b4 a5 b5 q v : Nat) (w : World) (F : Fine x) (T : Tabs w) (J : floatToIntVal .f64 m .u64 = some 4) (A0 : Ar .mul x 4608412980311869571 m) (A1 : Ar .mul 4616189618054758400 4605249456957292544 p1) (A2 : Ar .sub x p1 d1) (A3 : Ar .mul 4616189618054758400 4495793288086814720 p2) (A4 : Ar .sub d1 p2 d2) (A5 : Ar .mul 4616189618054758400 4388835458085048688 p3) (A6 : Ar .sub d2 p3 z) (A7 : Ar .mul z z zz) (A8 : Ar .mul z zz z2) (A9 : Ar .mul 4460209587652500685 zz a1) (A10 : Ar .add a1 13716528389658582877 b1) (A11 : Ar .mul b1 zz a2) (A12 : Ar .add a2 4523617212962785441 b2) (A13 : Ar .mul b2 zz a3) (A14 : Ar .add a3 13774824197404483331 b3) (A15 : Ar .mul b3 zz a4) (A16 : Ar .add a4 4575957461383575504 b4) (A17 : Ar .mul b4 zz a5) (A18 : Ar .add a5 13818544856648471880 b5) (A19 : Ar .mul z2 b5 q) (A20 : Ar .add z q v) :
    Calls Tryz.prog 137 #[.float .f64 x] w fun e w' => e = .returned (.float .f64 (Op.negFloat .f64 v)) ∧ w = w' := by
  obtain ⟨f0, fn, fi, fp, f1, f2⟩ := F
  have FN := Lib.hid fn; have FI := Lib.hid fi; clear fn fi
  obtain ⟨c0, c1, c2, c3, c4, c5, s0, s1, s2, s3, s4, s5⟩ := T
  have r0 := ar_run A0
  have r1 := ar_run A1
  have r2 := ar_run A2
  have r3 := ar_run A3
  have r4 := ar_run A4
  have r5 := ar_run A5
  have r6 := ar_run A6
  have r7 := ar_run A7
  have r8 := ar_run A8
  have r9 := ar_run A9
  have r10 := ar_run A10
  have r11 := ar_run A11
  have r12 := ar_run A12
  have r13 := ar_run A13
  have r14 := ar_run A14
  have r15 := ar_run A15
  have r16 := ar_run A16
  have r17 := ar_run A17
  have r18 := ar_run A18
  have r19 := ar_run A19
  have r20 := ar_run A20
  have rj : ∀ w, (convert 179 142 (.float .f64 m)).run Tryz.prog w = .ok (.int .u64 4) w := fun w => run_convert_float_int w _ _ .f64 .u64 m 4 (by rw [Tryz.underlying179]; rfl) Tryz.underlying142 J
  have rk : ∀ w, (convert 142 179 (.int .u64 4)).run Tryz.prog w = .ok (.float .f64 4616189618054758400) w := fun w => run_convert_int_float w _ _ .u64 .f64 4 (by rw [Tryz.underlying142]; rfl) Tryz.underlying179
  have rn := neg_run (P := Tryz.prog)
  clear A0 A1 A2 A3 A4 A5 A6 A7 A8 A9 A10 A11 A12 A13 A14 A15 A16 A17 A18 A19 A20 J
  go_enter Tryz.func137, Tryz.ntmps137
  go_wp2_with fail
  (with_reducible refine (nan_w x _ FN.out).mono ?_); rintro e w1 ⟨rfl, rfl⟩
  go_wp2_with fail
  (with_reducible refine (inf_w x _ FI.out).mono ?_); rintro e w1 ⟨rfl, rfl⟩
  go_wp2_with fail
  go_ret
  exact ⟨by first | rfl | trivial, rfl⟩
set_option maxRecDepth 100000 in
set_option maxHeartbeats 1000000 in
theorem sin_5 (x m p1 d1 p2 d2 p3 z zz h1 h2 z2 a1 b1 a2 b2 a3 b3 a4 b4 a5 b5 q v : Nat) (w : World) (F : Fine x) (T : Tabs w) (J : floatToIntVal .f64 m .u64 = some 5) (A0 : Ar .mul x 4608412980311869571 m) (A1 : Ar .mul 4618441417868443648 4605249456957292544 p1) (A2 : Ar .sub x p1 d1) (A3 : Ar .mul 4618441417868443648 4495793288086814720 p2) (A4 : Ar .sub d1 p2 d2) (A5 : Ar .mul 4618441417868443648 4388835458085048688 p3) (A6 : Ar .sub d2 p3 z) (A7 : Ar .mul z z zz) (A8 : Ar .mul 4602678819172646912 zz h1) (A9 : Ar .sub 4607182418800017408 h1 h2) (A10 : Ar .mul zz zz z2) (A11 : Ar .mul 13666448263388469915 zz a1) (A12 : Ar .add a1 4477121864728985349 b1) (A13 : Ar .mul b1 zz a2) (A14 : Ar .add a2 13732177093698800582 b2) (A15 : Ar .mul b2 zz a3) (A16 : Ar .add a3 4537941361668146421 b3) (A17 : Ar .mul b3 zz a4) (A18 : Ar .add a4 13787419979223748497 b4) (A19 : Ar .mul b4 zz a5) (A20 : Ar .add a5 4586165620538955083 b5) (A21 : Ar .mul z2 b5 q) (A22 : Ar .add h2 q v) :
    Calls Tryz.prog 137 #[.float .f64 x] w fun e w' => e = .returned (.float .f64 (Op.negFloat .f64 v)) ∧ w = w' := by
  obtain ⟨f0, fn, fi, fp, f1, f2⟩ := F
  have FN := Lib.hid fn; have FI := Lib.hid fi; clear fn fi
  obtain ⟨c0, c1, c2, c3, c4, c5, s0, s1, s2, s3, s4, s5⟩ := T
  have r0 := ar_run A0
  have r1 := ar_run A1
  have r2 := ar_run A2
  have r3 := ar_run A3
  have r4 := ar_run A4
  have r5 := ar_run A5
  have r6 := ar_run A6
  have r7 := ar_run A7
  have r8 := ar_run A8
  have r9 := ar_run A9
  have r10 := ar_run A10
  have r11 := ar_run A11
  have r12 := ar_run A12
  have r13 := ar_run A13
  have r14 := ar_run A14
  have r15 := ar_run A15
  have r16 := ar_run A16
  have r17 := ar_run A17
  have r18 := ar_run A18
  have r19 := ar_run A19
  have r20 := ar_run A20
  have r21 := ar_run A21
  have r22 := ar_run A22
  have ry := ar_run (show Ar .add 4617315517961601024 4607182418800017408 4618441417868443648 by unfold Ar; kernel_rfl)
  have rj : ∀ w, (convert 179 142 (.float .f64 m)).run Tryz.prog w = .ok (.int .u64 5) w := fun w => run_convert_float_int w _ _ .f64 .u64 m 5 (by rw [Tryz.underlying179]; rfl) Tryz.underlying142 J
  have rk : ∀ w, (convert 142 179 (.int .u64 5)).run Tryz.prog w = .ok (.float .f64 4617315517961601024) w := fun w => run_convert_int_float w _ _ .u64 .f64 5 (by rw [Tryz.underlying142]; rfl) Tryz.underlying179
  have rn := neg_run (P := Tryz.prog)
  clear A0 A1 A2 A3 A4 A5 A6 A7 A8 A9 A10 A11 A12 A13 A14 A15 A16 A17 A18 A19 A20 A21 A22 J
  go_enter Tryz.func137, Tryz.ntmps137
  go_wp2_with fail
  (with_reducible refine (nan_w x _ FN.out).mono ?_); rintro e w1 ⟨rfl, rfl⟩
  go_wp2_with fail
  (with_reducible refine (inf_w x _ FI.out).mono ?_); rintro e w1 ⟨rfl, rfl⟩
  go_wp2_with fail
  go_ret
  exact ⟨by first | rfl | trivial, rfl⟩
set_option maxRecDepth 100000 in
set_option maxHeartbeats 1000000 in
theorem sin_6 (x m p1 d1 p2 d2 p3 z zz h1 h2 z2 a1 b1 a2 b2 a3 b3 a4 b4 a5 b5 q v : Nat) (w : World) (F : Fine x) (T : Tabs w) (J : floatToIntVal .f64 m .u64 = some 6) (A0 : Ar .mul x 4608412980311869571 m) (A1 : Ar .mul 4618441417868443648 4605249456957292544 p1) (A2 : Ar .sub x p1 d1) (A3 : Ar .mul 4618441417868443648 4495793288086814720 p2) (A4 : Ar .sub d1 p2 d2) (A5 : Ar .mul 4618441417868443648 4388835458085048688 p3) (A6 : Ar .sub d2 p3 z) (A7 : Ar .mul z z zz) (A8 : Ar .mul 4602678819172646912 zz h1) (A9 : Ar .sub 4607182418800017408 h1 h2) (A10 : Ar .mul zz zz z2) (A11 : Ar .mul 13666448263388469915 zz a1) (A12 : Ar .add a1 4477121864728985349 b1) (A13 : Ar .mul b1 zz a2) (A14 : Ar .add a2 13732177093698800582 b2) (A15 : Ar .mul b2 zz a3) (A16 : Ar .add a3 4537941361668146421 b3) (A17 : Ar .mul b3 zz a4) (A18 : Ar .add a4 13787419979223748497 b4) (A19 : Ar .mul b4 zz a5) (A20 : Ar .add a5 4586165620538955083 b5) (A21 : Ar .mul z2 b5 q) (A22 : Ar .add h2 q v) :
    Calls Tryz.prog 137 #[.float .f64 x] w fun e w' => e = .returned (.float .f64 (Op.negFloat .f64 v)) ∧ w = w' := by
  obtain ⟨f0, fn, fi, fp, f1, f2⟩ := F
  have FN := Lib.hid fn; have FI := Lib.hid fi; clear fn fi
  obtain ⟨c0, c1, c2, c3, c4, c5, s0, s1, s2, s3, s4, s5⟩ := T
  have r0 := ar_run A0
  have r1 := ar_run A1
  have r2 := ar_run A2
  have r3 := ar_run A3
  have r4 := ar_run A4
  have r5 := ar_run A5
  have r6 := ar_run A6
  have r7 := ar_run A7
  have r8 := ar_run A8
  have r9 := ar_run A9
  have r10 := ar_run A10
  have r11 := ar_run A11
  have r12 := ar_run A12
  have r13 := ar_run A13
  have r14 := ar_run A14
  have r15 := ar_run A15
  have r16 := ar_run A16
  have r17 := ar_run A17
  have r18 := ar_run A18
  have r19 := ar_run A19
  have r20 := ar_run A20
  have r21 := ar_run A21
  have r22 := ar_run A22
  have rj : ∀ w, (convert 179 142 (.float .f64 m)).run Tryz.prog w = .ok (.int .u64 6) w := fun w => run_convert_float_int w _ _ .f64 .u64 m 6 (by rw [Tryz.underlying179]; rfl) Tryz.underlying142 J
  have rk : ∀ w, (convert 142 179 (.int .u64 6)).run Tryz.prog w = .ok (.float .f64 4618441417868443648) w := fun w => run_convert_int_float w _ _ .u64 .f64 6 (by rw [Tryz.underlying142]; rfl) Tryz.underlying179
  have rn := neg_run (P := Tryz.prog)
  clear A0 A1 A2 A3 A4 A5 A6 A7 A8 A9 A10 A11 A12 A13 A14 A15 A16 A17 A18 A19 A20 A21 A22 J
  go_enter Tryz.func137, Tryz.ntmps137
  go_wp2_with fail
  (with_reducible refine (nan_w x _ FN.out).mono ?_); rintro e w1 ⟨rfl, rfl⟩
  go_wp2_with fail
  (with_reducible refine (inf_w x _ FI.out).mono ?_); rintro e w1 ⟨rfl, rfl⟩
  go_wp2_with fail
  go_ret
  exact ⟨by first | rfl | trivial, rfl⟩
set_option maxRecDepth 100000 in
set_option maxHeartbeats 1000000 in
theorem sin_7 (x m p1 d1 p2 d2 p3 z zz z2 a1 b1 a2 b2 a3 b3 a4 b4 a5 b5 q v : Nat) (w : World) (F : Fine x) (T : Tabs w) (J : floatToIntVal .f64 m .u64 = some 7) (A0 : Ar .mul x 4608412980311869571 m) (A1 : Ar .mul 4620693217682128896 4605249456957292544 p1) (A2 : Ar .sub x p1 d1) (A3 : Ar .mul 4620693217682128896 4495793288086814720 p2) (A4 : Ar .sub d1 p2 d2) (A5 : Ar .mul 4620693217682128896 4388835458085048688 p3) (A6 : Ar .sub d2 p3 z) (A7 : Ar .mul z z zz) (A8 : Ar .mul z zz z2) (A9 : Ar .mul 4460209587652500685 zz a1) (A10 : Ar .add a1 13716528389658582877 b1) (A11 : Ar .mul b1 zz a2) (A12 : Ar .add a2 4523617212962785441 b2) (A13 : Ar .mul b2 zz a3) (A14 : Ar .add a3 13774824197404483331 b3) (A15 : Ar .mul b3 zz a4) (A16 : Ar .add a4 4575957461383575504 b4) (A17 : Ar .mul b4 zz a5) (A18 : Ar .add a5 13818544856648471880 b5) (A19 : Ar .mul z2 b5 q) (A20 : Ar .add z q v) :
    Calls Tryz.prog 137 #[.float .f64 x] w fun e w' => e = .returned (.float .f64 (v)) ∧ w = w' := by
  obtain ⟨f0, fn, fi, fp, f1, f2⟩ := F
  have FN := Lib.hid fn; have FI := Lib.hid fi; clear fn fi
  obtain ⟨c0, c1, c2, c3, c4, c5, s0, s1, s2, s3, s4, s5⟩ := T
  have r0 := ar_run A0
  have r1 := ar_run A1
  have r2 := ar_run A2
  have r3 := ar_run A3
  have r4 := ar_run A4
  have r5 := ar_run A5
  have r6 := ar_run A6
  have r7 := ar_run A7
  have r8 := ar_run A8
  have r9 := ar_run A9
  have r10 := ar_run A10
  have r11 := ar_run A11
  have r12 := ar_run A12
  have r13 := ar_run A13
  have r14 := ar_run A14
  have r15 := ar_run A15
  have r16 := ar_run A16
  have r17 := ar_run A17
  have r18 := ar_run A18
  have r19 := ar_run A19
  have r20 := ar_run A20
  have ry := ar_run (show Ar .add 4619567317775286272 4607182418800017408 4620693217682128896 by unfold Ar; kernel_rfl)
  have rj : ∀ w, (convert 179 142 (.float .f64 m)).run Tryz.prog w = .ok (.int .u64 7) w := fun w => run_convert_float_int w _ _ .f64 .u64 m 7 (by rw [Tryz.underlying179]; rfl) Tryz.underlying142 J
  have rk : ∀ w, (convert 142 179 (.int .u64 7)).run Tryz.prog w = .ok (.float .f64 4619567317775286272) w := fun w => run_convert_int_float w _ _ .u64 .f64 7 (by rw [Tryz.underlying142]; rfl) Tryz.underlying179
  have rn := neg_run (P := Tryz.prog)
  clear A0 A1 A2 A3 A4 A5 A6 A7 A8 A9 A10 A11 A12 A13 A14 A15 A16 A17 A18 A19 A20 J
  go_enter Tryz.func137, Tryz.ntmps137
  go_wp2_with fail
  (with_reducible refine (nan_w x _ FN.out).mono ?_); rintro e w1 ⟨rfl, rfl⟩
  go_wp2_with fail
  (with_reducible refine (inf_w x _ FI.out).mono ?_); rintro e w1 ⟨rfl, rfl⟩
  go_wp2_with fail
  go_ret
  exact ⟨by first | rfl | trivial, rfl⟩
/-- n is reckoned, then k is asked. -/
def lt' {α : Type} (n : Nat) (k : Nat → α) : α := match n with
  | 0 => k 0
  | m + 1 => k (m + 1)
theorem lt_eq {α : Type} (n : Nat) (k : Nat → α) : lt' n k = k n := by cases n <;> rfl
def fb {α : Type} (o : Option Nat) (k : Nat → Option α) : Option α := match o with
  | none => none
  | some r => lt' r k
theorem fb_some {α : Type} {o : Option Nat} {k : Nat → Option α} {r : α} (h : fb o k = some r) : ∃ v, o = some v ∧ k v = some r := by
  unfold fb at h
  cases o with
  | none => cases h
  | some v => rw [show (match some v with | none => none | some r => lt' r k) = lt' v k from rfl, lt_eq] at h; exact ⟨v, rfl, h⟩
def fineB (x : Nat) : Bool :=
  !(FloatKind.f64.format.order x 0 == some .eq) && !(FloatKind.f64.format.order x x != some .eq) && !(FloatKind.f64.format.order (bits .andNot .u64 (x : Int) 9223372036854775808).toNat 9218868437227405311 == some .gt) && !(FloatKind.f64.format.order x 0 == some .lt) && !(FloatKind.f64.format.order x 4737786807993761792 == some .gt) && !(FloatKind.f64.format.order x 4737786807993761792 == some .eq)
theorem fine_of {x : Nat} (h : fineB x = true) : Fine x := by
  unfold fineB at h
  simp only [Bool.and_eq_true, Bool.not_eq_true'] at h
  obtain ⟨⟨⟨⟨⟨h1, h2⟩, h3⟩, h4⟩, h5⟩, h6⟩ := h
  exact ⟨h1, h2, h3, h4, h5, h6⟩
/-- math.sin in octant 0. -/
def ch0 (x : Nat) : Option Nat :=
  fb (floatBits .mul .f64 0 4605249456957292544) fun p1 =>
  fb (floatBits .sub .f64 x p1) fun d1 =>
  fb (floatBits .mul .f64 0 4495793288086814720) fun p2 =>
  fb (floatBits .sub .f64 d1 p2) fun d2 =>
  fb (floatBits .mul .f64 0 4388835458085048688) fun p3 =>
  fb (floatBits .sub .f64 d2 p3) fun z =>
  fb (floatBits .mul .f64 z z) fun zz =>
  fb (floatBits .mul .f64 z zz) fun z2 =>
  fb (floatBits .mul .f64 4460209587652500685 zz) fun a1 =>
  fb (floatBits .add .f64 a1 13716528389658582877) fun b1 =>
  fb (floatBits .mul .f64 b1 zz) fun a2 =>
  fb (floatBits .add .f64 a2 4523617212962785441) fun b2 =>
  fb (floatBits .mul .f64 b2 zz) fun a3 =>
  fb (floatBits .add .f64 a3 13774824197404483331) fun b3 =>
  fb (floatBits .mul .f64 b3 zz) fun a4 =>
  fb (floatBits .add .f64 a4 4575957461383575504) fun b4 =>
  fb (floatBits .mul .f64 b4 zz) fun a5 =>
  fb (floatBits .add .f64 a5 13818544856648471880) fun b5 =>
  fb (floatBits .mul .f64 z2 b5) fun q =>
  fb (floatBits .add .f64 z q) fun v =>
  some v
theorem ch0_ok {x m r : Nat} {w : World} (F : Fine x) (T : Tabs w) (A0 : Ar .mul x 4608412980311869571 m) (J : floatToIntVal .f64 m .u64 = some 0) (h : ch0 x = some r) :
    Calls Tryz.prog 137 #[.float .f64 x] w fun e w' => e = .returned (.float .f64 r) ∧ w = w' := by
  unfold ch0 at h
  obtain ⟨p1, A1, h⟩ := fb_some h
  obtain ⟨d1, A2, h⟩ := fb_some h
  obtain ⟨p2, A3, h⟩ := fb_some h
  obtain ⟨d2, A4, h⟩ := fb_some h
  obtain ⟨p3, A5, h⟩ := fb_some h
  obtain ⟨z, A6, h⟩ := fb_some h
  obtain ⟨zz, A7, h⟩ := fb_some h
  obtain ⟨z2, A8, h⟩ := fb_some h
  obtain ⟨a1, A9, h⟩ := fb_some h
  obtain ⟨b1, A10, h⟩ := fb_some h
  obtain ⟨a2, A11, h⟩ := fb_some h
  obtain ⟨b2, A12, h⟩ := fb_some h
  obtain ⟨a3, A13, h⟩ := fb_some h
  obtain ⟨b3, A14, h⟩ := fb_some h
  obtain ⟨a4, A15, h⟩ := fb_some h
  obtain ⟨b4, A16, h⟩ := fb_some h
  obtain ⟨a5, A17, h⟩ := fb_some h
  obtain ⟨b5, A18, h⟩ := fb_some h
  obtain ⟨q, A19, h⟩ := fb_some h
  obtain ⟨v, A20, h⟩ := fb_some h
  injection h with h
  subst h
  exact sin_0 x m p1 d1 p2 d2 p3 z zz z2 a1 b1 a2 b2 a3 b3 a4 b4 a5 b5 q v w F T J A0 A1 A2 A3 A4 A5 A6 A7 A8 A9 A10 A11 A12 A13 A14 A15 A16 A17 A18 A19 A20
/-- math.sin in octant 1. -/
def ch1 (x : Nat) : Option Nat :=
  fb (floatBits .mul .f64 4611686018427387904 4605249456957292544) fun p1 =>
  fb (floatBits .sub .f64 x p1) fun d1 =>
  fb (floatBits .mul .f64 4611686018427387904 4495793288086814720) fun p2 =>
  fb (floatBits .sub .f64 d1 p2) fun d2 =>
  fb (floatBits .mul .f64 4611686018427387904 4388835458085048688) fun p3 =>
  fb (floatBits .sub .f64 d2 p3) fun z =>
  fb (floatBits .mul .f64 z z) fun zz =>
  fb (floatBits .mul .f64 4602678819172646912 zz) fun h1 =>
  fb (floatBits .sub .f64 4607182418800017408 h1) fun h2 =>
  fb (floatBits .mul .f64 zz zz) fun z2 =>
  fb (floatBits .mul .f64 13666448263388469915 zz) fun a1 =>
  fb (floatBits .add .f64 a1 4477121864728985349) fun b1 =>
  fb (floatBits .mul .f64 b1 zz) fun a2 =>
  fb (floatBits .add .f64 a2 13732177093698800582) fun b2 =>
  fb (floatBits .mul .f64 b2 zz) fun a3 =>
  fb (floatBits .add .f64 a3 4537941361668146421) fun b3 =>
  fb (floatBits .mul .f64 b3 zz) fun a4 =>
  fb (floatBits .add .f64 a4 13787419979223748497) fun b4 =>
  fb (floatBits .mul .f64 b4 zz) fun a5 =>
  fb (floatBits .add .f64 a5 4586165620538955083) fun b5 =>
  fb (floatBits .mul .f64 z2 b5) fun q =>
  fb (floatBits .add .f64 h2 q) fun v =>
  some v
theorem ch1_ok {x m r : Nat} {w : World} (F : Fine x) (T : Tabs w) (A0 : Ar .mul x 4608412980311869571 m) (J : floatToIntVal .f64 m .u64 = some 1) (h : ch1 x = some r) :
    Calls Tryz.prog 137 #[.float .f64 x] w fun e w' => e = .returned (.float .f64 r) ∧ w = w' := by
  unfold ch1 at h
  obtain ⟨p1, A1, h⟩ := fb_some h
  obtain ⟨d1, A2, h⟩ := fb_some h
  obtain ⟨p2, A3, h⟩ := fb_some h
  obtain ⟨d2, A4, h⟩ := fb_some h
  obtain ⟨p3, A5, h⟩ := fb_some h
  obtain ⟨z, A6, h⟩ := fb_some h
  obtain ⟨zz, A7, h⟩ := fb_some h
  obtain ⟨h1, A8, h⟩ := fb_some h
  obtain ⟨h2, A9, h⟩ := fb_some h
  obtain ⟨z2, A10, h⟩ := fb_some h
  obtain ⟨a1, A11, h⟩ := fb_some h
  obtain ⟨b1, A12, h⟩ := fb_some h
  obtain ⟨a2, A13, h⟩ := fb_some h
  obtain ⟨b2, A14, h⟩ := fb_some h
  obtain ⟨a3, A15, h⟩ := fb_some h
  obtain ⟨b3, A16, h⟩ := fb_some h
  obtain ⟨a4, A17, h⟩ := fb_some h
  obtain ⟨b4, A18, h⟩ := fb_some h
  obtain ⟨a5, A19, h⟩ := fb_some h
  obtain ⟨b5, A20, h⟩ := fb_some h
  obtain ⟨q, A21, h⟩ := fb_some h
  obtain ⟨v, A22, h⟩ := fb_some h
  injection h with h
  subst h
  exact sin_1 x m p1 d1 p2 d2 p3 z zz h1 h2 z2 a1 b1 a2 b2 a3 b3 a4 b4 a5 b5 q v w F T J A0 A1 A2 A3 A4 A5 A6 A7 A8 A9 A10 A11 A12 A13 A14 A15 A16 A17 A18 A19 A20 A21 A22
/-- math.sin in octant 2. -/
def ch2 (x : Nat) : Option Nat :=
  fb (floatBits .mul .f64 4611686018427387904 4605249456957292544) fun p1 =>
  fb (floatBits .sub .f64 x p1) fun d1 =>
  fb (floatBits .mul .f64 4611686018427387904 4495793288086814720) fun p2 =>
  fb (floatBits .sub .f64 d1 p2) fun d2 =>
  fb (floatBits .mul .f64 4611686018427387904 4388835458085048688) fun p3 =>
  fb (floatBits .sub .f64 d2 p3) fun z =>
  fb (floatBits .mul .f64 z z) fun zz =>
  fb (floatBits .mul .f64 4602678819172646912 zz) fun h1 =>
  fb (floatBits .sub .f64 4607182418800017408 h1) fun h2 =>
  fb (floatBits .mul .f64 zz zz) fun z2 =>
  fb (floatBits .mul .f64 13666448263388469915 zz) fun a1 =>
  fb (floatBits .add .f64 a1 4477121864728985349) fun b1 =>
  fb (floatBits .mul .f64 b1 zz) fun a2 =>
  fb (floatBits .add .f64 a2 13732177093698800582) fun b2 =>
  fb (floatBits .mul .f64 b2 zz) fun a3 =>
  fb (floatBits .add .f64 a3 4537941361668146421) fun b3 =>
  fb (floatBits .mul .f64 b3 zz) fun a4 =>
  fb (floatBits .add .f64 a4 13787419979223748497) fun b4 =>
  fb (floatBits .mul .f64 b4 zz) fun a5 =>
  fb (floatBits .add .f64 a5 4586165620538955083) fun b5 =>
  fb (floatBits .mul .f64 z2 b5) fun q =>
  fb (floatBits .add .f64 h2 q) fun v =>
  some v
theorem ch2_ok {x m r : Nat} {w : World} (F : Fine x) (T : Tabs w) (A0 : Ar .mul x 4608412980311869571 m) (J : floatToIntVal .f64 m .u64 = some 2) (h : ch2 x = some r) :
    Calls Tryz.prog 137 #[.float .f64 x] w fun e w' => e = .returned (.float .f64 r) ∧ w = w' := by
  unfold ch2 at h
  obtain ⟨p1, A1, h⟩ := fb_some h
  obtain ⟨d1, A2, h⟩ := fb_some h
  obtain ⟨p2, A3, h⟩ := fb_some h
  obtain ⟨d2, A4, h⟩ := fb_some h
  obtain ⟨p3, A5, h⟩ := fb_some h
  obtain ⟨z, A6, h⟩ := fb_some h
  obtain ⟨zz, A7, h⟩ := fb_some h
  obtain ⟨h1, A8, h⟩ := fb_some h
  obtain ⟨h2, A9, h⟩ := fb_some h
  obtain ⟨z2, A10, h⟩ := fb_some h
  obtain ⟨a1, A11, h⟩ := fb_some h
  obtain ⟨b1, A12, h⟩ := fb_some h
  obtain ⟨a2, A13, h⟩ := fb_some h
  obtain ⟨b2, A14, h⟩ := fb_some h
  obtain ⟨a3, A15, h⟩ := fb_some h
  obtain ⟨b3, A16, h⟩ := fb_some h
  obtain ⟨a4, A17, h⟩ := fb_some h
  obtain ⟨b4, A18, h⟩ := fb_some h
  obtain ⟨a5, A19, h⟩ := fb_some h
  obtain ⟨b5, A20, h⟩ := fb_some h
  obtain ⟨q, A21, h⟩ := fb_some h
  obtain ⟨v, A22, h⟩ := fb_some h
  injection h with h
  subst h
  exact sin_2 x m p1 d1 p2 d2 p3 z zz h1 h2 z2 a1 b1 a2 b2 a3 b3 a4 b4 a5 b5 q v w F T J A0 A1 A2 A3 A4 A5 A6 A7 A8 A9 A10 A11 A12 A13 A14 A15 A16 A17 A18 A19 A20 A21 A22
/-- math.sin in octant 3. -/
def ch3 (x : Nat) : Option Nat :=
  fb (floatBits .mul .f64 4616189618054758400 4605249456957292544) fun p1 =>
  fb (floatBits .sub .f64 x p1) fun d1 =>
  fb (floatBits .mul .f64 4616189618054758400 4495793288086814720) fun p2 =>
  fb (floatBits .sub .f64 d1 p2) fun d2 =>
  fb (floatBits .mul .f64 4616189618054758400 4388835458085048688) fun p3 =>
  fb (floatBits .sub .f64 d2 p3) fun z =>
  fb (floatBits .mul .f64 z z) fun zz =>
  fb (floatBits .mul .f64 z zz) fun z2 =>
  fb (floatBits .mul .f64 4460209587652500685 zz) fun a1 =>
  fb (floatBits .add .f64 a1 13716528389658582877) fun b1 =>
  fb (floatBits .mul .f64 b1 zz) fun a2 =>
  fb (floatBits .add .f64 a2 4523617212962785441) fun b2 =>
  fb (floatBits .mul .f64 b2 zz) fun a3 =>
  fb (floatBits .add .f64 a3 13774824197404483331) fun b3 =>
  fb (floatBits .mul .f64 b3 zz) fun a4 =>
  fb (floatBits .add .f64 a4 4575957461383575504) fun b4 =>
  fb (floatBits .mul .f64 b4 zz) fun a5 =>
  fb (floatBits .add .f64 a5 13818544856648471880) fun b5 =>
  fb (floatBits .mul .f64 z2 b5) fun q =>
  fb (floatBits .add .f64 z q) fun v =>
  some (Op.negFloat .f64 v)
theorem ch3_ok {x m r : Nat} {w : World} (F : Fine x) (T : Tabs w) (A0 : Ar .mul x 4608412980311869571 m) (J : floatToIntVal .f64 m .u64 = some 3) (h : ch3 x = some r) :
    Calls Tryz.prog 137 #[.float .f64 x] w fun e w' => e = .returned (.float .f64 r) ∧ w = w' := by
  unfold ch3 at h
  obtain ⟨p1, A1, h⟩ := fb_some h
  obtain ⟨d1, A2, h⟩ := fb_some h
  obtain ⟨p2, A3, h⟩ := fb_some h
  obtain ⟨d2, A4, h⟩ := fb_some h
  obtain ⟨p3, A5, h⟩ := fb_some h
  obtain ⟨z, A6, h⟩ := fb_some h
  obtain ⟨zz, A7, h⟩ := fb_some h
  obtain ⟨z2, A8, h⟩ := fb_some h
  obtain ⟨a1, A9, h⟩ := fb_some h
  obtain ⟨b1, A10, h⟩ := fb_some h
  obtain ⟨a2, A11, h⟩ := fb_some h
  obtain ⟨b2, A12, h⟩ := fb_some h
  obtain ⟨a3, A13, h⟩ := fb_some h
  obtain ⟨b3, A14, h⟩ := fb_some h
  obtain ⟨a4, A15, h⟩ := fb_some h
  obtain ⟨b4, A16, h⟩ := fb_some h
  obtain ⟨a5, A17, h⟩ := fb_some h
  obtain ⟨b5, A18, h⟩ := fb_some h
  obtain ⟨q, A19, h⟩ := fb_some h
  obtain ⟨v, A20, h⟩ := fb_some h
  injection h with h
  subst h
  exact sin_3 x m p1 d1 p2 d2 p3 z zz z2 a1 b1 a2 b2 a3 b3 a4 b4 a5 b5 q v w F T J A0 A1 A2 A3 A4 A5 A6 A7 A8 A9 A10 A11 A12 A13 A14 A15 A16 A17 A18 A19 A20
/-- math.sin in octant 4. -/
def ch4 (x : Nat) : Option Nat :=
  fb (floatBits .mul .f64 4616189618054758400 4605249456957292544) fun p1 =>
  fb (floatBits .sub .f64 x p1) fun d1 =>
  fb (floatBits .mul .f64 4616189618054758400 4495793288086814720) fun p2 =>
  fb (floatBits .sub .f64 d1 p2) fun d2 =>
  fb (floatBits .mul .f64 4616189618054758400 4388835458085048688) fun p3 =>
  fb (floatBits .sub .f64 d2 p3) fun z =>
  fb (floatBits .mul .f64 z z) fun zz =>
  fb (floatBits .mul .f64 z zz) fun z2 =>
  fb (floatBits .mul .f64 4460209587652500685 zz) fun a1 =>
  fb (floatBits .add .f64 a1 13716528389658582877) fun b1 =>
  fb (floatBits .mul .f64 b1 zz) fun a2 =>
  fb (floatBits .add .f64 a2 4523617212962785441) fun b2 =>
  fb (floatBits .mul .f64 b2 zz) fun a3 =>
  fb (floatBits .add .f64 a3 13774824197404483331) fun b3 =>
  fb (floatBits .mul .f64 b3 zz) fun a4 =>
  fb (floatBits .add .f64 a4 4575957461383575504) fun b4 =>
  fb (floatBits .mul .f64 b4 zz) fun a5 =>
  fb (floatBits .add .f64 a5 13818544856648471880) fun b5 =>
  fb (floatBits .mul .f64 z2 b5) fun q =>
  fb (floatBits .add .f64 z q) fun v =>
  some (Op.negFloat .f64 v)
theorem ch4_ok {x m r : Nat} {w : World} (F : Fine x) (T : Tabs w) (A0 : Ar .mul x 4608412980311869571 m) (J : floatToIntVal .f64 m .u64 = some 4) (h : ch4 x = some r) :
    Calls Tryz.prog 137 #[.float .f64 x] w fun e w' => e = .returned (.float .f64 r) ∧ w = w' := by
  unfold ch4 at h
  obtain ⟨p1, A1, h⟩ := fb_some h
  obtain ⟨d1, A2, h⟩ := fb_some h
  obtain ⟨p2, A3, h⟩ := fb_some h
  obtain ⟨d2, A4, h⟩ := fb_some h
  obtain ⟨p3, A5, h⟩ := fb_some h
  obtain ⟨z, A6, h⟩ := fb_some h
  obtain ⟨zz, A7, h⟩ := fb_some h
  obtain ⟨z2, A8, h⟩ := fb_some h
  obtain ⟨a1, A9, h⟩ := fb_some h
  obtain ⟨b1, A10, h⟩ := fb_some h
  obtain ⟨a2, A11, h⟩ := fb_some h
  obtain ⟨b2, A12, h⟩ := fb_some h
  obtain ⟨a3, A13, h⟩ := fb_some h
  obtain ⟨b3, A14, h⟩ := fb_some h
  obtain ⟨a4, A15, h⟩ := fb_some h
  obtain ⟨b4, A16, h⟩ := fb_some h
  obtain ⟨a5, A17, h⟩ := fb_some h
  obtain ⟨b5, A18, h⟩ := fb_some h
  obtain ⟨q, A19, h⟩ := fb_some h
  obtain ⟨v, A20, h⟩ := fb_some h
  injection h with h
  subst h
  exact sin_4 x m p1 d1 p2 d2 p3 z zz z2 a1 b1 a2 b2 a3 b3 a4 b4 a5 b5 q v w F T J A0 A1 A2 A3 A4 A5 A6 A7 A8 A9 A10 A11 A12 A13 A14 A15 A16 A17 A18 A19 A20
/-- math.sin in octant 5. -/
def ch5 (x : Nat) : Option Nat :=
  fb (floatBits .mul .f64 4618441417868443648 4605249456957292544) fun p1 =>
  fb (floatBits .sub .f64 x p1) fun d1 =>
  fb (floatBits .mul .f64 4618441417868443648 4495793288086814720) fun p2 =>
  fb (floatBits .sub .f64 d1 p2) fun d2 =>
  fb (floatBits .mul .f64 4618441417868443648 4388835458085048688) fun p3 =>
  fb (floatBits .sub .f64 d2 p3) fun z =>
  fb (floatBits .mul .f64 z z) fun zz =>
  fb (floatBits .mul .f64 4602678819172646912 zz) fun h1 =>
  fb (floatBits .sub .f64 4607182418800017408 h1) fun h2 =>
  fb (floatBits .mul .f64 zz zz) fun z2 =>
  fb (floatBits .mul .f64 13666448263388469915 zz) fun a1 =>
  fb (floatBits .add .f64 a1 4477121864728985349) fun b1 =>
  fb (floatBits .mul .f64 b1 zz) fun a2 =>
  fb (floatBits .add .f64 a2 13732177093698800582) fun b2 =>
  fb (floatBits .mul .f64 b2 zz) fun a3 =>
  fb (floatBits .add .f64 a3 4537941361668146421) fun b3 =>
  fb (floatBits .mul .f64 b3 zz) fun a4 =>
  fb (floatBits .add .f64 a4 13787419979223748497) fun b4 =>
  fb (floatBits .mul .f64 b4 zz) fun a5 =>
  fb (floatBits .add .f64 a5 4586165620538955083) fun b5 =>
  fb (floatBits .mul .f64 z2 b5) fun q =>
  fb (floatBits .add .f64 h2 q) fun v =>
  some (Op.negFloat .f64 v)
theorem ch5_ok {x m r : Nat} {w : World} (F : Fine x) (T : Tabs w) (A0 : Ar .mul x 4608412980311869571 m) (J : floatToIntVal .f64 m .u64 = some 5) (h : ch5 x = some r) :
    Calls Tryz.prog 137 #[.float .f64 x] w fun e w' => e = .returned (.float .f64 r) ∧ w = w' := by
  unfold ch5 at h
  obtain ⟨p1, A1, h⟩ := fb_some h
  obtain ⟨d1, A2, h⟩ := fb_some h
  obtain ⟨p2, A3, h⟩ := fb_some h
  obtain ⟨d2, A4, h⟩ := fb_some h
  obtain ⟨p3, A5, h⟩ := fb_some h
  obtain ⟨z, A6, h⟩ := fb_some h
  obtain ⟨zz, A7, h⟩ := fb_some h
  obtain ⟨h1, A8, h⟩ := fb_some h
  obtain ⟨h2, A9, h⟩ := fb_some h
  obtain ⟨z2, A10, h⟩ := fb_some h
  obtain ⟨a1, A11, h⟩ := fb_some h
  obtain ⟨b1, A12, h⟩ := fb_some h
  obtain ⟨a2, A13, h⟩ := fb_some h
  obtain ⟨b2, A14, h⟩ := fb_some h
  obtain ⟨a3, A15, h⟩ := fb_some h
  obtain ⟨b3, A16, h⟩ := fb_some h
  obtain ⟨a4, A17, h⟩ := fb_some h
  obtain ⟨b4, A18, h⟩ := fb_some h
  obtain ⟨a5, A19, h⟩ := fb_some h
  obtain ⟨b5, A20, h⟩ := fb_some h
  obtain ⟨q, A21, h⟩ := fb_some h
  obtain ⟨v, A22, h⟩ := fb_some h
  injection h with h
  subst h
  exact sin_5 x m p1 d1 p2 d2 p3 z zz h1 h2 z2 a1 b1 a2 b2 a3 b3 a4 b4 a5 b5 q v w F T J A0 A1 A2 A3 A4 A5 A6 A7 A8 A9 A10 A11 A12 A13 A14 A15 A16 A17 A18 A19 A20 A21 A22
/-- math.sin in octant 6. -/
def ch6 (x : Nat) : Option Nat :=
  fb (floatBits .mul .f64 4618441417868443648 4605249456957292544) fun p1 =>
  fb (floatBits .sub .f64 x p1) fun d1 =>
  fb (floatBits .mul .f64 4618441417868443648 4495793288086814720) fun p2 =>
  fb (floatBits .sub .f64 d1 p2) fun d2 =>
  fb (floatBits .mul .f64 4618441417868443648 4388835458085048688) fun p3 =>
  fb (floatBits .sub .f64 d2 p3) fun z =>
  fb (floatBits .mul .f64 z z) fun zz =>
  fb (floatBits .mul .f64 4602678819172646912 zz) fun h1 =>
  fb (floatBits .sub .f64 4607182418800017408 h1) fun h2 =>
  fb (floatBits .mul .f64 zz zz) fun z2 =>
  fb (floatBits .mul .f64 13666448263388469915 zz) fun a1 =>
  fb (floatBits .add .f64 a1 4477121864728985349) fun b1 =>
  fb (floatBits .mul .f64 b1 zz) fun a2 =>
  fb (floatBits .add .f64 a2 13732177093698800582) fun b2 =>
  fb (floatBits .mul .f64 b2 zz) fun a3 =>
  fb (floatBits .add .f64 a3 4537941361668146421) fun b3 =>
  fb (floatBits .mul .f64 b3 zz) fun a4 =>
  fb (floatBits .add .f64 a4 13787419979223748497) fun b4 =>
  fb (floatBits .mul .f64 b4 zz) fun a5 =>
  fb (floatBits .add .f64 a5 4586165620538955083) fun b5 =>
  fb (floatBits .mul .f64 z2 b5) fun q =>
  fb (floatBits .add .f64 h2 q) fun v =>
  some (Op.negFloat .f64 v)
theorem ch6_ok {x m r : Nat} {w : World} (F : Fine x) (T : Tabs w) (A0 : Ar .mul x 4608412980311869571 m) (J : floatToIntVal .f64 m .u64 = some 6) (h : ch6 x = some r) :
    Calls Tryz.prog 137 #[.float .f64 x] w fun e w' => e = .returned (.float .f64 r) ∧ w = w' := by
  unfold ch6 at h
  obtain ⟨p1, A1, h⟩ := fb_some h
  obtain ⟨d1, A2, h⟩ := fb_some h
  obtain ⟨p2, A3, h⟩ := fb_some h
  obtain ⟨d2, A4, h⟩ := fb_some h
  obtain ⟨p3, A5, h⟩ := fb_some h
  obtain ⟨z, A6, h⟩ := fb_some h
  obtain ⟨zz, A7, h⟩ := fb_some h
  obtain ⟨h1, A8, h⟩ := fb_some h
  obtain ⟨h2, A9, h⟩ := fb_some h
  obtain ⟨z2, A10, h⟩ := fb_some h
  obtain ⟨a1, A11, h⟩ := fb_some h
  obtain ⟨b1, A12, h⟩ := fb_some h
  obtain ⟨a2, A13, h⟩ := fb_some h
  obtain ⟨b2, A14, h⟩ := fb_some h
  obtain ⟨a3, A15, h⟩ := fb_some h
  obtain ⟨b3, A16, h⟩ := fb_some h
  obtain ⟨a4, A17, h⟩ := fb_some h
  obtain ⟨b4, A18, h⟩ := fb_some h
  obtain ⟨a5, A19, h⟩ := fb_some h
  obtain ⟨b5, A20, h⟩ := fb_some h
  obtain ⟨q, A21, h⟩ := fb_some h
  obtain ⟨v, A22, h⟩ := fb_some h
  injection h with h
  subst h
  exact sin_6 x m p1 d1 p2 d2 p3 z zz h1 h2 z2 a1 b1 a2 b2 a3 b3 a4 b4 a5 b5 q v w F T J A0 A1 A2 A3 A4 A5 A6 A7 A8 A9 A10 A11 A12 A13 A14 A15 A16 A17 A18 A19 A20 A21 A22
/-- math.sin in octant 7. -/
def ch7 (x : Nat) : Option Nat :=
  fb (floatBits .mul .f64 4620693217682128896 4605249456957292544) fun p1 =>
  fb (floatBits .sub .f64 x p1) fun d1 =>
  fb (floatBits .mul .f64 4620693217682128896 4495793288086814720) fun p2 =>
  fb (floatBits .sub .f64 d1 p2) fun d2 =>
  fb (floatBits .mul .f64 4620693217682128896 4388835458085048688) fun p3 =>
  fb (floatBits .sub .f64 d2 p3) fun z =>
  fb (floatBits .mul .f64 z z) fun zz =>
  fb (floatBits .mul .f64 z zz) fun z2 =>
  fb (floatBits .mul .f64 4460209587652500685 zz) fun a1 =>
  fb (floatBits .add .f64 a1 13716528389658582877) fun b1 =>
  fb (floatBits .mul .f64 b1 zz) fun a2 =>
  fb (floatBits .add .f64 a2 4523617212962785441) fun b2 =>
  fb (floatBits .mul .f64 b2 zz) fun a3 =>
  fb (floatBits .add .f64 a3 13774824197404483331) fun b3 =>
  fb (floatBits .mul .f64 b3 zz) fun a4 =>
  fb (floatBits .add .f64 a4 4575957461383575504) fun b4 =>
  fb (floatBits .mul .f64 b4 zz) fun a5 =>
  fb (floatBits .add .f64 a5 13818544856648471880) fun b5 =>
  fb (floatBits .mul .f64 z2 b5) fun q =>
  fb (floatBits .add .f64 z q) fun v =>
  some v
theorem ch7_ok {x m r : Nat} {w : World} (F : Fine x) (T : Tabs w) (A0 : Ar .mul x 4608412980311869571 m) (J : floatToIntVal .f64 m .u64 = some 7) (h : ch7 x = some r) :
    Calls Tryz.prog 137 #[.float .f64 x] w fun e w' => e = .returned (.float .f64 r) ∧ w = w' := by
  unfold ch7 at h
  obtain ⟨p1, A1, h⟩ := fb_some h
  obtain ⟨d1, A2, h⟩ := fb_some h
  obtain ⟨p2, A3, h⟩ := fb_some h
  obtain ⟨d2, A4, h⟩ := fb_some h
  obtain ⟨p3, A5, h⟩ := fb_some h
  obtain ⟨z, A6, h⟩ := fb_some h
  obtain ⟨zz, A7, h⟩ := fb_some h
  obtain ⟨z2, A8, h⟩ := fb_some h
  obtain ⟨a1, A9, h⟩ := fb_some h
  obtain ⟨b1, A10, h⟩ := fb_some h
  obtain ⟨a2, A11, h⟩ := fb_some h
  obtain ⟨b2, A12, h⟩ := fb_some h
  obtain ⟨a3, A13, h⟩ := fb_some h
  obtain ⟨b3, A14, h⟩ := fb_some h
  obtain ⟨a4, A15, h⟩ := fb_some h
  obtain ⟨b4, A16, h⟩ := fb_some h
  obtain ⟨a5, A17, h⟩ := fb_some h
  obtain ⟨b5, A18, h⟩ := fb_some h
  obtain ⟨q, A19, h⟩ := fb_some h
  obtain ⟨v, A20, h⟩ := fb_some h
  injection h with h
  subst h
  exact sin_7 x m p1 d1 p2 d2 p3 z zz z2 a1 b1 a2 b2 a3 b3 a4 b4 a5 b5 q v w F T J A0 A1 A2 A3 A4 A5 A6 A7 A8 A9 A10 A11 A12 A13 A14 A15 A16 A17 A18 A19 A20
def octs (x : Nat) : Nat → Option Nat
  | 0 => ch0 x
  | 1 => ch1 x
  | 2 => ch2 x
  | 3 => ch3 x
  | 4 => ch4 x
  | 5 => ch5 x
  | 6 => ch6 x
  | 7 => ch7 x
  | _ => none
/-- math.sin, where it is told. -/
def sinV (x : Nat) : Option Nat :=
  bif fineB x then fb (floatBits .mul .f64 x 4608412980311869571) fun m => fb ((floatToIntVal .f64 m .u64).map Int.toNat) fun j => bif floatToIntVal .f64 m .u64 == some (j : Int) then octs x j else none else none
theorem sin_of {x r : Nat} {w : World} (T : Tabs w) (h : sinV x = some r) : Calls Tryz.prog 137 #[.float .f64 x] w fun e w' => e = .returned (.float .f64 r) ∧ w = w' := by
  unfold sinV at h
  cases hf : fineB x with
  | false => rw [hf] at h; cases h
  | true =>
    rw [hf] at h
    obtain ⟨m, A0, h⟩ := fb_some (show fb _ _ = some r from h)
    obtain ⟨j, -, h⟩ := fb_some h
    cases hj : (floatToIntVal .f64 m .u64 == some (j : Int)) with
    | false => rw [hj] at h; cases h
    | true =>
      rw [hj] at h
      have h2 : octs x j = some r := h
      have J := eq_of_beq hj
      have F := fine_of hf
      match j, J, h2 with
      | 0, J, h2 => exact ch0_ok F T A0 J h2
      | 1, J, h2 => exact ch1_ok F T A0 J h2
      | 2, J, h2 => exact ch2_ok F T A0 J h2
      | 3, J, h2 => exact ch3_ok F T A0 J h2
      | 4, J, h2 => exact ch4_ok F T A0 J h2
      | 5, J, h2 => exact ch5_ok F T A0 J h2
      | 6, J, h2 => exact ch6_ok F T A0 J h2
      | 7, J, h2 => exact ch7_ok F T A0 J h2
      | _ + 8, _, h2 => cases h2
end Ang
end Go.Proofs.YtmkglhoahdlogaaGreatDoor
namespace Go.Proofs.YtmkglhoahdlogaaGreatDoor
open Go.RowKit
namespace Ang
/-- angle.Sin of a normal angle, where it is told. -/
def sinR (n : Nat) : Option Int :=
  fb (floatBits .mul .f64 (floatOfInt .f64 (n : Int)) 4614256656552045848) fun a => fb (floatBits .quo .f64 a 4656722014701092864) fun x =>
  fb (bif Nat.beq x 0 then some 0 else sinV x) fun y => fb (floatBits .mul .f64 4670232813583204352 y) fun m => lt' (roundB m) fun r => floatToIntVal .f64 r .i64
set_option maxRecDepth 100000 in
theorem sin_zero (w : World) : Calls Tryz.prog 137 #[.float .f64 0] w fun e w' => e = .returned (.float .f64 0) ∧ w = w' := by
  have f0 : (FloatKind.f64.format.order 0 0 == some .eq) = true := by kernel_rfl
  go_enter Tryz.func137, Tryz.ntmps137
  go_wp2
  go_ret
  exact ⟨by first | rfl | trivial, rfl⟩
theorem sin_any {x y : Nat} {w : World} (T : Tabs w) (h : (bif Nat.beq x 0 then some 0 else sinV x) = some y) : Calls Tryz.prog 125 #[.float .f64 x] w fun e w' => e = .returned (.float .f64 y) ∧ w = w' := by
  have key : Calls Tryz.prog 137 #[.float .f64 x] w fun e w' => e = .returned (.float .f64 y) ∧ w = w' := by
    cases hx : Nat.beq x 0 with
    | true =>
      rw [hx] at h
      have e := Nat.eq_of_beq_eq_true hx
      subst e
      injection h with h
      rw [← h]
      exact sin_zero w
    | false =>
      rw [hx] at h
      exact sin_of T h
  have K := Lib.hid key; clear key h
  go_enter Tryz.func125, Tryz.ntmps125
  go_wp2_with fail
  (with_reducible refine K.out.mono ?_); rintro e w1 ⟨rfl, rfl⟩
  go_wp2_with fail
  go_ret
  exact ⟨by first | rfl | trivial, rfl⟩
set_option maxRecDepth 100000 in
theorem sinC {h : Int} {n : Nat} {v : Int} {w : World} (T : Tabs w) (hn : h % 4096 = (n : Int)) (hr : sinR n = some v) : Calls Tryz.prog 113 #[.int .i64 h] w fun e w' => e = .returned (.int .i64 v) ∧ w = w' := by
  unfold sinR at hr
  obtain ⟨a, A1, hr⟩ := fb_some hr
  obtain ⟨x, A2, hr⟩ := fb_some hr
  obtain ⟨y, A3, hr⟩ := fb_some hr
  obtain ⟨m, A4, hr⟩ := fb_some hr
  rw [lt_eq] at hr
  have S := Lib.hid (sin_any T A3)
  have r1 := ar_run (op := .mul) A1
  have r2 := ar_run (op := .quo) A2
  have r4 := ar_run (op := .mul) A4
  have rn : ∀ w, (convert 3 179 (.int .i64 (n : Int))).run Tryz.prog w = .ok (.float .f64 (floatOfInt .f64 (n : Int))) w := fun w => run_convert_int_float w _ _ .i64 .f64 (n : Int) (by rw [Tryz.underlying3]; rfl) Tryz.underlying179
  have rc : ∀ w, (convert 179 3 (.float .f64 (roundB m))).run Tryz.prog w = .ok (.int .i64 v) w := fun w => run_convert_float_int w _ _ .f64 .i64 (roundB m) v (by rw [Tryz.underlying179]; rfl) Tryz.underlying3 hr
  have N := Lib.hid (norm_w h w)
  rw [hn] at N
  have R := Lib.hid (round_w m w)
  generalize roundB m = rb at *
  generalize floatOfInt .f64 (n : Int) = fn at *
  clear A1 A2 A3 A4 hr T hn
  go_enter Tryz.func113, Tryz.ntmps113
  go_wp2_with fail
  (with_reducible refine N.out.mono ?_); rintro e w1 ⟨rfl, rfl⟩
  go_wp2_with fail
  (with_reducible refine S.out.mono ?_); rintro e w1 ⟨rfl, rfl⟩
  go_wp2_with fail
  (with_reducible refine R.out.mono ?_); rintro e w1 ⟨rfl, rfl⟩
  go_wp2_with fail
  go_ret
  exact ⟨by first | rfl | trivial, rfl⟩
theorem cosC {h : Int} {n : Nat} {v : Int} {w : World} (T : Tabs w) (hn : (h + 1024) % 4096 = (n : Int)) (hr : sinR n = some v) : Calls Tryz.prog 114 #[.int .i64 h] w fun e w' => e = .returned (.int .i64 v) ∧ w = w' := by
  have N := Lib.hid (norm_w h w)
  obtain ⟨k, hk⟩ : ∃ k, k = h % 4096 := ⟨_, rfl⟩
  rw [← hk] at N
  have b1 : 0 ≤ k ∧ k < 4096 := by omega
  have S := Lib.hid (sinC (h := k + 1024) T (show (k + 1024) % 4096 = (n : Int) by omega) hr)
  clear T hn hr hk
  go_enter Tryz.func114, Tryz.ntmps114
  go_wp2_with fail
  (with_reducible refine N.out.mono ?_); rintro e w1 ⟨rfl, rfl⟩
  go_wp2_with fail
  (with_reducible refine S.out.mono ?_); rintro e w1 ⟨rfl, rfl⟩
  go_wp2_with fail
  go_ret
  exact ⟨by first | rfl | trivial, rfl⟩
/-- angle.Diff. -/
def dif (a b : Int) : Int := if 2048 < (b - a) % 4096 then (b - a) % 4096 - 4096 else (b - a) % 4096
theorem wrap_mod (x : Int) : wrap64 x % 4096 = x % 4096 := by unfold wrap64; omega
theorem sin1024 : sinR 1024 = some 16384 := by kernel_rfl
theorem sin3072 : sinR 3072 = some (-16384) := by kernel_rfl
end Ang
end Go.Proofs.YtmkglhoahdlogaaGreatDoor
