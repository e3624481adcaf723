/- What polygon.Meets returns. -/
import Derived.Test.YteaccanhahmclaaPolyF
namespace Go.Proofs.Yteaccanhahmclaa
open Go.RowKit
namespace Poly
open Kit Plane
abbrev S4 (w : World) (b : Nat) (t x y h : Int) : Prop := (w.cell? ⟨b, 0, none⟩ = some (.int .i64 t) ∧ w.cell? ⟨b, 1, none⟩ = some (.int .i64 x)) ∧ (w.cell? ⟨b, 2, none⟩ = some (.int .i64 y) ∧ w.cell? ⟨b, 3, none⟩ = some (.int .i64 h))
theorem s4_keep {W w1 : World} (hb : Below W.heap.size W w1) {b : Nat} {t x y h : Int} (hn : S4 W b t x y h) : S4 w1 b t x y h := ⟨⟨keep hb hn.1.1, keep hb hn.1.2⟩, ⟨keep hb hn.2.1, keep hb hn.2.2⟩⟩
theorem s4_new (w : World) (ty : TypeId) (t x y h : Int) : S4 (w.alloc (.cells #[.int .i64 t, .int .i64 x, .int .i64 y, .int .i64 h] ty)) w.heap.size t x y h := ⟨⟨by simp, by simp⟩, ⟨by simp, by simp⟩⟩
/-- One of the first k edges has a point in common with the segment. -/
def mee (n : Nat) (X Y : Nat → Int) (ax ay bx by' : Int) : Nat → Bool
  | 0 => false
  | k + 1 => mee n X Y ax ay bx by' k || commonB (X k) (Y k) (X (nx n k)) (Y (nx n k)) ax ay bx by'
theorem mee_stop {n : Nat} {X Y : Nat → Int} {ax ay bx by' : Int} {k : Nat} (h : commonB (X k) (Y k) (X (nx n k)) (Y (nx n k)) ax ay bx by' = true) : ∀ m, k < m → mee n X Y ax ay bx by' m = true
  | 0, hm => by omega
  | m + 1, hm => by
    show (mee n X Y ax ay bx by' m || _) = true
    rcases Nat.lt_or_ge k m with hl | hl
    · rw [mee_stop h m hl]; rfl
    · rw [show m = k from by omega, h, Bool.or_true]
abbrev CrCo (ax ay bx by' cx cy dx dy : Int) (b : Bool) : Prop := ∀ w, Calls Try.prog 147 #[.agg #[.int .i64 ax, .int .i64 ay], .agg #[.int .i64 bx, .int .i64 by'], .agg #[.int .i64 cx, .int .i64 cy], .agg #[.int .i64 dx, .int .i64 dy]] w fun e w' => e = .returned (.bool b) ∧ Below w.heap.size w w'
set_option maxHeartbeats 2000000 in
theorem me_bad (v : Value) (ax ay bx by' E : Int) (w : World) (K : Hid (CkC v E w)) (_hE1 : (E == 0) = false) (hE2 : (E != 0) = true) :
    Calls Try.prog 111 #[v, .agg #[.int .i64 ax, .int .i64 ay], .agg #[.int .i64 bx, .int .i64 by']] w fun e w' => e = .returned (.tuple #[.bool false, .int .i64 E]) ∧ Below w.heap.size w w' := by
  go_enter Try.func111, Try.ntmps111
  have Ha := Lib.hid (p2_alloc (.cells #[.int .i64 bx, .int .i64 by'] 43) (p2_new w 43 ax ay))
  have Hb := Lib.hid (p2_new1 w (.cells #[.int .i64 ax, .int .i64 ay] 43) 43 bx by')
  have HW := Lib.hid (b_alloc (b_alloc (Below.refl w.heap.size w) (.cells #[.int .i64 ax, .int .i64 ay] 43)) (.cells #[.int .i64 bx, .int .i64 by'] 43))
  go_wp2_with fail
  refine (K.out _ HW.out).mono ?_; rintro e w1 ⟨rfl, h⟩
  have hpa := p2_keep h Ha.out; have hpb := p2_keep h Hb.out; have hw := b_next HW.out h; clear h
  go_wp2_with fail
  go_ret2
  exact ⟨by first | rfl | simp, hw⟩
set_option maxHeartbeats 2000000 in
theorem me_a (v : Value) (ax ay bx by' : Int) (w : World) (K : Hid (CkC v 0 w)) (Ga : Hid (Chk ax ay 4)) :
    Calls Try.prog 111 #[v, .agg #[.int .i64 ax, .int .i64 ay], .agg #[.int .i64 bx, .int .i64 by']] w fun e w' => e = .returned (.tuple #[.bool false, .int .i64 4]) ∧ Below w.heap.size w w' := by
  go_enter Try.func111, Try.ntmps111
  have Ha := Lib.hid (p2_alloc (.cells #[.int .i64 bx, .int .i64 by'] 43) (p2_new w 43 ax ay))
  have Hb := Lib.hid (p2_new1 w (.cells #[.int .i64 ax, .int .i64 ay] 43) 43 bx by')
  have HW := Lib.hid (b_alloc (b_alloc (Below.refl w.heap.size w) (.cells #[.int .i64 ax, .int .i64 ay] 43)) (.cells #[.int .i64 bx, .int .i64 by'] 43))
  go_wp2_with fail
  refine (K.out _ HW.out).mono ?_; rintro e w1 ⟨rfl, h⟩
  have hpa := p2_keep h Ha.out; have hpb := p2_keep h Hb.out; have hw := b_next HW.out h; clear h
  go_wp2_with fail
  have hs := s4_new w1 43 ax ay bx by'
  have hpa2 := p2_alloc (.cells #[.int .i64 ax, .int .i64 ay, .int .i64 bx, .int .i64 by'] 43) hpa; have hpb2 := p2_alloc (.cells #[.int .i64 ax, .int .i64 ay, .int .i64 bx, .int .i64 by'] 43) hpb; have hw2 := b_alloc hw (.cells #[.int .i64 ax, .int .i64 ay, .int .i64 bx, .int .i64 by'] 43)
  have X1 := Lib.hid (And.intro hs (And.intro hpa2 (And.intro hpb2 hw2))); clear hs hpa2 hpb2 hw2
  refine wp_loop_rounds 3 ?_
  rw [rounds_succ]
  go_wp2_with fail
  refine (Ga.out _).mono ?_; rintro e w2 ⟨rfl, h⟩
  have h' := b_next (b_alloc (Below.refl (w1.alloc (.cells #[.int .i64 ax, .int .i64 ay, .int .i64 bx, .int .i64 by'] 43)).heap.size (w1.alloc (.cells #[.int .i64 ax, .int .i64 ay, .int .i64 bx, .int .i64 by'] 43))) _) h
  replace hpa := p2_keep h' X1.out.2.1; replace hpb := p2_keep h' X1.out.2.2.1; have hs := s4_keep h' X1.out.1; replace hw := b_next X1.out.2.2.2 h'; clear h h'
  go_wp2_with fail
  go_ret2
  exact ⟨by first | rfl | simp, hw⟩
set_option maxHeartbeats 2000000 in
theorem me_b (v : Value) (ax ay bx by' : Int) (w : World) (K : Hid (CkC v 0 w)) (Ga : Hid (Chk ax ay 0)) (Gb : Hid (Chk bx by' 4)) :
    Calls Try.prog 111 #[v, .agg #[.int .i64 ax, .int .i64 ay], .agg #[.int .i64 bx, .int .i64 by']] w fun e w' => e = .returned (.tuple #[.bool false, .int .i64 4]) ∧ Below w.heap.size w w' := by
  go_enter Try.func111, Try.ntmps111
  have Ha := Lib.hid (p2_alloc (.cells #[.int .i64 bx, .int .i64 by'] 43) (p2_new w 43 ax ay))
  have Hb := Lib.hid (p2_new1 w (.cells #[.int .i64 ax, .int .i64 ay] 43) 43 bx by')
  have HW := Lib.hid (b_alloc (b_alloc (Below.refl w.heap.size w) (.cells #[.int .i64 ax, .int .i64 ay] 43)) (.cells #[.int .i64 bx, .int .i64 by'] 43))
  go_wp2_with fail
  refine (K.out _ HW.out).mono ?_; rintro e w1 ⟨rfl, h⟩
  have hpa := p2_keep h Ha.out; have hpb := p2_keep h Hb.out; have hw := b_next HW.out h; clear h
  go_wp2_with fail
  have hs := s4_new w1 43 ax ay bx by'
  have hpa2 := p2_alloc (.cells #[.int .i64 ax, .int .i64 ay, .int .i64 bx, .int .i64 by'] 43) hpa; have hpb2 := p2_alloc (.cells #[.int .i64 ax, .int .i64 ay, .int .i64 bx, .int .i64 by'] 43) hpb; have hw2 := b_alloc hw (.cells #[.int .i64 ax, .int .i64 ay, .int .i64 bx, .int .i64 by'] 43)
  have X1 := Lib.hid (And.intro hs (And.intro hpa2 (And.intro hpb2 hw2))); clear hs hpa2 hpb2 hw2
  refine wp_loop_rounds 3 ?_
  rw [rounds_succ]
  go_wp2_with fail
  refine (Ga.out _).mono ?_; rintro e w2 ⟨rfl, h⟩
  have h' := b_next (b_alloc (Below.refl (w1.alloc (.cells #[.int .i64 ax, .int .i64 ay, .int .i64 bx, .int .i64 by'] 43)).heap.size (w1.alloc (.cells #[.int .i64 ax, .int .i64 ay, .int .i64 bx, .int .i64 by'] 43))) _) h
  replace hpa := p2_keep h' X1.out.2.1; replace hpb := p2_keep h' X1.out.2.2.1; have hs := s4_keep h' X1.out.1; replace hw := b_next X1.out.2.2.2 h'; clear h h'
  go_wp2_with fail
  rw [rounds_succ]
  go_wp2_with fail
  refine (Gb.out _).mono ?_; rintro e w3 ⟨rfl, h⟩
  replace h := b_next (b_alloc (Below.refl w2.heap.size w2) _) h
  replace hpa := p2_keep h hpa; replace hpb := p2_keep h hpb; replace hs := s4_keep h hs; replace hw := b_next hw h; clear h
  go_wp2_with fail
  go_ret2
  exact ⟨by first | rfl | simp, hw⟩
set_option maxHeartbeats 2000000 in
theorem me_in (v : Value) (ax ay bx by' p : Int) (w : World) (K : Hid (CkC v 0 w)) (Ga : Hid (Chk ax ay 0)) (Gb : Hid (Chk bx by' 0)) (L : Hid (PlC v ax ay p w)) (hp0 : 0 ≤ p) :
    Calls Try.prog 111 #[v, .agg #[.int .i64 ax, .int .i64 ay], .agg #[.int .i64 bx, .int .i64 by']] w fun e w' => e = .returned (.tuple #[.bool true, .int .i64 0]) ∧ Below w.heap.size w w' := by
  go_enter Try.func111, Try.ntmps111
  have Ha := Lib.hid (p2_alloc (.cells #[.int .i64 bx, .int .i64 by'] 43) (p2_new w 43 ax ay))
  have Hb := Lib.hid (p2_new1 w (.cells #[.int .i64 ax, .int .i64 ay] 43) 43 bx by')
  have HW := Lib.hid (b_alloc (b_alloc (Below.refl w.heap.size w) (.cells #[.int .i64 ax, .int .i64 ay] 43)) (.cells #[.int .i64 bx, .int .i64 by'] 43))
  go_wp2_with fail
  refine (K.out _ HW.out).mono ?_; rintro e w1 ⟨rfl, h⟩
  have hpa := p2_keep h Ha.out; have hpb := p2_keep h Hb.out; have hw := b_next HW.out h; clear h
  go_wp2_with fail
  have hs := s4_new w1 43 ax ay bx by'
  have hpa2 := p2_alloc (.cells #[.int .i64 ax, .int .i64 ay, .int .i64 bx, .int .i64 by'] 43) hpa; have hpb2 := p2_alloc (.cells #[.int .i64 ax, .int .i64 ay, .int .i64 bx, .int .i64 by'] 43) hpb; have hw2 := b_alloc hw (.cells #[.int .i64 ax, .int .i64 ay, .int .i64 bx, .int .i64 by'] 43)
  have X1 := Lib.hid (And.intro hs (And.intro hpa2 (And.intro hpb2 hw2))); clear hs hpa2 hpb2 hw2
  refine wp_loop_rounds 3 ?_
  rw [rounds_succ]
  go_wp2_with fail
  refine (Ga.out _).mono ?_; rintro e w2 ⟨rfl, h⟩
  have h' := b_next (b_alloc (Below.refl (w1.alloc (.cells #[.int .i64 ax, .int .i64 ay, .int .i64 bx, .int .i64 by'] 43)).heap.size (w1.alloc (.cells #[.int .i64 ax, .int .i64 ay, .int .i64 bx, .int .i64 by'] 43))) _) h
  replace hpa := p2_keep h' X1.out.2.1; replace hpb := p2_keep h' X1.out.2.2.1; have hs := s4_keep h' X1.out.1; replace hw := b_next X1.out.2.2.2 h'; clear h h'
  go_wp2_with fail
  rw [rounds_succ]
  go_wp2_with fail
  refine (Gb.out _).mono ?_; rintro e w3 ⟨rfl, h⟩
  replace h := b_next (b_alloc (Below.refl w2.heap.size w2) _) h
  replace hpa := p2_keep h hpa; replace hpb := p2_keep h hpb; replace hs := s4_keep h hs; replace hw := b_next hw h; clear h
  go_wp2_with fail
  rw [rounds_succ]
  go_wp2_with fail
  refine (L.out _ hw).mono ?_; rintro e w4 ⟨rfl, h⟩
  replace hpa := p2_keep h hpa; replace hpb := p2_keep h hpb; replace hw := b_next hw h; clear h hs
  go_wp2_with fail
  go_ret2
  exact ⟨by first | rfl | simp, hw⟩
set_option maxHeartbeats 2000000 in
theorem me_out (n cap b off : Nat) (X Y : Nat → Int) (ax ay bx by' p : Int) (w : World) (K : Hid (CkC (.slice (some ⟨b, off, none⟩) n cap) 0 w)) (Ga : Hid (Chk ax ay 0)) (Gb : Hid (Chk bx by' 0)) (L : Hid (PlC (.slice (some ⟨b, off, none⟩) n cap) ax ay p w)) (hp0 : p < 0) (h0 : 0 < n) (hc : n ≤ cap) (hm : cap ≤ 9223372036854775807) (HV : Hid (∀ k, k < n → E2 w b off k (X k) (Y k))) (HN : Hid (∀ k, k < n → NxC (.slice (some ⟨b, off, none⟩) n cap) n X Y k w)) (HF : Hid (∀ k, k < n → CrCo (X k) (Y k) (X (nx n k)) (Y (nx n k)) ax ay bx by' (commonB (X k) (Y k) (X (nx n k)) (Y (nx n k)) ax ay bx by'))) :
    Calls Try.prog 111 #[.slice (some ⟨b, off, none⟩) n cap, .agg #[.int .i64 ax, .int .i64 ay], .agg #[.int .i64 bx, .int .i64 by']] w fun e w' => e = .returned (.tuple #[.bool (mee n X Y ax ay bx by' n), .int .i64 0]) ∧ Below w.heap.size w w' := by
  go_enter Try.func111, Try.ntmps111
  have Ha := Lib.hid (p2_alloc (.cells #[.int .i64 bx, .int .i64 by'] 43) (p2_new w 43 ax ay))
  have Hb := Lib.hid (p2_new1 w (.cells #[.int .i64 ax, .int .i64 ay] 43) 43 bx by')
  have HW := Lib.hid (b_alloc (b_alloc (Below.refl w.heap.size w) (.cells #[.int .i64 ax, .int .i64 ay] 43)) (.cells #[.int .i64 bx, .int .i64 by'] 43))
  go_wp2_with fail
  refine (K.out _ HW.out).mono ?_; rintro e w1 ⟨rfl, h⟩
  have hpa := p2_keep h Ha.out; have hpb := p2_keep h Hb.out; have hw := b_next HW.out h; clear h
  go_wp2_with fail
  have hs := s4_new w1 43 ax ay bx by'
  have hpa2 := p2_alloc (.cells #[.int .i64 ax, .int .i64 ay, .int .i64 bx, .int .i64 by'] 43) hpa; have hpb2 := p2_alloc (.cells #[.int .i64 ax, .int .i64 ay, .int .i64 bx, .int .i64 by'] 43) hpb; have hw2 := b_alloc hw (.cells #[.int .i64 ax, .int .i64 ay, .int .i64 bx, .int .i64 by'] 43)
  have X1 := Lib.hid (And.intro hs (And.intro hpa2 (And.intro hpb2 hw2))); clear hs hpa2 hpb2 hw2
  refine wp_loop_rounds 3 ?_
  rw [rounds_succ]
  go_wp2_with fail
  refine (Ga.out _).mono ?_; rintro e w2 ⟨rfl, h⟩
  have h' := b_next (b_alloc (Below.refl (w1.alloc (.cells #[.int .i64 ax, .int .i64 ay, .int .i64 bx, .int .i64 by'] 43)).heap.size (w1.alloc (.cells #[.int .i64 ax, .int .i64 ay, .int .i64 bx, .int .i64 by'] 43))) _) h
  replace hpa := p2_keep h' X1.out.2.1; replace hpb := p2_keep h' X1.out.2.2.1; have hs := s4_keep h' X1.out.1; replace hw := b_next X1.out.2.2.2 h'; clear h h'
  go_wp2_with fail
  rw [rounds_succ]
  go_wp2_with fail
  refine (Gb.out _).mono ?_; rintro e w3 ⟨rfl, h⟩
  replace h := b_next (b_alloc (Below.refl w2.heap.size w2) _) h
  replace hpa := p2_keep h hpa; replace hpb := p2_keep h hpb; replace hs := s4_keep h hs; replace hw := b_next hw h; clear h
  go_wp2_with fail
  rw [rounds_succ]
  go_wp2_with fail
  refine (L.out _ hw).mono ?_; rintro e w4 ⟨rfl, h⟩
  replace hpa := p2_keep h hpa; replace hpb := p2_keep h hpb; replace hw := b_next hw h; clear h hs
  obtain ⟨wa, rfl⟩ : ∃ wa : World, wa = w4 := ⟨_, rfl⟩
  go_wp2_with fail
  go_loopw [38] (fun s wr => ∃ k : Nat, k ≤ n ∧ mee n X Y ax ay bx by' k = false ∧ s = .int .i64 k ∧ Below w.heap.size w wr ∧ P2 wr w.heap.size ax ay ∧ P2 wr (w.heap.size + 1) bx by') (fun s _ => n - (intOf s).toNat)
  case atStart => exact ⟨0, Nat.zero_le _, rfl, rfl, hw, hpa, hpb⟩
  case round =>
    obtain ⟨k, hk, hf, rfl, hbl, hpa, hpb⟩ := hrel
    have HK := Lib.hid hf; clear hf
    by_cases hlt : k < n
    · obtain ⟨c0, c1⟩ := e2_keep hbl (HV.out k hlt)
      have hl : (k : Int) < (n : Int) := by omega
      have NN : Hid (NxC (.slice (some ⟨b, off, none⟩) n cap) n X Y k wr) := Lib.hid fun w1 hb => HN.out k hlt w1 (b_next hbl hb)
      have FF := Lib.hid (HF.out k hlt)
      cases hB : commonB (X k) (Y k) (X (nx n k)) (Y (nx n k)) ax ay bx by' with
      | false =>
        rw [hB] at FF
        have HS : Hid (mee n X Y ax ay bx by' (k + 1) = false) := Lib.hid (by show (mee n X Y ax ay bx by' k || _) = false; rw [HK.out, hB]; rfl)
        clear hB
        go_wp2_with fail
        refine d_region (by kernel_rfl) (by kernel_rfl) ?_
        repeat
          first
            | (refine d_plain (by with_reducible rfl) ?_; apply Exists.intro; refine ⟨fun wq hc hq => ?_, ?_⟩)
            | (refine d_on (by with_reducible rfl) (by rfl) (by with_reducible rfl) ?_; apply Exists.intro; refine ⟨fun wq hc hq => ?_, ?_⟩)
            | (refine d_off (by with_reducible rfl) (by rfl) (by rfl) ?_)
            | (refine d_void (by with_reducible rfl) (by rfl) ?_)
          try any_goals
            (have q0 := keep hq c0; have q1 := keep hq c1; have q2 := p2_keep (cls hq) hpa; have q3 := p2_keep (cls hq) hpb; clear hc
             go_simp
             first
               | rfl
               | (go_at_call 148; with_reducible exact call_below hq (NN.out _ (cls hq)))
               | (go_at_call 147; with_reducible exact call_below hq (FF.out _)))
          simp only [Act.put, List.setIfInBounds_toArray, List.set_cons_zero, List.set_cons_succ]
        refine d_nil ?_
        intro w5 hb5
        replace hpa := p2_keep hb5 hpa; replace hpb := p2_keep hb5 hpb
        go_wp2_with fail
        go_roundw
        case rel => first | exact ⟨k + 1, by omega, HS.out, by go_num, b_next hbl hb5, hpa, hpb⟩ | ((repeat apply Exists.intro); exact ⟨⟨k + 1, by omega, HS.out, by go_num, b_next hbl hb5, hpa, hpb⟩, rfl⟩)
        case measure => simp [intOf]; omega
      | true =>
        rw [hB] at FF
        have HS : Hid (mee n X Y ax ay bx by' n = true) := Lib.hid (mee_stop hB n hlt)
        clear hB
        go_wp2_with fail
        refine d_region (by kernel_rfl) (by kernel_rfl) ?_
        repeat
          first
            | (refine d_plain (by with_reducible rfl) ?_; apply Exists.intro; refine ⟨fun wq hc hq => ?_, ?_⟩)
            | (refine d_on (by with_reducible rfl) (by rfl) (by with_reducible rfl) ?_; apply Exists.intro; refine ⟨fun wq hc hq => ?_, ?_⟩)
            | (refine d_off (by with_reducible rfl) (by rfl) (by rfl) ?_)
            | (refine d_void (by with_reducible rfl) (by rfl) ?_)
          try any_goals
            (have q0 := keep hq c0; have q1 := keep hq c1; have q2 := p2_keep (cls hq) hpa; have q3 := p2_keep (cls hq) hpb; clear hc
             go_simp
             first
               | rfl
               | (go_at_call 148; with_reducible exact call_below hq (NN.out _ (cls hq)))
               | (go_at_call 147; with_reducible exact call_below hq (FF.out _)))
          simp only [Act.put, List.setIfInBounds_toArray, List.set_cons_zero, List.set_cons_succ]
        refine d_nil ?_
        intro w5 hb5
        go_wp2_with fail
        go_ret2
        exact ⟨by rw [HS.out]; rfl, b_next hbl hb5⟩
    · have he : k = n := by omega
      have HE := Lib.hid he; clear he
      have hl : ¬ (k : Int) < (n : Int) := by omega
      go_wp2_with fail
      go_ret2
      exact ⟨by have := HK.out; rw [HE.out] at this; rw [this]; rfl, hbl⟩
/-- polygon.Meets's answer. -/
def meets (n : Nat) (X Y : Nat → Int) (ax ay bx by' : Int) : Bool × Int :=
  if pck n X Y ≠ 0 then (false, pck n X Y) else if goodB ax ay = false ∨ goodB bx by' = false then (false, 4) else if 0 ≤ place n X Y ax ay then (true, 0) else (mee n X Y ax ay bx by' n, 0)
theorem meetsC {v : Value} {n : Nat} {X Y : Nat → Int} {w : World} (hv : QV w v n X Y) (ax ay bx by' : Int) :
    Calls Try.prog 111 #[v, .agg #[.int .i64 ax, .int .i64 ay], .agg #[.int .i64 bx, .int .i64 by']] w fun e w' => e = .returned (.tuple #[.bool (meets n X Y ax ay bx by').1, .int .i64 (meets n X Y ax ay bx by').2]) ∧ Below w.heap.size w w' := by
  have K := checkC hv
  have Ga := chkG ax ay; have Gb := chkG bx by'
  unfold meets
  by_cases hE : pck n X Y ≠ 0
  · rw [if_pos hE]; exact me_bad v ax ay bx by' _ w (Lib.hid K) (by simpa using hE) (by simpa using hE)
  · rw [if_neg hE]
    have hE := Classical.not_not.1 hE
    rw [hE] at K
    obtain ⟨h3, h16, hg, -, -⟩ := pck_ok hE
    cases ha : goodB ax ay with
    | false => rw [if_pos (Or.inl rfl)]; rw [ha, if_pos rfl] at Ga; exact me_a v ax ay bx by' w (Lib.hid K) (Lib.hid Ga)
    | true =>
      rw [ha, if_neg (by simp)] at Ga
      cases hb : goodB bx by' with
      | false => rw [if_pos (Or.inr rfl)]; rw [hb, if_pos rfl] at Gb; exact me_b v ax ay bx by' w (Lib.hid K) (Lib.hid Ga) (Lib.hid Gb)
      | true =>
        rw [if_neg (by simp)]; rw [hb, if_neg (by simp)] at Gb
        have ga := goodB_iff.1 ha; have gb := goodB_iff.1 hb
        have L := place_at hv hE ga
        by_cases hp : 0 ≤ place n X Y ax ay
        · rw [if_pos hp]; exact me_in v ax ay bx by' _ w (Lib.hid K) (Lib.hid Ga) (Lib.hid Gb) (Lib.hid L) hp
        · rw [if_neg hp]
          have hN := fun k (hk : k < n) => nextC hv hk
          rcases hv with ⟨h0', -⟩ | ⟨h0, b, off, cap, rfl, h1, h2, h3'⟩
          · omega
          · exact me_out n cap b off X Y ax ay bx by' _ w (Lib.hid K) (Lib.hid Ga) (Lib.hid Gb) (Lib.hid L) (by omega) h0 h1 (Nat.le_trans h2 (by decide)) (Lib.hid h3') (Lib.hid hN)
              (Lib.hid fun k hk w => by
                have g1 := hg k hk; have g2 := hg _ (nx_lt (i := k) h0)
                exact commonC _ _ _ _ _ _ _ _ w ⟨⟨by omega, by omega⟩, ⟨by omega, by omega⟩, ⟨by omega, by omega⟩, ⟨by omega, by omega⟩, ⟨by omega, by omega⟩, ⟨by omega, by omega⟩, ⟨by omega, by omega⟩, ⟨by omega, by omega⟩⟩)
end Poly
end Go.Proofs.Yteaccanhahmclaa
