/- Joined texts: ChB, ChL, ChN, RtL, PlanC. -/
import Derived.Test.YtmkglhoahdlogaaGreatDoorJ08
import Derived.Test.YtmkglhoahdlogaaGreatDoorJ07
namespace Go.Proofs.YtmkglhoahdlogaaGreatDoor
open Go.RowKit
namespace Chart
open Kit Plane Poly
abbrev CcC (c : Value) (E : Int) (w : World) : Prop := ∀ w1, Below w.heap.size w w1 → Calls Tryz.prog 14 #[c] w1 fun e w' => e = .returned (.int .i64 E) ∧ Below w1.heap.size w1 w'
abbrev AiC (aw : Value) (an : ByteArray) (k : Int) (w : World) : Prop := ∀ w1 pb, Below w.heap.size w w1 → w1.cell? ⟨pb, 0, none⟩ = some (.string an) → Calls Tryz.prog 41 #[aw, .func (.func 42) #[] #[.pointer (some ⟨pb, 0, none⟩)]] w1 fun e w' => e = .returned (.int .i64 k) ∧ Below w1.heap.size w1 w'
abbrev BeC (c : Value) (an s t : ByteArray) (w : World) (post : Value → World → Prop) : Prop := Calls Tryz.prog 20 #[c, .string an, .string s, .string t] w fun e w' => (∃ q, e = .returned q ∧ post q w') ∧ Below w.heap.size w w'
theorem str_second (w : World) (o : Obj) (ty : TypeId) (s : ByteArray) : ((w.alloc o).alloc (.cells #[.string s] ty)).cell? ⟨w.heap.size + 1, 0, none⟩ = some (.string s) := by
  have h : ((w.alloc o).alloc (.cells #[.string s] ty)).cell? ⟨(w.alloc o).heap.size, 0, none⟩ = some (.string s) := by simp
  rw [World.size_alloc] at h; exact h
set_option maxHeartbeats 1000000 in
theorem bet_bad (fx aw : Value) (an s t : ByteArray) (E : Int) (w : World) (C : Hid (CcC (.agg #[fx, aw]) E w)) (_hE1 : (E == 0) = false) (hE2 : (E != 0) = true) :
    BeC (.agg #[fx, aw]) an s t w fun q _ => q = .tuple #[.slice none 0 0, .int .i64 E] := by
  have W0 := Lib.hid (b_alloc (b_alloc (Below.refl w.heap.size w) (.cells #[fx, aw] 28)) (.cells #[.string an] 9))
  go_enter Tryz.func20, Tryz.ntmps20
  go_wp2_with fail
  (with_reducible refine (C.out _ W0.out).mono ?_); rintro e w1 ⟨rfl, hb⟩
  have W1 := Lib.hid (b_next W0.out hb); clear hb
  go_wp2_with fail
  all_goals (go_ret2; exact ⟨⟨_, rfl, rfl⟩, W1.out⟩)
set_option maxHeartbeats 1000000 in
theorem bet_none (fx aw : Value) (an s t : ByteArray) (k : Int) (w : World) (C : Hid (CcC (.agg #[fx, aw]) 0 w)) (A : Hid (AiC aw an k w)) (hk : k < 0) :
    BeC (.agg #[fx, aw]) an s t w fun q _ => q = .tuple #[.slice none 0 0, .int .i64 6] := by
  have W0 := Lib.hid (b_alloc (b_alloc (Below.refl w.heap.size w) (.cells #[fx, aw] 28)) (.cells #[.string an] 9))
  have BX := Lib.hid (p2v_keep (b_alloc (Below.refl _ _) (.cells #[.string an] 9)) (p2v_new w 28 fx aw))
  have SX := Lib.hid (str_second w (.cells #[fx, aw] 28) 9 an)
  have hmf : ∀ fn first cap w, (Instr.makeFunc fn first cap).run Tryz.prog w = .ok (.func fn first cap) w := fun _ _ _ _ => rfl
  go_enter Tryz.func20, Tryz.ntmps20
  go_wp2_with fail
  (with_reducible refine (C.out _ W0.out).mono ?_); rintro e w1 ⟨rfl, hb⟩
  have W1 := Lib.hid (b_next W0.out hb); obtain ⟨x0, x1⟩ := p2v_keep hb BX.out; have S1 := Lib.hid (keep hb SX.out); clear hb
  go_wp2_with fail
  (with_reducible refine (A.out _ _ W1.out S1.out).mono ?_); rintro e w2 ⟨rfl, hb⟩
  have W2 := Lib.hid (b_next W1.out hb); clear hb
  go_wp2_with fail
  all_goals (go_ret2; exact ⟨⟨_, rfl, rfl⟩, W2.out⟩)
/-- The names between two places of a list, in either direction. -/
def way (S : Nat → ByteArray) (i j : Nat) : Nat → ByteArray := fun t => if i ≤ j then S (i + t) else S (i - t)
set_option maxRecDepth 100000 in
set_option maxHeartbeats 4000000 in
theorem bet_ok (fx : Value) (m cap b off kn : Nat) (an s t : ByteArray) (M : Nat → ByteArray) (l : Nat → Nat) (S : Nat → Nat → ByteArray) (w : World) (hkn : kn < m) (_hc : m ≤ cap) (_hm : cap ≤ 9223372036854775807) (hlk : l kn ≤ 24)
    (C : Hid (CcC (.agg #[fx, .slice (some ⟨b, off, none⟩) m cap]) 0 w)) (A : Hid (AiC (.slice (some ⟨b, off, none⟩) m cap) an kn w)) (HV : Hid (∀ k, k < m → A2 w b off k (M k) (l k) (S k))) :
    BeC (.agg #[fx, .slice (some ⟨b, off, none⟩) m cap]) an s t w fun q w' => if fix (S kn) s (l kn) < 0 ∨ fix (S kn) t (l kn) < 0 then q = .tuple #[.slice none 0 0, .int .i64 6] else ∃ i j : Nat, fix (S kn) s (l kn) = i ∧ fix (S kn) t (l kn) = j ∧ ∃ v, q = .tuple #[v, .int .i64 0] ∧ SV w' v (max i j + 1 - min i j) (way (S kn) i j) := by
  have W0 := Lib.hid (b_alloc (b_alloc (Below.refl w.heap.size w) (.cells #[fx, .slice (some ⟨b, off, none⟩) m cap] 28)) (.cells #[.string an] 9))
  have BX := Lib.hid (p2v_keep (b_alloc (Below.refl _ _) (.cells #[.string an] 9)) (p2v_new w 28 fx (.slice (some ⟨b, off, none⟩) m cap)))
  have SX := Lib.hid (str_second w (.cells #[fx, .slice (some ⟨b, off, none⟩) m cap] 28) 9 an)
  have hmf : ∀ fn first cap w, (Instr.makeFunc fn first cap).run Tryz.prog w = .ok (.func fn first cap) w := fun _ _ _ _ => rfl
  have hl : (kn : Int) < (m : Int) := by omega
  obtain ⟨ca0, vi, ca1, hsv⟩ := HV.out kn hkn
  obtain ⟨A1, ci, rfl⟩ := sv_slice hsv
  have D1 := Lib.hid ca1; have SVK := Lib.hid hsv
  clear ca0 ca1 hsv
  obtain ⟨L, hL⟩ : ∃ L, L = l kn := ⟨_, rfl⟩
  obtain ⟨T, hT⟩ : ∃ T, T = S kn := ⟨_, rfl⟩
  rw [← hL] at SVK D1 hlk
  rw [← hT] at SVK
  obtain ⟨post, hpost⟩ : ∃ post : Value → World → Prop, post = fun q w' => if fix T s L < 0 ∨ fix T t L < 0 then q = .tuple #[.slice none 0 0, .int .i64 6] else ∃ i j : Nat, fix T s L = i ∧ fix T t L = j ∧ ∃ v, q = .tuple #[v, .int .i64 0] ∧ SV w' v (max i j + 1 - min i j) (way T i j) := ⟨_, rfl⟩
  rw [← hL, ← hT, ← hpost]
  have HP := Lib.hid hpost; clear hpost hL hT
  go_enter Tryz.func20, Tryz.ntmps20
  go_wp2_with fail
  (with_reducible refine (C.out _ W0.out).mono ?_); rintro e w1 ⟨rfl, hb⟩
  have W1 := Lib.hid (b_next W0.out hb); have BX1 := Lib.hid (p2v_keep hb BX.out); have S1 := Lib.hid (keep hb SX.out); clear hb
  obtain ⟨x0, x1⟩ := BX1.out
  go_wp2_with fail
  (with_reducible refine (A.out _ _ W1.out S1.out).mono ?_); rintro e w2 ⟨rfl, hb⟩
  have W2 := Lib.hid (b_next W1.out hb); clear x0 x1
  obtain ⟨x0, x1⟩ := p2v_keep hb BX1.out
  have SV2 := Lib.hid (sv_keep W2.out SVK.out)
  have d1 := keep W2.out D1.out
  clear hb
  have I1 := Lib.hid fun (w' : World) (hb : Below w2.heap.size w2 w') => sidxC (sv_keep hb SV2.out) s
  have I2 := Lib.hid fun (w' : World) (hb : Below w2.heap.size w2 w') => sidxC (sv_keep hb SV2.out) t
  have hb1 : -1 ≤ fix T s L ∧ fix T s L < (L : Int) := fnd_bd _ _
  have hb2 : -1 ≤ fix T t L ∧ fix T t L < (L : Int) := fnd_bd _ _
  obtain ⟨i, hi⟩ : ∃ i, i = fix T s L := ⟨_, rfl⟩
  obtain ⟨j, hj⟩ : ∃ j, j = fix T t L := ⟨_, rfl⟩
  rw [← hi] at HP I1 hb1
  rw [← hj] at HP I2 hb2
  clear hi hj
  go_wp2_with fail
  (with_reducible refine (I1.out _ (Below.refl _ _)).mono ?_); rintro e w3 ⟨rfl, hb⟩
  have W3 := Lib.hid (b_next W2.out hb); have V3 := Lib.hid hb; clear hb x0 x1 d1
  go_wp2_with fail
  (with_reducible refine (I2.out _ V3.out).mono ?_); rintro e w4 ⟨rfl, hb⟩
  have W4 := Lib.hid (b_next W3.out hb); have SV4 := Lib.hid (sv_keep (b_next V3.out hb) SV2.out); clear hb I1 I2 SV2 SVK
  by_cases hneg : i < 0 ∨ j < 0
  · have HQ : Hid (∀ w', post (.tuple #[.slice none 0 0, .int .i64 6]) w') := Lib.hid fun w' => by rw [HP.out]; dsimp only; rw [if_pos hneg]
    clear HP
    rcases hneg with h | h
    · go_wp2_with fail
      all_goals (go_ret2; exact ⟨⟨_, rfl, HQ.out _⟩, W4.out⟩)
    · by_cases h' : i < 0
      · go_wp2_with fail
        all_goals (go_ret2; exact ⟨⟨_, rfl, HQ.out _⟩, W4.out⟩)
      · go_wp2_with fail
        all_goals (go_ret2; exact ⟨⟨_, rfl, HQ.out _⟩, W4.out⟩)
  obtain ⟨iN, rfl⟩ : ∃ iN : Nat, i = (iN : Int) := ⟨i.toNat, by omega⟩
  obtain ⟨jN, rfl⟩ : ∃ jN : Nat, j = (jN : Int) := ⟨j.toNat, by omega⟩
  have hi' : iN < L := by omega
  have hj' : jN < L := by omega
  have HQ : Hid (∀ v w', SV w' v (max iN jN + 1 - min iN jN) (way T iN jN) → post (.tuple #[v, .int .i64 0]) w') := Lib.hid fun v w' h => by
    rw [HP.out]; dsimp only; rw [if_neg hneg]
    exact ⟨iN, jN, rfl, rfl, v, rfl, h⟩
  clear HP hneg hb1 hb2
  obtain ⟨b2, off2, ci', e1, hc1, hc2, hcs⟩ := sv_at SV4.out (by omega)
  injection e1 with e1 _ e3
  subst e1 e3
  have HS4 := Lib.hid hcs; clear hcs SV4
  have hc3 : ci ≤ 9223372036854775807 := Nat.le_trans hc2 (by decide)
  have CL := Lib.hid fun (lo n' : Nat) (h0 : 0 < n') (h1 : lo + n' ≤ L) => clone_w n' (ci - lo) b2 (off2 + lo) (fun t => T (lo + t)) w4 h0 (by omega) (by omega) (Lib.hid fun k hk => by
    have := HS4.out (lo + k) (by omega)
    rw [← Nat.add_assoc] at this; exact this)
  have n1 : ¬ (iN : Int) < 0 := by omega
  have n2 : ¬ (jN : Int) < 0 := by omega
  rcases Nat.lt_trichotomy iN jN with hij | hij | hij
  · have q1 : (iN : Int) < (jN : Int) := by omega
    rw [show max iN jN = jN from by omega, show min iN jN = iN from by omega] at HQ
    have hw : way T iN jN = fun t => T (iN + t) := by unfold way; funext t; rw [if_pos (by omega)]
    rw [hw] at HQ
    go_wp2_with fail
    (with_reducible refine (CL.out iN (jN + 1 - iN) (by omega) (by omega)).mono ?_); rintro e w5 ⟨⟨g, c, rfl, g1, g2, g3, g4, g5⟩, hb⟩
    have R5 := Lib.hid g5; have W5 := Lib.hid (b_next W4.out hb); clear hb g5
    go_wp2_with fail
    go_ret2
    exact ⟨⟨_, rfl, HQ.out _ _ (Or.inr ⟨by omega, g, 0, c, rfl, g3, g4, fun k hk => by rw [Nat.zero_add]; exact R5.out.cell k hk⟩)⟩, W5.out⟩
  · subst hij
    rw [show max iN iN = iN from by omega, show min iN iN = iN from by omega, show iN + 1 - iN = 1 from by omega] at HQ
    have hw : way T iN iN = fun t => T (iN + t) := by unfold way; funext t; rw [if_pos (by omega)]
    rw [hw] at HQ
    go_wp2_with fail
    (with_reducible refine (CL.out iN 1 (by omega) (by omega)).mono ?_); rintro e w5 ⟨⟨g, c, rfl, g1, g2, g3, g4, g5⟩, hb⟩
    have R5 := Lib.hid g5; have W5 := Lib.hid (b_next W4.out hb); clear hb g5
    go_wp2_with fail
    go_ret2
    exact ⟨⟨_, rfl, HQ.out _ _ (Or.inr ⟨by omega, g, 0, c, rfl, g3, g4, fun k hk => by rw [Nat.zero_add]; exact R5.out.cell k hk⟩)⟩, W5.out⟩
  · have q1 : (jN : Int) < (iN : Int) := by omega
    rw [show max iN jN = iN from by omega, show min iN jN = jN from by omega] at HQ
    go_wp2_with fail
    (with_reducible refine (CL.out jN (iN + 1 - jN) (by omega) (by omega)).mono ?_); rintro e w5 ⟨⟨g, c, rfl, g1, g2, g3, g4, g5⟩, hb⟩
    have R5 := Lib.hid g5; have W5 := Lib.hid (b_next W4.out hb); have HG := Lib.hid (Nat.le_trans W4.out.size g1); clear hb g5
    go_wp2_with fail
    (with_reducible refine (reverse_w (iN + 1 - jN) c g _ w5 (by omega) (by omega) g3 (Nat.le_trans g4 (by decide)) g2 R5).mono ?_); rintro e w6 ⟨rfl, g6, g7, g8⟩
    have R6 := Lib.hid g6; have W6 := Lib.hid (g7 w HG.out W5.out); clear g6 g7
    go_wp2_with fail
    go_ret2
    refine ⟨⟨_, rfl, HQ.out _ _ (Or.inr ⟨by omega, g, 0, c, rfl, g3, g4, fun k hk => ?_⟩)⟩, W6.out⟩
    rw [Nat.zero_add, R6.out.cell k hk]
    unfold way
    rw [if_neg (by omega), show jN + (iN + 1 - jN - 1 - k) = iN - k from by omega]
/-- chart.Between's answer. -/
def betP (n : Nat) (N : Nat → ByteArray) (X Y : Nat → Int) (m : Nat) (M : Nat → ByteArray) (l : Nat → Nat) (S : Nat → Nat → ByteArray) (an s t : ByteArray) (q : Value) (w' : World) : Prop :=
  if cerr n N X Y m M l S ≠ 0 then q = .tuple #[.slice none 0 0, .int .i64 (cerr n N X Y m M l S)]
  else if fix M an m < 0 then q = .tuple #[.slice none 0 0, .int .i64 6]
  else ∃ k : Nat, fix M an m = k ∧ k < m ∧ if fix (S k) s (l k) < 0 ∨ fix (S k) t (l k) < 0 then q = .tuple #[.slice none 0 0, .int .i64 6] else ∃ i j : Nat, fix (S k) s (l k) = i ∧ fix (S k) t (l k) = j ∧ ∃ v, q = .tuple #[v, .int .i64 0] ∧ SV w' v (max i j + 1 - min i j) (way (S k) i j)
theorem aerr_len {n : Nat} {N : Nat → ByteArray} {X Y : Nat → Int} {M : Nat → ByteArray} {l : Nat → Nat} {S : Nat → Nat → ByteArray} {i : Nat} (h : aerr n N X Y M l S i = 0) : Name.nameB (M i) = true ∧ fix N (M i) n < 0 ∧ fix M (M i) i < 0 ∧ 2 ≤ l i ∧ l i ≤ 24 ∧ ∀ j, j < l i → nerr n N X Y (S i) j = 0 := by
  unfold aerr at h
  by_cases h1 : Name.nameB (M i) = false
  · rw [if_pos h1] at h; exact absurd h (by decide)
  · rw [if_neg h1] at h
    by_cases h2 : 0 ≤ fix N (M i) n ∨ 0 ≤ fix M (M i) i
    · rw [if_pos h2] at h; exact absurd h (by decide)
    · rw [if_neg h2] at h
      by_cases h3 : l i < 2 ∨ 24 < l i
      · rw [if_pos h3] at h; exact absurd h (by decide)
      · rw [if_neg h3] at h
        exact ⟨by simpa using h1, by omega, by omega, by omega, by omega, ferr_inv h⟩
theorem cerr_ok {n : Nat} {N : Nat → ByteArray} {X Y : Nat → Int} {m : Nat} {M : Nat → ByteArray} {l : Nat → Nat} {S : Nat → Nat → ByteArray} (h : cerr n N X Y m M l S = 0) : n ≤ 64 ∧ m ≤ 16 ∧ (∀ k, k < n → fe n N X Y k = 0) ∧ ∀ i, i < m → aerr n N X Y M l S i = 0 := by
  unfold cerr at h
  by_cases h1 : 64 < n ∨ 16 < m
  · rw [if_pos h1] at h; exact absurd h (by decide)
  · rw [if_neg h1] at h
    by_cases h2 : ferr (fe n N X Y) n ≠ 0
    · rw [if_pos h2] at h; exact absurd h h2
    · rw [if_neg h2] at h
      exact ⟨by omega, by omega, ferr_inv (Classical.not_not.1 h2), ferr_inv h⟩
theorem betweenC {c : Value} {n : Nat} {N : Nat → ByteArray} {X Y : Nat → Int} {m : Nat} {M : Nat → ByteArray} {l : Nat → Nat} {S : Nat → Nat → ByteArray} {w : World} (hv : CV w c n N X Y m M l S) (an s t : ByteArray) : BeC c an s t w (betP n N X Y m M l S an s t) := by
  have hC : CcC c (cerr n N X Y m M l S) w := fun w1 hb => checkC (cv_keep hb hv)
  obtain ⟨fx, aw, rfl, h1, h2⟩ := hv.ex
  have hA : AiC aw an (fix M an m) w := fun w1 pb hb hq => aidxC_b (av_keep hb h2) pb an hq
  by_cases hE : cerr n N X Y m M l S ≠ 0
  · refine (bet_bad fx aw an s t _ w (Lib.hid hC) (by simp [hE]) (by simp [hE])).mono ?_
    rintro e w' ⟨⟨q, rfl, rfl⟩, h⟩
    exact ⟨⟨_, rfl, by unfold betP; rw [if_pos hE]⟩, h⟩
  · have hE0 := Classical.not_not.1 hE
    rw [hE0] at hC
    obtain ⟨h64, h16, hfe, hae⟩ := cerr_ok hE0
    by_cases hk : fix M an m < 0
    · refine (bet_none fx aw an s t _ w (Lib.hid hC) (Lib.hid hA) hk).mono ?_
      rintro e w' ⟨⟨q, rfl, rfl⟩, h⟩
      exact ⟨⟨_, rfl, by unfold betP; rw [if_neg hE, if_pos hk]⟩, h⟩
    · have hbd : -1 ≤ fix M an m ∧ fix M an m < (m : Int) := fnd_bd _ _
      obtain ⟨kn, hkn⟩ : ∃ kn : Nat, fix M an m = (kn : Int) := ⟨(fix M an m).toNat, by omega⟩
      rw [hkn] at hA hbd hk
      have hlt : kn < m := by omega
      rcases h2 with ⟨h0, -⟩ | ⟨h0, b, off, cap, rfl, hc1, hc2, hAV⟩
      · omega
      · refine (bet_ok fx m cap b off kn an s t M l S w hlt hc1 (Nat.le_trans hc2 (by decide)) (aerr_len (hae kn hlt)).2.2.2.2.1 (Lib.hid hC) (Lib.hid hA) (Lib.hid hAV)).mono ?_
        rintro e w' ⟨⟨q, rfl, hq⟩, h⟩
        exact ⟨⟨_, rfl, by unfold betP; rw [if_neg hE, if_neg (by rw [hkn]; exact hk)]; exact ⟨kn, hkn, hlt, hq⟩⟩, h⟩
end Chart
end Go.Proofs.YtmkglhoahdlogaaGreatDoor
namespace Go.Proofs.YtmkglhoahdlogaaGreatDoor
open Go.RowKit
namespace Chart
open Kit Plane Poly
/-- The sum of the steps behind the first of k. -/
def lsum (D : Nat → Int) : Nat → Int
  | 0 => 0
  | k + 1 => if k = 0 then 0 else lsum D k + D k
theorem lsum_bd {D : Nat → Int} (h : ∀ k, 0 ≤ D k ∧ D k ≤ 3037000500) : ∀ k, 0 ≤ lsum D k ∧ lsum D k ≤ 3037000500 * k
  | 0 => by show (0 : Int) ≤ 0 ∧ (0 : Int) ≤ 3037000500 * 0; omega
  | k + 1 => by
    have h1 := lsum_bd h k
    have h2 := h k
    show 0 ≤ (if k = 0 then 0 else lsum D k + D k) ∧ (if k = 0 then 0 else lsum D k + D k) ≤ 3037000500 * ((k + 1 : Nat) : Int)
    split <;> omega
/-- The place of a name among the fixes. -/
def pos (n : Nat) (N : Nat → ByteArray) (s : ByteArray) : Nat := (fix N s n).toNat
/-- The step to name j. -/
def stp (n : Nat) (N : Nat → ByteArray) (X Y : Nat → Int) (S : Nat → ByteArray) (j : Nat) : Int :=
  dup (sqr (X (pos n N (S (j - 1)))) (Y (pos n N (S (j - 1)))) (X (pos n N (S j))) (Y (pos n N (S j))))
theorem dup_bd' (s : Int) (_h0 : 0 ≤ s) (h : s ≤ 9223372036854775807) : 0 ≤ dup s ∧ dup s ≤ 3037000500 := by
  have h1 := root_nonneg s
  have h2 := root_le h
  unfold dup
  split <;> omega
/-- The error at a name. -/
def lerr (n : Nat) (N : Nat → ByteArray) (S : Nat → ByteArray) (j : Nat) : Int := if fix N (S j) n < 0 then 6 else 0
set_option maxHeartbeats 1000000 in
theorem len_bad (fx aw v : Value) (E : Int) (w : World) (C : Hid (CcC (.agg #[fx, aw]) E w)) (_hE1 : (E == 0) = false) (hE2 : (E != 0) = true) :
    Calls Tryz.prog 84 #[.agg #[fx, aw], v] w fun e w' => e = .returned (.tuple #[.int .i64 0, .int .i64 E]) ∧ Below w.heap.size w w' := by
  have W0 := Lib.hid (b_alloc (Below.refl w.heap.size w) (.cells #[fx, aw] 28))
  go_enter Tryz.func84, Tryz.ntmps84
  go_wp2_with fail
  (with_reducible refine (C.out _ W0.out).mono ?_); rintro e w1 ⟨rfl, hb⟩
  have W1 := Lib.hid (b_next W0.out hb); clear hb
  go_wp2_with fail
  all_goals (go_ret2; exact ⟨rfl, W1.out⟩)
set_option maxHeartbeats 1000000 in
theorem len_big (fx aw : Value) (A : Option Addr) (r c : Nat) (w : World) (C : Hid (CcC (.agg #[fx, aw]) 0 w)) (h : 64 < r) :
    Calls Tryz.prog 84 #[.agg #[fx, aw], .slice A r c] w fun e w' => e = .returned (.tuple #[.int .i64 0, .int .i64 2]) ∧ Below w.heap.size w w' := by
  have W0 := Lib.hid (b_alloc (Below.refl w.heap.size w) (.cells #[fx, aw] 28))
  have h1 : (64 : Int) < (r : Int) := by omega
  go_enter Tryz.func84, Tryz.ntmps84
  go_wp2_with fail
  (with_reducible refine (C.out _ W0.out).mono ?_); rintro e w1 ⟨rfl, hb⟩
  have W1 := Lib.hid (b_next W0.out hb); clear hb
  go_wp2_with fail
  all_goals (go_ret2; exact ⟨rfl, W1.out⟩)
set_option maxRecDepth 100000 in
set_option maxHeartbeats 8000000 in
theorem len_w (fx aw : Value) (A : Option Addr) (r c n : Nat) (N : Nat → ByteArray) (X Y : Nat → Int) (S : Nat → ByteArray) (w : World) (C : Hid (CcC (.agg #[fx, aw]) 0 w)) (hr : r ≤ 64)
    (HF : Hid (FV w fx n N X Y)) (HS : Hid (SV w (.slice A r c) r S)) (IX : Hid (IxC fx aw n N w)) (HG : Hid (∀ k, k < n → good (X k) (Y k))) (HDD : Hid (∀ j, 0 ≤ stp n N X Y S j ∧ stp n N X Y S j ≤ 3037000500)) :
    Calls Tryz.prog 84 #[.agg #[fx, aw], .slice A r c] w fun e w' => e = .returned (if ferr (lerr n N S) r ≠ 0 then .tuple #[.int .i64 0, .int .i64 6] else .tuple #[.int .i64 (lsum (stp n N X Y S) r), .int .i64 0]) ∧ Below w.heap.size w w' := by
  have W0 := Lib.hid (b_alloc (Below.refl w.heap.size w) (.cells #[fx, aw] 28))
  have BX0 := Lib.hid (p2v_new w 28 fx aw)
  obtain ⟨R, hR⟩ : ∃ R : Value, R = if ferr (lerr n N S) r ≠ 0 then .tuple #[.int .i64 0, .int .i64 6] else .tuple #[.int .i64 (lsum (stp n N X Y S) r), .int .i64 0] := ⟨_, rfl⟩
  rw [← hR]
  have HR := Lib.hid hR; clear hR
  have h1 : ¬ (64 : Int) < (r : Int) := by omega
  go_enter Tryz.func84, Tryz.ntmps84
  go_wp2_with fail
  (with_reducible refine (C.out _ W0.out).mono ?_); rintro e w0 ⟨rfl, hb⟩
  have W1 := Lib.hid (b_next W0.out hb); have BX1 := Lib.hid (p2v_keep hb BX0.out); clear hb
  go_wp2_with fail
  go_loopw [22, 7] (fun s t wr => ∃ k : Nat, k ≤ r ∧ s = .int .i64 k ∧ t = .int .i64 (lsum (stp n N X Y S) k) ∧ (∀ j, j < k → lerr n N S j = 0) ∧ Below w0.heap.size w0 wr) (fun s _ _ => r - (intOf s).toNat)
  case atStart => exact ⟨0, Nat.zero_le _, rfl, rfl, fun j hj => absurd hj (Nat.not_lt_zero j), Below.refl _ _⟩
  case round =>
    obtain ⟨k, hk, rfl, rfl, hno, hbl⟩ := hrel
    have HN := Lib.hid hno; have HB := Lib.hid hbl; have W2 := Lib.hid (b_next W1.out hbl); have BX2 := Lib.hid (p2v_keep hbl BX1.out); clear hno hbl
    obtain ⟨x0, x1⟩ := BX2.out
    by_cases hlt : k < r
    · have hl : (k : Int) < (r : Int) := by omega
      obtain ⟨b, off, c', e, hc1, hc2, hS⟩ := sv_at (sv_keep W2.out HS.out) (by omega)
      injection e with e1 _ e3
      subst e1 e3
      have hc3 : c ≤ 9223372036854775807 := Nat.le_trans hc2 (by decide)
      have HS2 := Lib.hid hS
      have s0 := hS k hlt
      clear hS
      have hD : ∀ j, 0 ≤ stp n N X Y S j ∧ stp n N X Y S j ≤ 3037000500 := HDD.out
      have bd := lsum_bd hD k
      have bd2 := hD k
      clear hD
      have hls : lsum (stp n N X Y S) (k + 1) = if k = 0 then 0 else lsum (stp n N X Y S) k + stp n N X Y S k := rfl
      have HLS := Lib.hid hls; clear hls
      have hls0 : k = 0 → lsum (stp n N X Y S) k = 0 := fun h => by rw [h]; rfl
      have HL0 := Lib.hid hls0; clear hls0
      generalize lsum (stp n N X Y S) k = L at *
      go_wp2_with fail
      (with_reducible refine (IX.out _ _ W2.out).mono ?_); rintro e w3 ⟨rfl, hb⟩
      have W3 := Lib.hid (b_next W2.out hb); have BX3 := Lib.hid (p2v_keep hb BX2.out); have HB3 := Lib.hid (b_next HB.out hb)
      have SK := Lib.hid (keep hb s0)
      clear x0 x1 s0
      obtain ⟨x0, x1⟩ := BX3.out
      have hbd : -1 ≤ fix N (S k) n ∧ fix N (S k) n < (n : Int) := fnd_bd _ _
      by_cases hneg : fix N (S k) n < 0
      · have e6 : R = .tuple #[.int .i64 0, .int .i64 6] := by
          have he : lerr n N S k = 6 := by unfold lerr; rw [if_pos hneg]
          have := ferr_at HN.out (by rw [he]; decide) hlt
          rw [HR.out, this, he, if_pos (by decide)]
        have E6 := Lib.hid e6; clear e6
        generalize fix N (S k) n = f at *
        clear hb
        go_wp2_with fail
        all_goals (go_ret2; exact ⟨by rw [E6.out]; rfl, W3.out⟩)
      have HZ := Lib.hid (show lerr n N S k = 0 by unfold lerr; rw [if_neg hneg])
      by_cases hk0 : k = 0
      · have hz : ¬ (0 : Int) < (k : Int) := by omega
        have L0 := HL0.out hk0
        subst L0
        have hls2 := HLS.out
        rw [if_pos hk0] at hls2
        have HL2 := Lib.hid hls2; clear hls2 HLS HL0 hb bd
        generalize fix N (S k) n = f at *
        go_wp2_with fail
        exact ⟨⟨k + 1, by omega, by go_num, by rw [HL2.out], all_next HN.out HZ.out, HB3.out⟩, by simp [intOf]; omega⟩
      have hz : (0 : Int) < (k : Int) := by omega
      have SP := Lib.hid (keep hb (HS2.out (k - 1) (by omega)))
      clear hb
      have hprev : ¬ fix N (S (k - 1)) n < 0 := fun h => by
        have := HN.out (k - 1) (by omega)
        unfold lerr at this
        rw [if_pos h] at this; exact absurd this (by decide)
      have hbd2 : -1 ≤ fix N (S (k - 1)) n ∧ fix N (S (k - 1)) n < (n : Int) := fnd_bd _ _
      obtain ⟨a, ha⟩ : ∃ a : Nat, fix N (S k) n = (a : Int) := ⟨(fix N (S k) n).toNat, by omega⟩
      obtain ⟨p, hp⟩ : ∃ p : Nat, fix N (S (k - 1)) n = (p : Int) := ⟨(fix N (S (k - 1)) n).toNat, by omega⟩
      have hst : stp n N X Y S k = dup (sqr (X p) (Y p) (X a) (Y a)) := by unfold stp pos; rw [ha, hp, Int.toNat_natCast, Int.toNat_natCast]
      have IX1 := Lib.hid fun (w' : World) (hb : Below w.heap.size w w') => IX.out w' (S (k - 1)) hb
      have IX2 := Lib.hid fun (w' : World) (hb : Below w.heap.size w w') => IX.out w' (S k) hb
      rw [ha] at hneg hbd IX2 ⊢
      rw [hp] at hprev hbd2 IX1
      have hal : a < n := by omega
      have hpl : p < n := by omega
      obtain ⟨bf, of', cf, rfl, hf1, hf2, HE3⟩ := fv_at (fv_keep W3.out HF.out) (by omega)
      have hf3 : cf ≤ 9223372036854775807 := Nat.le_trans hf2 (by decide)
      have XR := Lib.hid (HE3 p hpl); have YR := Lib.hid (HE3 a hal)
      have i1 : (a : Int) < (n : Int) := by omega
      have i2 : (p : Int) < (n : Int) := by omega
      have ga := HG.out a hal; have gp := HG.out p hpl
      have DI := Lib.hid fun (w' : World) => distance (X p) (Y p) (X a) (Y a) w' rfl (by unfold good at *; omega)
      rw [← hst] at DI
      rw [if_neg hk0] at HLS
      clear hst ha hp HE3 ga gp hbd hbd2 hprev HL0 x0 x1
      obtain ⟨st, hst⟩ : ∃ st, st = stp n N X Y S k := ⟨_, rfl⟩
      rw [← hst] at DI HLS bd2
      clear hst
      generalize root (sqr (X p) (Y p) (X a) (Y a)) = ro at *
      generalize X p = xp at *
      generalize Y p = yp at *
      generalize X a = xa at *
      generalize Y a = ya at *
      have u1 : IntKind.i64.wrap ((k : Int) - 1) = ((k - 1 : Nat) : Int) := by rw [IntWalk.i64_in _ (by omega)]; omega
      have u2 : ((k - 1 : Nat) : Int) < (r : Int) := by omega
      have u3 : (k : Int) - 1 = ((k - 1 : Nat) : Int) := by omega
      have u4' : IntKind.i64.wrap ((k - 1 : Nat) : Int) = ((k - 1 : Nat) : Int) := IntWalk.i64_in _ (by omega)
      go_wp2_with fail
      refine d_region (by kernel_rfl) (by kernel_rfl) ?_
      repeat
        first
          | (refine d_plain (by with_reducible rfl) ?_; apply Exists.intro; refine ⟨fun wq hc hq => ?_, ?_⟩)
          | (refine d_on (by with_reducible rfl) (by rfl) (by with_reducible rfl) ?_; apply Exists.intro; refine ⟨fun wq hc hq => ?_, ?_⟩)
          | (refine d_off (by with_reducible rfl) (by rfl) (by rfl) ?_)
          | (refine d_void (by with_reducible rfl) (by rfl) ?_)
        try any_goals
          (obtain ⟨b0, b1⟩ := p2v_keep (cls hq) BX3.out; obtain ⟨x0, x1, x2⟩ := e3_keep (cls hq) XR.out; obtain ⟨y0, y1, y2⟩ := e3_keep (cls hq) YR.out; have s0 := keep (cls hq) SP.out; have s1 := keep (cls hq) SK.out; clear hc
           go_simp
           first
             | rfl
             | (go_at_call 21; with_reducible exact call_below hq (IX1.out _ (b_next W3.out (cls hq))))
             | (go_at_call 21; with_reducible exact call_below hq (IX2.out _ (b_next W3.out (cls hq))))
             | (go_at_call 26; with_reducible exact call_below hq (DI.out _)))
        simp only [Act.put, List.setIfInBounds_toArray, List.set_cons_zero, List.set_cons_succ]
      refine d_nil ?_
      intro w4 hb4
      have HB4 := Lib.hid (b_next HB3.out hb4); clear hb4
      go_wp2_with fail
      exact ⟨⟨k + 1, by omega, by go_num, by rw [HLS.out], all_next HN.out HZ.out, HB4.out⟩, by simp [intOf]; omega⟩
    · have hkn : k = r := by omega
      have hl : ¬ (k : Int) < (r : Int) := by omega
      have e0 : R = .tuple #[.int .i64 (lsum (stp n N X Y S) r), .int .i64 0] := by
        rw [HR.out, ferr_zero (fun j hj => HN.out j (by omega)), if_neg (by decide)]
      have E0 := Lib.hid e0; clear e0
      go_wp2_with fail
      all_goals (go_ret2; exact ⟨by rw [E0.out]; rfl, W2.out⟩)
/-- chart.Length's answer. -/
def lenR (E : Int) (n : Nat) (N : Nat → ByteArray) (X Y : Nat → Int) (r : Nat) (S : Nat → ByteArray) : Int × Int :=
  if E ≠ 0 then (0, E) else if 64 < r then (0, 2) else if ferr (lerr n N S) r ≠ 0 then (0, 6) else (lsum (stp n N X Y S) r, 0)
theorem fe_ok {n : Nat} {N : Nat → ByteArray} {X Y : Nat → Int} {k : Nat} (h : fe n N X Y k = 0) : Name.nameB (N k) = true ∧ (k : Int) ≤ fix N (N k) n ∧ good (X k) (Y k) := by
  unfold fe at h
  by_cases h1 : Name.nameB (N k) = false
  · rw [if_pos h1] at h; exact absurd h (by decide)
  · rw [if_neg h1] at h
    by_cases h2 : fix N (N k) n < k
    · rw [if_pos h2] at h; exact absurd h (by decide)
    · rw [if_neg h2] at h
      by_cases h3 : goodB (X k) (Y k) = false
      · rw [if_pos h3] at h; exact absurd h (by decide)
      · exact ⟨by simpa using h1, by omega, goodB_iff.1 (by simpa using h3)⟩
theorem pos_lt {n : Nat} {N : Nat → ByteArray} (s : ByteArray) (h0 : 0 < n) : pos n N s < n := by
  have h : -1 ≤ fix N s n ∧ fix N s n < (n : Int) := fnd_bd _ _
  unfold pos; omega
theorem stp_bd {n : Nat} {N : Nat → ByteArray} {X Y : Nat → Int} {S : Nat → ByteArray} (h0 : 0 < n) (hg : ∀ k, k < n → good (X k) (Y k)) (j : Nat) : 0 ≤ stp n N X Y S j ∧ stp n N X Y S j ≤ 3037000500 := by
  have g1 := hg _ (pos_lt (N := N) (S (j - 1)) h0)
  have g2 := hg _ (pos_lt (N := N) (S j) h0)
  have h1 := sqr_wrap (ax := X (pos n N (S (j - 1)))) (ay := Y (pos n N (S (j - 1)))) (bx := X (pos n N (S j))) (by' := Y (pos n N (S j))) (M := 1000000000) rfl (by unfold good at *; omega)
  exact dup_bd' _ (sqr_nonneg _ _ _ _) (by omega)
theorem lengthC {c v : Value} {n : Nat} {N : Nat → ByteArray} {X Y : Nat → Int} {m : Nat} {M : Nat → ByteArray} {l : Nat → Nat} {S : Nat → Nat → ByteArray} {w : World} (hv : CV w c n N X Y m M l S) {r : Nat} {T : Nat → ByteArray} (hs : SV w v r T) :
    Calls Tryz.prog 84 #[c, v] w fun e w' => e = .returned (.tuple #[.int .i64 (lenR (cerr n N X Y m M l S) n N X Y r T).1, .int .i64 (lenR (cerr n N X Y m M l S) n N X Y r T).2]) ∧ Below w.heap.size w w' := by
  have hC : CcC c (cerr n N X Y m M l S) w := fun w1 hb => checkC (cv_keep hb hv)
  obtain ⟨fx, aw, rfl, h1, h2⟩ := hv.ex
  obtain ⟨A, cs, rfl⟩ := sv_slice hs
  unfold lenR
  by_cases hE : cerr n N X Y m M l S ≠ 0
  · rw [if_pos hE]
    exact len_bad fx aw _ _ w (Lib.hid hC) (by simp [hE]) (by simp [hE])
  · have hE0 := Classical.not_not.1 hE
    rw [if_neg hE]
    rw [hE0] at hC
    by_cases h64 : 64 < r
    · rw [if_pos h64]
      exact len_big fx aw A r cs w (Lib.hid hC) h64
    · rw [if_neg h64]
      have hg : ∀ k, k < n → good (X k) (Y k) := fun k hk => (fe_ok ((cerr_ok hE0).2.2.1 k hk)).2.2
      have key : (∀ j, 0 ≤ stp n N X Y T j ∧ stp n N X Y T j ≤ 3037000500) ∨ n = 0 := by
        rcases Nat.eq_zero_or_pos n with h0 | h0
        · exact Or.inr h0
        · exact Or.inl (stp_bd h0 hg)
      have hIX : IxC fx aw n N w := fun w1 s hb => indexC (fv_keep hb h1) s
      rcases key with key | h0
      · refine (len_w fx aw A r cs n N X Y T w (Lib.hid hC) (by omega) (Lib.hid h1) (Lib.hid hs) (Lib.hid hIX) (Lib.hid hg) (Lib.hid key)).mono ?_
        rintro e w' ⟨rfl, h⟩
        refine ⟨?_, h⟩
        by_cases hf : ferr (lerr n N T) r ≠ 0
        · rw [if_pos hf, if_pos hf]
        · rw [if_neg hf, if_neg hf]
      · subst h0
        refine (len_w fx aw A r cs 0 N (fun _ => 0) (fun _ => 0) T w (Lib.hid hC) (by omega) (Lib.hid ?_) (Lib.hid hs) (Lib.hid hIX) (Lib.hid fun k hk => absurd hk (Nat.not_lt_zero k)) (Lib.hid fun j => ?_)).mono ?_
        · rcases h1 with h | ⟨h, -⟩
          · exact Or.inl h
          · exact absurd h (Nat.lt_irrefl 0)
        · exact dup_bd' _ (sqr_nonneg _ _ _ _) (by unfold sqr; simp)
        · rintro e w' ⟨rfl, h⟩
          refine ⟨?_, h⟩
          by_cases hf : ferr (lerr 0 N T) r ≠ 0
          · rw [if_pos hf, if_pos hf]
          · rw [if_neg hf, if_neg hf]
            have hr0 : r = 0 := by
              rcases Nat.eq_zero_or_pos r with h | h
              · exact h
              · have := ferr_inv (Classical.not_not.1 hf) 0 h
                unfold lerr at this
                rw [show fix N (T 0) 0 = -1 from rfl, if_pos (by decide)] at this
                exact absurd this (by decide)
            subst hr0
            rfl
end Chart
end Go.Proofs.YtmkglhoahdlogaaGreatDoor
namespace Go.Proofs.YtmkglhoahdlogaaGreatDoor
open Go.RowKit
namespace Chart
open Kit Plane Poly
theorem bl_irr : ∀ x : List UInt8, Op.bytesLess x x = false
  | [] => rfl
  | a :: x => by
    show (decide (a < a) || (a == a && Op.bytesLess x x)) = false
    rw [bl_irr x]; simp
theorem bl_trans : ∀ {x y z : List UInt8}, Op.bytesLess x y = true → Op.bytesLess y z = true → Op.bytesLess x z = true
  | _, [], z, h, _ => by unfold Op.bytesLess at h; cases h
  | _, b :: y, [], _, h => by unfold Op.bytesLess at h; cases h
  | [], b :: y, c :: z, _, _ => rfl
  | a :: x, b :: y, c :: z, h1, h2 => by
    have h1 : (decide (a < b) || (a == b && Op.bytesLess x y)) = true := h1
    have h2 : (decide (b < c) || (b == c && Op.bytesLess y z)) = true := h2
    show (decide (a < c) || (a == c && Op.bytesLess x z)) = true
    rw [Bool.or_eq_true, Bool.and_eq_true, decide_eq_true_eq, beq_iff_eq] at h1 h2 ⊢
    rcases h1 with h3 | ⟨h3, h4⟩
    · rcases h2 with h5 | ⟨h5, h6⟩
      · exact Or.inl (UInt8.lt_trans h3 h5)
      · exact Or.inl (h5 ▸ h3)
    · rcases h2 with h5 | ⟨h5, h6⟩
      · exact Or.inl (h3 ▸ h5)
      · exact Or.inr ⟨h3.trans h5, bl_trans h4 h6⟩
/-- Fix i is nearer than fix j, or as near and ahead of it by name. -/
def clo (d : Nat → Int) (N : Nat → ByteArray) (i j : Nat) : Bool := decide (d i < d j) || (decide (d i = d j) && Op.bytesLess (N i).toList (N j).toList)
theorem clo_irr {d : Nat → Int} {N : Nat → ByteArray} (i : Nat) : clo d N i i = false := by
  unfold clo
  rw [bl_irr, decide_eq_false (by omega), Bool.and_false]; rfl
theorem clo_trans {d : Nat → Int} {N : Nat → ByteArray} {i j k : Nat} (h1 : clo d N i j = true) (h2 : clo d N j k = true) : clo d N i k = true := by
  unfold clo at *
  rw [Bool.or_eq_true, Bool.and_eq_true, decide_eq_true_eq, decide_eq_true_eq] at *
  rcases h1 with h1 | ⟨h1, h3⟩ <;> rcases h2 with h2 | ⟨h2, h4⟩
  · exact Or.inl (by omega)
  · exact Or.inl (by omega)
  · exact Or.inl (by omega)
  · exact Or.inr ⟨by omega, bl_trans h3 h4⟩
/-- The best of the first k fixes. -/
def bst (d : Nat → Int) (N : Nat → ByteArray) : Nat → Nat
  | 0 => 0
  | k + 1 => if clo d N k (bst d N k) = true then k else bst d N k
theorem bst_lt {d : Nat → Int} {N : Nat → ByteArray} {n : Nat} (h0 : 0 < n) : ∀ k, k ≤ n → bst d N k < n
  | 0, _ => h0
  | k + 1, hk => by
    have := bst_lt (d := d) (N := N) h0 k (by omega)
    show (if clo d N k (bst d N k) = true then k else bst d N k) < n
    split <;> omega
theorem bst_best {d : Nat → Int} {N : Nat → ByteArray} : ∀ k j, j < k → clo d N j (bst d N k) = false
  | 0, j, hj => by omega
  | k + 1, j, hj => by
    show clo d N j (if clo d N k (bst d N k) = true then k else bst d N k) = false
    by_cases hc : clo d N k (bst d N k) = true
    · rw [if_pos hc]
      rcases Nat.lt_or_ge j k with hl | hl
      · cases h : clo d N j k with
        | false => rfl
        | true => have := clo_trans h hc; rw [bst_best k j hl] at this; cases this
      · rw [show j = k from by omega]; exact clo_irr k
    · rw [if_neg hc]
      rcases Nat.lt_or_ge j k with hl | hl
      · exact bst_best k j hl
      · rw [show j = k from by omega]; simpa using hc
theorem s3_set {w : World} {b : Nat} {s : ByteArray} {x y : Int} (h : S3 w b s x y) (s' : ByteArray) (x' y' : Int) : S3 (((w.setCell ⟨b, 0, none⟩ (.string s')).setCell ⟨b, 1, none⟩ (.int .i64 x')).setCell ⟨b, 2, none⟩ (.int .i64 y')) b s' x' y' := by
  have n01 : (⟨b, 0, none⟩ : Addr) ≠ ⟨b, 1, none⟩ := fun h => by injection h with _ h; omega
  have n02 : (⟨b, 0, none⟩ : Addr) ≠ ⟨b, 2, none⟩ := fun h => by injection h with _ h; omega
  have n12 : (⟨b, 1, none⟩ : Addr) ≠ ⟨b, 2, none⟩ := fun h => by injection h with _ h; omega
  exact ⟨cfar _ n02.symm (cfar _ n01.symm (cset _ h.c0)), cfar _ n12.symm (cset _ (cfar _ n01 h.c1)), cset _ (cfar _ n12 (cfar _ n02 h.c2))⟩
theorem fz3 (w : World) (a b c : Addr) (u v x : Value) (p : Addr) : (((w.setCell a u).setCell b v).setCell c x).frozen? p = w.frozen? p := by
  rw [World.frozen?_setCell, World.frozen?_setCell, World.frozen?_setCell]
theorem p2_after (w : World) (o : Obj) (t : TypeId) (x y : Int) : P2 ((w.alloc o).alloc (.cells #[.int .i64 x, .int .i64 y] t)) (w.heap.size + 1) x y := by
  have h := p2_new (w.alloc o) t x y
  rw [World.size_alloc] at h; exact h
/-- chart.Near's answer. -/
def nearR (E : Int) (n : Nat) (N : Nat → ByteArray) (X Y : Nat → Int) (qx qy : Int) : ByteArray × Int :=
  if E ≠ 0 then (⟨#[]⟩, E) else if goodB qx qy = false then (⟨#[]⟩, 4) else if n = 0 then (⟨#[]⟩, 8) else (N (bst (fun k => sqr qx qy (X k) (Y k)) N n), 0)
set_option maxHeartbeats 2000000 in
theorem find_ok (b off n c i : Nat) (aw : Value) (N : Nat → ByteArray) (X Y : Nat → Int) (s : ByteArray) (w : World) (hi : i < n) (_hc : n ≤ c) (_hm : c ≤ 9223372036854775807) (C : Hid (CcC (.agg #[.slice (some ⟨b, off, none⟩) n c, aw]) 0 w)) (HF : Hid (∀ k, k < n → E3 w b off k (N k) (X k) (Y k))) (IX : Hid (∀ w1, Below w.heap.size w w1 → Calls Tryz.prog 21 #[.agg #[.slice (some ⟨b, off, none⟩) n c, aw], .string s] w1 fun e w' => e = .returned (.int .i64 i) ∧ Below w1.heap.size w1 w')) :
    Calls Tryz.prog 19 #[.agg #[.slice (some ⟨b, off, none⟩) n c, aw], .string s] w fun e w' => e = .returned (.tuple #[.agg #[.string (N i), .int .i64 (X i), .int .i64 (Y i)], .int .i64 0]) ∧ Below w.heap.size w w' := by
  have W0 := Lib.hid (b_alloc (b_alloc (Below.refl w.heap.size w) (.cells #[.slice (some ⟨b, off, none⟩) n c, aw] 28)) (.cells #[.string ⟨#[]⟩, .int .i64 0, .int .i64 0] 38))
  have B0 := Lib.hid (p2v_keep (b_alloc (Below.refl _ _) (.cells #[.string ⟨#[]⟩, .int .i64 0, .int .i64 0] 38)) (p2v_new w 28 (.slice (some ⟨b, off, none⟩) n c) aw))
  have s0 := s3_new (w.alloc (.cells #[.slice (some ⟨b, off, none⟩) n c, aw] 28)) 38 ⟨#[]⟩ 0 0
  rw [World.size_alloc] at s0
  have S0 := Lib.hid s0; clear s0
  have Z0 : Hid (∀ k, ((w.alloc (.cells #[.slice (some ⟨b, off, none⟩) n c, aw] 28)).alloc (.cells #[.string ⟨#[]⟩, .int .i64 0, .int .i64 0] 38)).frozen? ⟨w.heap.size + 1, k, none⟩ = false) := Lib.hid fun k => by
    have : w.heap.size + 1 = (w.alloc (.cells #[.slice (some ⟨b, off, none⟩) n c, aw] 28)).heap.size := by simp
    rw [this]; simp
  have L0 : Hid (w.heap.size + 1 < ((w.alloc (.cells #[.slice (some ⟨b, off, none⟩) n c, aw] 28)).alloc (.cells #[.string ⟨#[]⟩, .int .i64 0, .int .i64 0] 38)).heap.size) := Lib.hid (by simp)
  have hl : (i : Int) < (n : Int) := by omega
  go_enter Tryz.func19, Tryz.ntmps19
  go_wp2_with fail
  (with_reducible refine (C.out _ W0.out).mono ?_); rintro e w1 ⟨rfl, hb⟩
  have W1 := Lib.hid (b_next W0.out hb); have B1 := Lib.hid (p2v_keep hb B0.out); have S1 := Lib.hid (s3_keep hb S0.out)
  have Z1 : Hid (∀ k, w1.frozen? ⟨w.heap.size + 1, k, none⟩ = false) := Lib.hid fun k => (hb.frozen (p := ⟨w.heap.size + 1, k, none⟩) L0.out).trans (Z0.out k)
  have L1 : Hid (w.heap.size + 1 < w1.heap.size) := Lib.hid (Nat.lt_of_lt_of_le L0.out hb.size)
  clear hb
  obtain ⟨x0, x1⟩ := B1.out
  go_wp2_with fail
  (with_reducible refine (IX.out _ W1.out).mono ?_); rintro e w2 ⟨rfl, hb⟩
  have W2 := Lib.hid (b_next W1.out hb); clear x0 x1
  obtain ⟨x0, x1⟩ := p2v_keep hb B1.out
  obtain ⟨y0, y1, y2⟩ := s3_keep hb S1.out
  have z := fun k => (hb.frozen (p := ⟨w.heap.size + 1, k, none⟩) L1.out).trans (Z1.out k)
  have z0 := z 0; have z1 := z 1; have z2 := z 2
  obtain ⟨f0, f1, f2⟩ := e3_keep W2.out (HF.out i hi)
  clear hb z
  go_wp2_with fail
  have S3' := s3_set ⟨y0, y1, y2⟩ (N i) (X i) (Y i)
  refine bodyPost_ret (v := .tuple #[.agg #[.string (N i), .int .i64 (X i), .int .i64 (Y i)], .int .i64 0]) (by simp [results, Tryz.results19, go_sem, S3'.c0, S3'.c1, S3'.c2]) rfl ⟨rfl, b_set (b_set (b_set W2.out (Nat.le_succ _) _) (Nat.le_succ _) _) (Nat.le_succ _) _⟩
end Chart
end Go.Proofs.YtmkglhoahdlogaaGreatDoor
namespace Go.Proofs.YtmkglhoahdlogaaGreatDoor
open Go.RowKit
namespace Route
open Kit Plane Chart
/-- What is wrong with fix k alone. -/
def ger (X Y : Nat → Int) (k : Nat) : Int := if goodB (X k) (Y k) = false then 4 else 0
/-- route.check's error. -/
def rck (n : Nat) (X Y : Nat → Int) : Int := if 64 < n then 2 else ferr (ger X Y) n
/-- The step to fix j. -/
def rstp (X Y : Nat → Int) (j : Nat) : Int := dup (sqr (X (j - 1)) (Y (j - 1)) (X j) (Y j))
theorem rck_ok {n : Nat} {X Y : Nat → Int} (h : rck n X Y = 0) : n ≤ 64 ∧ ∀ k, k < n → good (X k) (Y k) := by
  unfold rck at h
  split at h
  · cases h
  · refine ⟨by omega, fun k hk => ?_⟩
    have := ferr_inv h k hk
    unfold ger at this
    cases hg : goodB (X k) (Y k) with
    | false => rw [hg] at this; cases this
    | true => exact goodB_iff.1 hg
theorem rck_of {n : Nat} {X Y : Nat → Int} (h : n ≤ 64) (hg : ∀ k, k < n → good (X k) (Y k)) : rck n X Y = 0 := by
  unfold rck
  rw [if_neg (by omega)]
  exact ferr_zero fun k hk => by unfold ger; rw [goodB_iff.2 (hg k hk)]; rfl
set_option maxRecDepth 100000 in
set_option maxHeartbeats 4000000 in
theorem rcheck_w (A : Option Addr) (n c : Nat) (N : Nat → ByteArray) (X Y : Nat → Int) (w : World) (HV : Hid (FV w (.slice A n c) n N X Y)) :
    Calls Tryz.prog 25 #[.slice A n c] w fun e w' => e = .returned (.int .i64 (rck n X Y)) ∧ Below w.heap.size w w' := by
  by_cases h64 : 64 < n
  · have e : rck n X Y = 2 := by unfold rck; rw [if_pos h64]
    rw [e]
    have hI : (64 : Int) < (n : Int) := by omega
    clear e
    go_enter Tryz.func25, Tryz.ntmps25
    go_wp2_with fail
    all_goals first | (exfalso; omega) | (go_ret; exact ⟨rfl, Below.refl _ _⟩)
  · have hI : ¬ (64 : Int) < (n : Int) := by omega
    obtain ⟨R, hR⟩ : ∃ R, R = rck n X Y := ⟨_, rfl⟩
    rw [← hR]
    unfold rck at hR
    rw [if_neg h64] at hR
    have HR := Lib.hid hR; clear hR
    go_enter Tryz.func25, Tryz.ntmps25
    go_wp2_with fail
    all_goals try (exfalso; omega)
    go_loopw [11] (fun s wr => ∃ k : Nat, k ≤ n ∧ s = .int .i64 k ∧ (∀ j, j < k → ger X Y j = 0) ∧ Below w.heap.size w wr) (fun s _ => n - (intOf s).toNat)
    case atStart => exact ⟨0, Nat.zero_le _, rfl, fun j hj => absurd hj (Nat.not_lt_zero j), Below.refl _ _⟩
    case round =>
      obtain ⟨k, hk, rfl, hno, hbl⟩ := hrel
      have HN := Lib.hid hno; have WR := Lib.hid hbl; clear hno
      by_cases hlt : k < n
      · have hl : (k : Int) < (n : Int) := by omega
        obtain ⟨b, off, c', e, hc1, hc2, h3⟩ := fv_at (fv_keep hbl HV.out) (by omega)
        injection e with e1 _ e3
        subst e1 e3
        have hc3 : c ≤ 9223372036854775807 := Nat.le_trans hc2 (by decide)
        obtain ⟨f0, f1, f2⟩ := h3 k hlt
        have K := Lib.hid (chkF (X k) (Y k))
        have STOP : Hid (ger X Y k ≠ 0 → R = ger X Y k) := Lib.hid fun h => by rw [HR.out]; exact ferr_at HN.out h hlt
        have GO : Hid (ger X Y k = 0 → ∀ j, j < k + 1 → ger X Y j = 0) := Lib.hid fun h j hj => by
          rcases Nat.lt_or_ge j k with hl | hl
          · exact HN.out j hl
          · rw [show j = k from by omega]; exact h
        have HG : Hid (ger X Y k = if goodB (X k) (Y k) = false then 4 else 0) := Lib.hid rfl
        have WA := Lib.hid (b_alloc WR.out (.cells #[.string (N k), .int .i64 (X k), .int .i64 (Y k)] 38))
        clear hbl h3
        generalize X k = x at *
        generalize Y k = y at *
        cases hg : goodB x y with
        | false =>
          rw [hg] at HG K
          have e := STOP.out (by rw [HG.out]; decide)
          rw [HG.out, if_pos rfl] at e
          rw [if_pos rfl] at K
          have HE := Lib.hid e; clear e STOP GO hg
          go_wp2_with fail
          (with_reducible refine (K.out _).mono ?_); rintro e w1 ⟨rfl, hb⟩
          have W1 := Lib.hid (b_next WA.out hb); clear hb
          go_wp2_with fail
          go_ret
          exact ⟨by rw [HE.out]; rfl, W1.out⟩
        | true =>
          rw [hg] at HG K
          have e := GO.out (by rw [HG.out]; decide)
          rw [if_neg (by decide)] at K
          have HN' := Lib.hid e; clear e STOP GO hg
          go_wp2_with fail
          (with_reducible refine (K.out _).mono ?_); rintro e w1 ⟨rfl, hb⟩
          have W1 := Lib.hid (b_next WA.out hb); clear hb
          go_wp2_with fail
          go_roundw
          case rel => exact ⟨k + 1, by omega, by go_num, HN'.out, W1.out⟩
          case measure => simp [intOf]; omega
      · have hkn : k = n := by omega
        have e : R = 0 := by rw [HR.out]; exact ferr_zero fun j hj => HN.out j (by omega)
        have HE := Lib.hid e; clear e HN hbl
        go_wp2_with fail
        go_ret
        exact ⟨by rw [HE.out]; rfl, WR.out⟩
theorem rcheckC {v : Value} {n : Nat} {N : Nat → ByteArray} {X Y : Nat → Int} {w : World} (hv : FV w v n N X Y) : ∀ w1, Below w.heap.size w w1 →
    Calls Tryz.prog 25 #[v] w1 fun e w' => e = .returned (.int .i64 (rck n X Y)) ∧ Below w1.heap.size w1 w' := fun w1 hb => by
  obtain ⟨A, c, rfl⟩ := fv_slice hv
  exact rcheck_w A n c N X Y w1 (Lib.hid (fv_keep hb hv))
set_option maxRecDepth 100000 in
set_option maxHeartbeats 1000000 in
theorem rlen_bad (A : Option Addr) (n c : Nat) (E : Int) (w : World) (_hE1 : (E == 0) = false) (hE2 : (E != 0) = true) (C : Hid (∀ w1, Below w.heap.size w w1 → Calls Tryz.prog 25 #[.slice A n c] w1 fun e w' => e = .returned (.int .i64 E) ∧ Below w1.heap.size w1 w')) :
    Calls Tryz.prog 7 #[.slice A n c] w fun e w' => e = .returned (.tuple #[.int .i64 0, .int .i64 E]) ∧ Below w.heap.size w w' := by
  go_enter Tryz.func7, Tryz.ntmps7
  go_wp2_with fail
  (with_reducible refine (C.out _ (Below.refl _ _)).mono ?_); rintro e w1 ⟨rfl, hb⟩
  have W1 := Lib.hid hb; clear hb
  go_wp2_with fail
  go_ret2
  exact ⟨rfl, W1.out⟩
theorem rstp_bd {n : Nat} {X Y : Nat → Int} (hg : ∀ k, k < n → good (X k) (Y k)) {j : Nat} (hj : j < n) : 0 ≤ rstp X Y j ∧ rstp X Y j ≤ 3037000500 := by
  have g1 := hg (j - 1) (by omega)
  have g2 := hg j hj
  have h0 := sqr_nonneg (X (j - 1)) (Y (j - 1)) (X j) (Y j)
  have h1 := (dup_le h0 (sqr_near g1 g2)).1
  have h2 := (dup_spec h0).1
  unfold rstp
  omega
/-- The sum of the first steps. -/
theorem lsum_congr {D E : Nat → Int} : ∀ {k : Nat}, (∀ j, j < k → D j = E j) → lsum D k = lsum E k
  | 0, _ => rfl
  | k + 1, h => by
    show (if k = 0 then 0 else lsum D k + D k) = (if k = 0 then 0 else lsum E k + E k)
    rw [lsum_congr fun j hj => h j (by omega), h k (by omega)]
theorem lsum_bd' {n : Nat} {D : Nat → Int} (h : ∀ k, k < n → 0 ≤ D k ∧ D k ≤ 3037000500) : ∀ k, k ≤ n → 0 ≤ lsum D k ∧ lsum D k ≤ 3037000500 * k
  | 0, _ => by show (0 : Int) ≤ 0 ∧ (0 : Int) ≤ 3037000500 * 0; omega
  | k + 1, hk => by
    have h1 := lsum_bd' h k (by omega)
    have h2 := h k (by omega)
    show 0 ≤ (if k = 0 then 0 else lsum D k + D k) ∧ (if k = 0 then 0 else lsum D k + D k) ≤ _
    split <;> omega
set_option maxRecDepth 100000 in
set_option maxHeartbeats 4000000 in
theorem rlen_w (A : Option Addr) (n c : Nat) (N : Nat → ByteArray) (X Y : Nat → Int) (w : World) (hn : n ≤ 64) (HG : Hid (∀ k, k < n → good (X k) (Y k))) (HV : Hid (FV w (.slice A n c) n N X Y)) (C : Hid (∀ w1, Below w.heap.size w w1 → Calls Tryz.prog 25 #[.slice A n c] w1 fun e w' => e = .returned (.int .i64 0) ∧ Below w1.heap.size w1 w')) :
    Calls Tryz.prog 7 #[.slice A n c] w fun e w' => e = .returned (.tuple #[.int .i64 (lsum (rstp X Y) n), .int .i64 0]) ∧ Below w.heap.size w w' := by
  have HB := Lib.hid (lsum_bd' (n := n) (D := rstp X Y) (fun k hk => rstp_bd HG.out hk))
  go_enter Tryz.func7, Tryz.ntmps7
  go_wp2_with fail
  (with_reducible refine (C.out _ (Below.refl _ _)).mono ?_); rintro e w1 ⟨rfl, hb⟩
  have W1 := Lib.hid hb; clear hb
  go_wp2_with fail
  go_loopw [5, 6] (fun t s wr => ∃ k : Nat, 1 ≤ k ∧ (k ≤ n ∨ k = 1) ∧ s = .int .i64 k ∧ t = .int .i64 (lsum (rstp X Y) k) ∧ Below w1.heap.size w1 wr) (fun _ s _ => n - (intOf s).toNat)
  case atStart => exact ⟨1, Nat.le_refl _, Or.inr rfl, rfl, rfl, Below.refl _ _⟩
  case round =>
    obtain ⟨k, hk1, hk, rfl, rfl, hbl⟩ := hrel
    have WR := Lib.hid hbl
    by_cases hlt : k < n
    · have hl : (k : Int) < (n : Int) := by omega
      obtain ⟨b, off, c', e, hc1, hc2, h3⟩ := fv_at (fv_keep (b_next W1.out hbl) HV.out) (by omega)
      injection e with e1 _ e3
      subst e1 e3
      have hc3 : c ≤ 9223372036854775807 := Nat.le_trans hc2 (by decide)
      obtain ⟨P, hP⟩ : ∃ P, P = k - 1 := ⟨_, rfl⟩
      obtain ⟨-, f1, f2⟩ := h3 k hlt
      obtain ⟨-, g1, g2⟩ := h3 P (by omega)
      have C1 := Lib.hid (And.intro f1 f2); have C0 := Lib.hid (And.intro g1 g2)
      have gk := HG.out k hlt; have gp := HG.out P (by omega)
      have DS := Lib.hid (fun w' => distance (X P) (Y P) (X k) (Y k) w' rfl (by unfold good at *; omega))
      have est : rstp X Y k = dup (sqr (X P) (Y P) (X k) (Y k)) := by unfold rstp; rw [hP]
      have els : lsum (rstp X Y) (k + 1) = lsum (rstp X Y) k + rstp X Y k := by show (if k = 0 then 0 else lsum (rstp X Y) k + rstp X Y k) = _; rw [if_neg (by omega)]
      have bd := HB.out k (by omega)
      have bd2 := rstp_bd HG.out hlt
      rw [← est] at DS
      have HLS := Lib.hid els
      clear hbl h3 f1 f2 g1 g2 est els gk gp
      have u1 : IntKind.i64.wrap ((k : Int) - 1) = (P : Int) := by rw [IntWalk.i64_in _ (by omega)]; omega
      have bP : (P : Int) < (n : Int) := by omega
      clear hP
      generalize lsum (rstp X Y) k = L at *
      generalize rstp X Y k = st at *
      generalize root (sqr (X P) (Y P) (X k) (Y k)) = ro at *
      generalize X k = xk at *
      generalize Y k = yk at *
      generalize X P = xp at *
      generalize Y P = yp at *
      go_wp2_with fail
      refine d_region (by kernel_rfl) (by kernel_rfl) ?_
      repeat
        first
          | (refine d_plain (by with_reducible rfl) ?_; apply Exists.intro; refine ⟨fun wq hc hq => ?_, ?_⟩)
          | (refine d_on (by with_reducible rfl) (by rfl) (by with_reducible rfl) ?_; apply Exists.intro; refine ⟨fun wq hc hq => ?_, ?_⟩)
          | (refine d_off (by with_reducible rfl) (by rfl) (by rfl) ?_)
          | (refine d_void (by with_reducible rfl) (by rfl) ?_)
        try any_goals
          (have q0 := keep (cls hq) C0.out.1; have q1 := keep (cls hq) C0.out.2; have q2 := keep (cls hq) C1.out.1; have q3 := keep (cls hq) C1.out.2; clear hc
           go_simp
           first
             | rfl
             | (go_at_call 26; with_reducible exact call_below hq (DS.out _)))
        simp only [Act.put, List.setIfInBounds_toArray, List.set_cons_zero, List.set_cons_succ]
      refine d_nil ?_
      intro w4 hb4
      clear u1
      have W4 := Lib.hid (b_next WR.out hb4); clear hb4
      go_wp2_with fail
      go_roundw
      case rel => exact ⟨k + 1, by omega, by omega, by go_num, by rw [HLS.out], W4.out⟩
      case measure => simp [intOf]; omega
    · have hl : ¬ (k : Int) < (n : Int) := by omega
      have e : lsum (rstp X Y) k = lsum (rstp X Y) n := by
        rcases hk with h | h
        · rw [show k = n by omega]
        · subst h
          rcases (show n = 0 ∨ n = 1 by omega) with rfl | rfl <;> rfl
      have HE := Lib.hid e; clear e hbl
      go_wp2_with fail
      go_ret2
      exact ⟨by rw [← HE.out]; rfl, b_next W1.out WR.out⟩
/-- route.Length's answer. -/
def rlen (n : Nat) (X Y : Nat → Int) : Int × Int := if rck n X Y ≠ 0 then (0, rck n X Y) else (lsum (rstp X Y) n, 0)
theorem rlenC {v : Value} {n : Nat} {N : Nat → ByteArray} {X Y : Nat → Int} {w : World} (hv : FV w v n N X Y) : ∀ w1, Below w.heap.size w w1 →
    Calls Tryz.prog 7 #[v] w1 fun e w' => e = .returned (.tuple #[.int .i64 (rlen n X Y).1, .int .i64 (rlen n X Y).2]) ∧ Below w1.heap.size w1 w' := fun w1 hb => by
  have C := rcheckC (fv_keep hb hv)
  have hv1 := fv_keep hb hv
  obtain ⟨A, c, rfl⟩ := fv_slice hv
  unfold rlen
  by_cases hz : rck n X Y ≠ 0
  · rw [if_pos hz]
    exact rlen_bad A n c _ w1 (by simpa using hz) (by simpa using hz) (Lib.hid C)
  · rw [if_neg hz]
    have h0 := Classical.not_not.1 hz
    rw [h0] at C
    obtain ⟨g1, g2⟩ := rck_ok h0
    exact rlen_w A n c N X Y w1 g1 (Lib.hid g2) (Lib.hid hv1) (Lib.hid C)
end Route
end Go.Proofs.YtmkglhoahdlogaaGreatDoor
namespace Go.Proofs.YtmkglhoahdlogaaGreatDoor
open Go.RowKit
namespace Plan
open Kit Chart Name
theorem bad1 (s : ByteArray) (w : World) : Calls Tryz.prog 37 #[.string s] w fun e w' => e = .returned (.bool (!nameB s)) ∧ Below w.heap.size w w' := by
  have C := Lib.hid (nameC s w)
  generalize nameB s = b at *
  go_enter Tryz.func37, Tryz.ntmps37
  go_wp2_with fail
  (with_reducible refine C.out.mono ?_); rintro e w1 ⟨rfl, hb⟩
  have W1 := Lib.hid hb; clear hb
  go_wp2_with fail
  go_ret
  exact ⟨by first | rfl | (cases b <;> rfl), W1.out⟩
/-- The first of n names that is none. -/
def bix (T : Nat → ByteArray) (n : Nat) : Int := fnd (fun k => !nameB (T k)) n
theorem bidx_none (A : Option Addr) (cap : Nat) (f : Value) (w : World) :
    Calls Tryz.prog 67 #[.slice A 0 cap, f] w fun e w' => e = .returned (.int .i64 (-1)) ∧ Below w.heap.size w w' := by
  go_enter Tryz.func67, Tryz.ntmps67
  go_wp2_with fail
  go_loopw [8] (fun t wr => t = .int .i64 0 ∧ w = wr) (fun _ _ => 0)
  case atStart => exact ⟨rfl, rfl⟩
  case round =>
    obtain ⟨rfl, rfl⟩ := hrel
    go_wp2_with fail
    go_ret
    exact ⟨rfl, Below.refl _ _⟩
theorem bidx_w (n cap b off : Nat) (T : Nat → ByteArray) (w : World) (hm : cap ≤ 9223372036854775807) (hc : n ≤ cap) (HV : Hid (∀ k, k < n → w.cell? ⟨b, off + k, none⟩ = some (.string (T k)))) :
    Calls Tryz.prog 67 #[.slice (some ⟨b, off, none⟩) n cap, .func (.func 37) #[] #[]] w fun e w' => e = .returned (.int .i64 (bix T n)) ∧ Below w.heap.size w w' := by
  go_enter Tryz.func67, Tryz.ntmps67
  obtain ⟨r, hr⟩ : ∃ r, r = bix T n := ⟨_, rfl⟩
  rw [← hr]
  have HR := Lib.hid hr; clear hr
  go_wp2_with fail
  go_loopw [5, 8] (fun _ t wr => ∃ k : Nat, k ≤ n ∧ t = .int .i64 k ∧ (∀ j, j < k → (!nameB (T j)) = false) ∧ Below w.heap.size w wr) (fun _ t _ => n - (intOf t).toNat)
  case atStart => exact ⟨0, Nat.zero_le _, rfl, fun j hj => absurd hj (Nat.not_lt_zero j), Below.refl _ _⟩
  case round =>
    obtain ⟨k, hk, rfl, hno, hbl⟩ := hrel
    have HN := Lib.hid hno; have HB := Lib.hid hbl; clear hno
    by_cases hlt : k < n
    · have c0 := keep hbl (HV.out k hlt)
      have hl : (k : Int) < (n : Int) := by omega
      have hcall := bad1 (T k) wr
      have HS := Lib.hid (show ∀ hh : (!nameB (T k)) = false, ∀ j, j < k + 1 → (!nameB (T j)) = false from fun hh j hj => by
        rcases Nat.lt_or_ge j k with hl | hl
        · exact HN.out j hl
        · rw [show j = k from by omega]; exact hh)
      have HT := Lib.hid (show ∀ hh : (!nameB (T k)) = true, r = k from fun hh => by rw [HR.out]; exact fnd_at (p := fun k => !nameB (T k)) HN.out hh n hlt)
      clear hbl
      generalize (!nameB (T k)) = d at *
      cases d with
      | true =>
        have e := HT.out rfl
        subst e
        go_wp2_with fail
        (with_reducible refine hcall.mono ?_); rintro e w' ⟨rfl, hb'⟩
        go_wp2_with fail
        go_ret
        exact ⟨rfl, b_next HB.out hb'⟩
      | false =>
        go_wp2_with fail
        (with_reducible refine hcall.mono ?_); rintro e w' ⟨rfl, hb'⟩
        go_wp2_with fail
        exact ⟨⟨k + 1, by omega, by go_num, (by first | exact HS.out rfl | exact HS.out trivial), b_next HB.out hb'⟩, by simp [intOf]; omega⟩
    · have he : k = n := by omega
      have hl : ¬ (k : Int) < (n : Int) := by omega
      have e : r = -1 := by rw [HR.out]; exact fnd_no (p := fun k => !nameB (T k)) (fun j hj => HN.out j (by omega))
      subst e
      clear hbl
      go_wp2_with fail
      go_ret
      exact ⟨rfl, HB.out⟩
theorem bcont_w (v f : Value) (r : Int) (w : World) (H : Hid (∀ w1, Below w.heap.size w w1 → Calls Tryz.prog 67 #[v, f] w1 fun e w' => e = .returned (.int .i64 r) ∧ Below w1.heap.size w1 w')) :
    Calls Tryz.prog 36 #[v, f] w fun e w' => e = .returned (.bool (decide (0 ≤ r))) ∧ Below w.heap.size w w' := by
  go_enter Tryz.func36, Tryz.ntmps36
  go_wp2_with fail
  (with_reducible refine (H.out _ (Below.refl _ _)).mono ?_); rintro e w' ⟨rfl, hb⟩
  have HB := Lib.hid hb; clear hb
  go_wp2_with fail
  all_goals (go_ret; exact ⟨by first | rfl | exact retb (by simp; omega), HB.out⟩)
theorem bcontC {v : Value} {n : Nat} {T : Nat → ByteArray} {w : World} (hv : SV w v n T) : ∀ w1, Below w.heap.size w w1 →
    Calls Tryz.prog 36 #[v, .func (.func 37) #[] #[]] w1 fun e w' => e = .returned (.bool (decide (0 ≤ bix T n))) ∧ Below w1.heap.size w1 w' := fun w1 hb => by
  refine bcont_w v _ _ w1 (Lib.hid fun w2 hb2 => ?_)
  have hv2 := sv_keep hb2 (sv_keep hb hv)
  rcases hv2 with ⟨rfl, h⟩ | ⟨h0, b, off, cap, rfl, h1, h2, h3⟩
  · obtain ⟨A, cap, rfl⟩ := nil0_slice h
    exact bidx_none A cap _ w2
  · exact bidx_w n cap b off T w2 (Nat.le_trans h2 (by decide)) h1 (Lib.hid h3)
/-- plantext.Check's error. -/
def planE (c k f t : ByteArray) (off sp h : Int) (n : Nat) (T : Nat → ByteArray) : Int :=
  if nameB c = false ∨ nameB k = false ∨ nameB f = false ∨ nameB t = false then 5 else if off < 0 ∨ 200000 < off then 12 else if sp < 1 ∨ 400 < sp ∨ h < 1 ∨ 60000 < h then 4 else if 24 < n then 2 else if 0 ≤ bix T n then 5 else 0
/-- A plan's value. -/
abbrev plan (c k f t : ByteArray) (off sp h : Int) (r : Value) : Value := .agg #[.string c, .string k, .string f, .string t, .int .i64 off, .int .i64 sp, .int .i64 h, r]
structure N8 (w : World) (b : Nat) (c k f t : ByteArray) (off sp h : Int) (r : Value) : Prop where
  c0 : w.cell? ⟨b, 0, none⟩ = some (.string c)
  c1 : w.cell? ⟨b, 1, none⟩ = some (.string k)
  c2 : w.cell? ⟨b, 2, none⟩ = some (.string f)
  c3 : w.cell? ⟨b, 3, none⟩ = some (.string t)
  c4 : w.cell? ⟨b, 4, none⟩ = some (.int .i64 off)
  c5 : w.cell? ⟨b, 5, none⟩ = some (.int .i64 sp)
  c6 : w.cell? ⟨b, 6, none⟩ = some (.int .i64 h)
  c7 : w.cell? ⟨b, 7, none⟩ = some r
theorem n8_keep {W w1 : World} (hb : Below W.heap.size W w1) {b : Nat} {c k f t : ByteArray} {off sp h : Int} {r : Value} (n : N8 W b c k f t off sp h r) : N8 w1 b c k f t off sp h r := ⟨keep hb n.c0, keep hb n.c1, keep hb n.c2, keep hb n.c3, keep hb n.c4, keep hb n.c5, keep hb n.c6, keep hb n.c7⟩
theorem n8_new (w : World) (ty : TypeId) (c k f t : ByteArray) (off sp h : Int) (r : Value) : N8 (w.alloc (.cells #[.string c, .string k, .string f, .string t, .int .i64 off, .int .i64 sp, .int .i64 h, r] ty)) w.heap.size c k f t off sp h r := ⟨by simp, by simp, by simp, by simp, by simp, by simp, by simp, by simp⟩
abbrev NmC (s : ByteArray) (b : Bool) : Prop := ∀ w, Calls Tryz.prog 35 #[.string s] w fun e w' => e = .returned (.bool b) ∧ Below w.heap.size w w'
set_option maxRecDepth 100000 in
set_option maxHeartbeats 4000000 in
theorem chk_n0 (c k f t : ByteArray) (off sp h : Int) (A : Option Addr) (n cap : Nat) (w : World) (H0 : Hid (NmC c false)) :
    Calls Tryz.prog 13 #[plan c k f t off sp h (.slice A n cap)] w fun e w' => e = .returned (.int .i64 5) ∧ Below w.heap.size w w' := by
  have N0 := Lib.hid (n8_new w 24 c k f t off sp h (.slice A n cap))
  have W0 := Lib.hid (b_alloc (Below.refl w.heap.size w) (.cells #[.string c, .string k, .string f, .string t, .int .i64 off, .int .i64 sp, .int .i64 h, .slice A n cap] 24))
  go_enter Tryz.func13, Tryz.ntmps13
  obtain ⟨c0, c1, c2, c3, c4, c5, c6, c7⟩ := N0.out
  go_wp2_with fail
  (with_reducible refine (H0.out _).mono ?_); rintro e w1 ⟨rfl, hb⟩
  have W1 := Lib.hid (b_next W0.out hb); have N1 := Lib.hid (n8_keep hb N0.out); clear hb c0 c1 c2 c3 c4 c5 c6 c7
  go_wp2_with fail
  go_ret
  exact ⟨rfl, W1.out⟩
set_option maxRecDepth 100000 in
set_option maxHeartbeats 4000000 in
theorem chk_n1 (c k f t : ByteArray) (off sp h : Int) (A : Option Addr) (n cap : Nat) (w : World) (H0 : Hid (NmC c true)) (H1 : Hid (NmC k false)) :
    Calls Tryz.prog 13 #[plan c k f t off sp h (.slice A n cap)] w fun e w' => e = .returned (.int .i64 5) ∧ Below w.heap.size w w' := by
  have N0 := Lib.hid (n8_new w 24 c k f t off sp h (.slice A n cap))
  have W0 := Lib.hid (b_alloc (Below.refl w.heap.size w) (.cells #[.string c, .string k, .string f, .string t, .int .i64 off, .int .i64 sp, .int .i64 h, .slice A n cap] 24))
  go_enter Tryz.func13, Tryz.ntmps13
  obtain ⟨c0, c1, c2, c3, c4, c5, c6, c7⟩ := N0.out
  go_wp2_with fail
  (with_reducible refine (H0.out _).mono ?_); rintro e w1 ⟨rfl, hb⟩
  have W1 := Lib.hid (b_next W0.out hb); have N1 := Lib.hid (n8_keep hb N0.out); clear hb c0 c1 c2 c3 c4 c5 c6 c7
  obtain ⟨c0, c1, c2, c3, c4, c5, c6, c7⟩ := N1.out
  go_wp2_with fail
  (with_reducible refine (H1.out _).mono ?_); rintro e w2 ⟨rfl, hb⟩
  have W2 := Lib.hid (b_next W1.out hb); have N2 := Lib.hid (n8_keep hb N1.out); clear hb c0 c1 c2 c3 c4 c5 c6 c7
  go_wp2_with fail
  go_ret
  exact ⟨rfl, W2.out⟩
set_option maxRecDepth 100000 in
set_option maxHeartbeats 4000000 in
theorem chk_n2 (c k f t : ByteArray) (off sp h : Int) (A : Option Addr) (n cap : Nat) (w : World) (H0 : Hid (NmC c true)) (H1 : Hid (NmC k true)) (H2 : Hid (NmC f false)) :
    Calls Tryz.prog 13 #[plan c k f t off sp h (.slice A n cap)] w fun e w' => e = .returned (.int .i64 5) ∧ Below w.heap.size w w' := by
  have N0 := Lib.hid (n8_new w 24 c k f t off sp h (.slice A n cap))
  have W0 := Lib.hid (b_alloc (Below.refl w.heap.size w) (.cells #[.string c, .string k, .string f, .string t, .int .i64 off, .int .i64 sp, .int .i64 h, .slice A n cap] 24))
  go_enter Tryz.func13, Tryz.ntmps13
  obtain ⟨c0, c1, c2, c3, c4, c5, c6, c7⟩ := N0.out
  go_wp2_with fail
  (with_reducible refine (H0.out _).mono ?_); rintro e w1 ⟨rfl, hb⟩
  have W1 := Lib.hid (b_next W0.out hb); have N1 := Lib.hid (n8_keep hb N0.out); clear hb c0 c1 c2 c3 c4 c5 c6 c7
  obtain ⟨c0, c1, c2, c3, c4, c5, c6, c7⟩ := N1.out
  go_wp2_with fail
  (with_reducible refine (H1.out _).mono ?_); rintro e w2 ⟨rfl, hb⟩
  have W2 := Lib.hid (b_next W1.out hb); have N2 := Lib.hid (n8_keep hb N1.out); clear hb c0 c1 c2 c3 c4 c5 c6 c7
  obtain ⟨c0, c1, c2, c3, c4, c5, c6, c7⟩ := N2.out
  go_wp2_with fail
  (with_reducible refine (H2.out _).mono ?_); rintro e w3 ⟨rfl, hb⟩
  have W3 := Lib.hid (b_next W2.out hb); have N3 := Lib.hid (n8_keep hb N2.out); clear hb c0 c1 c2 c3 c4 c5 c6 c7
  go_wp2_with fail
  go_ret
  exact ⟨rfl, W3.out⟩
set_option maxRecDepth 100000 in
set_option maxHeartbeats 4000000 in
theorem chk_n3 (c k f t : ByteArray) (off sp h : Int) (A : Option Addr) (n cap : Nat) (w : World) (H0 : Hid (NmC c true)) (H1 : Hid (NmC k true)) (H2 : Hid (NmC f true)) (H3 : Hid (NmC t false)) :
    Calls Tryz.prog 13 #[plan c k f t off sp h (.slice A n cap)] w fun e w' => e = .returned (.int .i64 5) ∧ Below w.heap.size w w' := by
  have N0 := Lib.hid (n8_new w 24 c k f t off sp h (.slice A n cap))
  have W0 := Lib.hid (b_alloc (Below.refl w.heap.size w) (.cells #[.string c, .string k, .string f, .string t, .int .i64 off, .int .i64 sp, .int .i64 h, .slice A n cap] 24))
  go_enter Tryz.func13, Tryz.ntmps13
  obtain ⟨c0, c1, c2, c3, c4, c5, c6, c7⟩ := N0.out
  go_wp2_with fail
  (with_reducible refine (H0.out _).mono ?_); rintro e w1 ⟨rfl, hb⟩
  have W1 := Lib.hid (b_next W0.out hb); have N1 := Lib.hid (n8_keep hb N0.out); clear hb c0 c1 c2 c3 c4 c5 c6 c7
  obtain ⟨c0, c1, c2, c3, c4, c5, c6, c7⟩ := N1.out
  go_wp2_with fail
  (with_reducible refine (H1.out _).mono ?_); rintro e w2 ⟨rfl, hb⟩
  have W2 := Lib.hid (b_next W1.out hb); have N2 := Lib.hid (n8_keep hb N1.out); clear hb c0 c1 c2 c3 c4 c5 c6 c7
  obtain ⟨c0, c1, c2, c3, c4, c5, c6, c7⟩ := N2.out
  go_wp2_with fail
  (with_reducible refine (H2.out _).mono ?_); rintro e w3 ⟨rfl, hb⟩
  have W3 := Lib.hid (b_next W2.out hb); have N3 := Lib.hid (n8_keep hb N2.out); clear hb c0 c1 c2 c3 c4 c5 c6 c7
  obtain ⟨c0, c1, c2, c3, c4, c5, c6, c7⟩ := N3.out
  go_wp2_with fail
  (with_reducible refine (H3.out _).mono ?_); rintro e w4 ⟨rfl, hb⟩
  have W4 := Lib.hid (b_next W3.out hb); have N4 := Lib.hid (n8_keep hb N3.out); clear hb c0 c1 c2 c3 c4 c5 c6 c7
  go_wp2_with fail
  go_ret
  exact ⟨rfl, W4.out⟩
set_option maxRecDepth 100000 in
set_option maxHeartbeats 4000000 in
theorem chk_off (c k f t : ByteArray) (off sp h : Int) (A : Option Addr) (n cap : Nat) (w : World) (H0 : Hid (NmC c true)) (H1 : Hid (NmC k true)) (H2 : Hid (NmC f true)) (H3 : Hid (NmC t true)) (ho : off < 0 ∨ 200000 < off) :
    Calls Tryz.prog 13 #[plan c k f t off sp h (.slice A n cap)] w fun e w' => e = .returned (.int .i64 12) ∧ Below w.heap.size w w' := by
  have N0 := Lib.hid (n8_new w 24 c k f t off sp h (.slice A n cap))
  have W0 := Lib.hid (b_alloc (Below.refl w.heap.size w) (.cells #[.string c, .string k, .string f, .string t, .int .i64 off, .int .i64 sp, .int .i64 h, .slice A n cap] 24))
  go_enter Tryz.func13, Tryz.ntmps13
  obtain ⟨c0, c1, c2, c3, c4, c5, c6, c7⟩ := N0.out
  go_wp2_with fail
  (with_reducible refine (H0.out _).mono ?_); rintro e w1 ⟨rfl, hb⟩
  have W1 := Lib.hid (b_next W0.out hb); have N1 := Lib.hid (n8_keep hb N0.out); clear hb c0 c1 c2 c3 c4 c5 c6 c7
  obtain ⟨c0, c1, c2, c3, c4, c5, c6, c7⟩ := N1.out
  go_wp2_with fail
  (with_reducible refine (H1.out _).mono ?_); rintro e w2 ⟨rfl, hb⟩
  have W2 := Lib.hid (b_next W1.out hb); have N2 := Lib.hid (n8_keep hb N1.out); clear hb c0 c1 c2 c3 c4 c5 c6 c7
  obtain ⟨c0, c1, c2, c3, c4, c5, c6, c7⟩ := N2.out
  go_wp2_with fail
  (with_reducible refine (H2.out _).mono ?_); rintro e w3 ⟨rfl, hb⟩
  have W3 := Lib.hid (b_next W2.out hb); have N3 := Lib.hid (n8_keep hb N2.out); clear hb c0 c1 c2 c3 c4 c5 c6 c7
  obtain ⟨c0, c1, c2, c3, c4, c5, c6, c7⟩ := N3.out
  go_wp2_with fail
  (with_reducible refine (H3.out _).mono ?_); rintro e w4 ⟨rfl, hb⟩
  have W4 := Lib.hid (b_next W3.out hb); have N4 := Lib.hid (n8_keep hb N3.out); clear hb c0 c1 c2 c3 c4 c5 c6 c7
  obtain ⟨c0, c1, c2, c3, c4, c5, c6, c7⟩ := N4.out
  go_wp2_with fail
  all_goals first | (exfalso; omega) | (go_ret; exact ⟨rfl, W4.out⟩)
set_option maxRecDepth 100000 in
set_option maxHeartbeats 4000000 in
theorem chk_rng (c k f t : ByteArray) (off sp h : Int) (A : Option Addr) (n cap : Nat) (w : World) (H0 : Hid (NmC c true)) (H1 : Hid (NmC k true)) (H2 : Hid (NmC f true)) (H3 : Hid (NmC t true)) (ho : 0 ≤ off ∧ off ≤ 200000) (hr : sp < 1 ∨ 400 < sp ∨ h < 1 ∨ 60000 < h) :
    Calls Tryz.prog 13 #[plan c k f t off sp h (.slice A n cap)] w fun e w' => e = .returned (.int .i64 4) ∧ Below w.heap.size w w' := by
  have g1 : ¬ off < 0 := by omega
  have g2 : ¬ 200000 < off := by omega
  have N0 := Lib.hid (n8_new w 24 c k f t off sp h (.slice A n cap))
  have W0 := Lib.hid (b_alloc (Below.refl w.heap.size w) (.cells #[.string c, .string k, .string f, .string t, .int .i64 off, .int .i64 sp, .int .i64 h, .slice A n cap] 24))
  go_enter Tryz.func13, Tryz.ntmps13
  obtain ⟨c0, c1, c2, c3, c4, c5, c6, c7⟩ := N0.out
  go_wp2_with fail
  (with_reducible refine (H0.out _).mono ?_); rintro e w1 ⟨rfl, hb⟩
  have W1 := Lib.hid (b_next W0.out hb); have N1 := Lib.hid (n8_keep hb N0.out); clear hb c0 c1 c2 c3 c4 c5 c6 c7
  obtain ⟨c0, c1, c2, c3, c4, c5, c6, c7⟩ := N1.out
  go_wp2_with fail
  (with_reducible refine (H1.out _).mono ?_); rintro e w2 ⟨rfl, hb⟩
  have W2 := Lib.hid (b_next W1.out hb); have N2 := Lib.hid (n8_keep hb N1.out); clear hb c0 c1 c2 c3 c4 c5 c6 c7
  obtain ⟨c0, c1, c2, c3, c4, c5, c6, c7⟩ := N2.out
  go_wp2_with fail
  (with_reducible refine (H2.out _).mono ?_); rintro e w3 ⟨rfl, hb⟩
  have W3 := Lib.hid (b_next W2.out hb); have N3 := Lib.hid (n8_keep hb N2.out); clear hb c0 c1 c2 c3 c4 c5 c6 c7
  obtain ⟨c0, c1, c2, c3, c4, c5, c6, c7⟩ := N3.out
  go_wp2_with fail
  (with_reducible refine (H3.out _).mono ?_); rintro e w4 ⟨rfl, hb⟩
  have W4 := Lib.hid (b_next W3.out hb); have N4 := Lib.hid (n8_keep hb N3.out); clear hb c0 c1 c2 c3 c4 c5 c6 c7
  obtain ⟨c0, c1, c2, c3, c4, c5, c6, c7⟩ := N4.out
  go_wp2_with fail
  all_goals first | (exfalso; omega) | (go_ret; exact ⟨rfl, W4.out⟩)
set_option maxRecDepth 100000 in
set_option maxHeartbeats 4000000 in
theorem chk_big (c k f t : ByteArray) (off sp h : Int) (A : Option Addr) (n cap : Nat) (w : World) (H0 : Hid (NmC c true)) (H1 : Hid (NmC k true)) (H2 : Hid (NmC f true)) (H3 : Hid (NmC t true)) (ho : 0 ≤ off ∧ off ≤ 200000) (hr : (1 ≤ sp ∧ sp ≤ 400) ∧ 1 ≤ h ∧ h ≤ 60000) (hn : 24 < n) :
    Calls Tryz.prog 13 #[plan c k f t off sp h (.slice A n cap)] w fun e w' => e = .returned (.int .i64 2) ∧ Below w.heap.size w w' := by
  have g0 : (24 : Int) < (n : Int) := by omega
  have g1 : ¬ off < 0 := by omega
  have g2 : ¬ 200000 < off := by omega
  have g3 : ¬ sp < 1 := by omega
  have g4 : ¬ 400 < sp := by omega
  have g5 : ¬ h < 1 := by omega
  have g6 : ¬ 60000 < h := by omega
  have N0 := Lib.hid (n8_new w 24 c k f t off sp h (.slice A n cap))
  have W0 := Lib.hid (b_alloc (Below.refl w.heap.size w) (.cells #[.string c, .string k, .string f, .string t, .int .i64 off, .int .i64 sp, .int .i64 h, .slice A n cap] 24))
  go_enter Tryz.func13, Tryz.ntmps13
  obtain ⟨c0, c1, c2, c3, c4, c5, c6, c7⟩ := N0.out
  go_wp2_with fail
  (with_reducible refine (H0.out _).mono ?_); rintro e w1 ⟨rfl, hb⟩
  have W1 := Lib.hid (b_next W0.out hb); have N1 := Lib.hid (n8_keep hb N0.out); clear hb c0 c1 c2 c3 c4 c5 c6 c7
  obtain ⟨c0, c1, c2, c3, c4, c5, c6, c7⟩ := N1.out
  go_wp2_with fail
  (with_reducible refine (H1.out _).mono ?_); rintro e w2 ⟨rfl, hb⟩
  have W2 := Lib.hid (b_next W1.out hb); have N2 := Lib.hid (n8_keep hb N1.out); clear hb c0 c1 c2 c3 c4 c5 c6 c7
  obtain ⟨c0, c1, c2, c3, c4, c5, c6, c7⟩ := N2.out
  go_wp2_with fail
  (with_reducible refine (H2.out _).mono ?_); rintro e w3 ⟨rfl, hb⟩
  have W3 := Lib.hid (b_next W2.out hb); have N3 := Lib.hid (n8_keep hb N2.out); clear hb c0 c1 c2 c3 c4 c5 c6 c7
  obtain ⟨c0, c1, c2, c3, c4, c5, c6, c7⟩ := N3.out
  go_wp2_with fail
  (with_reducible refine (H3.out _).mono ?_); rintro e w4 ⟨rfl, hb⟩
  have W4 := Lib.hid (b_next W3.out hb); have N4 := Lib.hid (n8_keep hb N3.out); clear hb c0 c1 c2 c3 c4 c5 c6 c7
  obtain ⟨c0, c1, c2, c3, c4, c5, c6, c7⟩ := N4.out
  go_wp2_with fail
  all_goals first | (exfalso; omega) | (go_ret; exact ⟨rfl, W4.out⟩)
set_option maxRecDepth 100000 in
set_option maxHeartbeats 4000000 in
theorem chk_bad (c k f t : ByteArray) (off sp h : Int) (A : Option Addr) (n cap : Nat) (w : World) (H0 : Hid (NmC c true)) (H1 : Hid (NmC k true)) (H2 : Hid (NmC f true)) (H3 : Hid (NmC t true)) (ho : 0 ≤ off ∧ off ≤ 200000) (hr : (1 ≤ sp ∧ sp ≤ 400) ∧ 1 ≤ h ∧ h ≤ 60000) (hn : n ≤ 24) (B : Hid (∀ w1, Below w.heap.size w w1 → Calls Tryz.prog 36 #[.slice A n cap, .func (.func 37) #[] #[]] w1 fun e w' => e = .returned (.bool true) ∧ Below w1.heap.size w1 w')) :
    Calls Tryz.prog 13 #[plan c k f t off sp h (.slice A n cap)] w fun e w' => e = .returned (.int .i64 5) ∧ Below w.heap.size w w' := by
  have g0 : ¬ (24 : Int) < (n : Int) := by omega
  have g1 : ¬ off < 0 := by omega
  have g2 : ¬ 200000 < off := by omega
  have g3 : ¬ sp < 1 := by omega
  have g4 : ¬ 400 < sp := by omega
  have g5 : ¬ h < 1 := by omega
  have g6 : ¬ 60000 < h := by omega
  have N0 := Lib.hid (n8_new w 24 c k f t off sp h (.slice A n cap))
  have W0 := Lib.hid (b_alloc (Below.refl w.heap.size w) (.cells #[.string c, .string k, .string f, .string t, .int .i64 off, .int .i64 sp, .int .i64 h, .slice A n cap] 24))
  go_enter Tryz.func13, Tryz.ntmps13
  obtain ⟨c0, c1, c2, c3, c4, c5, c6, c7⟩ := N0.out
  go_wp2_with fail
  (with_reducible refine (H0.out _).mono ?_); rintro e w1 ⟨rfl, hb⟩
  have W1 := Lib.hid (b_next W0.out hb); have N1 := Lib.hid (n8_keep hb N0.out); clear hb c0 c1 c2 c3 c4 c5 c6 c7
  obtain ⟨c0, c1, c2, c3, c4, c5, c6, c7⟩ := N1.out
  go_wp2_with fail
  (with_reducible refine (H1.out _).mono ?_); rintro e w2 ⟨rfl, hb⟩
  have W2 := Lib.hid (b_next W1.out hb); have N2 := Lib.hid (n8_keep hb N1.out); clear hb c0 c1 c2 c3 c4 c5 c6 c7
  obtain ⟨c0, c1, c2, c3, c4, c5, c6, c7⟩ := N2.out
  go_wp2_with fail
  (with_reducible refine (H2.out _).mono ?_); rintro e w3 ⟨rfl, hb⟩
  have W3 := Lib.hid (b_next W2.out hb); have N3 := Lib.hid (n8_keep hb N2.out); clear hb c0 c1 c2 c3 c4 c5 c6 c7
  obtain ⟨c0, c1, c2, c3, c4, c5, c6, c7⟩ := N3.out
  go_wp2_with fail
  (with_reducible refine (H3.out _).mono ?_); rintro e w4 ⟨rfl, hb⟩
  have W4 := Lib.hid (b_next W3.out hb); have N4 := Lib.hid (n8_keep hb N3.out); clear hb c0 c1 c2 c3 c4 c5 c6 c7
  obtain ⟨c0, c1, c2, c3, c4, c5, c6, c7⟩ := N4.out
  go_wp2_with fail
  all_goals try (exfalso; omega)
  (with_reducible refine (B.out _ W4.out).mono ?_); rintro e w5 ⟨rfl, hb⟩
  have W5 := Lib.hid (b_next W4.out hb); clear hb
  go_wp2_with fail
  go_ret
  exact ⟨rfl, W5.out⟩
set_option maxRecDepth 100000 in
set_option maxHeartbeats 4000000 in
theorem chk_ok (c k f t : ByteArray) (off sp h : Int) (A : Option Addr) (n cap : Nat) (w : World) (H0 : Hid (NmC c true)) (H1 : Hid (NmC k true)) (H2 : Hid (NmC f true)) (H3 : Hid (NmC t true)) (ho : 0 ≤ off ∧ off ≤ 200000) (hr : (1 ≤ sp ∧ sp ≤ 400) ∧ 1 ≤ h ∧ h ≤ 60000) (hn : n ≤ 24) (B : Hid (∀ w1, Below w.heap.size w w1 → Calls Tryz.prog 36 #[.slice A n cap, .func (.func 37) #[] #[]] w1 fun e w' => e = .returned (.bool false) ∧ Below w1.heap.size w1 w')) :
    Calls Tryz.prog 13 #[plan c k f t off sp h (.slice A n cap)] w fun e w' => e = .returned (.int .i64 0) ∧ Below w.heap.size w w' := by
  have g0 : ¬ (24 : Int) < (n : Int) := by omega
  have g1 : ¬ off < 0 := by omega
  have g2 : ¬ 200000 < off := by omega
  have g3 : ¬ sp < 1 := by omega
  have g4 : ¬ 400 < sp := by omega
  have g5 : ¬ h < 1 := by omega
  have g6 : ¬ 60000 < h := by omega
  have N0 := Lib.hid (n8_new w 24 c k f t off sp h (.slice A n cap))
  have W0 := Lib.hid (b_alloc (Below.refl w.heap.size w) (.cells #[.string c, .string k, .string f, .string t, .int .i64 off, .int .i64 sp, .int .i64 h, .slice A n cap] 24))
  go_enter Tryz.func13, Tryz.ntmps13
  obtain ⟨c0, c1, c2, c3, c4, c5, c6, c7⟩ := N0.out
  go_wp2_with fail
  (with_reducible refine (H0.out _).mono ?_); rintro e w1 ⟨rfl, hb⟩
  have W1 := Lib.hid (b_next W0.out hb); have N1 := Lib.hid (n8_keep hb N0.out); clear hb c0 c1 c2 c3 c4 c5 c6 c7
  obtain ⟨c0, c1, c2, c3, c4, c5, c6, c7⟩ := N1.out
  go_wp2_with fail
  (with_reducible refine (H1.out _).mono ?_); rintro e w2 ⟨rfl, hb⟩
  have W2 := Lib.hid (b_next W1.out hb); have N2 := Lib.hid (n8_keep hb N1.out); clear hb c0 c1 c2 c3 c4 c5 c6 c7
  obtain ⟨c0, c1, c2, c3, c4, c5, c6, c7⟩ := N2.out
  go_wp2_with fail
  (with_reducible refine (H2.out _).mono ?_); rintro e w3 ⟨rfl, hb⟩
  have W3 := Lib.hid (b_next W2.out hb); have N3 := Lib.hid (n8_keep hb N2.out); clear hb c0 c1 c2 c3 c4 c5 c6 c7
  obtain ⟨c0, c1, c2, c3, c4, c5, c6, c7⟩ := N3.out
  go_wp2_with fail
  (with_reducible refine (H3.out _).mono ?_); rintro e w4 ⟨rfl, hb⟩
  have W4 := Lib.hid (b_next W3.out hb); have N4 := Lib.hid (n8_keep hb N3.out); clear hb c0 c1 c2 c3 c4 c5 c6 c7
  obtain ⟨c0, c1, c2, c3, c4, c5, c6, c7⟩ := N4.out
  go_wp2_with fail
  all_goals try (exfalso; omega)
  (with_reducible refine (B.out _ W4.out).mono ?_); rintro e w5 ⟨rfl, hb⟩
  have W5 := Lib.hid (b_next W4.out hb); clear hb
  go_wp2_with fail
  go_ret
  exact ⟨rfl, W5.out⟩
theorem checkC {c k f t : ByteArray} {off sp h : Int} {r : Value} {n : Nat} {T : Nat → ByteArray} {w : World} (hv : SV w r n T) : ∀ w1, Below w.heap.size w w1 →
    Calls Tryz.prog 13 #[plan c k f t off sp h r] w1 fun e w' => e = .returned (.int .i64 (planE c k f t off sp h n T)) ∧ Below w1.heap.size w1 w' := fun w1 hb => by
  have B := bcontC (sv_keep hb hv)
  obtain ⟨A, cap, rfl⟩ := sv_slice hv
  unfold planE
  have key : ∀ s, (nameB s = false → Hid (NmC s false)) ∧ (¬ nameB s = false → Hid (NmC s true)) := fun s => ⟨fun h => Lib.hid fun w => by have c := nameC s w; rw [h] at c; exact c, fun h => Lib.hid fun w => by have c := nameC s w; rw [Bool.not_eq_false] at h; rw [h] at c; exact c⟩
  by_cases h0 : nameB c = false
  · rw [if_pos (Or.inl h0)]; exact chk_n0 c k f t off sp h A n cap w1 ((key c).1 h0)
  have H0 := (key c).2 h0
  by_cases h1 : nameB k = false
  · rw [if_pos (Or.inr (Or.inl h1))]; exact chk_n1 c k f t off sp h A n cap w1 H0 ((key k).1 h1)
  have H1 := (key k).2 h1
  by_cases h2 : nameB f = false
  · rw [if_pos (Or.inr (Or.inr (Or.inl h2)))]; exact chk_n2 c k f t off sp h A n cap w1 H0 H1 ((key f).1 h2)
  have H2 := (key f).2 h2
  by_cases h3 : nameB t = false
  · rw [if_pos (Or.inr (Or.inr (Or.inr h3)))]; exact chk_n3 c k f t off sp h A n cap w1 H0 H1 H2 ((key t).1 h3)
  have H3 := (key t).2 h3
  rw [if_neg (by rintro (h | h | h | h) <;> contradiction)]
  by_cases h4 : off < 0 ∨ 200000 < off
  · rw [if_pos h4]; exact chk_off c k f t off sp h A n cap w1 H0 H1 H2 H3 h4
  rw [if_neg h4]
  by_cases h5 : sp < 1 ∨ 400 < sp ∨ h < 1 ∨ 60000 < h
  · rw [if_pos h5]; exact chk_rng c k f t off sp h A n cap w1 H0 H1 H2 H3 (by omega) h5
  rw [if_neg h5]
  by_cases h6 : 24 < n
  · rw [if_pos h6]; exact chk_big c k f t off sp h A n cap w1 H0 H1 H2 H3 (by omega) (by omega) h6
  rw [if_neg h6]
  by_cases h7 : 0 ≤ bix T n
  · rw [if_pos h7]; rw [decide_eq_true h7] at B
    exact chk_bad c k f t off sp h A n cap w1 H0 H1 H2 H3 (by omega) (by omega) (by omega) (Lib.hid B)
  · rw [if_neg h7]; rw [decide_eq_false h7] at B
    exact chk_ok c k f t off sp h A n cap w1 H0 H1 H2 H3 (by omega) (by omega) (by omega) (Lib.hid B)
end Plan
end Go.Proofs.YtmkglhoahdlogaaGreatDoor
