/- chart.Between: what it returns. -/
import Derived.Test.YtokioemmjfjhkaaChE
import Derived.Test.YtokioemmjfjhkaaChD
namespace Go.Proofs.Ytokioemmjfjhkaa
open Go.RowKit
namespace Chart
open Kit Plane Poly
abbrev CcC (c : Value) (E : Int) (w : World) : Prop := ∀ w1, Below w.heap.size w w1 → Calls Try.prog 35 #[c] w1 fun e w' => e = .returned (.int .i64 E) ∧ Below w1.heap.size w1 w'
abbrev AiC (aw : Value) (an : ByteArray) (k : Int) (w : World) : Prop := ∀ w1 pb, Below w.heap.size w w1 → w1.cell? ⟨pb, 0, none⟩ = some (.string an) → Calls Try.prog 53 #[aw, .func (.func 54) #[] #[.pointer (some ⟨pb, 0, none⟩)]] w1 fun e w' => e = .returned (.int .i64 k) ∧ Below w1.heap.size w1 w'
abbrev BeC (c : Value) (an s t : ByteArray) (w : World) (post : Value → World → Prop) : Prop := Calls Try.prog 32 #[c, .string an, .string s, .string t] w fun e w' => (∃ q, e = .returned q ∧ post q w') ∧ Below w.heap.size w w'
theorem str_second (w : World) (o : Obj) (ty : TypeId) (s : ByteArray) : ((w.alloc o).alloc (.cells #[.string s] ty)).cell? ⟨w.heap.size + 1, 0, none⟩ = some (.string s) := by
  have h : ((w.alloc o).alloc (.cells #[.string s] ty)).cell? ⟨(w.alloc o).heap.size, 0, none⟩ = some (.string s) := by simp
  rw [World.size_alloc] at h; exact h
set_option maxHeartbeats 1000000 in
theorem bet_bad (fx aw : Value) (an s t : ByteArray) (E : Int) (w : World) (C : Hid (CcC (.agg #[fx, aw]) E w)) (_hE1 : (E == 0) = false) (hE2 : (E != 0) = true) :
    BeC (.agg #[fx, aw]) an s t w fun q _ => q = .tuple #[.slice none 0 0, .int .i64 E] := by
  have W0 := Lib.hid (b_alloc (b_alloc (Below.refl w.heap.size w) (.cells #[fx, aw] 37)) (.cells #[.string an] 9))
  go_enter Try.func32, Try.ntmps32
  go_wp2_with fail
  (with_reducible refine (C.out _ W0.out).mono ?_); rintro e w1 ⟨rfl, hb⟩
  have W1 := Lib.hid (b_next W0.out hb); clear hb
  go_wp2_with fail
  all_goals (go_ret2; exact ⟨⟨_, rfl, rfl⟩, W1.out⟩)
set_option maxHeartbeats 1000000 in
theorem bet_none (fx aw : Value) (an s t : ByteArray) (k : Int) (w : World) (C : Hid (CcC (.agg #[fx, aw]) 0 w)) (A : Hid (AiC aw an k w)) (hk : k < 0) :
    BeC (.agg #[fx, aw]) an s t w fun q _ => q = .tuple #[.slice none 0 0, .int .i64 6] := by
  have W0 := Lib.hid (b_alloc (b_alloc (Below.refl w.heap.size w) (.cells #[fx, aw] 37)) (.cells #[.string an] 9))
  have BX := Lib.hid (p2v_keep (b_alloc (Below.refl _ _) (.cells #[.string an] 9)) (p2v_new w 37 fx aw))
  have SX := Lib.hid (str_second w (.cells #[fx, aw] 37) 9 an)
  have hmf : ∀ fn first cap w, (Instr.makeFunc fn first cap).run Try.prog w = .ok (.func fn first cap) w := fun _ _ _ _ => rfl
  go_enter Try.func32, Try.ntmps32
  go_wp2_with fail
  (with_reducible refine (C.out _ W0.out).mono ?_); rintro e w1 ⟨rfl, hb⟩
  have W1 := Lib.hid (b_next W0.out hb); obtain ⟨x0, x1⟩ := p2v_keep hb BX.out; have S1 := Lib.hid (keep hb SX.out); clear hb
  go_wp2_with fail
  (with_reducible refine (A.out _ _ W1.out S1.out).mono ?_); rintro e w2 ⟨rfl, hb⟩
  have W2 := Lib.hid (b_next W1.out hb); clear hb
  go_wp2_with fail
  all_goals (go_ret2; exact ⟨⟨_, rfl, rfl⟩, W2.out⟩)
/-- The names between two places of a list, in either direction. -/
def way (S : Nat → ByteArray) (i j : Nat) : Nat → ByteArray := fun t => if i ≤ j then S (i + t) else S (i - t)
set_option maxRecDepth 100000 in
set_option maxHeartbeats 4000000 in
theorem bet_ok (fx : Value) (m cap b off kn : Nat) (an s t : ByteArray) (M : Nat → ByteArray) (l : Nat → Nat) (S : Nat → Nat → ByteArray) (w : World) (hkn : kn < m) (_hc : m ≤ cap) (_hm : cap ≤ 9223372036854775807) (hlk : l kn ≤ 24)
    (C : Hid (CcC (.agg #[fx, .slice (some ⟨b, off, none⟩) m cap]) 0 w)) (A : Hid (AiC (.slice (some ⟨b, off, none⟩) m cap) an kn w)) (HV : Hid (∀ k, k < m → A2 w b off k (M k) (l k) (S k))) :
    BeC (.agg #[fx, .slice (some ⟨b, off, none⟩) m cap]) an s t w fun q w' => if fix (S kn) s (l kn) < 0 ∨ fix (S kn) t (l kn) < 0 then q = .tuple #[.slice none 0 0, .int .i64 6] else ∃ i j : Nat, fix (S kn) s (l kn) = i ∧ fix (S kn) t (l kn) = j ∧ ∃ v, q = .tuple #[v, .int .i64 0] ∧ SV w' v (max i j + 1 - min i j) (way (S kn) i j) := by
  have W0 := Lib.hid (b_alloc (b_alloc (Below.refl w.heap.size w) (.cells #[fx, .slice (some ⟨b, off, none⟩) m cap] 37)) (.cells #[.string an] 9))
  have BX := Lib.hid (p2v_keep (b_alloc (Below.refl _ _) (.cells #[.string an] 9)) (p2v_new w 37 fx (.slice (some ⟨b, off, none⟩) m cap)))
  have SX := Lib.hid (str_second w (.cells #[fx, .slice (some ⟨b, off, none⟩) m cap] 37) 9 an)
  have hmf : ∀ fn first cap w, (Instr.makeFunc fn first cap).run Try.prog w = .ok (.func fn first cap) w := fun _ _ _ _ => rfl
  have hl : (kn : Int) < (m : Int) := by omega
  obtain ⟨ca0, vi, ca1, hsv⟩ := HV.out kn hkn
  obtain ⟨A1, ci, rfl⟩ := sv_slice hsv
  have D1 := Lib.hid ca1; have SVK := Lib.hid hsv
  clear ca0 ca1 hsv
  obtain ⟨L, hL⟩ : ∃ L, L = l kn := ⟨_, rfl⟩
  obtain ⟨T, hT⟩ : ∃ T, T = S kn := ⟨_, rfl⟩
  rw [← hL] at SVK D1 hlk
  rw [← hT] at SVK
  obtain ⟨post, hpost⟩ : ∃ post : Value → World → Prop, post = fun q w' => if fix T s L < 0 ∨ fix T t L < 0 then q = .tuple #[.slice none 0 0, .int .i64 6] else ∃ i j : Nat, fix T s L = i ∧ fix T t L = j ∧ ∃ v, q = .tuple #[v, .int .i64 0] ∧ SV w' v (max i j + 1 - min i j) (way T i j) := ⟨_, rfl⟩
  rw [← hL, ← hT, ← hpost]
  have HP := Lib.hid hpost; clear hpost hL hT
  go_enter Try.func32, Try.ntmps32
  go_wp2_with fail
  (with_reducible refine (C.out _ W0.out).mono ?_); rintro e w1 ⟨rfl, hb⟩
  have W1 := Lib.hid (b_next W0.out hb); have BX1 := Lib.hid (p2v_keep hb BX.out); have S1 := Lib.hid (keep hb SX.out); clear hb
  obtain ⟨x0, x1⟩ := BX1.out
  go_wp2_with fail
  (with_reducible refine (A.out _ _ W1.out S1.out).mono ?_); rintro e w2 ⟨rfl, hb⟩
  have W2 := Lib.hid (b_next W1.out hb); clear x0 x1
  obtain ⟨x0, x1⟩ := p2v_keep hb BX1.out
  have SV2 := Lib.hid (sv_keep W2.out SVK.out)
  have d1 := keep W2.out D1.out
  clear hb
  have I1 := Lib.hid fun (w' : World) (hb : Below w2.heap.size w2 w') => sidxC (sv_keep hb SV2.out) s
  have I2 := Lib.hid fun (w' : World) (hb : Below w2.heap.size w2 w') => sidxC (sv_keep hb SV2.out) t
  have hb1 : -1 ≤ fix T s L ∧ fix T s L < (L : Int) := fnd_bd _ _
  have hb2 : -1 ≤ fix T t L ∧ fix T t L < (L : Int) := fnd_bd _ _
  obtain ⟨i, hi⟩ : ∃ i, i = fix T s L := ⟨_, rfl⟩
  obtain ⟨j, hj⟩ : ∃ j, j = fix T t L := ⟨_, rfl⟩
  rw [← hi] at HP I1 hb1
  rw [← hj] at HP I2 hb2
  clear hi hj
  go_wp2_with fail
  (with_reducible refine (I1.out _ (Below.refl _ _)).mono ?_); rintro e w3 ⟨rfl, hb⟩
  have W3 := Lib.hid (b_next W2.out hb); have V3 := Lib.hid hb; clear hb x0 x1 d1
  go_wp2_with fail
  (with_reducible refine (I2.out _ V3.out).mono ?_); rintro e w4 ⟨rfl, hb⟩
  have W4 := Lib.hid (b_next W3.out hb); have SV4 := Lib.hid (sv_keep (b_next V3.out hb) SV2.out); clear hb I1 I2 SV2 SVK
  by_cases hneg : i < 0 ∨ j < 0
  · have HQ : Hid (∀ w', post (.tuple #[.slice none 0 0, .int .i64 6]) w') := Lib.hid fun w' => by rw [HP.out]; dsimp only; rw [if_pos hneg]
    clear HP
    rcases hneg with h | h
    · go_wp2_with fail
      all_goals (go_ret2; exact ⟨⟨_, rfl, HQ.out _⟩, W4.out⟩)
    · by_cases h' : i < 0
      · go_wp2_with fail
        all_goals (go_ret2; exact ⟨⟨_, rfl, HQ.out _⟩, W4.out⟩)
      · go_wp2_with fail
        all_goals (go_ret2; exact ⟨⟨_, rfl, HQ.out _⟩, W4.out⟩)
  obtain ⟨iN, rfl⟩ : ∃ iN : Nat, i = (iN : Int) := ⟨i.toNat, by omega⟩
  obtain ⟨jN, rfl⟩ : ∃ jN : Nat, j = (jN : Int) := ⟨j.toNat, by omega⟩
  have hi' : iN < L := by omega
  have hj' : jN < L := by omega
  have HQ : Hid (∀ v w', SV w' v (max iN jN + 1 - min iN jN) (way T iN jN) → post (.tuple #[v, .int .i64 0]) w') := Lib.hid fun v w' h => by
    rw [HP.out]; dsimp only; rw [if_neg hneg]
    exact ⟨iN, jN, rfl, rfl, v, rfl, h⟩
  clear HP hneg hb1 hb2
  obtain ⟨b2, off2, ci', e1, hc1, hc2, hcs⟩ := sv_at SV4.out (by omega)
  injection e1 with e1 _ e3
  subst e1 e3
  have HS4 := Lib.hid hcs; clear hcs SV4
  have hc3 : ci ≤ 9223372036854775807 := Nat.le_trans hc2 (by decide)
  have CL := Lib.hid fun (lo n' : Nat) (h0 : 0 < n') (h1 : lo + n' ≤ L) => clone_w n' (ci - lo) b2 (off2 + lo) (fun t => T (lo + t)) w4 h0 (by omega) (by omega) (Lib.hid fun k hk => by
    have := HS4.out (lo + k) (by omega)
    rw [← Nat.add_assoc] at this; exact this)
  have n1 : ¬ (iN : Int) < 0 := by omega
  have n2 : ¬ (jN : Int) < 0 := by omega
  rcases Nat.lt_trichotomy iN jN with hij | hij | hij
  · have q1 : (iN : Int) < (jN : Int) := by omega
    rw [show max iN jN = jN from by omega, show min iN jN = iN from by omega] at HQ
    have hw : way T iN jN = fun t => T (iN + t) := by unfold way; funext t; rw [if_pos (by omega)]
    rw [hw] at HQ
    go_wp2_with fail
    (with_reducible refine (CL.out iN (jN + 1 - iN) (by omega) (by omega)).mono ?_); rintro e w5 ⟨⟨g, c, rfl, g1, g2, g3, g4, g5⟩, hb⟩
    have R5 := Lib.hid g5; have W5 := Lib.hid (b_next W4.out hb); clear hb g5
    go_wp2_with fail
    go_ret2
    exact ⟨⟨_, rfl, HQ.out _ _ (Or.inr ⟨by omega, g, 0, c, rfl, g3, g4, fun k hk => by rw [Nat.zero_add]; exact R5.out.cell k hk⟩)⟩, W5.out⟩
  · subst hij
    rw [show max iN iN = iN from by omega, show min iN iN = iN from by omega, show iN + 1 - iN = 1 from by omega] at HQ
    have hw : way T iN iN = fun t => T (iN + t) := by unfold way; funext t; rw [if_pos (by omega)]
    rw [hw] at HQ
    go_wp2_with fail
    (with_reducible refine (CL.out iN 1 (by omega) (by omega)).mono ?_); rintro e w5 ⟨⟨g, c, rfl, g1, g2, g3, g4, g5⟩, hb⟩
    have R5 := Lib.hid g5; have W5 := Lib.hid (b_next W4.out hb); clear hb g5
    go_wp2_with fail
    go_ret2
    exact ⟨⟨_, rfl, HQ.out _ _ (Or.inr ⟨by omega, g, 0, c, rfl, g3, g4, fun k hk => by rw [Nat.zero_add]; exact R5.out.cell k hk⟩)⟩, W5.out⟩
  · have q1 : (jN : Int) < (iN : Int) := by omega
    rw [show max iN jN = iN from by omega, show min iN jN = jN from by omega] at HQ
    go_wp2_with fail
    (with_reducible refine (CL.out jN (iN + 1 - jN) (by omega) (by omega)).mono ?_); rintro e w5 ⟨⟨g, c, rfl, g1, g2, g3, g4, g5⟩, hb⟩
    have R5 := Lib.hid g5; have W5 := Lib.hid (b_next W4.out hb); have HG := Lib.hid (Nat.le_trans W4.out.size g1); clear hb g5
    go_wp2_with fail
    (with_reducible refine (reverse_w (iN + 1 - jN) c g _ w5 (by omega) (by omega) g3 (Nat.le_trans g4 (by decide)) g2 R5).mono ?_); rintro e w6 ⟨rfl, g6, g7, g8⟩
    have R6 := Lib.hid g6; have W6 := Lib.hid (g7 w HG.out W5.out); clear g6 g7
    go_wp2_with fail
    go_ret2
    refine ⟨⟨_, rfl, HQ.out _ _ (Or.inr ⟨by omega, g, 0, c, rfl, g3, g4, fun k hk => ?_⟩)⟩, W6.out⟩
    rw [Nat.zero_add, R6.out.cell k hk]
    unfold way
    rw [if_neg (by omega), show jN + (iN + 1 - jN - 1 - k) = iN - k from by omega]
/-- chart.Between's answer. -/
def betP (n : Nat) (N : Nat → ByteArray) (X Y : Nat → Int) (m : Nat) (M : Nat → ByteArray) (l : Nat → Nat) (S : Nat → Nat → ByteArray) (an s t : ByteArray) (q : Value) (w' : World) : Prop :=
  if cerr n N X Y m M l S ≠ 0 then q = .tuple #[.slice none 0 0, .int .i64 (cerr n N X Y m M l S)]
  else if fix M an m < 0 then q = .tuple #[.slice none 0 0, .int .i64 6]
  else ∃ k : Nat, fix M an m = k ∧ k < m ∧ if fix (S k) s (l k) < 0 ∨ fix (S k) t (l k) < 0 then q = .tuple #[.slice none 0 0, .int .i64 6] else ∃ i j : Nat, fix (S k) s (l k) = i ∧ fix (S k) t (l k) = j ∧ ∃ v, q = .tuple #[v, .int .i64 0] ∧ SV w' v (max i j + 1 - min i j) (way (S k) i j)
theorem aerr_len {n : Nat} {N : Nat → ByteArray} {X Y : Nat → Int} {M : Nat → ByteArray} {l : Nat → Nat} {S : Nat → Nat → ByteArray} {i : Nat} (h : aerr n N X Y M l S i = 0) : Name.nameB (M i) = true ∧ fix N (M i) n < 0 ∧ fix M (M i) i < 0 ∧ 2 ≤ l i ∧ l i ≤ 24 ∧ ∀ j, j < l i → nerr n N X Y (S i) j = 0 := by
  unfold aerr at h
  by_cases h1 : Name.nameB (M i) = false
  · rw [if_pos h1] at h; exact absurd h (by decide)
  · rw [if_neg h1] at h
    by_cases h2 : 0 ≤ fix N (M i) n ∨ 0 ≤ fix M (M i) i
    · rw [if_pos h2] at h; exact absurd h (by decide)
    · rw [if_neg h2] at h
      by_cases h3 : l i < 2 ∨ 24 < l i
      · rw [if_pos h3] at h; exact absurd h (by decide)
      · rw [if_neg h3] at h
        exact ⟨by simpa using h1, by omega, by omega, by omega, by omega, ferr_inv h⟩
theorem cerr_ok {n : Nat} {N : Nat → ByteArray} {X Y : Nat → Int} {m : Nat} {M : Nat → ByteArray} {l : Nat → Nat} {S : Nat → Nat → ByteArray} (h : cerr n N X Y m M l S = 0) : n ≤ 64 ∧ m ≤ 16 ∧ (∀ k, k < n → fe n N X Y k = 0) ∧ ∀ i, i < m → aerr n N X Y M l S i = 0 := by
  unfold cerr at h
  by_cases h1 : 64 < n ∨ 16 < m
  · rw [if_pos h1] at h; exact absurd h (by decide)
  · rw [if_neg h1] at h
    by_cases h2 : ferr (fe n N X Y) n ≠ 0
    · rw [if_pos h2] at h; exact absurd h h2
    · rw [if_neg h2] at h
      exact ⟨by omega, by omega, ferr_inv (Classical.not_not.1 h2), ferr_inv h⟩
theorem betweenC {c : Value} {n : Nat} {N : Nat → ByteArray} {X Y : Nat → Int} {m : Nat} {M : Nat → ByteArray} {l : Nat → Nat} {S : Nat → Nat → ByteArray} {w : World} (hv : CV w c n N X Y m M l S) (an s t : ByteArray) : BeC c an s t w (betP n N X Y m M l S an s t) := by
  have hC : CcC c (cerr n N X Y m M l S) w := fun w1 hb => checkC (cv_keep hb hv)
  obtain ⟨fx, aw, rfl, h1, h2⟩ := hv.ex
  have hA : AiC aw an (fix M an m) w := fun w1 pb hb hq => aidxC_b (av_keep hb h2) pb an hq
  by_cases hE : cerr n N X Y m M l S ≠ 0
  · refine (bet_bad fx aw an s t _ w (Lib.hid hC) (by simp [hE]) (by simp [hE])).mono ?_
    rintro e w' ⟨⟨q, rfl, rfl⟩, h⟩
    exact ⟨⟨_, rfl, by unfold betP; rw [if_pos hE]⟩, h⟩
  · have hE0 := Classical.not_not.1 hE
    rw [hE0] at hC
    obtain ⟨h64, h16, hfe, hae⟩ := cerr_ok hE0
    by_cases hk : fix M an m < 0
    · refine (bet_none fx aw an s t _ w (Lib.hid hC) (Lib.hid hA) hk).mono ?_
      rintro e w' ⟨⟨q, rfl, rfl⟩, h⟩
      exact ⟨⟨_, rfl, by unfold betP; rw [if_neg hE, if_pos hk]⟩, h⟩
    · have hbd : -1 ≤ fix M an m ∧ fix M an m < (m : Int) := fnd_bd _ _
      obtain ⟨kn, hkn⟩ : ∃ kn : Nat, fix M an m = (kn : Int) := ⟨(fix M an m).toNat, by omega⟩
      rw [hkn] at hA hbd hk
      have hlt : kn < m := by omega
      rcases h2 with ⟨h0, -⟩ | ⟨h0, b, off, cap, rfl, hc1, hc2, hAV⟩
      · omega
      · refine (bet_ok fx m cap b off kn an s t M l S w hlt hc1 (Nat.le_trans hc2 (by decide)) (aerr_len (hae kn hlt)).2.2.2.2.1 (Lib.hid hC) (Lib.hid hA) (Lib.hid hAV)).mono ?_
        rintro e w' ⟨⟨q, rfl, hq⟩, h⟩
        exact ⟨⟨_, rfl, by unfold betP; rw [if_neg hE, if_neg (by rw [hkn]; exact hk)]; exact ⟨kn, hkn, hlt, hq⟩⟩, h⟩
end Chart
end Go.Proofs.Ytokioemmjfjhkaa
