/- route.CheckVolumes: what it returns. -/
import Derived.Test.YteaccanhahmclaaRvV
import Derived.Test.YteaccanhahmclaaChC
namespace Go.Proofs.Yteaccanhahmclaa
open Go.RowKit
namespace Route
open Kit Plane Poly Chart Vol
/-- Five cells of a block. -/
structure V5 (w : World) (b : Nat) (s : ByteArray) (a : Value) (l h : Int) (c : Value) : Prop where
  c0 : w.cell? ⟨b, 0, none⟩ = some (.string s)
  c1 : w.cell? ⟨b, 1, none⟩ = some a
  c2 : w.cell? ⟨b, 2, none⟩ = some (.int .i64 l)
  c3 : w.cell? ⟨b, 3, none⟩ = some (.int .i64 h)
  c4 : w.cell? ⟨b, 4, none⟩ = some c
theorem v5_keep {W w1 : World} (hb : Below W.heap.size W w1) {b : Nat} {s : ByteArray} {a c : Value} {l h : Int} (x : V5 W b s a l h c) : V5 w1 b s a l h c := ⟨keep hb x.c0, keep hb x.c1, keep hb x.c2, keep hb x.c3, keep hb x.c4⟩
theorem v5_new (w : World) (t : TypeId) (s : ByteArray) (a : Value) (l h : Int) (c : Value) : V5 (w.alloc (.cells #[.string s, a, .int .i64 l, .int .i64 h, c] t)) w.heap.size s a l h c := ⟨by simp, by simp, by simp, by simp, by simp⟩
/-- What is wrong with volume i. -/
def rverr (D : Nat → Vd) (i : Nat) : Int :=
  if Name.nameB (D i).N = false then 5 else if 0 ≤ fix (fun k => (D k).N) (D i).N i then 7 else if vck (pck (D i).n (D i).X (D i).Y) (D i).l (D i).h ≠ 0 then vck (pck (D i).n (D i).X (D i).Y) (D i).l (D i).h else ckS (D i).m (D i).F (D i).T
/-- route.CheckVolumes' error. -/
def rvck (n : Nat) (D : Nat → Vd) : Int := if 16 < n then 2 else ferr (rverr D) n
theorem rv_big (A : Option Addr) (n cap : Nat) (w : World) (h : 16 < n) (_hc : n ≤ cap) (_hm : cap ≤ 9223372036854775807) : Calls Try.prog 89 #[.slice A n cap] w fun e w' => e = .returned (.int .i64 2) ∧ Below w.heap.size w w' := by
  have h' : (16 : Int) < (n : Int) := by omega
  go_enter Try.func89, Try.ntmps89
  go_wp2_with fail
  all_goals first | (exfalso; omega) | (go_ret; exact ⟨rfl, Below.refl _ _⟩)
set_option maxRecDepth 100000 in
set_option maxHeartbeats 4000000 in
theorem rv_w (A : Option Addr) (n cap : Nat) (D : Nat → Vd) (w : World) (h16 : n ≤ 16) (_hc : n ≤ cap) (hcm : cap ≤ maxLen) (HV : Hid (RV w (.slice A n cap) n D)) :
    Calls Try.prog 89 #[.slice A n cap] w fun e w' => e = .returned (.int .i64 (rvck n D)) ∧ Below w.heap.size w w' := by
  have hm : cap ≤ 9223372036854775807 := Nat.le_trans hcm (by decide)
  have HCM := Lib.hid hcm; clear hcm
  have h16' : ¬ (16 : Int) < (n : Int) := by omega
  obtain ⟨R, hR⟩ : ∃ R, R = rvck n D := ⟨_, rfl⟩
  rw [← hR]
  unfold rvck at hR
  rw [if_neg (by omega)] at hR
  have HR := Lib.hid hR; clear hR
  have hmf : ∀ fn first cap w, (Instr.makeFunc fn first cap).run Try.prog w = .ok (.func fn first cap) w := fun _ _ _ _ => rfl
  go_enter Try.func89, Try.ntmps89
  go_wp2_with fail
  go_loopw [12] (fun s wr => ∃ k : Nat, k ≤ n ∧ s = .int .i64 k ∧ (∀ j, j < k → rverr D j = 0) ∧ Below w.heap.size w wr) (fun s _ => n - (intOf s).toNat)
  case atStart => exact ⟨0, Nat.zero_le _, rfl, fun j hj => absurd hj (Nat.not_lt_zero j), Below.refl _ _⟩
  case round =>
    obtain ⟨k, hk, rfl, hno, hbl⟩ := hrel
    have HN := Lib.hid hno; have WR := Lib.hid hbl; clear hno
    by_cases hlt : k < n
    · have hl : (k : Int) < (n : Int) := by omega
      have hk' : (k : Int) ≤ (n : Int) := by omega
      obtain ⟨b, off, c', e, hc1, hc2, h3⟩ := rv_at (rv_keep hbl HV.out) (by omega)
      injection e with e1 _ e3
      subst e1 e3
      obtain ⟨va, vc, c5, qa, qc⟩ := h3 k hlt
      have STOP : Hid (rverr D k ≠ 0 → R = rverr D k) := Lib.hid fun h => by rw [HR.out]; exact ferr_at HN.out h hlt
      have GO : Hid (rverr D k = 0 → ∀ j, j < k + 1 → rverr D j = 0) := Lib.hid fun h j hj => by
        rcases Nat.lt_or_ge j k with hl | hl
        · exact HN.out j hl
        · rw [show j = k from by omega]; exact h
      have HG : Hid (rverr D k = if Name.nameB (D k).N = false then 5 else if 0 ≤ fix (fun k => (D k).N) (D k).N k then 7 else if vck (pck (D k).n (D k).X (D k).Y) (D k).l (D k).h ≠ 0 then vck (pck (D k).n (D k).X (D k).Y) (D k).l (D k).h else ckS (D k).m (D k).F (D k).T) := Lib.hid rfl
      obtain ⟨A1, ca1, rfl, -⟩ := qv_slice qa
      obtain ⟨A2, ca2, rfl, -⟩ := qv_slice qc
      have VC := Lib.hid fun (w' : World) (hb : Below wr.heap.size wr w') => vcheck A1 (D k).n ca1 (pck (D k).n (D k).X (D k).Y) (D k).l (D k).h w' (Lib.hid (Poly.checkC (qv_keep hb qa)))
      have SC := Lib.hid fun (w' : World) (hb : Below wr.heap.size wr w') => spansC (qv_keep hb qc) w' (Below.refl _ _)
      have CC := Lib.hid fun (w' : World) (pb : Nat) (hb : Below wr.heap.size wr w') (hq : w'.cell? ⟨pb, 0, none⟩ = some (.string (D k).N)) => vcontC (rv_keep hb (rv_take h3 hc1 hc2 hk)) pb (D k).N hq
      have WA := Lib.hid (b_alloc (Below.refl wr.heap.size wr) (.cells #[.string (D k).N, .slice A1 (D k).n ca1, .int .i64 (D k).l, .int .i64 (D k).h, .slice A2 (D k).m ca2] 86))
      have NA := Lib.hid (v5_new wr 86 (D k).N (.slice A1 (D k).n ca1) (D k).l (D k).h (.slice A2 (D k).m ca2))
      have NM := Lib.hid (fun w' => Name.nameC (D k).N w')
      obtain ⟨x0, x1, x2, x3, x4⟩ := c5
      clear hbl h3 qa qc
      generalize fix (fun k => (D k).N) (D k).N k = fx at *
      generalize vck (pck (D k).n (D k).X (D k).Y) (D k).l (D k).h = ev at *
      generalize ckS (D k).m (D k).F (D k).T = es at *
      generalize Name.nameB (D k).N = nb at *
      generalize (D k).N = dN at *
      generalize (D k).l = dl at *
      generalize (D k).h = dh at *
      generalize (D k).n = dn at *
      generalize (D k).m = dm at *
      obtain ⟨bn, hbn⟩ : ∃ bn, bn = wr.heap.size := ⟨_, rfl⟩
      go_wp2_with fail
      rw [← hbn] at NA ⊢
      clear x0 x1 x2 x3 x4
      (with_reducible refine (NM.out _).mono ?_); rintro e w1 ⟨rfl, hb⟩
      have W1 := Lib.hid (b_next WA.out hb); have N1 := Lib.hid (v5_keep hb NA.out); clear hb NA WA hbn
      obtain ⟨y0, y1, y2, y3, y4⟩ := N1.out
      cases nb with
      | false =>
        have e := HG.out
        rw [if_pos rfl] at e
        have e := STOP.out (by rw [e]; decide)
        rw [HG.out, if_pos rfl] at e
        subst e
        go_wp2_with fail
        all_goals (go_ret; exact ⟨rfl, b_next WR.out W1.out⟩)
      | true =>
        have hg := HG.out
        rw [if_neg (by decide)] at hg
        have HG1 := Lib.hid hg; clear hg HG
        go_wp2_with fail
        (with_reducible refine (CC.out _ bn W1.out N1.out.c0).mono ?_); rintro e w2 ⟨rfl, hb⟩
        have W2 := Lib.hid (b_next W1.out hb); have N2 := Lib.hid (v5_keep hb N1.out); clear hb y0 y1 y2 y3 y4
        obtain ⟨y0, y1, y2, y3, y4⟩ := N2.out
        by_cases hf : 0 ≤ fx
        · have e := STOP.out (by rw [HG1.out, if_pos hf]; decide)
          rw [HG1.out, if_pos hf] at e
          subst e
          have hd := decide_eq_true hf
          go_wp2_with fail
          all_goals (go_ret; exact ⟨rfl, b_next WR.out W2.out⟩)
        · have hg := HG1.out
          rw [if_neg hf] at hg
          have HG2 := Lib.hid hg; clear hg HG1
          have hd := decide_eq_false hf
          go_wp2_with fail
          (with_reducible refine (VC.out _ W2.out).mono ?_); rintro e w3 ⟨rfl, hb⟩
          have W3 := Lib.hid (b_next W2.out hb); have N3 := Lib.hid (v5_keep hb N2.out); clear hb y0 y1 y2 y3 y4
          obtain ⟨y0, y1, y2, y3, y4⟩ := N3.out
          by_cases hv : ev ≠ 0
          · have e := STOP.out (by rw [HG2.out, if_pos hv]; exact hv)
            rw [HG2.out, if_pos hv] at e
            subst e
            have hv1 : (R != 0) = true := by simpa using hv
            have hv2 : (R == 0) = false := by simpa using hv
            clear hv
            go_wp2_with fail
            all_goals (go_ret; exact ⟨rfl, b_next WR.out W3.out⟩)
          · have hg := HG2.out
            rw [if_neg hv] at hg
            have HG3 := Lib.hid hg; clear hg HG2
            obtain rfl : ev = 0 := Classical.not_not.1 hv
            clear hv
            go_wp2_with fail
            (with_reducible refine (SC.out _ W3.out).mono ?_); rintro e w4 ⟨rfl, hb⟩
            have W4 := Lib.hid (b_next W3.out hb); clear hb y0 y1 y2 y3 y4
            by_cases hs : es ≠ 0
            · have e := STOP.out (by rw [HG3.out]; exact hs)
              rw [HG3.out] at e
              subst e
              have hv1 : (R != 0) = true := by simpa using hs
              have hv2 : (R == 0) = false := by simpa using hs
              clear hs
              go_wp2_with fail
              all_goals (go_ret; exact ⟨rfl, b_next WR.out W4.out⟩)
            · obtain rfl : es = 0 := Classical.not_not.1 hs
              have HN' := Lib.hid (GO.out HG3.out)
              have W5 := Lib.hid (b_next WR.out W4.out)
              clear hs
              go_wp2_with fail
              go_roundw
              case rel => exact ⟨k + 1, by omega, by go_num, HN'.out, W5.out⟩
              case measure => simp [intOf]; omega
    · have hkn : k = n := by omega
      have e : R = 0 := by rw [HR.out]; exact ferr_zero fun j hj => HN.out j (by omega)
      have HE := Lib.hid e; clear e HN hbl
      go_wp2_with fail
      go_ret
      exact ⟨by rw [HE.out]; rfl, WR.out⟩
theorem rvC {v : Value} {n : Nat} {D : Nat → Vd} {w : World} (hv : RV w v n D) : ∀ w1, Below w.heap.size w w1 →
    Calls Try.prog 89 #[v] w1 fun e w' => e = .returned (.int .i64 (rvck n D)) ∧ Below w1.heap.size w1 w' := fun w1 hb => by
  have h1 := rv_keep hb hv
  obtain ⟨A, cap, rfl, h2, h3⟩ := rv_slice hv
  by_cases h16 : 16 < n
  · have q := rv_big A n cap w1 h16 h2 (Nat.le_trans h3 (by decide))
    unfold rvck; rw [if_pos h16]; exact q
  · exact rv_w A n cap D w1 (by omega) h2 h3 (Lib.hid h1)
/-- What passes. -/
theorem rvck_ok {n : Nat} {D : Nat → Vd} (h : rvck n D = 0) : n ≤ 16 ∧ ∀ k, k < n → (∀ j, j < k → (D j).N ≠ (D k).N) ∧ pck (D k).n (D k).X (D k).Y = 0 ∧ (0 ≤ (D k).l ∧ (D k).h ≤ 60001 ∧ (D k).l < (D k).h) ∧ ckS (D k).m (D k).F (D k).T = 0 := by
  unfold rvck at h
  split at h
  · cases h
  · refine ⟨by omega, fun k hk => ?_⟩
    have e := ferr_inv h k hk
    unfold rverr at e
    split at e
    · cases e
    split at e
    · cases e
    split at e
    · rename_i q; exact absurd e q
    rename_i h1 h2 h3
    refine ⟨fun j hj he => h2 ?_, ?_, ?_, e⟩
    · have := fnd_neg (p := fun i => decide ((D i).N = (D k).N)) (n := k) (by
        rcases Int.lt_or_le (fnd (fun i => decide ((D i).N = (D k).N)) k) 0 with q | q
        · exact q
        · exact absurd q h2) j hj
      exact absurd he (of_decide_eq_false this)
    · have h3' := Classical.not_not.1 h3
      unfold vck at h3'
      split at h3'
      · rename_i q; exact absurd h3' q
      · rename_i q; exact Classical.not_not.1 q
    · have h3' := Classical.not_not.1 h3
      unfold vck at h3'
      split at h3'
      · rename_i q; exact absurd h3' q
      · split at h3'
        · cases h3'
        · omega
end Route
end Go.Proofs.Yteaccanhahmclaa
