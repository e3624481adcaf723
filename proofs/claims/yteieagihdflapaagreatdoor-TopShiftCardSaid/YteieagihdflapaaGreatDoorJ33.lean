/- Joined texts: RvC, ClsW, TubeP, TubeC, TubeS. -/
import Derived.Test.YteieagihdflapaaGreatDoorJ32
import Derived.Test.YteieagihdflapaaGreatDoorJ07
import Derived.Test.YteieagihdflapaaGreatDoorJ05
import Derived.Test.YteieagihdflapaaGreatDoorJ03
import Derived.Test.YteieagihdflapaaGreatDoorJ01
namespace Go.Proofs.YteieagihdflapaaGreatDoor
open Go.RowKit
namespace Route
open Kit Plane Poly Chart Vol
/-- Five cells of a block. -/
structure V5 (w : World) (b : Nat) (s : ByteArray) (a : Value) (l h : Int) (c : Value) : Prop where
  c0 : w.cell? ⟨b, 0, none⟩ = some (.string s)
  c1 : w.cell? ⟨b, 1, none⟩ = some a
  c2 : w.cell? ⟨b, 2, none⟩ = some (.int .i64 l)
  c3 : w.cell? ⟨b, 3, none⟩ = some (.int .i64 h)
  c4 : w.cell? ⟨b, 4, none⟩ = some c
theorem v5_keep {W w1 : World} (hb : Below W.heap.size W w1) {b : Nat} {s : ByteArray} {a c : Value} {l h : Int} (x : V5 W b s a l h c) : V5 w1 b s a l h c := ⟨keep hb x.c0, keep hb x.c1, keep hb x.c2, keep hb x.c3, keep hb x.c4⟩
theorem v5_new (w : World) (t : TypeId) (s : ByteArray) (a : Value) (l h : Int) (c : Value) : V5 (w.alloc (.cells #[.string s, a, .int .i64 l, .int .i64 h, c] t)) w.heap.size s a l h c := ⟨by simp, by simp, by simp, by simp, by simp⟩
/-- What is wrong with volume i. -/
def rverr (D : Nat → Vd) (i : Nat) : Int :=
  if Name.nameB (D i).N = false then 5 else if 0 ≤ fix (fun k => (D k).N) (D i).N i then 7 else if vck (pck (D i).n (D i).X (D i).Y) (D i).l (D i).h ≠ 0 then vck (pck (D i).n (D i).X (D i).Y) (D i).l (D i).h else ckS (D i).m (D i).F (D i).T
/-- route.CheckVolumes' error. -/
def rvck (n : Nat) (D : Nat → Vd) : Int := if 16 < n then 2 else ferr (rverr D) n
theorem rv_big (A : Option Addr) (n cap : Nat) (w : World) (h : 16 < n) (_hc : n ≤ cap) (_hm : cap ≤ 9223372036854775807) : Calls Tryz.prog 55 #[.slice A n cap] w fun e w' => e = .returned (.int .i64 2) ∧ Below w.heap.size w w' := by
  have h' : (16 : Int) < (n : Int) := by omega
  go_enter Tryz.func55, Tryz.ntmps55
  go_wp2_with fail
  all_goals first | (exfalso; omega) | (go_ret; exact ⟨rfl, Below.refl _ _⟩)
set_option maxRecDepth 100000 in
set_option maxHeartbeats 4000000 in
theorem rv_w (A : Option Addr) (n cap : Nat) (D : Nat → Vd) (w : World) (h16 : n ≤ 16) (_hc : n ≤ cap) (hcm : cap ≤ maxLen) (HV : Hid (RV w (.slice A n cap) n D)) :
    Calls Tryz.prog 55 #[.slice A n cap] w fun e w' => e = .returned (.int .i64 (rvck n D)) ∧ Below w.heap.size w w' := by
  have hm : cap ≤ 9223372036854775807 := Nat.le_trans hcm (by decide)
  have HCM := Lib.hid hcm; clear hcm
  have h16' : ¬ (16 : Int) < (n : Int) := by omega
  obtain ⟨R, hR⟩ : ∃ R, R = rvck n D := ⟨_, rfl⟩
  rw [← hR]
  unfold rvck at hR
  rw [if_neg (by omega)] at hR
  have HR := Lib.hid hR; clear hR
  have hmf : ∀ fn first cap w, (Instr.makeFunc fn first cap).run Tryz.prog w = .ok (.func fn first cap) w := fun _ _ _ _ => rfl
  go_enter Tryz.func55, Tryz.ntmps55
  go_wp2_with fail
  go_loopw [12] (fun s wr => ∃ k : Nat, k ≤ n ∧ s = .int .i64 k ∧ (∀ j, j < k → rverr D j = 0) ∧ Below w.heap.size w wr) (fun s _ => n - (intOf s).toNat)
  case atStart => exact ⟨0, Nat.zero_le _, rfl, fun j hj => absurd hj (Nat.not_lt_zero j), Below.refl _ _⟩
  case round =>
    obtain ⟨k, hk, rfl, hno, hbl⟩ := hrel
    have HN := Lib.hid hno; have WR := Lib.hid hbl; clear hno
    by_cases hlt : k < n
    · have hl : (k : Int) < (n : Int) := by omega
      have hk' : (k : Int) ≤ (n : Int) := by omega
      obtain ⟨b, off, c', e, hc1, hc2, h3⟩ := rv_at (rv_keep hbl HV.out) (by omega)
      injection e with e1 _ e3
      subst e1 e3
      obtain ⟨va, vc, c5, qa, qc⟩ := h3 k hlt
      have STOP : Hid (rverr D k ≠ 0 → R = rverr D k) := Lib.hid fun h => by rw [HR.out]; exact ferr_at HN.out h hlt
      have GO : Hid (rverr D k = 0 → ∀ j, j < k + 1 → rverr D j = 0) := Lib.hid fun h j hj => by
        rcases Nat.lt_or_ge j k with hl | hl
        · exact HN.out j hl
        · rw [show j = k from by omega]; exact h
      have HG : Hid (rverr D k = if Name.nameB (D k).N = false then 5 else if 0 ≤ fix (fun k => (D k).N) (D k).N k then 7 else if vck (pck (D k).n (D k).X (D k).Y) (D k).l (D k).h ≠ 0 then vck (pck (D k).n (D k).X (D k).Y) (D k).l (D k).h else ckS (D k).m (D k).F (D k).T) := Lib.hid rfl
      obtain ⟨A1, ca1, rfl, -⟩ := qv_slice qa
      obtain ⟨A2, ca2, rfl, -⟩ := qv_slice qc
      have VC := Lib.hid fun (w' : World) (hb : Below wr.heap.size wr w') => vcheck A1 (D k).n ca1 (pck (D k).n (D k).X (D k).Y) (D k).l (D k).h w' (Lib.hid (Poly.checkC (qv_keep hb qa)))
      have SC := Lib.hid fun (w' : World) (hb : Below wr.heap.size wr w') => spansC (qv_keep hb qc) w' (Below.refl _ _)
      have CC := Lib.hid fun (w' : World) (pb : Nat) (hb : Below wr.heap.size wr w') (hq : w'.cell? ⟨pb, 0, none⟩ = some (.string (D k).N)) => vcontC (rv_keep hb (rv_take h3 hc1 hc2 hk)) pb (D k).N hq
      have WA := Lib.hid (b_alloc (Below.refl wr.heap.size wr) (.cells #[.string (D k).N, .slice A1 (D k).n ca1, .int .i64 (D k).l, .int .i64 (D k).h, .slice A2 (D k).m ca2] 66))
      have NA := Lib.hid (v5_new wr 66 (D k).N (.slice A1 (D k).n ca1) (D k).l (D k).h (.slice A2 (D k).m ca2))
      have NM := Lib.hid (fun w' => Name.nameC (D k).N w')
      obtain ⟨x0, x1, x2, x3, x4⟩ := c5
      clear hbl h3 qa qc
      generalize fix (fun k => (D k).N) (D k).N k = fx at *
      generalize vck (pck (D k).n (D k).X (D k).Y) (D k).l (D k).h = ev at *
      generalize ckS (D k).m (D k).F (D k).T = es at *
      generalize Name.nameB (D k).N = nb at *
      generalize (D k).N = dN at *
      generalize (D k).l = dl at *
      generalize (D k).h = dh at *
      generalize (D k).n = dn at *
      generalize (D k).m = dm at *
      obtain ⟨bn, hbn⟩ : ∃ bn, bn = wr.heap.size := ⟨_, rfl⟩
      go_wp2_with fail
      rw [← hbn] at NA ⊢
      clear x0 x1 x2 x3 x4
      (with_reducible refine (NM.out _).mono ?_); rintro e w1 ⟨rfl, hb⟩
      have W1 := Lib.hid (b_next WA.out hb); have N1 := Lib.hid (v5_keep hb NA.out); clear hb NA WA hbn
      obtain ⟨y0, y1, y2, y3, y4⟩ := N1.out
      cases nb with
      | false =>
        have e := HG.out
        rw [if_pos rfl] at e
        have e := STOP.out (by rw [e]; decide)
        rw [HG.out, if_pos rfl] at e
        subst e
        go_wp2_with fail
        all_goals (go_ret; exact ⟨rfl, b_next WR.out W1.out⟩)
      | true =>
        have hg := HG.out
        rw [if_neg (by decide)] at hg
        have HG1 := Lib.hid hg; clear hg HG
        go_wp2_with fail
        (with_reducible refine (CC.out _ bn W1.out N1.out.c0).mono ?_); rintro e w2 ⟨rfl, hb⟩
        have W2 := Lib.hid (b_next W1.out hb); have N2 := Lib.hid (v5_keep hb N1.out); clear hb y0 y1 y2 y3 y4
        obtain ⟨y0, y1, y2, y3, y4⟩ := N2.out
        by_cases hf : 0 ≤ fx
        · have e := STOP.out (by rw [HG1.out, if_pos hf]; decide)
          rw [HG1.out, if_pos hf] at e
          subst e
          have hd := decide_eq_true hf
          go_wp2_with fail
          all_goals (go_ret; exact ⟨rfl, b_next WR.out W2.out⟩)
        · have hg := HG1.out
          rw [if_neg hf] at hg
          have HG2 := Lib.hid hg; clear hg HG1
          have hd := decide_eq_false hf
          go_wp2_with fail
          (with_reducible refine (VC.out _ W2.out).mono ?_); rintro e w3 ⟨rfl, hb⟩
          have W3 := Lib.hid (b_next W2.out hb); have N3 := Lib.hid (v5_keep hb N2.out); clear hb y0 y1 y2 y3 y4
          obtain ⟨y0, y1, y2, y3, y4⟩ := N3.out
          by_cases hv : ev ≠ 0
          · have e := STOP.out (by rw [HG2.out, if_pos hv]; exact hv)
            rw [HG2.out, if_pos hv] at e
            subst e
            have hv1 : (R != 0) = true := by simpa using hv
            have hv2 : (R == 0) = false := by simpa using hv
            clear hv
            go_wp2_with fail
            all_goals (go_ret; exact ⟨rfl, b_next WR.out W3.out⟩)
          · have hg := HG2.out
            rw [if_neg hv] at hg
            have HG3 := Lib.hid hg; clear hg HG2
            obtain rfl : ev = 0 := Classical.not_not.1 hv
            clear hv
            go_wp2_with fail
            (with_reducible refine (SC.out _ W3.out).mono ?_); rintro e w4 ⟨rfl, hb⟩
            have W4 := Lib.hid (b_next W3.out hb); clear hb y0 y1 y2 y3 y4
            by_cases hs : es ≠ 0
            · have e := STOP.out (by rw [HG3.out]; exact hs)
              rw [HG3.out] at e
              subst e
              have hv1 : (R != 0) = true := by simpa using hs
              have hv2 : (R == 0) = false := by simpa using hs
              clear hs
              go_wp2_with fail
              all_goals (go_ret; exact ⟨rfl, b_next WR.out W4.out⟩)
            · obtain rfl : es = 0 := Classical.not_not.1 hs
              have HN' := Lib.hid (GO.out HG3.out)
              have W5 := Lib.hid (b_next WR.out W4.out)
              clear hs
              go_wp2_with fail
              go_roundw
              case rel => exact ⟨k + 1, by omega, by go_num, HN'.out, W5.out⟩
              case measure => simp [intOf]; omega
    · have hkn : k = n := by omega
      have e : R = 0 := by rw [HR.out]; exact ferr_zero fun j hj => HN.out j (by omega)
      have HE := Lib.hid e; clear e HN hbl
      go_wp2_with fail
      go_ret
      exact ⟨by rw [HE.out]; rfl, WR.out⟩
theorem rvC {v : Value} {n : Nat} {D : Nat → Vd} {w : World} (hv : RV w v n D) : ∀ w1, Below w.heap.size w w1 →
    Calls Tryz.prog 55 #[v] w1 fun e w' => e = .returned (.int .i64 (rvck n D)) ∧ Below w1.heap.size w1 w' := fun w1 hb => by
  have h1 := rv_keep hb hv
  obtain ⟨A, cap, rfl, h2, h3⟩ := rv_slice hv
  by_cases h16 : 16 < n
  · have q := rv_big A n cap w1 h16 h2 (Nat.le_trans h3 (by decide))
    unfold rvck; rw [if_pos h16]; exact q
  · exact rv_w A n cap D w1 (by omega) h2 h3 (Lib.hid h1)
/-- What passes. -/
theorem rvck_ok {n : Nat} {D : Nat → Vd} (h : rvck n D = 0) : n ≤ 16 ∧ ∀ k, k < n → (∀ j, j < k → (D j).N ≠ (D k).N) ∧ pck (D k).n (D k).X (D k).Y = 0 ∧ (0 ≤ (D k).l ∧ (D k).h ≤ 60001 ∧ (D k).l < (D k).h) ∧ ckS (D k).m (D k).F (D k).T = 0 := by
  unfold rvck at h
  split at h
  · cases h
  · refine ⟨by omega, fun k hk => ?_⟩
    have e := ferr_inv h k hk
    unfold rverr at e
    split at e
    · cases e
    split at e
    · cases e
    split at e
    · rename_i q; exact absurd e q
    rename_i h1 h2 h3
    refine ⟨fun j hj he => h2 ?_, ?_, ?_, e⟩
    · have := fnd_neg (p := fun i => decide ((D i).N = (D k).N)) (n := k) (by
        rcases Int.lt_or_le (fnd (fun i => decide ((D i).N = (D k).N)) k) 0 with q | q
        · exact q
        · exact absurd q h2) j hj
      exact absurd he (of_decide_eq_false this)
    · have h3' := Classical.not_not.1 h3
      unfold vck at h3'
      split at h3'
      · rename_i q; exact absurd h3' q
      · rename_i q; exact Classical.not_not.1 q
    · have h3' := Classical.not_not.1 h3
      unfold vck at h3'
      split at h3'
      · rename_i q; exact absurd h3' q
      · split at h3'
        · cases h3'
        · omega
end Route
end Go.Proofs.YteieagihdflapaaGreatDoor
namespace Go.Proofs.YteieagihdflapaaGreatDoor
open Go.RowKit
namespace Cls
open Kit Plane Poly Chart Vol Route Path
/-- The segment of a time. -/
noncomputable def sg (T : Nat → Int) (n : Nat) (t : Int) : Nat := by
  classical
  exact if h : ∃ i, seg T n t i then Classical.choose h else 0
theorem seg_sg {T : Nat → Int} {n : Nat} {t : Int} (h0 : 0 < n) (h : T 0 ≤ t) : seg T n t (sg T n t) := by
  have hs := seg_ex h0 h
  unfold sg
  rw [dif_pos hs]
  exact Classical.choose_spec hs
section
variable (n : Nat) (T X Y H : Nat → Int)
noncomputable def px (t : Int) : Int := atx T X (sg T n t) t
noncomputable def py (t : Int) : Int := atx T Y (sg T n t) t
noncomputable def ph (t : Int) : Int := ath T H (sg T n t) t
/-- The position is in the volume, which is closed. -/
noncomputable def inV (d : Vd) (t : Int) : Bool := durB d.m d.F d.T t && decide (0 ≤ place d.n d.X d.Y (px n T X t) (py n T Y t) ∧ d.l ≤ ph n T H t ∧ ph n T H t < d.h)
end
theorem node_ok {n : Nat} {T X Y H : Nat → Int} {t : Int} (hp : pok T X Y H n) (h0 : T 0 ≤ t) (h1 : t ≤ T (n - 1)) : good (px n T X t) (py n T Y t) ∧ 0 ≤ ph n T H t ∧ ph n T H t ≤ 60000 := by
  have hn := hp.1
  obtain ⟨s1, s2, s3⟩ := seg_sg (T := T) (n := n) hn h0
  obtain ⟨-, -, hb, hi⟩ := hp
  unfold px py ph
  generalize sg T n t = i at *
  have bi := hb i s1
  rcases Nat.lt_or_ge (i + 1) n with hl | hl
  · have lt := s3 hl
    have bj := hb (i + 1) hl
    have tx := tw_bd (a := X i) (b := X (i + 1)) (n := t - T i) (d := T (i + 1) - T i) (by omega) (by omega) (by omega)
    have ty := tw_bd (a := Y i) (b := Y (i + 1)) (n := t - T i) (d := T (i + 1) - T i) (by omega) (by omega) (by omega)
    have th := quo_bd (d := H (i + 1) - H i) (n := t - T i) (N := T (i + 1) - T i) (by omega) (by omega) (by omega)
    have g1 := bi.2.2.1; have g2 := bj.2.2.1
    unfold good at g1 g2 ⊢
    unfold atx ath
    omega
  · have e : i = n - 1 := by omega
    have et : t = T i := by rw [e]; rw [e] at s2; omega
    rw [et, atx_at, atx_at, ath_at]
    exact ⟨bi.2.2.1, bi.2.2.2.1, bi.2.2.2.2⟩
theorem has_one {w : World} {v : Value} {n : Nat} {X Y : Nat → Int} {l h qx qy qh : Int} (hv : QV w v n X Y) (hp : pck n X Y = 0) (hb : 0 ≤ l ∧ h ≤ 60001 ∧ l < h) (g : good qx qy) (hh : 0 ≤ qh ∧ qh ≤ 60000) :
    Calls Tryz.prog 17 #[.agg #[v, .int .i64 l, .int .i64 h], .agg #[.int .i64 qx, .int .i64 qy], .int .i64 qh] w fun e w' => e = .returned (.tuple #[.bool (decide (0 ≤ place n X Y qx qy ∧ l ≤ qh ∧ qh < h)), .int .i64 0]) ∧ Below w.heap.size w w' := by
  have q := hasC hv l h qx qy qh
  have e : hasV (pck n X Y) l h qx qy qh (place n X Y qx qy) = (decide (0 ≤ place n X Y qx qy ∧ l ≤ qh ∧ qh < h), 0) := by
    have e0 : vck (pck n X Y) l h = 0 := by unfold vck; rw [if_neg (fun e => e hp), if_neg (by omega)]
    unfold hasV
    rw [if_neg (fun e => e e0), if_neg (by rw [goodB_iff.2 g]; decide), if_neg (by omega)]
  rw [e] at q; exact q
/-- What fly.Closed answers where path and volumes are permitted. -/
def ClR (n : Nat) (T X Y H : Nat → Int) (m : Nat) (D : Nat → Vd) (e : Ending) : Prop :=
  (e = .returned (.tuple #[.string ⟨#[]⟩, .int .i64 0, .int .i64 8]) ∧ ∀ t, T 0 ≤ t → t ≤ T (n - 1) → ∀ k, k < m → inV n T X Y H (D k) t = false) ∨
  ∃ (t : Int) (k : Nat), (T 0 ≤ t ∧ t ≤ T (n - 1)) ∧ k < m ∧ inV n T X Y H (D k) t = true ∧ (∀ t', T 0 ≤ t' → t' < t → ∀ k', k' < m → inV n T X Y H (D k') t' = false) ∧ e = .returned (.tuple #[.string (D k).N, .int .i64 t, .int .i64 0])
set_option maxRecDepth 100000 in
set_option maxHeartbeats 8000000 in
theorem closed_bad (v1 v2 : Value) (E : Int) (w : World) (hE1 : (E != 0) = true) (CK : Hid (∀ w1, Below w.heap.size w w1 → Calls Tryz.prog 54 #[v1] w1 fun e w' => e = .returned (.int .i64 E) ∧ Below w1.heap.size w1 w')) :
    Calls Tryz.prog 15 #[v1, v2] w fun e w' => e = .returned (.tuple #[.string ⟨#[]⟩, .int .i64 0, .int .i64 E]) ∧ Below w.heap.size w w' := by
  have hE0 : (E == 0) = false := by simpa using hE1
  go_enter Tryz.func15, Tryz.ntmps15
  go_wp2_with fail
  (with_reducible refine (CK.out _ (Below.refl _ _)).mono ?_); rintro e w1 ⟨rfl, hb⟩
  have W1 := Lib.hid hb; clear hb
  go_wp2_with fail
  refine bodyPost_ret (v := .tuple #[.string ⟨#[]⟩, .int .i64 0, .int .i64 E]) (by simp [results, Tryz.results15, go_sem]) rfl ⟨rfl, ?_⟩
  exact W1.out
set_option maxRecDepth 100000 in
set_option maxHeartbeats 8000000 in
theorem closed_bad2 (v1 v2 : Value) (E : Int) (w : World) (hE1 : (E != 0) = true) (CK : Hid (∀ w1, Below w.heap.size w w1 → Calls Tryz.prog 54 #[v1] w1 fun e w' => e = .returned (.int .i64 0) ∧ Below w1.heap.size w1 w')) (CV : Hid (∀ w1, Below w.heap.size w w1 → Calls Tryz.prog 55 #[v2] w1 fun e w' => e = .returned (.int .i64 E) ∧ Below w1.heap.size w1 w')) :
    Calls Tryz.prog 15 #[v1, v2] w fun e w' => e = .returned (.tuple #[.string ⟨#[]⟩, .int .i64 0, .int .i64 E]) ∧ Below w.heap.size w w' := by
  have hE0 : (E == 0) = false := by simpa using hE1
  go_enter Tryz.func15, Tryz.ntmps15
  go_wp2_with fail
  (with_reducible refine (CK.out _ (Below.refl _ _)).mono ?_); rintro e w1 ⟨rfl, hb⟩
  have W1 := Lib.hid hb; clear hb
  go_wp2_with fail
  (with_reducible refine (CV.out _ W1.out).mono ?_); rintro e w2 ⟨rfl, hb⟩
  have W2 := Lib.hid (b_next W1.out hb); clear hb
  go_wp2_with fail
  refine bodyPost_ret (v := .tuple #[.string ⟨#[]⟩, .int .i64 0, .int .i64 E]) (by simp [results, Tryz.results15, go_sem]) rfl ⟨rfl, ?_⟩
  exact W2.out
set_option maxRecDepth 100000 in
set_option maxHeartbeats 8000000 in
theorem closed_ok (b off n c : Nat) (B : Option Addr) (m d : Nat) (T X Y H : Nat → Int) (D : Nat → Vd) (w : World) (_hc1 : n ≤ c) (hc2 : c ≤ maxLen) (hm : m ≤ 16) (_hmd : m ≤ d) (hdm : d ≤ maxLen) (hn : 0 < n) (hn64 : n ≤ 64)
    (HP : Hid (pok T X Y H n)) (HF : Hid (PV w (.slice (some ⟨b, off, none⟩) n c) n T X Y H)) (HN : Hid (∀ k, k < n → N4 w b off k (T k) (X k) (Y k) (H k))) (HV : Hid (RV w (.slice B m d) m D))
    (HK : Hid (∀ k, k < m → pck (D k).n (D k).X (D k).Y = 0 ∧ (0 ≤ (D k).l ∧ (D k).h ≤ 60001 ∧ (D k).l < (D k).h) ∧ ckS (D k).m (D k).F (D k).T = 0))
    (CK : Hid (∀ w1, Below w.heap.size w w1 → Calls Tryz.prog 54 #[.slice (some ⟨b, off, none⟩) n c] w1 fun e w' => e = .returned (.int .i64 0) ∧ Below w1.heap.size w1 w')) (CV : Hid (∀ w1, Below w.heap.size w w1 → Calls Tryz.prog 55 #[.slice B m d] w1 fun e w' => e = .returned (.int .i64 0) ∧ Below w1.heap.size w1 w')) :
    Calls Tryz.prog 15 #[.slice (some ⟨b, off, none⟩) n c, .slice B m d] w fun e w' => ClR n T X Y H m D e ∧ Below w.heap.size w w' := by
  have hc9 : c ≤ 9223372036854775807 := Nat.le_trans hc2 (by decide)
  have hd9 : d ≤ 9223372036854775807 := Nat.le_trans hdm (by decide)
  obtain ⟨P, hP⟩ : ∃ P, P = n - 1 := ⟨_, rfl⟩
  have b0 := (HP.out.2.2.1 0 hn).1; have b1 := (HP.out.2.2.1 P (by omega)).2.1
  have hle := pok_le HP.out (Nat.zero_le P) (show P < n by omega)
  have N0 := Lib.hid ((HN.out 0 hn).1.1); have NP := Lib.hid ((HN.out P (by omega)).1.1)
  have hPn : (P : Int) < (n : Int) := by omega
  have hn0 : (0 : Int) < (n : Int) := by omega
  have hix : (n : Int) - 1 = (P : Int) := by omega
  have HIX := Lib.hid hix; clear hix
  have FIN : Hid (ClR n T X Y H m D = fun e => (e = .returned (.tuple #[.string ⟨#[]⟩, .int .i64 0, .int .i64 8]) ∧ ∀ t, T 0 ≤ t → t ≤ T P → ∀ k, k < m → inV n T X Y H (D k) t = false) ∨
    ∃ (t : Int) (k : Nat), (T 0 ≤ t ∧ t ≤ T P) ∧ k < m ∧ inV n T X Y H (D k) t = true ∧ (∀ t', T 0 ≤ t' → t' < t → ∀ k', k' < m → inV n T X Y H (D k') t' = false) ∧ e = .returned (.tuple #[.string (D k).N, .int .i64 t, .int .i64 0])) := Lib.hid (by rw [hP]; rfl)
  have ATC : Hid (∀ t, T 0 ≤ t → t ≤ T P → ∀ w1, Below w.heap.size w w1 → Calls Tryz.prog 56 #[.slice (some ⟨b, off, none⟩) n c, .int .i64 t] w1 fun e w' => e = .returned (.agg #[.int .i64 t, .int .i64 (px n T X t), .int .i64 (py n T Y t), .int .i64 (ph n T H t)]) ∧ Below w1.heap.size w1 w') := Lib.hid fun t h0 h1 w1 hb => atC_mk HF.out HP.out (seg_sg hn h0) (by rw [← hP]; exact h1) w1 hb
  have NOK : Hid (∀ t, T 0 ≤ t → t ≤ T P → good (px n T X t) (py n T Y t) ∧ 0 ≤ ph n T H t ∧ ph n T H t ≤ 60000) := Lib.hid fun t h0 h1 => node_ok HP.out h0 (by rw [← hP]; exact h1)
  obtain ⟨t0, ht0⟩ : ∃ t0, t0 = T 0 := ⟨_, rfl⟩
  obtain ⟨tl, htl⟩ : ∃ tl, tl = T P := ⟨_, rfl⟩
  rw [← ht0] at b0 hle N0 FIN ATC NOK
  rw [← htl] at b1 hle NP FIN ATC NOK
  clear ht0 htl hc2 hdm hP
  go_enter Tryz.func15, Tryz.ntmps15
  go_wp2_with fail
  (with_reducible refine (CK.out _ (Below.refl _ _)).mono ?_); rintro e w1 ⟨rfl, hb⟩
  have W1 := Lib.hid hb; clear hb
  go_wp2_with fail
  (with_reducible refine (CV.out _ W1.out).mono ?_); rintro e w2 ⟨rfl, hb⟩
  have W2 := Lib.hid (b_next W1.out hb); clear hb
  have n0 := keep W2.out N0.out
  rw [Nat.zero_mul, Nat.add_zero] at n0
  go_wp2_with fail
  clear n0
  go_loopw [9] (fun s wr => ∃ t : Int, t0 ≤ t ∧ t ≤ tl + 1 ∧ s = .int .i64 t ∧ (∀ t', t0 ≤ t' → t' < t → ∀ k', k' < m → inV n T X Y H (D k') t' = false) ∧ Below w.heap.size w wr) (fun s _ => (tl + 1 - intOf s).toNat)
  case atStart => exact ⟨t0, Int.le_refl _, by omega, rfl, fun t' h1 h2 => absurd h1 (by omega), W2.out⟩
  case round =>
    obtain ⟨t, hta, htb, rfl, hno, hbl⟩ := hrel
    have NO := Lib.hid hno; have WR := Lib.hid hbl; clear hno
    have np := keep hbl NP.out
    have hix := HIX.out
    by_cases hlt : t ≤ tl
    · have AC := Lib.hid (ATC.out t hta hlt wr hbl)
      have nok := NOK.out t hta hlt
      clear hbl
      go_wp2_with fail
      (with_reducible refine AC.out.mono ?_); rintro e w4 ⟨rfl, hb⟩
      have W4 := Lib.hid (b_next WR.out hb); clear hb np hix AC
      have BLK := Lib.hid (c4_new w4 56 t (px n T X t) (py n T Y t) (ph n T H t))
      have W5 := Lib.hid (b_alloc W4.out (.cells #[.int .i64 t, .int .i64 (px n T X t), .int .i64 (py n T Y t), .int .i64 (ph n T H t)] 56))
      have IVD : Hid (∀ k, inV n T X Y H (D k) t = (durB (D k).m (D k).F (D k).T t && decide (0 ≤ place (D k).n (D k).X (D k).Y (px n T X t) (py n T Y t) ∧ (D k).l ≤ ph n T H t ∧ ph n T H t < (D k).h))) := Lib.hid fun k => rfl
      generalize px n T X t = qx at *
      generalize py n T Y t = qy at *
      generalize ph n T H t = qh at *
      obtain ⟨bn, hbn⟩ : ∃ bn, bn = w4.heap.size := ⟨_, rfl⟩
      go_wp2_with fail
      rw [← hbn] at BLK ⊢
      clear hbn
      generalize w4.alloc (.cells #[.int .i64 t, .int .i64 qx, .int .i64 qy, .int .i64 qh] 56) = wb at *
      go_loopw [47] (fun s wi => ∃ k : Nat, k ≤ m ∧ s = .int .i64 k ∧ (∀ k', k' < k → inV n T X Y H (D k') t = false) ∧ Below wb.heap.size wb wi) (fun s _ => m - (intOf s).toNat)
      case atStart => exact ⟨0, Nat.zero_le _, rfl, fun k' h => absurd h (Nat.not_lt_zero k'), Below.refl _ _⟩
      case round =>
        obtain ⟨k, hk, rfl, hnk, hbl⟩ := hrel
        have NK := Lib.hid hnk; have BI := Lib.hid hbl; clear hnk
        have WI := Lib.hid (b_next W5.out hbl)
        by_cases hltk : k < m
        · have hl : (k : Int) < (m : Int) := by omega
          obtain ⟨vb, vo, c', e, hv1, hv2, h3⟩ := rv_at (rv_keep WI.out HV.out) (by omega)
          injection e with e1 _ e3
          subst e1 e3
          obtain ⟨va, vc, c5, qa, qc⟩ := h3 k hltk
          obtain ⟨A1, ca1, rfl, -⟩ := qv_slice qa
          obtain ⟨A2, ca2, rfl, -⟩ := qv_slice qc
          have WA := b_alloc (Below.refl wr.heap.size wr) (.cells #[.string (D k).N, .slice A1 (D k).n ca1, .int .i64 (D k).l, .int .i64 (D k).h, .slice A2 (D k).m ca2] 66)
          have NA := Lib.hid (v5_new wr 66 (D k).N (.slice A1 (D k).n ca1) (D k).l (D k).h (.slice A2 (D k).m ca2))
          have BA := Lib.hid (b_next hbl WA)
          have BK2 := Lib.hid (c4_keep (b_next hbl WA) BLK.out)
          have hkk := HK.out k hltk
          have DC := Lib.hid fun (w' : World) (hb : Below wr.heap.size wr w') => (by
            have q := durC (qv_keep hb qc) t
            rw [hkk.2.2] at q; exact q : Calls Tryz.prog 57 #[.slice A2 (D k).m ca2, .int .i64 t] w' fun e w'' => e = .returned (.tuple #[.bool (durB (D k).m (D k).F (D k).T t), .int .i64 0]) ∧ Below w'.heap.size w' w'')
          have HC := Lib.hid fun (w' : World) (hb : Below wr.heap.size wr w') => has_one (qv_keep hb qa) hkk.1 hkk.2.1 nok.1 nok.2
          have IV := Lib.hid (IVD.out k)
          have NEXT : Hid (inV n T X Y H (D k) t = false → ∀ k', k' < k + 1 → inV n T X Y H (D k') t = false) := Lib.hid fun h k' hk' => by
            rcases Nat.lt_or_ge k' k with hl | hl
            · exact NK.out k' hl
            · rw [show k' = k by omega]; exact h
          obtain ⟨x0, x1, x2, x3, x4⟩ := c5
          clear hbl h3 qa qc hkk
          obtain ⟨bq, hbq⟩ : ∃ bq, bq = wr.heap.size := ⟨_, rfl⟩
          have WAH := Lib.hid WA; clear WA
          go_wp2_with fail
          rw [← hbq] at NA ⊢
          clear x0 x1 x2 x3 x4 hbq
          obtain ⟨z0, z1, z2, z3, z4⟩ := NA.out
          go_wp2_with fail
          (with_reducible refine (DC.out _ WAH.out).mono ?_); rintro e w6 ⟨rfl, hb⟩
          have W6 := Lib.hid (b_next BA.out hb); have N6 := Lib.hid (v5_keep hb NA.out); have B6 := Lib.hid (c4_keep hb BK2.out); have A6 := Lib.hid (b_next WAH.out hb)
          clear hb z0 z1 z2 z3 z4
          cases hd : durB (D k).m (D k).F (D k).T t with
          | false =>
            have NX := Lib.hid (NEXT.out (by rw [IV.out, hd]; rfl))
            clear hd
            go_wp2_with fail
            go_roundw
            case rel => exact ⟨k + 1, by omega, by go_num, NX.out, W6.out⟩
            case measure => simp [intOf]; omega
          | true =>
            obtain ⟨z0, z1, z2, z3, z4⟩ := N6.out
            obtain ⟨⟨y0, y1⟩, y2, y3⟩ := B6.out
            have IV2 := Lib.hid (show inV n T X Y H (D k) t = decide (0 ≤ place (D k).n (D k).X (D k).Y qx qy ∧ (D k).l ≤ qh ∧ qh < (D k).h) by rw [IV.out, hd]; rfl)
            clear hd
            obtain ⟨BB, hBB⟩ : ∃ BB, BB = decide (0 ≤ place (D k).n (D k).X (D k).Y qx qy ∧ (D k).l ≤ qh ∧ qh < (D k).h) := ⟨_, rfl⟩
            rw [← hBB] at HC IV2
            clear hBB
            go_wp2_with fail
            (with_reducible refine (HC.out _ A6.out).mono ?_); rintro e w7 ⟨rfl, hb⟩
            have W7 := Lib.hid (b_next W6.out hb); have N7 := Lib.hid (v5_keep hb N6.out)
            clear hb z0 z1 z2 z3 z4 y0 y1 y2 y3
            cases BB with
            | false =>
              have NX := Lib.hid (NEXT.out IV2.out)
              go_wp2_with fail
              go_roundw
              case rel => exact ⟨k + 1, by omega, by go_num, NX.out, W7.out⟩
              case measure => simp [intOf]; omega
            | true =>
              have z0 := N7.out.c0
              go_wp2_with fail
              refine bodyPost_ret (v := .tuple #[.string (D k).N, .int .i64 t, .int .i64 0]) (by simp [results, Tryz.results15, go_sem]) rfl ⟨?_, b_next W5.out W7.out⟩
              rw [FIN.out]
              exact Or.inr ⟨t, k, ⟨hta, hlt⟩, hltk, IV2.out, NO.out, rfl⟩
        · have hkm : m = k := by omega
          subst hkm
          have NO2 : Hid (∀ t', t0 ≤ t' → t' < t + 1 → ∀ k', k' < m → inV n T X Y H (D k') t' = false) := Lib.hid fun t' h1 h2 k' hk' => by
            rcases Int.lt_or_le t' t with hl | hl
            · exact NO.out t' h1 hl k' hk'
            · rw [show t' = t by omega]; exact NK.out k' hk'
          have hlm : ¬ (m : Int) < (m : Int) := by omega
          clear hbl
          go_wp2_with fail
          go_roundw
          case rel => exact ⟨t + 1, by omega, by omega, rfl, NO2.out, WI.out⟩
          case measure => simp [intOf]; omega
    · clear hbl
      go_wp2_with fail
      refine bodyPost_ret (v := .tuple #[.string ⟨#[]⟩, .int .i64 0, .int .i64 8]) (by simp [results, Tryz.results15, go_sem]) rfl ⟨?_, WR.out⟩
      rw [FIN.out]
      exact Or.inl ⟨rfl, fun t' h1 h2 k' hk' => NO.out t' h1 (by omega) k' hk'⟩
end Cls
end Go.Proofs.YteieagihdflapaaGreatDoor
namespace Go.Proofs.YteieagihdflapaaGreatDoor
open Go.RowKit
namespace Tube
open Kit Plane
section
variable (T X Y H R B : Nat → Int)
/-- What tube.Check says of node i. -/
def terr (i : Nat) : Int := if T i < 0 ∨ 200000 < T i ∨ (0 < i ∧ T i ≤ T (i - 1)) then 12 else if ¬ good (X i) (Y i) then 4 else if H i < 0 ∨ 60000 < H i ∨ R i < 0 ∨ 1000000 < R i ∨ B i < 0 ∨ 60000 < B i then 4 else 0
def tchk : Nat → Int
  | 0 => 0
  | k + 1 => if tchk k ≠ 0 then tchk k else terr T X Y H R B k
/-- tube.Check's error. -/
def tck (n : Nat) : Int := if 64 < n then 2 else if n = 0 then 3 else tchk T X Y H R B n
/-- A tube that Check accepts. -/
structure tok (n : Nat) : Prop where
  pos : 0 < n
  small : n ≤ 64
  time : ∀ k, k < n → 0 ≤ T k ∧ T k ≤ 200000
  point : ∀ k, k < n → good (X k) (Y k)
  nums : ∀ k, k < n → (0 ≤ H k ∧ H k ≤ 60000) ∧ (0 ≤ R k ∧ R k ≤ 1000000) ∧ (0 ≤ B k ∧ B k ≤ 60000)
  rise : ∀ k, k + 1 < n → T k < T (k + 1)
variable {T X Y H R B}
theorem terr_ok {i : Nat} : terr T X Y H R B i = 0 ↔ (0 ≤ T i ∧ T i ≤ 200000 ∧ (0 < i → T (i - 1) < T i)) ∧ good (X i) (Y i) ∧ (0 ≤ H i ∧ H i ≤ 60000) ∧ (0 ≤ R i ∧ R i ≤ 1000000) ∧ (0 ≤ B i ∧ B i ≤ 60000) := by
  unfold terr
  constructor
  · intro h
    split at h
    · omega
    · rename_i h1
      split at h
      · omega
      · rename_i h2
        split at h
        · omega
        · rename_i h3
          refine ⟨⟨by omega, by omega, fun h => by omega⟩, Classical.not_not.1 h2, by omega, by omega, by omega⟩
  · rintro ⟨⟨a, b, c⟩, d, e, f, g⟩
    have hn : ¬ (T i < 0 ∨ 200000 < T i ∨ (0 < i ∧ T i ≤ T (i - 1))) := by
      intro h
      rcases h with h | h | ⟨h, h'⟩
      · omega
      · omega
      · have := c h; omega
    rw [if_neg hn, if_neg (fun h => h d), if_neg (by omega)]
theorem tchk_step {k : Nat} (h : tchk T X Y H R B k = 0) : tchk T X Y H R B (k + 1) = terr T X Y H R B k := by
  show (if tchk T X Y H R B k ≠ 0 then _ else _) = _
  rw [if_neg (fun e => e h)]
theorem tchk_stays {k : Nat} (h : tchk T X Y H R B k ≠ 0) : ∀ m, k ≤ m → tchk T X Y H R B m = tchk T X Y H R B k := by
  intro m
  induction m with
  | zero => intro hk; rw [show k = 0 from by omega]
  | succ m ih =>
    intro hk
    rcases Nat.lt_or_ge m k with hl | hl
    · rw [show m + 1 = k from by omega]
    · have e := ih hl
      show (if tchk T X Y H R B m ≠ 0 then _ else _) = _
      rw [if_pos (by rw [e]; exact h), e]
theorem tchk_zero : ∀ n, tchk T X Y H R B n = 0 ↔ ∀ k, k < n → terr T X Y H R B k = 0 := by
  intro n
  induction n with
  | zero => exact ⟨fun _ k hk => absurd hk (Nat.not_lt_zero _), fun _ => rfl⟩
  | succ n ih =>
    constructor
    · intro h
      have h0 : tchk T X Y H R B n = 0 := by
        by_cases h0 : tchk T X Y H R B n = 0
        · exact h0
        · rw [tchk_stays h0 (n + 1) (by omega)] at h; exact absurd h h0
      intro k hk
      rcases Nat.lt_or_ge k n with hl | hl
      · exact ih.1 h0 k hl
      · rw [show k = n from by omega, ← tchk_step h0]; exact h
    · intro h
      have h0 := ih.2 fun k hk => h k (by omega)
      rw [tchk_step h0]; exact h n (by omega)
theorem tck_zero (n : Nat) : tck T X Y H R B n = 0 ↔ tok T X Y H R B n := by
  unfold tck
  by_cases h1 : 64 < n
  · rw [if_pos h1]; exact ⟨fun h => by omega, fun h => by have := h.small; omega⟩
  · rw [if_neg h1]
    by_cases h2 : n = 0
    · rw [if_pos h2]; exact ⟨fun h => by omega, fun h => by have := h.pos; omega⟩
    · rw [if_neg h2, tchk_zero]
      constructor
      · intro h
        refine ⟨by omega, by omega, fun k hk => ?_, fun k hk => ?_, fun k hk => ?_, fun k hk => ?_⟩
        · have := terr_ok.1 (h k hk); exact ⟨this.1.1, this.1.2.1⟩
        · exact (terr_ok.1 (h k hk)).2.1
        · exact (terr_ok.1 (h k hk)).2.2
        · have := (terr_ok.1 (h (k + 1) hk)).1.2.2 (by omega); rw [show k + 1 - 1 = k from by omega] at this; exact this
      · intro h k hk
        refine terr_ok.2 ⟨⟨(h.time k hk).1, (h.time k hk).2, fun hp => ?_⟩, h.point k hk, h.nums k hk⟩
        have := h.rise (k - 1) (by omega); rw [show k - 1 + 1 = k from by omega] at this; exact this
theorem tstop {k n : Nat} {E : Int} (h0 : tchk T X Y H R B k = 0) (hk : k < n) (e : terr T X Y H R B k = E) (hE : E ≠ 0) : tchk T X Y H R B n = E := by
  have h1 := tchk_step h0
  rw [e] at h1
  rw [tchk_stays (by rw [h1]; exact hE) n (by omega), h1]
theorem terr_time {k : Nat} (h : T k < 0 ∨ 200000 < T k ∨ (0 < k ∧ T k ≤ T (k - 1))) : terr T X Y H R B k = 12 := if_pos h
theorem terr_point {k : Nat} (h : ¬ (T k < 0 ∨ 200000 < T k ∨ (0 < k ∧ T k ≤ T (k - 1)))) (g : ¬ good (X k) (Y k)) : terr T X Y H R B k = 4 := by unfold terr; rw [if_neg h, if_pos g]
theorem terr_nums {k : Nat} (h : ¬ (T k < 0 ∨ 200000 < T k ∨ (0 < k ∧ T k ≤ T (k - 1)))) (g : good (X k) (Y k)) (h' : H k < 0 ∨ 60000 < H k ∨ R k < 0 ∨ 1000000 < R k ∨ B k < 0 ∨ 60000 < B k) : terr T X Y H R B k = 4 := by unfold terr; rw [if_neg h, if_neg (fun e => e g), if_pos h']
theorem terr_none {k : Nat} (h : ¬ (T k < 0 ∨ 200000 < T k ∨ (0 < k ∧ T k ≤ T (k - 1)))) (g : good (X k) (Y k)) (h' : ¬ (H k < 0 ∨ 60000 < H k ∨ R k < 0 ∨ 1000000 < R k ∨ B k < 0 ∨ 60000 < B k)) : terr T X Y H R B k = 0 := by unfold terr; rw [if_neg h, if_neg (fun e => e g), if_neg h']
theorem tok_lt {n : Nat} (h : tok T X Y H R B n) : ∀ {i j : Nat}, i < j → j < n → T i < T j := by
  intro i j hij hj
  induction j with
  | zero => omega
  | succ j ih =>
    have := h.rise j hj
    rcases Nat.lt_or_ge i j with hl | hl
    · have := ih hl (by omega); omega
    · rw [show i = j from by omega]; exact this
theorem tok_le {n : Nat} (h : tok T X Y H R B n) {i j : Nat} (hij : i ≤ j) (hj : j < n) : T i ≤ T j := by
  rcases Nat.lt_or_ge i j with hl | hl
  · have := tok_lt h hl hj; omega
  · rw [show i = j from by omega]; exact Int.le_refl _
end
/-- Six cells from an address on. -/
abbrev S6 (w : World) (b o : Nat) (t x y h r d : Int) : Prop := (w.cell? ⟨b, o, none⟩ = some (.int .i64 t) ∧ w.cell? ⟨b, o + 1, none⟩ = some (.int .i64 x) ∧ w.cell? ⟨b, o + 2, none⟩ = some (.int .i64 y)) ∧ (w.cell? ⟨b, o + 3, none⟩ = some (.int .i64 h) ∧ w.cell? ⟨b, o + 4, none⟩ = some (.int .i64 r) ∧ w.cell? ⟨b, o + 5, none⟩ = some (.int .i64 d))
theorem s6_keep {W w1 : World} (hb : Below W.heap.size W w1) {b o : Nat} {t x y h r d : Int} (hn : S6 W b o t x y h r d) : S6 w1 b o t x y h r d := ⟨⟨keep hb hn.1.1, keep hb hn.1.2.1, keep hb hn.1.2.2⟩, ⟨keep hb hn.2.1, keep hb hn.2.2.1, keep hb hn.2.2.2⟩⟩
/-- A node in a block of its own. -/
abbrev D6 (w : World) (b : Nat) (t x y h r d : Int) : Prop := (w.cell? ⟨b, 0, none⟩ = some (.int .i64 t) ∧ w.cell? ⟨b, 1, none⟩ = some (.int .i64 x) ∧ w.cell? ⟨b, 2, none⟩ = some (.int .i64 y)) ∧ (w.cell? ⟨b, 3, none⟩ = some (.int .i64 h) ∧ w.cell? ⟨b, 4, none⟩ = some (.int .i64 r) ∧ w.cell? ⟨b, 5, none⟩ = some (.int .i64 d))
theorem d6_keep {W w1 : World} (hb : Below W.heap.size W w1) {b : Nat} {t x y h r d : Int} (hn : D6 W b t x y h r d) : D6 w1 b t x y h r d := ⟨⟨keep hb hn.1.1, keep hb hn.1.2.1, keep hb hn.1.2.2⟩, ⟨keep hb hn.2.1, keep hb hn.2.2.1, keep hb hn.2.2.2⟩⟩
theorem d6_new (w : World) (ty : TypeId) (t x y h r d : Int) : D6 (w.alloc (.cells #[.int .i64 t, .int .i64 x, .int .i64 y, .int .i64 h, .int .i64 r, .int .i64 d] ty)) w.heap.size t x y h r d := ⟨⟨by simp, by simp, by simp⟩, ⟨by simp, by simp, by simp⟩⟩
/-- A tube in memory: nil, empty, or n nodes from an address on. -/
def TV (w : World) (v : Value) (n : Nat) (T X Y H R B : Nat → Int) : Prop :=
  (n = 0 ∧ (v = .slice none 0 0 ∨ ∃ a cap, v = .slice (some a) 0 cap ∧ cap ≤ maxLen)) ∨ (0 < n ∧ ∃ b off cap, v = .slice (some ⟨b, off, none⟩) n cap ∧ n ≤ cap ∧ cap ≤ maxLen ∧ ∀ k, k < n → S6 w b (off + k * 6) (T k) (X k) (Y k) (H k) (R k) (B k))
theorem tv_keep {W w1 : World} (hb : Below W.heap.size W w1) {v : Value} {n : Nat} {T X Y H R B : Nat → Int} (h : TV W v n T X Y H R B) : TV w1 v n T X Y H R B := by
  rcases h with h | ⟨h0, b, off, cap, hv, h1, h2, h3⟩
  · exact Or.inl h
  · exact Or.inr ⟨h0, b, off, cap, hv, h1, h2, fun k hk => s6_keep hb (h3 k hk)⟩
theorem tv_slice {w : World} {v : Value} {n : Nat} {T X Y H R B : Nat → Int} (h : TV w v n T X Y H R B) : ∃ A cap, v = .slice A n cap ∧ n ≤ cap ∧ cap ≤ maxLen := by
  rcases h with ⟨h0, rfl | ⟨a, cap, rfl, hc⟩⟩ | ⟨h0, b, off, cap, rfl, h1, h2, h3⟩
  · exact ⟨none, 0, by rw [h0], by omega, by decide⟩
  · exact ⟨some a, cap, by rw [h0], by omega, hc⟩
  · exact ⟨_, cap, rfl, h1, h2⟩
theorem tv_of {W : World} {v : Value} (h : Frame.Okc W (.sl [.int, .int, .int, .int, .int, .int]) v) : ∃ n T X Y H R B, TV W v n T X Y H R B := by
  rcases h.sl_inv with rfl | ⟨a, cap, rfl, hc⟩ | ⟨b, off, len, cap, cells, rfl, h0, h1, h2, hc, ho⟩
  · exact ⟨0, fun _ => 0, fun _ => 0, fun _ => 0, fun _ => 0, fun _ => 0, fun _ => 0, Or.inl ⟨rfl, Or.inl rfl⟩⟩
  · exact ⟨0, fun _ => 0, fun _ => 0, fun _ => 0, fun _ => 0, fun _ => 0, fun _ => 0, Or.inl ⟨rfl, Or.inr ⟨a, cap, rfl, hc⟩⟩⟩
  · have z : ∀ i, i < len → ∀ j (hj : j < 6), ∃ n : Int, cells i j = .int .i64 n := fun i hi j hj => by
      have hk := ho i hi j hj
      have hj' : j = 0 ∨ j = 1 ∨ j = 2 ∨ j = 3 ∨ j = 4 ∨ j = 5 := by omega
      rcases hj' with rfl | rfl | rfl | rfl | rfl | rfl <;> (obtain ⟨n, e, _⟩ := hk.int_inv; exact ⟨n, e⟩)
    let g : Nat → Nat → Int := fun i j => match cells i j with | .int _ n => n | _ => 0
    have hg : ∀ i, i < len → ∀ j, j < 6 → W.cell? ⟨b, off + i * 6 + j, none⟩ = some (.int .i64 (g i j)) := fun i hi j hj => by
      obtain ⟨n, e⟩ := z i hi j hj
      have hcc := hc i hi j hj
      show W.cell? _ = some (.int .i64 (match cells i j with | .int _ n => n | _ => 0))
      rw [e] at hcc ⊢
      exact hcc
    exact ⟨len, fun i => g i 0, fun i => g i 1, fun i => g i 2, fun i => g i 3, fun i => g i 4, fun i => g i 5, Or.inr ⟨h0, b, off, cap, rfl, h1, h2, fun k hk => ⟨⟨hg k hk 0 (by decide), hg k hk 1 (by decide), hg k hk 2 (by decide)⟩, ⟨hg k hk 3 (by decide), hg k hk 4 (by decide), hg k hk 5 (by decide)⟩⟩⟩⟩
end Tube
end Go.Proofs.YteieagihdflapaaGreatDoor
namespace Go.Proofs.YteieagihdflapaaGreatDoor
open Go.RowKit
namespace Tube
open Kit Plane
set_option maxHeartbeats 600000 in
theorem check_big (A : Option Addr) (n cap : Nat) (w : World) (hn : 64 < n) (_hc : n ≤ cap) (_hm : cap ≤ 9223372036854775807) : Calls Tryz.prog 32 #[.slice A n cap] w fun e w' => e = .returned (.int .i64 2) ∧ w = w' := by
  go_enter Tryz.func32, Tryz.ntmps32
  go_wp2
  go_ret
  exact ⟨rfl, rfl⟩
set_option maxHeartbeats 600000 in
theorem check_none (A : Option Addr) (cap : Nat) (w : World) : Calls Tryz.prog 32 #[.slice A 0 cap] w fun e w' => e = .returned (.int .i64 3) ∧ w = w' := by
  go_enter Tryz.func32, Tryz.ntmps32
  go_wp2
  go_ret
  exact ⟨rfl, rfl⟩
set_option maxRecDepth 100000 in
set_option maxHeartbeats 4000000 in
theorem check_nodes (n cap b off : Nat) (T X Y H R B : Nat → Int) (w : World) (h0 : 0 < n) (hn : n ≤ 64) (hc : n ≤ cap) (hm : cap ≤ 9223372036854775807) (HV : Hid (∀ k, k < n → S6 w b (off + k * 6) (T k) (X k) (Y k) (H k) (R k) (B k))) :
    Calls Tryz.prog 32 #[.slice (some ⟨b, off, none⟩) n cap] w fun e w' => e = .returned (.int .i64 (tchk T X Y H R B n)) ∧ Below w.heap.size w w' := by
  go_enter Tryz.func32, Tryz.ntmps32
  have hz : ((n : Int) == 0) = false := by simp; omega
  go_wp2
  go_loopw [16] (fun i wr => ∃ k : Nat, k ≤ n ∧ tchk T X Y H R B k = 0 ∧ i = .int .i64 k ∧ Below w.heap.size w wr) (fun i _ => n - (intOf i).toNat)
  case atStart => exact ⟨0, Nat.zero_le _, rfl, rfl, Below.refl _ _⟩
  case round =>
    obtain ⟨k, hk, hg, rfl, hbl⟩ := hrel
    have HG := Lib.hid hg; clear hg
    by_cases hlt : k < n
    · obtain ⟨⟨c0, c1, c2⟩, c3, c4, c5⟩ := s6_keep hbl (HV.out k hlt)
      have hl0 : (k : Int) < (n : Int) := by omega
      by_cases hk0 : 0 < (k : Int)
      · have hpv := s6_keep hbl (HV.out (k - 1) (by omega))
        have hwk : IntKind.i64.wrap ((k : Int) - 1) = ((k - 1 : Nat) : Int) := by rw [IntWalk.i64_in _ (by omega)]; omega
        have hwl : ((k - 1 : Nat) : Int) < (n : Int) := by omega
        by_cases a1 : T k < 0
        · have d1 := decide_eq_true a1
          have HF := Lib.hid (tstop (n := n) HG.out hlt (terr_time (Or.inl a1)) (by omega))
          have hn6 := d6_new wr 74 (T k) (X k) (Y k) (H k) (R k) (B k)
          have hp6 := s6_keep (b_alloc (Below.refl _ wr) (.cells #[.int .i64 (T k), .int .i64 (X k), .int .i64 (Y k), .int .i64 (H k), .int .i64 (R k), .int .i64 (B k)] 74)) hpv
          have HN6 := Lib.hid hn6; clear hn6
          have HP6 := Lib.hid hp6; clear hp6
          go_wp2_with fail
          have hn6 := HN6.out; have hp6 := HP6.out
          refine d_region (by kernel_rfl) (by kernel_rfl) ?_
          repeat
            first
              | (refine d_plain (by with_reducible rfl) ?_; apply Exists.intro; refine ⟨fun wq hc hq => ?_, ?_⟩)
              | (refine d_on (by with_reducible rfl) (by rfl) (by with_reducible rfl) ?_; apply Exists.intro; refine ⟨fun wq hc hq => ?_, ?_⟩)
              | (refine d_off (by with_reducible rfl) (by rfl) (by rfl) ?_)
              | (refine d_void (by with_reducible rfl) (by rfl) ?_)
            try any_goals
              (have q0 := d6_keep (cls hq) hn6; have q1 := s6_keep (cls hq) hp6; clear hc
               go_simp
               first
                 | rfl)
            simp only [Act.put, List.setIfInBounds_toArray, List.set_cons_zero, List.set_cons_succ]
          refine d_nil ?_
          intro w1 hb1
          go_wp2_with fail
          go_ret
          exact ⟨ret1 (HF.out).symm, b_next (b_alloc hbl _) hb1⟩
        · have d1 := decide_eq_false a1
          by_cases a2 : 200000 < T k
          · have d2 := decide_eq_true a2
            have HF := Lib.hid (tstop (n := n) HG.out hlt (terr_time (Or.inr (Or.inl a2))) (by omega))
            have hn6 := d6_new wr 74 (T k) (X k) (Y k) (H k) (R k) (B k)
            have hp6 := s6_keep (b_alloc (Below.refl _ wr) (.cells #[.int .i64 (T k), .int .i64 (X k), .int .i64 (Y k), .int .i64 (H k), .int .i64 (R k), .int .i64 (B k)] 74)) hpv
            have HN6 := Lib.hid hn6; clear hn6
            have HP6 := Lib.hid hp6; clear hp6
            go_wp2_with fail
            have hn6 := HN6.out; have hp6 := HP6.out
            refine d_region (by kernel_rfl) (by kernel_rfl) ?_
            repeat
              first
                | (refine d_plain (by with_reducible rfl) ?_; apply Exists.intro; refine ⟨fun wq hc hq => ?_, ?_⟩)
                | (refine d_on (by with_reducible rfl) (by rfl) (by with_reducible rfl) ?_; apply Exists.intro; refine ⟨fun wq hc hq => ?_, ?_⟩)
                | (refine d_off (by with_reducible rfl) (by rfl) (by rfl) ?_)
                | (refine d_void (by with_reducible rfl) (by rfl) ?_)
              try any_goals
                (have q0 := d6_keep (cls hq) hn6; have q1 := s6_keep (cls hq) hp6; clear hc
                 go_simp
                 first
                   | rfl)
              simp only [Act.put, List.setIfInBounds_toArray, List.set_cons_zero, List.set_cons_succ]
            refine d_nil ?_
            intro w1 hb1
            go_wp2_with fail
            go_ret
            exact ⟨ret1 (HF.out).symm, b_next (b_alloc hbl _) hb1⟩
          · have d2 := decide_eq_false a2
            have d0 := decide_eq_true hk0; have d0n : decide (0 < k) = true := decide_eq_true (by omega)
            by_cases a3 : T k ≤ T (k - 1)
            · have d3 := decide_eq_true a3
              have HF := Lib.hid (tstop (n := n) HG.out hlt (terr_time (Or.inr (Or.inr ⟨by omega, a3⟩))) (by omega))
              have hn6 := d6_new wr 74 (T k) (X k) (Y k) (H k) (R k) (B k)
              have hp6 := s6_keep (b_alloc (Below.refl _ wr) (.cells #[.int .i64 (T k), .int .i64 (X k), .int .i64 (Y k), .int .i64 (H k), .int .i64 (R k), .int .i64 (B k)] 74)) hpv
              have HN6 := Lib.hid hn6; clear hn6
              have HP6 := Lib.hid hp6; clear hp6
              go_wp2_with fail
              have hn6 := HN6.out; have hp6 := HP6.out
              refine d_region (by kernel_rfl) (by kernel_rfl) ?_
              repeat
                first
                  | (refine d_plain (by with_reducible rfl) ?_; apply Exists.intro; refine ⟨fun wq hc hq => ?_, ?_⟩)
                  | (refine d_on (by with_reducible rfl) (by rfl) (by with_reducible rfl) ?_; apply Exists.intro; refine ⟨fun wq hc hq => ?_, ?_⟩)
                  | (refine d_off (by with_reducible rfl) (by rfl) (by rfl) ?_)
                  | (refine d_void (by with_reducible rfl) (by rfl) ?_)
                try any_goals
                  (have q0 := d6_keep (cls hq) hn6; have q1 := s6_keep (cls hq) hp6; clear hc
                   go_simp
                   first
                     | rfl)
                simp only [Act.put, List.setIfInBounds_toArray, List.set_cons_zero, List.set_cons_succ]
              refine d_nil ?_
              intro w1 hb1
              go_wp2_with fail
              go_ret
              exact ⟨ret1 (HF.out).symm, b_next (b_alloc hbl _) hb1⟩
            · have d3 := decide_eq_false a3
              have hn6 := d6_new wr 74 (T k) (X k) (Y k) (H k) (R k) (B k)
              have hp6 := s6_keep (b_alloc (Below.refl _ wr) (.cells #[.int .i64 (T k), .int .i64 (X k), .int .i64 (Y k), .int .i64 (H k), .int .i64 (R k), .int .i64 (B k)] 74)) hpv
              have HN6 := Lib.hid hn6; clear hn6
              have HP6 := Lib.hid hp6; clear hp6
              cases hg : goodB (X k) (Y k) with
              | false =>
                have gb : ¬ good (X k) (Y k) := fun e => by rw [goodB_iff.2 e] at hg; cases hg
                have HF := Lib.hid (tstop (n := n) HG.out hlt (terr_point (by intro h; rcases h with h | h | ⟨h, h'⟩ <;> omega) gb) (by omega))
                have C : Hid (Chk (X k) (Y k) 4) := fun w => by have c := check (X k) (Y k) w; rw [chk_bad gb] at c; exact c
                clear gb hg
                go_wp2_with fail
                have hn6 := HN6.out; have hp6 := HP6.out
                refine d_region (by kernel_rfl) (by kernel_rfl) ?_
                repeat
                  first
                    | (refine d_plain (by with_reducible rfl) ?_; apply Exists.intro; refine ⟨fun wq hc hq => ?_, ?_⟩)
                    | (refine d_on (by with_reducible rfl) (by rfl) (by with_reducible rfl) ?_; apply Exists.intro; refine ⟨fun wq hc hq => ?_, ?_⟩)
                    | (refine d_off (by with_reducible rfl) (by rfl) (by rfl) ?_)
                    | (refine d_void (by with_reducible rfl) (by rfl) ?_)
                  try any_goals
                    (have q0 := d6_keep (cls hq) hn6; have q1 := s6_keep (cls hq) hp6; clear hc
                     go_simp
                     first
                       | rfl)
                  simp only [Act.put, List.setIfInBounds_toArray, List.set_cons_zero, List.set_cons_succ]
                refine d_nil ?_
                intro w1 hb1
                replace hn6 := d6_keep hb1 hn6
                go_wp2_with fail
                refine (C.out _).mono ?_; rintro e w2 ⟨rfl, hb2⟩
                replace hn6 := d6_keep hb2 hn6
                go_wp2_with fail
                go_ret
                exact ⟨ret1 (HF.out).symm, b_next (b_next (b_alloc hbl _) hb1) hb2⟩
              | true =>
                have ga : good (X k) (Y k) := goodB_iff.1 hg
                have C : Hid (Chk (X k) (Y k) 0) := fun w => by have c := check (X k) (Y k) w; rw [chk_ok ga] at c; exact c
                have GA := Lib.hid ga
                clear hg ga
                by_cases b1 : H k < 0 ∨ 60000 < H k ∨ R k < 0 ∨ 1000000 < R k ∨ B k < 0 ∨ 60000 < B k
                · have HF := Lib.hid (tstop (n := n) HG.out hlt (terr_nums (by intro h; rcases h with h | h | ⟨h, h'⟩ <;> omega) GA.out b1) (by omega))
                  go_wp2_with fail
                  have hn6 := HN6.out; have hp6 := HP6.out
                  refine d_region (by kernel_rfl) (by kernel_rfl) ?_
                  repeat
                    first
                      | (refine d_plain (by with_reducible rfl) ?_; apply Exists.intro; refine ⟨fun wq hc hq => ?_, ?_⟩)
                      | (refine d_on (by with_reducible rfl) (by rfl) (by with_reducible rfl) ?_; apply Exists.intro; refine ⟨fun wq hc hq => ?_, ?_⟩)
                      | (refine d_off (by with_reducible rfl) (by rfl) (by rfl) ?_)
                      | (refine d_void (by with_reducible rfl) (by rfl) ?_)
                    try any_goals
                      (have q0 := d6_keep (cls hq) hn6; have q1 := s6_keep (cls hq) hp6; clear hc
                       go_simp
                       first
                         | rfl)
                    simp only [Act.put, List.setIfInBounds_toArray, List.set_cons_zero, List.set_cons_succ]
                  refine d_nil ?_
                  intro w1 hb1
                  replace hn6 := d6_keep hb1 hn6
                  go_wp2_with fail
                  refine (C.out _).mono ?_; rintro e w2 ⟨rfl, hb2⟩
                  replace hn6 := d6_keep hb2 hn6
                  go_wp2_with fail
                  all_goals first | (exfalso; omega) | (go_ret; exact ⟨ret1 (HF.out).symm, b_next (b_next (b_alloc hbl _) hb1) hb2⟩)
                · have HO := Lib.hid ((tchk_step HG.out).trans (terr_none (by intro h; rcases h with h | h | ⟨h, h'⟩ <;> omega) GA.out b1))
                  have v1 : 0 ≤ H k ∧ H k ≤ 60000 ∧ 0 ≤ R k ∧ R k ≤ 1000000 ∧ 0 ≤ B k ∧ B k ≤ 60000 := by omega
                  obtain ⟨v1, v2, v3, v4, v5, v6⟩ := v1
                  clear b1
                  go_wp2_with fail
                  have hn6 := HN6.out; have hp6 := HP6.out
                  refine d_region (by kernel_rfl) (by kernel_rfl) ?_
                  repeat
                    first
                      | (refine d_plain (by with_reducible rfl) ?_; apply Exists.intro; refine ⟨fun wq hc hq => ?_, ?_⟩)
                      | (refine d_on (by with_reducible rfl) (by rfl) (by with_reducible rfl) ?_; apply Exists.intro; refine ⟨fun wq hc hq => ?_, ?_⟩)
                      | (refine d_off (by with_reducible rfl) (by rfl) (by rfl) ?_)
                      | (refine d_void (by with_reducible rfl) (by rfl) ?_)
                    try any_goals
                      (have q0 := d6_keep (cls hq) hn6; have q1 := s6_keep (cls hq) hp6; clear hc
                       go_simp
                       first
                         | rfl)
                    simp only [Act.put, List.setIfInBounds_toArray, List.set_cons_zero, List.set_cons_succ]
                  refine d_nil ?_
                  intro w1 hb1
                  replace hn6 := d6_keep hb1 hn6
                  go_wp2_with fail
                  refine (C.out _).mono ?_; rintro e w2 ⟨rfl, hb2⟩
                  replace hn6 := d6_keep hb2 hn6
                  go_wp2_with fail
                  go_roundw
                  case rel => first | exact ⟨k + 1, by omega, HO.out, by go_num, b_next (b_next (b_alloc hbl _) hb1) hb2⟩ | ((repeat apply Exists.intro); exact ⟨⟨k + 1, by omega, HO.out, by go_num, b_next (b_next (b_alloc hbl _) hb1) hb2⟩, rfl⟩)
                  case measure => simp [intOf]; omega
      · by_cases a1 : T k < 0
        · have d1 := decide_eq_true a1
          have HF := Lib.hid (tstop (n := n) HG.out hlt (terr_time (Or.inl a1)) (by omega))
          have hn6 := d6_new wr 74 (T k) (X k) (Y k) (H k) (R k) (B k)
          have HN6 := Lib.hid hn6; clear hn6
          go_wp2_with fail
          have hn6 := HN6.out
          refine d_region (by kernel_rfl) (by kernel_rfl) ?_
          repeat
            first
              | (refine d_plain (by with_reducible rfl) ?_; apply Exists.intro; refine ⟨fun wq hc hq => ?_, ?_⟩)
              | (refine d_on (by with_reducible rfl) (by rfl) (by with_reducible rfl) ?_; apply Exists.intro; refine ⟨fun wq hc hq => ?_, ?_⟩)
              | (refine d_off (by with_reducible rfl) (by rfl) (by rfl) ?_)
              | (refine d_void (by with_reducible rfl) (by rfl) ?_)
            try any_goals
              (have q0 := d6_keep (cls hq) hn6; clear hc
               go_simp
               first
                 | rfl)
            simp only [Act.put, List.setIfInBounds_toArray, List.set_cons_zero, List.set_cons_succ]
          refine d_nil ?_
          intro w1 hb1
          go_wp2_with fail
          go_ret
          exact ⟨ret1 (HF.out).symm, b_next (b_alloc hbl _) hb1⟩
        · have d1 := decide_eq_false a1
          by_cases a2 : 200000 < T k
          · have d2 := decide_eq_true a2
            have HF := Lib.hid (tstop (n := n) HG.out hlt (terr_time (Or.inr (Or.inl a2))) (by omega))
            have hn6 := d6_new wr 74 (T k) (X k) (Y k) (H k) (R k) (B k)
            have HN6 := Lib.hid hn6; clear hn6
            go_wp2_with fail
            have hn6 := HN6.out
            refine d_region (by kernel_rfl) (by kernel_rfl) ?_
            repeat
              first
                | (refine d_plain (by with_reducible rfl) ?_; apply Exists.intro; refine ⟨fun wq hc hq => ?_, ?_⟩)
                | (refine d_on (by with_reducible rfl) (by rfl) (by with_reducible rfl) ?_; apply Exists.intro; refine ⟨fun wq hc hq => ?_, ?_⟩)
                | (refine d_off (by with_reducible rfl) (by rfl) (by rfl) ?_)
                | (refine d_void (by with_reducible rfl) (by rfl) ?_)
              try any_goals
                (have q0 := d6_keep (cls hq) hn6; clear hc
                 go_simp
                 first
                   | rfl)
              simp only [Act.put, List.setIfInBounds_toArray, List.set_cons_zero, List.set_cons_succ]
            refine d_nil ?_
            intro w1 hb1
            go_wp2_with fail
            go_ret
            exact ⟨ret1 (HF.out).symm, b_next (b_alloc hbl _) hb1⟩
          · have d2 := decide_eq_false a2
            have d0 := decide_eq_false hk0; have d0n : decide (0 < k) = false := decide_eq_false (by omega)
            have hn6 := d6_new wr 74 (T k) (X k) (Y k) (H k) (R k) (B k)
            have HN6 := Lib.hid hn6; clear hn6
            cases hg : goodB (X k) (Y k) with
            | false =>
              have gb : ¬ good (X k) (Y k) := fun e => by rw [goodB_iff.2 e] at hg; cases hg
              have HF := Lib.hid (tstop (n := n) HG.out hlt (terr_point (by intro h; rcases h with h | h | ⟨h, h'⟩ <;> omega) gb) (by omega))
              have C : Hid (Chk (X k) (Y k) 4) := fun w => by have c := check (X k) (Y k) w; rw [chk_bad gb] at c; exact c
              clear gb hg
              go_wp2_with fail
              have hn6 := HN6.out
              refine d_region (by kernel_rfl) (by kernel_rfl) ?_
              repeat
                first
                  | (refine d_plain (by with_reducible rfl) ?_; apply Exists.intro; refine ⟨fun wq hc hq => ?_, ?_⟩)
                  | (refine d_on (by with_reducible rfl) (by rfl) (by with_reducible rfl) ?_; apply Exists.intro; refine ⟨fun wq hc hq => ?_, ?_⟩)
                  | (refine d_off (by with_reducible rfl) (by rfl) (by rfl) ?_)
                  | (refine d_void (by with_reducible rfl) (by rfl) ?_)
                try any_goals
                  (have q0 := d6_keep (cls hq) hn6; clear hc
                   go_simp
                   first
                     | rfl)
                simp only [Act.put, List.setIfInBounds_toArray, List.set_cons_zero, List.set_cons_succ]
              refine d_nil ?_
              intro w1 hb1
              replace hn6 := d6_keep hb1 hn6
              go_wp2_with fail
              refine (C.out _).mono ?_; rintro e w2 ⟨rfl, hb2⟩
              replace hn6 := d6_keep hb2 hn6
              go_wp2_with fail
              go_ret
              exact ⟨ret1 (HF.out).symm, b_next (b_next (b_alloc hbl _) hb1) hb2⟩
            | true =>
              have ga : good (X k) (Y k) := goodB_iff.1 hg
              have C : Hid (Chk (X k) (Y k) 0) := fun w => by have c := check (X k) (Y k) w; rw [chk_ok ga] at c; exact c
              have GA := Lib.hid ga
              clear hg ga
              by_cases b1 : H k < 0 ∨ 60000 < H k ∨ R k < 0 ∨ 1000000 < R k ∨ B k < 0 ∨ 60000 < B k
              · have HF := Lib.hid (tstop (n := n) HG.out hlt (terr_nums (by intro h; rcases h with h | h | ⟨h, h'⟩ <;> omega) GA.out b1) (by omega))
                go_wp2_with fail
                have hn6 := HN6.out
                refine d_region (by kernel_rfl) (by kernel_rfl) ?_
                repeat
                  first
                    | (refine d_plain (by with_reducible rfl) ?_; apply Exists.intro; refine ⟨fun wq hc hq => ?_, ?_⟩)
                    | (refine d_on (by with_reducible rfl) (by rfl) (by with_reducible rfl) ?_; apply Exists.intro; refine ⟨fun wq hc hq => ?_, ?_⟩)
                    | (refine d_off (by with_reducible rfl) (by rfl) (by rfl) ?_)
                    | (refine d_void (by with_reducible rfl) (by rfl) ?_)
                  try any_goals
                    (have q0 := d6_keep (cls hq) hn6; clear hc
                     go_simp
                     first
                       | rfl)
                  simp only [Act.put, List.setIfInBounds_toArray, List.set_cons_zero, List.set_cons_succ]
                refine d_nil ?_
                intro w1 hb1
                replace hn6 := d6_keep hb1 hn6
                go_wp2_with fail
                refine (C.out _).mono ?_; rintro e w2 ⟨rfl, hb2⟩
                replace hn6 := d6_keep hb2 hn6
                go_wp2_with fail
                all_goals first | (exfalso; omega) | (go_ret; exact ⟨ret1 (HF.out).symm, b_next (b_next (b_alloc hbl _) hb1) hb2⟩)
              · have HO := Lib.hid ((tchk_step HG.out).trans (terr_none (by intro h; rcases h with h | h | ⟨h, h'⟩ <;> omega) GA.out b1))
                have v1 : 0 ≤ H k ∧ H k ≤ 60000 ∧ 0 ≤ R k ∧ R k ≤ 1000000 ∧ 0 ≤ B k ∧ B k ≤ 60000 := by omega
                obtain ⟨v1, v2, v3, v4, v5, v6⟩ := v1
                clear b1
                go_wp2_with fail
                have hn6 := HN6.out
                refine d_region (by kernel_rfl) (by kernel_rfl) ?_
                repeat
                  first
                    | (refine d_plain (by with_reducible rfl) ?_; apply Exists.intro; refine ⟨fun wq hc hq => ?_, ?_⟩)
                    | (refine d_on (by with_reducible rfl) (by rfl) (by with_reducible rfl) ?_; apply Exists.intro; refine ⟨fun wq hc hq => ?_, ?_⟩)
                    | (refine d_off (by with_reducible rfl) (by rfl) (by rfl) ?_)
                    | (refine d_void (by with_reducible rfl) (by rfl) ?_)
                  try any_goals
                    (have q0 := d6_keep (cls hq) hn6; clear hc
                     go_simp
                     first
                       | rfl)
                  simp only [Act.put, List.setIfInBounds_toArray, List.set_cons_zero, List.set_cons_succ]
                refine d_nil ?_
                intro w1 hb1
                replace hn6 := d6_keep hb1 hn6
                go_wp2_with fail
                refine (C.out _).mono ?_; rintro e w2 ⟨rfl, hb2⟩
                replace hn6 := d6_keep hb2 hn6
                go_wp2_with fail
                go_roundw
                case rel => first | exact ⟨k + 1, by omega, HO.out, by go_num, b_next (b_next (b_alloc hbl _) hb1) hb2⟩ | ((repeat apply Exists.intro); exact ⟨⟨k + 1, by omega, HO.out, by go_num, b_next (b_next (b_alloc hbl _) hb1) hb2⟩, rfl⟩)
                case measure => simp [intOf]; omega
    · have he : k = n := by omega
      have HE := Lib.hid he; clear he
      go_wp2_with fail
      go_ret
      exact ⟨ret1 (by rw [← HE.out, HG.out]), hbl⟩
abbrev CkC (v : Value) (E : Int) (w : World) : Prop := ∀ w1 : World, Below w.heap.size w w1 → Calls Tryz.prog 32 #[v] w1 fun e w' => e = .returned (.int .i64 E) ∧ Below w1.heap.size w1 w'
theorem checkC {v : Value} {n : Nat} {T X Y H R B : Nat → Int} {w : World} (hv : TV w v n T X Y H R B) : CkC v (tck T X Y H R B n) w := fun w1 hb => by
  obtain ⟨A, cap, e, hc, hm⟩ := tv_slice hv
  have hm' : cap ≤ 9223372036854775807 := Nat.le_trans hm (by decide)
  by_cases h64 : 64 < n
  · subst e
    have e : tck T X Y H R B n = 2 := if_pos h64
    rw [e]
    exact (check_big A n cap w1 h64 hc hm').mono fun e w' ⟨he, hw⟩ => ⟨he, hw ▸ Below.refl _ _⟩
  · by_cases h0 : n = 0
    · subst h0
      subst e
      have e : tck T X Y H R B 0 = 3 := rfl
      rw [e]
      exact (check_none A cap w1).mono fun e w' ⟨he, hw⟩ => ⟨he, hw ▸ Below.refl _ _⟩
    · have e1 : tck T X Y H R B n = tchk T X Y H R B n := by unfold tck; rw [if_neg h64, if_neg h0]
      rw [e1]
      rcases tv_keep hb hv with ⟨h0', -⟩ | ⟨h0', b, off, cap', rfl, h1, h2, h3⟩
      · omega
      · exact check_nodes n cap' b off T X Y H R B w1 h0' (by omega) h1 (Nat.le_trans h2 (by decide)) (Lib.hid h3)
end Tube
end Go.Proofs.YteieagihdflapaaGreatDoor
namespace Go.Proofs.YteieagihdflapaaGreatDoor
open Go.RowKit
namespace Tube
open Kit Plane
set_option maxHeartbeats 600000 in
theorem cmp (t x y h r d u : Int) (w : World) (ht : 0 ≤ t ∧ t ≤ 200000) (hu : -200000 ≤ u ∧ u ≤ 400000) :
    Calls Tryz.prog 85 #[.agg #[.int .i64 t, .int .i64 x, .int .i64 y, .int .i64 h, .int .i64 r, .int .i64 d], .int .i64 u] w fun e w' => e = .returned (.int .i64 (t - u)) ∧ Below w.heap.size w w' := by
  go_enter Tryz.func85, Tryz.ntmps85
  go_wp2_with fail
  go_ret
  exact ⟨ret1 rfl, b_alloc (Below.refl _ _) _⟩
set_option maxRecDepth 100000 in
set_option maxHeartbeats 2000000 in
theorem search_yes (n cap b off : Nat) (T X Y H R B : Nat → Int) (t : Int) (i : Nat) (w : World) (hi : i < n) (hn : n ≤ 64) (hc : n ≤ cap) (hm : cap ≤ 9223372036854775807) (HV : Hid (∀ k, k < n → S6 w b (off + k * 6) (T k) (X k) (Y k) (H k) (R k) (B k)))
    (HL : Hid (∀ k, k < i → T k < t)) (HR : Hid (∀ k, i ≤ k → k < n → t ≤ T k)) (HT : Hid (∀ k, k < n → 0 ≤ T k ∧ T k ≤ 200000)) (ht : -200000 ≤ t ∧ t ≤ 400000) (hf : T i = t) :
    Calls Tryz.prog 84 #[.slice (some ⟨b, off, none⟩) n cap, .int .i64 t, .func (.func 85) #[] #[]] w fun e w' => e = .returned (.tuple #[.int .i64 i, .bool true]) ∧ Below w.heap.size w w' := by
  have HFF := Lib.hid hf; clear hf
  go_enter Tryz.func84, Tryz.ntmps84
  go_wp2_with fail
  go_loopw [9, 10] (fun s u wr => ∃ lo hi : Nat, lo ≤ i ∧ i ≤ hi ∧ hi ≤ n ∧ s = .int .i64 lo ∧ u = .int .i64 hi ∧ Below w.heap.size w wr) (fun s u _ => (intOf u).toNat - (intOf s).toNat)
  case atStart => exact ⟨0, n, Nat.zero_le _, by omega, Nat.le_refl _, rfl, rfl, Below.refl _ _⟩
  case round =>
    obtain ⟨lo, hh, h1, h2, h3, rfl, rfl, hbl⟩ := hrel
    by_cases hlt : lo < hh
    · have hl : (lo : Int) < (hh : Int) := by omega
      obtain ⟨md, hmd⟩ : ∃ md, md = (lo + hh) / 2 := ⟨_, rfl⟩
      have hm1 : lo ≤ md ∧ md < hh := by omega
      obtain ⟨c0, c1⟩ := s6_keep hbl (HV.out md (by omega))
      have tb := HT.out md (by omega)
      have hmn : (md : Int) < (n : Int) := by omega
      have hmx : ((lo : Int) + (hh : Int)) / 2 = (md : Int) := by omega
      have HMD := Lib.hid hmd; clear hmd
      go_wp2_with fail
      refine (cmp _ _ _ _ _ _ _ _ tb ht).mono ?_; rintro e w1 ⟨rfl, h⟩
      have hb1 := b_next hbl h; clear h
      by_cases hcm : T md < t
      · have hmi : md < i := by
          rcases Nat.lt_or_ge md i with h | h
          · exact h
          · have := HR.out md h (by omega); omega
        have d1 : T md - t < 0 := by omega
        go_wp2_with fail
        go_roundw
        case rel => first | exact ⟨md + 1, hh, by omega, h2, h3, by go_num, rfl, hb1⟩ | ((repeat apply Exists.intro); exact ⟨⟨md + 1, hh, by omega, h2, h3, by go_num, rfl, hb1⟩, rfl⟩)
        case measure => simp [intOf]; omega
      · have hmi : i ≤ md := by
          rcases Nat.lt_or_ge md i with h | h
          · have := HL.out md h; omega
          · exact h
        have d1 : ¬ T md - t < 0 := by omega
        go_wp2_with fail
        go_roundw
        case rel => first | exact ⟨lo, md, h1, hmi, by omega, rfl, by go_num, hb1⟩ | ((repeat apply Exists.intro); exact ⟨⟨lo, md, h1, hmi, by omega, rfl, by go_num, hb1⟩, rfl⟩)
        case measure => simp [intOf]; omega
    · have e1 : lo = i := by omega
      subst e1
      obtain ⟨c0, c1⟩ := s6_keep hbl (HV.out lo hi)
      have tb := HT.out lo hi
      have hl : ¬ (lo : Int) < (hh : Int) := by omega
      have hln : (lo : Int) < (n : Int) := by omega
      go_wp2_with fail
      refine (cmp _ _ _ _ _ _ _ _ tb ht).mono ?_; rintro e w1 ⟨rfl, h⟩
      have hb1 := b_next hbl h; clear h
      have hf := HFF.out
      have hz : (T lo - t == 0) = true := by simp; omega
      go_wp2_with fail
      go_ret2
      exact ⟨by first | rfl | simp, hb1⟩
set_option maxRecDepth 100000 in
set_option maxHeartbeats 2000000 in
theorem search_no (n cap b off : Nat) (T X Y H R B : Nat → Int) (t : Int) (i : Nat) (w : World) (hi : i < n) (hn : n ≤ 64) (hc : n ≤ cap) (hm : cap ≤ 9223372036854775807) (HV : Hid (∀ k, k < n → S6 w b (off + k * 6) (T k) (X k) (Y k) (H k) (R k) (B k)))
    (HL : Hid (∀ k, k < i → T k < t)) (HR : Hid (∀ k, i ≤ k → k < n → t ≤ T k)) (HT : Hid (∀ k, k < n → 0 ≤ T k ∧ T k ≤ 200000)) (ht : -200000 ≤ t ∧ t ≤ 400000) (hf : ¬ T i = t) :
    Calls Tryz.prog 84 #[.slice (some ⟨b, off, none⟩) n cap, .int .i64 t, .func (.func 85) #[] #[]] w fun e w' => e = .returned (.tuple #[.int .i64 i, .bool false]) ∧ Below w.heap.size w w' := by
  have HFF := Lib.hid hf; clear hf
  go_enter Tryz.func84, Tryz.ntmps84
  go_wp2_with fail
  go_loopw [9, 10] (fun s u wr => ∃ lo hi : Nat, lo ≤ i ∧ i ≤ hi ∧ hi ≤ n ∧ s = .int .i64 lo ∧ u = .int .i64 hi ∧ Below w.heap.size w wr) (fun s u _ => (intOf u).toNat - (intOf s).toNat)
  case atStart => exact ⟨0, n, Nat.zero_le _, by omega, Nat.le_refl _, rfl, rfl, Below.refl _ _⟩
  case round =>
    obtain ⟨lo, hh, h1, h2, h3, rfl, rfl, hbl⟩ := hrel
    by_cases hlt : lo < hh
    · have hl : (lo : Int) < (hh : Int) := by omega
      obtain ⟨md, hmd⟩ : ∃ md, md = (lo + hh) / 2 := ⟨_, rfl⟩
      have hm1 : lo ≤ md ∧ md < hh := by omega
      obtain ⟨c0, c1⟩ := s6_keep hbl (HV.out md (by omega))
      have tb := HT.out md (by omega)
      have hmn : (md : Int) < (n : Int) := by omega
      have hmx : ((lo : Int) + (hh : Int)) / 2 = (md : Int) := by omega
      have HMD := Lib.hid hmd; clear hmd
      go_wp2_with fail
      refine (cmp _ _ _ _ _ _ _ _ tb ht).mono ?_; rintro e w1 ⟨rfl, h⟩
      have hb1 := b_next hbl h; clear h
      by_cases hcm : T md < t
      · have hmi : md < i := by
          rcases Nat.lt_or_ge md i with h | h
          · exact h
          · have := HR.out md h (by omega); omega
        have d1 : T md - t < 0 := by omega
        go_wp2_with fail
        go_roundw
        case rel => first | exact ⟨md + 1, hh, by omega, h2, h3, by go_num, rfl, hb1⟩ | ((repeat apply Exists.intro); exact ⟨⟨md + 1, hh, by omega, h2, h3, by go_num, rfl, hb1⟩, rfl⟩)
        case measure => simp [intOf]; omega
      · have hmi : i ≤ md := by
          rcases Nat.lt_or_ge md i with h | h
          · have := HL.out md h; omega
          · exact h
        have d1 : ¬ T md - t < 0 := by omega
        go_wp2_with fail
        go_roundw
        case rel => first | exact ⟨lo, md, h1, hmi, by omega, rfl, by go_num, hb1⟩ | ((repeat apply Exists.intro); exact ⟨⟨lo, md, h1, hmi, by omega, rfl, by go_num, hb1⟩, rfl⟩)
        case measure => simp [intOf]; omega
    · have e1 : lo = i := by omega
      subst e1
      obtain ⟨c0, c1⟩ := s6_keep hbl (HV.out lo hi)
      have tb := HT.out lo hi
      have hl : ¬ (lo : Int) < (hh : Int) := by omega
      have hln : (lo : Int) < (n : Int) := by omega
      go_wp2_with fail
      refine (cmp _ _ _ _ _ _ _ _ tb ht).mono ?_; rintro e w1 ⟨rfl, h⟩
      have hb1 := b_next hbl h; clear h
      have hf := HFF.out
      have hz : (T lo - t == 0) = false := by simp; omega
      go_wp2_with fail
      go_ret2
      exact ⟨by first | rfl | simp, hb1⟩
end Tube
end Go.Proofs.YteieagihdflapaaGreatDoor
