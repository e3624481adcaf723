/- Joined texts: FlyC, ExpA, ExpB, ExpP, RowG. -/
import Derived.Test.YtmkglhoahdlogaaGreatDoorFlyW
import Derived.Test.YtmkglhoahdlogaaGreatDoorJ26
import Derived.Test.YtmkglhoahdlogaaGreatDoorJ09
import Derived.Test.YtmkglhoahdlogaaGreatDoorJ08
import Derived.Laws.AppendOwnNone
import Derived.Lib.AppendZeros
import Derived.Test.YtmkglhoahdlogaaGreatDoorJ01
import Derived.Laws.OwnMore
import Derived.Deep.AppendLies
import Derived.Maps.AppendAt
import Derived.WideShapes
import Derived.Lib.SliceRun
namespace Go.Proofs.YtmkglhoahdlogaaGreatDoor
open Go.RowKit
namespace Fly
open Kit Plane Chart Num Path Ang Wind Route
/-- The direction of a vector, in 4096ths of a circle. -/
noncomputable def dirV (x y : Int) : Int := by
  classical
  exact if h : ∃ r, OfV x y r then Classical.choose h else 0
theorem dirV_of {x y : Int} (h : ¬ (x = 0 ∧ y = 0)) : OfV x y (dirV x y) := by
  have hs := ofv_some h
  unfold dirV
  rw [dif_pos hs]
  exact Classical.choose_spec hs
theorem du_one {a b : Int} (ha : 0 ≤ a) (hb : 0 < b) : 0 ≤ du a b ∧ du a b ≤ a := by
  have h := Num.du_ok (a := a) (b := b) (by omega) (by omega)
  have e1 := Int.mul_ediv_add_emod a b
  have e2 := Int.emod_nonneg a (show b ≠ 0 by omega)
  have e3 := Int.emod_lt_of_pos a hb
  have e4 : a.tmod b = a % b := Int.tmod_eq_emod_of_nonneg ha
  have e5 : 0 ≤ a / b := Int.ediv_nonneg ha (by omega)
  rw [h, e4, Num.fd_pos hb]
  have e6 : a / b ≤ b * (a / b) := by
    have := Int.mul_le_mul_of_nonneg_right (show 1 ≤ b by omega) e5
    omega
  split
  · exact ⟨e5, by omega⟩
  · exact ⟨by omega, by omega⟩
theorem du_ge {a b : Int} (ha : 1 ≤ a) (hb : 0 < b) : 1 ≤ du a b := by
  have h := Num.du_ok (a := a) (b := b) (by omega) (by omega)
  have e1 := Int.mul_ediv_add_emod a b
  have e4 : a.tmod b = a % b := Int.tmod_eq_emod_of_nonneg (by omega)
  have e5 : 0 ≤ a / b := Int.ediv_nonneg (by omega) (by omega)
  rw [h, e4, Num.fd_pos hb]
  split
  · rename_i hz
    rcases Int.lt_or_le 0 (a / b) with hl | hl
    · exact hl
    · have : a / b = 0 := by omega
      rw [hz, this] at e1; omega
  · omega
section
variable (sp h : Int) (m : Nat) (L H WX WY WE : Nat → Int) (X Y : Nat → Int)
/-- How long leg i takes at most, and at least. -/
noncomputable def lgD (i : Nat) : Int := du (dup (sqr (X (i - 1)) (Y (i - 1)) (X i) (Y i))) (glo sp (dirV (X i - X (i - 1)) (Y i - Y (i - 1))) (wX L H WX m h) (wX L H WY m h) (wX L H WE m h))
noncomputable def lgF (i : Nat) : Int := root (sqr (X (i - 1)) (Y (i - 1)) (X i) (Y i)) / ghi sp (dirV (X i - X (i - 1)) (Y i - Y (i - 1))) (wX L H WX m h) (wX L H WY m h) (wX L H WE m h)
/-- The slow durations, where there is a leg. -/
noncomputable def lgs (n : Nat) (i : Nat) : Int := if 0 < i ∧ i < n then lgD sp h m L H WX WY WE X Y i else 0
end
theorem fck_zero {n : Nat} {X Y : Nat → Int} {E1 E2 E3 E4 sp h ceil slow fast : Int} (e : fck n X Y E1 E2 E3 E4 sp h ceil slow fast = 0) :
    (2 ≤ n ∧ n ≤ 62) ∧ E1 = 0 ∧ E2 = 0 ∧ E3 = 0 ∧ h ≤ ceil ∧ E4 = 0 ∧ ∀ j, 0 < j → j < n → ¬ (X j = X (j - 1) ∧ Y j = Y (j - 1)) := by
  unfold fck at e
  split at e
  · cases e
  split at e
  · cases e
  rename_i a1 a2
  split at e
  · exact absurd e (by assumption)
  rename_i a3
  split at e
  · exact absurd e (by assumption)
  rename_i a4
  split at e
  · exact absurd e (by assumption)
  rename_i a5
  split at e
  · cases e
  rename_i a6
  split at e
  · cases e
  split at e
  · exact absurd e (by assumption)
  rename_i a7 a8
  refine ⟨⟨by omega, by omega⟩, Classical.not_not.1 a3, Classical.not_not.1 a4, Classical.not_not.1 a5, by omega, Classical.not_not.1 a8, fun j h0 hj hz => ?_⟩
  have := ferr_inv e j hj
  unfold zat at this
  rw [if_pos ⟨h0, hz.1, hz.2⟩] at this
  cases this
theorem kchk_zero {s : ByteArray} {wake ceil climb desc slow fast : Int} (h : Kind.kchk s wake ceil climb desc slow fast = 0) : (1 ≤ ceil ∧ ceil ≤ 60000) ∧ (1 ≤ climb ∧ climb ≤ 200) ∧ 1 ≤ desc ∧ desc ≤ 200 := by
  unfold Kind.kchk at h
  split at h
  · cases h
  split at h
  · cases h
  split at h
  · cases h
  rename_i a
  unfold Kind.outB at a
  simp only [decide_eq_true_eq] at a
  omega
theorem plan_zero {cl kd f t : ByteArray} {off sp h : Int} {nr : Nat} {RT : Nat → ByteArray} (e : Plan.planE cl kd f t off sp h nr RT = 0) : (0 ≤ off ∧ off ≤ 200000) ∧ (1 ≤ sp ∧ sp ≤ 400) ∧ 1 ≤ h ∧ h ≤ 60000 := by
  unfold Plan.planE at e
  split at e
  · cases e
  split at e
  · cases e
  split at e
  · cases e
  omega
section
variable {n : Nat} {N : Nat → ByteArray} {X Y : Nat → Int} {cl kd fr t ks : ByteArray} {off sp h kw ceil climb desc slow fast : Int} {nr : Nat} {RT : Nat → ByteArray} {m : Nat} {L H WX WY WE : Nat → Int}
/-- fly.check's error. -/
def pthE (n : Nat) (X Y : Nat → Int) (cl kd fr t ks : ByteArray) (off sp h kw ceil climb desc slow fast : Int) (nr : Nat) (RT : Nat → ByteArray) (m : Nat) (L H WX WY WE : Nat → Int) : Int :=
  fck n X Y (rlen n X Y).2 (Plan.planE cl kd fr t off sp h nr RT) (Kind.kchk ks kw ceil climb desc slow fast) (wck L H WX WY WE m) sp h ceil slow fast
theorem checkPC {fx r wv : Value} {w : World} (hf : FV w fx n N X Y) (hr : SV w r nr RT) (hw : WV w wv m L H WX WY WE) : ∀ w1, Below w.heap.size w w1 →
    Calls Tryz.prog 55 #[fx, Plan.plan cl kd fr t off sp h r, .agg #[.string ks, .int .i64 kw, .int .i64 ceil, .int .i64 climb, .int .i64 desc, .int .i64 slow, .int .i64 fast], wv] w1 fun e w' => e = .returned (.int .i64 (pthE n X Y cl kd fr t ks off sp h kw ceil climb desc slow fast nr RT m L H WX WY WE)) ∧ Below w1.heap.size w1 w' := fun w1 hb => by
  have RL := fun w2 hb2 => rlenC (fv_keep hb hf) w2 hb2
  have PC := fun w2 hb2 => Plan.checkC (c := cl) (k := kd) (f := fr) (t := t) (off := off) (sp := sp) (h := h) (sv_keep hb hr) w2 hb2
  have KC := fun w2 (_ : Below w1.heap.size w1 w2) => Kind.kindC ks kw ceil climb desc slow fast w2
  have WC := fun w2 hb2 => Wind.checkC (wv_keep hb hw) w2 hb2
  have hf1 := fv_keep hb hf
  obtain ⟨A, c, rfl⟩ := fv_slice hf
  obtain ⟨A2, c2, rfl⟩ := sv_slice hr
  obtain ⟨A3, c3, rfl⟩ := wv_slice hw
  exact check_w cl kd fr t ks off sp h kw ceil climb desc slow fast A2 A3 nr c2 m c3 A n c N X Y _ _ _ _ _ _ w1 (Lib.hid rfl) (Lib.hid hf1) (Lib.hid RL) (Lib.hid PC) (Lib.hid KC) (Lib.hid WC)
/-- A leg of a flight. -/
theorem legPC {wv : Value} {w : World} (T : Tabs w) (hw : WV w wv m L H WX WY WE) (he : pthE n X Y cl kd fr t ks off sp h kw ceil climb desc slow fast nr RT m L H WX WY WE = 0) {i : Nat} (h1 : 1 ≤ i) (hi : i < n) : ∀ w1, Below w.heap.size w w1 →
    Calls Tryz.prog 56 #[wv, .int .i64 sp, .int .i64 h, .agg #[.int .i64 (X (i - 1)), .int .i64 (Y (i - 1))], .agg #[.int .i64 (X i), .int .i64 (Y i)]] w1 fun e w' => e = .returned (.tuple #[.int .i64 (lgF sp h m L H WX WY WE X Y i), .int .i64 (lgs sp h m L H WX WY WE X Y n i), .int .i64 0]) ∧ Below w1.heap.size w1 w' := fun w1 hb => by
  obtain ⟨hn, e1, e2, e3, hce, e4, hz⟩ := fck_zero he
  have g1 : rck n X Y = 0 := by
    unfold rlen at e1
    split at e1
    · exact absurd e1 (by assumption)
    · rename_i q; exact Classical.not_not.1 q
  obtain ⟨-, hg⟩ := rck_ok g1
  have hp := plan_zero e2
  have ne := hz i (by omega) hi
  have hle : legE L H WX WY WE m sp h (X (i - 1)) (Y (i - 1)) (X i) (Y i) = 0 := by
    unfold legE
    rw [if_neg (fun q => q e4), if_neg (by omega), chk_ok (hg (i - 1) (by omega)), if_neg (by decide), chk_ok (hg i hi)]
  have q := legC_ok (tabs_keep hb T) (wv_keep hb hw) hle ne (dirV_of (by omega))
  unfold lgs
  rw [if_pos ⟨by omega, hi⟩]
  exact q
theorem lgs_bd (he : pthE n X Y cl kd fr t ks off sp h kw ceil climb desc slow fast nr RT m L H WX WY WE = 0) : ∀ i, i < n → 0 ≤ lgs sp h m L H WX WY WE X Y n i ∧ lgs sp h m L H WX WY WE X Y n i ≤ 3000000 := fun i hi => by
  obtain ⟨hn, e1, e2, e3, hce, e4, hz⟩ := fck_zero he
  have g1 : rck n X Y = 0 := by
    unfold rlen at e1
    split at e1
    · exact absurd e1 (by assumption)
    · rename_i q; exact Classical.not_not.1 q
  obtain ⟨-, hg⟩ := rck_ok g1
  have hp := plan_zero e2
  unfold lgs
  by_cases h0 : 0 < i ∧ i < n
  · rw [if_pos h0]
    unfold lgD
    have hw := band_ok e4 (fi L H h m)
    obtain ⟨-, bX, bY, bE⟩ := w1_ok hw
    have gbd := ground_bds (hd := dirV (X i - X (i - 1)) (Y i - Y (i - 1))) hp.2.1 bX bY bE
    have hsq := sqr_near (hg (i - 1) (by omega)) (hg i hi)
    have hd := dup_le (sqr_nonneg (X (i - 1)) (Y (i - 1)) (X i) (Y i)) hsq
    have hd0 := dup_spec (sqr_nonneg (X (i - 1)) (Y (i - 1)) (X i) (Y i))
    have hd1 := du_one (a := dup (sqr (X (i - 1)) (Y (i - 1)) (X i) (Y i))) (b := glo sp (dirV (X i - X (i - 1)) (Y i - Y (i - 1))) (wX L H WX m h) (wX L H WY m h) (wX L H WE m h)) hd0.1 (by unfold wX; omega)
    exact ⟨hd1.1, by omega⟩
  · rw [if_neg h0]; omega
/-- What fly.Path answers, and where. -/
def PthR (n : Nat) (X Y : Nat → Int) (off h ceil climb desc : Int) (D : Nat → Int) (E : Int) (e : Ending) (w' : World) : Prop :=
  (E ≠ 0 ∧ e = .returned (.tuple #[.slice none 0 0, .int .i64 E])) ∨
  (E = 0 ∧ PathPost (fen off D n) (stN off h climb desc D X Y n (stK off h climb desc D n)) (fin off h climb desc ceil (fen off D n - off) (stF off h climb desc D X Y n (stK off h climb desc D n))) e w')
set_option maxHeartbeats 1000000 in
theorem pathC {fx r wv : Value} {w : World} (T : Tabs w) (hf : FV w fx n N X Y) (hr : SV w r nr RT) (hw : WV w wv m L H WX WY WE) : ∀ w1, Below w.heap.size w w1 →
    Calls Tryz.prog 30 #[fx, Plan.plan cl kd fr t off sp h r, .agg #[.string ks, .int .i64 kw, .int .i64 ceil, .int .i64 climb, .int .i64 desc, .int .i64 slow, .int .i64 fast], wv] w1 fun e w' =>
      PthR n X Y off h ceil climb desc (lgs sp h m L H WX WY WE X Y n) (pthE n X Y cl kd fr t ks off sp h kw ceil climb desc slow fast nr RT m L H WX WY WE) e w' ∧ Below w1.heap.size w1 w' := fun w1 hb => by
  have CK := fun w2 hb2 => checkPC (cl := cl) (kd := kd) (fr := fr) (t := t) (ks := ks) (off := off) (sp := sp) (h := h) (kw := kw) (ceil := ceil) (climb := climb) (desc := desc) (slow := slow) (fast := fast) (fv_keep hb hf) (sv_keep hb hr) (wv_keep hb hw) w2 hb2
  have hf1 := fv_keep hb hf; have hw1 := wv_keep hb hw
  by_cases hE : pthE n X Y cl kd fr t ks off sp h kw ceil climb desc slow fast nr RT m L H WX WY WE = 0
  · have LG := fun i h1 hi w2 hb2 => legPC (i := i) (tabs_keep hb T) hw1 hE h1 hi w2 hb2
    have HD := lgs_bd hE
    obtain ⟨hn, e1, e2, e3, hce, e4, hz⟩ := fck_zero hE
    have g1 : rck n X Y = 0 := by
      unfold rlen at e1
      split at e1
      · exact absurd e1 (by assumption)
      · rename_i q; exact Classical.not_not.1 q
    obtain ⟨-, hg⟩ := rck_ok g1
    have hp := plan_zero e2
    have hk := kchk_zero e3
    rw [hE] at CK
    have UPC := fun w2 => divUp h climb w2 (by omega) (by omega)
    have DNC := fun w2 => divUp h desc w2 (by omega) (by omega)
    rw [show dde h climb = 0 from (dd_ok (by omega) (by omega)).2] at UPC
    rw [show dde h desc = 0 from (dd_ok (by omega) (by omega)).2] at DNC
    have u1 := du_one (a := h) (b := climb) (by omega) (by omega)
    have u2 := du_one (a := h) (b := desc) (by omega) (by omega)
    have u3 := du_ge (a := h) (b := climb) (by omega) (by omega)
    have u4 := du_ge (a := h) (b := desc) (by omega) (by omega)
    have hfe : off ≤ fen off (lgs sp h m L H WX WY WE X Y n) n := tm_ge _
    have PRC := fun (hen : fen off (lgs sp h m L H WX WY WE X Y n) n ≤ 200000) tt (h1 : 0 ≤ tt) (h2 : tt ≤ fen off (lgs sp h m L H WX WY WE X Y n) n - off) w2 => (by
      have q := Kind.profC ks kw ceil climb desc slow fast h (fen off (lgs sp h m L H WX WY WE X Y n) n - off) tt w2
      unfold Kind.profE at q
      rw [if_pos e3] at q
      have e0 : (Kind.prof ceil climb desc h (fen off (lgs sp h m L H WX WY WE X Y n) n - off) tt).2 = 0 := by
        unfold Kind.prof; rw [if_neg (by omega), if_neg (by omega)]
      rw [e0] at q
      exact q : Calls Tryz.prog 62 #[.agg #[.string ks, .int .i64 kw, .int .i64 ceil, .int .i64 climb, .int .i64 desc, .int .i64 slow, .int .i64 fast], .int .i64 h, .int .i64 (fen off (lgs sp h m L H WX WY WE X Y n) n - off), .int .i64 tt] w2 fun e w' => e = .returned (.tuple #[.int .i64 (Kind.prof ceil climb desc h (fen off (lgs sp h m L H WX WY WE X Y n) n - off) tt).1, .int .i64 0]) ∧ Below w2.heap.size w2 w')
    obtain ⟨A, c, rfl⟩ := fv_slice hf
    obtain ⟨A2, c2, rfl⟩ := sv_slice hr
    obtain ⟨A3, c3, rfl⟩ := wv_slice hw
    exact (path_w cl kd fr t ks off sp h kw ceil climb desc slow fast A2 A3 nr c2 m c3 A n c N X Y _ _ w1 hn.1 hn.2 hp.1 hp.2.2 hk.2.1 hk.2.2 (Lib.hid CK) (Lib.hid hf1) (Lib.hid hg) (Lib.hid fun k hk => (HD k hk).2) (Lib.hid LG) (Lib.hid UPC) (Lib.hid DNC) (by omega) (Lib.hid PRC)).mono fun e w' hh => ⟨Or.inr ⟨hE, hh.1⟩, hh.2⟩
  · obtain ⟨A, c, rfl⟩ := fv_slice hf
    obtain ⟨A2, c2, rfl⟩ := sv_slice hr
    obtain ⟨A3, c3, rfl⟩ := wv_slice hw
    exact (path_bad cl kd fr t ks off sp h kw ceil climb desc slow fast A2 A3 nr c2 m c3 A n c _ w1 (by simpa using hE) (by simpa using hE) (Lib.hid CK)).mono fun e w' hh => ⟨Or.inl ⟨hE, hh.1⟩, hh.2⟩
end
end Fly
end Go.Proofs.YtmkglhoahdlogaaGreatDoor
namespace Go.Proofs.YtmkglhoahdlogaaGreatDoor
open Go.RowKit
namespace Route
open Kit Plane Chart
/-- Whether a name is an airway's. -/
def aw (m : Nat) (M : Nat → ByteArray) (s : ByteArray) : Bool := decide (0 ≤ fix M s m)
set_option maxRecDepth 100000 in
set_option maxHeartbeats 2000000 in
theorem aclos_e (a : ByteArray) (A : Option Addr) (n cap B8 pi b off q c i : Nat) (s : ByteArray) (w : World) (hi : i < q) (_hc : q ≤ c) (_hm : c ≤ 9223372036854775807) (h8 : w.cell? ⟨B8, 0, none⟩ = some (.slice (some ⟨b, off, none⟩) q c)) (hp : w.cell? ⟨pi, 0, none⟩ = some (.int .i64 i)) (hs : w.cell? ⟨b, off + i, none⟩ = some (.string s)) :
    Calls Tryz.prog 18 #[.agg #[.string a, .slice A n cap], .pointer (some ⟨B8, 0, none⟩), .pointer (some ⟨pi, 0, none⟩)] w fun e w' => e = .returned (.bool (decide (a = s))) ∧ Below w.heap.size w w' := by
  have W1 := Lib.hid (b_alloc (Below.refl w.heap.size w) (.cells #[.string a, .slice A n cap] 65))
  obtain ⟨w1, hw1⟩ : ∃ w1, w1 = w.alloc (.cells #[.string a, .slice A n cap] 65) := ⟨_, rfl⟩
  have C0 : Hid (w1.cell? ⟨B8, 0, none⟩ = some (.slice (some ⟨b, off, none⟩) q c)) := Lib.hid (by rw [hw1]; exact keepA _ h8)
  have C1 : Hid (w1.cell? ⟨pi, 0, none⟩ = some (.int .i64 i)) := Lib.hid (by rw [hw1]; exact keepA _ hp)
  have C2 : Hid (w1.cell? ⟨b, off + i, none⟩ = some (.string s)) := Lib.hid (by rw [hw1]; exact keepA _ hs)
  have C3 : Hid (w1.cell? ⟨w.heap.size, 0, none⟩ = some (.string a)) := Lib.hid (by rw [hw1]; simp)
  have H1 : Hid (w.alloc (.cells #[.string a, .slice A n cap] 65) = w1) := Lib.hid hw1.symm
  have W2 : Hid (Below w.heap.size w w1) := Lib.hid (by rw [hw1]; exact W1.out)
  clear hw1 h8 hp hs W1
  have hl : (i : Int) < (q : Int) := by omega
  have hq := seq_eq a s
  generalize decide (a = s) = d at *
  have HQ := Lib.hid hq; clear hq
  go_enter Tryz.func18, Tryz.ntmps18
  go_wp2_with fail
  rw [H1.out]
  refine d_region (by kernel_rfl) (by kernel_rfl) ?_
  repeat
    first
      | (refine d_plain (by with_reducible rfl) ?_; apply Exists.intro; refine ⟨fun wq hc hq => ?_, ?_⟩)
      | (refine d_on (by with_reducible rfl) (by rfl) (by with_reducible rfl) ?_; apply Exists.intro; refine ⟨fun wq hc hq => ?_, ?_⟩)
      | (refine d_off (by with_reducible rfl) (by rfl) (by rfl) ?_)
      | (refine d_void (by with_reducible rfl) (by rfl) ?_)
    try any_goals
      (have q0 := keep (cls hq) C0.out; have q1 := keep (cls hq) C1.out; have q2 := keep (cls hq) C2.out; have q3 := keep (cls hq) C3.out; clear hc
       go_simp
       first
         | rfl)
    simp only [Act.put, List.setIfInBounds_toArray, List.set_cons_zero, List.set_cons_succ]
  refine d_nil ?_
  intro w2 hb2
  have hq := HQ.out
  go_wp2_with fail
  go_ret
  exact ⟨by first | rfl | exact retb hq, b_next W2.out hb2⟩
set_option maxRecDepth 100000 in
set_option maxHeartbeats 2000000 in
theorem aidx_e (n cap b off B8 pi b' off' q c i : Nat) (M : Nat → ByteArray) (l : Nat → Nat) (S : Nat → Nat → ByteArray) (s : ByteArray) (w : World) (hm : cap ≤ 9223372036854775807) (hc : n ≤ cap) (HV : Hid (∀ k, k < n → A2 w b off k (M k) (l k) (S k)))
    (hi : i < q) (hc' : q ≤ c) (hm' : c ≤ 9223372036854775807) (H8 : Hid (w.cell? ⟨B8, 0, none⟩ = some (.slice (some ⟨b', off', none⟩) q c))) (HP : Hid (w.cell? ⟨pi, 0, none⟩ = some (.int .i64 i))) (HS : Hid (w.cell? ⟨b', off' + i, none⟩ = some (.string s))) :
    Calls Tryz.prog 41 #[.slice (some ⟨b, off, none⟩) n cap, .func (.func 18) #[] #[.pointer (some ⟨B8, 0, none⟩), .pointer (some ⟨pi, 0, none⟩)]] w fun e w' => e = .returned (.int .i64 (fix M s n)) ∧ Below w.heap.size w w' := by
  go_enter Tryz.func41, Tryz.ntmps41
  obtain ⟨r, hr⟩ : ∃ r, r = fix M s n := ⟨_, rfl⟩
  rw [← hr]
  have HR := Lib.hid hr; clear hr
  go_wp2_with fail
  go_loopw [5, 8] (fun _ t wr => ∃ k : Nat, k ≤ n ∧ t = .int .i64 k ∧ (∀ j, j < k → decide (M j = s) = false) ∧ Below w.heap.size w wr) (fun _ t _ => n - (intOf t).toNat)
  case atStart => exact ⟨0, Nat.zero_le _, rfl, fun j hj => absurd hj (Nat.not_lt_zero j), Below.refl _ _⟩
  case round =>
    obtain ⟨k, hk, rfl, hno, hbl⟩ := hrel
    have HN := Lib.hid hno; have HB := Lib.hid hbl; clear hno
    by_cases hlt : k < n
    · obtain ⟨c0, v, c1, hsv⟩ := a2_keep hbl (HV.out k hlt)
      have hl : (k : Int) < (n : Int) := by omega
      obtain ⟨A, ca, rfl⟩ := sv_slice hsv
      have hcall := aclos_e (M k) A (l k) ca B8 pi b' off' q c i s wr hi hc' hm' (keep hbl H8.out) (keep hbl HP.out) (keep hbl HS.out)
      have HST := Lib.hid (show ∀ hh : decide (M k = s) = false, ∀ j, j < k + 1 → decide (M j = s) = false from fun hh j hj => by
        rcases Nat.lt_or_ge j k with hl | hl
        · exact HN.out j hl
        · rw [show j = k from by omega]; exact hh)
      have HT := Lib.hid (show ∀ hh : decide (M k = s) = true, r = k from fun hh => by rw [HR.out]; exact fnd_at HN.out hh n hlt)
      clear hbl hsv
      generalize decide (M k = s) = d at *
      cases d with
      | true =>
        have e := HT.out rfl
        subst e
        go_wp2_with fail
        (with_reducible refine hcall.mono ?_); rintro e w' ⟨rfl, hb'⟩
        go_wp2_with fail
        go_ret
        exact ⟨rfl, b_next HB.out hb'⟩
      | false =>
        go_wp2_with fail
        (with_reducible refine hcall.mono ?_); rintro e w' ⟨rfl, hb'⟩
        go_wp2_with fail
        exact ⟨⟨k + 1, by omega, by go_num, (by first | exact HST.out rfl | exact HST.out trivial), b_next HB.out hb'⟩, by simp [intOf]; omega⟩
    · have he : k = n := by omega
      have hl : ¬ (k : Int) < (n : Int) := by omega
      have e : r = -1 := by rw [HR.out]; exact fnd_no (fun j hj => HN.out j (by omega))
      subst e
      clear hbl
      go_wp2_with fail
      go_ret
      exact ⟨rfl, HB.out⟩
theorem acontE {v u : Value} {n q : Nat} {M : Nat → ByteArray} {l : Nat → Nat} {S : Nat → Nat → ByteArray} {I : Nat → ByteArray} {w : World} (hv : AV w v n M l S) (B8 pi i : Nat) (hi : i < q) (hu : SV w u q I) (h8 : w.cell? ⟨B8, 0, none⟩ = some u) (hp : w.cell? ⟨pi, 0, none⟩ = some (.int .i64 i)) :
    Calls Tryz.prog 17 #[v, .func (.func 18) #[] #[.pointer (some ⟨B8, 0, none⟩), .pointer (some ⟨pi, 0, none⟩)]] w fun e w' => e = .returned (.bool (aw n M (I i))) ∧ Below w.heap.size w w' := by
  obtain ⟨b', off', c, rfl, hc', hm', hcell⟩ := sv_at hu (by omega)
  refine acont_w v _ _ w (Lib.hid fun w1 hb => ?_)
  have hv1 := av_keep hb hv
  have g8 := keep hb h8; have gp := keep hb hp; have gs := keep hb (hcell i hi)
  rcases hv1 with ⟨rfl, h⟩ | ⟨h0, b, off, cap, rfl, hc, hm, HV⟩
  · obtain ⟨A, cap, rfl⟩ := nil0_slice h
    exact aidx_none A cap _ w1
  · exact aidx_e n cap b off B8 pi b' off' q c i M l S (I i) w1 (Nat.le_trans hm (by decide)) hc (Lib.hid HV) hi hc' (Nat.le_trans hm' (by decide)) (Lib.hid g8) (Lib.hid gp) (Lib.hid gs)
/-- The closure 'airway': whether item i is an airway's name. -/
theorem airC {fx a : Value} {n q : Nat} {M : Nat → ByteArray} {l : Nat → Nat} {S : Nat → Nat → ByteArray} {I : Nat → ByteArray} {u : Value} {W : World} {B3 B8 : Nat} (hv : AV W a n M l S) (hu : SV W u q I) (h3 : P2V W B3 fx a) (h8 : W.cell? ⟨B8, 0, none⟩ = some u) {i : Nat} (hi : i < q) : ∀ w, Below W.heap.size W w →
    Calls Tryz.prog 16 #[.int .i64 i, .pointer (some ⟨B3, 0, none⟩), .pointer (some ⟨B8, 0, none⟩)] w fun e w' => e = .returned (.bool (aw n M (I i))) ∧ Below w.heap.size w w' := fun w hbw => by
  have W1 := Lib.hid (b_alloc (Below.refl w.heap.size w) (.cells #[.int .i64 i] 3))
  obtain ⟨w1, hw1⟩ : ∃ w1, w1 = w.alloc (.cells #[.int .i64 i] 3) := ⟨_, rfl⟩
  have hb1 : Below W.heap.size W w1 := by rw [hw1]; exact b_next hbw W1.out
  have hp : w1.cell? ⟨w.heap.size, 0, none⟩ = some (.int .i64 i) := by rw [hw1]; simp
  have K := Lib.hid (acontE (av_keep hb1 hv) B8 w.heap.size i hi (sv_keep hb1 hu) (keep hb1 h8) hp)
  have W2 : Hid (Below w.heap.size w w1) := Lib.hid (by rw [hw1]; exact W1.out)
  have H1 : Hid (w.alloc (.cells #[.int .i64 i] 3) = w1) := Lib.hid hw1.symm
  obtain ⟨A, ca, rfl⟩ := av_slice hv
  have x0 := keep hbw h3.1
  have x1 := keep hbw h3.2
  have nn := new_ne x0
  clear hw1 W1 hp hb1 hv hu h8
  generalize aw n M (I i) = d at *
  go_enter Tryz.func16, Tryz.ntmps16
  go_wp2_with fail
  rw [H1.out]
  (with_reducible refine K.out.mono ?_); rintro e w2 ⟨rfl, hb⟩
  have W3 := Lib.hid (b_next W2.out hb); clear hb x0 x1
  go_wp2_with fail
  go_ret
  exact ⟨rfl, W3.out⟩
set_option maxHeartbeats 1000000 in
theorem find_no (fx aw : Value) (s : ByteArray) (r : Int) (w : World) (hr : r < 0) (C : Hid (CcC (.agg #[fx, aw]) 0 w)) (IX : Hid (∀ w1, Below w.heap.size w w1 → Calls Tryz.prog 21 #[.agg #[fx, aw], .string s] w1 fun e w' => e = .returned (.int .i64 r) ∧ Below w1.heap.size w1 w')) :
    Calls Tryz.prog 19 #[.agg #[fx, aw], .string s] w fun e w' => e = .returned (.tuple #[.agg #[.string ⟨#[]⟩, .int .i64 0, .int .i64 0], .int .i64 6]) ∧ Below w.heap.size w w' := by
  have W0 := Lib.hid (b_alloc (b_alloc (Below.refl w.heap.size w) (.cells #[fx, aw] 28)) (.cells #[.string ⟨#[]⟩, .int .i64 0, .int .i64 0] 38))
  have B0 := Lib.hid (p2v_keep (b_alloc (Below.refl _ _) (.cells #[.string ⟨#[]⟩, .int .i64 0, .int .i64 0] 38)) (p2v_new w 28 (fx) aw))
  have s0 := s3_new (w.alloc (.cells #[fx, aw] 28)) 38 ⟨#[]⟩ 0 0
  rw [World.size_alloc] at s0
  have S0 := Lib.hid s0; clear s0
  have Z0 : Hid (∀ k, ((w.alloc (.cells #[fx, aw] 28)).alloc (.cells #[.string ⟨#[]⟩, .int .i64 0, .int .i64 0] 38)).frozen? ⟨w.heap.size + 1, k, none⟩ = false) := Lib.hid fun k => by
    have : w.heap.size + 1 = (w.alloc (.cells #[fx, aw] 28)).heap.size := by simp
    rw [this]; simp
  have L0 : Hid (w.heap.size + 1 < ((w.alloc (.cells #[fx, aw] 28)).alloc (.cells #[.string ⟨#[]⟩, .int .i64 0, .int .i64 0] 38)).heap.size) := Lib.hid (by simp)
  go_enter Tryz.func19, Tryz.ntmps19
  go_wp2_with fail
  (with_reducible refine (C.out _ W0.out).mono ?_); rintro e w1 ⟨rfl, hb⟩
  have W1 := Lib.hid (b_next W0.out hb); have B1 := Lib.hid (p2v_keep hb B0.out); have S1 := Lib.hid (s3_keep hb S0.out)
  have Z1 : Hid (∀ k, w1.frozen? ⟨w.heap.size + 1, k, none⟩ = false) := Lib.hid fun k => (hb.frozen (p := ⟨w.heap.size + 1, k, none⟩) L0.out).trans (Z0.out k)
  have L1 : Hid (w.heap.size + 1 < w1.heap.size) := Lib.hid (Nat.lt_of_lt_of_le L0.out hb.size)
  clear hb
  obtain ⟨x0, x1⟩ := B1.out
  go_wp2_with fail
  (with_reducible refine (IX.out _ W1.out).mono ?_); rintro e w2 ⟨rfl, hb⟩
  have W2 := Lib.hid (b_next W1.out hb); clear x0 x1
  obtain ⟨x0, x1⟩ := p2v_keep hb B1.out
  obtain ⟨y0, y1, y2⟩ := s3_keep hb S1.out
  have z := fun k => (hb.frozen (p := ⟨w.heap.size + 1, k, none⟩) L1.out).trans (Z1.out k)
  have z0 := z 0; have z1 := z 1; have z2 := z 2
  clear hb z
  have S3' := s3_set ⟨y0, y1, y2⟩ ⟨#[]⟩ 0 0
  go_wp2_with fail
  refine bodyPost_ret (v := .tuple #[.agg #[.string ⟨#[]⟩, .int .i64 0, .int .i64 0], .int .i64 6]) (by simp [results, Tryz.results19, go_sem, S3'.c0, S3'.c1, S3'.c2]) rfl ⟨rfl, b_set (b_set (b_set W2.out (Nat.le_succ _) _) (Nat.le_succ _) _) (Nat.le_succ _) _⟩
/-- What chart.Find returns, the chart being right. -/
def fndV (n : Nat) (N : Nat → ByteArray) (X Y : Nat → Int) (s : ByteArray) : Value :=
  if fix N s n < 0 then .tuple #[.agg #[.string ⟨#[]⟩, .int .i64 0, .int .i64 0], .int .i64 6] else .tuple #[.agg #[.string s, .int .i64 (X (pos n N s)), .int .i64 (Y (pos n N s))], .int .i64 0]
theorem fix_some {N : Nat → ByteArray} {s : ByteArray} {n : Nat} (h : ¬ fix N s n < 0) : pos n N s < n ∧ N (pos n N s) = s ∧ fix N s n = (pos n N s : Int) := by
  obtain ⟨k, h1, h2, h3, -⟩ := fnd_pos (p := fun k => decide (N k = s)) (n := n) (Int.not_lt.1 h)
  have e : pos n N s = k := by unfold pos fix; rw [h2]; exact Int.toNat_natCast k
  rw [e]
  exact ⟨h1, of_decide_eq_true h3, h2⟩
theorem findC {c : Value} {n : Nat} {N : Nat → ByteArray} {X Y : Nat → Int} {m : Nat} {M : Nat → ByteArray} {l : Nat → Nat} {S : Nat → Nat → ByteArray} {W : World} (hv : CV W c n N X Y m M l S) (hE : cerr n N X Y m M l S = 0) (s : ByteArray) : ∀ w, Below W.heap.size W w →
    Calls Tryz.prog 19 #[c, .string s] w fun e w' => e = .returned (fndV n N X Y s) ∧ Below w.heap.size w w' := fun w hbw => by
  have C : CcC c 0 w := fun w1 hb => by have h := checkC (cv_keep (b_next hbw hb) hv); rw [hE] at h; exact h
  obtain ⟨fx, a, rfl, h1, h2⟩ := (cv_keep hbw hv).ex
  have IX := fun w1 (hb : Below w.heap.size w w1) => indexC (aw := a) (fv_keep hb h1) s
  unfold fndV
  by_cases h : fix N s n < 0
  · rw [if_pos h]
    exact find_no fx a s _ w h (Lib.hid C) (Lib.hid IX)
  · rw [if_neg h]
    obtain ⟨g1, g2, g3⟩ := fix_some h
    obtain ⟨b, off, cap, rfl, hc, hm, hcell⟩ := fv_at h1 (by omega)
    rw [g3] at IX
    have := find_ok b off n cap (pos n N s) a N X Y s w g1 hc (Nat.le_trans hm (by decide)) (Lib.hid C) (Lib.hid hcell) (Lib.hid IX)
    rw [g2] at this
    exact this
end Route
end Go.Proofs.YtmkglhoahdlogaaGreatDoor
namespace Go.Proofs.YtmkglhoahdlogaaGreatDoor
open Go.RowKit
namespace Route
open Kit Chart
/-- The cells of a list of names. -/
abbrev vs (L : List ByteArray) : List Value := L.map Value.string
theorem vs_one {L : List ByteArray} : ∀ u ∈ vs L, u.oneCell' = true := by
  intro u hu
  obtain ⟨s, -, rfl⟩ := List.mem_map.1 hu
  rfl
/-- A slice that reads as a list of names. -/
def SL (w : World) (v : Value) (L : List ByteArray) : Prop := SV w v L.length (fun k => L.getD k ⟨#[]⟩)
theorem sl_keep {W w1 : World} (hb : Below W.heap.size W w1) {v : Value} {L : List ByteArray} (h : SL W v L) : SL w1 v L := sv_keep hb h
theorem sl_cells {w : World} {b off : Nat} {L : List ByteArray} (h : ∀ k, k < L.length → w.cell? ⟨b, off + k, none⟩ = some (.string (L.getD k ⟨#[]⟩))) : ∀ j u, (vs L)[j]? = some u → w.cell? ((⟨b, off, none⟩ : Addr).add j) = some u := fun j u hu => by
  have hj : j < L.length := by
    have := (List.getElem?_eq_some_iff.1 hu).1
    rwa [List.length_map] at this
  rw [Go.WideShapes.add_plain, h j hj]
  rw [List.getElem?_map, List.getElem?_eq_getElem hj] at hu
  rw [← Option.some.inj hu, List.getD_eq_getElem?_getD, List.getElem?_eq_getElem hj]
  rfl
/-- What a call owns reads as a list. -/
theorem sl_own {w : World} {base : Nat} {E : TypeId} {v : Value} {L : List ByteArray} (h : w.ownsRow base E 1 v L.length (vs L)) : SL w v L := by
  have hh := h
  rcases Nat.eq_zero_or_pos L.length with h0 | h0
  · refine Or.inl ⟨h0, ?_⟩
    rcases h.2 with ⟨hv, -⟩ | ⟨g, cap, cur, hv, hb, hg, hnc, hcm, -⟩
    · exact Or.inl hv
    · exact Or.inr ⟨⟨g, 0, none⟩, cap, by rw [hv, h0], hcm⟩
  · rcases h.2 with ⟨-, h1⟩ | ⟨g, cap, cur, hv, hb, hg, hnc, hcm, -⟩
    · omega
    · refine Or.inr ⟨h0, g, 0, cap, hv, hnc, hcm, fun k hk => ?_⟩
      subst hv
      have hc := hh.cellAt k (by omega)
      rw [Nat.zero_add, hc, List.getElem?_map, List.getElem?_eq_getElem hk]
      show some (Value.string L[k]) = some (.string (L.getD k ⟨#[]⟩))
      rw [List.getD_eq_getElem?_getD, List.getElem?_eq_getElem hk]
      rfl
theorem sl_slice {w : World} {v : Value} {L : List ByteArray} (h : SL w v L) : ∃ A cap, v = .slice A L.length cap := sv_slice h
section
variable {P : Program} {w : World}
theorem grown_refl (w : World) (row : Option Nat) : w.grownBy w row := ⟨rfl, rfl, rfl, Nat.le_refl _, fun _ _ _ => rfl⟩
/-- append(v, u...), the source a list of names in memory, nil or not. -/
theorem append_sl {ops : Array Oper} {rest : List Oper} {o : Oper} {a : Act} {Q : Exit → Act → World → Prop} (hgd : o.guard = none) (s x : Operand) (t : TypeId)
    (ho : o.op = .call { callee := .builtin .append, args := #[s, x], argTypes := #[t, t] })
    (base : Nat) (e : TypeId) (i : TypeInfo) (z : Value) (ht : P.underlying t = some (.slice e)) (hi : P.info? e = some i) (hz : i.zero = some z)
    (hsize : i.size = 1) (hby : i.bytes = 16) (hzs : z.cells.size = 1)
    (v : Value) (L : List ByteArray) (hs : a.eval s = v) (hown : w.ownsRow base e 1 v L.length (vs L))
    (u : Value) (M : List ByteArray) (hx : a.eval x = u) (hu : SL w u M) (hlen : L.length + M.length ≤ 1000000) (hbase : base ≤ w.heap.size)
    (h : ∀ v' w', w'.ownsRow base e 1 v' (L ++ M).length (vs (L ++ M)) → w.grownBy w' v.ownBlock → wpList P ops Q rest (a.put o.dst v') w') : wpList P ops Q (o :: rest) a w := by
  have key : ∀ (ad : Addr) (c : Nat), u = .slice (some ad) M.length c → (∀ j y, (vs M)[j]? = some y → w.cell? (ad.add j) = some y) → wpList P ops Q (o :: rest) a w := fun ad c hu' hc => by
    subst hu'
    refine wpList_append_own w hgd s x t ho base e i z 1 16 ht hi hz hsize hby hzs (by decide) v L.length (vs L) hs hown ad M.length c (vs M) hx (by rw [List.length_map, Nat.mul_one]) hc vs_one (by unfold maxLen; omega) (by omega) hbase fun v' w' h2 h3 _ => h v' w' ?_ h3
    show w'.ownsRow base e 1 v' _ ((L ++ M).map Value.string)
    rw [List.length_append, List.map_append]
    exact h2
  rcases hu with ⟨h0, rfl | ⟨ad, c, rfl, hc⟩⟩ | ⟨h0, b, off, c, rfl, h1, h2, h3⟩
  · obtain rfl : M = [] := List.length_eq_zero_iff.1 h0
    refine wpList_append_own_none hgd s x t ho base e i 1 ht hi v L.length (vs L) hs hown hx ?_
    have := h v w (by rw [List.append_nil]; exact hown) (grown_refl w _)
    exact this
  · obtain rfl : M = [] := List.length_eq_zero_iff.1 h0
    exact key ad c rfl fun j y hy => by simp at hy
  · exact key ⟨b, off, none⟩ c rfl (sl_cells h3)
end
set_option maxRecDepth 100000 in
set_option maxHeartbeats 1000000 in
theorem growC (n : Nat) (w : World) (h0 : 0 < n) (h1 : n ≤ 1000000) : Calls Tryz.prog 40 #[.slice none 0 0, .int .i64 n] w fun e w' => (∃ v, e = .returned v ∧ w'.ownsRow w.heap.size 9 1 v 0 []) ∧ Below w.heap.size w w' := by
  obtain ⟨i0, hi, hz0, hz1, hz2⟩ := info_parts info_str
  have hr := fun W : World => Lib.run_append_nil_zeros (P := Tryz.prog) W 22 3 22 9 i0 (.string ⟨#[]⟩) .i64 .i64 Tryz.underlying22 Tryz.underlying3 hi hz0 n h0 (by rw [hz1]; decide) (by omega) (by rw [hz2]; omega)
  have hp : 0 < (n : Int) := by omega
  have hcap : grownCap w n 0 9 ≤ maxLen := grownCap_le_maxLen w n 0 9 (by unfold maxLen; omega)
  have hcap0 : grownCap w n 0 9 ≤ 9223372036854775807 := Nat.le_trans hcap (by decide)
  have hge := grownCap_ge w n 0 9
  have HR := Lib.hid (hr w); clear hr
  generalize grownCap w n 0 9 = cap at *
  go_enter Tryz.func40, Tryz.ntmps40
  go_wp2_with (at_builtin; refine Lib.wpList_append_run _ rfl _ _ _ _ rfl _ _ rfl rfl _ _ HR.out ?_)
  all_goals first | (exfalso; omega) | skip
  refine bodyPost_ret (v := .slice (some ⟨w.heap.size, 0, none⟩) 0 cap) (by simp [results, Tryz.results40, go_sem]) rfl ⟨⟨_, rfl, rfl, Or.inr ⟨w.heap.size, cap, Builtin.zeroCells #[Value.string ⟨#[]⟩] n ++ Builtin.zeroCells #[Value.string ⟨#[]⟩] (cap - n), rfl, Nat.le_refl _, heap_alloc_new w _, Nat.zero_le _, hcap, ?_, by simp⟩⟩, ?_⟩
  · simp [Builtin.zeroCells]; omega
  · exact b_drew (b_alloc (Below.refl _ _) _)
/-- The slices of a slice of three. -/
abbrev T3 (w : World) (b : Nat) (U : Nat → Value) : Prop := ∀ k, k < 3 → w.cell? ⟨b, k, none⟩ = some (U k)
/-- The first k of three lists, one behind the other. -/
def pre (L : Nat → List ByteArray) : Nat → List ByteArray
  | 0 => []
  | k + 1 => pre L k ++ L k
theorem pre_len {L : Nat → List ByteArray} (h : ∀ k, (L k).length ≤ 1000) : ∀ k, (pre L k).length ≤ 1000 * k
  | 0 => Nat.le_refl _
  | k + 1 => by
    show (pre L k ++ L k).length ≤ _
    rw [List.length_append]
    have := pre_len h k; have := h k; omega
set_option maxRecDepth 100000 in
set_option maxHeartbeats 4000000 in
theorem concat_w (b : Nat) (U : Nat → Value) (L : Nat → List ByteArray) (w : World) (HT : Hid (T3 w b U)) (HS : Hid (∀ k, k < 3 → SL w (U k) (L k))) (HL : Hid (∀ k, (L k).length ≤ 1000)) (h0 : 0 < (L 0).length) :
    Calls Tryz.prog 15 #[.slice (some ⟨b, 0, none⟩) 3 3] w fun e w' => (∃ v, e = .returned v ∧ SL w' v (pre L 3)) ∧ Below w.heap.size w w' := by
  obtain ⟨i0, hi, hz0, hz1, hz2⟩ := info_parts info_str
  have I := Lib.hid (And.intro hi (And.intro hz0 (And.intro hz1 hz2))); clear hi hz0 hz1 hz2
  have HP := Lib.hid (pre_len HL.out)
  have e3 : Hid (0 < (pre L 3).length) := Lib.hid (by show 0 < ((([] ++ L 0) ++ L 1) ++ L 2).length; simp only [List.length_append]; omega)
  go_enter Tryz.func15, Tryz.ntmps15
  go_wp2_with fail
  go_loopw [3, 11] (fun sm s wr => ∃ k : Nat, k ≤ 3 ∧ s = .int .i64 k ∧ sm = .int .i64 ((pre L k).length : Nat) ∧ w = wr) (fun _ s _ => 3 - (intOf s).toNat)
  case atStart => exact ⟨0, by omega, rfl, rfl, rfl⟩
  case round =>
    obtain ⟨k, hk, rfl, rfl, rfl⟩ := hrel
    by_cases hlt : k < 3
    · have hl : (k : Int) < 3 := by omega
      obtain ⟨A, c, hU⟩ := sl_slice (HS.out k hlt)
      have c0 := HT.out k hlt
      rw [hU] at c0
      have b1 := HP.out k
      have b2 := HL.out k
      have hn : (pre L (k + 1)).length = (pre L k).length + (L k).length := by show (pre L k ++ L k).length = _; rw [List.length_append]
      have HN := Lib.hid hn; clear hn hU
      generalize (pre L k).length = x at *
      generalize (L k).length = y at *
      go_wp2_with fail
      all_goals first | (exfalso; omega) | skip
      go_roundw
      case rel => exact ⟨k + 1, by omega, by go_num, by rw [HN.out]; go_num, by first | rfl | trivial⟩
      case measure => simp [intOf]; omega
    · have e : k = 3 := by omega
      subst e
      have b1 := HP.out 3
      have b3 := e3.out
      have HG := Lib.hid fun W : World => growC (pre L 3).length W b3 (by omega)
      generalize (pre L 3).length = x at *
      go_wp2_with fail
      (with_reducible refine (HG.out _).mono ?_); rintro e w1 ⟨⟨v1, rfl, hown⟩, hb⟩
      have W1 := Lib.hid hb
      have O1 : Hid (w1.ownsRow w.heap.size 9 1 v1 (pre L 0).length (vs (pre L 0))) := Lib.hid hown
      clear hb hown
      go_wp2_with fail
      go_loopw [6, 27] (fun v s wr => ∃ k : Nat, k ≤ 3 ∧ s = .int .i64 k ∧ wr.ownsRow w.heap.size 9 1 v (pre L k).length (vs (pre L k)) ∧ Below w.heap.size w wr) (fun _ s _ => 3 - (intOf s).toNat)
      case atStart => exact ⟨0, by omega, rfl, O1.out, W1.out⟩
      case round =>
        obtain ⟨k, hk, rfl, hown, hbl⟩ := hrel
        have OW := Lib.hid hown; have WR := Lib.hid hbl; clear hown
        by_cases hlt : k < 3
        · have hl : (k : Int) < 3 := by omega
          have c0 := keep hbl (HT.out k hlt)
          have SU := Lib.hid (sl_keep hbl (HS.out k hlt))
          have b1 := HP.out k
          have b2 := HL.out k
          have HZ := Lib.hid hbl.size
          clear hbl
          obtain ⟨A, c, hU⟩ := sl_slice SU.out
          rw [hU] at c0 SU
          clear hU
          go_wp2_with (at_builtin; refine append_sl rfl (.tmp 31) (.tmp 32) 22 rfl w.heap.size 9 i0 _ Tryz.underlying22 I.out.1 I.out.2.1 I.out.2.2.1 I.out.2.2.2 rfl _ (pre L k) rfl OW.out _ (L k) rfl SU.out (by omega) HZ.out ?_; intro v2 w2 hown2 hg2)
          have W2 := Lib.hid (WR.out.grown hg2 WR.out.size (fun q hq => (OW.out.lt q hq).1))
          go_roundw
          case rel => exact ⟨k + 1, by omega, by go_num, hown2, W2.out⟩
          case measure => simp [intOf]; omega
        · have e : k = 3 := by omega
          subst e
          clear hbl
          go_wp2_with fail
          refine bodyPost_ret (v := u6) (by simp [results, Tryz.results15, go_sem]) rfl ⟨⟨u6, rfl, sl_own OW.out⟩, WR.out⟩
end Route
end Go.Proofs.YtmkglhoahdlogaaGreatDoor
namespace Go.Proofs.YtmkglhoahdlogaaGreatDoor
open Go.RowKit
namespace Route
open Kit Chart
section
variable (n : Nat) (N : Nat → ByteArray) (X Y : Nat → Int) (m : Nat) (M : Nat → ByteArray) (l : Nat → Nat) (S : Nat → Nat → ByteArray) (q : Nat) (I : Nat → ByteArray)
/-- What is wrong with item i alone. -/
def ierr (i : Nat) : Int := if fix N (I i) n < 0 ∧ (i = 0 ∨ i + 1 = q ∨ aw m M (I i) = false) then 6 else 0
/-- Two airways, one behind the other. -/
def cser (i : Nat) : Int := if 0 < i ∧ aw m M (I i) = true ∧ aw m M (I (i - 1)) = true then 3 else 0
/-- The airway of item i, and where the items beside it lie on it. -/
def ak (i : Nat) : Nat := (fix M (I i) m).toNat
def ia (i : Nat) : Int := fix (S (ak m M I i)) (I (i - 1)) (l (ak m M I i))
def ib (i : Nat) : Int := fix (S (ak m M I i)) (I (i + 1)) (l (ak m M I i))
def serr (i : Nat) : Int := if 0 < i ∧ aw m M (I i) = true ∧ (ia m M l S I i < 0 ∨ ib m M l S I i < 0) then 6 else 0
/-- What item i adds. -/
def seg (i : Nat) : List ByteArray :=
  if aw m M (I i) = true then (List.range (max (ia m M l S I i).toNat (ib m M l S I i).toNat - min (ia m M l S I i).toNat (ib m M l S I i).toNat)).map fun t => way (S (ak m M I i)) (ia m M l S I i).toNat (ib m M l S I i).toNat (t + 1)
  else if aw m M (I (i - 1)) = false then [I i] else []
/-- The names when k items behind the first one are done. -/
def nms : Nat → List ByteArray
  | 0 => [I 0]
  | k + 1 => nms k ++ seg m M l S I (k + 1)
/-- A name of a list. -/
abbrev nth (T : List ByteArray) (j : Nat) : ByteArray := T.getD j ⟨#[]⟩
/-- Two fixes at one place. -/
def zer (T : List ByteArray) (j : Nat) : Int := if 0 < j ∧ X (pos n N (nth T j)) = X (pos n N (nth T (j - 1))) ∧ Y (pos n N (nth T j)) = Y (pos n N (nth T (j - 1))) then 10 else 0
/-- route.Expand's error, the plan and the chart being right. -/
def expE : Int :=
  if ferr (ierr n N m M q I) q ≠ 0 then 6 else if ferr (cser m M I) q ≠ 0 then 3 else if ferr (serr m M l S I) q ≠ 0 then 6 else
  if ferr (zer n N X Y (nms m M l S I (q - 1))) (nms m M l S I (q - 1)).length ≠ 0 then 10 else if 62 < (nms m M l S I (q - 1)).length then 2 else 0
variable {n N X Y m M l S q I}
theorem ierr_ok {i : Nat} (h : ierr n N m M q I i = 0) : fix N (I i) n < 0 → i ≠ 0 ∧ i + 1 ≠ q ∧ aw m M (I i) = true := by
  unfold ierr at h
  intro hf
  split at h
  · cases h
  · rename_i hn
    refine ⟨fun e => hn ⟨hf, Or.inl e⟩, fun e => hn ⟨hf, Or.inr (Or.inl e)⟩, ?_⟩
    cases e : aw m M (I i) with
    | true => rfl
    | false => exact absurd ⟨hf, Or.inr (Or.inr e)⟩ hn
theorem aw_some {s : ByteArray} (h : aw m M s = true) : (fix M s m).toNat < m ∧ M (fix M s m).toNat = s ∧ fix M s m = ((fix M s m).toNat : Int) := by
  have h0 : 0 ≤ fix M s m := of_decide_eq_true h
  exact fix_some (N := M) (s := s) (n := m) (by omega)
/-- An airway's name is no fix's. -/
theorem aw_nofix (hE : cerr n N X Y m M l S = 0) {s : ByteArray} (h : aw m M s = true) : fix N s n < 0 := by
  obtain ⟨h1, h2, h3⟩ := aw_some h
  have := (aerr_len ((cerr_ok hE).2.2.2 _ h1)).2.1
  rw [h2] at this; exact this
theorem seg_len (hE : cerr n N X Y m M l S = 0) (i : Nat) : (seg m M l S I i).length ≤ 24 := by
  unfold seg
  by_cases h : aw m M (I i) = true
  · rw [if_pos h, List.length_map, List.length_range]
    obtain ⟨h1, -, -⟩ := aw_some h
    have hl := (aerr_len ((cerr_ok hE).2.2.2 _ h1)).2.2.2.2.1
    have a := fnd_bd (fun k => decide (S (ak m M I i) k = I (i - 1))) (l (ak m M I i))
    have b := fnd_bd (fun k => decide (S (ak m M I i) k = I (i + 1))) (l (ak m M I i))
    change -1 ≤ ia m M l S I i ∧ ia m M l S I i < _ at a
    change -1 ≤ ib m M l S I i ∧ ib m M l S I i < _ at b
    have e : l (ak m M I i) ≤ 24 := hl
    omega
  · rw [if_neg h]
    split <;> simp
theorem nms_len (hE : cerr n N X Y m M l S = 0) : ∀ k, 1 ≤ (nms m M l S I k).length ∧ (nms m M l S I k).length ≤ 1 + 24 * k
  | 0 => ⟨Nat.le_refl _, Nat.le_refl _⟩
  | k + 1 => by
    have h := nms_len hE k
    have g := seg_len (I := I) hE (k + 1)
    show 1 ≤ (nms m M l S I k ++ seg m M l S I (k + 1)).length ∧ (nms m M l S I k ++ seg m M l S I (k + 1)).length ≤ _
    rw [List.length_append]
    omega
/-- All names of the chart's. -/
def Fnd (n : Nat) (N : Nat → ByteArray) (T : List ByteArray) : Prop := ∀ s ∈ T, ¬ fix N s n < 0
theorem seg_fnd (hE : cerr n N X Y m M l S = 0) {i : Nat} (hi : ierr n N m M q I i = 0) (hs : serr m M l S I i = 0) (h0 : 0 < i) : Fnd n N (seg m M l S I i) := by
  unfold seg
  by_cases h : aw m M (I i) = true
  · rw [if_pos h]
    intro s hs'
    obtain ⟨t, ht, rfl⟩ := List.mem_map.1 hs'
    rw [List.mem_range] at ht
    obtain ⟨h1, -, -⟩ := aw_some h
    have ha := (aerr_len ((cerr_ok hE).2.2.2 _ h1)).2.2.2.2.2
    unfold serr at hs
    split at hs
    · cases hs
    · rename_i hn
      have hab : ¬ (ia m M l S I i < 0) ∧ ¬ (ib m M l S I i < 0) := ⟨fun e => hn ⟨h0, h, Or.inl e⟩, fun e => hn ⟨h0, h, Or.inr e⟩⟩
      have a := (fnd_bd (fun k => decide (S (ak m M I i) k = I (i - 1))) (l (ak m M I i))).2
      have b := (fnd_bd (fun k => decide (S (ak m M I i) k = I (i + 1))) (l (ak m M I i))).2
      change ia m M l S I i < _ at a
      change ib m M l S I i < _ at b
      have key : ∀ j, j < l (ak m M I i) → ¬ fix N (S (ak m M I i) j) n < 0 := fun j hj e => by
        have := ha j hj
        unfold nerr at this
        rw [if_pos (show fix N (S (fix M (I i) m).toNat j) n < 0 from e)] at this
        cases this
      unfold way
      split
      · exact key _ (by omega)
      · exact key _ (by omega)
  · rw [if_neg h]
    split
    · intro s hs'
      rw [List.mem_singleton] at hs'
      subst hs'
      intro e
      exact h (ierr_ok hi e).2.2
    · intro s hs'; cases hs'
theorem nms_fnd (hE : cerr n N X Y m M l S = 0) {r : Nat} (h1 : ferr (ierr n N m M q I) q = 0) (hs : ∀ j, j < r → serr m M l S I j = 0) (hq : 0 < q) (hr : r ≤ q) : ∀ k, k < r → Fnd n N (nms m M l S I k)
  | 0, _ => fun s hs' => by
    have e : s = I 0 := by simpa [nms] using hs'
    subst e
    intro e
    exact (ierr_ok (ferr_inv h1 0 hq) e).1 rfl
  | k + 1, hk => fun s hs' => by
    rcases List.mem_append.1 (show s ∈ nms m M l S I k ++ seg m M l S I (k + 1) from hs') with h | h
    · exact nms_fnd hE h1 hs hq hr k (by omega) s h
    · exact seg_fnd hE (ferr_inv h1 (k + 1) (by omega)) (hs (k + 1) hk) (by omega) s h
theorem nth_mem {T : List ByteArray} {j : Nat} (h : j < T.length) : nth T j ∈ T := by
  show T.getD j ⟨#[]⟩ ∈ T
  rw [List.getD_eq_getElem?_getD, List.getElem?_eq_getElem h]
  exact List.getElem_mem h
end
end Route
end Go.Proofs.YtmkglhoahdlogaaGreatDoor
namespace Go.Proofs.YtmkglhoahdlogaaGreatDoor
open Go.RowKit
namespace Kit
/-- n elements of C cells each. -/
def rowG (C : Nat) (f : Nat → Nat → Value) : Nat → List Value
  | 0 => []
  | n + 1 => rowG C f n ++ (List.range C).map fun j => f n j
theorem rowG_len (C : Nat) (f : Nat → Nat → Value) : ∀ n, (rowG C f n).length = n * C
  | 0 => by simp [rowG]
  | n + 1 => by rw [rowG, List.length_append, rowG_len C f n]; simp [Nat.succ_mul]
theorem rowG_get {C : Nat} {f : Nat → Nat → Value} : ∀ {n i j : Nat}, i < n → j < C → (rowG C f n)[i * C + j]? = some (f i j)
  | 0, _, _, h, _ => by omega
  | n + 1, i, j, h, hj => by
    rw [rowG]
    rcases Nat.lt_or_ge i n with hl | hl
    · rw [List.getElem?_append_left (by
        rw [rowG_len]
        have : i * C + C ≤ n * C := by have := Nat.mul_le_mul_right C (show i + 1 ≤ n by omega); rw [Nat.succ_mul] at this; exact this
        omega)]
      exact rowG_get hl hj
    · obtain rfl : i = n := by omega
      rw [List.getElem?_append_right (by rw [rowG_len]; omega), rowG_len, show i * C + j - i * C = j from by omega]
      simp [hj]
theorem rowG_at {C : Nat} {f : Nat → Nat → Value} {n k : Nat} {u : Value} (h : (rowG C f n)[k]? = some u) : k / C < n ∧ k % C < C ∧ u = f (k / C) (k % C) := by
  have hk : k < n * C := by
    have := (List.getElem?_eq_some_iff.1 h).1
    rwa [rowG_len] at this
  have hC : 0 < C := by
    rcases Nat.eq_zero_or_pos C with h0 | h0
    · subst h0; omega
    · exact h0
  have h1 : k / C < n := Nat.div_lt_of_lt_mul (by rw [Nat.mul_comm]; exact hk)
  have h2 : k % C < C := Nat.mod_lt _ hC
  have h3 := rowG_get (f := f) h1 h2
  rw [show k / C * C + k % C = k from by rw [Nat.mul_comm]; exact Nat.div_add_mod k C, h] at h3
  exact ⟨h1, h2, Option.some.inj h3⟩
theorem rowG_one {C : Nat} {f : Nat → Nat → Value} {n : Nat} (h1 : ∀ i j, (f i j).oneCell' = true) : ∀ u ∈ rowG C f n, u.oneCell' = true := by
  intro u hu
  obtain ⟨k, hk⟩ := List.getElem?_of_mem hu
  rw [(rowG_at hk).2.2]; exact h1 _ _
theorem rowG_congr {C : Nat} {f g : Nat → Nat → Value} : ∀ {n : Nat}, (∀ i, i < n → ∀ j, j < C → f i j = g i j) → rowG C f n = rowG C g n
  | 0, _ => rfl
  | n + 1, h => by
    rw [rowG, rowG, rowG_congr (n := n) (fun i hi j hj => h i (by omega) j hj)]
    congr 1
    apply List.map_congr_left
    intro j hj
    rw [h n (by omega) j (List.mem_range.1 hj)]
/-- The slice value v holds the rows, in memory from block base on. -/
abbrev OwnG (w : World) (base : Nat) (E : TypeId) (C : Nat) (v : Value) (n : Nat) (f : Nat → Nat → Value) : Prop := w.ownsRow base E C v n (rowG C f n)
/-- The rows of an own slice, cell by cell. -/
structure GAt (w : World) (g n C : Nat) (f : Nat → Nat → Value) : Prop where
  cell : ∀ i, i < n → ∀ j, j < C → w.cell? ⟨g, i * C + j, none⟩ = some (f i j)
  free : ∀ k, w.frozen? ⟨g, k, none⟩ = false
theorem ownG_row {w : World} {base : Nat} {E : TypeId} {C n : Nat} {v : Value} {f : Nat → Nat → Value} (h : OwnG w base E C v n f) (h0 : 0 < n) : ∃ g cap, v = .slice (some ⟨g, 0, none⟩) n cap ∧ base ≤ g ∧ g < w.heap.size ∧ n ≤ cap ∧ cap ≤ maxLen ∧ GAt w g n C f := by
  have hh := h
  rcases h.2 with ⟨_, h1⟩ | ⟨g, cap, cur, hv, hb, hg, hnc, hcm, _⟩
  · omega
  · subst hv
    have hlt : g < w.heap.size := by
      rcases Nat.lt_or_ge g w.heap.size with hl | hl
      · exact hl
      · rw [Array.getElem?_eq_none hl] at hg; cases hg
    refine ⟨g, cap, rfl, hb, hlt, hnc, hcm, fun i hi j hj => ?_, fun k => hh.frozenAt k⟩
    have hlt : i * C + j < n * C := by
      have := Nat.mul_le_mul_right C (show i + 1 ≤ n by omega); rw [Nat.succ_mul] at this; omega
    rw [hh.cellAt _ hlt]
    exact rowG_get hi hj
theorem gat_keep {w w1 : World} {g n C : Nat} {f : Nat → Nat → Value} (hb : Below w.heap.size w w1) (hg : g < w.heap.size) (h : GAt w g n C f) : GAt w1 g n C f :=
  ⟨fun i hi j hj => keep hb (h.cell i hi j hj), fun k => (hb.frozen (p := ⟨g, k, none⟩) hg).trans (h.free k)⟩
/-- One number turned. -/
def updG (f : Nat → Nat → Value) (i j : Nat) (x : Value) : Nat → Nat → Value := fun a b => if a = i ∧ b = j then x else f a b
theorem gat_set {w : World} {g n C : Nat} {f : Nat → Nat → Value} (h : GAt w g n C f) {i j : Nat} (hi : i < n) (hj : j < C) (x : Value) : GAt (w.setCell ⟨g, i * C + j, none⟩ x) g n C (updG f i j x) := by
  refine ⟨fun a ha b hb => ?_, fun k => (World.frozen?_setCell _ _ _ _).trans (h.free k)⟩
  unfold updG
  by_cases e : a = i ∧ b = j
  · rw [if_pos e, e.1, e.2]
    exact cset _ (h.cell i hi j hj)
  · rw [if_neg e]
    refine cfar _ (fun he => e ?_) (h.cell a ha b hb)
    injection he with _ h2
    rcases Nat.lt_trichotomy a i with hl | hl | hl
    · have := Nat.mul_le_mul_right C (show a + 1 ≤ i by omega); rw [Nat.succ_mul] at this; omega
    · subst hl; omega
    · have := Nat.mul_le_mul_right C (show i + 1 ≤ a by omega); rw [Nat.succ_mul] at this; omega
/-- A source that reads as rows. -/
theorem src_G {w : World} {b off n C : Nat} {f : Nat → Nat → Value} (h : ∀ i, i < n → ∀ j, j < C → w.cell? ⟨b, off + i * C + j, none⟩ = some (f i j)) :
    ∀ j u, (rowG C f n)[j]? = some u → w.cell? ((⟨b, off, none⟩ : Addr).add j) = some u := by
  intro k u hk
  obtain ⟨h1, h2, rfl⟩ := rowG_at hk
  rw [Go.WideShapes.add_plain]
  have := h (k / C) h1 (k % C) h2
  rw [show off + k / C * C + k % C = off + k from by
    have := Nat.div_add_mod k C
    rw [Nat.mul_comm] at this
    omega] at this
  exact this
theorem ownG_keep {W w1 : World} {base : Nat} {E : TypeId} {C n : Nat} {v : Value} {f : Nat → Nat → Value} (hb : Below W.heap.size W w1) (h : OwnG W base E C v n f) : OwnG w1 base E C v n f := by
  refine ⟨h.1, ?_⟩
  rcases h.2 with hh | ⟨g, cap, cur, hv, h1, hg, h2⟩
  · exact Or.inl hh
  · have hlt : g < W.heap.size := by
      rcases Nat.lt_or_ge g W.heap.size with hl | hl
      · exact hl
      · rw [Array.getElem?_eq_none hl] at hg; cases hg
    exact Or.inr ⟨g, cap, cur, hv, h1, (hb.block g hlt).trans hg, h2⟩
theorem ownG_ge {W : World} {base : Nat} {E : TypeId} {C n : Nat} {v : Value} {f : Nat → Nat → Value} (h : OwnG W base E C v n f) : ∀ k, v.ownBlock = some k → base ≤ k := by
  intro k hk
  rcases h.2 with ⟨rfl, -⟩ | ⟨g, cap, cur, rfl, h1, -⟩
  · simp [Value.ownBlock] at hk
  · simp [Value.ownBlock] at hk; omega
theorem ownG_nil (w : World) (base : Nat) (E : TypeId) (C : Nat) (f : Nat → Nat → Value) : OwnG w base E C (.slice none 0 0) 0 f := ⟨by simp [rowG], Or.inl ⟨rfl, rfl⟩⟩
theorem growG_below {N : Nat} {W w w1 : World} {v : Value} {base : Nat} {E : TypeId} {C n : Nat} {f : Nat → Nat → Value} (hb : Below N W w) (h : OwnG w base E C v n f) (hg : w.grownBy w1 v.ownBlock) (hN : N ≤ base) (hs : N ≤ w.heap.size) : Below N W w1 :=
  hb.grown hg hs (fun k hk => Nat.le_trans hN (ownG_ge h k hk))
theorem ownG_made {w : World} {base : Nat} {E : TypeId} {C n : Nat} {f : Nat → Nat → Value} (cs : Array Value) (hb : base ≤ w.heap.size) (hn : n ≤ maxLen) (h : cs.toList = rowG C f n) : OwnG (w.alloc (.cells cs E)) base E C (.slice (some ⟨w.heap.size, 0, none⟩) n n) n f := by
  have hs : cs.size = n * C := by rw [← Array.length_toList, h, rowG_len]
  exact ⟨rowG_len C f n, Or.inr ⟨w.heap.size, n, cs, rfl, hb, heap_alloc_new w _, Nat.le_refl _, hn, hs, by rw [h]; exact List.take_of_length_le (by rw [rowG_len]; exact Nat.le_refl _)⟩⟩
theorem ownG_congr {w : World} {base : Nat} {E : TypeId} {C n : Nat} {v : Value} {f f' : Nat → Nat → Value} (h : OwnG w base E C v n f) (e : ∀ i, i < n → ∀ j, j < C → f i j = f' i j) : OwnG w base E C v n f' := by
  show w.ownsRow base E C v n (rowG C f' n)
  rw [← rowG_congr e]; exact h
theorem rowG_upd {C : Nat} {f : Nat → Nat → Value} {n i j : Nat} (hi : i < n) (hj : j < C) (x : Value) : rowG C (updG f i j x) n = (rowG C f n).set (i * C + j) x := by
  have hlt : i * C + j < n * C := by
    have := Nat.mul_le_mul_right C (show i + 1 ≤ n by omega); rw [Nat.succ_mul] at this; omega
  refine List.ext_getElem? fun k => ?_
  rcases Nat.lt_or_ge k (n * C) with hk | hk
  · have hC : 0 < C := by omega
    have h1 : k / C < n := Nat.div_lt_of_lt_mul (by rw [Nat.mul_comm]; exact hk)
    have h2 : k % C < C := Nat.mod_lt _ hC
    have hk' : k / C * C + k % C = k := by rw [Nat.mul_comm]; exact Nat.div_add_mod k C
    have g1 := rowG_get (f := updG f i j x) h1 h2
    have g2 := rowG_get (f := f) h1 h2
    rw [hk'] at g1 g2
    rw [g1, List.getElem?_set]
    by_cases e : i * C + j = k
    · rw [if_pos e, if_pos (by rw [rowG_len]; exact hlt)]
      have q1 : k / C = i := by rw [← e, Nat.mul_comm, Nat.mul_add_div hC, Nat.div_eq_of_lt hj]; rfl
      have q2 : k % C = j := by rw [← e, Nat.mul_comm, Nat.mul_add_mod, Nat.mod_eq_of_lt hj]
      rw [q1, q2]; unfold updG; rw [if_pos ⟨rfl, rfl⟩]
    · rw [if_neg e, g2]
      unfold updG
      rw [if_neg]
      rintro ⟨q1, q2⟩
      rw [q1, q2] at hk'
      exact e hk'
  · rw [List.getElem?_eq_none (by rw [rowG_len]; exact hk), List.getElem?_eq_none (by rw [List.length_set, rowG_len]; exact hk)]
/-- A number turned in an own row. -/
theorem ownG_set {w : World} {base g cap : Nat} {E : TypeId} {C n : Nat} {f : Nat → Nat → Value} (h : OwnG w base E C (.slice (some ⟨g, 0, none⟩) n cap) n f) {i j : Nat} (hi : i < n) (hj : j < C) (x : Value) : OwnG (w.setCell ⟨g, i * C + j, none⟩ x) base E C (.slice (some ⟨g, 0, none⟩) n cap) n (updG f i j x) := by
  have hlt : i * C + j < n * C := by
    have := Nat.mul_le_mul_right C (show i + 1 ≤ n by omega); rw [Nat.succ_mul] at this; omega
  refine ⟨rowG_len C _ n, ?_⟩
  rcases h.2 with ⟨e, -⟩ | ⟨g', cap', cur, e, hb, hg, h1, h2, h3, h4⟩
  · cases e
  · injection e with e1 e2 e3
    injection e1 with e1
    injection e1 with e1 _
    subst e1 e3
    refine Or.inr ⟨g, cap, cur.setIfInBounds (i * C + j) x, rfl, hb, ?_, h1, h2, by simpa using h3, ?_⟩
    · simp [World.setCell, Array.getElem?_modify, hg]
    · rw [Array.toList_setIfInBounds, List.take_set, h4, rowG_upd hi hj]
end Kit
end Go.Proofs.YtmkglhoahdlogaaGreatDoor
