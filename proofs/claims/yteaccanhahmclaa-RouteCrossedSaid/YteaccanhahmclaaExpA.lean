/- route.Expand: which names are airways' (its closure); chart.Find's contract. -/
import Derived.Test.YteaccanhahmclaaChN
import Derived.Test.YteaccanhahmclaaPlanC
namespace Go.Proofs.Yteaccanhahmclaa
open Go.RowKit
namespace Route
open Kit Plane Chart
/-- Whether a name is an airway's. -/
def aw (m : Nat) (M : Nat → ByteArray) (s : ByteArray) : Bool := decide (0 ≤ fix M s m)
set_option maxRecDepth 100000 in
set_option maxHeartbeats 2000000 in
theorem aclos_e (a : ByteArray) (A : Option Addr) (n cap B8 pi b off q c i : Nat) (s : ByteArray) (w : World) (hi : i < q) (_hc : q ≤ c) (_hm : c ≤ 9223372036854775807) (h8 : w.cell? ⟨B8, 0, none⟩ = some (.slice (some ⟨b, off, none⟩) q c)) (hp : w.cell? ⟨pi, 0, none⟩ = some (.int .i64 i)) (hs : w.cell? ⟨b, off + i, none⟩ = some (.string s)) :
    Calls Try.prog 108 #[.agg #[.string a, .slice A n cap], .pointer (some ⟨B8, 0, none⟩), .pointer (some ⟨pi, 0, none⟩)] w fun e w' => e = .returned (.bool (decide (a = s))) ∧ Below w.heap.size w w' := by
  have W1 := Lib.hid (b_alloc (Below.refl w.heap.size w) (.cells #[.string a, .slice A n cap] 60))
  obtain ⟨w1, hw1⟩ : ∃ w1, w1 = w.alloc (.cells #[.string a, .slice A n cap] 60) := ⟨_, rfl⟩
  have C0 : Hid (w1.cell? ⟨B8, 0, none⟩ = some (.slice (some ⟨b, off, none⟩) q c)) := Lib.hid (by rw [hw1]; exact keepA _ h8)
  have C1 : Hid (w1.cell? ⟨pi, 0, none⟩ = some (.int .i64 i)) := Lib.hid (by rw [hw1]; exact keepA _ hp)
  have C2 : Hid (w1.cell? ⟨b, off + i, none⟩ = some (.string s)) := Lib.hid (by rw [hw1]; exact keepA _ hs)
  have C3 : Hid (w1.cell? ⟨w.heap.size, 0, none⟩ = some (.string a)) := Lib.hid (by rw [hw1]; simp)
  have H1 : Hid (w.alloc (.cells #[.string a, .slice A n cap] 60) = w1) := Lib.hid hw1.symm
  have W2 : Hid (Below w.heap.size w w1) := Lib.hid (by rw [hw1]; exact W1.out)
  clear hw1 h8 hp hs W1
  have hl : (i : Int) < (q : Int) := by omega
  have hq := seq_eq a s
  generalize decide (a = s) = d at *
  have HQ := Lib.hid hq; clear hq
  go_enter Try.func108, Try.ntmps108
  go_wp2_with fail
  rw [H1.out]
  refine d_region (by kernel_rfl) (by kernel_rfl) ?_
  repeat
    first
      | (refine d_plain (by with_reducible rfl) ?_; apply Exists.intro; refine ⟨fun wq hc hq => ?_, ?_⟩)
      | (refine d_on (by with_reducible rfl) (by rfl) (by with_reducible rfl) ?_; apply Exists.intro; refine ⟨fun wq hc hq => ?_, ?_⟩)
      | (refine d_off (by with_reducible rfl) (by rfl) (by rfl) ?_)
      | (refine d_void (by with_reducible rfl) (by rfl) ?_)
    try any_goals
      (have q0 := keep (cls hq) C0.out; have q1 := keep (cls hq) C1.out; have q2 := keep (cls hq) C2.out; have q3 := keep (cls hq) C3.out; clear hc
       go_simp
       first
         | rfl)
    simp only [Act.put, List.setIfInBounds_toArray, List.set_cons_zero, List.set_cons_succ]
  refine d_nil ?_
  intro w2 hb2
  have hq := HQ.out
  go_wp2_with fail
  go_ret
  exact ⟨by first | rfl | exact retb hq, b_next W2.out hb2⟩
set_option maxRecDepth 100000 in
set_option maxHeartbeats 2000000 in
theorem aidx_e (n cap b off B8 pi b' off' q c i : Nat) (M : Nat → ByteArray) (l : Nat → Nat) (S : Nat → Nat → ByteArray) (s : ByteArray) (w : World) (hm : cap ≤ 9223372036854775807) (hc : n ≤ cap) (HV : Hid (∀ k, k < n → A2 w b off k (M k) (l k) (S k)))
    (hi : i < q) (hc' : q ≤ c) (hm' : c ≤ 9223372036854775807) (H8 : Hid (w.cell? ⟨B8, 0, none⟩ = some (.slice (some ⟨b', off', none⟩) q c))) (HP : Hid (w.cell? ⟨pi, 0, none⟩ = some (.int .i64 i))) (HS : Hid (w.cell? ⟨b', off' + i, none⟩ = some (.string s))) :
    Calls Try.prog 127 #[.slice (some ⟨b, off, none⟩) n cap, .func (.func 108) #[] #[.pointer (some ⟨B8, 0, none⟩), .pointer (some ⟨pi, 0, none⟩)]] w fun e w' => e = .returned (.int .i64 (fix M s n)) ∧ Below w.heap.size w w' := by
  go_enter Try.func127, Try.ntmps127
  obtain ⟨r, hr⟩ : ∃ r, r = fix M s n := ⟨_, rfl⟩
  rw [← hr]
  have HR := Lib.hid hr; clear hr
  go_wp2_with fail
  go_loopw [5, 8] (fun _ t wr => ∃ k : Nat, k ≤ n ∧ t = .int .i64 k ∧ (∀ j, j < k → decide (M j = s) = false) ∧ Below w.heap.size w wr) (fun _ t _ => n - (intOf t).toNat)
  case atStart => exact ⟨0, Nat.zero_le _, rfl, fun j hj => absurd hj (Nat.not_lt_zero j), Below.refl _ _⟩
  case round =>
    obtain ⟨k, hk, rfl, hno, hbl⟩ := hrel
    have HN := Lib.hid hno; have HB := Lib.hid hbl; clear hno
    by_cases hlt : k < n
    · obtain ⟨c0, v, c1, hsv⟩ := a2_keep hbl (HV.out k hlt)
      have hl : (k : Int) < (n : Int) := by omega
      obtain ⟨A, ca, rfl⟩ := sv_slice hsv
      have hcall := aclos_e (M k) A (l k) ca B8 pi b' off' q c i s wr hi hc' hm' (keep hbl H8.out) (keep hbl HP.out) (keep hbl HS.out)
      have HST := Lib.hid (show ∀ hh : decide (M k = s) = false, ∀ j, j < k + 1 → decide (M j = s) = false from fun hh j hj => by
        rcases Nat.lt_or_ge j k with hl | hl
        · exact HN.out j hl
        · rw [show j = k from by omega]; exact hh)
      have HT := Lib.hid (show ∀ hh : decide (M k = s) = true, r = k from fun hh => by rw [HR.out]; exact fnd_at HN.out hh n hlt)
      clear hbl hsv
      generalize decide (M k = s) = d at *
      cases d with
      | true =>
        have e := HT.out rfl
        subst e
        go_wp2_with fail
        (with_reducible refine hcall.mono ?_); rintro e w' ⟨rfl, hb'⟩
        go_wp2_with fail
        go_ret
        exact ⟨rfl, b_next HB.out hb'⟩
      | false =>
        go_wp2_with fail
        (with_reducible refine hcall.mono ?_); rintro e w' ⟨rfl, hb'⟩
        go_wp2_with fail
        exact ⟨⟨k + 1, by omega, by go_num, (by first | exact HST.out rfl | exact HST.out trivial), b_next HB.out hb'⟩, by simp [intOf]; omega⟩
    · have he : k = n := by omega
      have hl : ¬ (k : Int) < (n : Int) := by omega
      have e : r = -1 := by rw [HR.out]; exact fnd_no (fun j hj => HN.out j (by omega))
      subst e
      clear hbl
      go_wp2_with fail
      go_ret
      exact ⟨rfl, HB.out⟩
theorem acontE {v u : Value} {n q : Nat} {M : Nat → ByteArray} {l : Nat → Nat} {S : Nat → Nat → ByteArray} {I : Nat → ByteArray} {w : World} (hv : AV w v n M l S) (B8 pi i : Nat) (hi : i < q) (hu : SV w u q I) (h8 : w.cell? ⟨B8, 0, none⟩ = some u) (hp : w.cell? ⟨pi, 0, none⟩ = some (.int .i64 i)) :
    Calls Try.prog 107 #[v, .func (.func 108) #[] #[.pointer (some ⟨B8, 0, none⟩), .pointer (some ⟨pi, 0, none⟩)]] w fun e w' => e = .returned (.bool (aw n M (I i))) ∧ Below w.heap.size w w' := by
  obtain ⟨b', off', c, rfl, hc', hm', hcell⟩ := sv_at hu (by omega)
  refine acont_w v _ _ w (Lib.hid fun w1 hb => ?_)
  have hv1 := av_keep hb hv
  have g8 := keep hb h8; have gp := keep hb hp; have gs := keep hb (hcell i hi)
  rcases hv1 with ⟨rfl, h⟩ | ⟨h0, b, off, cap, rfl, hc, hm, HV⟩
  · obtain ⟨A, cap, rfl⟩ := nil0_slice h
    exact aidx_none A cap _ w1
  · exact aidx_e n cap b off B8 pi b' off' q c i M l S (I i) w1 (Nat.le_trans hm (by decide)) hc (Lib.hid HV) hi hc' (Nat.le_trans hm' (by decide)) (Lib.hid g8) (Lib.hid gp) (Lib.hid gs)
/-- The closure 'airway': whether item i is an airway's name. -/
theorem airC {fx a : Value} {n q : Nat} {M : Nat → ByteArray} {l : Nat → Nat} {S : Nat → Nat → ByteArray} {I : Nat → ByteArray} {u : Value} {W : World} {B3 B8 : Nat} (hv : AV W a n M l S) (hu : SV W u q I) (h3 : P2V W B3 fx a) (h8 : W.cell? ⟨B8, 0, none⟩ = some u) {i : Nat} (hi : i < q) : ∀ w, Below W.heap.size W w →
    Calls Try.prog 106 #[.int .i64 i, .pointer (some ⟨B3, 0, none⟩), .pointer (some ⟨B8, 0, none⟩)] w fun e w' => e = .returned (.bool (aw n M (I i))) ∧ Below w.heap.size w w' := fun w hbw => by
  have W1 := Lib.hid (b_alloc (Below.refl w.heap.size w) (.cells #[.int .i64 i] 3))
  obtain ⟨w1, hw1⟩ : ∃ w1, w1 = w.alloc (.cells #[.int .i64 i] 3) := ⟨_, rfl⟩
  have hb1 : Below W.heap.size W w1 := by rw [hw1]; exact b_next hbw W1.out
  have hp : w1.cell? ⟨w.heap.size, 0, none⟩ = some (.int .i64 i) := by rw [hw1]; simp
  have K := Lib.hid (acontE (av_keep hb1 hv) B8 w.heap.size i hi (sv_keep hb1 hu) (keep hb1 h8) hp)
  have W2 : Hid (Below w.heap.size w w1) := Lib.hid (by rw [hw1]; exact W1.out)
  have H1 : Hid (w.alloc (.cells #[.int .i64 i] 3) = w1) := Lib.hid hw1.symm
  obtain ⟨A, ca, rfl⟩ := av_slice hv
  have x0 := keep hbw h3.1
  have x1 := keep hbw h3.2
  have nn := new_ne x0
  clear hw1 W1 hp hb1 hv hu h8
  generalize aw n M (I i) = d at *
  go_enter Try.func106, Try.ntmps106
  go_wp2_with fail
  rw [H1.out]
  (with_reducible refine K.out.mono ?_); rintro e w2 ⟨rfl, hb⟩
  have W3 := Lib.hid (b_next W2.out hb); clear hb x0 x1
  go_wp2_with fail
  go_ret
  exact ⟨rfl, W3.out⟩
set_option maxHeartbeats 1000000 in
theorem find_no (fx aw : Value) (s : ByteArray) (r : Int) (w : World) (hr : r < 0) (C : Hid (CcC (.agg #[fx, aw]) 0 w)) (IX : Hid (∀ w1, Below w.heap.size w w1 → Calls Try.prog 63 #[.agg #[fx, aw], .string s] w1 fun e w' => e = .returned (.int .i64 r) ∧ Below w1.heap.size w1 w')) :
    Calls Try.prog 109 #[.agg #[fx, aw], .string s] w fun e w' => e = .returned (.tuple #[.agg #[.string ⟨#[]⟩, .int .i64 0, .int .i64 0], .int .i64 6]) ∧ Below w.heap.size w w' := by
  have W0 := Lib.hid (b_alloc (b_alloc (Below.refl w.heap.size w) (.cells #[fx, aw] 38)) (.cells #[.string ⟨#[]⟩, .int .i64 0, .int .i64 0] 45))
  have B0 := Lib.hid (p2v_keep (b_alloc (Below.refl _ _) (.cells #[.string ⟨#[]⟩, .int .i64 0, .int .i64 0] 45)) (p2v_new w 38 (fx) aw))
  have s0 := s3_new (w.alloc (.cells #[fx, aw] 38)) 45 ⟨#[]⟩ 0 0
  rw [World.size_alloc] at s0
  have S0 := Lib.hid s0; clear s0
  have Z0 : Hid (∀ k, ((w.alloc (.cells #[fx, aw] 38)).alloc (.cells #[.string ⟨#[]⟩, .int .i64 0, .int .i64 0] 45)).frozen? ⟨w.heap.size + 1, k, none⟩ = false) := Lib.hid fun k => by
    have : w.heap.size + 1 = (w.alloc (.cells #[fx, aw] 38)).heap.size := by simp
    rw [this]; simp
  have L0 : Hid (w.heap.size + 1 < ((w.alloc (.cells #[fx, aw] 38)).alloc (.cells #[.string ⟨#[]⟩, .int .i64 0, .int .i64 0] 45)).heap.size) := Lib.hid (by simp)
  go_enter Try.func109, Try.ntmps109
  go_wp2_with fail
  (with_reducible refine (C.out _ W0.out).mono ?_); rintro e w1 ⟨rfl, hb⟩
  have W1 := Lib.hid (b_next W0.out hb); have B1 := Lib.hid (p2v_keep hb B0.out); have S1 := Lib.hid (s3_keep hb S0.out)
  have Z1 : Hid (∀ k, w1.frozen? ⟨w.heap.size + 1, k, none⟩ = false) := Lib.hid fun k => (hb.frozen (p := ⟨w.heap.size + 1, k, none⟩) L0.out).trans (Z0.out k)
  have L1 : Hid (w.heap.size + 1 < w1.heap.size) := Lib.hid (Nat.lt_of_lt_of_le L0.out hb.size)
  clear hb
  obtain ⟨x0, x1⟩ := B1.out
  go_wp2_with fail
  (with_reducible refine (IX.out _ W1.out).mono ?_); rintro e w2 ⟨rfl, hb⟩
  have W2 := Lib.hid (b_next W1.out hb); clear x0 x1
  obtain ⟨x0, x1⟩ := p2v_keep hb B1.out
  obtain ⟨y0, y1, y2⟩ := s3_keep hb S1.out
  have z := fun k => (hb.frozen (p := ⟨w.heap.size + 1, k, none⟩) L1.out).trans (Z1.out k)
  have z0 := z 0; have z1 := z 1; have z2 := z 2
  clear hb z
  have S3' := s3_set ⟨y0, y1, y2⟩ ⟨#[]⟩ 0 0
  go_wp2_with fail
  refine bodyPost_ret (v := .tuple #[.agg #[.string ⟨#[]⟩, .int .i64 0, .int .i64 0], .int .i64 6]) (by simp [results, Try.results109, go_sem, S3'.c0, S3'.c1, S3'.c2]) rfl ⟨rfl, b_set (b_set (b_set W2.out (Nat.le_succ _) _) (Nat.le_succ _) _) (Nat.le_succ _) _⟩
/-- What chart.Find returns, the chart being right. -/
def fndV (n : Nat) (N : Nat → ByteArray) (X Y : Nat → Int) (s : ByteArray) : Value :=
  if fix N s n < 0 then .tuple #[.agg #[.string ⟨#[]⟩, .int .i64 0, .int .i64 0], .int .i64 6] else .tuple #[.agg #[.string s, .int .i64 (X (pos n N s)), .int .i64 (Y (pos n N s))], .int .i64 0]
theorem fix_some {N : Nat → ByteArray} {s : ByteArray} {n : Nat} (h : ¬ fix N s n < 0) : pos n N s < n ∧ N (pos n N s) = s ∧ fix N s n = (pos n N s : Int) := by
  obtain ⟨k, h1, h2, h3, -⟩ := fnd_pos (p := fun k => decide (N k = s)) (n := n) (Int.not_lt.1 h)
  have e : pos n N s = k := by unfold pos fix; rw [h2]; exact Int.toNat_natCast k
  rw [e]
  exact ⟨h1, of_decide_eq_true h3, h2⟩
theorem findC {c : Value} {n : Nat} {N : Nat → ByteArray} {X Y : Nat → Int} {m : Nat} {M : Nat → ByteArray} {l : Nat → Nat} {S : Nat → Nat → ByteArray} {W : World} (hv : CV W c n N X Y m M l S) (hE : cerr n N X Y m M l S = 0) (s : ByteArray) : ∀ w, Below W.heap.size W w →
    Calls Try.prog 109 #[c, .string s] w fun e w' => e = .returned (fndV n N X Y s) ∧ Below w.heap.size w w' := fun w hbw => by
  have C : CcC c 0 w := fun w1 hb => by have h := checkC (cv_keep (b_next hbw hb) hv); rw [hE] at h; exact h
  obtain ⟨fx, a, rfl, h1, h2⟩ := (cv_keep hbw hv).ex
  have IX := fun w1 (hb : Below w.heap.size w w1) => indexC (aw := a) (fv_keep hb h1) s
  unfold fndV
  by_cases h : fix N s n < 0
  · rw [if_pos h]
    exact find_no fx a s _ w h (Lib.hid C) (Lib.hid IX)
  · rw [if_neg h]
    obtain ⟨g1, g2, g3⟩ := fix_some h
    obtain ⟨b, off, cap, rfl, hc, hm, hcell⟩ := fv_at h1 (by omega)
    rw [g3] at IX
    have := find_ok b off n cap (pos n N s) a N X Y s w g1 hc (Nat.le_trans hm (by decide)) (Lib.hid C) (Lib.hid hcell) (Lib.hid IX)
    rw [g2] at this
    exact this
end Route
end Go.Proofs.Yteaccanhahmclaa
