/- Volumes on a route, in memory; slices.IndexFunc and slices.ContainsFunc at them. -/
import Derived.Test.YteaccanhahmclaaChA
import Derived.Test.YteaccanhahmclaaVolD
import Derived.Test.YteaccanhahmclaaVolH
namespace Go.Proofs.Yteaccanhahmclaa
open Go.RowKit
namespace Route
open Kit Plane Poly Chart Vol
/-- What a volume on a route is. -/
structure Vd where
  N : ByteArray
  l : Int
  h : Int
  n : Nat
  X : Nat → Int
  Y : Nat → Int
  m : Nat
  F : Nat → Int
  T : Nat → Int
/-- One volume. -/
structure R5 (w : World) (b off k : Nat) (s : ByteArray) (a : Value) (l h : Int) (c : Value) : Prop where
  c0 : w.cell? ⟨b, off + k * 5, none⟩ = some (.string s)
  c1 : w.cell? ⟨b, off + k * 5 + 1, none⟩ = some a
  c2 : w.cell? ⟨b, off + k * 5 + 2, none⟩ = some (.int .i64 l)
  c3 : w.cell? ⟨b, off + k * 5 + 3, none⟩ = some (.int .i64 h)
  c4 : w.cell? ⟨b, off + k * 5 + 4, none⟩ = some c
theorem r5_keep {W w1 : World} (hb : Below W.heap.size W w1) {b off k : Nat} {s : ByteArray} {a c : Value} {l h : Int} (x : R5 W b off k s a l h c) : R5 w1 b off k s a l h c := ⟨keep hb x.c0, keep hb x.c1, keep hb x.c2, keep hb x.c3, keep hb x.c4⟩
/-- One volume, whole. -/
def RvAt (w : World) (b off k : Nat) (d : Vd) : Prop := ∃ a c, R5 w b off k d.N a d.l d.h c ∧ QV w a d.n d.X d.Y ∧ QV w c d.m d.F d.T
theorem rvat_keep {W w1 : World} (hb : Below W.heap.size W w1) {b off k : Nat} {d : Vd} (h : RvAt W b off k d) : RvAt w1 b off k d := by
  obtain ⟨a, c, h1, h2, h3⟩ := h
  exact ⟨a, c, r5_keep hb h1, qv_keep hb h2, qv_keep hb h3⟩
/-- Volumes. -/
def RV (w : World) (v : Value) (n : Nat) (D : Nat → Vd) : Prop :=
  (n = 0 ∧ Nil0 v) ∨ (0 < n ∧ ∃ b off cap, v = .slice (some ⟨b, off, none⟩) n cap ∧ n ≤ cap ∧ cap ≤ maxLen ∧ ∀ k, k < n → RvAt w b off k (D k))
theorem rv_keep {W w1 : World} (hb : Below W.heap.size W w1) {v : Value} {n : Nat} {D : Nat → Vd} (h : RV W v n D) : RV w1 v n D := by
  rcases h with h | ⟨h0, b, off, cap, hv, h1, h2, h3⟩
  · exact Or.inl h
  · exact Or.inr ⟨h0, b, off, cap, hv, h1, h2, fun k hk => rvat_keep hb (h3 k hk)⟩
theorem rv_at {w : World} {v : Value} {n : Nat} {D : Nat → Vd} (h : RV w v n D) (h0 : 0 < n) : ∃ b off cap, v = .slice (some ⟨b, off, none⟩) n cap ∧ n ≤ cap ∧ cap ≤ maxLen ∧ ∀ k, k < n → RvAt w b off k (D k) := by
  rcases h with ⟨h1, -⟩ | ⟨-, h⟩
  · omega
  · exact h
theorem rv_slice {w : World} {v : Value} {n : Nat} {D : Nat → Vd} (h : RV w v n D) : ∃ A cap, v = .slice A n cap ∧ n ≤ cap ∧ cap ≤ maxLen := by
  rcases h with ⟨rfl, rfl | ⟨a, cap, rfl, hm⟩⟩ | ⟨h0, b, off, cap, rfl, h1, h2, h3⟩
  · exact ⟨_, _, rfl, Nat.le_refl _, Nat.zero_le _⟩
  · exact ⟨_, _, rfl, Nat.zero_le _, hm⟩
  · exact ⟨_, _, rfl, h1, h2⟩
theorem rv_take {w : World} {b off cap n : Nat} {D : Nat → Vd} (h : ∀ k, k < n → RvAt w b off k (D k)) (hc : n ≤ cap) (hm : cap ≤ maxLen) {k : Nat} (hk : k ≤ n) : RV w (.slice (some ⟨b, off, none⟩) k cap) k D := by
  rcases Nat.eq_zero_or_pos k with rfl | h0
  · exact Or.inl ⟨rfl, Or.inr ⟨_, _, rfl, hm⟩⟩
  · exact Or.inr ⟨h0, b, off, cap, rfl, by omega, hm, fun j hj => h j (by omega)⟩
/-- An argument of volumes. -/
theorem rv_of {W : World} {v : Value} (h : Frame.Okc W (.sl [.str, .sl [.int, .int], .int, .int, .sl [.int, .int]]) v) : ∃ n D, RV W v n D := by
  rcases Frame.Okc.sl_inv h with rfl | ⟨a, cap, rfl, hc⟩ | ⟨b, off, len, cap, cells, rfl, h0, h1, h2, h3, h4⟩
  · exact ⟨0, fun _ => ⟨⟨#[]⟩, 0, 0, 0, fun _ => 0, fun _ => 0, 0, fun _ => 0, fun _ => 0⟩, Or.inl ⟨rfl, Or.inl rfl⟩⟩
  · exact ⟨0, fun _ => ⟨⟨#[]⟩, 0, 0, 0, fun _ => 0, fun _ => 0, 0, fun _ => 0, fun _ => 0⟩, Or.inl ⟨rfl, Or.inr ⟨_, _, rfl, hc⟩⟩⟩
  · have one : ∀ i, i < len → ∃ d, RvAt W b off i d := fun i hi => by
      obtain ⟨s, e0, -⟩ := (h4 i hi 0 (by decide)).str_inv
      obtain ⟨n, X, Y, q1, -⟩ := qv_of (h4 i hi 1 (by decide))
      obtain ⟨l, e2, -⟩ := (h4 i hi 2 (by decide)).int_inv
      obtain ⟨u, e3, -⟩ := (h4 i hi 3 (by decide)).int_inv
      obtain ⟨m, F, T, q4, -⟩ := qv_of (h4 i hi 4 (by decide))
      exact ⟨⟨s, l, u, n, X, Y, m, F, T⟩, _, _, ⟨by rw [← e0]; exact h3 i hi 0 (by decide), h3 i hi 1 (by decide), by rw [← e2]; exact h3 i hi 2 (by decide), by rw [← e3]; exact h3 i hi 3 (by decide), h3 i hi 4 (by decide)⟩, q1, q4⟩
    classical
    refine ⟨len, fun i => if h : i < len then Classical.choose (one i h) else ⟨⟨#[]⟩, 0, 0, 0, fun _ => 0, fun _ => 0, 0, fun _ => 0, fun _ => 0⟩, Or.inr ⟨h0, b, off, cap, rfl, h1, h2, fun k hk => ?_⟩⟩
    simp only [dif_pos hk]
    exact Classical.choose_spec (one k hk)
theorem vclos (s q : ByteArray) (A C : Option Addr) (n c m d : Nat) (l h : Int) (b : Nat) (w : World) (hq : w.cell? ⟨b, 0, none⟩ = some (.string q)) :
    Calls Try.prog 139 #[.agg #[.string s, .slice A n c, .int .i64 l, .int .i64 h, .slice C m d], .pointer (some ⟨b, 0, none⟩)] w fun e w' => e = .returned (.bool (decide (s = q))) ∧ Below w.heap.size w w' := by
  have W1 := Lib.hid (b_alloc (Below.refl w.heap.size w) (.cells #[.string s, .slice A n c, .int .i64 l, .int .i64 h, .slice C m d] 86))
  have q1 := keep W1.out hq
  go_enter Try.func139, Try.ntmps139
  go_wp2_with fail
  go_ret
  exact ⟨Chart.b_eq (seq_eq s q), W1.out⟩
set_option maxHeartbeats 1000000 in
theorem vidx_none (A : Option Addr) (cap : Nat) (f : Value) (w : World) :
    Calls Try.prog 170 #[.slice A 0 cap, f] w fun e w' => e = .returned (.int .i64 (-1)) ∧ Below w.heap.size w w' := by
  go_enter Try.func170, Try.ntmps170
  go_wp2_with fail
  go_loopw [8] (fun s wr => s = .int .i64 0 ∧ Below w.heap.size w wr) (fun _ _ => 0)
  case atStart => exact ⟨rfl, Below.refl _ _⟩
  case round =>
    obtain ⟨rfl, hbl⟩ := hrel
    go_wp2_with fail
    all_goals (go_ret; exact ⟨rfl, hbl⟩)
set_option maxRecDepth 100000 in
set_option maxHeartbeats 2000000 in
theorem vidx (n cap b off pb : Nat) (D : Nat → Vd) (s : ByteArray) (w : World) (hm : cap ≤ 9223372036854775807) (hc : n ≤ cap) (HV : Hid (∀ k, k < n → RvAt w b off k (D k))) (HQ : Hid (w.cell? ⟨pb, 0, none⟩ = some (.string s))) :
    Calls Try.prog 170 #[.slice (some ⟨b, off, none⟩) n cap, .func (.func 139) #[] #[.pointer (some ⟨pb, 0, none⟩)]] w fun e w' => e = .returned (.int .i64 (fix (fun k => (D k).N) s n)) ∧ Below w.heap.size w w' := by
  go_enter Try.func170, Try.ntmps170
  obtain ⟨r, hr⟩ : ∃ r, r = fix (fun k => (D k).N) s n := ⟨_, rfl⟩
  rw [← hr]
  have HR := Lib.hid hr; clear hr
  go_wp2_with fail
  go_loopw [5, 8] (fun _ t wr => ∃ k : Nat, k ≤ n ∧ t = .int .i64 k ∧ (∀ j, j < k → decide ((D j).N = s) = false) ∧ Below w.heap.size w wr) (fun _ t _ => n - (intOf t).toNat)
  case atStart => exact ⟨0, Nat.zero_le _, rfl, fun j hj => absurd hj (Nat.not_lt_zero j), Below.refl _ _⟩
  case round =>
    obtain ⟨k, hk, rfl, hno, hbl⟩ := hrel
    have HN := Lib.hid hno; have HB := Lib.hid hbl; clear hno
    by_cases hlt : k < n
    · obtain ⟨va, vc, ⟨c0, c1, c2, c3, c4⟩, qa, qc⟩ := rvat_keep hbl (HV.out k hlt)
      have hl : (k : Int) < (n : Int) := by omega
      obtain ⟨A, ca, rfl, -⟩ := qv_slice qa
      obtain ⟨C, cc, rfl, -⟩ := qv_slice qc
      have hcall := vclos (D k).N s A C (D k).n ca (D k).m cc (D k).l (D k).h pb wr (keep hbl HQ.out)
      have HS := Lib.hid (show ∀ hh : decide ((D k).N = s) = false, ∀ j, j < k + 1 → decide ((D j).N = s) = false from fun hh j hj => by
        rcases Nat.lt_or_ge j k with hl | hl
        · exact HN.out j hl
        · rw [show j = k from by omega]; exact hh)
      have HT := Lib.hid (show ∀ hh : decide ((D k).N = s) = true, r = k from fun hh => by rw [HR.out]; exact fnd_at HN.out hh n hlt)
      clear hbl qa qc
      generalize D k = d at *
      obtain ⟨dN, dl, dh, dn, dX, dY, dm, dF, dT⟩ := d
      dsimp only at *
      generalize decide (dN = s) = dd at *
      cases dd with
      | true =>
        have e := HT.out rfl
        subst e
        go_wp2_with fail
        (with_reducible refine hcall.mono ?_); rintro e w' ⟨rfl, hb'⟩
        go_wp2_with fail
        go_ret
        exact ⟨rfl, b_next HB.out hb'⟩
      | false =>
        go_wp2_with fail
        (with_reducible refine hcall.mono ?_); rintro e w' ⟨rfl, hb'⟩
        go_wp2_with fail
        exact ⟨⟨k + 1, by omega, by go_num, (by first | exact HS.out rfl | exact HS.out trivial), b_next HB.out hb'⟩, by simp [intOf]; omega⟩
    · have he : k = n := by omega
      have hl : ¬ (k : Int) < (n : Int) := by omega
      have e : r = -1 := by rw [HR.out]; exact fnd_no (fun j hj => HN.out j (by omega))
      subst e
      clear hbl
      go_wp2_with fail
      go_ret
      exact ⟨rfl, HB.out⟩
theorem vidxC {v : Value} {n : Nat} {D : Nat → Vd} {w : World} (hv : RV w v n D) (pb : Nat) (s : ByteArray) (hq : w.cell? ⟨pb, 0, none⟩ = some (.string s)) :
    Calls Try.prog 170 #[v, .func (.func 139) #[] #[.pointer (some ⟨pb, 0, none⟩)]] w fun e w' => e = .returned (.int .i64 (fix (fun k => (D k).N) s n)) ∧ Below w.heap.size w w' := by
  rcases hv with ⟨rfl, h⟩ | ⟨h0, b, off, cap, rfl, hc, hm, HV⟩
  · rcases h with rfl | ⟨a, cap, rfl, -⟩
    · exact vidx_none none 0 _ w
    · exact vidx_none (some a) cap _ w
  · exact vidx n cap b off pb D s w (Nat.le_trans hm (by decide)) hc (Lib.hid HV) (Lib.hid hq)
set_option maxHeartbeats 1000000 in
theorem vcont_w (v f : Value) (r : Int) (w : World) (H : Hid (∀ w1, Below w.heap.size w w1 → Calls Try.prog 170 #[v, f] w1 fun e w' => e = .returned (.int .i64 r) ∧ Below w1.heap.size w1 w')) :
    Calls Try.prog 138 #[v, f] w fun e w' => e = .returned (.bool (decide (0 ≤ r))) ∧ Below w.heap.size w w' := by
  go_enter Try.func138, Try.ntmps138
  go_wp2_with fail
  (with_reducible refine (H.out _ (Below.refl _ _)).mono ?_); rintro e w1 ⟨rfl, hb⟩
  have HB := Lib.hid hb; clear hb
  go_wp2_with fail
  all_goals (go_ret; exact ⟨rfl, HB.out⟩)
theorem vcontC {v : Value} {n : Nat} {D : Nat → Vd} {w : World} (hv : RV w v n D) (pb : Nat) (s : ByteArray) (hq : w.cell? ⟨pb, 0, none⟩ = some (.string s)) :
    Calls Try.prog 138 #[v, .func (.func 139) #[] #[.pointer (some ⟨pb, 0, none⟩)]] w fun e w' => e = .returned (.bool (decide (0 ≤ fix (fun k => (D k).N) s n))) ∧ Below w.heap.size w w' :=
  vcont_w v _ _ w (Lib.hid fun _ hb => vidxC (rv_keep hb hv) pb s (keep hb hq))
end Route
end Go.Proofs.Yteaccanhahmclaa
