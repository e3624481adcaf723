/- Lists of plans in memory; plantext.known. -/
import Derived.Test.YtddlacjjanincaaDoorPtP
import Derived.Test.YtddlacjjanincaaDoorRowG
namespace Go.Proofs.YtddlacjjanincaaDoor
open Go.RowKit
namespace Pt
open Kit Chart Route Plan Name
/-- A plan. -/
structure Pl where
  c : ByteArray
  k : ByteArray
  f : ByteArray
  t : ByteArray
  x : Int
  y : Int
  z : Int
  r : List ByteArray
abbrev Pl.val (p : Pl) (v : Value) : Value := plan p.c p.k p.f p.t p.x p.y p.z v
abbrev Pl.ok (p : Pl) : Prop := PlOk p.c p.k p.f p.t p.x p.y p.z p.r
abbrev Pl.txt (p : Pl) : ByteArray := ptext p.c p.k p.f p.t p.x p.y p.z p.r
/-- One plan of a list. -/
structure P8 (w : World) (b off k : Nat) (p : Pl) : Prop where
  c0 : w.cell? ⟨b, off + k * 8, none⟩ = some (.string p.c)
  c1 : w.cell? ⟨b, off + k * 8 + 1, none⟩ = some (.string p.k)
  c2 : w.cell? ⟨b, off + k * 8 + 2, none⟩ = some (.string p.f)
  c3 : w.cell? ⟨b, off + k * 8 + 3, none⟩ = some (.string p.t)
  c4 : w.cell? ⟨b, off + k * 8 + 4, none⟩ = some (.int .i64 p.x)
  c5 : w.cell? ⟨b, off + k * 8 + 5, none⟩ = some (.int .i64 p.y)
  c6 : w.cell? ⟨b, off + k * 8 + 6, none⟩ = some (.int .i64 p.z)
  c7 : ∃ v, w.cell? ⟨b, off + k * 8 + 7, none⟩ = some v ∧ SL w v p.r
theorem p8_keep {W w1 : World} (hb : Below W.heap.size W w1) {b off k : Nat} {p : Pl} (h : P8 W b off k p) : P8 w1 b off k p :=
  ⟨keep hb h.c0, keep hb h.c1, keep hb h.c2, keep hb h.c3, keep hb h.c4, keep hb h.c5, keep hb h.c6, h.c7.imp fun _ q => ⟨keep hb q.1, sl_keep hb q.2⟩⟩
/-- Plans. -/
def PV (w : World) (v : Value) (n : Nat) (P : Nat → Pl) : Prop :=
  (n = 0 ∧ Nil0 v) ∨ (0 < n ∧ ∃ b off cap, v = .slice (some ⟨b, off, none⟩) n cap ∧ n ≤ cap ∧ cap ≤ maxLen ∧ ∀ k, k < n → P8 w b off k (P k))
theorem pv_keep {W w1 : World} (hb : Below W.heap.size W w1) {v : Value} {n : Nat} {P : Nat → Pl} (h : PV W v n P) : PV w1 v n P := by
  rcases h with h | ⟨h0, b, off, cap, hv, h1, h2, h3⟩
  · exact Or.inl h
  · exact Or.inr ⟨h0, b, off, cap, hv, h1, h2, fun k hk => p8_keep hb (h3 k hk)⟩
theorem pv_slice {w : World} {v : Value} {n : Nat} {P : Nat → Pl} (h : PV w v n P) : ∃ A cap, v = .slice A n cap ∧ n ≤ cap ∧ cap ≤ maxLen := by
  rcases h with ⟨rfl, h⟩ | ⟨h0, b, off, cap, rfl, h1, h2, h3⟩
  · rcases h with rfl | ⟨a, cap, rfl, hc⟩
    · exact ⟨_, _, rfl, Nat.le_refl _, Nat.zero_le _⟩
    · exact ⟨_, _, rfl, Nat.zero_le _, hc⟩
  · exact ⟨_, _, rfl, h1, h2⟩
/-- A beginning of the list. -/
theorem pv_take {w : World} {A : Option Addr} {n c m : Nat} {P : Nat → Pl} (h : PV w (.slice A n c) n P) (hm : m ≤ n) : PV w (.slice A m c) m P := by
  rcases h with ⟨rfl, h⟩ | ⟨h0, b, off, cap, e, h1, h2, h3⟩
  · obtain rfl : m = 0 := by omega
    exact Or.inl ⟨rfl, h⟩
  · injection e with e1 e2 e3
    subst e1 e3
    rcases Nat.eq_zero_or_pos m with rfl | hp
    · exact Or.inl ⟨rfl, Or.inr ⟨_, _, rfl, h2⟩⟩
    · exact Or.inr ⟨hp, b, off, c, rfl, by omega, h2, fun k hk => h3 k (by omega)⟩
theorem kclos_w (p : Pl) (s : ByteArray) (A : Option Addr) (n cap b : Nat) (w : World) (hq : w.cell? ⟨b, 0, none⟩ = some (.string s)) :
    Calls Tryd.prog 50 #[p.val (.slice A n cap), .pointer (some ⟨b, 0, none⟩)] w fun e w' => e = .returned (.bool (decide (p.c = s))) ∧ Below w.heap.size w w' := by
  obtain ⟨c, k, f, t, x, y, z, r⟩ := p
  have W1 := Lib.hid (b_alloc (Below.refl w.heap.size w) (.cells #[.string c, .string k, .string f, .string t, .int .i64 x, .int .i64 y, .int .i64 z, .slice A n cap] 39))
  have q1 := keep W1.out hq
  dsimp only
  go_enter Tryd.func50, Tryd.ntmps50
  go_wp2_with fail
  go_ret
  exact ⟨b_eq (seq_eq c s), W1.out⟩
set_option maxRecDepth 100000 in
set_option maxHeartbeats 2000000 in
theorem kidx_c (n cap b off pb : Nat) (P : Nat → Pl) (s : ByteArray) (w : World) (hm : cap ≤ 9223372036854775807) (hc : n ≤ cap) (HV : Hid (∀ k, k < n → P8 w b off k (P k))) (HQ : Hid (w.cell? ⟨pb, 0, none⟩ = some (.string s))) :
    Calls Tryd.prog 61 #[.slice (some ⟨b, off, none⟩) n cap, .func (.func 50) #[] #[.pointer (some ⟨pb, 0, none⟩)]] w fun e w' => e = .returned (.int .i64 (fix (fun k => (P k).c) s n)) ∧ Below w.heap.size w w' := by
  go_enter Tryd.func61, Tryd.ntmps61
  obtain ⟨r, hr⟩ : ∃ r, r = fix (fun k => (P k).c) s n := ⟨_, rfl⟩
  rw [← hr]
  have HR := Lib.hid hr; clear hr
  go_wp2_with fail
  go_loopw [5, 8] (fun _ t wr => ∃ k : Nat, k ≤ n ∧ t = .int .i64 k ∧ (∀ j, j < k → decide ((P j).c = s) = false) ∧ Below w.heap.size w wr) (fun _ t _ => n - (intOf t).toNat)
  case atStart => exact ⟨0, Nat.zero_le _, rfl, fun j hj => absurd hj (Nat.not_lt_zero j), Below.refl _ _⟩
  case round =>
    obtain ⟨k, hk, rfl, hno, hbl⟩ := hrel
    have HN := Lib.hid hno; have HB := Lib.hid hbl; clear hno
    by_cases hlt : k < n
    · obtain ⟨c0, c1, c2, c3, c4, c5, c6, v, c7, hsv⟩ := p8_keep hbl (HV.out k hlt)
      have hl : (k : Int) < (n : Int) := by omega
      obtain ⟨A, ca, rfl⟩ := sl_slice hsv
      have hcall := kclos_w (P k) s A (P k).r.length ca pb wr (keep hbl HQ.out)
      have HS := Lib.hid (show ∀ hh : decide ((P k).c = s) = false, ∀ j, j < k + 1 → decide ((P j).c = s) = false from fun hh j hj => by
        rcases Nat.lt_or_ge j k with hl | hl
        · exact HN.out j hl
        · rw [show j = k from by omega]; exact hh)
      have HT := Lib.hid (show ∀ hh : decide ((P k).c = s) = true, r = k from fun hh => by rw [HR.out]; exact fnd_at HN.out hh n hlt)
      clear hbl hsv
      generalize decide ((P k).c = s) = d at *
      cases d with
      | true =>
        have e := HT.out rfl
        subst e
        go_wp2_with fail
        (with_reducible refine hcall.mono ?_); rintro e w' ⟨rfl, hb'⟩
        go_wp2_with fail
        go_ret
        exact ⟨rfl, b_next HB.out hb'⟩
      | false =>
        go_wp2_with fail
        (with_reducible refine hcall.mono ?_); rintro e w' ⟨rfl, hb'⟩
        go_wp2_with fail
        exact ⟨⟨k + 1, by omega, by go_num, (by first | exact HS.out rfl | exact HS.out trivial), b_next HB.out hb'⟩, by simp [intOf]; omega⟩
    · have he : k = n := by omega
      have hl : ¬ (k : Int) < (n : Int) := by omega
      have e : r = -1 := by rw [HR.out]; exact fnd_no (fun j hj => HN.out j (by omega))
      subst e
      clear hbl
      go_wp2_with fail
      go_ret
      exact ⟨rfl, HB.out⟩
set_option maxHeartbeats 1000000 in
theorem kidx_none (A : Option Addr) (cap : Nat) (f : Value) (w : World) :
    Calls Tryd.prog 61 #[.slice A 0 cap, f] w fun e w' => e = .returned (.int .i64 (-1)) ∧ Below w.heap.size w w' := by
  go_enter Tryd.func61, Tryd.ntmps61
  go_wp2_with fail
  go_loopw [8] (fun s wr => s = .int .i64 0 ∧ Below w.heap.size w wr) (fun _ _ => 0)
  case atStart => exact ⟨rfl, Below.refl _ _⟩
  case round =>
    obtain ⟨rfl, hbl⟩ := hrel
    go_wp2_with fail
    all_goals (go_ret; exact ⟨rfl, hbl⟩)
theorem kidxC {v : Value} {n : Nat} {P : Nat → Pl} {w : World} (hv : PV w v n P) (pb : Nat) (s : ByteArray) (hq : w.cell? ⟨pb, 0, none⟩ = some (.string s)) :
    Calls Tryd.prog 61 #[v, .func (.func 50) #[] #[.pointer (some ⟨pb, 0, none⟩)]] w fun e w' => e = .returned (.int .i64 (fix (fun k => (P k).c) s n)) ∧ Below w.heap.size w w' := by
  rcases hv with ⟨rfl, h⟩ | ⟨h0, b, off, cap, rfl, hc, hm, HV⟩
  · rcases h with rfl | ⟨a, cap, rfl, -⟩
    · exact kidx_none none 0 _ w
    · exact kidx_none (some a) cap _ w
  · exact kidx_c n cap b off pb P s w (Nat.le_trans hm (by decide)) hc (Lib.hid HV) (Lib.hid hq)
set_option maxHeartbeats 1000000 in
theorem kcont_w (v f : Value) (r : Int) (w : World) (H : Hid (∀ w1, Below w.heap.size w w1 → Calls Tryd.prog 61 #[v, f] w1 fun e w' => e = .returned (.int .i64 r) ∧ Below w1.heap.size w1 w')) :
    Calls Tryd.prog 49 #[v, f] w fun e w' => e = .returned (.bool (decide (0 ≤ r))) ∧ Below w.heap.size w w' := by
  go_enter Tryd.func49, Tryd.ntmps49
  go_wp2_with fail
  (with_reducible refine (H.out _ (Below.refl _ _)).mono ?_); rintro e w1 ⟨rfl, hb⟩
  have HB := Lib.hid hb; clear hb
  go_wp2_with fail
  all_goals (go_ret; exact ⟨rfl, HB.out⟩)
set_option maxHeartbeats 1000000 in
theorem known_w (v : Value) (r : Bool) (s : ByteArray) (w : World) (H : Hid (∀ w1 pb, Below w.heap.size w w1 → w1.cell? ⟨pb, 0, none⟩ = some (.string s) → Calls Tryd.prog 49 #[v, .func (.func 50) #[] #[.pointer (some ⟨pb, 0, none⟩)]] w1 fun e w' => e = .returned (.bool r) ∧ Below w1.heap.size w1 w')) :
    Calls Tryd.prog 37 #[v, .string s] w fun e w' => e = .returned (.bool r) ∧ Below w.heap.size w w' := by
  have W1 := Lib.hid (b_alloc (Below.refl w.heap.size w) (.cells #[.string s] 9))
  have q : (w.alloc (.cells #[.string s] 9)).cell? ⟨w.heap.size, 0, none⟩ = some (.string s) := by simp
  have Q1 := Lib.hid q; clear q
  have hmf : ∀ fn first cap w, (Instr.makeFunc fn first cap).run Tryd.prog w = .ok (.func fn first cap) w := fun _ _ _ _ => rfl
  go_enter Tryd.func37, Tryd.ntmps37
  go_wp2_with fail
  (with_reducible refine (H.out _ _ W1.out Q1.out).mono ?_); rintro e w2 ⟨rfl, hb⟩
  have W2 := Lib.hid (b_next W1.out hb); clear hb
  go_wp2_with fail
  go_ret
  exact ⟨rfl, W2.out⟩
/-- Whether one of n plans has the call. -/
def hasC (P : Nat → Pl) (n : Nat) (s : ByteArray) : Bool := decide (0 ≤ fix (fun k => (P k).c) s n)
theorem hasC_iff {P : Nat → Pl} {n : Nat} {s : ByteArray} : hasC P n s = true ↔ ∃ k, k < n ∧ (P k).c = s := by
  unfold hasC
  rw [decide_eq_true_iff]
  constructor
  · intro h
    obtain ⟨k, hk, -, h2, -⟩ := fnd_pos h
    exact ⟨k, hk, by simpa using h2⟩
  · rintro ⟨k, hk, e⟩
    rcases Int.lt_or_le (fix (fun k => (P k).c) s n) 0 with h | h
    · have := fnd_neg h k hk
      simp [e] at this
    · exact h
theorem knownC {v : Value} {n : Nat} {P : Nat → Pl} {w : World} (hv : PV w v n P) (s : ByteArray) :
    Calls Tryd.prog 37 #[v, .string s] w fun e w' => e = .returned (.bool (hasC P n s)) ∧ Below w.heap.size w w' :=
  known_w v _ s w (Lib.hid fun _ pb hb hq => kcont_w v _ _ _ (Lib.hid fun _ hb' => kidxC (pv_keep hb' (pv_keep hb hv)) pb s (keep hb' hq)))
end Pt
end Go.Proofs.YtddlacjjanincaaDoor
