/- Charts in memory: fixes, airways, lists of names; chart.index. -/
import Derived.Test.YtokioemmjfjhkaaNameW
import Derived.Test.YtokioemmjfjhkaaToward
import Derived.Test.YtokioemmjfjhkaaKit2
import Derived.Test.YtokioemmjfjhkaaShapes
namespace Go.Proofs.Ytokioemmjfjhkaa
open Go.RowKit
namespace Poly
end Poly
namespace Chart
open Kit Plane Poly
/-- One fix. -/
structure E3 (w : World) (b off k : Nat) (s : ByteArray) (x y : Int) : Prop where
  c0 : w.cell? ⟨b, off + k * 3, none⟩ = some (.string s)
  c1 : w.cell? ⟨b, off + k * 3 + 1, none⟩ = some (.int .i64 x)
  c2 : w.cell? ⟨b, off + k * 3 + 2, none⟩ = some (.int .i64 y)
theorem e3_keep {W w1 : World} (hb : Below W.heap.size W w1) {b off k : Nat} {s : ByteArray} {x y : Int} (h : E3 W b off k s x y) : E3 w1 b off k s x y := ⟨keep hb h.c0, keep hb h.c1, keep hb h.c2⟩
/-- A slice of no length. -/
def Nil0 (v : Value) : Prop := v = .slice none 0 0 ∨ ∃ a cap, v = .slice (some a) 0 cap ∧ cap ≤ maxLen
/-- Fixes. -/
def FV (w : World) (v : Value) (n : Nat) (N : Nat → ByteArray) (X Y : Nat → Int) : Prop :=
  (n = 0 ∧ Nil0 v) ∨ (0 < n ∧ ∃ b off cap, v = .slice (some ⟨b, off, none⟩) n cap ∧ n ≤ cap ∧ cap ≤ maxLen ∧ ∀ k, k < n → E3 w b off k (N k) (X k) (Y k))
/-- Names. -/
def SV (w : World) (v : Value) (n : Nat) (S : Nat → ByteArray) : Prop :=
  (n = 0 ∧ Nil0 v) ∨ (0 < n ∧ ∃ b off cap, v = .slice (some ⟨b, off, none⟩) n cap ∧ n ≤ cap ∧ cap ≤ maxLen ∧ ∀ k, k < n → w.cell? ⟨b, off + k, none⟩ = some (.string (S k)))
/-- One airway. -/
def A2 (w : World) (b off k : Nat) (s : ByteArray) (l : Nat) (S : Nat → ByteArray) : Prop :=
  w.cell? ⟨b, off + k * 2, none⟩ = some (.string s) ∧ ∃ v, w.cell? ⟨b, off + k * 2 + 1, none⟩ = some v ∧ SV w v l S
/-- Airways. -/
def AV (w : World) (v : Value) (m : Nat) (M : Nat → ByteArray) (l : Nat → Nat) (S : Nat → Nat → ByteArray) : Prop :=
  (m = 0 ∧ Nil0 v) ∨ (0 < m ∧ ∃ b off cap, v = .slice (some ⟨b, off, none⟩) m cap ∧ m ≤ cap ∧ cap ≤ maxLen ∧ ∀ k, k < m → A2 w b off k (M k) (l k) (S k))
theorem fv_keep {W w1 : World} (hb : Below W.heap.size W w1) {v : Value} {n : Nat} {N : Nat → ByteArray} {X Y : Nat → Int} (h : FV W v n N X Y) : FV w1 v n N X Y := by
  rcases h with h | ⟨h0, b, off, cap, hv, h1, h2, h3⟩
  · exact Or.inl h
  · exact Or.inr ⟨h0, b, off, cap, hv, h1, h2, fun k hk => e3_keep hb (h3 k hk)⟩
theorem sv_keep {W w1 : World} (hb : Below W.heap.size W w1) {v : Value} {n : Nat} {S : Nat → ByteArray} (h : SV W v n S) : SV w1 v n S := by
  rcases h with h | ⟨h0, b, off, cap, hv, h1, h2, h3⟩
  · exact Or.inl h
  · exact Or.inr ⟨h0, b, off, cap, hv, h1, h2, fun k hk => keep hb (h3 k hk)⟩
theorem a2_keep {W w1 : World} (hb : Below W.heap.size W w1) {b off k l : Nat} {s : ByteArray} {S : Nat → ByteArray} (h : A2 W b off k s l S) : A2 w1 b off k s l S := by
  obtain ⟨h1, v, h2, h3⟩ := h
  exact ⟨keep hb h1, v, keep hb h2, sv_keep hb h3⟩
theorem av_keep {W w1 : World} (hb : Below W.heap.size W w1) {v : Value} {m : Nat} {M : Nat → ByteArray} {l : Nat → Nat} {S : Nat → Nat → ByteArray} (h : AV W v m M l S) : AV w1 v m M l S := by
  rcases h with h | ⟨h0, b, off, cap, hv, h1, h2, h3⟩
  · exact Or.inl h
  · exact Or.inr ⟨h0, b, off, cap, hv, h1, h2, fun k hk => a2_keep hb (h3 k hk)⟩
theorem nil0_slice {v : Value} (h : Nil0 v) : ∃ A cap, v = .slice A 0 cap := by
  rcases h with rfl | ⟨a, cap, rfl, -⟩
  · exact ⟨_, _, rfl⟩
  · exact ⟨_, _, rfl⟩
theorem sv_slice {w : World} {v : Value} {n : Nat} {S : Nat → ByteArray} (h : SV w v n S) : ∃ A cap, v = .slice A n cap := by
  rcases h with ⟨rfl, h⟩ | ⟨h0, b, off, cap, rfl, h1, h2, h3⟩
  · exact nil0_slice h
  · exact ⟨_, _, rfl⟩
/-- The first place below n where p holds, or -1. -/
def fnd (p : Nat → Bool) : Nat → Int
  | 0 => -1
  | k + 1 => if 0 ≤ fnd p k then fnd p k else if p k then (k : Int) else -1
theorem fnd_bd (p : Nat → Bool) : ∀ n, -1 ≤ fnd p n ∧ fnd p n < n
  | 0 => by show (-1 : Int) ≤ -1 ∧ (-1 : Int) < 0; omega
  | k + 1 => by
    have h := fnd_bd p k
    show -1 ≤ (if 0 ≤ fnd p k then fnd p k else if p k then (k : Int) else -1) ∧ (if 0 ≤ fnd p k then fnd p k else if p k then (k : Int) else -1) < ((k + 1 : Nat) : Int)
    by_cases h1 : 0 ≤ fnd p k
    · rw [if_pos h1]; omega
    · rw [if_neg h1]; split <;> omega
theorem fnd_no {p : Nat → Bool} : ∀ {n : Nat}, (∀ k, k < n → p k = false) → fnd p n = -1
  | 0, _ => rfl
  | n + 1, h => by
    show (if 0 ≤ fnd p n then fnd p n else if p n then (n : Int) else -1) = -1
    rw [fnd_no fun k hk => h k (by omega), if_neg (by decide), h n (by omega)]
    rfl
theorem fnd_at {p : Nat → Bool} {k : Nat} (hk : ∀ j, j < k → p j = false) (h : p k = true) : ∀ n, k < n → fnd p n = k
  | 0, hn => by omega
  | n + 1, hn => by
    show (if 0 ≤ fnd p n then fnd p n else if p n then (n : Int) else -1) = k
    rcases Nat.lt_or_ge k n with hl | hl
    · rw [fnd_at hk h n hl, if_pos (by omega)]
    · obtain rfl : k = n := by omega
      rw [fnd_no hk, if_neg (by decide), h, if_pos rfl]
theorem fnd_neg {p : Nat → Bool} {n : Nat} (h : fnd p n < 0) : ∀ k, k < n → p k = false := by
  intro k
  induction k using Nat.strongRecOn with
  | ind k ih =>
    intro hk
    cases hp : p k with
    | false => rfl
    | true => have := fnd_at (fun j hj => ih j hj (by omega)) hp n hk; omega
theorem fnd_pos {p : Nat → Bool} {n : Nat} (h : 0 ≤ fnd p n) : ∃ k, k < n ∧ fnd p n = k ∧ p k = true ∧ ∀ j, j < k → p j = false := by
  induction n with
  | zero => exact absurd h (show ¬ (0 : Int) ≤ -1 by decide)
  | succ n ih =>
    have e : fnd p (n + 1) = if 0 ≤ fnd p n then fnd p n else if p n then (n : Int) else -1 := rfl
    by_cases h1 : 0 ≤ fnd p n
    · rw [if_pos h1] at e
      obtain ⟨k, h2, h3, h4, h5⟩ := ih h1
      exact ⟨k, by omega, by rw [e, h3], h4, h5⟩
    · rw [if_neg h1] at e
      cases hp : p n with
      | false => rw [hp, if_neg (by decide)] at e; rw [e] at h; exact absurd h (by decide)
      | true => rw [hp, if_pos rfl] at e; exact ⟨n, by omega, e, hp, fnd_neg (by omega)⟩
/-- Where a name is among the fixes. -/
def fix (N : Nat → ByteArray) (s : ByteArray) (n : Nat) : Int := fnd (fun k => decide (N k = s)) n
theorem b_eq {a b : Bool} (h : a = b) : Ending.returned (.bool a) = Ending.returned (.bool b) := by rw [h]
theorem seq_eq (a b : ByteArray) : (a.toList == b.toList) = decide (a = b) := by
  rw [ByteArray.toList_eq, ByteArray.toList_eq]
  by_cases h : a = b
  · rw [decide_eq_true h, h]; simp
  · rw [decide_eq_false h]
    have h2 : ¬ a.data.toList = b.data.toList := fun e => h (by
      obtain ⟨⟨x⟩⟩ := a
      obtain ⟨⟨y⟩⟩ := b
      have e : x = y := e
      rw [e])
    simpa using h2
theorem clos_w (a s : ByteArray) (x y : Int) (b : Nat) (w : World) (hq : w.cell? ⟨b, 0, none⟩ = some (.string s)) :
    Calls Try.prog 60 #[.agg #[.string a, .int .i64 x, .int .i64 y], .pointer (some ⟨b, 0, none⟩)] w fun e w' => e = .returned (.bool (decide (a = s))) ∧ Below w.heap.size w w' := by
  have W1 := Lib.hid (b_alloc (Below.refl w.heap.size w) (.cells #[.string a, .int .i64 x, .int .i64 y] 51))
  have q1 := keep W1.out hq
  go_enter Try.func60, Try.ntmps60
  go_wp2_with fail
  go_ret
  exact ⟨b_eq (seq_eq a s), W1.out⟩
set_option maxRecDepth 100000 in
set_option maxHeartbeats 2000000 in
theorem idx_w (n cap b off pb : Nat) (N : Nat → ByteArray) (X Y : Nat → Int) (s : ByteArray) (w : World) (hm : cap ≤ 9223372036854775807) (hc : n ≤ cap) (HV : Hid (∀ k, k < n → E3 w b off k (N k) (X k) (Y k))) (HQ : Hid (w.cell? ⟨pb, 0, none⟩ = some (.string s))) :
    Calls Try.prog 59 #[.slice (some ⟨b, off, none⟩) n cap, .func (.func 60) #[] #[.pointer (some ⟨pb, 0, none⟩)]] w fun e w' => e = .returned (.int .i64 (fix N s n)) ∧ Below w.heap.size w w' := by
  go_enter Try.func59, Try.ntmps59
  obtain ⟨r, hr⟩ : ∃ r, r = fix N s n := ⟨_, rfl⟩
  rw [← hr]
  have HR := Lib.hid hr; clear hr
  go_wp2_with fail
  go_loopw [5, 8] (fun _ t wr => ∃ k : Nat, k ≤ n ∧ t = .int .i64 k ∧ (∀ j, j < k → decide (N j = s) = false) ∧ Below w.heap.size w wr) (fun _ t _ => n - (intOf t).toNat)
  case atStart => exact ⟨0, Nat.zero_le _, rfl, fun j hj => absurd hj (Nat.not_lt_zero j), Below.refl _ _⟩
  case round =>
    obtain ⟨k, hk, rfl, hno, hbl⟩ := hrel
    have HN := Lib.hid hno; have HB := Lib.hid hbl; clear hno
    by_cases hlt : k < n
    · obtain ⟨c0, c1, c2⟩ := e3_keep hbl (HV.out k hlt)
      have hl : (k : Int) < (n : Int) := by omega
      have hcall := clos_w (N k) s (X k) (Y k) pb wr (keep hbl HQ.out)
      have HS := Lib.hid (show ∀ hh : decide (N k = s) = false, ∀ j, j < k + 1 → decide (N j = s) = false from fun hh j hj => by
        rcases Nat.lt_or_ge j k with hl | hl
        · exact HN.out j hl
        · rw [show j = k from by omega]; exact hh)
      have HT := Lib.hid (show ∀ hh : decide (N k = s) = true, r = k from fun hh => by rw [HR.out]; exact fnd_at HN.out hh n hlt)
      clear hbl
      generalize decide (N k = s) = d at *
      cases d with
      | true =>
        have e := HT.out rfl
        subst e
        go_wp2_with fail
        (with_reducible refine hcall.mono ?_); rintro e w' ⟨rfl, hb'⟩
        go_wp2_with fail
        go_ret
        exact ⟨rfl, b_next HB.out hb'⟩
      | false =>
        go_wp2_with fail
        (with_reducible refine hcall.mono ?_); rintro e w' ⟨rfl, hb'⟩
        go_wp2_with fail
        exact ⟨⟨k + 1, by omega, by go_num, (by first | exact HS.out rfl | exact HS.out trivial), b_next HB.out hb'⟩, by simp [intOf]; omega⟩
    · have he : k = n := by omega
      have hl : ¬ (k : Int) < (n : Int) := by omega
      have e : r = -1 := by rw [HR.out]; exact fnd_no (fun j hj => HN.out j (by omega))
      subst e
      clear hbl
      go_wp2_with fail
      go_ret
      exact ⟨rfl, HB.out⟩
set_option maxHeartbeats 1000000 in
theorem idx_none (A : Option Addr) (cap : Nat) (f : Value) (w : World) :
    Calls Try.prog 59 #[.slice A 0 cap, f] w fun e w' => e = .returned (.int .i64 (-1)) ∧ Below w.heap.size w w' := by
  go_enter Try.func59, Try.ntmps59
  go_wp2_with fail
  go_loopw [8] (fun s wr => s = .int .i64 0 ∧ Below w.heap.size w wr) (fun _ _ => 0)
  case atStart => exact ⟨rfl, Below.refl _ _⟩
  case round =>
    obtain ⟨rfl, hbl⟩ := hrel
    go_wp2_with fail
    all_goals (go_ret; exact ⟨rfl, hbl⟩)
theorem idxC {v : Value} {n : Nat} {N : Nat → ByteArray} {X Y : Nat → Int} {w : World} (hv : FV w v n N X Y) (pb : Nat) (s : ByteArray) (hq : w.cell? ⟨pb, 0, none⟩ = some (.string s)) :
    Calls Try.prog 59 #[v, .func (.func 60) #[] #[.pointer (some ⟨pb, 0, none⟩)]] w fun e w' => e = .returned (.int .i64 (fix N s n)) ∧ Below w.heap.size w w' := by
  rcases hv with ⟨rfl, h⟩ | ⟨h0, b, off, cap, rfl, hc, hm, HV⟩
  · rcases h with rfl | ⟨a, cap, rfl, -⟩
    · exact idx_none none 0 _ w
    · exact idx_none (some a) cap _ w
  · exact idx_w n cap b off pb N X Y s w (Nat.le_trans hm (by decide)) hc (Lib.hid HV) (Lib.hid hq)
set_option maxHeartbeats 1000000 in
theorem index_w (fx aw : Value) (r : Int) (s : ByteArray) (w : World) (H : Hid (∀ w1 pb, Below w.heap.size w w1 → w1.cell? ⟨pb, 0, none⟩ = some (.string s) → Calls Try.prog 59 #[fx, .func (.func 60) #[] #[.pointer (some ⟨pb, 0, none⟩)]] w1 fun e w' => e = .returned (.int .i64 r) ∧ Below w1.heap.size w1 w')) :
    Calls Try.prog 36 #[.agg #[fx, aw], .string s] w fun e w' => e = .returned (.int .i64 r) ∧ Below w.heap.size w w' := by
  have W1 := Lib.hid (b_alloc (b_alloc (Below.refl w.heap.size w) (.cells #[fx, aw] 37)) (.cells #[.string s] 9))
  have q : ((w.alloc (.cells #[fx, aw] 37)).alloc (.cells #[.string s] 9)).cell? ⟨w.heap.size + 1, 0, none⟩ = some (.string s) := by simp
  have Q1 := Lib.hid q; clear q
  have hmf : ∀ fn first cap w, (Instr.makeFunc fn first cap).run Try.prog w = .ok (.func fn first cap) w := fun _ _ _ _ => rfl
  go_enter Try.func36, Try.ntmps36
  go_wp2_with fail
  (with_reducible refine (H.out _ _ W1.out Q1.out).mono ?_); rintro e w2 ⟨rfl, hb⟩
  have W2 := Lib.hid (b_next W1.out hb); clear hb
  go_wp2_with fail
  go_ret
  exact ⟨rfl, W2.out⟩
theorem indexC {fx aw : Value} {n : Nat} {N : Nat → ByteArray} {X Y : Nat → Int} {w : World} (hv : FV w fx n N X Y) (s : ByteArray) :
    Calls Try.prog 36 #[.agg #[fx, aw], .string s] w fun e w' => e = .returned (.int .i64 (fix N s n)) ∧ Below w.heap.size w w' :=
  index_w fx aw _ s w (Lib.hid fun _ pb hb hq => idxC (fv_keep hb hv) pb s hq)
end Chart
end Go.Proofs.Ytokioemmjfjhkaa
