/- What chart.Name returns. -/
import Derived.Test.YtokioemmjfjhkaaProg
import Derived.Test.YtokioemmjfjhkaaKit
import Derived.Laws.IdiomStrings
namespace Go.Proofs.Ytokioemmjfjhkaa
open Go.RowKit
namespace Name
open Kit
/-- A byte that a name may hold at place k. -/
def okc (k : Nat) (c : Int) : Prop := (65 ≤ c ∧ c ≤ 90) ∨ (0 < k ∧ 48 ≤ c ∧ c ≤ 57)
instance (k : Nat) (c : Int) : Decidable (okc k c) := by unfold okc; exact inferInstance
def byte (s : ByteArray) (k : Nat) : Int := ((s.data[k]?.getD 0).toNat : Int)
def good (m : Nat) (B : Nat → Int) : Prop := 1 ≤ m ∧ m ≤ 8 ∧ ∀ k, k < m → okc k (B k)
instance (m : Nat) (B : Nat → Int) : Decidable (good m B) := by unfold good; exact inferInstance
theorem okc_next {k : Nat} {B : Nat → Int} (h : ∀ j, j < k → okc j (B j)) (h' : okc k (B k)) : ∀ j, j < k + 1 → okc j (B j) := fun j hj => by
  by_cases e : j = k
  · rw [e]; exact h'
  · exact h j (by omega)
set_option maxHeartbeats 600000 in
theorem bad_len (s : ByteArray) (w : World) (h : s.size < 1 ∨ 8 < s.size) :
    Calls Try.prog 34 #[.string s] w fun e w' => e = .returned (.bool false) ∧ w = w' := by
  by_cases h1 : (s.size : Int) < 1
  · go_enter Try.func34, Try.ntmps34
    go_wp2_with fail
    go_ret
    exact ⟨rfl, rfl⟩
  · have h2 : (8 : Int) < (s.size : Int) := by omega
    go_enter Try.func34, Try.ntmps34
    go_wp2_with fail
    go_ret
    exact ⟨rfl, rfl⟩
set_option maxHeartbeats 1000000 in
theorem some_len (s : ByteArray) (m cap : Nat) (C : Array Value) (fr : Nat × Nat) (B : Nat → Int) (w : World) (hm : s.size = m) (h1 : 1 ≤ m) (h8 : m ≤ 8) (_hcap : m ≤ cap) (_hmx : cap ≤ 9223372036854775807)
    (hconv : (convert 9 106 (.string s)).run Try.prog w = .ok (.slice (some ⟨w.heap.size, 0, none⟩) m cap) (w.drew.alloc (.cells C 5 fr)))
    (HC : Hid (∀ k, k < m → (w.alloc (.cells C 5 fr)).cell? ⟨w.heap.size, k, none⟩ = some (.int .u8 (B k)))) :
    Calls Try.prog 34 #[.string s] w fun e w' => e = .returned (.bool (decide (good m B))) ∧ Below w.heap.size w w' := by
  have g1 : ¬ (m : Int) < 1 := by omega
  have g2 : ¬ (8 : Int) < (m : Int) := by omega
  go_enter Try.func34, Try.ntmps34
  go_wp2
  have hb0 : Below (w.alloc (.cells C 5 fr)).heap.size (w.alloc (.cells C 5 fr)) (w.alloc (.cells C 5 fr)).drew := b_drew (Below.refl _ _)
  have hbw : Below w.heap.size w (w.alloc (.cells C 5 fr)).drew := b_drew (b_alloc (Below.refl _ _) _)
  have HW := Lib.hid (And.intro hb0 hbw); clear hb0 hbw
  go_loopw [16] (fun i wr => ∃ k : Nat, k ≤ m ∧ (∀ j, j < k → okc j (B j)) ∧ i = .int .i64 k ∧ Below (w.alloc (.cells C 5 fr)).heap.size (w.alloc (.cells C 5 fr)) wr ∧ Below w.heap.size w wr) (fun i _ => m - (intOf i).toNat)
  case atStart => exact ⟨0, Nat.zero_le _, fun j hj => absurd hj (Nat.not_lt_zero _), rfl, HW.out.1, HW.out.2⟩
  case round =>
    obtain ⟨k, hk, hg, rfl, hb1, hb2⟩ := hrel
    have HG := Lib.hid hg; clear hg
    by_cases hlt : k < m
    · have hc := keep hb1 (HC.out k hlt)
      have hl : (k : Int) < (m : Int) := by omega
      by_cases a0 : 65 ≤ B k
      · by_cases a1 : B k ≤ 90
        · have O : Hid (okc k (B k)) := Lib.hid (by unfold okc; omega)
          go_wp2_with fail
          go_roundw
          case rel => first | exact ⟨k + 1, by omega, okc_next HG.out O.out, by go_num, hb1, hb2⟩ | ((repeat apply Exists.intro); exact ⟨⟨k + 1, by omega, okc_next HG.out O.out, by go_num, hb1, hb2⟩, rfl⟩)
          case measure => simp [intOf]; omega
        · by_cases a2 : 0 < (k : Int)
          · have z1 : 0 < k := by omega
            by_cases a3 : 48 ≤ B k
            · by_cases a4 : B k ≤ 57
              · have O : Hid (okc k (B k)) := Lib.hid (by unfold okc; omega)
                go_wp2_with fail
                go_roundw
                case rel => first | exact ⟨k + 1, by omega, okc_next HG.out O.out, by go_num, hb1, hb2⟩ | ((repeat apply Exists.intro); exact ⟨⟨k + 1, by omega, okc_next HG.out O.out, by go_num, hb1, hb2⟩, rfl⟩)
                case measure => simp [intOf]; omega
              · have O : Hid (decide (good m B) = false) := Lib.hid (decide_eq_false fun h => by have := h.2.2 _ hlt; unfold okc at this; omega)
                go_wp2_with fail
                go_ret
                exact ⟨retb O.out.symm, hb2⟩
            · have O : Hid (decide (good m B) = false) := Lib.hid (decide_eq_false fun h => by have := h.2.2 _ hlt; unfold okc at this; omega)
              go_wp2_with fail
              go_ret
              exact ⟨retb O.out.symm, hb2⟩
          · have z1 : k = 0 := by omega
            subst z1
            have O : Hid (decide (good m B) = false) := Lib.hid (decide_eq_false fun h => by have := h.2.2 _ hlt; unfold okc at this; omega)
            go_wp2_with fail
            go_ret
            exact ⟨retb O.out.symm, hb2⟩
      · by_cases a1 : 0 < (k : Int)
        · have z1 : 0 < k := by omega
          by_cases a2 : 48 ≤ B k
          · by_cases a3 : B k ≤ 57
            · have O : Hid (okc k (B k)) := Lib.hid (by unfold okc; omega)
              go_wp2_with fail
              go_roundw
              case rel => first | exact ⟨k + 1, by omega, okc_next HG.out O.out, by go_num, hb1, hb2⟩ | ((repeat apply Exists.intro); exact ⟨⟨k + 1, by omega, okc_next HG.out O.out, by go_num, hb1, hb2⟩, rfl⟩)
              case measure => simp [intOf]; omega
            · have O : Hid (decide (good m B) = false) := Lib.hid (decide_eq_false fun h => by have := h.2.2 _ hlt; unfold okc at this; omega)
              go_wp2_with fail
              go_ret
              exact ⟨retb O.out.symm, hb2⟩
          · have O : Hid (decide (good m B) = false) := Lib.hid (decide_eq_false fun h => by have := h.2.2 _ hlt; unfold okc at this; omega)
            go_wp2_with fail
            go_ret
            exact ⟨retb O.out.symm, hb2⟩
        · have z1 : k = 0 := by omega
          subst z1
          have O : Hid (decide (good m B) = false) := Lib.hid (decide_eq_false fun h => by have := h.2.2 _ hlt; unfold okc at this; omega)
          go_wp2_with fail
          go_ret
          exact ⟨retb O.out.symm, hb2⟩
    · have hk' : m = k := by omega
      have O : Hid (decide (good m B) = true) := Lib.hid (decide_eq_true ⟨h1, h8, fun j hj => HG.out j (by omega)⟩)
      have hl : ¬ (k : Int) < (m : Int) := by omega
      clear hk'
      go_wp2_with fail
      go_ret
      exact ⟨retb O.out.symm, hb2⟩
/-- What chart.Name answers. -/
def nameB (s : ByteArray) : Bool := decide (good s.size (byte s))
theorem nameC (s : ByteArray) (w : World) : Calls Try.prog 34 #[.string s] w fun e w' => e = .returned (.bool (nameB s)) ∧ Below w.heap.size w w' := by
  by_cases h : s.size < 1 ∨ 8 < s.size
  · have e : nameB s = false := decide_eq_false fun g => by have h1 := g.1; have h2 := g.2.1; omega
    rw [e]
    exact (bad_len s w h).mono fun e w' ⟨he, hw⟩ => ⟨he, hw ▸ Below.refl _ _⟩
  · have hs : s.size = s.data.size := rfl
    exact some_len s s.size (grownCap w s.size 0 5) (bytesRow s (grownCap w s.size 0 5)) _ (byte s) w rfl (by omega) (by omega) (grownCap_ge w s.size 0 _)
      (Nat.le_trans (grownCap_le_maxLen w s.size 0 _ (Nat.le_trans (show s.size ≤ 8 by omega) (by decide))) (by decide))
      (run_bytes_of_string w 9 106 5 s Try.underlying9 Try.underlying106 Try.underlying5)
      (Lib.hid fun k hk => by
        have hb := bytesRow_at s (grownCap w s.size 0 5) k (hs ▸ hk)
        have e : byte s k = (s.data[k].toNat : Int) := by unfold byte; rw [Array.getElem?_eq_getElem (hs ▸ hk)]; rfl
        rw [e]
        exact (World.cell?_alloc_mark _ _ _ _ _).trans hb)
end Name
end Go.Proofs.Ytokioemmjfjhkaa
