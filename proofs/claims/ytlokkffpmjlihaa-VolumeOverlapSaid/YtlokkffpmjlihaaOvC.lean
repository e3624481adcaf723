/- polygon.Overlap's contract, over a contract of enters. -/
import Derived.Test.YtlokkffpmjlihaaOvO
namespace Go.Proofs.Ytlokkffpmjlihaa
open Go.RowKit
namespace Over
open Kit Plane Poly Vol
/-- polygon.Overlap's answer. -/
def ovR (n : Nat) (X Y : Nat → Int) (m : Nat) (U V : Nat → Int) (B1 B2 : Bool) : Bool × Int :=
  if pck n X Y ≠ 0 then (false, pck n X Y) else if pck m U V ≠ 0 then (false, pck m U V) else (xa n X Y m U V n || (B1 || B2), 0)
theorem overC {u v : Value} {n m : Nat} {X Y U V : Nat → Int} {w : World} (hu : QV w u n X Y) (hv : QV w v m U V) (B1 B2 : Bool)
    (E1 : pck n X Y = 0 → pck m U V = 0 → ∀ w1 a b, QV w1 a n (fun k => 2 * X k) (fun k => 2 * Y k) → QV w1 b m (fun k => 2 * U k) (fun k => 2 * V k) → Calls Try.prog 71 #[a, b] w1 fun e w' => e = .returned (.bool B1) ∧ Below w1.heap.size w1 w')
    (E2 : pck n X Y = 0 → pck m U V = 0 → ∀ w1 a b, QV w1 a n (fun k => 2 * X k) (fun k => 2 * Y k) → QV w1 b m (fun k => 2 * U k) (fun k => 2 * V k) → Calls Try.prog 71 #[b, a] w1 fun e w' => e = .returned (.bool B2) ∧ Below w1.heap.size w1 w') :
    Calls Try.prog 31 #[u, v] w fun e w' => e = .returned (.tuple #[.bool (ovR n X Y m U V B1 B2).1, .int .i64 (ovR n X Y m U V B1 B2).2]) ∧ Below w.heap.size w w' := by
  have KP := checkC hu; have KQ := checkC hv
  obtain ⟨A, c, rfl, -, -⟩ := qv_slice hu
  obtain ⟨B, d, rfl, -, -⟩ := qv_slice hv
  unfold ovR
  by_cases h1 : pck n X Y ≠ 0
  · rw [if_pos h1]
    have := ov_bad A B n c m d _ _ w (Lib.hid KP) (Lib.hid KQ) (Or.inl h1)
    rw [if_pos h1] at this; exact this
  · rw [if_neg h1]
    by_cases h2 : pck m U V ≠ 0
    · rw [if_pos h2]
      have := ov_bad A B n c m d _ _ w (Lib.hid KP) (Lib.hid KQ) (Or.inr h2)
      rw [if_neg h1] at this; exact this
    · rw [if_neg h2]
      have z1 := Classical.not_not.1 h1; have z2 := Classical.not_not.1 h2
      rw [z1] at KP; rw [z2] at KQ
      obtain ⟨n3, n16, gp, -, -⟩ := pck_ok z1
      obtain ⟨m3, m16, gq, -, -⟩ := pck_ok z2
      have hN := fun k (hk : k < n) => nextC hu hk
      have hM := fun k (hk : k < m) => nextC hv hk
      have DP := fun w1 (hb : Below w.heap.size w w1) => doubledC (qv_keep hb hu) z1
      have DQ := fun w1 (hb : Below w.heap.size w w1) => doubledC (qv_keep hb hv) z2
      rcases hu with ⟨h, -⟩ | ⟨n0, b, off, c', e, hc1, hc2, HP⟩
      · omega
      · injection e with e1 _ e3
        subst e1 e3
        rcases hv with ⟨h, -⟩ | ⟨m0, b', off', d', e, hd1, hd2, HQ⟩
        · omega
        · injection e with e1 _ e3
          subst e1 e3
          exact ov_w n c b off m d b' off' X Y U V B1 B2 w n0 m0 n16 m16 hc1 hd1 (Nat.le_trans hc2 (by decide)) (Nat.le_trans hd2 (by decide)) (Lib.hid KP) (Lib.hid KQ) (Lib.hid HP) (Lib.hid HQ) (Lib.hid hN) (Lib.hid hM)
            (Lib.hid fun i hi k hk w => by
              have g1 := gp i hi; have g2 := gp _ (nx_lt (i := i) n0); have g3 := gq k hk; have g4 := gq _ (nx_lt (i := k) m0)
              exact crossC _ _ _ _ _ _ _ _ w ⟨⟨by omega, by omega⟩, ⟨by omega, by omega⟩, ⟨by omega, by omega⟩, ⟨by omega, by omega⟩, ⟨by omega, by omega⟩, ⟨by omega, by omega⟩, ⟨by omega, by omega⟩, ⟨by omega, by omega⟩⟩)
            (Lib.hid DP) (Lib.hid DQ) (Lib.hid (E1 z1 z2)) (Lib.hid (E2 z1 z2))
end Over
end Go.Proofs.Ytlokkffpmjlihaa
