/- A drawn region in the body of a loop over an iterator: walked as outside. -/
import Derived.Test.YteaccanhahmclaaDraw
import Derived.OrdersIn
import Derived.Sort.QuietThIn
import Derived.Sort.QuietLawsIn
namespace Go.Proofs.Yteaccanhahmclaa
open Go.RowKit
namespace Kit
section
variable {P : Program} {ops : Array Oper} {n k : Nat}
theorem quiet_in {C : World → Prop} {Q : Act → Prop} : ∀ (l : List Oper) (a : Act), wpQuiet P ops C Q l a → wpQuietIn Fence.wide n P ops C Q l a
  | [], _, h => h
  | o :: rest, a, h => by
    refine ⟨fun _ _ _ _ => trivial, ?_⟩
    have h' : if Region.wanted o (yielded ops a.tmps) then o.quiet P a C (wpQuiet P ops C Q rest) else wpQuiet P ops C Q rest (a.put o.dst undef) := h
    split at h'
    · rename_i hw
      rw [if_pos hw]
      obtain ⟨v, h1, h2⟩ := h'
      refine ⟨v, fun w hw => ?_, quiet_in rest _ h2⟩
      have q := h1 w hw
      unfold Oper.quietAt at q
      unfold Oper.quietAtIn
      generalize (execOp a.eval o).run P w = r at *
      match r, q with
      | .ok (.value u) w', q => exact q
      | .ok .skip w', q => exact q
      | .ok (.enter f args) w', q => exact ⟨q.1, fun h => (by cases h), callsIn_wide.2 q.2⟩
    · rename_i hw
      rw [if_neg hw]
      exact quiet_in rest _ h'
theorem op_round {Q : Exit → Act → World → Prop} {i : Nat} {K K' : Act → World → Prop} {a : Act} {w : World} (hd : ∀ (i : Nat) (o : Oper), ops[i]? = some o → ∀ c : Call, o.op ≠ Op.defer c) (hk : ∀ a w, K a w → K' a w) (h : wpOpIn Fence.wide n P ops Q i K a w) : wpOpIn (Fence.wide.inRound k) n P ops Q i K' a w := by
  refine wpOpIn_mono hk ?_
  unfold wpOpIn at *
  cases ho : ops[i]? with
  | none => rw [ho] at h; exact h
  | some o =>
    rw [ho] at h
    simp only at h ⊢
    split
    · rename_i hw
      rw [if_pos hw] at h
      refine ⟨h.1, ?_⟩
      have q := h.2
      rw [Oper.semAt_eq _ _ _ (hd i o ho)] at q ⊢
      exact q
    · rename_i hw
      rw [if_neg hw] at h
      exact h
theorem any_round {Q : Exit → Act → World → Prop} {md : Region.Mode} (hd : ∀ (i : Nat) (o : Oper), ops[i]? = some o → ∀ c : Call, o.op ≠ Op.defer c) : ∀ (fuel : Nat) (listed : Array Bool) (a : Act) (w : World), wpAnyIn Fence.wide n P md ops Q fuel listed a w → wpAnyIn (Fence.wide.inRound k) n P md ops Q fuel listed a w
  | 0, _, _, _, h => h
  | fuel + 1, _, _, _, h => ⟨h.1, fun i hi => op_round hd (fun a w h => any_round hd fuel _ a w h) (h.2 i hi)⟩
end
theorem d_region_in {P : Program} {n k id : Nat} {a : Act} {w : World} {Q : Exit → Act → World → Prop} {l : List Oper} (hm : P.follows .mixedOrders = true) (hB : Region.lexB .any l.toArray = true) (hd : l.all (fun o => match o.op with | .defer _ => false | _ => true) = true)
    (h : Dq P l.toArray w (fun a' => ∀ w', Below w.heap.size w w' → Q .normal a' w') l a) : (Code.region id l.toArray true).wpIn (Fence.wide.inRound k) n P Q a w := by
  have hd' : ∀ (i : Nat) (o : Oper), l.toArray[i]? = some o → ∀ c : Call, o.op ≠ Op.defer c := fun i o ho c e => by
    have hm : o ∈ l := List.mem_of_getElem? (by simpa using ho)
    have := List.all_eq_true.1 hd o hm
    rw [e] at this; cases this
  have hB' := hB
  simp only [Region.lexB, Bool.and_eq_true] at hB'
  refine wpIn_region_any hm (any_round hd' _ _ _ _ (wpAnyIn_of_quiet (C := Cls w) (Q := fun a' => ∀ w', Below w.heap.size w w' → Q .normal a' w') rfl (fun _ w' hw' h => h w' hw') _ _ _ _ (Below.refl _ _).drew ?_))
  have q := wpAnyQIn_lex (F := Fence.wide) (n := n) (C := Cls w) (md := .any) hB'.1 l 0 (Array.replicate l.toArray.size false) a (by simp) (by simpa using hB'.2) (quiet_in l a h.out)
  simpa using q
end Kit
end Go.Proofs.Yteaccanhahmclaa
