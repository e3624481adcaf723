/- slices.Clone at no items. -/
import Derived.Test.YtjmfopihfnpcpaaHeapA
namespace Go.Proofs.Ytjmfopihfnpcpaa
open Go.RowKit
namespace Heap
open Kit
namespace Ki
set_option maxHeartbeats 1000000 in
theorem clone_nil_i (w : World) :
    Calls Try.prog 17 #[.slice none 0 0] w fun e w' => (∃ A cap, e = .returned (.slice A 0 cap)) ∧ Below w.heap.size w w' := by
  have hnil := fun W : World => Lib.run_eql_slice_nil (P := Try.prog) W 39 43 none 0 0 0 0 Try.underlying39
  go_enter Try.func17, Try.ntmps17
  go_wp2_with fail
  all_goals (go_ret; exact ⟨⟨_, _, rfl⟩, Below.refl _ _⟩)
set_option maxRecDepth 100000 in
set_option maxHeartbeats 1000000 in
theorem clone_empty_i (a : Addr) (cap : Nat) (w : World) :
    Calls Try.prog 17 #[.slice (some a) 0 cap] w fun e w' => (∃ A cap, e = .returned (.slice A 0 cap)) ∧ Below w.heap.size w w' := by
  obtain ⟨i0, hi, hz0, hz1, hz2⟩ := info_parts info_it
  have hnil := fun W : World => Lib.run_eql_slice_nil (P := Try.prog) W 39 43 (some a) 0 cap 0 0 Try.underlying39
  go_enter Try.func17, Try.ntmps17
  have hb0 := b_alloc (Below.refl w.heap.size w) (.cells #[] 43)
  have HB := Lib.hid hb0; clear hb0
  go_wp2_with (at_builtin; refine wpList_append_own_at _ rfl (.tmp 5) (.tmp 6) 39 rfl w.heap.size 43 i0 _ 3 24 Try.underlying39 hi hz0 hz1 hz2 rfl (by decide) (.slice (some ⟨w.heap.size, 0, none⟩) 0 0) 0 [] rfl (World.ownsRow_made w #[] 0 (Nat.le_refl _) (by decide) rfl) a 0 cap [] rfl rfl (fun j u h => by simp at h) (fun u h => by simp at h) (by unfold maxLen; omega) (by omega) (by simp) ?_; intro v1 w1 hown1 hg1 hnil1 hat1)
  go_ret
  have hq : ∃ A c, v1 = .slice A 0 c := by
    rcases hown1.2 with ⟨hv, -⟩ | ⟨g, c, cur, hv, -, -, -, hcm, -⟩
    · exact ⟨none, 0, hv⟩
    · exact ⟨_, c, hv⟩
  obtain ⟨A, c, rfl⟩ := hq
  exact ⟨⟨A, c, rfl⟩, HB.out.grown hg1 HB.out.size (fun k hk => by simp [Value.ownBlock] at hk; omega)⟩
set_option maxRecDepth 100000 in
set_option maxHeartbeats 1000000 in
theorem pop_zero {w : World} {q cap : Nat} {g : Option Addr} (c0 : w.cell? ⟨q, 0, none⟩ = some (.slice g 0 cap)) :
    Calls Try.prog 7 #[.pointer (some ⟨q, 0, none⟩)] w fun e w' => e = .returned (.tuple #[.int .i64 0, .int .i64 0, .bool false]) ∧ w = w' := by
  go_enter Try.func7, Try.ntmps7
  go_wp2_with fail
  refine bodyPost_ret (v := .tuple #[.int .i64 0, .int .i64 0, .bool false]) (by simp [results, Try.results7, go_sem]) rfl ⟨rfl, rfl⟩
set_option maxRecDepth 100000 in
set_option maxHeartbeats 4000000 in
/-- The iterator at an empty queue. -/
theorem all1_none (d : Nat) (hd : 1 ≤ d) (l Bx q cap0 : Nat) (A0 : Option Addr) (hA : A0 = none → cap0 = 0) (W : World) (cB : W.cell? ⟨Bx, 0, none⟩ = some (.pointer (some ⟨q, 0, none⟩))) (cq : W.cell? ⟨q, 0, none⟩ = some (.slice A0 0 cap0)) :
    CallsIn Fence.wide d Try.prog 16 #[.func (.yield l) #[] #[], .pointer (some ⟨Bx, 0, none⟩)] W fun e W' => (∃ v, e = .returned v) ∧ Below W.heap.size W W' := by
  have CL : Hid (Calls Try.prog 17 #[.slice A0 0 cap0] W fun e w' => (∃ A cap, e = .returned (.slice A 0 cap)) ∧ Below W.heap.size W w') := by
    cases A0 with
    | none => rw [hA rfl]; exact Lib.hid (clone_nil_i W)
    | some a => exact Lib.hid (clone_empty_i a cap0 W)
  clear hA
  refine callsIn_of_wp Try.func16 rfl trivial ?_ rfl
  simp only [Try.ntmps16, List.size_toArray, List.length_cons, List.length_nil, Nat.reduceAdd, Nat.reduceSub, Array.replicate_succ, Array.replicate_zero, List.push_toArray, List.append_toArray, List.nil_append, List.cons_append]
  gi_wp2_with fail
  refine ⟨trivial, ?_⟩; refine (callsIn_wide.2 CL.out).mono ?_; rintro e w1 ⟨⟨g, cap, rfl⟩, hb⟩
  have B1 := Lib.hid hb; clear hb cB cq
  gi_wp2_with fail
  obtain ⟨w2, hw2⟩ : ∃ w2, w2 = w1.alloc (.cells #[.slice g 0 cap, .int .i64 0] 41) := ⟨_, rfl⟩
  rw [← hw2]
  have B2 : Hid (Below W.heap.size W w2) := Lib.hid (by rw [hw2]; exact b_alloc B1.out _)
  obtain ⟨qc, hqc⟩ : ∃ qc, qc = w1.heap.size := ⟨_, rfl⟩
  have C2 : Hid (w2.cell? ⟨qc, 0, none⟩ = some (.slice g 0 cap)) := Lib.hid (by rw [hw2, hqc]; simp)
  rw [← hqc]
  clear hw2 hqc B1
  gi_loopw [] (fun wr => wr = w2) (fun _ => 0)
  case atStart => rfl
  case round =>
    subst hrel
    have PN := Lib.hid (pop_zero C2.out)
    gi_wp2_with fail
    refine ⟨trivial, ?_⟩; refine (callsIn_wide.2 PN.out).mono ?_; rintro e w3 ⟨rfl, rfl⟩
    gi_wp2_with fail
    refine ⟨fun _ e => (by cases e), ?_⟩
    gi_wp2_with fail
    refine bodyPost_ret (results_none rfl _ _ _) rfl ?_
    exact ⟨⟨_, rfl⟩, B2.out⟩
end Ki
end Heap
end Go.Proofs.Ytjmfopihfnpcpaa
