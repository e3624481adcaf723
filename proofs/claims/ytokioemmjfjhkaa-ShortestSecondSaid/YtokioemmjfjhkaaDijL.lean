/- The laws of the shortest way, in plain Lean: it is as long as the way back, and as the lengths say. -/
import Derived.Test.YtokioemmjfjhkaaDijW
namespace Go.Proofs.Ytokioemmjfjhkaa
namespace Short
/-- No fix is closed. -/
def noc : Nat → Bool := fun _ => false
theorem back_rev : ∀ (l : List Nat) (a : Nat), fin a l :: back a l = (a :: l).reverse
  | [], _ => rfl
  | b :: l, a => by
    have ih := back_rev l b
    rw [List.reverse_cons, ← ih]
    rfl
section
variable {G : Gr} {B : Int} {a b : Nat}
theorem is_noc {l : List Nat} (h1 : chn G a l) (h2 : fin a l = b) (h3 : (a :: l).Nodup) : Is G a b noc (-1) l :=
  ⟨h1, h2, h3, fun _ _ => rfl, fun _ _ _ => by omega⟩
theorem is_back (hG : G.Ok B) (ha : a < G.N) {l : List Nat} (h : Is G a b noc (-1) l) : Is G b a noc (-1) (back a l) := by
  have hf := h.fin
  refine is_noc ?_ ?_ ?_
  · rw [← hf]; exact back_chn hG l a ha h.chn
  · rw [← hf]; exact back_fin l a
  · have e := back_rev l a
    rw [hf] at e
    rw [e]
    exact (List.reverse_perm _).nodup_iff.2 h.nodup
/-- A way gives a way without repetitions. -/
theorem is_of (hG : G.Ok B) (ha : a < G.N) {l : List Nat} (h1 : chn G a l) (h2 : fin a l = b) : ∃ m, Is G a b noc (-1) m ∧ len G.d a m ≤ len G.d a l := by
  obtain ⟨m, c1, c2, c3, c4, -⟩ := simple hG l a ha h1
  exact ⟨m, is_noc c1 (by rw [c3, h2]) c2, c4⟩
theorem best_le (hG : G.Ok B) (ha : a < G.N) {l : List Nat} {n : Int} (h : Best G a b noc (-1) l n) {w : List Nat} (h1 : chn G a w) (h2 : fin a w = b) : n ≤ len G.d a w := by
  obtain ⟨m, c1, c2⟩ := is_of hG ha h1 h2
  have := h.least m c1
  omega
theorem best_back (hG : G.Ok B) (ha : a < G.N) (hb : b < G.N) {l l' : List Nat} {n n' : Int} (h : Best G a b noc (-1) l n) (h' : Best G b a noc (-1) l' n') : n = n' := by
  have q1 := h'.least _ (is_back hG ha h.is)
  have q2 := h.least _ (is_back hG hb h'.is)
  have e1 := back_length hG l a
  have e2 := back_length hG l' b
  rw [h.is.fin] at e1
  rw [h'.is.fin] at e2
  rw [e1, h.len] at q1
  rw [e2, h'.len] at q2
  omega
theorem best_all (hG : G.Ok B) (ha : a < G.N) (hb : b < G.N) {l : List Nat} {n : Int} (h : Best G a b noc (-1) l n) {o : Nat → Int} (hF : Fin G a noc o) : o b = n := by
  have q := hF.least hG ha l h.is.chn fun _ _ => rfl
  rw [h.is.fin, h.len] at q
  obtain ⟨w, w1, w2, w3⟩ := hF.reach hG (o b).toNat b hb q.1 (Nat.le_refl _)
  have := best_le hG ha h w1 w2
  omega
theorem best_self (hG : G.Ok B) (ha : a < G.N) {cl : Nat → Bool} {bar : Int} : Best G a a cl bar [] 0 :=
  ⟨⟨True.intro, rfl, by simp, fun x q => absurd q List.not_mem_nil, fun b t e => by cases e⟩, rfl, fun m hm => len_nn hG m a ha hm.chn⟩
/-- A way has no more fixes than there are. -/
theorem best_selfO (hG : G.Ok B) (ha : a < G.N) {cl : Nat → Bool} {bar : Int} : BestO G a a cl bar [] 0 := ⟨best_self hG ha, Or.inl rfl⟩
theorem nodup_le (hG : G.Ok B) (ha : a < G.N) {l : List Nat} (h1 : chn G a l) (h : (a :: l).Nodup) : l.length + 1 ≤ G.N := by
  have q : (a :: l).length ≤ (List.range G.N).length := by
    refine List.Nodup.length_le_of_subset h fun x hx => ?_
    rw [List.mem_range]
    rcases List.mem_cons.1 hx with e | e
    · rw [e]; exact ha
    · exact chn_lt hG l a ha h1 x e
  rw [List.length_range] at q
  exact q
end
end Short
end Go.Proofs.Ytokioemmjfjhkaa
