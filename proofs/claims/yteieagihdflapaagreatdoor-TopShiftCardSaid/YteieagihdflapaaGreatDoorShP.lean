/- Moved and delayed tubes have moved clashes: plain laws. -/
import Derived.Test.YteieagihdflapaaGreatDoorJ37
namespace Go.Proofs.YteieagihdflapaaGreatDoor
namespace ShP
open Tube Probe Plane
theorem tx_shift (T X : Nat → Int) (i : Nat) (t bx later : Int) : tx (fun k => T k + later) (fun k => X k + bx) i (t + later) = tx T X i t + bx := by
  unfold tx tw
  dsimp only
  rw [show X (i + 1) + bx - (X i + bx) = X (i + 1) - X i from by omega, show t + later - (T i + later) = t - T i from by omega, show T (i + 1) + later - (T i + later) = T (i + 1) - T i from by omega]
  omega
theorem th_shift (T X : Nat → Int) (i : Nat) (t later : Int) : th (fun k => T k + later) X i (t + later) = th T X i t := by
  unfold th
  rw [show t + later - (T i + later) = t - T i from by omega, show T (i + 1) + later - (T i + later) = T (i + 1) - T i from by omega]
theorem tu_shift (T X : Nat → Int) (i : Nat) (t later : Int) : tu (fun k => T k + later) X i (t + later) = tu T X i t := by
  unfold tu
  rw [show t + later - (T i + later) = t - T i from by omega, show T (i + 1) + later - (T i + later) = T (i + 1) - T i from by omega]
theorem segI_shift (T : Nat → Int) (t later : Int) : ∀ n, segI (fun k => T k + later) n (t + later) = segI T n t
  | 0 => rfl
  | n + 1 => by
    show (if T n + later ≤ t + later then n else segI (fun k => T k + later) n (t + later)) = if T n ≤ t then n else segI T n t
    rw [segI_shift T t later n]
    by_cases h : T n ≤ t
    · rw [if_pos h, if_pos (by omega)]
    · rw [if_neg h, if_neg (by omega)]
theorem sqr_shift (x y x' y' bx by' : Int) : sqr (x + bx) (y + by') (x' + bx) (y' + by') = sqr x y x' y' := by
  unfold sqr
  rw [show x + bx - (x' + bx) = x - x' from by omega, show y + by' - (y' + by') = y - y' from by omega]
/-- A tube, moved and delayed. -/
def mvd (d : Td) (bx by' later : Int) : Td := ⟨d.n, fun k => d.T k + later, fun k => d.X k + bx, fun k => d.Y k + by', d.H, d.R, d.B⟩
theorem cfT_shift (d d' : Td) (bx by' later lat ver t : Int) :
    cfT (mvd d bx by' later).T (mvd d bx by' later).X (mvd d bx by' later).Y (mvd d bx by' later).H (mvd d bx by' later).R (mvd d bx by' later).B (mvd d bx by' later).n (mvd d' bx by' later).T (mvd d' bx by' later).X (mvd d' bx by' later).Y (mvd d' bx by' later).H (mvd d' bx by' later).R (mvd d' bx by' later).B (mvd d' bx by' later).n lat ver (t + later)
      = cfT d.T d.X d.Y d.H d.R d.B d.n d'.T d'.X d'.Y d'.H d'.R d'.B d'.n lat ver t := by
  unfold mvd cfT
  dsimp only
  rw [segI_shift, segI_shift, tx_shift, tx_shift, th_shift, tu_shift, tu_shift, tx_shift, tx_shift, th_shift, tu_shift, tu_shift]
  unfold sepB
  rw [sqr_shift]
theorem span_shift {cf cf' : Int → Bool} {later : Int} (h : ∀ t, cf' (t + later) = cf t) (a : Int) : ∀ k, (spanN cf' (a + later) k).1 = (spanN cf a k).1 ∧ ∀ i, i < (spanN cf a k).1 → ∀ j, (spanN cf' (a + later) k).2 i j = (spanN cf a k).2 i j + later
  | 0 => ⟨rfl, fun i hi => absurd hi (Nat.not_lt_zero i)⟩
  | k + 1 => by
    obtain ⟨e1, e2⟩ := span_shift h a k
    have ek : a + later + (k : Int) = a + k + later := by omega
    by_cases hc : cf (a + k) = true
    · have hc' : cf' (a + later + k) = true := by rw [ek, h]; exact hc
      by_cases h1 : 0 < (spanN cf a k).1 ∧ (spanN cf a k).2 ((spanN cf a k).1 - 1) 1 = a + k
      · have h1' : 0 < (spanN cf' (a + later) k).1 ∧ (spanN cf' (a + later) k).2 ((spanN cf' (a + later) k).1 - 1) 1 = a + later + k := by
          rw [e1]
          exact ⟨h1.1, by rw [e2 _ (by omega), h1.2]; omega⟩
        rw [spanN_more hc h1.1 h1.2, spanN_more hc' h1'.1 h1'.2]
        dsimp only
        refine ⟨e1, fun i hi j => ?_⟩
        rw [e1]
        unfold Kit.upd
        by_cases q : i = (spanN cf a k).1 - 1 ∧ j = 1
        · rw [if_pos q, if_pos q]; omega
        · rw [if_neg q, if_neg q]; exact e2 i hi j
      · have h1' : ¬ (0 < (spanN cf' (a + later) k).1 ∧ (spanN cf' (a + later) k).2 ((spanN cf' (a + later) k).1 - 1) 1 = a + later + k) := by
          rw [e1]
          rintro ⟨q1, q2⟩
          rw [e2 _ (by omega)] at q2
          exact h1 ⟨q1, by omega⟩
        rw [spanN_new hc h1, spanN_new hc' h1']
        dsimp only
        refine ⟨by rw [e1], fun i hi j => ?_⟩
        rw [e1]
        by_cases q : i = (spanN cf a k).1
        · rw [if_pos q, if_pos q]
          by_cases q2 : j = 0
          · rw [if_pos q2, if_pos q2]; omega
          · rw [if_neg q2, if_neg q2]; omega
        · rw [if_neg q, if_neg q]; exact e2 i (by omega) j
    · have hc1 : cf (a + k) = false := by simpa using hc
      have hc' : cf' (a + later + k) = false := by rw [ek, h]; exact hc1
      rw [spanN_no hc1, spanN_no hc']
      exact ⟨e1, e2⟩
theorem spq_shift (D : Nat → Td) (bx by' later lat ver : Int) (a b : Nat) :
    (spq (fun k => mvd (D k) bx by' later) lat ver a b).1 = (spq D lat ver a b).1 ∧ ∀ i, i < (spq D lat ver a b).1 → ∀ j, (spq (fun k => mvd (D k) bx by' later) lat ver a b).2 i j = (spq D lat ver a b).2 i j + later := by
  have e1 : max ((D a).T 0 + later) ((D b).T 0 + later) = max ((D a).T 0) ((D b).T 0) + later := by omega
  have e2 : (min ((D a).T ((D a).n - 1) + later) ((D b).T ((D b).n - 1) + later) + 1 - max ((D a).T 0 + later) ((D b).T 0 + later)).toNat = (min ((D a).T ((D a).n - 1)) ((D b).T ((D b).n - 1)) + 1 - max ((D a).T 0) ((D b).T 0)).toNat := by omega
  have q := span_shift (cfT_shift (D a) (D b) bx by' later lat ver) (max ((D a).T 0) ((D b).T 0)) (min ((D a).T ((D a).n - 1)) ((D b).T ((D b).n - 1)) + 1 - max ((D a).T 0) ((D b).T 0)).toNat
  have e3 : spq (fun k => mvd (D k) bx by' later) lat ver a b = spanN (cfT (mvd (D a) bx by' later).T (mvd (D a) bx by' later).X (mvd (D a) bx by' later).Y (mvd (D a) bx by' later).H (mvd (D a) bx by' later).R (mvd (D a) bx by' later).B (mvd (D a) bx by' later).n (mvd (D b) bx by' later).T (mvd (D b) bx by' later).X (mvd (D b) bx by' later).Y (mvd (D b) bx by' later).H (mvd (D b) bx by' later).R (mvd (D b) bx by' later).B (mvd (D b) bx by' later).n lat ver) (max ((D a).T 0 + later) ((D b).T 0 + later)) (min ((D a).T ((D a).n - 1) + later) ((D b).T ((D b).n - 1) + later) + 1 - max ((D a).T 0 + later) ((D b).T 0 + later)).toNat := rfl
  rw [e3, e2, e1]
  exact q
/-- A clash, delayed. -/
def sh (later : Int) (c : Ck) : Ck := ⟨c.A, c.B, c.F + later, c.T + later⟩
section
variable {D : Nat → Td} {bx by' later lat ver : Int}
theorem clp_shift (a b : Nat) : clp (fun k => mvd (D k) bx by' later) lat ver a b = (clp D lat ver a b).map (sh later) := by
  obtain ⟨e1, e2⟩ := spq_shift D bx by' later lat ver a b
  unfold clp
  rw [e1, List.map_map]
  apply List.map_congr_left
  intro i hi
  have hi := List.mem_range.1 hi
  show (⟨a, b, _, _⟩ : Ck) = ⟨a, b, _, _⟩
  rw [e2 i hi 0, e2 i hi 1]
  congr 1
  show (spq D lat ver a b).2 i 1 + later - 1 = (spq D lat ver a b).2 i 1 - 1 + later
  omega
theorem clb_shift (a : Nat) : ∀ k, clb (fun k => mvd (D k) bx by' later) lat ver a k = (clb D lat ver a k).map (sh later)
  | 0 => rfl
  | k + 1 => by
    unfold clb
    rw [clb_shift a k, List.map_append]
    congr 1
    by_cases h : a < k
    · rw [if_pos h, if_pos h]; exact clp_shift a k
    · rw [if_neg h, if_neg h]; rfl
theorem cla_shift (m : Nat) : ∀ k, cla (fun k => mvd (D k) bx by' later) lat ver m k = (cla D lat ver m k).map (sh later)
  | 0 => rfl
  | k + 1 => by
    unfold cla
    rw [cla_shift m k, List.map_append, clb_shift]
/-- A clash of two tubes is known by them and by where it begins. -/
theorem clp_mem {a b : Nat} {c : Ck} (h : c ∈ clp D lat ver a b) : ∃ i, i < (spq D lat ver a b).1 ∧ c = ⟨a, b, (spq D lat ver a b).2 i 0, (spq D lat ver a b).2 i 1 - 1⟩ := by
  unfold clp at h
  obtain ⟨i, hi, e⟩ := List.mem_map.1 h
  exact ⟨i, List.mem_range.1 hi, e.symm⟩
theorem clb_mem' {a : Nat} {c : Ck} : ∀ k, c ∈ clb D lat ver a k → ∃ b i, b < k ∧ i < (spq D lat ver a b).1 ∧ c = ⟨a, b, (spq D lat ver a b).2 i 0, (spq D lat ver a b).2 i 1 - 1⟩
  | 0, h => absurd h List.not_mem_nil
  | k + 1, h => by
    unfold clb at h
    rcases List.mem_append.1 h with q | q
    · obtain ⟨b, i, h1, h2, h3⟩ := clb_mem' k q
      exact ⟨b, i, by omega, h2, h3⟩
    · split at q
      · obtain ⟨i, h2, h3⟩ := clp_mem q
        exact ⟨k, i, by omega, h2, h3⟩
      · exact absurd q List.not_mem_nil
theorem cla_mem' {m : Nat} {c : Ck} : ∀ k, c ∈ cla D lat ver m k → ∃ a b i, a < k ∧ b < m ∧ i < (spq D lat ver a b).1 ∧ c = ⟨(a : Nat), (b : Nat), (spq D lat ver a b).2 i 0, (spq D lat ver a b).2 i 1 - 1⟩
  | 0, h => absurd h List.not_mem_nil
  | k + 1, h => by
    unfold cla at h
    rcases List.mem_append.1 h with q | q
    · obtain ⟨a, b, i, h1, h2, h3, h4⟩ := cla_mem' k q
      exact ⟨a, b, i, by omega, h2, h3, h4⟩
    · obtain ⟨b, i, h1, h2, h3⟩ := clb_mem' m q
      exact ⟨k, b, i, by omega, h1, h2, h3⟩
/-- The times of a clash. -/
theorem cla_time {m : Nat} (ht : toks D m) {c : Ck} (h : c ∈ cla D lat ver m m) : (0 ≤ c.F ∧ c.F ≤ 200001) ∧ 0 ≤ c.T ∧ c.T ≤ 200001 := by
  obtain ⟨a, b, i, h1, h2, h3, rfl⟩ := cla_mem' m h
  have q := (spq_ok (lat := lat) (ver := ver) (ht a h1) (ht b h2)).2 i h3
  simp only
  omega
theorem span_inc {cf : Int → Bool} {a : Int} {k m : Nat} {f : Nat → Nat → Int} (h : SpanOk cf a k m f) : ∀ n i, i + n < m → 0 < n → f i 0 < f (i + n) 0
  | 0, i, _, h0 => absurd h0 (Nat.lt_irrefl 0)
  | n + 1, i, hi, _ => by
    have g := h.gap (i + n) (by omega)
    have l := h.le (i + n) (by omega)
    rcases Nat.eq_zero_or_pos n with e | e
    · subst e
      show f i 0 < f (i + 0 + 1) 0
      rw [Nat.add_zero] at g l ⊢
      omega
    · have ih := span_inc h n i (by omega) e
      show f i 0 < f (i + n + 1) 0
      omega
theorem cla_key {m : Nat} {c c' : Ck} (h : c ∈ cla D lat ver m m) (h' : c' ∈ cla D lat ver m m) (eA : c.A = c'.A) (eB : c.B = c'.B) (eF : c.F = c'.F) : c = c' := by
  obtain ⟨a, b, i, -, -, hi, rfl⟩ := cla_mem' m h
  obtain ⟨a', b', i', -, -, hi', rfl⟩ := cla_mem' m h'
  simp only at eA eB eF
  obtain rfl : a = a' := by omega
  obtain rfl : b = b' := by omega
  have ok : SpanOk _ _ _ (spq D lat ver a b).1 (spq D lat ver a b).2 := spanN_ok _ _ _
  have e : i = i' := by
    rcases Nat.lt_trichotomy i i' with q | q | q
    · have := span_inc ok (i' - i) i (by omega) (by omega)
      rw [show i + (i' - i) = i' from by omega] at this
      omega
    · exact q
    · have := span_inc ok (i - i') i' (by omega) (by omega)
      rw [show i' + (i - i') = i from by omega] at this
      omega
  subst e
  rfl
/-- Sorted lists of the same clashes are equal. -/
theorem same {m : Nat} {L L' : List Ck} (h : L.Perm (cla D lat ver m m)) (h' : L'.Perm ((cla D lat ver m m).map (sh later))) (s : srt L) (s' : srt L') : L' = L.map (sh later) := by
  have p : L'.Perm (L.map (sh later)) := h'.trans (h.map _).symm
  refine p.eq_of_pairwise (le := fun x y => ¬ ltC y x) ?_ ?_ ?_
  · intro x y hx hy q1 q2
    obtain ⟨u, hu, rfl⟩ := List.mem_map.1 (h'.mem_iff.1 hx)
    obtain ⟨v, hv, rfl⟩ := List.mem_map.1 hy
    have hv := h.mem_iff.1 hv
    have e : u = v := by
      unfold ltC sh at q1 q2
      simp only at q1 q2
      exact cla_key hu hv (by omega) (by omega) (by omega)
    rw [e]
  · rw [List.pairwise_iff_getElem]
    exact fun i j hi hj hij => s' i j hi hj hij
  · rw [List.pairwise_iff_getElem]
    intro i j hi hj hij
    rw [List.getElem_map, List.getElem_map]
    have := s i j (by simpa using hi) (by simpa using hj) hij
    unfold ltC sh at *
    simp only at *
    omega
end
end ShP
end Go.Proofs.YteieagihdflapaaGreatDoor
