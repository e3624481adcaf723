/- Joined texts: ChW, ChO, ExpC. -/
import Derived.Test.YtmkglhoahdlogaaGreatDoorJ09
import Derived.Test.YtmkglhoahdlogaaGreatDoorExpW
namespace Go.Proofs.YtmkglhoahdlogaaGreatDoor
open Go.RowKit
namespace Chart
open Kit Plane Poly
def allB (p : Nat → Bool) : Nat → Bool
  | 0 => true
  | k + 1 => allB p k && p k
theorem allB_stop {p : Nat → Bool} {k : Nat} (h : p k = false) : ∀ {n : Nat}, k < n → allB p n = false
  | 0, hn => by omega
  | n + 1, hn => by
    show (allB p n && p n) = false
    rcases Nat.lt_or_ge k n with hl | hl
    · rw [allB_stop h hl]; rfl
    · rw [show n = k from by omega, h, Bool.and_false]
theorem allB_iff {p : Nat → Bool} : ∀ {n : Nat}, allB p n = true ↔ ∀ k, k < n → p k = true
  | 0 => ⟨fun _ k hk => by omega, fun _ => rfl⟩
  | n + 1 => by
    show (allB p n && p n) = true ↔ _
    rw [Bool.and_eq_true, allB_iff]
    exact ⟨fun h k hk => by
      rcases Nat.lt_or_ge k n with hl | hl
      · exact h.1 k hl
      · rw [show k = n from by omega]; exact h.2, fun h => ⟨fun k hk => h k (by omega), h n (by omega)⟩⟩
/-- Two lists of names are the same. -/
def sameB (n : Nat) (S : Nat → ByteArray) (m : Nat) (T : Nat → ByteArray) : Bool := decide (n = m) && allB (fun k => decide (S k = T k)) n
theorem sv_len {w : World} {v : Value} {n : Nat} {S : Nat → ByteArray} (h : SV w v n S) : ∃ A cap, v = .slice A n cap ∧ n ≤ cap ∧ cap ≤ maxLen := by
  rcases h with ⟨rfl, h⟩ | ⟨h0, b, off, cap, rfl, h1, h2, h3⟩
  · rcases h with rfl | ⟨a, cap, rfl, hc⟩
    · exact ⟨_, _, rfl, Nat.le_refl _, Nat.zero_le _⟩
    · exact ⟨_, _, rfl, Nat.zero_le _, hc⟩
  · exact ⟨_, _, rfl, h1, h2⟩
/-- The sample chart. -/
def smN (k : Nat) : ByteArray := if k = 0 then ⟨#[65]⟩ else if k = 1 then ⟨#[66]⟩ else if k = 2 then ⟨#[67]⟩ else ⟨#[68]⟩
def smX (k : Nat) : Int := if k = 0 then 0 else if k = 1 then 3000 else 6000
def smY (k : Nat) : Int := if k = 0 then 0 else if k = 1 then 4000 else if k = 2 then 8000 else 9000
def smM (_ : Nat) : ByteArray := ⟨#[85, 76, 49]⟩
def smL (_ : Nat) : Nat := 4
def smS (_ : Nat) : Nat → ByteArray := smN
theorem sm_ok : cerr 4 smN smX smY 1 smM smL smS = 0 := by decide +kernel
/-- The blocks of the sample chart. -/
def smF : Array Value := #[.string ⟨#[65]⟩, .int .i64 0, .int .i64 0, .string ⟨#[66]⟩, .int .i64 3000, .int .i64 4000, .string ⟨#[67]⟩, .int .i64 6000, .int .i64 8000, .string ⟨#[68]⟩, .int .i64 6000, .int .i64 9000]
def smT : Array Value := #[.string ⟨#[65]⟩, .string ⟨#[66]⟩, .string ⟨#[67]⟩, .string ⟨#[68]⟩]
theorem sm_fv (w : World) (t : TypeId) : FV (w.alloc (.cells smF t)) (.slice (some ⟨w.heap.size, 0, none⟩) 4 4) 4 smN smX smY := by
  refine Or.inr ⟨by omega, w.heap.size, 0, 4, rfl, Nat.le_refl _, by decide, fun k hk => ?_⟩
  rcases (show k = 0 ∨ k = 1 ∨ k = 2 ∨ k = 3 from by omega) with rfl | rfl | rfl | rfl <;> exact ⟨by simp [smF, smN], by simp [smF, smX], by simp [smF, smY]⟩
theorem sm_sv (w : World) (t : TypeId) : SV (w.alloc (.cells smT t)) (.slice (some ⟨w.heap.size, 0, none⟩) 4 4) 4 smN := by
  refine Or.inr ⟨by omega, w.heap.size, 0, 4, rfl, Nat.le_refl _, by decide, fun k hk => ?_⟩
  rcases (show k = 0 ∨ k = 1 ∨ k = 2 ∨ k = 3 from by omega) with rfl | rfl | rfl | rfl <;> simp [smT, smN]
theorem sm_cv (w : World) (o : Obj) (t1 t2 t3 : TypeId) : CV ((((w.alloc o).alloc (.cells smF t1)).alloc (.cells smT t2)).alloc (.cells #[.string ⟨#[85, 76, 49]⟩, .slice (some ⟨w.heap.size + 1 + 1, 0, none⟩) 4 4] t3)) (.agg #[.slice (some ⟨w.heap.size + 1, 0, none⟩) 4 4, .slice (some ⟨w.heap.size + 1 + 1 + 1, 0, none⟩) 1 1]) 4 smN smX smY 1 smM smL smS := by
  have h1 := sm_fv (w.alloc o) t1
  have h2 := sm_sv ((w.alloc o).alloc (.cells smF t1)) t2
  rw [World.size_alloc] at h1 h2
  rw [World.size_alloc] at h2
  refine ⟨_, _, rfl, fv_keep (b_alloc (b_alloc (Below.refl _ _) _) _) h1, Or.inr ⟨by omega, w.heap.size + 1 + 1 + 1, 0, 1, rfl, Nat.le_refl _, by decide, fun k hk => ?_⟩⟩
  obtain rfl : k = 0 := by omega
  have h3 := p2v_new (((w.alloc o).alloc (.cells smF t1)).alloc (.cells smT t2)) t3 (.string ⟨#[85, 76, 49]⟩) (.slice (some ⟨w.heap.size + 1 + 1, 0, none⟩) 4 4)
  rw [World.size_alloc, World.size_alloc, World.size_alloc] at h3
  exact ⟨h3.1, _, h3.2, sv_keep (b_alloc (Below.refl _ _) _) h2⟩
theorem lsum3 (D : Nat → Int) : lsum D 3 = 0 + D 1 + D 2 := rfl
def smQ (k : Nat) : ByteArray := if k = 0 then ⟨#[65]⟩ else if k = 1 then ⟨#[66]⟩ else ⟨#[68]⟩
theorem sm_len : lenR 0 4 smN smX smY 3 smQ = (10831, 0) := by
  unfold lenR
  rw [if_neg (by decide), if_neg (by decide), if_neg (by decide +kernel), lsum3]
  have q0 : pos 4 smN (smQ 0) = 0 := by decide +kernel
  have q1 : pos 4 smN (smQ 1) = 1 := by decide +kernel
  have q2 : pos 4 smN (smQ 2) = 3 := by decide +kernel
  have s1 : stp 4 smN smX smY smQ 1 = dup (sqr 0 0 3000 4000) := by
    unfold stp
    rw [show (1 - 1 : Nat) = 0 from rfl, q0, q1, show smX 0 = 0 from rfl, show smY 0 = 0 from rfl, show smX 1 = 3000 from rfl, show smY 1 = 4000 from rfl]
  have s2 : stp 4 smN smX smY smQ 2 = dup (sqr 3000 4000 6000 9000) := by
    unfold stp
    rw [show (2 - 1 : Nat) = 1 from rfl, q1, q2, show smX 1 = 3000 from rfl, show smY 1 = 4000 from rfl, show smX 3 = 6000 from rfl, show smY 3 = 9000 from rfl]
  rw [s1, s2]
  have r1 : root (sqr 0 0 3000 4000) = 5000 := root_unique (by decide) (by unfold sqr; decide) (by unfold sqr; decide)
  have r2 : root (sqr 3000 4000 6000 9000) = 5830 := root_unique (by decide) (by unfold sqr; decide) (by unfold sqr; decide)
  unfold dup
  rw [r1, r2]
  unfold sqr
  decide
theorem sm_bet {q : Value} {w : World} (h : betP 4 smN smX smY 1 smM smL smS ⟨#[85, 76, 49]⟩ ⟨#[68]⟩ ⟨#[66]⟩ q w) : ∃ v, q = .tuple #[v, .int .i64 0] ∧ SV w v 3 (way smN 3 1) := by
  unfold betP at h
  rw [if_neg (by rw [sm_ok]; decide), if_neg (by decide +kernel)] at h
  obtain ⟨k, hk, hk1, h⟩ := h
  obtain rfl : k = 0 := by omega
  rw [if_neg (by decide +kernel)] at h
  obtain ⟨i, j, hi, hj, v, hq, hs⟩ := h
  have e1 : fix (smS 0) ⟨#[68]⟩ (smL 0) = 3 := by decide +kernel
  have e2 : fix (smS 0) ⟨#[66]⟩ (smL 0) = 1 := by decide +kernel
  rw [e1] at hi; rw [e2] at hj
  obtain rfl : i = 3 := by omega
  obtain rfl : j = 1 := by omega
  exact ⟨v, hq, hs⟩
def t3v (s0 s1 s2 : ByteArray) (k : Nat) : ByteArray := if k = 0 then s0 else if k = 1 then s1 else s2
theorem t3_sv (w : World) (t : TypeId) (s0 s1 s2 : ByteArray) : SV (w.alloc (.cells #[.string s0, .string s1, .string s2] t)) (.slice (some ⟨w.heap.size, 0, none⟩) 3 3) 3 (t3v s0 s1 s2) := by
  refine Or.inr ⟨by omega, w.heap.size, 0, 3, rfl, Nat.le_refl _, by decide, fun k hk => ?_⟩
  rcases (show k = 0 ∨ k = 1 ∨ k = 2 from by omega) with rfl | rfl | rfl <;> simp [t3v]
end Chart
end Go.Proofs.YtmkglhoahdlogaaGreatDoor
namespace Go.Proofs.YtmkglhoahdlogaaGreatDoor
open Go.RowKit
namespace Chart
open Kit Plane Poly
def strOf : Value → ByteArray
  | .string s => s
  | _ => ⟨#[]⟩
def numOf : Value → Int
  | .int _ n => n
  | _ => 0
theorem sv_of {W : World} {v : Value} (h : Frame.Okc W (.sl [.str]) v) : ∃ n S, SV W v n S := by
  rcases h.sl_inv with rfl | ⟨a, cap, rfl, hc⟩ | ⟨b, off, len, cap, cells, rfl, h0, h1, h2, hc, ho⟩
  · exact ⟨0, fun _ => ⟨#[]⟩, Or.inl ⟨rfl, Or.inl rfl⟩⟩
  · exact ⟨0, fun _ => ⟨#[]⟩, Or.inl ⟨rfl, Or.inr ⟨a, cap, rfl, hc⟩⟩⟩
  · refine ⟨len, fun i => strOf (cells i 0), Or.inr ⟨h0, b, off, cap, rfl, h1, h2, fun k hk => ?_⟩⟩
    have e := hc k hk 0 (by decide)
    obtain ⟨s, es, -⟩ := (ho k hk 0 (by decide)).str_inv
    rw [show off + k * [Frame.Kd.str].length + 0 = off + k from by simp, es] at e
    dsimp only; rw [es]; exact e
theorem fv_of {W : World} {v : Value} (h : Frame.Okc W (.sl [.str, .int, .int]) v) : ∃ n N X Y, FV W v n N X Y := by
  rcases h.sl_inv with rfl | ⟨a, cap, rfl, hc⟩ | ⟨b, off, len, cap, cells, rfl, h0, h1, h2, hc, ho⟩
  · exact ⟨0, fun _ => ⟨#[]⟩, fun _ => 0, fun _ => 0, Or.inl ⟨rfl, Or.inl rfl⟩⟩
  · exact ⟨0, fun _ => ⟨#[]⟩, fun _ => 0, fun _ => 0, Or.inl ⟨rfl, Or.inr ⟨a, cap, rfl, hc⟩⟩⟩
  · refine ⟨len, fun i => strOf (cells i 0), fun i => numOf (cells i 1), fun i => numOf (cells i 2), Or.inr ⟨h0, b, off, cap, rfl, h1, h2, fun k hk => ?_⟩⟩
    obtain ⟨s, es, -⟩ := (ho k hk 0 (by decide)).str_inv
    obtain ⟨x, ex, -⟩ := (ho k hk 1 (by decide)).int_inv
    obtain ⟨y, ey, -⟩ := (ho k hk 2 (by decide)).int_inv
    have e0 := hc k hk 0 (by decide); have e1 := hc k hk 1 (by decide); have e2 := hc k hk 2 (by decide)
    rw [es] at e0; rw [ex] at e1; rw [ey] at e2
    exact ⟨by dsimp only; rw [es]; exact e0, by dsimp only; rw [ex]; exact e1, by dsimp only; rw [ey]; exact e2⟩
theorem av_of {W : World} {v : Value} (h : Frame.Okc W (.sl [.str, .sl [.str]]) v) : ∃ m M l S, AV W v m M l S := by
  rcases h.sl_inv with rfl | ⟨a, cap, rfl, hc⟩ | ⟨b, off, len, cap, cells, rfl, h0, h1, h2, hc, ho⟩
  · exact ⟨0, fun _ => ⟨#[]⟩, fun _ => 0, fun _ _ => ⟨#[]⟩, Or.inl ⟨rfl, Or.inl rfl⟩⟩
  · exact ⟨0, fun _ => ⟨#[]⟩, fun _ => 0, fun _ _ => ⟨#[]⟩, Or.inl ⟨rfl, Or.inr ⟨a, cap, rfl, hc⟩⟩⟩
  · have key : ∀ i, ∃ p : Nat × (Nat → ByteArray), i < len → SV W (cells i 1) p.1 p.2 := fun i => by
      by_cases hi : i < len
      · obtain ⟨n, S, hs⟩ := sv_of (ho i hi 1 (by decide))
        exact ⟨(n, S), fun _ => hs⟩
      · exact ⟨(0, fun _ => ⟨#[]⟩), fun h => absurd h hi⟩
    refine ⟨len, fun i => strOf (cells i 0), fun i => (Classical.choose (key i)).1, fun i => (Classical.choose (key i)).2, Or.inr ⟨h0, b, off, cap, rfl, h1, h2, fun k hk => ?_⟩⟩
    obtain ⟨s, es, -⟩ := (ho k hk 0 (by decide)).str_inv
    have e0 := hc k hk 0 (by decide); have e1 := hc k hk 1 (by decide)
    rw [es] at e0
    exact ⟨by dsimp only; rw [es]; exact e0, _, e1, Classical.choose_spec (key k) hk⟩
theorem cv_of {W : World} {fx aw : Value} (h1 : Frame.Okc W (.sl [.str, .int, .int]) fx) (h2 : Frame.Okc W (.sl [.str, .sl [.str]]) aw) : ∃ n N X Y m M l S, CV W (.agg #[fx, aw]) n N X Y m M l S := by
  obtain ⟨n, N, X, Y, hf⟩ := fv_of h1
  obtain ⟨m, M, l, S, ha⟩ := av_of h2
  exact ⟨n, N, X, Y, m, M, l, S, ⟨fx, aw, rfl, hf, ha⟩⟩
end Chart
end Go.Proofs.YtmkglhoahdlogaaGreatDoor
namespace Go.Proofs.YtmkglhoahdlogaaGreatDoor
open Go.RowKit
namespace Route
open Kit Chart
theorem sv_congr {w : World} {v : Value} {n : Nat} {S T : Nat → ByteArray} (h : SV w v n S) (e : ∀ k, k < n → S k = T k) : SV w v n T := by
  rcases h with h | ⟨h0, b, off, cap, hv, h1, h2, h3⟩
  · exact Or.inl h
  · exact Or.inr ⟨h0, b, off, cap, hv, h1, h2, fun k hk => by rw [← e k hk]; exact h3 k hk⟩
/-- The list of the first n names. -/
def lst (n : Nat) (S : Nat → ByteArray) : List ByteArray := (List.range n).map S
theorem lst_len (n : Nat) (S : Nat → ByteArray) : (lst n S).length = n := by unfold lst; rw [List.length_map, List.length_range]
theorem lst_nth {n : Nat} {S : Nat → ByteArray} {k : Nat} (h : k < n) : nth (lst n S) k = S k := by
  show (lst n S).getD k ⟨#[]⟩ = S k
  unfold lst
  rw [List.getD_eq_getElem?_getD, List.getElem?_map, List.getElem?_range h]
  rfl
theorem sl_of_sv {w : World} {v : Value} {n : Nat} {S : Nat → ByteArray} (h : SV w v n S) : SL w v (lst n S) := by
  show SV w v (lst n S).length (nth (lst n S))
  rw [lst_len]
  exact sv_congr h fun k hk => (lst_nth hk).symm
section
variable (n : Nat) (N : Nat → ByteArray) (X Y : Nat → Int) (m : Nat) (M : Nat → ByteArray) (l : Nat → Nat) (S : Nat → Nat → ByteArray)
/-- The names of a route. -/
def rts (f t : ByteArray) (R : List ByteArray) : List ByteArray := nms m M l S (nth (its f t R)) ((its f t R).length - 1)
/-- route.Expand's error. -/
def rtE (cl kd f t : ByteArray) (off sp h : Int) (nr : Nat) (RT : Nat → ByteArray) : Int :=
  if Plan.planE cl kd f t off sp h nr RT ≠ 0 then Plan.planE cl kd f t off sp h nr RT else if cerr n N X Y m M l S ≠ 0 then cerr n N X Y m M l S
  else expE n N X Y m M l S (its f t (lst nr RT)).length (nth (its f t (lst nr RT)))
end
theorem planE_len {cl kd f t : ByteArray} {off sp h : Int} {nr : Nat} {RT : Nat → ByteArray} (hE : Plan.planE cl kd f t off sp h nr RT = 0) : nr ≤ 24 := by
  unfold Plan.planE at hE
  split at hE
  · cases hE
  · split at hE
    · cases hE
    · split at hE
      · cases hE
      · split at hE
        · cases hE
        · omega
theorem expandC {r c : Value} {cl kd f t : ByteArray} {off sp h : Int} {nr : Nat} {RT : Nat → ByteArray} {n : Nat} {N : Nat → ByteArray} {X Y : Nat → Int} {m : Nat} {M : Nat → ByteArray} {l : Nat → Nat} {S : Nat → Nat → ByteArray} {w : World} (hr : SV w r nr RT) (hc : CV w c n N X Y m M l S) :
    Calls Tryz.prog 5 #[Plan.plan cl kd f t off sp h r, c] w fun e w' => ExpPost n N X Y (rtE n N X Y m M l S cl kd f t off sp h nr RT) (rts m M l S f t (lst nr RT)) e w' ∧ Below w.heap.size w w' := by
  have PC : ∀ w1, Below w.heap.size w w1 → Calls Tryz.prog 13 #[Plan.plan cl kd f t off sp h r] w1 fun e w' => e = .returned (.int .i64 (Plan.planE cl kd f t off sp h nr RT)) ∧ Below w1.heap.size w1 w' := Plan.checkC hr
  have CK : ∀ w1, Below w.heap.size w w1 → Calls Tryz.prog 14 #[c] w1 fun e w' => e = .returned (.int .i64 (cerr n N X Y m M l S)) ∧ Below w1.heap.size w1 w' := fun w1 hb => checkC (cv_keep hb hc)
  obtain ⟨fx, a, rfl, h1, h2⟩ := hc.ex
  obtain ⟨A1, c1, rfl⟩ := fv_slice h1
  obtain ⟨A2, c2, rfl⟩ := av_slice h2
  have hsl := sl_of_sv hr
  obtain ⟨A3, c3, rfl⟩ := sv_slice hr
  unfold rtE
  by_cases hp : Plan.planE cl kd f t off sp h nr RT ≠ 0
  · rw [if_pos hp]
    exact (exp_plan cl kd f t off sp h A1 A2 A3 n c1 m c2 nr c3 _ w (by simpa using hp) (by simpa using hp) (Lib.hid PC)).mono fun e w' ⟨he, hb⟩ => ⟨Or.inl ⟨hp, he⟩, hb⟩
  rw [if_neg hp]
  rw [Classical.not_not.1 hp] at PC
  by_cases hE : cerr n N X Y m M l S ≠ 0
  · rw [if_pos hE]
    exact (exp_chart cl kd f t off sp h A1 A2 A3 n c1 m c2 nr c3 _ w (by simpa using hE) (by simpa using hE) (Lib.hid PC) (Lib.hid CK)).mono fun e w' ⟨he, hb⟩ => ⟨Or.inl ⟨hE, he⟩, hb⟩
  rw [if_neg hE]
  rw [Classical.not_not.1 hE] at CK
  exact exp_w cl kd f t off sp h A1 A2 A3 n c1 m c2 nr c3 N X Y M l S (lst nr RT) _ _ _ _ w (Classical.not_not.1 hE) (lst_len _ _) (planE_len (Classical.not_not.1 hp)) (Lib.hid PC) (Lib.hid CK) (Lib.hid hsl) (Lib.hid h2) (Lib.hid hc) (Lib.hid rfl) (Lib.hid rfl) (Lib.hid rfl) (Lib.hid rfl)
section
variable {n : Nat} {N : Nat → ByteArray} {X Y : Nat → Int} {m : Nat} {M : Nat → ByteArray} {l : Nat → Nat} {S : Nat → Nat → ByteArray} {cl kd f t : ByteArray} {off sp h : Int} {nr : Nat} {RT : Nat → ByteArray}
/-- What is known where route.Expand finds nothing wrong. -/
structure RtOk (n : Nat) (N : Nat → ByteArray) (X Y : Nat → Int) (m : Nat) (M : Nat → ByteArray) (l : Nat → Nat) (S : Nat → Nat → ByteArray) (f t : ByteArray) (R : List ByteArray) : Prop where
  chart : cerr n N X Y m M l S = 0
  items : ∀ i, i < (its f t R).length → ierr n N m M (its f t R).length (nth (its f t R)) i = 0
  pairs : ∀ i, i < (its f t R).length → cser m M (nth (its f t R)) i = 0
  parts : ∀ i, i < (its f t R).length → serr m M l S (nth (its f t R)) i = 0
  moves : ∀ j, j < (rts m M l S f t R).length → zer n N X Y (rts m M l S f t R) j = 0
  most : (rts m M l S f t R).length ≤ 62
theorem rt_ok (hE : rtE n N X Y m M l S cl kd f t off sp h nr RT = 0) : Plan.planE cl kd f t off sp h nr RT = 0 ∧ RtOk n N X Y m M l S f t (lst nr RT) := by
  unfold rtE at hE
  by_cases h0 : Plan.planE cl kd f t off sp h nr RT ≠ 0
  · rw [if_pos h0] at hE; exact absurd hE h0
  rw [if_neg h0] at hE
  by_cases h1 : cerr n N X Y m M l S ≠ 0
  · rw [if_pos h1] at hE; exact absurd hE h1
  rw [if_neg h1] at hE
  unfold expE at hE
  by_cases h2 : ferr (ierr n N m M (its f t (lst nr RT)).length (nth (its f t (lst nr RT)))) (its f t (lst nr RT)).length ≠ 0
  · rw [if_pos h2] at hE; cases hE
  rw [if_neg h2] at hE
  by_cases h3 : ferr (cser m M (nth (its f t (lst nr RT)))) (its f t (lst nr RT)).length ≠ 0
  · rw [if_pos h3] at hE; cases hE
  rw [if_neg h3] at hE
  by_cases h4 : ferr (serr m M l S (nth (its f t (lst nr RT)))) (its f t (lst nr RT)).length ≠ 0
  · rw [if_pos h4] at hE; cases hE
  rw [if_neg h4] at hE
  change (if ferr (zer n N X Y (rts m M l S f t (lst nr RT))) (rts m M l S f t (lst nr RT)).length ≠ 0 then 10 else if 62 < (rts m M l S f t (lst nr RT)).length then 2 else 0 : Int) = 0 at hE
  by_cases h5 : ferr (zer n N X Y (rts m M l S f t (lst nr RT))) (rts m M l S f t (lst nr RT)).length ≠ 0
  · rw [if_pos h5] at hE; cases hE
  rw [if_neg h5] at hE
  by_cases h6 : 62 < (rts m M l S f t (lst nr RT)).length
  · rw [if_pos h6] at hE; cases hE
  exact ⟨Classical.not_not.1 h0, ⟨Classical.not_not.1 h1, ferr_inv (Classical.not_not.1 h2), ferr_inv (Classical.not_not.1 h3), ferr_inv (Classical.not_not.1 h4), ferr_inv (Classical.not_not.1 h5), by omega⟩⟩
theorem rt_of (h0 : Plan.planE cl kd f t off sp h nr RT = 0) (o : RtOk n N X Y m M l S f t (lst nr RT)) : rtE n N X Y m M l S cl kd f t off sp h nr RT = 0 := by
  unfold rtE
  rw [if_neg (fun e => e h0), if_neg (fun e => e o.chart)]
  unfold expE
  rw [if_neg (fun e => e (ferr_zero o.items)), if_neg (fun e => e (ferr_zero o.pairs)), if_neg (fun e => e (ferr_zero o.parts))]
  change (if ferr (zer n N X Y (rts m M l S f t (lst nr RT))) (rts m M l S f t (lst nr RT)).length ≠ 0 then 10 else if 62 < (rts m M l S f t (lst nr RT)).length then 2 else 0 : Int) = 0
  have := o.most
  rw [if_neg (fun e => e (ferr_zero o.moves)), if_neg (by omega)]
theorem its_eq (f t : ByteArray) (R : List ByteArray) : its f t R = [f] ++ R ++ [t] := rfl
theorem its_first (f t : ByteArray) (R : List ByteArray) : nth (its f t R) 0 = f := rfl
theorem its_last (f t : ByteArray) (R : List ByteArray) : nth (its f t R) ((its f t R).length - 1) = t := by
  rw [its_len]
  show (its f t R).getD _ _ = t
  rw [its_eq, List.getD_eq_getElem?_getD, List.getElem?_append_right (by simp), List.length_append, List.length_singleton, show R.length + 2 - 1 - (1 + R.length) = 0 by omega]
  rfl
theorem rts_len {R : List ByteArray} (o : RtOk n N X Y m M l S f t R) : 1 ≤ (rts m M l S f t R).length := (nms_len o.chart _).1
theorem rts_fnd {R : List ByteArray} (o : RtOk n N X Y m M l S f t R) : Fnd n N (rts m M l S f t R) := by
  have hl := its_len f t R
  exact nms_fnd o.chart (ferr_zero o.items) o.parts (by omega) (Nat.le_refl _) _ (by omega)
theorem nms_head (I : Nat → ByteArray) : ∀ k, ∃ L, nms m M l S I k = I 0 :: L
  | 0 => ⟨[], rfl⟩
  | k + 1 => by
    obtain ⟨L, e⟩ := nms_head I k
    exact ⟨L ++ seg m M l S I (k + 1), by show nms m M l S I k ++ _ = _; rw [e]; rfl⟩
theorem rts_first (R : List ByteArray) : nth (rts m M l S f t R) 0 = f := by
  unfold rts
  obtain ⟨L, e⟩ := nms_head (m := m) (M := M) (l := l) (S := S) (nth (its f t R)) ((its f t R).length - 1)
  rw [e]; rfl
theorem getD_last (A B : List ByteArray) (h : B ≠ []) : nth (A ++ B) ((A ++ B).length - 1) = nth B (B.length - 1) := by
  show (A ++ B).getD _ _ = B.getD _ _
  have hb : 0 < B.length := List.length_pos_iff.2 h
  rw [List.getD_eq_getElem?_getD, List.getD_eq_getElem?_getD, List.length_append, List.getElem?_append_right (by omega), show A.length + B.length - 1 - A.length = B.length - 1 by omega]
theorem nms_last {q : Nat} {I : Nat → ByteArray} (h1 : ∀ i, i < q → ierr n N m M q I i = 0) (h2 : ∀ i, i < q → cser m M I i = 0) (h3 : ∀ i, i < q → serr m M l S I i = 0) (hE : cerr n N X Y m M l S = 0) :
    ∀ k, k < q → nth (nms m M l S I k) ((nms m M l S I k).length - 1) = if aw m M (I k) = true then I (k + 1) else I k
  | 0, hk => by
    have : aw m M (I 0) = false := by
      cases ha : aw m M (I 0) with
      | false => rfl
      | true => exact absurd rfl (ierr_ok (h1 0 hk) (aw_nofix hE ha)).1
    rw [if_neg (by rw [this]; decide)]
    rfl
  | k + 1, hk => by
    have ih := nms_last h1 h2 h3 hE k (by omega)
    have e : nms m M l S I (k + 1) = nms m M l S I k ++ seg m M l S I (k + 1) := rfl
    cases ha : aw m M (I (k + 1)) with
    | true =>
      rw [if_pos rfl]
      have hk' : aw m M (I k) = false := by
        cases hb : aw m M (I k) with
        | false => rfl
        | true =>
          have := h2 (k + 1) hk
          unfold cser at this
          rw [if_pos ⟨by omega, ha, hb⟩] at this
          cases this
      rw [if_neg (by rw [hk']; decide)] at ih
      have hs := h3 (k + 1) hk
      unfold serr at hs
      split at hs
      · cases hs
      · rename_i hn
        have ga : ¬ ia m M l S I (k + 1) < 0 := fun e => hn ⟨by omega, ha, Or.inl e⟩
        have gb : ¬ ib m M l S I (k + 1) < 0 := fun e => hn ⟨by omega, ha, Or.inr e⟩
        have qa := (fix_some (N := S (ak m M I (k + 1))) (s := I k) (n := l (ak m M I (k + 1))) ga).2.1
        have qb := (fix_some (N := S (ak m M I (k + 1))) (s := I (k + 1 + 1)) (n := l (ak m M I (k + 1))) gb).2.1
        change S (ak m M I (k + 1)) (ia m M l S I (k + 1)).toNat = I k at qa
        change S (ak m M I (k + 1)) (ib m M l S I (k + 1)).toNat = I (k + 1 + 1) at qb
        have es : seg m M l S I (k + 1) = (List.range (max (ia m M l S I (k + 1)).toNat (ib m M l S I (k + 1)).toNat - min (ia m M l S I (k + 1)).toNat (ib m M l S I (k + 1)).toNat)).map fun t => way (S (ak m M I (k + 1))) (ia m M l S I (k + 1)).toNat (ib m M l S I (k + 1)).toNat (t + 1) := by
          unfold seg; rw [if_pos ha]
        generalize (ia m M l S I (k + 1)).toNat = a at *
        generalize (ib m M l S I (k + 1)).toNat = b at *
        generalize S (ak m M I (k + 1)) = G at *
        by_cases hab : a = b
        · subst hab
          have e0 : seg m M l S I (k + 1) = [] := by rw [es, show max a a - min a a = 0 by omega]; rfl
          rw [e, e0, List.append_nil, ih, ← qa, qb]
        · have hne : seg m M l S I (k + 1) ≠ [] := by
            intro h0
            have := congrArg List.length (h0.symm.trans es)
            simp at this
            omega
          rw [e, getD_last _ _ hne, es]
          show ((List.range (max a b - min a b)).map fun t => way G a b (t + 1)).getD _ _ = _
          rw [List.length_map, List.length_range, List.getD_eq_getElem?_getD, List.getElem?_map, List.getElem?_range (by omega)]
          show way G a b (max a b - min a b - 1 + 1) = _
          rw [← qb]
          unfold way
          split
          · rw [show a + (max a b - min a b - 1 + 1) = b by omega]
          · rw [show a - (max a b - min a b - 1 + 1) = b by omega]
    | false =>
      rw [if_neg (by decide)]
      cases hb : aw m M (I k) with
      | true =>
        have e0 : seg m M l S I (k + 1) = [] := by unfold seg; rw [if_neg (by rw [ha]; decide), if_neg (by show ¬ aw m M (I k) = false; rw [hb]; decide)]
        rw [if_pos hb] at ih
        rw [e, e0, List.append_nil, ih]
      | false =>
        have e0 : seg m M l S I (k + 1) = [I (k + 1)] := by unfold seg; rw [if_neg (by rw [ha]; decide), if_pos (show aw m M (I (k + 1 - 1)) = false from hb)]
        rw [e, e0, getD_last _ _ (by simp)]
        rfl
theorem rts_last {R : List ByteArray} (o : RtOk n N X Y m M l S f t R) : nth (rts m M l S f t R) ((rts m M l S f t R).length - 1) = t := by
  have hl := its_len f t R
  have h := nms_last o.items o.pairs o.parts o.chart ((its f t R).length - 1) (by omega)
  have ha : aw m M (nth (its f t R) ((its f t R).length - 1)) = false := by
    cases ha : aw m M (nth (its f t R) ((its f t R).length - 1)) with
    | false => rfl
    | true => exact absurd (by omega) (ierr_ok (o.items _ (by omega)) (aw_nofix o.chart ha)).2.1
  rw [if_neg (by rw [ha]; decide), its_last] at h
  exact h
end
end Route
end Go.Proofs.YtmkglhoahdlogaaGreatDoor
