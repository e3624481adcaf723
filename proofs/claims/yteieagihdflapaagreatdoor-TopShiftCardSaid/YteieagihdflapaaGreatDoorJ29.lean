/- Joined texts: ChW, ChO, ExpC, PolyA, PolyB. -/
import Derived.Test.YteieagihdflapaaGreatDoorJ09
import Derived.Test.YteieagihdflapaaGreatDoorExpW
import Derived.Test.YteieagihdflapaaGreatDoorJ03
import Derived.Test.YteieagihdflapaaGreatDoorJ01
import Derived.Test.YteieagihdflapaaGreatDoorJ07
namespace Go.Proofs.YteieagihdflapaaGreatDoor
open Go.RowKit
namespace Chart
open Kit Plane Poly
def allB (p : Nat → Bool) : Nat → Bool
  | 0 => true
  | k + 1 => allB p k && p k
theorem allB_stop {p : Nat → Bool} {k : Nat} (h : p k = false) : ∀ {n : Nat}, k < n → allB p n = false
  | 0, hn => by omega
  | n + 1, hn => by
    show (allB p n && p n) = false
    rcases Nat.lt_or_ge k n with hl | hl
    · rw [allB_stop h hl]; rfl
    · rw [show n = k from by omega, h, Bool.and_false]
theorem allB_iff {p : Nat → Bool} : ∀ {n : Nat}, allB p n = true ↔ ∀ k, k < n → p k = true
  | 0 => ⟨fun _ k hk => by omega, fun _ => rfl⟩
  | n + 1 => by
    show (allB p n && p n) = true ↔ _
    rw [Bool.and_eq_true, allB_iff]
    exact ⟨fun h k hk => by
      rcases Nat.lt_or_ge k n with hl | hl
      · exact h.1 k hl
      · rw [show k = n from by omega]; exact h.2, fun h => ⟨fun k hk => h k (by omega), h n (by omega)⟩⟩
/-- Two lists of names are the same. -/
def sameB (n : Nat) (S : Nat → ByteArray) (m : Nat) (T : Nat → ByteArray) : Bool := decide (n = m) && allB (fun k => decide (S k = T k)) n
theorem sv_len {w : World} {v : Value} {n : Nat} {S : Nat → ByteArray} (h : SV w v n S) : ∃ A cap, v = .slice A n cap ∧ n ≤ cap ∧ cap ≤ maxLen := by
  rcases h with ⟨rfl, h⟩ | ⟨h0, b, off, cap, rfl, h1, h2, h3⟩
  · rcases h with rfl | ⟨a, cap, rfl, hc⟩
    · exact ⟨_, _, rfl, Nat.le_refl _, Nat.zero_le _⟩
    · exact ⟨_, _, rfl, Nat.zero_le _, hc⟩
  · exact ⟨_, _, rfl, h1, h2⟩
/-- The sample chart. -/
def smN (k : Nat) : ByteArray := if k = 0 then ⟨#[65]⟩ else if k = 1 then ⟨#[66]⟩ else if k = 2 then ⟨#[67]⟩ else ⟨#[68]⟩
def smX (k : Nat) : Int := if k = 0 then 0 else if k = 1 then 3000 else 6000
def smY (k : Nat) : Int := if k = 0 then 0 else if k = 1 then 4000 else if k = 2 then 8000 else 9000
def smM (_ : Nat) : ByteArray := ⟨#[85, 76, 49]⟩
def smL (_ : Nat) : Nat := 4
def smS (_ : Nat) : Nat → ByteArray := smN
theorem sm_ok : cerr 4 smN smX smY 1 smM smL smS = 0 := by decide +kernel
/-- The blocks of the sample chart. -/
def smF : Array Value := #[.string ⟨#[65]⟩, .int .i64 0, .int .i64 0, .string ⟨#[66]⟩, .int .i64 3000, .int .i64 4000, .string ⟨#[67]⟩, .int .i64 6000, .int .i64 8000, .string ⟨#[68]⟩, .int .i64 6000, .int .i64 9000]
def smT : Array Value := #[.string ⟨#[65]⟩, .string ⟨#[66]⟩, .string ⟨#[67]⟩, .string ⟨#[68]⟩]
theorem sm_fv (w : World) (t : TypeId) : FV (w.alloc (.cells smF t)) (.slice (some ⟨w.heap.size, 0, none⟩) 4 4) 4 smN smX smY := by
  refine Or.inr ⟨by omega, w.heap.size, 0, 4, rfl, Nat.le_refl _, by decide, fun k hk => ?_⟩
  rcases (show k = 0 ∨ k = 1 ∨ k = 2 ∨ k = 3 from by omega) with rfl | rfl | rfl | rfl <;> exact ⟨by simp [smF, smN], by simp [smF, smX], by simp [smF, smY]⟩
theorem sm_sv (w : World) (t : TypeId) : SV (w.alloc (.cells smT t)) (.slice (some ⟨w.heap.size, 0, none⟩) 4 4) 4 smN := by
  refine Or.inr ⟨by omega, w.heap.size, 0, 4, rfl, Nat.le_refl _, by decide, fun k hk => ?_⟩
  rcases (show k = 0 ∨ k = 1 ∨ k = 2 ∨ k = 3 from by omega) with rfl | rfl | rfl | rfl <;> simp [smT, smN]
theorem sm_cv (w : World) (o : Obj) (t1 t2 t3 : TypeId) : CV ((((w.alloc o).alloc (.cells smF t1)).alloc (.cells smT t2)).alloc (.cells #[.string ⟨#[85, 76, 49]⟩, .slice (some ⟨w.heap.size + 1 + 1, 0, none⟩) 4 4] t3)) (.agg #[.slice (some ⟨w.heap.size + 1, 0, none⟩) 4 4, .slice (some ⟨w.heap.size + 1 + 1 + 1, 0, none⟩) 1 1]) 4 smN smX smY 1 smM smL smS := by
  have h1 := sm_fv (w.alloc o) t1
  have h2 := sm_sv ((w.alloc o).alloc (.cells smF t1)) t2
  rw [World.size_alloc] at h1 h2
  rw [World.size_alloc] at h2
  refine ⟨_, _, rfl, fv_keep (b_alloc (b_alloc (Below.refl _ _) _) _) h1, Or.inr ⟨by omega, w.heap.size + 1 + 1 + 1, 0, 1, rfl, Nat.le_refl _, by decide, fun k hk => ?_⟩⟩
  obtain rfl : k = 0 := by omega
  have h3 := p2v_new (((w.alloc o).alloc (.cells smF t1)).alloc (.cells smT t2)) t3 (.string ⟨#[85, 76, 49]⟩) (.slice (some ⟨w.heap.size + 1 + 1, 0, none⟩) 4 4)
  rw [World.size_alloc, World.size_alloc, World.size_alloc] at h3
  exact ⟨h3.1, _, h3.2, sv_keep (b_alloc (Below.refl _ _) _) h2⟩
theorem lsum3 (D : Nat → Int) : lsum D 3 = 0 + D 1 + D 2 := rfl
def smQ (k : Nat) : ByteArray := if k = 0 then ⟨#[65]⟩ else if k = 1 then ⟨#[66]⟩ else ⟨#[68]⟩
theorem sm_len : lenR 0 4 smN smX smY 3 smQ = (10831, 0) := by
  unfold lenR
  rw [if_neg (by decide), if_neg (by decide), if_neg (by decide +kernel), lsum3]
  have q0 : pos 4 smN (smQ 0) = 0 := by decide +kernel
  have q1 : pos 4 smN (smQ 1) = 1 := by decide +kernel
  have q2 : pos 4 smN (smQ 2) = 3 := by decide +kernel
  have s1 : stp 4 smN smX smY smQ 1 = dup (sqr 0 0 3000 4000) := by
    unfold stp
    rw [show (1 - 1 : Nat) = 0 from rfl, q0, q1, show smX 0 = 0 from rfl, show smY 0 = 0 from rfl, show smX 1 = 3000 from rfl, show smY 1 = 4000 from rfl]
  have s2 : stp 4 smN smX smY smQ 2 = dup (sqr 3000 4000 6000 9000) := by
    unfold stp
    rw [show (2 - 1 : Nat) = 1 from rfl, q1, q2, show smX 1 = 3000 from rfl, show smY 1 = 4000 from rfl, show smX 3 = 6000 from rfl, show smY 3 = 9000 from rfl]
  rw [s1, s2]
  have r1 : root (sqr 0 0 3000 4000) = 5000 := root_unique (by decide) (by unfold sqr; decide) (by unfold sqr; decide)
  have r2 : root (sqr 3000 4000 6000 9000) = 5830 := root_unique (by decide) (by unfold sqr; decide) (by unfold sqr; decide)
  unfold dup
  rw [r1, r2]
  unfold sqr
  decide
theorem sm_bet {q : Value} {w : World} (h : betP 4 smN smX smY 1 smM smL smS ⟨#[85, 76, 49]⟩ ⟨#[68]⟩ ⟨#[66]⟩ q w) : ∃ v, q = .tuple #[v, .int .i64 0] ∧ SV w v 3 (way smN 3 1) := by
  unfold betP at h
  rw [if_neg (by rw [sm_ok]; decide), if_neg (by decide +kernel)] at h
  obtain ⟨k, hk, hk1, h⟩ := h
  obtain rfl : k = 0 := by omega
  rw [if_neg (by decide +kernel)] at h
  obtain ⟨i, j, hi, hj, v, hq, hs⟩ := h
  have e1 : fix (smS 0) ⟨#[68]⟩ (smL 0) = 3 := by decide +kernel
  have e2 : fix (smS 0) ⟨#[66]⟩ (smL 0) = 1 := by decide +kernel
  rw [e1] at hi; rw [e2] at hj
  obtain rfl : i = 3 := by omega
  obtain rfl : j = 1 := by omega
  exact ⟨v, hq, hs⟩
def t3v (s0 s1 s2 : ByteArray) (k : Nat) : ByteArray := if k = 0 then s0 else if k = 1 then s1 else s2
theorem t3_sv (w : World) (t : TypeId) (s0 s1 s2 : ByteArray) : SV (w.alloc (.cells #[.string s0, .string s1, .string s2] t)) (.slice (some ⟨w.heap.size, 0, none⟩) 3 3) 3 (t3v s0 s1 s2) := by
  refine Or.inr ⟨by omega, w.heap.size, 0, 3, rfl, Nat.le_refl _, by decide, fun k hk => ?_⟩
  rcases (show k = 0 ∨ k = 1 ∨ k = 2 from by omega) with rfl | rfl | rfl <;> simp [t3v]
end Chart
end Go.Proofs.YteieagihdflapaaGreatDoor
namespace Go.Proofs.YteieagihdflapaaGreatDoor
open Go.RowKit
namespace Chart
open Kit Plane Poly
def strOf : Value → ByteArray
  | .string s => s
  | _ => ⟨#[]⟩
def numOf : Value → Int
  | .int _ n => n
  | _ => 0
theorem sv_of {W : World} {v : Value} (h : Frame.Okc W (.sl [.str]) v) : ∃ n S, SV W v n S := by
  rcases h.sl_inv with rfl | ⟨a, cap, rfl, hc⟩ | ⟨b, off, len, cap, cells, rfl, h0, h1, h2, hc, ho⟩
  · exact ⟨0, fun _ => ⟨#[]⟩, Or.inl ⟨rfl, Or.inl rfl⟩⟩
  · exact ⟨0, fun _ => ⟨#[]⟩, Or.inl ⟨rfl, Or.inr ⟨a, cap, rfl, hc⟩⟩⟩
  · refine ⟨len, fun i => strOf (cells i 0), Or.inr ⟨h0, b, off, cap, rfl, h1, h2, fun k hk => ?_⟩⟩
    have e := hc k hk 0 (by decide)
    obtain ⟨s, es, -⟩ := (ho k hk 0 (by decide)).str_inv
    rw [show off + k * [Frame.Kd.str].length + 0 = off + k from by simp, es] at e
    dsimp only; rw [es]; exact e
theorem fv_of {W : World} {v : Value} (h : Frame.Okc W (.sl [.str, .int, .int]) v) : ∃ n N X Y, FV W v n N X Y := by
  rcases h.sl_inv with rfl | ⟨a, cap, rfl, hc⟩ | ⟨b, off, len, cap, cells, rfl, h0, h1, h2, hc, ho⟩
  · exact ⟨0, fun _ => ⟨#[]⟩, fun _ => 0, fun _ => 0, Or.inl ⟨rfl, Or.inl rfl⟩⟩
  · exact ⟨0, fun _ => ⟨#[]⟩, fun _ => 0, fun _ => 0, Or.inl ⟨rfl, Or.inr ⟨a, cap, rfl, hc⟩⟩⟩
  · refine ⟨len, fun i => strOf (cells i 0), fun i => numOf (cells i 1), fun i => numOf (cells i 2), Or.inr ⟨h0, b, off, cap, rfl, h1, h2, fun k hk => ?_⟩⟩
    obtain ⟨s, es, -⟩ := (ho k hk 0 (by decide)).str_inv
    obtain ⟨x, ex, -⟩ := (ho k hk 1 (by decide)).int_inv
    obtain ⟨y, ey, -⟩ := (ho k hk 2 (by decide)).int_inv
    have e0 := hc k hk 0 (by decide); have e1 := hc k hk 1 (by decide); have e2 := hc k hk 2 (by decide)
    rw [es] at e0; rw [ex] at e1; rw [ey] at e2
    exact ⟨by dsimp only; rw [es]; exact e0, by dsimp only; rw [ex]; exact e1, by dsimp only; rw [ey]; exact e2⟩
theorem av_of {W : World} {v : Value} (h : Frame.Okc W (.sl [.str, .sl [.str]]) v) : ∃ m M l S, AV W v m M l S := by
  rcases h.sl_inv with rfl | ⟨a, cap, rfl, hc⟩ | ⟨b, off, len, cap, cells, rfl, h0, h1, h2, hc, ho⟩
  · exact ⟨0, fun _ => ⟨#[]⟩, fun _ => 0, fun _ _ => ⟨#[]⟩, Or.inl ⟨rfl, Or.inl rfl⟩⟩
  · exact ⟨0, fun _ => ⟨#[]⟩, fun _ => 0, fun _ _ => ⟨#[]⟩, Or.inl ⟨rfl, Or.inr ⟨a, cap, rfl, hc⟩⟩⟩
  · have key : ∀ i, ∃ p : Nat × (Nat → ByteArray), i < len → SV W (cells i 1) p.1 p.2 := fun i => by
      by_cases hi : i < len
      · obtain ⟨n, S, hs⟩ := sv_of (ho i hi 1 (by decide))
        exact ⟨(n, S), fun _ => hs⟩
      · exact ⟨(0, fun _ => ⟨#[]⟩), fun h => absurd h hi⟩
    refine ⟨len, fun i => strOf (cells i 0), fun i => (Classical.choose (key i)).1, fun i => (Classical.choose (key i)).2, Or.inr ⟨h0, b, off, cap, rfl, h1, h2, fun k hk => ?_⟩⟩
    obtain ⟨s, es, -⟩ := (ho k hk 0 (by decide)).str_inv
    have e0 := hc k hk 0 (by decide); have e1 := hc k hk 1 (by decide)
    rw [es] at e0
    exact ⟨by dsimp only; rw [es]; exact e0, _, e1, Classical.choose_spec (key k) hk⟩
theorem cv_of {W : World} {fx aw : Value} (h1 : Frame.Okc W (.sl [.str, .int, .int]) fx) (h2 : Frame.Okc W (.sl [.str, .sl [.str]]) aw) : ∃ n N X Y m M l S, CV W (.agg #[fx, aw]) n N X Y m M l S := by
  obtain ⟨n, N, X, Y, hf⟩ := fv_of h1
  obtain ⟨m, M, l, S, ha⟩ := av_of h2
  exact ⟨n, N, X, Y, m, M, l, S, ⟨fx, aw, rfl, hf, ha⟩⟩
end Chart
end Go.Proofs.YteieagihdflapaaGreatDoor
namespace Go.Proofs.YteieagihdflapaaGreatDoor
open Go.RowKit
namespace Route
open Kit Chart
theorem sv_congr {w : World} {v : Value} {n : Nat} {S T : Nat → ByteArray} (h : SV w v n S) (e : ∀ k, k < n → S k = T k) : SV w v n T := by
  rcases h with h | ⟨h0, b, off, cap, hv, h1, h2, h3⟩
  · exact Or.inl h
  · exact Or.inr ⟨h0, b, off, cap, hv, h1, h2, fun k hk => by rw [← e k hk]; exact h3 k hk⟩
/-- The list of the first n names. -/
def lst (n : Nat) (S : Nat → ByteArray) : List ByteArray := (List.range n).map S
theorem lst_len (n : Nat) (S : Nat → ByteArray) : (lst n S).length = n := by unfold lst; rw [List.length_map, List.length_range]
theorem lst_nth {n : Nat} {S : Nat → ByteArray} {k : Nat} (h : k < n) : nth (lst n S) k = S k := by
  show (lst n S).getD k ⟨#[]⟩ = S k
  unfold lst
  rw [List.getD_eq_getElem?_getD, List.getElem?_map, List.getElem?_range h]
  rfl
theorem sl_of_sv {w : World} {v : Value} {n : Nat} {S : Nat → ByteArray} (h : SV w v n S) : SL w v (lst n S) := by
  show SV w v (lst n S).length (nth (lst n S))
  rw [lst_len]
  exact sv_congr h fun k hk => (lst_nth hk).symm
section
variable (n : Nat) (N : Nat → ByteArray) (X Y : Nat → Int) (m : Nat) (M : Nat → ByteArray) (l : Nat → Nat) (S : Nat → Nat → ByteArray)
/-- The names of a route. -/
def rts (f t : ByteArray) (R : List ByteArray) : List ByteArray := nms m M l S (nth (its f t R)) ((its f t R).length - 1)
/-- route.Expand's error. -/
def rtE (cl kd f t : ByteArray) (off sp h : Int) (nr : Nat) (RT : Nat → ByteArray) : Int :=
  if Plan.planE cl kd f t off sp h nr RT ≠ 0 then Plan.planE cl kd f t off sp h nr RT else if cerr n N X Y m M l S ≠ 0 then cerr n N X Y m M l S
  else expE n N X Y m M l S (its f t (lst nr RT)).length (nth (its f t (lst nr RT)))
end
theorem planE_len {cl kd f t : ByteArray} {off sp h : Int} {nr : Nat} {RT : Nat → ByteArray} (hE : Plan.planE cl kd f t off sp h nr RT = 0) : nr ≤ 24 := by
  unfold Plan.planE at hE
  split at hE
  · cases hE
  · split at hE
    · cases hE
    · split at hE
      · cases hE
      · split at hE
        · cases hE
        · omega
theorem expandC {r c : Value} {cl kd f t : ByteArray} {off sp h : Int} {nr : Nat} {RT : Nat → ByteArray} {n : Nat} {N : Nat → ByteArray} {X Y : Nat → Int} {m : Nat} {M : Nat → ByteArray} {l : Nat → Nat} {S : Nat → Nat → ByteArray} {w : World} (hr : SV w r nr RT) (hc : CV w c n N X Y m M l S) :
    Calls Tryz.prog 13 #[Plan.plan cl kd f t off sp h r, c] w fun e w' => ExpPost n N X Y (rtE n N X Y m M l S cl kd f t off sp h nr RT) (rts m M l S f t (lst nr RT)) e w' ∧ Below w.heap.size w w' := by
  have PC : ∀ w1, Below w.heap.size w w1 → Calls Tryz.prog 38 #[Plan.plan cl kd f t off sp h r] w1 fun e w' => e = .returned (.int .i64 (Plan.planE cl kd f t off sp h nr RT)) ∧ Below w1.heap.size w1 w' := Plan.checkC hr
  have CK : ∀ w1, Below w.heap.size w w1 → Calls Tryz.prog 39 #[c] w1 fun e w' => e = .returned (.int .i64 (cerr n N X Y m M l S)) ∧ Below w1.heap.size w1 w' := fun w1 hb => checkC (cv_keep hb hc)
  obtain ⟨fx, a, rfl, h1, h2⟩ := hc.ex
  obtain ⟨A1, c1, rfl⟩ := fv_slice h1
  obtain ⟨A2, c2, rfl⟩ := av_slice h2
  have hsl := sl_of_sv hr
  obtain ⟨A3, c3, rfl⟩ := sv_slice hr
  unfold rtE
  by_cases hp : Plan.planE cl kd f t off sp h nr RT ≠ 0
  · rw [if_pos hp]
    exact (exp_plan cl kd f t off sp h A1 A2 A3 n c1 m c2 nr c3 _ w (by simpa using hp) (by simpa using hp) (Lib.hid PC)).mono fun e w' ⟨he, hb⟩ => ⟨Or.inl ⟨hp, he⟩, hb⟩
  rw [if_neg hp]
  rw [Classical.not_not.1 hp] at PC
  by_cases hE : cerr n N X Y m M l S ≠ 0
  · rw [if_pos hE]
    exact (exp_chart cl kd f t off sp h A1 A2 A3 n c1 m c2 nr c3 _ w (by simpa using hE) (by simpa using hE) (Lib.hid PC) (Lib.hid CK)).mono fun e w' ⟨he, hb⟩ => ⟨Or.inl ⟨hE, he⟩, hb⟩
  rw [if_neg hE]
  rw [Classical.not_not.1 hE] at CK
  exact exp_w cl kd f t off sp h A1 A2 A3 n c1 m c2 nr c3 N X Y M l S (lst nr RT) _ _ _ _ w (Classical.not_not.1 hE) (lst_len _ _) (planE_len (Classical.not_not.1 hp)) (Lib.hid PC) (Lib.hid CK) (Lib.hid hsl) (Lib.hid h2) (Lib.hid hc) (Lib.hid rfl) (Lib.hid rfl) (Lib.hid rfl) (Lib.hid rfl)
section
variable {n : Nat} {N : Nat → ByteArray} {X Y : Nat → Int} {m : Nat} {M : Nat → ByteArray} {l : Nat → Nat} {S : Nat → Nat → ByteArray} {cl kd f t : ByteArray} {off sp h : Int} {nr : Nat} {RT : Nat → ByteArray}
/-- What is known where route.Expand finds nothing wrong. -/
structure RtOk (n : Nat) (N : Nat → ByteArray) (X Y : Nat → Int) (m : Nat) (M : Nat → ByteArray) (l : Nat → Nat) (S : Nat → Nat → ByteArray) (f t : ByteArray) (R : List ByteArray) : Prop where
  chart : cerr n N X Y m M l S = 0
  items : ∀ i, i < (its f t R).length → ierr n N m M (its f t R).length (nth (its f t R)) i = 0
  pairs : ∀ i, i < (its f t R).length → cser m M (nth (its f t R)) i = 0
  parts : ∀ i, i < (its f t R).length → serr m M l S (nth (its f t R)) i = 0
  moves : ∀ j, j < (rts m M l S f t R).length → zer n N X Y (rts m M l S f t R) j = 0
  most : (rts m M l S f t R).length ≤ 62
theorem rt_ok (hE : rtE n N X Y m M l S cl kd f t off sp h nr RT = 0) : Plan.planE cl kd f t off sp h nr RT = 0 ∧ RtOk n N X Y m M l S f t (lst nr RT) := by
  unfold rtE at hE
  by_cases h0 : Plan.planE cl kd f t off sp h nr RT ≠ 0
  · rw [if_pos h0] at hE; exact absurd hE h0
  rw [if_neg h0] at hE
  by_cases h1 : cerr n N X Y m M l S ≠ 0
  · rw [if_pos h1] at hE; exact absurd hE h1
  rw [if_neg h1] at hE
  unfold expE at hE
  by_cases h2 : ferr (ierr n N m M (its f t (lst nr RT)).length (nth (its f t (lst nr RT)))) (its f t (lst nr RT)).length ≠ 0
  · rw [if_pos h2] at hE; cases hE
  rw [if_neg h2] at hE
  by_cases h3 : ferr (cser m M (nth (its f t (lst nr RT)))) (its f t (lst nr RT)).length ≠ 0
  · rw [if_pos h3] at hE; cases hE
  rw [if_neg h3] at hE
  by_cases h4 : ferr (serr m M l S (nth (its f t (lst nr RT)))) (its f t (lst nr RT)).length ≠ 0
  · rw [if_pos h4] at hE; cases hE
  rw [if_neg h4] at hE
  change (if ferr (zer n N X Y (rts m M l S f t (lst nr RT))) (rts m M l S f t (lst nr RT)).length ≠ 0 then 10 else if 62 < (rts m M l S f t (lst nr RT)).length then 2 else 0 : Int) = 0 at hE
  by_cases h5 : ferr (zer n N X Y (rts m M l S f t (lst nr RT))) (rts m M l S f t (lst nr RT)).length ≠ 0
  · rw [if_pos h5] at hE; cases hE
  rw [if_neg h5] at hE
  by_cases h6 : 62 < (rts m M l S f t (lst nr RT)).length
  · rw [if_pos h6] at hE; cases hE
  exact ⟨Classical.not_not.1 h0, ⟨Classical.not_not.1 h1, ferr_inv (Classical.not_not.1 h2), ferr_inv (Classical.not_not.1 h3), ferr_inv (Classical.not_not.1 h4), ferr_inv (Classical.not_not.1 h5), by omega⟩⟩
theorem rt_of (h0 : Plan.planE cl kd f t off sp h nr RT = 0) (o : RtOk n N X Y m M l S f t (lst nr RT)) : rtE n N X Y m M l S cl kd f t off sp h nr RT = 0 := by
  unfold rtE
  rw [if_neg (fun e => e h0), if_neg (fun e => e o.chart)]
  unfold expE
  rw [if_neg (fun e => e (ferr_zero o.items)), if_neg (fun e => e (ferr_zero o.pairs)), if_neg (fun e => e (ferr_zero o.parts))]
  change (if ferr (zer n N X Y (rts m M l S f t (lst nr RT))) (rts m M l S f t (lst nr RT)).length ≠ 0 then 10 else if 62 < (rts m M l S f t (lst nr RT)).length then 2 else 0 : Int) = 0
  have := o.most
  rw [if_neg (fun e => e (ferr_zero o.moves)), if_neg (by omega)]
theorem its_eq (f t : ByteArray) (R : List ByteArray) : its f t R = [f] ++ R ++ [t] := rfl
theorem its_first (f t : ByteArray) (R : List ByteArray) : nth (its f t R) 0 = f := rfl
theorem its_last (f t : ByteArray) (R : List ByteArray) : nth (its f t R) ((its f t R).length - 1) = t := by
  rw [its_len]
  show (its f t R).getD _ _ = t
  rw [its_eq, List.getD_eq_getElem?_getD, List.getElem?_append_right (by simp), List.length_append, List.length_singleton, show R.length + 2 - 1 - (1 + R.length) = 0 by omega]
  rfl
theorem rts_len {R : List ByteArray} (o : RtOk n N X Y m M l S f t R) : 1 ≤ (rts m M l S f t R).length := (nms_len o.chart _).1
theorem rts_fnd {R : List ByteArray} (o : RtOk n N X Y m M l S f t R) : Fnd n N (rts m M l S f t R) := by
  have hl := its_len f t R
  exact nms_fnd o.chart (ferr_zero o.items) o.parts (by omega) (Nat.le_refl _) _ (by omega)
theorem nms_head (I : Nat → ByteArray) : ∀ k, ∃ L, nms m M l S I k = I 0 :: L
  | 0 => ⟨[], rfl⟩
  | k + 1 => by
    obtain ⟨L, e⟩ := nms_head I k
    exact ⟨L ++ seg m M l S I (k + 1), by show nms m M l S I k ++ _ = _; rw [e]; rfl⟩
theorem rts_first (R : List ByteArray) : nth (rts m M l S f t R) 0 = f := by
  unfold rts
  obtain ⟨L, e⟩ := nms_head (m := m) (M := M) (l := l) (S := S) (nth (its f t R)) ((its f t R).length - 1)
  rw [e]; rfl
theorem getD_last (A B : List ByteArray) (h : B ≠ []) : nth (A ++ B) ((A ++ B).length - 1) = nth B (B.length - 1) := by
  show (A ++ B).getD _ _ = B.getD _ _
  have hb : 0 < B.length := List.length_pos_iff.2 h
  rw [List.getD_eq_getElem?_getD, List.getD_eq_getElem?_getD, List.length_append, List.getElem?_append_right (by omega), show A.length + B.length - 1 - A.length = B.length - 1 by omega]
theorem nms_last {q : Nat} {I : Nat → ByteArray} (h1 : ∀ i, i < q → ierr n N m M q I i = 0) (h2 : ∀ i, i < q → cser m M I i = 0) (h3 : ∀ i, i < q → serr m M l S I i = 0) (hE : cerr n N X Y m M l S = 0) :
    ∀ k, k < q → nth (nms m M l S I k) ((nms m M l S I k).length - 1) = if aw m M (I k) = true then I (k + 1) else I k
  | 0, hk => by
    have : aw m M (I 0) = false := by
      cases ha : aw m M (I 0) with
      | false => rfl
      | true => exact absurd rfl (ierr_ok (h1 0 hk) (aw_nofix hE ha)).1
    rw [if_neg (by rw [this]; decide)]
    rfl
  | k + 1, hk => by
    have ih := nms_last h1 h2 h3 hE k (by omega)
    have e : nms m M l S I (k + 1) = nms m M l S I k ++ seg m M l S I (k + 1) := rfl
    cases ha : aw m M (I (k + 1)) with
    | true =>
      rw [if_pos rfl]
      have hk' : aw m M (I k) = false := by
        cases hb : aw m M (I k) with
        | false => rfl
        | true =>
          have := h2 (k + 1) hk
          unfold cser at this
          rw [if_pos ⟨by omega, ha, hb⟩] at this
          cases this
      rw [if_neg (by rw [hk']; decide)] at ih
      have hs := h3 (k + 1) hk
      unfold serr at hs
      split at hs
      · cases hs
      · rename_i hn
        have ga : ¬ ia m M l S I (k + 1) < 0 := fun e => hn ⟨by omega, ha, Or.inl e⟩
        have gb : ¬ ib m M l S I (k + 1) < 0 := fun e => hn ⟨by omega, ha, Or.inr e⟩
        have qa := (fix_some (N := S (ak m M I (k + 1))) (s := I k) (n := l (ak m M I (k + 1))) ga).2.1
        have qb := (fix_some (N := S (ak m M I (k + 1))) (s := I (k + 1 + 1)) (n := l (ak m M I (k + 1))) gb).2.1
        change S (ak m M I (k + 1)) (ia m M l S I (k + 1)).toNat = I k at qa
        change S (ak m M I (k + 1)) (ib m M l S I (k + 1)).toNat = I (k + 1 + 1) at qb
        have es : seg m M l S I (k + 1) = (List.range (max (ia m M l S I (k + 1)).toNat (ib m M l S I (k + 1)).toNat - min (ia m M l S I (k + 1)).toNat (ib m M l S I (k + 1)).toNat)).map fun t => way (S (ak m M I (k + 1))) (ia m M l S I (k + 1)).toNat (ib m M l S I (k + 1)).toNat (t + 1) := by
          unfold seg; rw [if_pos ha]
        generalize (ia m M l S I (k + 1)).toNat = a at *
        generalize (ib m M l S I (k + 1)).toNat = b at *
        generalize S (ak m M I (k + 1)) = G at *
        by_cases hab : a = b
        · subst hab
          have e0 : seg m M l S I (k + 1) = [] := by rw [es, show max a a - min a a = 0 by omega]; rfl
          rw [e, e0, List.append_nil, ih, ← qa, qb]
        · have hne : seg m M l S I (k + 1) ≠ [] := by
            intro h0
            have := congrArg List.length (h0.symm.trans es)
            simp at this
            omega
          rw [e, getD_last _ _ hne, es]
          show ((List.range (max a b - min a b)).map fun t => way G a b (t + 1)).getD _ _ = _
          rw [List.length_map, List.length_range, List.getD_eq_getElem?_getD, List.getElem?_map, List.getElem?_range (by omega)]
          show way G a b (max a b - min a b - 1 + 1) = _
          rw [← qb]
          unfold way
          split
          · rw [show a + (max a b - min a b - 1 + 1) = b by omega]
          · rw [show a - (max a b - min a b - 1 + 1) = b by omega]
    | false =>
      rw [if_neg (by decide)]
      cases hb : aw m M (I k) with
      | true =>
        have e0 : seg m M l S I (k + 1) = [] := by unfold seg; rw [if_neg (by rw [ha]; decide), if_neg (by show ¬ aw m M (I k) = false; rw [hb]; decide)]
        rw [if_pos hb] at ih
        rw [e, e0, List.append_nil, ih]
      | false =>
        have e0 : seg m M l S I (k + 1) = [I (k + 1)] := by unfold seg; rw [if_neg (by rw [ha]; decide), if_pos (show aw m M (I (k + 1 - 1)) = false from hb)]
        rw [e, e0, getD_last _ _ (by simp)]
        rfl
theorem rts_last {R : List ByteArray} (o : RtOk n N X Y m M l S f t R) : nth (rts m M l S f t R) ((rts m M l S f t R).length - 1) = t := by
  have hl := its_len f t R
  have h := nms_last o.items o.pairs o.parts o.chart ((its f t R).length - 1) (by omega)
  have ha : aw m M (nth (its f t R) ((its f t R).length - 1)) = false := by
    cases ha : aw m M (nth (its f t R) ((its f t R).length - 1)) with
    | false => rfl
    | true => exact absurd (by omega) (ierr_ok (o.items _ (by omega)) (aw_nofix o.chart ha)).2.1
  rw [if_neg (by rw [ha]; decide), its_last] at h
  exact h
end
end Route
end Go.Proofs.YteieagihdflapaaGreatDoor
namespace Go.Proofs.YteieagihdflapaaGreatDoor
open Go.RowKit
namespace Poly
open Kit Plane
/-- All of these are at most a million (or a thousand million) away from 0. -/
abbrev B9 (x : Int) : Prop := -1000000000 ≤ x ∧ x ≤ 1000000000
def btw (ax ay bx by' cx cy : Int) : Bool := decide (min ax bx ≤ cx ∧ cx ≤ max ax bx ∧ min ay by' ≤ cy ∧ cy ≤ max ay by')
set_option maxHeartbeats 1000000 in
theorem between (ax ay bx by' cx cy : Int) (w : World) :
    Calls Tryz.prog 191 #[.agg #[.int .i64 ax, .int .i64 ay], .agg #[.int .i64 bx, .int .i64 by'], .agg #[.int .i64 cx, .int .i64 cy]] w fun e w' => e = .returned (.bool (btw ax ay bx by' cx cy)) ∧ Below w.heap.size w w' := by
  go_enter Tryz.func191, Tryz.ntmps191
  go_wp2_with fail
  all_goals (go_ret; exact ⟨retb (by unfold btw; first | exact (decide_eq_true (by omega)).symm | exact (decide_eq_false (by omega)).symm | (rw [Bool.eq_iff_iff]; simp; omega)), b_alloc (b_alloc (b_alloc (Below.refl _ _) _) _) _⟩)
/-- c lies on the segment from a to b. -/
def onB (ax ay bx by' cx cy : Int) : Bool := decide (crs ax ay bx by' cx cy = 0) && btw ax ay bx by' cx cy
theorem sgn_eq0 {n : Int} : sgn n = 0 ↔ n = 0 := by unfold sgn; split <;> (try split) <;> omega
abbrev BtC (ax ay bx by' cx cy : Int) (b : Bool) : Prop := ∀ w, Calls Tryz.prog 191 #[.agg #[.int .i64 ax, .int .i64 ay], .agg #[.int .i64 bx, .int .i64 by'], .agg #[.int .i64 cx, .int .i64 cy]] w fun e w' => e = .returned (.bool b) ∧ Below w.heap.size w w'
abbrev TuC (ax ay bx by' cx cy t : Int) : Prop := ∀ w, Calls Tryz.prog 143 #[.agg #[.int .i64 ax, .int .i64 ay], .agg #[.int .i64 bx, .int .i64 by'], .agg #[.int .i64 cx, .int .i64 cy]] w fun e w' => e = .returned (.int .i64 t) ∧ Below w.heap.size w w'
theorem p2_new3 (w : World) (o o' o'' : Obj) (t : TypeId) (x y : Int) : P2 ((((w.alloc o).alloc o').alloc o'').alloc (.cells #[.int .i64 x, .int .i64 y] t)) (w.heap.size + 1 + 1 + 1) x y := by
  have h := p2_new2 (w.alloc o) o' o'' t x y; rw [World.size_alloc] at h; exact h
set_option maxHeartbeats 1000000 in
theorem on_w (ax ay bx by' cx cy t : Int) (q : Bool) (w : World) (T : Hid (TuC ax ay bx by' cx cy t)) (Q : Hid (BtC ax ay bx by' cx cy q)) :
    Calls Tryz.prog 147 #[.agg #[.int .i64 ax, .int .i64 ay], .agg #[.int .i64 bx, .int .i64 by'], .agg #[.int .i64 cx, .int .i64 cy]] w fun e w' => e = .returned (.bool (t == 0 && q)) ∧ Below w.heap.size w w' := by
  go_enter Tryz.func147, Tryz.ntmps147
  have ha := p2_alloc (.cells #[.int .i64 cx, .int .i64 cy] 54) (p2_alloc (.cells #[.int .i64 bx, .int .i64 by'] 54) (p2_new w 54 ax ay))
  have hb := p2_alloc (.cells #[.int .i64 cx, .int .i64 cy] 54) (p2_new1 w (.cells #[.int .i64 ax, .int .i64 ay] 54) 54 bx by')
  have hc := p2_new2 w (.cells #[.int .i64 ax, .int .i64 ay] 54) (.cells #[.int .i64 bx, .int .i64 by'] 54) 54 cx cy
  have hw := b_alloc (b_alloc (b_alloc (Below.refl w.heap.size w) (.cells #[.int .i64 ax, .int .i64 ay] 54)) (.cells #[.int .i64 bx, .int .i64 by'] 54)) (.cells #[.int .i64 cx, .int .i64 cy] 54)
  have H := Lib.hid (And.intro ha (And.intro hb (And.intro hc hw))); clear ha hb hc hw
  go_wp2_with fail
  refine (T.out _).mono ?_; rintro e w1 ⟨rfl, h⟩
  have ha := p2_keep h H.out.1; have hb := p2_keep h H.out.2.1; have hc := p2_keep h H.out.2.2.1; have hw := b_next H.out.2.2.2 h
  clear h
  by_cases t0 : t = 0
  · subst t0
    go_wp2_with fail
    refine (Q.out _).mono ?_; rintro e w2 ⟨rfl, h⟩
    replace hw := b_next hw h; clear h
    go_wp2_with fail
    go_ret
    exact ⟨retb (by simp), hw⟩
  · have e1 : (t == 0) = false := by simpa using t0
    clear t0
    go_wp2_with fail
    go_ret
    exact ⟨retb (by rw [e1]; rfl), hw⟩
theorem onC (ax ay bx by' cx cy : Int) (w : World) (h : B9 ax ∧ B9 ay ∧ B9 bx ∧ B9 by' ∧ B9 cx ∧ B9 cy) :
    Calls Tryz.prog 147 #[.agg #[.int .i64 ax, .int .i64 ay], .agg #[.int .i64 bx, .int .i64 by'], .agg #[.int .i64 cx, .int .i64 cy]] w fun e w' => e = .returned (.bool (onB ax ay bx by' cx cy)) ∧ Below w.heap.size w w' := by
  have c := on_w ax ay bx by' cx cy _ _ w (Lib.hid fun w => turn ax ay bx by' cx cy w rfl ⟨h.1, h.2.1, h.2.2.1, h.2.2.2.1, h.2.2.2.2.1, h.2.2.2.2.2⟩) (Lib.hid fun w => between ax ay bx by' cx cy w)
  have e : (sgn (crs ax ay bx by' cx cy) == 0) = decide (crs ax ay bx by' cx cy = 0) := by
    rw [Bool.eq_iff_iff, beq_iff_eq, decide_eq_true_eq]; exact sgn_eq0
  rw [e] at c
  exact c
-- CROSSES
set_option maxRecDepth 100000 in
set_option maxHeartbeats 2000000 in
theorem crosses_t (ax ay bx by' cx cy dx dy : Int) (t1 t2 t3 t4 : Int) (w : World) (T1 : Hid (TuC ax ay bx by' cx cy t1)) (T2 : Hid (TuC ax ay bx by' dx dy t2)) (T3 : Hid (TuC cx cy dx dy ax ay t3)) (T4 : Hid (TuC cx cy dx dy bx by' t4)) (b1 : -1 ≤ t1 * t2 ∧ t1 * t2 ≤ 1) (b2 : -1 ≤ t3 * t4 ∧ t3 * t4 ≤ 1) (hc : decide (t1 * t2 < 0) = true) :
    Calls Tryz.prog 190 #[.agg #[.int .i64 ax, .int .i64 ay], .agg #[.int .i64 bx, .int .i64 by'], .agg #[.int .i64 cx, .int .i64 cy], .agg #[.int .i64 dx, .int .i64 dy]] w fun e w' => e = .returned (.bool (decide (t3 * t4 < 0))) ∧ Below w.heap.size w w' := by
  have u1 : IntKind.i64.wrap (t1 * t2) = t1 * t2 := IntWalk.i64_in _ (by omega)
  have u2 : IntKind.i64.wrap (t3 * t4) = t3 * t4 := IntWalk.i64_in _ (by omega)
  go_enter Tryz.func190, Tryz.ntmps190
  have ha := p2_alloc (.cells #[.int .i64 dx, .int .i64 dy] 54) (p2_alloc (.cells #[.int .i64 cx, .int .i64 cy] 54) (p2_alloc (.cells #[.int .i64 bx, .int .i64 by'] 54) (p2_new w 54 ax ay)))
  have hb := p2_alloc (.cells #[.int .i64 dx, .int .i64 dy] 54) (p2_alloc (.cells #[.int .i64 cx, .int .i64 cy] 54) (p2_new1 w (.cells #[.int .i64 ax, .int .i64 ay] 54) 54 bx by'))
  have hc := p2_alloc (.cells #[.int .i64 dx, .int .i64 dy] 54) (p2_new2 w (.cells #[.int .i64 ax, .int .i64 ay] 54) (.cells #[.int .i64 bx, .int .i64 by'] 54) 54 cx cy)
  have hd := p2_new3 w (.cells #[.int .i64 ax, .int .i64 ay] 54) (.cells #[.int .i64 bx, .int .i64 by'] 54) (.cells #[.int .i64 cx, .int .i64 cy] 54) 54 dx dy
  have hw := b_alloc (b_alloc (b_alloc (b_alloc (Below.refl w.heap.size w) (.cells #[.int .i64 ax, .int .i64 ay] 54)) (.cells #[.int .i64 bx, .int .i64 by'] 54)) (.cells #[.int .i64 cx, .int .i64 cy] 54)) (.cells #[.int .i64 dx, .int .i64 dy] 54)
  have Ha := Lib.hid ha
  have Hb := Lib.hid hb
  have Hc := Lib.hid hc
  have Hd := Lib.hid hd
  have HW := Lib.hid hw
  clear hw ha hb hc hd
  go_wp2_with fail
  refine d_region (by kernel_rfl) (by kernel_rfl) ?_
  repeat
    first
      | (refine d_plain (by with_reducible rfl) ?_; apply Exists.intro; refine ⟨fun wq hc hq => ?_, ?_⟩)
      | (refine d_on (by with_reducible rfl) (by rfl) (by with_reducible rfl) ?_; apply Exists.intro; refine ⟨fun wq hc hq => ?_, ?_⟩)
      | (refine d_off (by with_reducible rfl) (by rfl) (by rfl) ?_)
      | (refine d_void (by with_reducible rfl) (by rfl) ?_)
    try any_goals
      (have qa := p2_keep hq Ha.out; have qb := p2_keep hq Hb.out; have qc := p2_keep hq Hc.out; have qd := p2_keep hq Hd.out; clear hc
       go_simp
       first
         | rfl
         | (go_at_call 143; with_reducible exact call_below hq (T1.out _))
         | (go_at_call 143; with_reducible exact call_below hq (T2.out _))
         | (go_at_call 143; with_reducible exact call_below hq (T3.out _))
         | (go_at_call 143; with_reducible exact call_below hq (T4.out _)))
    simp only [Act.put, List.setIfInBounds_toArray, List.set_cons_zero, List.set_cons_succ]
  refine d_nil ?_
  intro w1 hb1
  go_wp2_with fail
  go_ret
  exact ⟨retb rfl, b_next HW.out hb1⟩
set_option maxRecDepth 100000 in
set_option maxHeartbeats 2000000 in
theorem crosses_f (ax ay bx by' cx cy dx dy : Int) (t1 t2 t3 t4 : Int) (w : World) (T1 : Hid (TuC ax ay bx by' cx cy t1)) (T2 : Hid (TuC ax ay bx by' dx dy t2)) (_T3 : Hid (TuC cx cy dx dy ax ay t3)) (_T4 : Hid (TuC cx cy dx dy bx by' t4)) (b1 : -1 ≤ t1 * t2 ∧ t1 * t2 ≤ 1) (b2 : -1 ≤ t3 * t4 ∧ t3 * t4 ≤ 1) (hc : decide (t1 * t2 < 0) = false) :
    Calls Tryz.prog 190 #[.agg #[.int .i64 ax, .int .i64 ay], .agg #[.int .i64 bx, .int .i64 by'], .agg #[.int .i64 cx, .int .i64 cy], .agg #[.int .i64 dx, .int .i64 dy]] w fun e w' => e = .returned (.bool (false)) ∧ Below w.heap.size w w' := by
  have u1 : IntKind.i64.wrap (t1 * t2) = t1 * t2 := IntWalk.i64_in _ (by omega)
  have u2 : IntKind.i64.wrap (t3 * t4) = t3 * t4 := IntWalk.i64_in _ (by omega)
  go_enter Tryz.func190, Tryz.ntmps190
  have ha := p2_alloc (.cells #[.int .i64 dx, .int .i64 dy] 54) (p2_alloc (.cells #[.int .i64 cx, .int .i64 cy] 54) (p2_alloc (.cells #[.int .i64 bx, .int .i64 by'] 54) (p2_new w 54 ax ay)))
  have hb := p2_alloc (.cells #[.int .i64 dx, .int .i64 dy] 54) (p2_alloc (.cells #[.int .i64 cx, .int .i64 cy] 54) (p2_new1 w (.cells #[.int .i64 ax, .int .i64 ay] 54) 54 bx by'))
  have hc := p2_alloc (.cells #[.int .i64 dx, .int .i64 dy] 54) (p2_new2 w (.cells #[.int .i64 ax, .int .i64 ay] 54) (.cells #[.int .i64 bx, .int .i64 by'] 54) 54 cx cy)
  have hd := p2_new3 w (.cells #[.int .i64 ax, .int .i64 ay] 54) (.cells #[.int .i64 bx, .int .i64 by'] 54) (.cells #[.int .i64 cx, .int .i64 cy] 54) 54 dx dy
  have hw := b_alloc (b_alloc (b_alloc (b_alloc (Below.refl w.heap.size w) (.cells #[.int .i64 ax, .int .i64 ay] 54)) (.cells #[.int .i64 bx, .int .i64 by'] 54)) (.cells #[.int .i64 cx, .int .i64 cy] 54)) (.cells #[.int .i64 dx, .int .i64 dy] 54)
  have Ha := Lib.hid ha
  have Hb := Lib.hid hb
  have Hc := Lib.hid hc
  have Hd := Lib.hid hd
  have HW := Lib.hid hw
  clear hw ha hb hc hd
  go_wp2_with fail
  refine d_region (by kernel_rfl) (by kernel_rfl) ?_
  repeat
    first
      | (refine d_plain (by with_reducible rfl) ?_; apply Exists.intro; refine ⟨fun wq hc hq => ?_, ?_⟩)
      | (refine d_on (by with_reducible rfl) (by rfl) (by with_reducible rfl) ?_; apply Exists.intro; refine ⟨fun wq hc hq => ?_, ?_⟩)
      | (refine d_off (by with_reducible rfl) (by rfl) (by rfl) ?_)
      | (refine d_void (by with_reducible rfl) (by rfl) ?_)
    try any_goals
      (have qa := p2_keep hq Ha.out; have qb := p2_keep hq Hb.out; have qc := p2_keep hq Hc.out; have qd := p2_keep hq Hd.out; clear hc
       go_simp
       first
         | rfl
         | (go_at_call 143; with_reducible exact call_below hq (T1.out _))
         | (go_at_call 143; with_reducible exact call_below hq (T2.out _))
         | (go_at_call 143; with_reducible exact call_below hq (T3.out _))
         | (go_at_call 143; with_reducible exact call_below hq (T4.out _)))
    simp only [Act.put, List.setIfInBounds_toArray, List.set_cons_zero, List.set_cons_succ]
  refine d_nil ?_
  intro w1 hb1
  go_wp2_with fail
  go_ret
  exact ⟨retb rfl, b_next HW.out hb1⟩
/-- The open segments from a to b and from c to d cross. -/
def crossB (ax ay bx by' cx cy dx dy : Int) : Bool := decide (sgn (crs ax ay bx by' cx cy) * sgn (crs ax ay bx by' dx dy) < 0) && decide (sgn (crs cx cy dx dy ax ay) * sgn (crs cx cy dx dy bx by') < 0)
theorem sgn_mul (m n : Int) : -1 ≤ sgn m * sgn n ∧ sgn m * sgn n ≤ 1 := by
  have a := sgn_bd m; have b := sgn_bd n
  rcases (show sgn m = -1 ∨ sgn m = 0 ∨ sgn m = 1 from by omega) with e | e | e <;> rw [e] <;> omega
theorem crossC (ax ay bx by' cx cy dx dy : Int) (w : World) (h : B9 ax ∧ B9 ay ∧ B9 bx ∧ B9 by' ∧ B9 cx ∧ B9 cy ∧ B9 dx ∧ B9 dy) :
    Calls Tryz.prog 190 #[.agg #[.int .i64 ax, .int .i64 ay], .agg #[.int .i64 bx, .int .i64 by'], .agg #[.int .i64 cx, .int .i64 cy], .agg #[.int .i64 dx, .int .i64 dy]] w fun e w' => e = .returned (.bool (crossB ax ay bx by' cx cy dx dy)) ∧ Below w.heap.size w w' := by
  obtain ⟨h1, h2, h3, h4, h5, h6, h7, h8⟩ := h
  have T1 := Lib.hid fun w => turn ax ay bx by' cx cy w rfl ⟨h1, h2, h3, h4, h5, h6⟩
  have T2 := Lib.hid fun w => turn ax ay bx by' dx dy w rfl ⟨h1, h2, h3, h4, h7, h8⟩
  have T3 := Lib.hid fun w => turn cx cy dx dy ax ay w rfl ⟨h5, h6, h7, h8, h1, h2⟩
  have T4 := Lib.hid fun w => turn cx cy dx dy bx by' w rfl ⟨h5, h6, h7, h8, h3, h4⟩
  unfold crossB
  by_cases hc : sgn (crs ax ay bx by' cx cy) * sgn (crs ax ay bx by' dx dy) < 0
  · rw [decide_eq_true hc, Bool.true_and]
    exact crosses_t ax ay bx by' cx cy dx dy _ _ _ _ w T1 T2 T3 T4 (sgn_mul _ _) (sgn_mul _ _) (decide_eq_true hc)
  · rw [decide_eq_false hc, Bool.false_and]
    exact crosses_f ax ay bx by' cx cy dx dy _ _ _ _ w T1 T2 T3 T4 (sgn_mul _ _) (sgn_mul _ _) (decide_eq_false hc)
abbrev CrC (ax ay bx by' cx cy dx dy : Int) (b : Bool) : Prop := ∀ w, Calls Tryz.prog 190 #[.agg #[.int .i64 ax, .int .i64 ay], .agg #[.int .i64 bx, .int .i64 by'], .agg #[.int .i64 cx, .int .i64 cy], .agg #[.int .i64 dx, .int .i64 dy]] w fun e w' => e = .returned (.bool b) ∧ Below w.heap.size w w'
abbrev OnC (ax ay bx by' cx cy : Int) (b : Bool) : Prop := ∀ w, Calls Tryz.prog 147 #[.agg #[.int .i64 ax, .int .i64 ay], .agg #[.int .i64 bx, .int .i64 by'], .agg #[.int .i64 cx, .int .i64 cy]] w fun e w' => e = .returned (.bool b) ∧ Below w.heap.size w w'
set_option maxRecDepth 100000 in
set_option maxHeartbeats 2000000 in
theorem common_w (ax ay bx by' cx cy dx dy : Int) (x1 x2 x3 x4 x5 : Bool) (w : World) (C1 : Hid (CrC ax ay bx by' cx cy dx dy x1)) (O1 : Hid (OnC ax ay bx by' cx cy x2)) (O2 : Hid (OnC ax ay bx by' dx dy x3)) (O3 : Hid (OnC cx cy dx dy ax ay x4)) (O4 : Hid (OnC cx cy dx dy bx by' x5)) :
    Calls Tryz.prog 145 #[.agg #[.int .i64 ax, .int .i64 ay], .agg #[.int .i64 bx, .int .i64 by'], .agg #[.int .i64 cx, .int .i64 cy], .agg #[.int .i64 dx, .int .i64 dy]] w fun e w' => e = .returned (.bool (x1 || x2 || x3 || x4 || x5)) ∧ Below w.heap.size w w' := by
  go_enter Tryz.func145, Tryz.ntmps145
  have ha := p2_alloc (.cells #[.int .i64 dx, .int .i64 dy] 54) (p2_alloc (.cells #[.int .i64 cx, .int .i64 cy] 54) (p2_alloc (.cells #[.int .i64 bx, .int .i64 by'] 54) (p2_new w 54 ax ay)))
  have hb := p2_alloc (.cells #[.int .i64 dx, .int .i64 dy] 54) (p2_alloc (.cells #[.int .i64 cx, .int .i64 cy] 54) (p2_new1 w (.cells #[.int .i64 ax, .int .i64 ay] 54) 54 bx by'))
  have hc := p2_alloc (.cells #[.int .i64 dx, .int .i64 dy] 54) (p2_new2 w (.cells #[.int .i64 ax, .int .i64 ay] 54) (.cells #[.int .i64 bx, .int .i64 by'] 54) 54 cx cy)
  have hd := p2_new3 w (.cells #[.int .i64 ax, .int .i64 ay] 54) (.cells #[.int .i64 bx, .int .i64 by'] 54) (.cells #[.int .i64 cx, .int .i64 cy] 54) 54 dx dy
  have hw := b_alloc (b_alloc (b_alloc (b_alloc (Below.refl w.heap.size w) (.cells #[.int .i64 ax, .int .i64 ay] 54)) (.cells #[.int .i64 bx, .int .i64 by'] 54)) (.cells #[.int .i64 cx, .int .i64 cy] 54)) (.cells #[.int .i64 dx, .int .i64 dy] 54)
  have Ha := Lib.hid ha
  have Hb := Lib.hid hb
  have Hc := Lib.hid hc
  have Hd := Lib.hid hd
  have HW := Lib.hid hw
  clear hw ha hb hc hd
  go_wp2_with fail
  refine (C1.out _).mono ?_; rintro e w1 ⟨rfl, h⟩
  have ha := p2_keep h Ha.out
  have hb := p2_keep h Hb.out
  have hc := p2_keep h Hc.out
  have hd := p2_keep h Hd.out
  have hw := b_next HW.out h; clear h
  cases x1
  · go_wp2_with fail
    refine (O1.out _).mono ?_; rintro e w2 ⟨rfl, h⟩
    replace ha := p2_keep h ha
    replace hb := p2_keep h hb
    replace hc := p2_keep h hc
    replace hd := p2_keep h hd
    replace hw := b_next hw h; clear h
    cases x2
    · go_wp2_with fail
      refine (O2.out _).mono ?_; rintro e w3 ⟨rfl, h⟩
      replace ha := p2_keep h ha
      replace hb := p2_keep h hb
      replace hc := p2_keep h hc
      replace hd := p2_keep h hd
      replace hw := b_next hw h; clear h
      cases x3
      · go_wp2_with fail
        refine (O3.out _).mono ?_; rintro e w4 ⟨rfl, h⟩
        replace ha := p2_keep h ha
        replace hb := p2_keep h hb
        replace hc := p2_keep h hc
        replace hd := p2_keep h hd
        replace hw := b_next hw h; clear h
        cases x4
        · go_wp2_with fail
          refine (O4.out _).mono ?_; rintro e w5 ⟨rfl, h⟩
          replace ha := p2_keep h ha
          replace hb := p2_keep h hb
          replace hc := p2_keep h hc
          replace hd := p2_keep h hd
          replace hw := b_next hw h; clear h
          cases x5
          · go_wp2_with fail
            go_ret
            exact ⟨retb (by simp), hw⟩
          · go_wp2_with fail
            go_ret
            exact ⟨retb (by simp), hw⟩
        · go_wp2_with fail
          go_ret
          exact ⟨retb (by simp), hw⟩
      · go_wp2_with fail
        go_ret
        exact ⟨retb (by simp), hw⟩
    · go_wp2_with fail
      go_ret
      exact ⟨retb (by simp), hw⟩
  · go_wp2_with fail
    go_ret
    exact ⟨retb (by simp), hw⟩
/-- The segments have a common point. -/
def commonB (ax ay bx by' cx cy dx dy : Int) : Bool := crossB ax ay bx by' cx cy dx dy || onB ax ay bx by' cx cy || onB ax ay bx by' dx dy || onB cx cy dx dy ax ay || onB cx cy dx dy bx by'
theorem commonC (ax ay bx by' cx cy dx dy : Int) (w : World) (h : B9 ax ∧ B9 ay ∧ B9 bx ∧ B9 by' ∧ B9 cx ∧ B9 cy ∧ B9 dx ∧ B9 dy) :
    Calls Tryz.prog 145 #[.agg #[.int .i64 ax, .int .i64 ay], .agg #[.int .i64 bx, .int .i64 by'], .agg #[.int .i64 cx, .int .i64 cy], .agg #[.int .i64 dx, .int .i64 dy]] w fun e w' => e = .returned (.bool (commonB ax ay bx by' cx cy dx dy)) ∧ Below w.heap.size w w' := by
  have C1 := Lib.hid fun w => crossC ax ay bx by' cx cy dx dy w h
  obtain ⟨h1, h2, h3, h4, h5, h6, h7, h8⟩ := h
  exact common_w ax ay bx by' cx cy dx dy _ _ _ _ _ w C1 (Lib.hid fun w => onC ax ay bx by' cx cy w ⟨h1, h2, h3, h4, h5, h6⟩) (Lib.hid fun w => onC ax ay bx by' dx dy w ⟨h1, h2, h3, h4, h7, h8⟩)
    (Lib.hid fun w => onC cx cy dx dy ax ay w ⟨h5, h6, h7, h8, h1, h2⟩) (Lib.hid fun w => onC cx cy dx dy bx by' w ⟨h5, h6, h7, h8, h3, h4⟩)
end Poly
end Go.Proofs.YteieagihdflapaaGreatDoor
namespace Go.Proofs.YteieagihdflapaaGreatDoor
open Go.RowKit
namespace Poly
open Kit Plane
/-- Two cells of element k. -/
abbrev E2 (w : World) (b off k : Nat) (x y : Int) : Prop := w.cell? ⟨b, off + k * 2, none⟩ = some (.int .i64 x) ∧ w.cell? ⟨b, off + k * 2 + 1, none⟩ = some (.int .i64 y)
theorem e2_keep {W w1 : World} (hb : Below W.heap.size W w1) {b off k : Nat} {x y : Int} (h : E2 W b off k x y) : E2 w1 b off k x y := ⟨keep hb h.1, keep hb h.2⟩
/-- A slice of pairs in memory: nil, empty, or n pairs from an address on. -/
def QV (w : World) (v : Value) (n : Nat) (X Y : Nat → Int) : Prop :=
  (n = 0 ∧ (v = .slice none 0 0 ∨ ∃ a cap, v = .slice (some a) 0 cap ∧ cap ≤ maxLen)) ∨ (0 < n ∧ ∃ b off cap, v = .slice (some ⟨b, off, none⟩) n cap ∧ n ≤ cap ∧ cap ≤ maxLen ∧ ∀ k, k < n → E2 w b off k (X k) (Y k))
theorem qv_keep {W w1 : World} (hb : Below W.heap.size W w1) {v : Value} {n : Nat} {X Y : Nat → Int} (h : QV W v n X Y) : QV w1 v n X Y := by
  rcases h with h | ⟨h0, b, off, cap, hv, h1, h2, h3⟩
  · exact Or.inl h
  · exact Or.inr ⟨h0, b, off, cap, hv, h1, h2, fun k hk => e2_keep hb (h3 k hk)⟩
theorem qv_of {W : World} {v : Value} (h : Frame.Okc W (.sl [.int, .int]) v) : ∃ n X Y, QV W v n X Y ∧ ∀ k, (-9223372036854775808 ≤ X k ∧ X k ≤ 9223372036854775807) ∧ (-9223372036854775808 ≤ Y k ∧ Y k ≤ 9223372036854775807) := by
  rcases h.sl_inv with rfl | ⟨a, cap, rfl, hc⟩ | ⟨b, off, len, cap, cells, rfl, h0, h1, h2, hc, ho⟩
  · exact ⟨0, fun _ => 0, fun _ => 0, Or.inl ⟨rfl, Or.inl rfl⟩, fun _ => ⟨⟨by simp, by simp⟩, ⟨by simp, by simp⟩⟩⟩
  · exact ⟨0, fun _ => 0, fun _ => 0, Or.inl ⟨rfl, Or.inr ⟨a, cap, rfl, hc⟩⟩, fun _ => ⟨⟨by simp, by simp⟩, ⟨by simp, by simp⟩⟩⟩
  · have z : ∀ i, i < len → ∀ j (hj : j < 2), ∃ n : Int, cells i j = .int .i64 n ∧ -9223372036854775808 ≤ n ∧ n ≤ 9223372036854775807 := fun i hi j hj => by
      have hk := ho i hi j hj
      have hj' : j = 0 ∨ j = 1 := by omega
      rcases hj' with rfl | rfl <;> exact hk.int_inv
    let g : Nat → Nat → Int := fun i j => if i < len ∧ j < 2 then match cells i j with | .int _ n => n | _ => 0 else 0
    have hg : ∀ i, i < len → ∀ j, j < 2 → W.cell? ⟨b, off + i * 2 + j, none⟩ = some (.int .i64 (g i j)) := fun i hi j hj => by
      obtain ⟨n, e, _⟩ := z i hi j hj
      have hcc := hc i hi j hj
      show W.cell? _ = some (.int .i64 (if i < len ∧ j < 2 then match cells i j with | .int _ n => n | _ => 0 else 0))
      rw [if_pos ⟨hi, hj⟩]
      rw [e] at hcc ⊢
      exact hcc
    have hgb : ∀ i j, -9223372036854775808 ≤ g i j ∧ g i j ≤ 9223372036854775807 := fun i j => by
      show -9223372036854775808 ≤ (if i < len ∧ j < 2 then match cells i j with | .int _ n => n | _ => 0 else 0) ∧ (if i < len ∧ j < 2 then match cells i j with | .int _ n => n | _ => 0 else 0) ≤ 9223372036854775807
      split
      · rename_i hh
        obtain ⟨n, e, hb⟩ := z i hh.1 j hh.2
        rw [e]
        exact hb
      · omega
    exact ⟨len, fun i => g i 0, fun i => g i 1, Or.inr ⟨h0, b, off, cap, rfl, h1, h2, fun k hk => ⟨hg k hk 0 (by decide), hg k hk 1 (by decide)⟩⟩, fun k => ⟨hgb k 0, hgb k 1⟩⟩
/-- The vertex behind i. -/
def nx (n i : Nat) : Nat := (i + 1) % n
theorem nx_lt {n i : Nat} (h : 0 < n) : nx n i < n := Nat.mod_lt _ h
theorem nx_cast {n i : Nat} : ((i : Int) + 1) % (n : Int) = ((nx n i : Nat) : Int) := by unfold nx; rw [Int.natCast_emod]; rfl
abbrev NxC (v : Value) (n : Nat) (X Y : Nat → Int) (i : Nat) (w : World) : Prop := ∀ w1, Below w.heap.size w w1 → Calls Tryz.prog 144 #[v, .int .i64 i] w1 fun e w' => e = .returned (.agg #[.int .i64 (X (nx n i)), .int .i64 (Y (nx n i))]) ∧ Below w1.heap.size w1 w'
set_option maxHeartbeats 1000000 in
theorem next_w (n cap b off i j : Nat) (x y : Int) (w : World) (h0 : 0 < n) (hi : i < n) (hc : n ≤ cap) (hm : cap ≤ maxLen) (hj : Hid (((i : Int) + 1) % (n : Int) = (j : Int) ∧ E2 w b off j x y)) (hjn : j < n) :
    Calls Tryz.prog 144 #[.slice (some ⟨b, off, none⟩) n cap, .int .i64 i] w fun e w' => e = .returned (.agg #[.int .i64 x, .int .i64 y]) ∧ Below w.heap.size w w' := by
  unfold maxLen at hm
  go_enter Tryz.func144, Tryz.ntmps144
  have hz := b2_new w 54 0 0
  have hw := b_alloc (Below.refl w.heap.size w) (.cells #[.int .i64 0, .int .i64 0] 54)
  obtain ⟨q0, q1⟩ := e2_keep hw hj.out.2
  have hjj := hj.out.1
  have hji : (j : Int) < (n : Int) := by omega
  have hnz : ¬ (n : Int) = 0 := by omega
  have HZ := Lib.hid hz; have HW := Lib.hid hw; clear hz hw
  go_wp2_with fail
  refine bodyPost_ret (v := .agg #[.int .i64 x, .int .i64 y]) (by simp [results, Tryz.results144, go_sem]) rfl ⟨rfl, b_alloc (Below.refl _ _) _⟩
theorem nextC {v : Value} {n : Nat} {X Y : Nat → Int} {w : World} (hv : QV w v n X Y) {i : Nat} (hi : i < n) : NxC v n X Y i w := fun w1 hb => by
  rcases hv with ⟨h0, -⟩ | ⟨h0, b, off, cap, rfl, h1, h2, h3⟩
  · omega
  · exact next_w n cap b off i (nx n i) _ _ w1 h0 hi h1 h2 (Lib.hid ⟨nx_cast, e2_keep hb (h3 _ (nx_lt h0))⟩) (nx_lt h0)
/-- Twice the area of the first k edges. -/
def asum (n : Nat) (X Y : Nat → Int) : Nat → Int
  | 0 => 0
  | k + 1 => asum n X Y k + (X k * Y (nx n k) - Y k * X (nx n k))
theorem asum_bd {n : Nat} {X Y : Nat → Int} (h0 : 0 < n) (hg : ∀ k, k < n → good (X k) (Y k)) : ∀ k, k ≤ n → -(2000000000000 * (k : Int)) ≤ asum n X Y k ∧ asum n X Y k ≤ 2000000000000 * (k : Int) := by
  intro k
  induction k with
  | zero => intro _; exact ⟨by simp [asum], by simp [asum]⟩
  | succ k ih =>
    intro hk
    have i1 := ih (by omega)
    have g1 := hg k (by omega); have g2 := hg (nx n k) (nx_lt h0)
    have m1 := mul_bd (x := X k) (y := Y (nx n k)) (M := 1000000) (N := 1000000) (by omega) (by omega)
    have m2 := mul_bd (x := Y k) (y := X (nx n k)) (M := 1000000) (N := 1000000) (by omega) (by omega)
    show _ ≤ asum n X Y k + (X k * Y (nx n k) - Y k * X (nx n k)) ∧ asum n X Y k + (X k * Y (nx n k) - Y k * X (nx n k)) ≤ _
    omega
theorem crossG {ax ay bx by' : Int} (ga : good ax ay) (gb : good bx by') (w : World) : Calls Tryz.prog 189 #[.agg #[.int .i64 ax, .int .i64 ay], .agg #[.int .i64 bx, .int .i64 by']] w fun e w' => e = .returned (.int .i64 (ax * by' - ay * bx)) ∧ Below w.heap.size w w' := by
  have c := cross ax ay bx by' w
  have m1 := mul_bd (x := ax) (y := by') (M := 1000000) (N := 1000000) (by omega) (by omega)
  have m2 := mul_bd (x := ay) (y := bx) (M := 1000000) (N := 1000000) (by omega) (by omega)
  rw [IntWalk.wrap64_in (ax * by') (by omega), IntWalk.wrap64_in (ay * bx) (by omega), IntWalk.wrap64_in _ (by omega)] at c
  exact c
abbrev CsC (ax ay bx by' c : Int) : Prop := ∀ w, Calls Tryz.prog 189 #[.agg #[.int .i64 ax, .int .i64 ay], .agg #[.int .i64 bx, .int .i64 by']] w fun e w' => e = .returned (.int .i64 c) ∧ Below w.heap.size w w'
set_option maxHeartbeats 2000000 in
theorem twice_w (n cap b off : Nat) (X Y : Nat → Int) (w : World) (h0 : 0 < n) (hn : n ≤ 16) (hc : n ≤ cap) (hm : cap ≤ 9223372036854775807) (HV : Hid (∀ k, k < n → E2 w b off k (X k) (Y k))) (HN : Hid (∀ k, k < n → NxC (.slice (some ⟨b, off, none⟩) n cap) n X Y k w)) (HG : Hid (∀ k, k < n → good (X k) (Y k))) :
    Calls Tryz.prog 146 #[.slice (some ⟨b, off, none⟩) n cap] w fun e w' => e = .returned (.int .i64 (asum n X Y n)) ∧ Below w.heap.size w w' := by
  go_enter Tryz.func146, Tryz.ntmps146
  go_wp2_with fail
  go_loopw [3, 7] (fun s i wr => ∃ k : Nat, k ≤ n ∧ s = .int .i64 (asum n X Y k) ∧ i = .int .i64 k ∧ Below w.heap.size w wr) (fun _ i _ => n - (intOf i).toNat)
  case atStart => exact ⟨0, Nat.zero_le _, rfl, rfl, Below.refl _ _⟩
  case round =>
    obtain ⟨k, hk, rfl, rfl, hbl⟩ := hrel
    by_cases hlt : k < n
    · obtain ⟨c0, c1⟩ := e2_keep hbl (HV.out k hlt)
      have hl : (k : Int) < (n : Int) := by omega
      have NN : Hid (NxC (.slice (some ⟨b, off, none⟩) n cap) n X Y k wr) := Lib.hid fun w1 hb => HN.out k hlt w1 (b_next hbl hb)
      have g1 := HG.out k hlt; have g2 := HG.out (nx n k) (nx_lt h0)
      have CC : Hid (CsC (X k) (Y k) (X (nx n k)) (Y (nx n k)) (X k * Y (nx n k) - Y k * X (nx n k))) := Lib.hid fun w => crossG g1 g2 w
      have u := asum_bd h0 HG.out (k + 1) (by omega)
      have u1 : IntKind.i64.wrap (asum n X Y k + (X k * Y (nx n k) - Y k * X (nx n k))) = asum n X Y (k + 1) := by
        show IntKind.i64.wrap (asum n X Y (k + 1)) = _
        exact IntWalk.i64_in _ (by omega)
      clear g1 g2 u
      go_wp2_with fail
      refine d_region (by kernel_rfl) (by kernel_rfl) ?_
      repeat
        first
          | (refine d_plain (by with_reducible rfl) ?_; apply Exists.intro; refine ⟨fun wq hc hq => ?_, ?_⟩)
          | (refine d_on (by with_reducible rfl) (by rfl) (by with_reducible rfl) ?_; apply Exists.intro; refine ⟨fun wq hc hq => ?_, ?_⟩)
          | (refine d_off (by with_reducible rfl) (by rfl) (by rfl) ?_)
          | (refine d_void (by with_reducible rfl) (by rfl) ?_)
        try any_goals
          (have q0 := keep hq c0; have q1 := keep hq c1; clear hc
           go_simp
           first
             | rfl
             | (go_at_call 144; with_reducible exact call_below hq (NN.out _ (cls hq)))
             | (go_at_call 189; with_reducible exact call_below hq (CC.out _)))
        simp only [Act.put, List.setIfInBounds_toArray, List.set_cons_zero, List.set_cons_succ]
      refine d_nil ?_
      intro w1 hb1
      go_wp2_with fail
      go_roundw
      case rel => first | exact ⟨k + 1, by omega, rfl, by go_num, b_next hbl hb1⟩ | ((repeat apply Exists.intro); exact ⟨⟨k + 1, by omega, rfl, by go_num, b_next hbl hb1⟩, rfl⟩)
      case measure => simp [intOf]; omega
    · have he : k = n := by omega
      have HE := Lib.hid he; clear he
      go_wp2_with fail
      go_ret
      exact ⟨ret1 (by rw [HE.out]), hbl⟩
theorem twiceC {v : Value} {n : Nat} {X Y : Nat → Int} {w : World} (hv : QV w v n X Y) (h0 : 0 < n) (hn : n ≤ 16) (hg : ∀ k, k < n → good (X k) (Y k)) :
    Calls Tryz.prog 146 #[v] w fun e w' => e = .returned (.int .i64 (asum n X Y n)) ∧ Below w.heap.size w w' := by
  have hN := fun k (hk : k < n) => nextC hv hk
  rcases hv with ⟨h0', -⟩ | ⟨h0, b, off, cap, rfl, h1, h2, h3⟩
  · omega
  · exact twice_w n cap b off X Y w h0 hn h1 (Nat.le_trans h2 (by decide)) (Lib.hid h3) (Lib.hid hN) (Lib.hid hg)
end Poly
end Go.Proofs.YteieagihdflapaaGreatDoor
