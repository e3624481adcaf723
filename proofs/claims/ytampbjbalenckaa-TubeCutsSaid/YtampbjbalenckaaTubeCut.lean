/- tube.Cut: what it returns. -/
import Derived.Test.YtampbjbalenckaaCutQ
import Derived.Test.YtampbjbalenckaaTubeD
import Derived.Test.YtampbjbalenckaaRowS
namespace Go.Proofs.Ytampbjbalenckaa
open Go.RowKit
namespace Tube
open Kit Plane
theorem fits_cut : (Try.prog.info? 47).map (fun i => (i.zero, i.size, i.bytes)) = some (some (.agg #[.int .i64 0, .int .i64 0, .int .i64 0, .int .i64 0, .int .i64 0, .int .i64 0]), 6, 48) := by kernel_rfl
set_option maxHeartbeats 1000000 in
theorem cut_bad (v : Value) (a z E : Int) (w : World) (C : Hid (CkC v E w)) (_hE1 : (E == 0) = false) (hE2 : (E != 0) = true) :
    Calls Try.prog 24 #[v, .int .i64 a, .int .i64 z] w fun e w' => e = .returned (.tuple #[.slice none 0 0, .int .i64 E]) ∧ Below w.heap.size w w' := by
  go_enter Try.func24, Try.ntmps24
  go_wp2_with fail
  (with_reducible refine (C.out _ (Below.refl _ _)).mono ?_); rintro e w1 ⟨rfl, h⟩
  go_wp2_with fail
  go_ret2
  exact ⟨rfl, h⟩
set_option maxHeartbeats 1000000 in
theorem cut_no (v : Value) (a z p q : Int) (w : World) (C : Hid (CkC v 0 w)) (N : Hid (∀ w1, Below w.heap.size w w1 → Calls Try.prog 49 #[v] w1 fun e w' => e = .returned (.tuple #[.int .i64 p, .int .i64 q]) ∧ Below w1.heap.size w1 w')) (hx : a < p ∨ q < z ∨ z < a) :
    Calls Try.prog 24 #[v, .int .i64 a, .int .i64 z] w fun e w' => e = .returned (.tuple #[.slice none 0 0, .int .i64 12]) ∧ Below w.heap.size w w' := by
  go_enter Try.func24, Try.ntmps24
  go_wp2_with fail
  (with_reducible refine (C.out _ (Below.refl _ _)).mono ?_); rintro e w1 ⟨rfl, hw⟩
  go_wp2_with fail
  (with_reducible refine (N.out _ hw).mono ?_); rintro e w2 ⟨rfl, h⟩
  replace hw := b_next hw h; clear h
  go_wp2_with fail
  all_goals first | (exfalso; omega) | (go_ret2; exact ⟨rfl, hw⟩)
/-- The rows of a part. -/
abbrev cutF (T X Y H R B : Nat → Int) (lo c : Nat) (a ax ay ah ar ab z zx zy zh zr zb : Int) : Nat → Nat → Int := tf (cutT T lo c a z) (cutT X lo c ax zx) (cutT Y lo c ay zy) (cutT H lo c ah zh) (cutT R lo c ar zr) (cutT B lo c ab zb)
theorem cutF_mid {T X Y H R B : Nat → Int} {lo c : Nat} {a ax ay ah ar ab z zx zy zh zr zb : Int} {r j : Nat} (h0 : 0 < r) (h : r < c) (hj : lo + r - 1 = j) (m : Nat) (hm : m < 6) : cutF T X Y H R B lo c a ax ay ah ar ab z zx zy zh zr zb r m = tf T X Y H R B j m := by
  unfold cutF tf
  rcases (show m = 0 ∨ m = 1 ∨ m = 2 ∨ m = 3 ∨ m = 4 ∨ m = 5 from by omega) with rfl | rfl | rfl | rfl | rfl | rfl <;> simp [cutT_mid _ _ _ h0 h, hj]
theorem rowL_next {f : Nat → Nat → Int} {n : Nat} {t x y h r d : Int} (e : ∀ m, m < 6 → f n m = tf (fun _ => t) (fun _ => x) (fun _ => y) (fun _ => h) (fun _ => r) (fun _ => d) 0 m) : rowL 6 f n ++ [Value.int .i64 t, .int .i64 x, .int .i64 y, .int .i64 h, .int .i64 r, .int .i64 d] = rowL 6 f (n + 1) := by
  rw [rowL]
  congr 1
  have e0 := e 0 (by omega); have e1 := e 1 (by omega); have e2 := e 2 (by omega); have e3 := e 3 (by omega); have e4 := e 4 (by omega); have e5 := e 5 (by omega)
  unfold tf at e0 e1 e2 e3 e4 e5
  simp at e0 e1 e2 e3 e4 e5
  rw [show List.range 6 = [0, 1, 2, 3, 4, 5] from rfl]
  simp [e0, e1, e2, e3, e4, e5]
set_option maxRecDepth 100000 in
set_option maxHeartbeats 8000000 in
theorem cut_walk (n cap b off lo hi : Nat) (T X Y H R B : Nat → Int) (a ax ay ah ar ab z zx zy zh zr zb p q : Int) (w : World) (h0 : 0 < n) (hn : n ≤ 64) (hc : n ≤ cap) (hm : cap ≤ 9223372036854775807) (HV : Hid (∀ k, k < n → S6 w b (off + k * 6) (T k) (X k) (Y k) (H k) (R k) (B k))) (C : Hid (CkC (.slice (some ⟨b, off, none⟩) n cap) 0 w))
    (N : Hid (∀ w1, Below w.heap.size w w1 → Calls Try.prog 49 #[.slice (some ⟨b, off, none⟩) n cap] w1 fun e w' => e = .returned (.tuple #[.int .i64 p, .int .i64 q]) ∧ Below w1.heap.size w1 w')) (hx1 : p ≤ a) (hx2 : z ≤ q) (hx3 : a ≤ z)
    (A1 : Hid (∀ w1, Below w.heap.size w w1 → Calls Try.prog 50 #[.slice (some ⟨b, off, none⟩) n cap, .int .i64 a] w1 fun e w' => e = .returned (.agg #[.int .i64 a, .int .i64 ax, .int .i64 ay, .int .i64 ah, .int .i64 ar, .int .i64 ab]) ∧ Below w1.heap.size w1 w')) (A2 : Hid (∀ w1, Below w.heap.size w w1 → Calls Try.prog 50 #[.slice (some ⟨b, off, none⟩) n cap, .int .i64 z] w1 fun e w' => e = .returned (.agg #[.int .i64 z, .int .i64 zx, .int .i64 zy, .int .i64 zh, .int .i64 zr, .int .i64 zb]) ∧ Below w1.heap.size w1 w'))
    (CA : Hid (CutAt T n a z lo hi)) (_hle : a < z → lo ≤ hi) (_hge : a = z → hi ≤ lo) (hln : lo ≤ n) (hhn : hi ≤ n) :
    Calls Try.prog 24 #[.slice (some ⟨b, off, none⟩) n cap, .int .i64 a, .int .i64 z] w fun e w' => (∃ v, e = .returned (.tuple #[v, .int .i64 0]) ∧ Own w' w.heap.size 47 6 v (cutN a z lo hi) (cutF T X Y H R B lo (1 + (hi - lo)) a ax ay ah ar ab z zx zy zh zr zb)) ∧ Below w.heap.size w w' := by
  obtain ⟨i0, hi', hz0, hz1, hz2⟩ := info_parts fits_cut
  have I := Lib.hid (And.intro hi' (And.intro hz0 (And.intro hz1 hz2))); clear hi' hz0 hz1 hz2
  have hnil := fun (W : World) (A : Option Addr) (n cap : Nat) => Lib.run_eql_slice_nil (P := Try.prog) W 45 47 A n cap 0 0 Try.underlying45
  clear hnil
  obtain ⟨F, hF⟩ : ∃ F, F = cutF T X Y H R B lo (1 + (hi - lo)) a ax ay ah ar ab z zx zy zh zr zb := ⟨_, rfl⟩
  have HF := Lib.hid hF
  rw [← hF]; clear hF
  go_enter Try.func24, Try.ntmps24
  go_wp2_with fail
  (with_reducible refine (C.out _ (Below.refl _ _)).mono ?_); rintro e w1 ⟨rfl, hw⟩
  have W1 := Lib.hid hw; clear hw
  go_wp2_with fail
  (with_reducible refine (N.out _ W1.out).mono ?_); rintro e w2 ⟨rfl, h⟩
  have W2 := Lib.hid (b_next W1.out h); clear h
  have g1 : ¬ a < p := by omega
  have g2 : ¬ q < z := by omega
  have g3 : ¬ z < a := by omega
  go_wp2_with fail
  (with_reducible refine (A1.out _ W2.out).mono ?_); rintro e w3 ⟨rfl, h⟩
  have W3 := Lib.hid (b_next W2.out h); clear h
  have O3 : Hid (Own (w3.alloc (.cells #[.int .i64 a, .int .i64 ax, .int .i64 ay, .int .i64 ah, .int .i64 ar, .int .i64 ab] 47)) w.heap.size 47 6 (.slice (some ⟨w3.heap.size, 0, none⟩) 1 1) 1 F) := Lib.hid (own_made #[.int .i64 a, .int .i64 ax, .int .i64 ay, .int .i64 ah, .int .i64 ar, .int .i64 ab] W3.out.size (by decide) (by rw [HF.out]; rfl))
  have W4 := Lib.hid (b_alloc W3.out (.cells #[.int .i64 a, .int .i64 ax, .int .i64 ay, .int .i64 ah, .int .i64 ar, .int .i64 ab] 47))
  go_wp2_with fail
  go_loopw [43, 11] (fun s u wr => ∃ j : Nat, j ≤ n ∧ s = .int .i64 j ∧ Own wr w.heap.size 47 6 u (1 + (min j hi - lo)) F ∧ Below w.heap.size w wr) (fun s _ _ => n - (intOf s).toNat)
  case atStart => exact ⟨0, Nat.zero_le _, rfl, by rw [show 1 + (min 0 hi - lo) = 1 from by omega]; exact O3.out, W4.out⟩
  case round =>
    obtain ⟨j, hj, rfl, ho, hbl⟩ := hrel
    have HO := Lib.hid ho; have HB := Lib.hid hbl; clear ho
    by_cases hlt : j < n
    · have hl : (j : Int) < (n : Int) := by omega
      have e0 := s6_keep hbl (HV.out j hlt); clear hbl
      have Z := Lib.hid (d6_new wr 47 (T j) (X j) (Y j) (H j) (R j) (B j))
      have O1 := Lib.hid (own_keep (b_alloc (Below.refl wr.heap.size wr) (.cells #[.int .i64 (T j), .int .i64 (X j), .int .i64 (Y j), .int .i64 (H j), .int .i64 (R j), .int .i64 (B j)] 47)) HO.out)
      have B1 := Lib.hid (b_alloc HB.out (.cells #[.int .i64 (T j), .int .i64 (X j), .int .i64 (Y j), .int .i64 (H j), .int .i64 (R j), .int .i64 (B j)] 47))
      by_cases hin : lo ≤ j ∧ j < hi
      · have k1 := CA.out.gt j hin.1 hlt
        have k2 := CA.out.lt j hin.2
        have O2 := Lib.hid (own_keep (b_alloc (Below.refl (wr.alloc (.cells #[.int .i64 (T j), .int .i64 (X j), .int .i64 (Y j), .int .i64 (H j), .int .i64 (R j), .int .i64 (B j)] 47)).heap.size (wr.alloc (.cells #[.int .i64 (T j), .int .i64 (X j), .int .i64 (Y j), .int .i64 (H j), .int .i64 (R j), .int .i64 (B j)] 47))) (.cells #[.int .i64 (T j), .int .i64 (X j), .int .i64 (Y j), .int .i64 (H j), .int .i64 (R j), .int .i64 (B j)] 47)) O1.out)
        have B2 := Lib.hid (b_alloc B1.out (.cells #[.int .i64 (T j), .int .i64 (X j), .int .i64 (Y j), .int .i64 (H j), .int .i64 (R j), .int .i64 (B j)] 47))
        have HN := new6 (wr.alloc (.cells #[.int .i64 (T j), .int .i64 (X j), .int .i64 (Y j), .int .i64 (H j), .int .i64 (R j), .int .i64 (B j)] 47)) 47 (T j) (X j) (Y j) (H j) (R j) (B j)
        rw [World.size_alloc] at HN
        have HN' := Lib.hid HN; clear HN
        have hcnt : 1 + (min j hi - lo) = 1 + (j - lo) := by omega
        rw [hcnt] at O2
        clear hcnt
        go_wp2_with (at_builtin; refine wpList_append_own_at _ rfl (.tmp 59) (.tmp 61) 45 rfl w.heap.size 47 i0 _ 6 48 Try.underlying45 I.out.1 I.out.2.1 I.out.2.2.1 I.out.2.2.2 rfl (by decide) _ (1 + (j - lo)) _ rfl O2.out ⟨wr.heap.size + 1, 0, none⟩ 1 1 [.int .i64 (T j), .int .i64 (X j), .int .i64 (Y j), .int .i64 (H j), .int .i64 (R j), .int .i64 (B j)] rfl rfl HN'.out new6_one (by unfold maxLen; omega) (by omega) B2.out.size ?_; intro v1 w5 hown1 hg1 hnil1 hat1)
        refine ⟨⟨j + 1, by omega, by go_num, ?_, grow_below B2.out O2.out hg1 (Nat.le_refl _) B2.out.size⟩, by simp [intOf]; omega⟩
        rw [show 1 + (min (j + 1) hi - lo) = 1 + (j - lo) + 1 from by omega]
        have h := hown1
        rw [rowL_next (fun m hm => by rw [HF.out, cutF_mid (by omega) (by omega) (show lo + (1 + (j - lo)) - 1 = j by omega) m hm]; rfl)] at h
        exact h
      · have hcnt : 1 + (min (j + 1) hi - lo) = 1 + (min j hi - lo) := by omega
        by_cases hjl : j < lo
        · have k1 := CA.out.le j hjl
          have k1' : ¬ a < T j := by omega
          have HC := Lib.hid hcnt; clear hcnt
          go_wp2_with fail
          exact ⟨⟨j + 1, by omega, by go_num, by rw [HC.out]; exact O1.out, B1.out⟩, by simp [intOf]; omega⟩
        · have k1 := CA.out.gt j (by omega) hlt
          have k2 := CA.out.ge j (by omega) hlt
          have k2' : ¬ T j < z := by omega
          have HC := Lib.hid hcnt; clear hcnt
          go_wp2_with fail
          exact ⟨⟨j + 1, by omega, by go_num, by rw [HC.out]; exact O1.out, B1.out⟩, by simp [intOf]; omega⟩
    · have he : j = n := by omega
      have hl : ¬ (j : Int) < (n : Int) := by omega
      have hcnt : 1 + (min j hi - lo) = 1 + (hi - lo) := by omega
      rw [hcnt] at HO
      clear hcnt he
      by_cases haz : a < z
      · go_wp2_with fail
        (with_reducible refine (A2.out _ HB.out).mono ?_); rintro e w4 ⟨rfl, h⟩
        have O4 := Lib.hid (own_keep (b_alloc (Below.refl w4.heap.size w4) (.cells #[.int .i64 z, .int .i64 zx, .int .i64 zy, .int .i64 zh, .int .i64 zr, .int .i64 zb] 47)) (own_keep h HO.out)); have W5 := Lib.hid (b_alloc (b_next HB.out h) (.cells #[.int .i64 z, .int .i64 zx, .int .i64 zy, .int .i64 zh, .int .i64 zr, .int .i64 zb] 47)); clear h hbl
        have HN := Lib.hid (new6 w4 47 z zx zy zh zr zb)
        go_wp2_with (at_builtin; refine wpList_append_own_at _ rfl (.tmp 67) (.tmp 71) 45 rfl w.heap.size 47 i0 _ 6 48 Try.underlying45 I.out.1 I.out.2.1 I.out.2.2.1 I.out.2.2.2 rfl (by decide) _ (1 + (hi - lo)) _ rfl O4.out ⟨w4.heap.size, 0, none⟩ 1 1 [.int .i64 z, .int .i64 zx, .int .i64 zy, .int .i64 zh, .int .i64 zr, .int .i64 zb] rfl rfl HN.out new6_one (by unfold maxLen; omega) (by omega) W5.out.size ?_; intro v1 w5 hown1 hg1 hnil1 hat1)
        go_ret2
        refine ⟨⟨v1, rfl, ?_⟩, grow_below W5.out O4.out hg1 (Nat.le_refl _) W5.out.size⟩
        rw [show cutN a z lo hi = 1 + (hi - lo) + 1 from by unfold cutN; rw [if_pos haz]]
        have h := hown1
        rw [rowL_next (fun m hm => by
          rw [HF.out]
          unfold cutF tf
          simp only [cutT_end _ _ _ (show 0 < 1 + (hi - lo) by omega) (Nat.le_refl _)])] at h
        exact h
      · go_wp2_with fail
        go_ret2
        refine ⟨⟨_, rfl, ?_⟩, HB.out⟩
        rw [show cutN a z lo hi = 1 + (hi - lo) from by unfold cutN; rw [if_neg (by omega), Nat.add_zero]]
        exact HO.out
end Tube
end Go.Proofs.Ytampbjbalenckaa
