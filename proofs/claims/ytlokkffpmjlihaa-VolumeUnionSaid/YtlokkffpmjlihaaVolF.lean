/- volume.Free: what it returns. -/
import Derived.Test.YtlokkffpmjlihaaVolE
namespace Go.Proofs.Ytlokkffpmjlihaa
open Go.RowKit
namespace Vol
open Kit Plane Poly
/-- One interval more: what is free ahead of it, and from when on. -/
def frS (b : Int) (st : List (Int × Int) × Int) (s : Int × Int) : List (Int × Int) × Int := (if st.2 < min s.1 b then st.1 ++ [(st.2, min s.1 b)] else st.1, max st.2 s.2)
/-- The free times between a and b, after the first i of V. -/
def frA (V : List (Int × Int)) (a b : Int) : Nat → List (Int × Int) × Int
  | 0 => ([], a)
  | i + 1 => frS b (frA V a b i) (rowsL V i 0, rowsL V i 1)
theorem frS_yes {b x y t : Int} {L : List (Int × Int)} (h : t < min x b) : frS b (L, t) (x, y) = (L ++ [(t, min x b)], max t y) := by unfold frS; dsimp only; rw [if_pos h]
theorem frS_no {b x y t : Int} {L : List (Int × Int)} (h : ¬ t < min x b) : frS b (L, t) (x, y) = (L, max t y) := by unfold frS; dsimp only; rw [if_neg h]
theorem frA_len (V : List (Int × Int)) (a b : Int) : ∀ i, (frA V a b i).1.length ≤ i
  | 0 => Nat.le_refl _
  | i + 1 => by
    have h := frA_len V a b i
    show (frS b _ _).1.length ≤ i + 1
    unfold frS
    dsimp only
    split
    · rw [List.length_append, List.length_singleton]; omega
    · omega
theorem own_lt {W : World} {base : Nat} {E : TypeId} {C n : Nat} {v : Value} {f : Nat → Nat → Int} (h : Own W base E C v n f) : ∀ k, v.ownBlock = some k → k < W.heap.size := by
  intro k hk
  rcases h.2 with ⟨rfl, -⟩ | ⟨g, cap, cur, rfl, h1, h2, -⟩
  · simp [Value.ownBlock] at hk
  · simp [Value.ownBlock] at hk
    subst hk
    rcases Nat.lt_or_ge g W.heap.size with hl | hl
    · exact hl
    · rw [Array.getElem?_eq_none hl] at h2; cases h2
theorem cell_grown {w w1 : World} {v u : Value} {b j : Nat} (hg : w.grownBy w1 v.ownBlock) (h : w.cell? ⟨b, j, none⟩ = some u) (hne : ∀ k, v.ownBlock = some k → k ≠ b) : w1.cell? ⟨b, j, none⟩ = some u := by
  have hb : w1.heap[b]? = w.heap[b]? := hg.block b (lt_of_cell h) (fun e => absurd rfl (hne b e.symm))
  exact (World.cell?_of_block (a := ⟨b, _, none⟩) hb).trans h
set_option maxRecDepth 100000 in
set_option maxHeartbeats 8000000 in
theorem free_walk (v : Value) (n : Nat) (F T : Nat → Int) (a b : Int) (w : World) (hn : n ≤ 256) (h1 : ¬ a < 0) (h2 : ¬ 200000 < b) (h3 : ¬ b < a) (UN : Hid (UnC v n F T w)) :
    Calls Try.prog 24 #[v, .int .i64 a, .int .i64 b] w fun e w' => (∃ q, e = .returned (.tuple #[q, .int .i64 0]) ∧ ∃ U, UOk n F T U ∧ Own w' w.heap.size 66 2 q (frA (U ++ [(b, b)]) a b (U.length + 1)).1.length (rowsL (frA (U ++ [(b, b)]) a b (U.length + 1)).1)) ∧ Below w.heap.size w w' := by
  obtain ⟨i0, hi', hz0, hz1, hz2⟩ := info_parts fits_u
  have I := Lib.hid (And.intro hi' (And.intro hz0 (And.intro hz1 hz2))); clear hi' hz0 hz1 hz2
  go_enter Try.func24, Try.ntmps24
  go_wp2_with fail
  (with_reducible refine (UN.out _ (Below.refl _ _)).mono ?_); rintro e w1 ⟨⟨q, U, rfl, hU, ho⟩, hb⟩
  have W1 := Lib.hid hb; have UU := Lib.hid hU; have O1 := Lib.hid ho
  obtain ⟨A, cap, rfl, hmc, hcm⟩ := own_slice ho
  have hcm' : cap ≤ 9223372036854775807 := Nat.le_trans hcm (by decide)
  have hul := hU.len
  clear ho hcm hU hb
  have O2 := Lib.hid (own_keep (b_alloc (Below.refl w1.heap.size w1) (.cells #[.int .i64 b, .int .i64 b] 66)) O1.out)
  have W2 := Lib.hid (b_alloc W1.out (.cells #[.int .i64 b, .int .i64 b] 66))
  have HN2 := Lib.hid (new2 w1 66 b b)
  have hgs : w.heap.size ≤ (w1.alloc (.cells #[.int .i64 b, .int .i64 b] 66)).heap.size := W2.out.size
  obtain ⟨m, hm⟩ : ∃ m, m = U.length := ⟨_, rfl⟩
  have HM := Lib.hid hm
  have o2 := O2.out
  rw [← hm] at o2 hmc hul ⊢
  have O3 := Lib.hid o2
  clear o2 hm
  go_wp2_with (
      at_builtin
      refine wpList_append_own_at _ rfl (.tmp 35) (.tmp 39) 49 rfl w.heap.size 66 i0 _ 2 16 Try.underlying49 I.out.1 I.out.2.1 I.out.2.2.1 I.out.2.2.2 rfl (by decide) _ m _ rfl O3.out ⟨w1.heap.size, 0, none⟩ 1 1 [.int .i64 b, .int .i64 b] rfl rfl HN2.out new2_one (by unfold maxLen; omega) (by omega) hgs ?_
      intro v1 w3 hown1 hg1 hnil1 hat1
      have o4 : Own w3 w.heap.size 66 2 v1 (m + 1) (rowsL (U ++ [(b, b)])) := by
        have h := HM.out
        subst h
        have := own_more (s := (b, b)) hown1
        rw [List.length_append] at this
        exact this
      obtain ⟨V, hV⟩ : ∃ V, V = U ++ [(b, b)] := ⟨_, rfl⟩
      obtain ⟨N, hN⟩ : ∃ N, N = m + 1 := ⟨_, rfl⟩
      rw [← hV, ← hN] at o4
      have hN2 : N ≤ 257 := by omega
      have W3 := Lib.hid (grow_below W2.out O3.out hg1 (Nat.le_refl _) W2.out.size)
      obtain ⟨gu, c, rfl, hu1, hu2, hc1, hc2, hrow⟩ := own_row o4 (by omega)
      have hc3 : c ≤ 9223372036854775807 := Nat.le_trans hc2 (by decide)
      have G3 := Lib.hid (And.intro hu1 hu2)
      obtain ⟨X, hX⟩ : ∃ X : Nat → Int, X = fun i => rowsL V i 0 := ⟨_, rfl⟩
      obtain ⟨Y, hY⟩ : ∃ Y : Nat → Int, Y = fun i => rowsL V i 1 := ⟨_, rfl⟩
      have E3 : Hid (∀ i, i < N → E2 w3 gu 0 i (X i) (Y i)) := Lib.hid (by
        subst hX hY; intro i hi
        have c0 := hrow.cell i hi 0 (by omega); have c1 := hrow.cell i hi 1 (by omega)
        exact ⟨by rw [Nat.zero_add]; exact c0, by rw [Nat.zero_add]; exact c1⟩)
      have SX : Hid (∀ i, frA V a b (i + 1) = frS b (frA V a b i) (X i, Y i)) := Lib.hid (by subst hX hY; exact fun i => rfl)
      have HV := Lib.hid hV; have HN := Lib.hid hN
      clear hX hY hV hN hrow hu1 hu2 hc2 o4 hg1 hnil1 hat1 hown1 O3 O2 O1 W1 W2 HN2 hgs hmc)
  go_loopw [42, 10, 11] (fun s q t wr => ∃ i : Nat, i ≤ N ∧ s = .int .i64 i ∧ Own wr (gu + 1) 66 2 q (frA V a b i).1.length (rowsL (frA V a b i).1) ∧ t = .int .i64 (frA V a b i).2 ∧ (∀ i, i < N → E2 wr gu 0 i (X i) (Y i)) ∧ Below w.heap.size w wr) (fun s _ _ _ => N - (intOf s).toNat)
  case atStart => exact ⟨0, Nat.zero_le _, rfl, own_nil _ _ _ _ _, rfl, E3.out, W3.out⟩
  case round =>
    obtain ⟨i, hi, rfl, ho, rfl, he, hbl⟩ := hrel
    have HL := Lib.hid (frA_len V a b i)
    have HS := Lib.hid (SX.out i)
    obtain ⟨L, hL⟩ : ∃ L, L = (frA V a b i).1 := ⟨_, rfl⟩
    obtain ⟨t, ht⟩ : ∃ t, t = (frA V a b i).2 := ⟨_, rfl⟩
    rw [← hL] at ho HL
    rw [← ht]
    have hs := HS.out
    rw [show frA V a b i = (L, t) from by rw [hL, ht]] at hs
    have HS2 := Lib.hid hs; have HLL := Lib.hid hL; clear hs hL ht HS
    obtain ⟨A2, cap2, rfl, hmc, hcm⟩ := own_slice ho
    have hcm2 : cap2 ≤ 9223372036854775807 := Nat.le_trans hcm (by decide)
    have HO := Lib.hid ho; have HE := Lib.hid he; have HB := Lib.hid hbl; clear ho hcm
    by_cases hlt : i < N
    · have hl : (i : Int) < (N : Int) := by omega
      obtain ⟨c0, c1⟩ := he i hlt
      rw [Nat.zero_add] at c0 c1
      clear he
      have O1 := Lib.hid (own_keep (b_alloc (Below.refl wr.heap.size wr) (.cells #[.int .i64 (X i), .int .i64 (Y i)] 66)) HO.out)
      have E1 : Hid (∀ k, k < N → E2 (wr.alloc (.cells #[.int .i64 (X i), .int .i64 (Y i)] 66)) gu 0 k (X k) (Y k)) := Lib.hid fun k hk => e2_keep (b_alloc (Below.refl wr.heap.size wr) _) (HE.out k hk)
      have B1 := Lib.hid (b_alloc HB.out (.cells #[.int .i64 (X i), .int .i64 (Y i)] 66))
      have P1 := Lib.hid (p2_new wr 66 (X i) (Y i))
      have S1 := Lib.hid (HS2.out)
      generalize X i = x at *
      generalize Y i = y at *
      by_cases hc : t < min x b
      · have O2 := Lib.hid (own_keep (b_alloc (Below.refl (wr.alloc (.cells #[.int .i64 x, .int .i64 y] 66)).heap.size (wr.alloc (.cells #[.int .i64 x, .int .i64 y] 66))) (.cells #[.int .i64 t, .int .i64 (min x b)] 66)) O1.out)
        have E2' : Hid (∀ k, k < N → E2 ((wr.alloc (.cells #[.int .i64 x, .int .i64 y] 66)).alloc (.cells #[.int .i64 t, .int .i64 (min x b)] 66)) gu 0 k (X k) (Y k)) := Lib.hid fun k hk => e2_keep (b_alloc (Below.refl (wr.alloc (.cells #[.int .i64 x, .int .i64 y] 66)).heap.size (wr.alloc (.cells #[.int .i64 x, .int .i64 y] 66))) _) (E1.out k hk)
        have B2 := Lib.hid (b_alloc B1.out (.cells #[.int .i64 t, .int .i64 (min x b)] 66))
        have hn2 := new2 (wr.alloc (.cells #[.int .i64 x, .int .i64 y] 66)) 66 t (min x b)
        rw [World.size_alloc] at hn2
        have HN2 := Lib.hid hn2; clear hn2
        have P3 := Lib.hid (p2_keep (b_alloc (Below.refl (wr.alloc (.cells #[.int .i64 x, .int .i64 y] 66)).heap.size (wr.alloc (.cells #[.int .i64 x, .int .i64 y] 66))) (.cells #[.int .i64 t, .int .i64 (min x b)] 66)) P1.out)
        have K3 := Lib.hid P3.out.2
        have hgs : gu + 1 ≤ ((wr.alloc (.cells #[.int .i64 x, .int .i64 y] 66)).alloc (.cells #[.int .i64 t, .int .i64 (min x b)] 66)).heap.size := lt_of_cell (E2'.out i hlt).1
        obtain ⟨k, hk⟩ : ∃ k, k = L.length := ⟨_, rfl⟩
        obtain ⟨f, hf⟩ : ∃ f, f = rowsL L := ⟨_, rfl⟩
        have hkl := HL.out
        have o2 := O2.out
        rw [← hk, ← hf] at o2
        rw [← hk] at hkl hmc ⊢
        have O3 := Lib.hid o2
        have ho2 := HO.out
        rw [← hk, ← hf] at ho2
        have OL : Hid (∀ j, (Value.slice A2 k cap2).ownBlock = some j → j ≠ wr.heap.size) := Lib.hid (fun j hj => Nat.ne_of_lt (own_lt ho2 j hj))
        clear ho2
        have HK := Lib.hid hk; have HF := Lib.hid hf
        clear o2 hk hf
        go_wp2_with (at_builtin; refine wpList_append_own_at _ rfl (.tmp 53) (.tmp 57) 49 rfl (gu + 1) 66 i0 _ 2 16 Try.underlying49 I.out.1 I.out.2.1 I.out.2.2.1 I.out.2.2.2 rfl (by decide) _ k _ rfl O3.out ⟨wr.heap.size + 1, 0, none⟩ 1 1 [.int .i64 t, .int .i64 (min x b)] rfl rfl HN2.out new2_one (by unfold maxLen; omega) (by omega) hgs ?_; intro v2 w7 hown1 hg1 hnil1 hat1; have k1 := cell_grown (v := .slice A2 k cap2) hg1 K3.out OL.out)
        refine ⟨⟨i + 1, by omega, by go_num, ?_, ?_, fun k hk => e2_grown hg1 (E2'.out k hk) (own_ge O3.out), grow_below B2.out O3.out hg1 (Nat.le_trans G3.out.1 (Nat.le_succ _)) B2.out.size⟩, by simp [intOf]; omega⟩
        · rw [HS2.out, frS_yes hc]
          have h1 := HK.out
          have h2 := HF.out
          subst h1 h2
          exact own_more hown1
        · rw [HS2.out, frS_yes hc]
      · go_wp2_with fail
        refine ⟨⟨i + 1, by omega, by go_num, ?_, ?_, E1.out, B1.out⟩, by simp [intOf]; omega⟩
        · rw [HS2.out, frS_no hc]; exact O1.out
        · rw [HS2.out, frS_no hc]
    · have hin : i = N := by omega
      have hl : ¬ (i : Int) < (N : Int) := by omega
      clear he
      go_wp2_with fail
      go_ret2
      refine ⟨⟨_, rfl, U, UU.out, ?_⟩, HB.out⟩
      rw [← HV.out, ← HM.out, ← HN.out, ← hin, ← HLL.out]
      exact own_weaken (Nat.le_trans G3.out.1 (Nat.le_succ _)) HO.out
end Vol
end Go.Proofs.Ytlokkffpmjlihaa
