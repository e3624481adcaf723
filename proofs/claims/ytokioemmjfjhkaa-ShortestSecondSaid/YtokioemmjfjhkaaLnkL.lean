/- chart.Links: what it returns. -/
import Derived.Test.YtokioemmjfjhkaaLnkS
namespace Go.Proofs.Ytokioemmjfjhkaa
open Go.RowKit
namespace Lnk
open Kit Chart Route Plane Poly
abbrev LkC (c : Value) (s : ByteArray) (w : World) (q : Value) : Prop := Calls Try.prog 16 #[c, .string s] w fun e w' => e = .returned q ∧ Below w.heap.size w w'
theorem av_at {w : World} {v : Value} {m : Nat} {M : Nat → ByteArray} {l : Nat → Nat} {S : Nat → Nat → ByteArray} (h : AV w v m M l S) (h0 : 0 < m) : ∃ b off cap, v = .slice (some ⟨b, off, none⟩) m cap ∧ m ≤ cap ∧ cap ≤ maxLen ∧ ∀ k, k < m → A2 w b off k (M k) (l k) (S k) := by
  rcases h with ⟨h1, -⟩ | ⟨-, h⟩
  · omega
  · exact h
theorem own_lt {w : World} {base : Nat} {E : TypeId} {C n : Nat} {v : Value} {xs : List Value} (h : w.ownsRow base E C v n xs) : ∀ b, v.ownBlock = some b → b < w.heap.size := by
  intro b hb
  rcases h.2 with ⟨rfl, -⟩ | ⟨g, cap, cur, rfl, -, hg, -⟩
  · cases hb
  · cases hb; exact (Array.getElem?_eq_some_iff.1 hg).1
theorem own_below {W w1 : World} {base : Nat} {E : TypeId} {C n : Nat} {v : Value} {xs : List Value} (hb : Below W.heap.size W w1) (h : W.ownsRow base E C v n xs) : w1.ownsRow base E C v n xs := by
  refine ⟨h.1, ?_⟩
  rcases h.2 with hh | ⟨g, cap, cur, hv, h1, hg, h2⟩
  · exact Or.inl hh
  · exact Or.inr ⟨g, cap, cur, hv, h1, (hb.block g (Array.getElem?_eq_some_iff.1 hg).1).trans hg, h2⟩
theorem own_slice0 {w : World} {base : Nat} {E : TypeId} {C n : Nat} {v : Value} {xs : List Value} (h : w.ownsRow base E C v n xs) : ∃ A cap, v = .slice A n cap := by
  rcases h.2 with ⟨rfl, rfl⟩ | ⟨g, cap, cur, rfl, -⟩
  · exact ⟨_, _, rfl⟩
  · exact ⟨_, _, rfl⟩
theorem own_ge0 {w : World} {base : Nat} {E : TypeId} {C n : Nat} {v : Value} {xs : List Value} (h : w.ownsRow base E C v n xs) : ∀ k, v.ownBlock = some k → base ≤ k := by
  intro k hk
  rcases h.2 with ⟨rfl, -⟩ | ⟨g, cap, cur, rfl, h1, -⟩
  · simp [Value.ownBlock] at hk
  · simp [Value.ownBlock] at hk; omega
theorem grow_b {N : Nat} {W w w1 : World} {v : Value} {base : Nat} {E : TypeId} {C n : Nat} {xs : List Value} (hb : Below N W w) (h : w.ownsRow base E C v n xs) (hg : w.grownBy w1 v.ownBlock) (hN : N ≤ base) (hs : N ≤ w.heap.size) : Below N W w1 :=
  hb.grown hg hs (fun k hk => Nat.le_trans hN (own_ge0 h k hk))
set_option maxHeartbeats 1000000 in
theorem links_bad (fx aw : Value) (s : ByteArray) (E : Int) (w : World) (C : Hid (CcC (.agg #[fx, aw]) E w)) (_hE1 : (E == 0) = false) (hE2 : (E != 0) = true) : LkC (.agg #[fx, aw]) s w (.tuple #[.slice none 0 0, .int .i64 E]) := by
  have W0 := Lib.hid (b_alloc (Below.refl w.heap.size w) (.cells #[fx, aw] 37))
  have BX := Lib.hid (p2v_new w 37 fx aw)
  obtain ⟨x0, x1⟩ := BX.out
  go_enter Try.func16, Try.ntmps16
  go_wp2_with fail
  (with_reducible refine (C.out _ W0.out).mono ?_); rintro e w1 ⟨rfl, hb⟩
  have W1 := Lib.hid (b_next W0.out hb); clear hb
  go_wp2_with fail
  all_goals (go_ret2; exact ⟨rfl, W1.out⟩)
set_option maxHeartbeats 1000000 in
theorem links_none (fx aw : Value) (s : ByteArray) (i : Int) (w : World) (C : Hid (CcC (.agg #[fx, aw]) 0 w)) (IX : Hid (∀ w1, Below w.heap.size w w1 → Calls Try.prog 36 #[.agg #[fx, aw], .string s] w1 fun e w' => e = .returned (.int .i64 i) ∧ Below w1.heap.size w1 w')) (hi : i < 0) : LkC (.agg #[fx, aw]) s w (.tuple #[.slice none 0 0, .int .i64 6]) := by
  have W0 := Lib.hid (b_alloc (Below.refl w.heap.size w) (.cells #[fx, aw] 37))
  have BX := Lib.hid (p2v_new w 37 fx aw)
  obtain ⟨x0, x1⟩ := BX.out
  go_enter Try.func16, Try.ntmps16
  go_wp2_with fail
  (with_reducible refine (C.out _ W0.out).mono ?_); rintro e w1 ⟨rfl, hb⟩
  have W1 := Lib.hid (b_next W0.out hb); clear x0 x1; obtain ⟨x0, x1⟩ := p2v_keep hb BX.out; clear hb
  go_wp2_with fail
  (with_reducible refine (IX.out _ W1.out).mono ?_); rintro e w2 ⟨rfl, hb⟩
  have W2 := Lib.hid (b_next W1.out hb); clear hb
  go_wp2_with fail
  all_goals (go_ret2; exact ⟨rfl, W2.out⟩)
set_option maxRecDepth 100000 in
set_option maxHeartbeats 8000000 in
theorem links_ok (fx : Value) (B : Option Addr) (m ca : Nat) (M : Nat → ByteArray) (l : Nat → Nat) (S : Nat → Nat → ByteArray) (s : ByteArray) (i : Int) (w : World) (hm16 : m ≤ 16) (hl24 : Hid (∀ k, k < m → l k ≤ 24)) (HA : Hid (AV w (.slice B m ca) m M l S))
    (C : Hid (CcC (.agg #[fx, .slice B m ca]) 0 w)) (IX : Hid (∀ w1, Below w.heap.size w w1 → Calls Try.prog 36 #[.agg #[fx, .slice B m ca], .string s] w1 fun e w' => e = .returned (.int .i64 i) ∧ Below w1.heap.size w1 w')) (hi : 0 ≤ i) :
    Calls Try.prog 16 #[.agg #[fx, .slice B m ca], .string s] w fun e w' => (∃ v, e = .returned (.tuple #[v, .int .i64 0]) ∧ SL w' v (links l S s m)) ∧ Below w.heap.size w w' := by
  have W0 := Lib.hid (b_alloc (Below.refl w.heap.size w) (.cells #[fx, .slice B m ca] 37))
  have BX := Lib.hid (p2v_new w 37 fx (.slice B m ca))
  obtain ⟨x0, x1⟩ := BX.out
  have hi' : ¬ i < 0 := by omega
  obtain ⟨i0, hi1, hz0, hz1, hz2⟩ := info_parts info_str
  have IN := Lib.hid (And.intro hi1 (And.intro hz0 (And.intro hz1 hz2))); clear hi1 hz0 hz1 hz2
  have LQ : Hid (links l S s m = uni (srt (nbs l S s m))) := Lib.hid rfl
  obtain ⟨LL, hLL⟩ : ∃ LL, LL = links l S s m := ⟨_, rfl⟩
  rw [← hLL] at LQ ⊢
  clear hLL
  go_enter Try.func16, Try.ntmps16
  go_wp2_with fail
  (with_reducible refine (C.out _ W0.out).mono ?_); rintro e w1 ⟨rfl, hb⟩
  have W1 := Lib.hid (b_next W0.out hb); clear x0 x1; have BX1 := Lib.hid (p2v_keep hb BX.out); obtain ⟨x0, x1⟩ := BX1.out; clear hb
  go_wp2_with fail
  (with_reducible refine (IX.out _ W1.out).mono ?_); rintro e w2 ⟨rfl, hb⟩
  have W2 := Lib.hid (b_next W1.out hb); clear x0 x1; obtain ⟨x0, x1⟩ := p2v_keep hb BX1.out; clear hb
  go_wp2_with fail
  go_loopw [7, 23] (fun v t wr => ∃ k : Nat, k ≤ m ∧ t = .int .i64 k ∧ wr.ownsRow w.heap.size 9 1 v (nbs l S s k).length (vs (nbs l S s k)) ∧ Below w.heap.size w wr) (fun _ t _ => m - (intOf t).toNat)
  case atStart => exact ⟨0, Nat.zero_le _, rfl, ⟨rfl, Or.inl ⟨rfl, rfl⟩⟩, W2.out⟩
  case round =>
    obtain ⟨k, hk, rfl, hown, hbl⟩ := hrel
    have OW := Lib.hid hown; have WR := Lib.hid hbl
    obtain ⟨Ao, co, rfl⟩ := own_slice0 hown
    have LN := nbs_len l S s k
    clear hown
    by_cases hlt : k < m
    · have hl : (k : Int) < (m : Int) := by omega
      obtain ⟨b, off, c', e, hc1, hc2, h3⟩ := av_at HA.out (by omega)
      injection e with e1 _ e3
      subst e1 e3
      obtain ⟨ca0, u, ca1, hsv0⟩ := h3 k hlt
      obtain ⟨A1, c1, rfl⟩ := sv_slice hsv0
      have ca0 := keep hbl ca0; have ca1 := keep hbl ca1; have hsv := sv_keep hbl hsv0
      have SVW := Lib.hid hsv0; clear hsv0 hbl
      have hlk := hl24.out k hlt
      have NB : Hid (nbs l S s (k + 1) = nbs l S s k ++ nbA (S k) (l k) s) := Lib.hid rfl
      have WA := b_alloc (Below.refl wr.heap.size wr) (.cells #[.string (M k), .slice A1 (l k) c1] 44)
      have PB := Lib.hid (p2v_new wr 44 (.string (M k)) (.slice A1 (l k) c1))
      have SV1 := Lib.hid (sv_keep WA hsv)
      have OA := Lib.hid (own_below WA OW.out)
      have BA := Lib.hid (b_next WR.out WA)
      have OLT := Lib.hid (own_lt OW.out)
      have VB : Hid (∀ bn, bn = wr.heap.size → (Value.slice Ao (nbs l S s k).length co).ownBlock ≠ some bn) := Lib.hid fun bn hbn e => by have := OLT.out bn e; omega
      clear h3 hsv WA OW OLT
      obtain ⟨bn, hbn⟩ : ∃ bn, bn = wr.heap.size := ⟨_, rfl⟩
      have VB1 := Lib.hid (VB.out bn hbn); clear VB
      go_wp2_with fail
      rw [← hbn] at PB ⊢
      clear ca0 ca1 hbn
      generalize wr.alloc (.cells #[.string (M k), .slice A1 (l k) c1] 44) = wa at *
      generalize hLk : l k = Lk at *
      generalize hSk : S k = Sk at *
      clear hLk hSk
      obtain ⟨p0, p1⟩ := PB.out
      have IX1 := Lib.hid (sidxC SV1.out s)
      have bd : -1 ≤ fix Sk s Lk ∧ fix Sk s Lk < (Lk : Int) := fnd_bd _ _
      have NA : Hid (nbA Sk Lk s = if fix Sk s Lk < 0 then [] else (if 0 < fix Sk s Lk then [Sk ((fix Sk s Lk).toNat - 1)] else []) ++ (if fix Sk s Lk + 1 < Lk then [Sk ((fix Sk s Lk).toNat + 1)] else [])) := Lib.hid rfl
      generalize fix Sk s Lk = ix at *
      generalize nbA Sk Lk s = nA at *
      obtain ⟨nX, hnX⟩ : ∃ nX, nX = nbs l S s (k + 1) := ⟨_, rfl⟩
      rw [← hnX] at NB
      have HNX := Lib.hid hnX; clear hnX
      generalize nbs l S s k = nK at *
      go_wp2_with fail
      (with_reducible refine IX1.out.mono ?_); rintro e w3 ⟨rfl, hb⟩
      have B3 := Lib.hid (b_next BA.out hb); have O3 := Lib.hid (own_below hb OA.out); have PB3 := Lib.hid (p2v_keep hb PB.out); have SV3 := Lib.hid (sv_keep hb SV1.out)
      clear hb p0 p1
      obtain ⟨p0, p1⟩ := PB3.out
      by_cases hneg : ix < 0
      · have EX : Hid (nX = nK) := Lib.hid (by rw [NB.out, NA.out, if_pos hneg, List.append_nil])
        rw [← EX.out] at O3 ⊢
        go_wp2_with fail
        go_roundw
        case rel => exact ⟨k + 1, by omega, by go_num, by rw [← HNX.out]; exact O3.out, B3.out⟩
        case measure => simp [intOf]; omega
      · obtain ⟨j, rfl⟩ : ∃ j : Nat, ix = (j : Int) := ⟨ix.toNat, by omega⟩
        have hj : j < Lk := by omega
        have hjn : ¬ (j : Int) < 0 := by omega
        have hj0 : (0 : Int) ≤ (j : Int) := by omega
        have NA2 : Hid (nA = (if 0 < j then [Sk (j - 1)] else []) ++ (if j + 1 < Lk then [Sk (j + 1)] else [])) := Lib.hid (by
          rw [NA.out, if_neg hneg, show ((j : Int)).toNat = j from by omega]
          congr 1
          · by_cases q : 0 < j
            · rw [if_pos q, if_pos (by omega)]
            · rw [if_neg q, if_neg (by omega)]
          · by_cases q : j + 1 < Lk
            · rw [if_pos q, if_pos (by omega)]
            · rw [if_neg q, if_neg (by omega)])
        clear NA hneg
        obtain ⟨b2, off2, c2, e, hd1, hd2, hcs⟩ := sv_at SVW.out (by omega)
        injection e with e1 _ e3
        subst e1 e3
        have hd3 : c1 ≤ 9223372036854775807 := Nat.le_trans hd2 (by decide)
        have BLT : Hid (b2 < w.heap.size) := Lib.hid (lt_of_cell (hcs j hj))
        have CS := Lib.hid fun t (ht : t < Lk) => keep B3.out (hcs t ht); clear hcs
        by_cases h0 : 0 < j
        · have h0i : (0 : Int) < (j : Int) := by omega
          obtain ⟨P, hP⟩ : ∃ P, P = j - 1 := ⟨_, rfl⟩
          have cP := CS.out P (by omega)
          have u1 : IntKind.i64.wrap ((j : Int) - 1) = (P : Int) := by rw [IntWalk.i64_in _ (by omega)]; omega
          have u2 : ((j - 1 : Nat) : Int) = (P : Int) := by omega
          have u3 : (j : Int) - 1 = (P : Int) := by omega
          have hPL : (P : Int) < (Lk : Int) := by omega
          have U3 : Hid (j - 1 = P) := Lib.hid (by omega)
          have O4 := Lib.hid (own_below (b_alloc (Below.refl w3.heap.size w3) (.cells #[.string (Sk P)] 9)) O3.out)
          have NW := Lib.hid (cell_one_new w3 (.string (Sk P)) 9)
          have SZ : Hid (w.heap.size ≤ (w3.alloc (.cells #[.string (Sk P)] 9)).heap.size) := Lib.hid (b_next B3.out (b_alloc (Below.refl w3.heap.size w3) (.cells #[.string (Sk P)] 9))).size
          have B4 := Lib.hid (b_next B3.out (b_alloc (Below.refl w3.heap.size w3) (.cells #[.string (Sk P)] 9)))
          have P4 := Lib.hid (p2v_keep (b_alloc (Below.refl w3.heap.size w3) (.cells #[.string (Sk P)] 9)) PB3.out)
          have CS4 := Lib.hid fun t (ht : t < Lk) => keep (b_alloc (Below.refl w3.heap.size w3) (.cells #[.string (Sk P)] 9)) (CS.out t ht)
          clear hP
          go_wp2_with (at_builtin; refine wpList_append_own _ rfl (.tmp 35) (.tmp 42) 38 rfl w.heap.size 9 i0 _ 1 16 Try.underlying38 IN.out.1 IN.out.2.1 IN.out.2.2.1 IN.out.2.2.2 rfl (by decide) _ nK.length _ rfl O4.out ⟨w3.heap.size, 0, none⟩ 1 1 [.string (Sk P)] rfl rfl NW.out (by simp [Value.oneCell']) (by unfold maxLen; omega) (by omega) SZ.out ?_; intro v2 w6 ao' ag' an; have ao := Lib.hid ao'; have ag := Lib.hid ag'; clear an ao' ag'; refine Hid.out ?_)
          have B6 := Lib.hid (grow_b B4.out O4.out ag.out (Nat.le_refl _) SZ.out)
          have O6 : Hid (w6.ownsRow w.heap.size 9 1 v2 (nK ++ [Sk P]).length (vs (nK ++ [Sk P]))) := Lib.hid (by
            have q := ao.out
            rw [List.length_append]
            show w6.ownsRow _ _ _ _ _ ((nK ++ [Sk P]).map Value.string)
            rw [List.map_append]; exact q)
          have PB6 : Hid (P2V w6 bn (.string (M k)) (.slice (some ⟨b2, off2, none⟩) Lk c1)) := Lib.hid ⟨(ag.out.cell_far ⟨bn, 0, none⟩ (lt_of_cell P4.out.1) (fun e => VB1.out e.symm)).trans P4.out.1, (ag.out.cell_far ⟨bn, 1, none⟩ (lt_of_cell P4.out.2) (fun e => VB1.out e.symm)).trans P4.out.2⟩
          have CS6 : Hid (∀ t, t < Lk → w6.cell? ⟨b2, off2 + t, none⟩ = some (.string (Sk t))) := Lib.hid fun t ht => by
            have hlw : b2 < w.heap.size := BLT.out
            exact (B6.out.cell (p := ⟨b2, off2 + t, none⟩) hlw).trans ((B3.out.cell (p := ⟨b2, off2 + t, none⟩) hlw).symm.trans (CS.out t ht))
          obtain ⟨Av, cv, rfl⟩ := own_slice0 O6.out
          clear ao ag p0 p1 cP u1 u2 u3
          refine Lib.hid ?_
          obtain ⟨p0, p1⟩ := PB6.out
          by_cases h1 : j + 1 < Lk
          · have h1i : (j : Int) + 1 < (Lk : Int) := by omega
            have cJ := CS6.out (j + 1) h1
            have u4 : IntKind.i64.wrap ((j : Int) + 1) = ((j + 1 : Nat) : Int) := by rw [IntWalk.i64_in _ (by omega)]; omega
            have EX : Hid (nX = nK ++ [Sk P] ++ [Sk (j + 1)]) := Lib.hid (by rw [NB.out, NA2.out, if_pos h0, if_pos h1, U3.out, List.append_assoc])
            obtain ⟨J, hJ⟩ : ∃ J, J = j + 1 := ⟨_, rfl⟩
            rw [← hJ] at cJ EX u4
            have u5 : (j : Int) + 1 = (J : Int) := by omega
            have hJL : (J : Int) < (Lk : Int) := by omega
            generalize hT : nK ++ [Sk P] = T at *
            have LT : T.length ≤ 2 * k + 1 := by rw [← hT, List.length_append]; simp; omega
            clear hJ hT
            have O7 := Lib.hid (own_below (b_alloc (Below.refl w6.heap.size w6) (.cells #[.string (Sk J)] 9)) O6.out)
            have NW2 := Lib.hid (cell_one_new w6 (.string (Sk J)) 9)
            have B7 := Lib.hid (b_next B6.out (b_alloc (Below.refl w6.heap.size w6) (.cells #[.string (Sk J)] 9)))
            have SZ2 : Hid (w.heap.size ≤ (w6.alloc (.cells #[.string (Sk J)] 9)).heap.size) := Lib.hid B7.out.size
            go_wp2_with (at_builtin; refine wpList_append_own _ rfl (.tmp 50) (.tmp 57) 38 rfl w.heap.size 9 i0 _ 1 16 Try.underlying38 IN.out.1 IN.out.2.1 IN.out.2.2.1 IN.out.2.2.2 rfl (by decide) _ T.length _ rfl O7.out ⟨w6.heap.size, 0, none⟩ 1 1 [.string (Sk J)] rfl rfl NW2.out (by simp [Value.oneCell']) (by unfold maxLen; omega) (by omega) SZ2.out ?_; intro v3 w8 coo cgg cn; have co' := Lib.hid coo; have cg := Lib.hid cgg; clear cn coo cgg; refine Hid.out ?_)
            have B8 := Lib.hid (grow_b B7.out O7.out cg.out (Nat.le_refl _) SZ2.out)
            have O8 : Hid (w8.ownsRow w.heap.size 9 1 v3 nX.length (vs nX)) := Lib.hid (by
              have q := co'.out
              rw [EX.out, List.length_append]
              show w8.ownsRow _ _ _ _ _ ((T ++ [Sk J]).map Value.string)
              rw [List.map_append]; exact q)
            clear co' cg
            refine Lib.hid ?_
            go_wp2_with fail
            go_roundw
            case rel => exact ⟨k + 1, by omega, by go_num, by rw [← HNX.out]; exact O8.out, B8.out⟩
            case measure => simp [intOf]; omega
          · have h1i : ¬ (j : Int) + 1 < (Lk : Int) := by omega
            have EX : Hid (nX = nK ++ [Sk P]) := Lib.hid (by rw [NB.out, NA2.out, if_pos h0, if_neg h1, U3.out, List.append_nil])
            rw [← EX.out] at O6 ⊢
            go_wp2_with fail
            go_roundw
            case rel => exact ⟨k + 1, by omega, by go_num, by rw [← HNX.out]; exact O6.out, B6.out⟩
            case measure => simp [intOf]; omega
        · have h0i : ¬ (0 : Int) < (j : Int) := by omega
          by_cases h1 : j + 1 < Lk
          · have h1i : (j : Int) + 1 < (Lk : Int) := by omega
            have cJ := CS.out (j + 1) h1
            have u4 : IntKind.i64.wrap ((j : Int) + 1) = ((j + 1 : Nat) : Int) := by rw [IntWalk.i64_in _ (by omega)]; omega
            have EX : Hid (nX = nK ++ [Sk (j + 1)]) := Lib.hid (by rw [NB.out, NA2.out, if_neg h0, if_pos h1, List.nil_append])
            obtain ⟨J, hJ⟩ : ∃ J, J = j + 1 := ⟨_, rfl⟩
            rw [← hJ] at cJ EX u4
            have u5 : (j : Int) + 1 = (J : Int) := by omega
            have hJL : (J : Int) < (Lk : Int) := by omega
            clear hJ
            have O7 := Lib.hid (own_below (b_alloc (Below.refl w3.heap.size w3) (.cells #[.string (Sk J)] 9)) O3.out)
            have NW2 := Lib.hid (cell_one_new w3 (.string (Sk J)) 9)
            have B7 := Lib.hid (b_next B3.out (b_alloc (Below.refl w3.heap.size w3) (.cells #[.string (Sk J)] 9)))
            have SZ2 : Hid (w.heap.size ≤ (w3.alloc (.cells #[.string (Sk J)] 9)).heap.size) := Lib.hid B7.out.size
            go_wp2_with (at_builtin; refine wpList_append_own _ rfl (.tmp 50) (.tmp 57) 38 rfl w.heap.size 9 i0 _ 1 16 Try.underlying38 IN.out.1 IN.out.2.1 IN.out.2.2.1 IN.out.2.2.2 rfl (by decide) _ nK.length _ rfl O7.out ⟨w3.heap.size, 0, none⟩ 1 1 [.string (Sk J)] rfl rfl NW2.out (by simp [Value.oneCell']) (by unfold maxLen; omega) (by omega) SZ2.out ?_; intro v3 w8 coo cgg cn; have co' := Lib.hid coo; have cg := Lib.hid cgg; clear cn coo cgg; refine Hid.out ?_)
            have B8 := Lib.hid (grow_b B7.out O7.out cg.out (Nat.le_refl _) SZ2.out)
            have O8 : Hid (w8.ownsRow w.heap.size 9 1 v3 nX.length (vs nX)) := Lib.hid (by
              have q := co'.out
              rw [EX.out, List.length_append]
              show w8.ownsRow _ _ _ _ _ ((nK ++ [Sk J]).map Value.string)
              rw [List.map_append]; exact q)
            clear co' cg
            refine Lib.hid ?_
            go_wp2_with fail
            go_roundw
            case rel => exact ⟨k + 1, by omega, by go_num, by rw [← HNX.out]; exact O8.out, B8.out⟩
            case measure => simp [intOf]; omega
          · have h1i : ¬ (j : Int) + 1 < (Lk : Int) := by omega
            have EX : Hid (nX = nK) := Lib.hid (by rw [NB.out, NA2.out, if_neg h0, if_neg h1]; simp)
            rw [← EX.out] at O3 ⊢
            go_wp2_with fail
            go_roundw
            case rel => exact ⟨k + 1, by omega, by go_num, by rw [← HNX.out]; exact O3.out, B3.out⟩
            case measure => simp [intOf]; omega
    · have hkm : k = m := by omega
      subst hkm
      have hl : ¬ (k : Int) < (k : Int) := by omega
      generalize nbs l S s k = nK at *
      have SC := Lib.hid (sortC OW.out (by omega))
      go_wp2_with fail
      (with_reducible refine SC.out.mono ?_); rintro e w3 ⟨rfl, hrow, hsz, hbs⟩
      have W3 := Lib.hid (hbs w.heap.size w (Nat.le_refl _) (Nat.le_refl _) WR.out)
      rcases Nat.eq_zero_or_pos nK.length with h0 | h0
      · have hnK : nK = [] := List.eq_nil_of_length_eq_zero h0
        have LE : Hid (LL = []) := Lib.hid (by rw [LQ.out, hnK]; exact uni_nil)
        have hcon := Any.slices_Compact_string_empty compactLays Ao co w3
        change Calls Try.prog 39 _ _ _ at hcon
        have hnil : Nil0 (.slice Ao 0 co) := by
          have q := OW.out.2
          rw [h0] at q
          rcases q with ⟨e, -⟩ | ⟨g, cap, cur, e, -, -, -, hcm, -⟩
          · exact Or.inl e
          · exact Or.inr ⟨_, cap, e, hcm⟩
        rw [h0]
        have CC := Lib.hid hcon; have NL := Lib.hid hnil
        clear hcon hnil hrow hsz hbs hnK
        go_wp2_with fail
        (with_reducible refine CC.out.mono ?_); rintro e w4 ⟨rfl, rfl⟩
        go_wp2_with fail
        go_ret2
        exact ⟨⟨_, rfl, by rw [LE.out]; exact Or.inl ⟨rfl, NL.out⟩⟩, W3.out⟩
      · obtain ⟨g, cap, e, hg1, hg2, hg3, hg4, -⟩ := row_of OW.out h0
        injection e with e1 _ e3
        subst e1 e3
        have CC := Lib.hid (compactC (hrow h0 g co rfl) h0 (by omega) hg3 hg4 hg1)
        clear hrow hsz hbs
        go_wp2_with fail
        (with_reducible refine CC.out.mono ?_); rintro e w4 ⟨⟨v, rfl, hv⟩, hb⟩
        have W4 := Lib.hid (hb w.heap.size w (Nat.le_refl _) (Nat.le_refl _) W3.out); have HVv := Lib.hid hv
        clear hb hv
        go_wp2_with fail
        go_ret2
        exact ⟨⟨_, rfl, by rw [LQ.out]; exact HVv.out⟩, W4.out⟩
/-- chart.Links. -/
def LnkR (n : Nat) (N : Nat → ByteArray) (X Y : Nat → Int) (m : Nat) (M : Nat → ByteArray) (l : Nat → Nat) (S : Nat → Nat → ByteArray) (s : ByteArray) (e : Ending) (w' : World) : Prop :=
  (∃ E : Int, E ≠ 0 ∧ e = .returned (.tuple #[.slice none 0 0, .int .i64 E]) ∧ E = (if cerr n N X Y m M l S ≠ 0 then cerr n N X Y m M l S else 6) ∧ (cerr n N X Y m M l S = 0 → fix N s n < 0)) ∨
  (cerr n N X Y m M l S = 0 ∧ 0 ≤ fix N s n ∧ ∃ v, e = .returned (.tuple #[v, .int .i64 0]) ∧ SL w' v (links l S s m))
theorem linksC {c : Value} {n : Nat} {N : Nat → ByteArray} {X Y : Nat → Int} {m : Nat} {M : Nat → ByteArray} {l : Nat → Nat} {S : Nat → Nat → ByteArray} {w : World} (hv : CV w c n N X Y m M l S) (s : ByteArray) :
    Calls Try.prog 16 #[c, .string s] w fun e w' => LnkR n N X Y m M l S s e w' ∧ Below w.heap.size w w' := by
  have hC : CcC c (cerr n N X Y m M l S) w := fun w1 hb => checkC (cv_keep hb hv)
  obtain ⟨fx, aw, rfl, h1, h2⟩ := hv.ex
  have hIX := fun w1 (hb : Below w.heap.size w w1) => indexC (aw := aw) (fv_keep hb h1) s
  by_cases hE : cerr n N X Y m M l S = 0
  · rw [hE] at hC
    by_cases hf : fix N s n < 0
    · refine (links_none fx aw s _ w (Lib.hid hC) (Lib.hid hIX) hf).mono ?_
      rintro e w' ⟨rfl, hb⟩
      exact ⟨Or.inl ⟨6, by decide, rfl, by rw [if_neg (fun q => q hE)], fun _ => hf⟩, hb⟩
    · obtain ⟨B, ca, rfl⟩ := av_slice h2
      have ok := cerr_ok hE
      refine (links_ok fx B m ca M l S s _ w ok.2.1 (Lib.hid fun k hk => (aerr_len (ok.2.2.2 k hk)).2.2.2.2.1) (Lib.hid h2) (Lib.hid hC) (Lib.hid hIX) (by omega)).mono ?_
      rintro e w' ⟨hp, hb⟩
      exact ⟨Or.inr ⟨hE, by omega, hp⟩, hb⟩
  · refine (links_bad fx aw s _ w (Lib.hid hC) (by simpa using hE) (by simpa using hE)).mono ?_
    rintro e w' ⟨rfl, hb⟩
    exact ⟨Or.inl ⟨_, hE, rfl, by rw [if_pos hE], fun q => absurd q hE⟩, hb⟩
end Lnk
end Go.Proofs.Ytokioemmjfjhkaa
