/- strconv's fmtEFG at a decimal, format 'f'. -/
import Derived.Test.YtoafljgcmloilaaDoorDecA
import Derived.Maps.AppendAt
namespace Go.Proofs.YtoafljgcmloilaaDoor
open Go.RowKit
namespace Dec
open Kit
theorem info_u8 : (Tryd.prog.info? 5).map (fun i => (i.zero, i.size, i.bytes)) = some (some (.int .u8 0), 1, 1) := by kernel_rfl
theorem own_lt {w : World} {base : Nat} {E : TypeId} {C n : Nat} {v : Value} {xs : List Value} (h : w.ownsRow base E C v n xs) : ∀ b, v.ownBlock = some b → b < w.heap.size := by
  intro b hb
  rcases h.2 with ⟨rfl, -⟩ | ⟨g, cap, cur, rfl, -, hg, -⟩
  · cases hb
  · cases hb; exact (Array.getElem?_eq_some_iff.1 hg).1
theorem own_below {W w1 : World} {base : Nat} {E : TypeId} {C n : Nat} {v : Value} {xs : List Value} (hb : Below W.heap.size W w1) (h : W.ownsRow base E C v n xs) : w1.ownsRow base E C v n xs := by
  refine ⟨h.1, ?_⟩
  rcases h.2 with hh | ⟨g, cap, cur, hv, h1, hg, h2⟩
  · exact Or.inl hh
  · exact Or.inr ⟨g, cap, cur, hv, h1, (hb.block g (Array.getElem?_eq_some_iff.1 hg).1).trans hg, h2⟩
theorem own_ge0 {w : World} {base : Nat} {E : TypeId} {C n : Nat} {v : Value} {xs : List Value} (h : w.ownsRow base E C v n xs) : ∀ k, v.ownBlock = some k → base ≤ k := by
  intro k hk
  rcases h.2 with ⟨rfl, -⟩ | ⟨g, cap, cur, rfl, h1, -⟩
  · simp [Value.ownBlock] at hk
  · simp [Value.ownBlock] at hk; omega
theorem own_slice0 {w : World} {base : Nat} {E : TypeId} {C n : Nat} {v : Value} {xs : List Value} (h : w.ownsRow base E C v n xs) : ∃ A cap, v = .slice A n cap := by
  rcases h.2 with ⟨rfl, rfl⟩ | ⟨g, cap, cur, rfl, -⟩
  · exact ⟨_, _, rfl⟩
  · exact ⟨_, _, rfl⟩
/-- Bytes as values. -/
def bys (L : List Nat) : List Value := L.map fun x => .int .u8 (x : Nat)
theorem bys_one (L : List Nat) (x : Nat) : bys L ++ [.int .u8 ((x : Nat) : Int)] = bys (L ++ [x]) := by unfold bys; rw [List.map_append]; rfl
theorem one_cell (W : World) (a : Int) (t : TypeId) : ∀ j u, [Value.int .u8 a][j]? = some u → (W.alloc (.cells #[.int .u8 a] t)).cell? ((⟨W.heap.size, 0, none⟩ : Addr).add j) = some u := fun j u h => by
  match j, h with
  | 0, h => cases h; simp [Addr.add]
  | j + 1, h => simp at h
theorem one_one (a : Int) : ∀ u ∈ [Value.int .u8 a], u.oneCell' = true := by
  intro u hu
  rw [List.mem_singleton.1 hu]; rfl
/-- A row of bytes of one's own, from block N on, not block b. -/
structure Row8 (w : World) (N b : Nat) (v : Value) (L : List Nat) : Prop where
  own : w.ownsRow N 5 1 v L.length (bys L)
  off : ∀ k, v.ownBlock = some k → k ≠ b
  most : L.length ≤ 100000
  base : N ≤ w.heap.size
  bok : b < w.heap.size
theorem row_step {w w1 : World} {N b : Nat} {v v1 : Value} {L : List Nat} {x : Nat} (h : Row8 w N b v L) (own1 : w1.ownsRow N 5 1 v1 (L.length + 1) (bys L ++ [.int .u8 ((x : Nat) : Int)])) (g : (w.alloc (.cells #[.int .u8 ((x : Nat) : Int)] 5)).grownBy w1 v.ownBlock) (a : v1.ownBlock = v.ownBlock ∨ v1.ownBlock = some (w.alloc (.cells #[.int .u8 ((x : Nat) : Int)] 5)).heap.size) (hL : L.length < 100000) : Row8 w1 N b v1 (L ++ [x]) := by
  have hs := g.size
  simp at hs
  refine ⟨by rw [List.length_append, ← bys_one]; exact own1, fun k hk => ?_, by rw [List.length_append]; exact hL, by have := h.base; omega, by have := h.bok; omega⟩
  rcases a with a | a
  · exact h.off k (a.symm.trans hk)
  · rw [a] at hk; injection hk with hk; simp at hk; have := h.bok; omega
theorem dv_step {w w1 : World} {N b x : Nat} {v : Value} {L : List Nat} (h : Row8 w N b v L) {d : Nat → Nat} {n : Nat} {p : Int} (hv : DV w b d n p) (g : (w.alloc (.cells #[.int .u8 ((x : Nat) : Int)] 5)).grownBy w1 v.ownBlock) : DV w1 b d n p := by
  have e : w1.heap[b]? = w.heap[b]? := (g.block b (by simp; have := h.bok; omega) (fun e => h.off b e.symm rfl)).trans (Below.heap_alloc w _ b h.bok)
  exact ⟨fun k hk => (World.cell?_of_block e).trans (hv.cd k hk), (World.cell?_of_block e).trans hv.cn, (World.cell?_of_block e).trans hv.cp, fun k => (World.frozen?_of_block e).trans (hv.fr k)⟩
theorem b_step {w w1 : World} {N b x : Nat} {v : Value} {L : List Nat} (h : Row8 w N b v L) (g : (w.alloc (.cells #[.int .u8 ((x : Nat) : Int)] 5)).grownBy w1 v.ownBlock) : Below N w w1 :=
  ((b_alloc (Below.refl w.heap.size w) _).mono h.base).grown g (by simp; have := h.base; omega) (own_ge0 h.own)
/-- The first k digits from place o on. -/
def dgl (d : Nat → Nat) (o k : Nat) : List Nat := (List.range k).map fun i => d (o + i)
theorem dgl_next (d : Nat → Nat) (o k : Nat) : dgl d o k ++ [d (o + k)] = dgl d o (k + 1) := by unfold dgl; rw [List.range_succ, List.map_append]; rfl
theorem dgl_len (d : Nat → Nat) (o k : Nat) : (dgl d o k).length = k := by unfold dgl; simp
theorem zer_next (k : Nat) : List.replicate k 48 ++ [48] = List.replicate (k + 1) 48 := by rw [List.replicate_succ']
/-- Nothing. -/
def Tt : Prop := True
/-- The text of 0. -/
def fnil : List Nat := [48] ++ [46] ++ List.replicate 1100 48
/-- The text of a number whose digits end at the point or ahead of it. -/
def lfm_ge (d : Nat → Nat) (n P : Nat) : List Nat := [] ++ dgl d 0 n ++ List.replicate (P - n) 48 ++ [46] ++ List.replicate 1100 48
/-- The text of a number with the point among its digits. -/
def lfm_mid (d : Nat → Nat) (n P : Nat) : List Nat := [] ++ dgl d 0 P ++ [46] ++ dgl d P (n - P) ++ List.replicate (1100 - (n - P)) 48
/-- The text of a number less than 1. -/
def fle (d : Nat → Nat) (n z : Nat) : List Nat := [48] ++ [46] ++ List.replicate z 48 ++ dgl d 0 n ++ List.replicate (1100 - z - n) 48
set_option maxRecDepth 100000 in
set_option maxHeartbeats 16000000 in
theorem fm_le (b N : Nat) (d : Nat → Nat) (n : Nat) (p : Int) (w : World) (z : Nat) (v : Value) (hpz : p = -(z : Int)) (hz1 : 1 ≤ z) (hz : z ≤ 100) (hn1 : 1 ≤ n) (hn : n ≤ 100) (RW : Hid (Row8 w N b v [])) (V0 : Hid (DV w b d n p)) :
    Calls Tryd.prog 53 #[v, .bool false, .slice (some ⟨b, 0, none⟩) 800 800, .int .i64 p, .int .i64 (n : Nat), .int .i64 1100, .int .u8 102, .bool false] w fun e w' => (∃ v', e = .returned v' ∧ Row8 w' N b v' (fle d n z) ∧ DV w' b d n p) ∧ Below N w w' := by
  have HP := Lib.hid hpz
  have hp0 : ¬ (0 : Int) < p := by omega
  have e1 : -p = (z : Int) := by omega
  have e2 : (p + (z : Int)) = 0 := by omega
  clear hpz
  go_enter Tryd.func53, Tryd.ntmps53
  obtain ⟨i0, hi, hz0, hz1, hz2⟩ := info_parts info_u8
  have OA := own_below (b_alloc (Below.refl w.heap.size w) (.cells #[.int .u8 48] 5)) RW.out.own
  have ON := Lib.hid (one_cell w 48 5)
  have hlen1 : (([] : List Nat)).length < 90000 := by simp
  have hbs := RW.out.base
  go_wp2_with (at_builtin; refine wpList_append_own_at _ rfl (.tmp 209) (.tmp 210) 63 rfl N 5 i0 (.int .u8 0) 1 1 Tryd.underlying63 hi hz0 hz1 hz2 rfl (by decide) v (([] : List Nat)).length (bys (([] : List Nat))) rfl OA ⟨w.heap.size, 0, none⟩ 1 1 [.int .u8 48] rfl rfl ON.out (one_one _) (by unfold maxLen; omega) (by omega) (by simp; omega) ?_; intro v1 w1 own1 gr1 nil1 at1; have RWN := Lib.hid (row_step (x := 48) RW.out own1 gr1 at1 (by omega)); have DVN := Lib.hid (fun d n p h => dv_step (x := 48) (d := d) (n := n) (p := p) RW.out h gr1); have BN1 := Lib.hid (b_step (x := 48) RW.out gr1); clear own1 gr1 nil1 at1; refine Hid.out ?_)
  refine Lib.hid ?_
  clear OA ON hlen1 hbs hi hz0 hz1 hz2
  have R1 := RWN; have V1 := Lib.hid (DVN.out _ _ _ V0.out); have B1 := BN1
  clear RWN DVN BN1 RW V0
  obtain ⟨i0, hi, hz0, hz1, hz2⟩ := info_parts info_u8
  have OA := own_below (b_alloc (Below.refl w1.heap.size w1) (.cells #[.int .u8 46] 5)) R1.out.own
  have ON := Lib.hid (one_cell w1 46 5)
  have hlen1 : ([] ++ [48]).length < 90000 := by simp
  have hbs := R1.out.base
  go_wp2_with (at_builtin; refine wpList_append_own_at _ rfl (.tmp 214) (.tmp 215) 63 rfl N 5 i0 (.int .u8 0) 1 1 Tryd.underlying63 hi hz0 hz1 hz2 rfl (by decide) v1 ([] ++ [48]).length (bys ([] ++ [48])) rfl OA ⟨w1.heap.size, 0, none⟩ 1 1 [.int .u8 46] rfl rfl ON.out (one_one _) (by unfold maxLen; omega) (by omega) (by simp; omega) ?_; intro v2 w2 own1 gr1 nil1 at1; have RWN := Lib.hid (row_step (x := 46) R1.out own1 gr1 at1 (by omega)); have DVN := Lib.hid (fun d n p h => dv_step (x := 46) (d := d) (n := n) (p := p) R1.out h gr1); have BN1 := Lib.hid (b_step (x := 46) R1.out gr1); clear own1 gr1 nil1 at1; refine Hid.out ?_)
  refine Lib.hid ?_
  clear OA ON hlen1 hbs hi hz0 hz1 hz2
  have R2 : Hid (Row8 w2 N b v2 ([48] ++ [46])) := RWN; have V2 := Lib.hid (DVN.out _ _ _ V1.out); have B2 := Lib.hid (B1.out.trans BN1.out)
  clear RWN DVN BN1 R1 V1 B1
  go_wp2_with fail
  go_loopw [0, 240] (fun v c wr => ∃ (k : Nat) (A : Option Addr) (l cp : Nat), v = .slice A l cp ∧ k ≤ z ∧ c = .int .i64 (k : Nat) ∧ Row8 wr N b (.slice A l cp) ([48] ++ [46] ++ List.replicate k 48) ∧ DV wr b d n p ∧ Below N w wr) (fun _ c _ => z - (intOf c).toNat)
  case atStart =>
    first
      | exact ⟨0, _, _, _, rfl, Nat.zero_le _, rfl, by simpa [dgl] using R2.out, V2.out, B2.out⟩
      | (obtain ⟨A, cp, ev⟩ := own_slice0 R2.out.own
         subst ev
         exact ⟨0, A, _, cp, rfl, Nat.zero_le _, rfl, by simpa [dgl] using R2.out, V2.out, B2.out⟩)
  case round =>
    clear R2 V2 B2
    obtain ⟨k, A3, l3, c3, rfl, hk, rfl, hrw, hdv, hbl⟩ := hrel
    have RW := Lib.hid hrw; have VW := Lib.hid hdv; have BW := Lib.hid hbl
    clear hrw hdv hbl
    by_cases hlt : k < z
    · have hl : (k : Int) < (z : Int) := by omega

      obtain ⟨i0, hi, hz0, hz1, hz2⟩ := info_parts info_u8
      have OA := own_below (b_alloc (Below.refl wr.heap.size wr) (.cells #[.int .u8 48] 5)) RW.out.own
      have ON := Lib.hid (one_cell wr 48 5)
      have hlen1 : ([48] ++ [46] ++ List.replicate k 48).length < 90000 := by (simp; omega)
      have hbs := RW.out.base
      go_wp2_with (at_builtin; refine wpList_append_own_at _ rfl (.tmp 242) (.tmp 243) 63 rfl N 5 i0 (.int .u8 0) 1 1 Tryd.underlying63 hi hz0 hz1 hz2 rfl (by decide) (.slice A3 l3 c3) ([48] ++ [46] ++ List.replicate k 48).length (bys ([48] ++ [46] ++ List.replicate k 48)) rfl OA ⟨wr.heap.size, 0, none⟩ 1 1 [.int .u8 48] rfl rfl ON.out (one_one _) (by unfold maxLen; omega) (by omega) (by simp; omega) ?_; intro v1 w1 own1 gr1 nil1 at1; have RWN := Lib.hid (row_step (x := 48) RW.out own1 gr1 at1 (by omega)); have DVN := Lib.hid (fun d n p h => dv_step (x := 48) (d := d) (n := n) (p := p) RW.out h gr1); have BN1 := Lib.hid (b_step (x := 48) RW.out gr1); clear own1 gr1 nil1 at1; refine Hid.out ?_)
      refine Lib.hid ?_
      clear OA ON hlen1 hbs hi hz0 hz1 hz2
      have RN : Row8 w1 N b v1 ([48] ++ [46] ++ List.replicate (k + 1) 48) := by have := RWN.out; rw [List.append_assoc, zer_next] at this; exact this
      have V1 := DVN.out _ _ _ VW.out; have B1 := BW.out.trans BN1.out
      clear RWN DVN BN1 RW VW BW
      obtain ⟨A', cp', ev⟩ := own_slice0 RN.own
      subst ev
      have RNH := Lib.hid RN; have V1H := Lib.hid V1; have B1H := Lib.hid B1
      clear RN V1 B1
      go_wp2_with fail
      go_roundw
      case rel =>
        exact ⟨k + 1, A', _, cp', rfl, hlt, by go_num, RNH.out, V1H.out, B1H.out⟩
      case measure => simp [intOf]; omega
    · have hl : ¬ (k : Int) < (z : Int) := by omega
      have hkk : k = z := by omega
      have RE : Hid (Row8 wr N b ((.slice A3 l3 c3)) ([48] ++ [46] ++ List.replicate (z) 48)) := Lib.hid (by rw [← hkk]; exact RW.out)
      have VE := VW; have BE := BW
      clear RW VW BW hkk
      go_wp2_with fail
      go_loopw [0, 247] (fun v c wr => ∃ (k : Nat) (A : Option Addr) (l cp : Nat), v = .slice A l cp ∧ k ≤ n ∧ c = .int .i64 (k : Nat) ∧ Row8 wr N b (.slice A l cp) ([48] ++ [46] ++ List.replicate z 48 ++ dgl d 0 k) ∧ DV wr b d n p ∧ Below N w wr) (fun _ c _ => n - (intOf c).toNat)
      case atStart =>
        first
          | exact ⟨0, _, _, _, rfl, Nat.zero_le _, rfl, by simpa [dgl] using RE.out, VE.out, BE.out⟩
          | (obtain ⟨A, cp, ev⟩ := own_slice0 RE.out.own
             subst ev
             exact ⟨0, A, _, cp, rfl, Nat.zero_le _, rfl, by simpa [dgl] using RE.out, VE.out, BE.out⟩)
      case round =>
        clear RE VE BE
        obtain ⟨k, A2, l2, c2, rfl, hk, rfl, hrw, hdv, hbl⟩ := hrel
        have RW := Lib.hid hrw; have VW := Lib.hid hdv; have BW := Lib.hid hbl
        clear hrw hdv hbl
        by_cases hlt : k < n
        · have hl : (k : Int) < (n : Int) := by omega
          have hk8 : k < 800 := by omega
          have hk8' : ((k : Nat) : Int) < 800 := by omega
          obtain ⟨y, hy⟩ : ∃ y, y = d (0 + k) := ⟨_, rfl⟩
          have x0 := VW.out.cd (0 + k) (by omega)
          rw [← hy] at x0
          have HYN : Hid (dgl d 0 k ++ [y] = dgl d 0 (k + 1)) := Lib.hid (by rw [hy]; exact dgl_next d 0 k)
          clear hy
          rw [Nat.zero_add] at x0
          obtain ⟨i0, hi, hz0, hz1, hz2⟩ := info_parts info_u8
          have OA := own_below (b_alloc (Below.refl wr.heap.size wr) (.cells #[.int .u8 ((y : Nat) : Int)] 5)) RW.out.own
          have ON := Lib.hid (one_cell wr ((y : Nat) : Int) 5)
          have hlen1 : ([48] ++ [46] ++ List.replicate z 48 ++ dgl d 0 k).length < 90000 := by (simp [dgl_len]; omega)
          have hbs := RW.out.base
          go_wp2_with (at_builtin; refine wpList_append_own_at _ rfl (.tmp 250) (.tmp 257) 63 rfl N 5 i0 (.int .u8 0) 1 1 Tryd.underlying63 hi hz0 hz1 hz2 rfl (by decide) (.slice A2 l2 c2) ([48] ++ [46] ++ List.replicate z 48 ++ dgl d 0 k).length (bys ([48] ++ [46] ++ List.replicate z 48 ++ dgl d 0 k)) rfl OA ⟨wr.heap.size, 0, none⟩ 1 1 [.int .u8 ((y : Nat) : Int)] rfl rfl ON.out (one_one _) (by unfold maxLen; omega) (by omega) (by simp; omega) ?_; intro v1 w1 own1 gr1 nil1 at1; have RWN := Lib.hid (row_step (x := y) RW.out own1 gr1 at1 (by omega)); have DVN := Lib.hid (fun d n p h => dv_step (x := y) (d := d) (n := n) (p := p) RW.out h gr1); have BN1 := Lib.hid (b_step (x := y) RW.out gr1); clear own1 gr1 nil1 at1; refine Hid.out ?_)
          refine Lib.hid ?_
          clear OA ON hlen1 hbs hi hz0 hz1 hz2
          have RN : Row8 w1 N b v1 ([48] ++ [46] ++ List.replicate z 48 ++ dgl d 0 (k + 1)) := by have := RWN.out; rw [List.append_assoc, HYN.out] at this; exact this
          have V1 := DVN.out _ _ _ VW.out; have B1 := BW.out.trans BN1.out
          clear RWN DVN BN1 RW VW BW
          obtain ⟨A', cp', ev⟩ := own_slice0 RN.own
          subst ev
          have RNH := Lib.hid RN; have V1H := Lib.hid V1; have B1H := Lib.hid B1
          clear RN V1 B1
          go_wp2_with fail
          go_roundw
          case rel =>
            exact ⟨k + 1, A', _, cp', rfl, hlt, by go_num, RNH.out, V1H.out, B1H.out⟩
          case measure => simp [intOf]; omega
        · have hl : ¬ (k : Int) < (n : Int) := by omega
          have hkk : k = n := by omega
          have RE : Hid (Row8 wr N b ((.slice A2 l2 c2)) ([48] ++ [46] ++ List.replicate z 48 ++ dgl d 0 (n))) := Lib.hid (by rw [← hkk]; exact RW.out)
          have VE := VW; have BE := BW
          clear RW VW BW hkk
          go_wp2_with fail
          go_loopw [0, 261] (fun v c wr => ∃ (k : Nat) (A : Option Addr) (l cp : Nat), v = .slice A l cp ∧ k ≤ (1100 - z - n) ∧ c = .int .i64 (k : Nat) ∧ Row8 wr N b (.slice A l cp) ([48] ++ [46] ++ List.replicate z 48 ++ dgl d 0 n ++ List.replicate k 48) ∧ DV wr b d n p ∧ Below N w wr) (fun _ c _ => (1100 - z - n) - (intOf c).toNat)
          case atStart =>
            first
              | exact ⟨0, _, _, _, rfl, Nat.zero_le _, rfl, by simpa [dgl] using RE.out, VE.out, BE.out⟩
              | (obtain ⟨A, cp, ev⟩ := own_slice0 RE.out.own
                 subst ev
                 exact ⟨0, A, _, cp, rfl, Nat.zero_le _, rfl, by simpa [dgl] using RE.out, VE.out, BE.out⟩)
          case round =>
            clear RE VE BE
            obtain ⟨k, A1, l1, c1, rfl, hk, rfl, hrw, hdv, hbl⟩ := hrel
            have RW := Lib.hid hrw; have VW := Lib.hid hdv; have BW := Lib.hid hbl
            clear hrw hdv hbl
            by_cases hlt : k < (1100 - z - n)
            · have hl : (k : Int) < (1100 - (z : Int) - (n : Int)) := by omega

              obtain ⟨i0, hi, hz0, hz1, hz2⟩ := info_parts info_u8
              have OA := own_below (b_alloc (Below.refl wr.heap.size wr) (.cells #[.int .u8 48] 5)) RW.out.own
              have ON := Lib.hid (one_cell wr 48 5)
              have hlen1 : ([48] ++ [46] ++ List.replicate z 48 ++ dgl d 0 n ++ List.replicate k 48).length < 90000 := by (simp [dgl_len]; omega)
              have hbs := RW.out.base
              go_wp2_with (at_builtin; refine wpList_append_own_at _ rfl (.tmp 263) (.tmp 264) 63 rfl N 5 i0 (.int .u8 0) 1 1 Tryd.underlying63 hi hz0 hz1 hz2 rfl (by decide) (.slice A1 l1 c1) ([48] ++ [46] ++ List.replicate z 48 ++ dgl d 0 n ++ List.replicate k 48).length (bys ([48] ++ [46] ++ List.replicate z 48 ++ dgl d 0 n ++ List.replicate k 48)) rfl OA ⟨wr.heap.size, 0, none⟩ 1 1 [.int .u8 48] rfl rfl ON.out (one_one _) (by unfold maxLen; omega) (by omega) (by simp; omega) ?_; intro v1 w1 own1 gr1 nil1 at1; have RWN := Lib.hid (row_step (x := 48) RW.out own1 gr1 at1 (by omega)); have DVN := Lib.hid (fun d n p h => dv_step (x := 48) (d := d) (n := n) (p := p) RW.out h gr1); have BN1 := Lib.hid (b_step (x := 48) RW.out gr1); clear own1 gr1 nil1 at1; refine Hid.out ?_)
              refine Lib.hid ?_
              clear OA ON hlen1 hbs hi hz0 hz1 hz2
              have RN : Row8 w1 N b v1 ([48] ++ [46] ++ List.replicate z 48 ++ dgl d 0 n ++ List.replicate (k + 1) 48) := by have := RWN.out; rw [List.append_assoc, zer_next] at this; exact this
              have V1 := DVN.out _ _ _ VW.out; have B1 := BW.out.trans BN1.out
              clear RWN DVN BN1 RW VW BW
              obtain ⟨A', cp', ev⟩ := own_slice0 RN.own
              subst ev
              have RNH := Lib.hid RN; have V1H := Lib.hid V1; have B1H := Lib.hid B1
              clear RN V1 B1
              go_wp2_with fail
              go_roundw
              case rel =>
                exact ⟨k + 1, A', _, cp', rfl, hlt, by go_num, RNH.out, V1H.out, B1H.out⟩
              case measure => simp [intOf]; omega
            · have hl : ¬ (k : Int) < (1100 - (z : Int) - (n : Int)) := by omega
              have hkk : k = (1100 - z - n) := by omega
              have RE : Hid (Row8 wr N b ((.slice A1 l1 c1)) ([48] ++ [46] ++ List.replicate z 48 ++ dgl d 0 n ++ List.replicate ((1100 - z - n)) 48)) := Lib.hid (by rw [← hkk]; exact RW.out)
              have VE := VW; have BE := BW
              clear RW VW BW hkk
              go_wp2_with fail
              go_ret
              exact ⟨⟨(.slice A1 l1 c1), rfl, RE.out, VE.out⟩, BE.out⟩
set_option maxRecDepth 100000 in
set_option maxHeartbeats 16000000 in
theorem fm_zero (b N : Nat) (d : Nat → Nat) (n : Nat) (p : Int) (w : World) (v : Value) (hp : p = 0) (hn1 : 1 ≤ n) (hn : n ≤ 100) (RW : Hid (Row8 w N b v [])) (V0 : Hid (DV w b d n p)) :
    Calls Tryd.prog 53 #[v, .bool false, .slice (some ⟨b, 0, none⟩) 800 800, .int .i64 p, .int .i64 (n : Nat), .int .i64 1100, .int .u8 102, .bool false] w fun e w' => (∃ v', e = .returned v' ∧ Row8 w' N b v' (fle d n 0) ∧ DV w' b d n p) ∧ Below N w w' := by
  have HP := Lib.hid hp
  have hp0 : ¬ (0 : Int) < p := by omega
  subst hp
  go_enter Tryd.func53, Tryd.ntmps53
  obtain ⟨i0, hi, hz0, hz1, hz2⟩ := info_parts info_u8
  have OA := own_below (b_alloc (Below.refl w.heap.size w) (.cells #[.int .u8 48] 5)) RW.out.own
  have ON := Lib.hid (one_cell w 48 5)
  have hlen1 : (([] : List Nat)).length < 90000 := by simp
  have hbs := RW.out.base
  go_wp2_with (at_builtin; refine wpList_append_own_at _ rfl (.tmp 209) (.tmp 210) 63 rfl N 5 i0 (.int .u8 0) 1 1 Tryd.underlying63 hi hz0 hz1 hz2 rfl (by decide) v (([] : List Nat)).length (bys (([] : List Nat))) rfl OA ⟨w.heap.size, 0, none⟩ 1 1 [.int .u8 48] rfl rfl ON.out (one_one _) (by unfold maxLen; omega) (by omega) (by simp; omega) ?_; intro v1 w1 own1 gr1 nil1 at1; have RWN := Lib.hid (row_step (x := 48) RW.out own1 gr1 at1 (by omega)); have DVN := Lib.hid (fun d n p h => dv_step (x := 48) (d := d) (n := n) (p := p) RW.out h gr1); have BN1 := Lib.hid (b_step (x := 48) RW.out gr1); clear own1 gr1 nil1 at1; refine Hid.out ?_)
  refine Lib.hid ?_
  clear OA ON hlen1 hbs hi hz0 hz1 hz2
  have R1 := RWN; have V1 := Lib.hid (DVN.out _ _ _ V0.out); have B1 := BN1
  clear RWN DVN BN1 RW V0
  obtain ⟨i0, hi, hz0, hz1, hz2⟩ := info_parts info_u8
  have OA := own_below (b_alloc (Below.refl w1.heap.size w1) (.cells #[.int .u8 46] 5)) R1.out.own
  have ON := Lib.hid (one_cell w1 46 5)
  have hlen1 : ([] ++ [48]).length < 90000 := by simp
  have hbs := R1.out.base
  go_wp2_with (at_builtin; refine wpList_append_own_at _ rfl (.tmp 214) (.tmp 215) 63 rfl N 5 i0 (.int .u8 0) 1 1 Tryd.underlying63 hi hz0 hz1 hz2 rfl (by decide) v1 ([] ++ [48]).length (bys ([] ++ [48])) rfl OA ⟨w1.heap.size, 0, none⟩ 1 1 [.int .u8 46] rfl rfl ON.out (one_one _) (by unfold maxLen; omega) (by omega) (by simp; omega) ?_; intro v2 w2 own1 gr1 nil1 at1; have RWN := Lib.hid (row_step (x := 46) R1.out own1 gr1 at1 (by omega)); have DVN := Lib.hid (fun d n p h => dv_step (x := 46) (d := d) (n := n) (p := p) R1.out h gr1); have BN1 := Lib.hid (b_step (x := 46) R1.out gr1); clear own1 gr1 nil1 at1; refine Hid.out ?_)
  refine Lib.hid ?_
  clear OA ON hlen1 hbs hi hz0 hz1 hz2
  have R2 : Hid (Row8 w2 N b v2 ([48] ++ [46])) := RWN; have V2 := Lib.hid (DVN.out _ _ _ V1.out); have B2 := Lib.hid (B1.out.trans BN1.out)
  clear RWN DVN BN1 R1 V1 B1
  go_wp2_with fail
  go_loopw [0, 240] (fun v c wr => ∃ (A : Option Addr) (l cp : Nat), v = .slice A l cp ∧ c = .int .i64 0 ∧ Row8 wr N b (.slice A l cp) ([48] ++ [46]) ∧ DV wr b d n 0 ∧ Below N w wr) (fun _ _ _ => 0)
  case atStart =>
    first
      | exact ⟨_, _, _, rfl, rfl, R2.out, V2.out, B2.out⟩
      | (obtain ⟨A, cp, ev⟩ := own_slice0 R2.out.own
         subst ev
         exact ⟨A, _, cp, rfl, rfl, R2.out, V2.out, B2.out⟩)
  case round =>
    clear R2 V2 B2
    obtain ⟨A6, l6, c6, rfl, rfl, hrw, hdv, hbl⟩ := hrel
    have RE := Lib.hid hrw; have VE := Lib.hid hdv; have BE := Lib.hid hbl
    clear hrw hdv hbl
    go_wp2_with fail
    go_loopw [0, 247] (fun v c wr => ∃ (k : Nat) (A : Option Addr) (l cp : Nat), v = .slice A l cp ∧ k ≤ n ∧ c = .int .i64 (k : Nat) ∧ Row8 wr N b (.slice A l cp) ([48] ++ [46] ++ dgl d 0 k) ∧ DV wr b d n 0 ∧ Below N w wr) (fun _ c _ => n - (intOf c).toNat)
    case atStart =>
      first
        | exact ⟨0, _, _, _, rfl, Nat.zero_le _, rfl, by simpa [dgl] using RE.out, VE.out, BE.out⟩
        | (obtain ⟨A, cp, ev⟩ := own_slice0 RE.out.own
           subst ev
           exact ⟨0, A, _, cp, rfl, Nat.zero_le _, rfl, by simpa [dgl] using RE.out, VE.out, BE.out⟩)
    case round =>
      clear RE VE BE
      obtain ⟨k, A5, l5, c5, rfl, hk, rfl, hrw, hdv, hbl⟩ := hrel
      have RW := Lib.hid hrw; have VW := Lib.hid hdv; have BW := Lib.hid hbl
      clear hrw hdv hbl
      by_cases hlt : k < n
      · have hl : (k : Int) < (n : Int) := by omega
        have hk8 : k < 800 := by omega
        have hk8' : ((k : Nat) : Int) < 800 := by omega
        obtain ⟨y, hy⟩ : ∃ y, y = d (0 + k) := ⟨_, rfl⟩
        have x0 := VW.out.cd (0 + k) (by omega)
        rw [← hy] at x0
        have HYN : Hid (dgl d 0 k ++ [y] = dgl d 0 (k + 1)) := Lib.hid (by rw [hy]; exact dgl_next d 0 k)
        clear hy
        rw [Nat.zero_add] at x0
        obtain ⟨i0, hi, hz0, hz1, hz2⟩ := info_parts info_u8
        have OA := own_below (b_alloc (Below.refl wr.heap.size wr) (.cells #[.int .u8 ((y : Nat) : Int)] 5)) RW.out.own
        have ON := Lib.hid (one_cell wr ((y : Nat) : Int) 5)
        have hlen1 : ([48] ++ [46] ++ dgl d 0 k).length < 90000 := by (simp [dgl_len]; omega)
        have hbs := RW.out.base
        go_wp2_with (at_builtin; refine wpList_append_own_at _ rfl (.tmp 250) (.tmp 257) 63 rfl N 5 i0 (.int .u8 0) 1 1 Tryd.underlying63 hi hz0 hz1 hz2 rfl (by decide) (.slice A5 l5 c5) ([48] ++ [46] ++ dgl d 0 k).length (bys ([48] ++ [46] ++ dgl d 0 k)) rfl OA ⟨wr.heap.size, 0, none⟩ 1 1 [.int .u8 ((y : Nat) : Int)] rfl rfl ON.out (one_one _) (by unfold maxLen; omega) (by omega) (by simp; omega) ?_; intro v1 w1 own1 gr1 nil1 at1; have RWN := Lib.hid (row_step (x := y) RW.out own1 gr1 at1 (by omega)); have DVN := Lib.hid (fun d n p h => dv_step (x := y) (d := d) (n := n) (p := p) RW.out h gr1); have BN1 := Lib.hid (b_step (x := y) RW.out gr1); clear own1 gr1 nil1 at1; refine Hid.out ?_)
        refine Lib.hid ?_
        clear OA ON hlen1 hbs hi hz0 hz1 hz2
        have RN : Row8 w1 N b v1 ([48] ++ [46] ++ dgl d 0 (k + 1)) := by have := RWN.out; rw [List.append_assoc, HYN.out] at this; exact this
        have V1 := DVN.out _ _ _ VW.out; have B1 := BW.out.trans BN1.out
        clear RWN DVN BN1 RW VW BW
        obtain ⟨A', cp', ev⟩ := own_slice0 RN.own
        subst ev
        have RNH := Lib.hid RN; have V1H := Lib.hid V1; have B1H := Lib.hid B1
        clear RN V1 B1
        go_wp2_with fail
        go_roundw
        case rel =>
          exact ⟨k + 1, A', _, cp', rfl, hlt, by go_num, RNH.out, V1H.out, B1H.out⟩
        case measure => simp [intOf]; omega
      · have hl : ¬ (k : Int) < (n : Int) := by omega
        have hkk : k = n := by omega
        have RE : Hid (Row8 wr N b ((.slice A5 l5 c5)) ([48] ++ [46] ++ dgl d 0 (n))) := Lib.hid (by rw [← hkk]; exact RW.out)
        have VE := VW; have BE := BW
        clear RW VW BW hkk
        go_wp2_with fail
        go_loopw [0, 261] (fun v c wr => ∃ (k : Nat) (A : Option Addr) (l cp : Nat), v = .slice A l cp ∧ k ≤ (1100 - n) ∧ c = .int .i64 (k : Nat) ∧ Row8 wr N b (.slice A l cp) ([48] ++ [46] ++ dgl d 0 n ++ List.replicate k 48) ∧ DV wr b d n 0 ∧ Below N w wr) (fun _ c _ => (1100 - n) - (intOf c).toNat)
        case atStart =>
          first
            | exact ⟨0, _, _, _, rfl, Nat.zero_le _, rfl, by simpa [dgl] using RE.out, VE.out, BE.out⟩
            | (obtain ⟨A, cp, ev⟩ := own_slice0 RE.out.own
               subst ev
               exact ⟨0, A, _, cp, rfl, Nat.zero_le _, rfl, by simpa [dgl] using RE.out, VE.out, BE.out⟩)
        case round =>
          clear RE VE BE
          obtain ⟨k, A4, l4, c4, rfl, hk, rfl, hrw, hdv, hbl⟩ := hrel
          have RW := Lib.hid hrw; have VW := Lib.hid hdv; have BW := Lib.hid hbl
          clear hrw hdv hbl
          by_cases hlt : k < (1100 - n)
          · have hl : (k : Int) < (1100 - (n : Int)) := by omega

            obtain ⟨i0, hi, hz0, hz1, hz2⟩ := info_parts info_u8
            have OA := own_below (b_alloc (Below.refl wr.heap.size wr) (.cells #[.int .u8 48] 5)) RW.out.own
            have ON := Lib.hid (one_cell wr 48 5)
            have hlen1 : ([48] ++ [46] ++ dgl d 0 n ++ List.replicate k 48).length < 90000 := by (simp [dgl_len]; omega)
            have hbs := RW.out.base
            go_wp2_with (at_builtin; refine wpList_append_own_at _ rfl (.tmp 263) (.tmp 264) 63 rfl N 5 i0 (.int .u8 0) 1 1 Tryd.underlying63 hi hz0 hz1 hz2 rfl (by decide) (.slice A4 l4 c4) ([48] ++ [46] ++ dgl d 0 n ++ List.replicate k 48).length (bys ([48] ++ [46] ++ dgl d 0 n ++ List.replicate k 48)) rfl OA ⟨wr.heap.size, 0, none⟩ 1 1 [.int .u8 48] rfl rfl ON.out (one_one _) (by unfold maxLen; omega) (by omega) (by simp; omega) ?_; intro v1 w1 own1 gr1 nil1 at1; have RWN := Lib.hid (row_step (x := 48) RW.out own1 gr1 at1 (by omega)); have DVN := Lib.hid (fun d n p h => dv_step (x := 48) (d := d) (n := n) (p := p) RW.out h gr1); have BN1 := Lib.hid (b_step (x := 48) RW.out gr1); clear own1 gr1 nil1 at1; refine Hid.out ?_)
            refine Lib.hid ?_
            clear OA ON hlen1 hbs hi hz0 hz1 hz2
            have RN : Row8 w1 N b v1 ([48] ++ [46] ++ dgl d 0 n ++ List.replicate (k + 1) 48) := by have := RWN.out; rw [List.append_assoc, zer_next] at this; exact this
            have V1 := DVN.out _ _ _ VW.out; have B1 := BW.out.trans BN1.out
            clear RWN DVN BN1 RW VW BW
            obtain ⟨A', cp', ev⟩ := own_slice0 RN.own
            subst ev
            have RNH := Lib.hid RN; have V1H := Lib.hid V1; have B1H := Lib.hid B1
            clear RN V1 B1
            go_wp2_with fail
            go_roundw
            case rel =>
              exact ⟨k + 1, A', _, cp', rfl, hlt, by go_num, RNH.out, V1H.out, B1H.out⟩
            case measure => simp [intOf]; omega
          · have hl : ¬ (k : Int) < (1100 - (n : Int)) := by omega
            have hkk : k = (1100 - n) := by omega
            have RE : Hid (Row8 wr N b ((.slice A4 l4 c4)) ([48] ++ [46] ++ dgl d 0 n ++ List.replicate ((1100 - n)) 48)) := Lib.hid (by rw [← hkk]; exact RW.out)
            have VE := VW; have BE := BW
            clear RW VW BW hkk
            go_wp2_with fail
            go_ret
            exact ⟨⟨(.slice A4 l4 c4), rfl, RE.out, VE.out⟩, BE.out⟩
set_option maxRecDepth 100000 in
set_option maxHeartbeats 16000000 in
theorem fm_nil (b N : Nat) (n : Nat) (p : Int) (w : World) (v : Value) (hp : p = 0) (hn : n = 0) (RW : Hid (Row8 w N b v [])) :
    Calls Tryd.prog 53 #[v, .bool false, .slice none 0 0, .int .i64 p, .int .i64 (n : Nat), .int .i64 1100, .int .u8 102, .bool false] w fun e w' => (∃ v', e = .returned v' ∧ Row8 w' N b v' (fnil)) ∧ Below N w w' := by
  subst hp hn
  have V0 : Hid Tt := Lib.hid True.intro
  go_enter Tryd.func53, Tryd.ntmps53
  obtain ⟨i0, hi, hz0, hz1, hz2⟩ := info_parts info_u8
  have OA := own_below (b_alloc (Below.refl w.heap.size w) (.cells #[.int .u8 48] 5)) RW.out.own
  have ON := Lib.hid (one_cell w 48 5)
  have hlen1 : (([] : List Nat)).length < 90000 := by simp
  have hbs := RW.out.base
  go_wp2_with (at_builtin; refine wpList_append_own_at _ rfl (.tmp 209) (.tmp 210) 63 rfl N 5 i0 (.int .u8 0) 1 1 Tryd.underlying63 hi hz0 hz1 hz2 rfl (by decide) v (([] : List Nat)).length (bys (([] : List Nat))) rfl OA ⟨w.heap.size, 0, none⟩ 1 1 [.int .u8 48] rfl rfl ON.out (one_one _) (by unfold maxLen; omega) (by omega) (by simp; omega) ?_; intro v1 w1 own1 gr1 nil1 at1; have RWN := Lib.hid (row_step (x := 48) RW.out own1 gr1 at1 (by omega)); have DVN := Lib.hid (fun d n p h => dv_step (x := 48) (d := d) (n := n) (p := p) RW.out h gr1); have BN1 := Lib.hid (b_step (x := 48) RW.out gr1); clear own1 gr1 nil1 at1; refine Hid.out ?_)
  refine Lib.hid ?_
  clear OA ON hlen1 hbs hi hz0 hz1 hz2
  have R1 := RWN; have V1 := Lib.hid (V0.out); have B1 := BN1
  clear RWN DVN BN1 RW V0
  obtain ⟨i0, hi, hz0, hz1, hz2⟩ := info_parts info_u8
  have OA := own_below (b_alloc (Below.refl w1.heap.size w1) (.cells #[.int .u8 46] 5)) R1.out.own
  have ON := Lib.hid (one_cell w1 46 5)
  have hlen1 : ([] ++ [48]).length < 90000 := by simp
  have hbs := R1.out.base
  go_wp2_with (at_builtin; refine wpList_append_own_at _ rfl (.tmp 214) (.tmp 215) 63 rfl N 5 i0 (.int .u8 0) 1 1 Tryd.underlying63 hi hz0 hz1 hz2 rfl (by decide) v1 ([] ++ [48]).length (bys ([] ++ [48])) rfl OA ⟨w1.heap.size, 0, none⟩ 1 1 [.int .u8 46] rfl rfl ON.out (one_one _) (by unfold maxLen; omega) (by omega) (by simp; omega) ?_; intro v2 w2 own1 gr1 nil1 at1; have RWN := Lib.hid (row_step (x := 46) R1.out own1 gr1 at1 (by omega)); have DVN := Lib.hid (fun d n p h => dv_step (x := 46) (d := d) (n := n) (p := p) R1.out h gr1); have BN1 := Lib.hid (b_step (x := 46) R1.out gr1); clear own1 gr1 nil1 at1; refine Hid.out ?_)
  refine Lib.hid ?_
  clear OA ON hlen1 hbs hi hz0 hz1 hz2
  have R2 : Hid (Row8 w2 N b v2 ([48] ++ [46])) := RWN; have V2 := Lib.hid (V1.out); have B2 := Lib.hid (B1.out.trans BN1.out)
  clear RWN DVN BN1 R1 V1 B1
  go_wp2_with fail
  go_loopw [0, 240] (fun v c wr => ∃ (A : Option Addr) (l cp : Nat), v = .slice A l cp ∧ c = .int .i64 0 ∧ Row8 wr N b (.slice A l cp) ([48] ++ [46]) ∧ Tt ∧ Below N w wr) (fun _ _ _ => 0)
  case atStart =>
    first
      | exact ⟨_, _, _, rfl, rfl, R2.out, V2.out, B2.out⟩
      | (obtain ⟨A, cp, ev⟩ := own_slice0 R2.out.own
         subst ev
         exact ⟨A, _, cp, rfl, rfl, R2.out, V2.out, B2.out⟩)
  case round =>
    clear R2 V2 B2
    obtain ⟨A9, l9, c9, rfl, rfl, hrw, hdv, hbl⟩ := hrel
    have RE := Lib.hid hrw; have VE := Lib.hid hdv; have BE := Lib.hid hbl
    clear hrw hdv hbl
    go_wp2_with fail
    go_loopw [0, 247] (fun v c wr => ∃ (A : Option Addr) (l cp : Nat), v = .slice A l cp ∧ c = .int .i64 0 ∧ Row8 wr N b (.slice A l cp) ([48] ++ [46]) ∧ Tt ∧ Below N w wr) (fun _ _ _ => 0)
    case atStart =>
      first
        | exact ⟨_, _, _, rfl, rfl, RE.out, VE.out, BE.out⟩
        | (obtain ⟨A, cp, ev⟩ := own_slice0 RE.out.own
           subst ev
           exact ⟨A, _, cp, rfl, rfl, RE.out, VE.out, BE.out⟩)
    case round =>
      clear RE VE BE
      obtain ⟨A8, l8, c8, rfl, rfl, hrw, hdv, hbl⟩ := hrel
      have RE := Lib.hid hrw; have VE := Lib.hid hdv; have BE := Lib.hid hbl
      clear hrw hdv hbl
      go_wp2_with fail
      go_loopw [0, 261] (fun v c wr => ∃ (k : Nat) (A : Option Addr) (l cp : Nat), v = .slice A l cp ∧ k ≤ 1100 ∧ c = .int .i64 (k : Nat) ∧ Row8 wr N b (.slice A l cp) ([48] ++ [46] ++ List.replicate k 48) ∧ Tt ∧ Below N w wr) (fun _ c _ => 1100 - (intOf c).toNat)
      case atStart =>
        first
          | exact ⟨0, _, _, _, rfl, Nat.zero_le _, rfl, by simpa [dgl] using RE.out, VE.out, BE.out⟩
          | (obtain ⟨A, cp, ev⟩ := own_slice0 RE.out.own
             subst ev
             exact ⟨0, A, _, cp, rfl, Nat.zero_le _, rfl, by simpa [dgl] using RE.out, VE.out, BE.out⟩)
      case round =>
        clear RE VE BE
        obtain ⟨k, A7, l7, c7, rfl, hk, rfl, hrw, hdv, hbl⟩ := hrel
        have RW := Lib.hid hrw; have VW := Lib.hid hdv; have BW := Lib.hid hbl
        clear hrw hdv hbl
        by_cases hlt : k < 1100
        · have hl : (k : Int) < 1100 := by omega

          obtain ⟨i0, hi, hz0, hz1, hz2⟩ := info_parts info_u8
          have OA := own_below (b_alloc (Below.refl wr.heap.size wr) (.cells #[.int .u8 48] 5)) RW.out.own
          have ON := Lib.hid (one_cell wr 48 5)
          have hlen1 : ([48] ++ [46] ++ List.replicate k 48).length < 90000 := by (simp; omega)
          have hbs := RW.out.base
          go_wp2_with (at_builtin; refine wpList_append_own_at _ rfl (.tmp 263) (.tmp 264) 63 rfl N 5 i0 (.int .u8 0) 1 1 Tryd.underlying63 hi hz0 hz1 hz2 rfl (by decide) (.slice A7 l7 c7) ([48] ++ [46] ++ List.replicate k 48).length (bys ([48] ++ [46] ++ List.replicate k 48)) rfl OA ⟨wr.heap.size, 0, none⟩ 1 1 [.int .u8 48] rfl rfl ON.out (one_one _) (by unfold maxLen; omega) (by omega) (by simp; omega) ?_; intro v1 w1 own1 gr1 nil1 at1; have RWN := Lib.hid (row_step (x := 48) RW.out own1 gr1 at1 (by omega)); have DVN := Lib.hid (fun d n p h => dv_step (x := 48) (d := d) (n := n) (p := p) RW.out h gr1); have BN1 := Lib.hid (b_step (x := 48) RW.out gr1); clear own1 gr1 nil1 at1; refine Hid.out ?_)
          refine Lib.hid ?_
          clear OA ON hlen1 hbs hi hz0 hz1 hz2
          have RN : Row8 w1 N b v1 ([48] ++ [46] ++ List.replicate (k + 1) 48) := by have := RWN.out; rw [List.append_assoc, zer_next] at this; exact this
          have V1 := VW.out; have B1 := BW.out.trans BN1.out
          clear RWN DVN BN1 RW VW BW
          obtain ⟨A', cp', ev⟩ := own_slice0 RN.own
          subst ev
          have RNH := Lib.hid RN; have V1H := Lib.hid V1; have B1H := Lib.hid B1
          clear RN V1 B1
          go_wp2_with fail
          go_roundw
          case rel =>
            exact ⟨k + 1, A', _, cp', rfl, hlt, by go_num, RNH.out, V1H.out, B1H.out⟩
          case measure => simp [intOf]; omega
        · have hl : ¬ (k : Int) < 1100 := by omega
          have hkk : k = 1100 := by omega
          have RE : Hid (Row8 wr N b ((.slice A7 l7 c7)) ([48] ++ [46] ++ List.replicate (1100) 48)) := Lib.hid (by rw [← hkk]; exact RW.out)
          have VE := VW; have BE := BW
          clear RW VW BW hkk
          go_wp2_with fail
          go_ret
          exact ⟨⟨(.slice A7 l7 c7), rfl, RE.out⟩, BE.out⟩
set_option maxRecDepth 100000 in
set_option maxHeartbeats 16000000 in
theorem fm_ge (b N : Nat) (d : Nat → Nat) (n : Nat) (p : Int) (w : World) (P : Nat) (v : Value) (hpp : p = (P : Int)) (hP1 : 1 ≤ P) (hP : P ≤ 100) (hn1 : 1 ≤ n) (hn : n ≤ 100) (hPn : n ≤ P) (RW : Hid (Row8 w N b v [])) (V0 : Hid (DV w b d n p)) :
    Calls Tryd.prog 53 #[v, .bool false, .slice (some ⟨b, 0, none⟩) 800 800, .int .i64 p, .int .i64 (n : Nat), .int .i64 1100, .int .u8 102, .bool false] w fun e w' => (∃ v', e = .returned v' ∧ Row8 w' N b v' (lfm_ge d n P) ∧ DV w' b d n p) ∧ Below N w w' := by
  subst hpp
  have hp0 : (0 : Int) < (P : Int) := by omega
  have hp0n : 0 < P := by omega
  have hpd : decide (0 < P) = true := decide_eq_true hp0n
  have hPn' : (n : Int) ≤ (P : Int) := by omega
  have hn9 : (n : Int) ≤ 100 := by omega
  have hP9 : (P : Int) ≤ 100 := by omega
  have B0 := Lib.hid (Below.refl N w)
  go_enter Tryd.func53, Tryd.ntmps53
  go_wp2_with fail
  go_loopw [0, 191] (fun v c wr => ∃ (k : Nat) (A : Option Addr) (l cp : Nat), v = .slice A l cp ∧ k ≤ n ∧ c = .int .i64 (k : Nat) ∧ Row8 wr N b (.slice A l cp) ([] ++ dgl d 0 k) ∧ DV wr b d n (P : Int) ∧ Below N w wr) (fun _ c _ => n - (intOf c).toNat)
  case atStart =>
    first
      | exact ⟨0, _, _, _, rfl, Nat.zero_le _, rfl, by simpa [dgl] using RW.out, V0.out, B0.out⟩
      | (obtain ⟨A, cp, ev⟩ := own_slice0 RW.out.own
         subst ev
         exact ⟨0, A, _, cp, rfl, Nat.zero_le _, rfl, by simpa [dgl] using RW.out, V0.out, B0.out⟩)
  case round =>
    clear RW V0 B0
    obtain ⟨k, A14, l14, c14, rfl, hk, rfl, hrw, hdv, hbl⟩ := hrel
    have RW := Lib.hid hrw; have VW := Lib.hid hdv; have BW := Lib.hid hbl
    clear hrw hdv hbl
    by_cases hlt : k < n
    · have hl : (k : Int) < (n : Int) := by omega
      have hk8 : k < 800 := by omega
      have hk8' : ((k : Nat) : Int) < 800 := by omega
      obtain ⟨y, hy⟩ : ∃ y, y = d (0 + k) := ⟨_, rfl⟩
      have x0 := VW.out.cd (0 + k) (by omega)
      rw [← hy] at x0
      have HYN : Hid (dgl d 0 k ++ [y] = dgl d 0 (k + 1)) := Lib.hid (by rw [hy]; exact dgl_next d 0 k)
      clear hy
      rw [Nat.zero_add] at x0
      obtain ⟨i0, hi, hz0, hz1, hz2⟩ := info_parts info_u8
      have OA := own_below (b_alloc (Below.refl wr.heap.size wr) (.cells #[.int .u8 ((y : Nat) : Int)] 5)) RW.out.own
      have ON := Lib.hid (one_cell wr ((y : Nat) : Int) 5)
      have hlen1 : ([] ++ dgl d 0 k).length < 90000 := by (simp [dgl_len]; omega)
      have hbs := RW.out.base
      go_wp2_with (at_builtin; refine wpList_append_own_at _ rfl (.tmp 195) (.tmp 197) 63 rfl N 5 i0 (.int .u8 0) 1 1 Tryd.underlying63 hi hz0 hz1 hz2 rfl (by decide) (.slice A14 l14 c14) ([] ++ dgl d 0 k).length (bys ([] ++ dgl d 0 k)) rfl OA ⟨wr.heap.size, 0, none⟩ 1 1 [.int .u8 ((y : Nat) : Int)] rfl rfl ON.out (one_one _) (by unfold maxLen; omega) (by omega) (by simp; omega) ?_; intro v1 w1 own1 gr1 nil1 at1; have RWN := Lib.hid (row_step (x := y) RW.out own1 gr1 at1 (by omega)); have DVN := Lib.hid (fun d n p h => dv_step (x := y) (d := d) (n := n) (p := p) RW.out h gr1); have BN1 := Lib.hid (b_step (x := y) RW.out gr1); clear own1 gr1 nil1 at1; refine Hid.out ?_)
      refine Lib.hid ?_
      clear OA ON hlen1 hbs hi hz0 hz1 hz2
      have RN : Row8 w1 N b v1 ([] ++ dgl d 0 (k + 1)) := by have := RWN.out; rw [List.append_assoc, HYN.out] at this; exact this
      have V1 := DVN.out _ _ _ VW.out; have B1 := BW.out.trans BN1.out
      clear RWN DVN BN1 RW VW BW
      obtain ⟨A', cp', ev⟩ := own_slice0 RN.own
      subst ev
      have RNH := Lib.hid RN; have V1H := Lib.hid V1; have B1H := Lib.hid B1
      clear RN V1 B1
      go_wp2_with fail
      go_roundw
      case rel =>
        exact ⟨k + 1, A', _, cp', rfl, hlt, by go_num, RNH.out, V1H.out, B1H.out⟩
      case measure => simp [intOf]; omega
    · have hl : ¬ (k : Int) < (n : Int) := by omega
      have hkk : k = n := by omega
      have RE : Hid (Row8 wr N b ((.slice A14 l14 c14)) ([] ++ dgl d 0 (n))) := Lib.hid (by rw [← hkk]; exact RW.out)
      have VE := VW; have BE := BW
      clear RW VW BW hkk
      go_wp2_with fail
      go_loopw [0, 203] (fun v c wr => ∃ (k : Nat) (A : Option Addr) (l cp : Nat), v = .slice A l cp ∧ k ≤ (P - n) ∧ c = .int .i64 (k : Nat) ∧ Row8 wr N b (.slice A l cp) ([] ++ dgl d 0 n ++ List.replicate k 48) ∧ DV wr b d n (P : Int) ∧ Below N w wr) (fun _ c _ => (P - n) - (intOf c).toNat)
      case atStart =>
        first
          | exact ⟨0, _, _, _, rfl, Nat.zero_le _, rfl, by simpa [dgl] using RE.out, VE.out, BE.out⟩
          | (obtain ⟨A, cp, ev⟩ := own_slice0 RE.out.own
             subst ev
             exact ⟨0, A, _, cp, rfl, Nat.zero_le _, rfl, by simpa [dgl] using RE.out, VE.out, BE.out⟩)
      case round =>
        clear RE VE BE
        obtain ⟨k, A13, l13, c13, rfl, hk, rfl, hrw, hdv, hbl⟩ := hrel
        have RW := Lib.hid hrw; have VW := Lib.hid hdv; have BW := Lib.hid hbl
        clear hrw hdv hbl
        by_cases hlt : k < (P - n)
        · have hl : (k : Int) < ((P : Int) - (n : Int)) := by omega

          obtain ⟨i0, hi, hz0, hz1, hz2⟩ := info_parts info_u8
          have OA := own_below (b_alloc (Below.refl wr.heap.size wr) (.cells #[.int .u8 48] 5)) RW.out.own
          have ON := Lib.hid (one_cell wr 48 5)
          have hlen1 : ([] ++ dgl d 0 n ++ List.replicate k 48).length < 90000 := by (simp [dgl_len]; omega)
          have hbs := RW.out.base
          go_wp2_with (at_builtin; refine wpList_append_own_at _ rfl (.tmp 205) (.tmp 206) 63 rfl N 5 i0 (.int .u8 0) 1 1 Tryd.underlying63 hi hz0 hz1 hz2 rfl (by decide) (.slice A13 l13 c13) ([] ++ dgl d 0 n ++ List.replicate k 48).length (bys ([] ++ dgl d 0 n ++ List.replicate k 48)) rfl OA ⟨wr.heap.size, 0, none⟩ 1 1 [.int .u8 48] rfl rfl ON.out (one_one _) (by unfold maxLen; omega) (by omega) (by simp; omega) ?_; intro v1 w1 own1 gr1 nil1 at1; have RWN := Lib.hid (row_step (x := 48) RW.out own1 gr1 at1 (by omega)); have DVN := Lib.hid (fun d n p h => dv_step (x := 48) (d := d) (n := n) (p := p) RW.out h gr1); have BN1 := Lib.hid (b_step (x := 48) RW.out gr1); clear own1 gr1 nil1 at1; refine Hid.out ?_)
          refine Lib.hid ?_
          clear OA ON hlen1 hbs hi hz0 hz1 hz2
          have RN : Row8 w1 N b v1 ([] ++ dgl d 0 n ++ List.replicate (k + 1) 48) := by have := RWN.out; rw [List.append_assoc, zer_next] at this; exact this
          have V1 := DVN.out _ _ _ VW.out; have B1 := BW.out.trans BN1.out
          clear RWN DVN BN1 RW VW BW
          obtain ⟨A', cp', ev⟩ := own_slice0 RN.own
          subst ev
          have RNH := Lib.hid RN; have V1H := Lib.hid V1; have B1H := Lib.hid B1
          clear RN V1 B1
          go_wp2_with fail
          go_roundw
          case rel =>
            exact ⟨k + 1, A', _, cp', rfl, hlt, by go_num, RNH.out, V1H.out, B1H.out⟩
          case measure => simp [intOf]; omega
        · have hl : ¬ (k : Int) < ((P : Int) - (n : Int)) := by omega
          have hkk : k = (P - n) := by omega
          have RE : Hid (Row8 wr N b ((.slice A13 l13 c13)) ([] ++ dgl d 0 n ++ List.replicate ((P - n)) 48)) := Lib.hid (by rw [← hkk]; exact RW.out)
          have VE := VW; have BE := BW
          clear RW VW BW hkk
          obtain ⟨i0, hi, hz0, hz1, hz2⟩ := info_parts info_u8
          have OA := own_below (b_alloc (Below.refl wr.heap.size wr) (.cells #[.int .u8 46] 5)) RE.out.own
          have ON := Lib.hid (one_cell wr 46 5)
          have hlen1 : ([] ++ dgl d 0 n ++ List.replicate (P - n) 48).length < 90000 := by (simp [dgl_len]; omega)
          have hbs := RE.out.base
          go_wp2_with (at_builtin; refine wpList_append_own_at _ rfl (.tmp 214) (.tmp 215) 63 rfl N 5 i0 (.int .u8 0) 1 1 Tryd.underlying63 hi hz0 hz1 hz2 rfl (by decide) (.slice A13 l13 c13) ([] ++ dgl d 0 n ++ List.replicate (P - n) 48).length (bys ([] ++ dgl d 0 n ++ List.replicate (P - n) 48)) rfl OA ⟨wr.heap.size, 0, none⟩ 1 1 [.int .u8 46] rfl rfl ON.out (one_one _) (by unfold maxLen; omega) (by omega) (by simp; omega) ?_; intro v1 w1 own1 gr1 nil1 at1; have RWN := Lib.hid (row_step (x := 46) RE.out own1 gr1 at1 (by omega)); have DVN := Lib.hid (fun d n p h => dv_step (x := 46) (d := d) (n := n) (p := p) RE.out h gr1); have BN1 := Lib.hid (b_step (x := 46) RE.out gr1); clear own1 gr1 nil1 at1; refine Hid.out ?_)
          refine Lib.hid ?_
          clear OA ON hlen1 hbs hi hz0 hz1 hz2
          have R2 := RWN; have V2 := Lib.hid (DVN.out _ _ _ VE.out); have B2 := Lib.hid (BE.out.trans BN1.out)
          clear RWN DVN BN1 RE VE BE
          go_wp2_with fail
          go_loopw [0, 240] (fun v c wr => ∃ (A : Option Addr) (l cp : Nat), v = .slice A l cp ∧ c = .int .i64 0 ∧ Row8 wr N b (.slice A l cp) ([] ++ dgl d 0 n ++ List.replicate (P - n) 48 ++ [46]) ∧ DV wr b d n (P : Int) ∧ Below N w wr) (fun _ _ _ => 0)
          case atStart =>
            first
              | exact ⟨_, _, _, rfl, rfl, R2.out, V2.out, B2.out⟩
              | (obtain ⟨A, cp, ev⟩ := own_slice0 R2.out.own
                 subst ev
                 exact ⟨A, _, cp, rfl, rfl, R2.out, V2.out, B2.out⟩)
          case round =>
            clear R2 V2 B2
            obtain ⟨A12, l12, c12, rfl, rfl, hrw, hdv, hbl⟩ := hrel
            have RE := Lib.hid hrw; have VE := Lib.hid hdv; have BE := Lib.hid hbl
            clear hrw hdv hbl
            go_wp2_with fail
            go_loopw [0, 247] (fun v c wr => ∃ (A : Option Addr) (l cp : Nat), v = .slice A l cp ∧ c = .int .i64 0 ∧ Row8 wr N b (.slice A l cp) ([] ++ dgl d 0 n ++ List.replicate (P - n) 48 ++ [46]) ∧ DV wr b d n (P : Int) ∧ Below N w wr) (fun _ _ _ => 0)
            case atStart =>
              first
                | exact ⟨_, _, _, rfl, rfl, RE.out, VE.out, BE.out⟩
                | (obtain ⟨A, cp, ev⟩ := own_slice0 RE.out.own
                   subst ev
                   exact ⟨A, _, cp, rfl, rfl, RE.out, VE.out, BE.out⟩)
            case round =>
              clear RE VE BE
              obtain ⟨A11, l11, c11, rfl, rfl, hrw, hdv, hbl⟩ := hrel
              have RE := Lib.hid hrw; have VE := Lib.hid hdv; have BE := Lib.hid hbl
              clear hrw hdv hbl
              go_wp2_with fail
              go_loopw [0, 261] (fun v c wr => ∃ (k : Nat) (A : Option Addr) (l cp : Nat), v = .slice A l cp ∧ k ≤ 1100 ∧ c = .int .i64 (k : Nat) ∧ Row8 wr N b (.slice A l cp) ([] ++ dgl d 0 n ++ List.replicate (P - n) 48 ++ [46] ++ List.replicate k 48) ∧ DV wr b d n (P : Int) ∧ Below N w wr) (fun _ c _ => 1100 - (intOf c).toNat)
              case atStart =>
                first
                  | exact ⟨0, _, _, _, rfl, Nat.zero_le _, rfl, by simpa [dgl] using RE.out, VE.out, BE.out⟩
                  | (obtain ⟨A, cp, ev⟩ := own_slice0 RE.out.own
                     subst ev
                     exact ⟨0, A, _, cp, rfl, Nat.zero_le _, rfl, by simpa [dgl] using RE.out, VE.out, BE.out⟩)
              case round =>
                clear RE VE BE
                obtain ⟨k, A10, l10, c10, rfl, hk, rfl, hrw, hdv, hbl⟩ := hrel
                have RW := Lib.hid hrw; have VW := Lib.hid hdv; have BW := Lib.hid hbl
                clear hrw hdv hbl
                by_cases hlt : k < 1100
                · have hl : (k : Int) < 1100 := by omega

                  obtain ⟨i0, hi, hz0, hz1, hz2⟩ := info_parts info_u8
                  have OA := own_below (b_alloc (Below.refl wr.heap.size wr) (.cells #[.int .u8 48] 5)) RW.out.own
                  have ON := Lib.hid (one_cell wr 48 5)
                  have hlen1 : ([] ++ dgl d 0 n ++ List.replicate (P - n) 48 ++ [46] ++ List.replicate k 48).length < 90000 := by (simp [dgl_len]; omega)
                  have hbs := RW.out.base
                  go_wp2_with (at_builtin; refine wpList_append_own_at _ rfl (.tmp 263) (.tmp 264) 63 rfl N 5 i0 (.int .u8 0) 1 1 Tryd.underlying63 hi hz0 hz1 hz2 rfl (by decide) (.slice A10 l10 c10) ([] ++ dgl d 0 n ++ List.replicate (P - n) 48 ++ [46] ++ List.replicate k 48).length (bys ([] ++ dgl d 0 n ++ List.replicate (P - n) 48 ++ [46] ++ List.replicate k 48)) rfl OA ⟨wr.heap.size, 0, none⟩ 1 1 [.int .u8 48] rfl rfl ON.out (one_one _) (by unfold maxLen; omega) (by omega) (by simp; omega) ?_; intro v1 w1 own1 gr1 nil1 at1; have RWN := Lib.hid (row_step (x := 48) RW.out own1 gr1 at1 (by omega)); have DVN := Lib.hid (fun d n p h => dv_step (x := 48) (d := d) (n := n) (p := p) RW.out h gr1); have BN1 := Lib.hid (b_step (x := 48) RW.out gr1); clear own1 gr1 nil1 at1; refine Hid.out ?_)
                  refine Lib.hid ?_
                  clear OA ON hlen1 hbs hi hz0 hz1 hz2
                  have RN : Row8 w1 N b v1 ([] ++ dgl d 0 n ++ List.replicate (P - n) 48 ++ [46] ++ List.replicate (k + 1) 48) := by have := RWN.out; rw [List.append_assoc, zer_next] at this; exact this
                  have V1 := DVN.out _ _ _ VW.out; have B1 := BW.out.trans BN1.out
                  clear RWN DVN BN1 RW VW BW
                  obtain ⟨A', cp', ev⟩ := own_slice0 RN.own
                  subst ev
                  have RNH := Lib.hid RN; have V1H := Lib.hid V1; have B1H := Lib.hid B1
                  clear RN V1 B1
                  go_wp2_with fail
                  go_roundw
                  case rel =>
                    exact ⟨k + 1, A', _, cp', rfl, hlt, by go_num, RNH.out, V1H.out, B1H.out⟩
                  case measure => simp [intOf]; omega
                · have hl : ¬ (k : Int) < 1100 := by omega
                  have hkk : k = 1100 := by omega
                  have RE : Hid (Row8 wr N b ((.slice A10 l10 c10)) ([] ++ dgl d 0 n ++ List.replicate (P - n) 48 ++ [46] ++ List.replicate (1100) 48)) := Lib.hid (by rw [← hkk]; exact RW.out)
                  have VE := VW; have BE := BW
                  clear RW VW BW hkk
                  go_wp2_with fail
                  go_ret
                  exact ⟨⟨(.slice A10 l10 c10), rfl, RE.out, VE.out⟩, BE.out⟩
set_option maxRecDepth 100000 in
set_option maxHeartbeats 16000000 in
theorem fm_mid (b N : Nat) (d : Nat → Nat) (n : Nat) (p : Int) (w : World) (P : Nat) (v : Value) (hpp : p = (P : Int)) (hP1 : 1 ≤ P) (hP : P ≤ 100) (hn1 : 1 ≤ n) (hn : n ≤ 100) (hPn : P < n) (RW : Hid (Row8 w N b v [])) (V0 : Hid (DV w b d n p)) :
    Calls Tryd.prog 53 #[v, .bool false, .slice (some ⟨b, 0, none⟩) 800 800, .int .i64 p, .int .i64 (n : Nat), .int .i64 1100, .int .u8 102, .bool false] w fun e w' => (∃ v', e = .returned v' ∧ Row8 w' N b v' (lfm_mid d n P) ∧ DV w' b d n p) ∧ Below N w w' := by
  subst hpp
  have hp0 : (0 : Int) < (P : Int) := by omega
  have hp0n : 0 < P := by omega
  have hpd : decide (0 < P) = true := decide_eq_true hp0n
  have hPn' : (P : Int) < (n : Int) := by omega
  have hn9 : (n : Int) ≤ 100 := by omega
  have hP9 : (P : Int) ≤ 100 := by omega
  have B0 := Lib.hid (Below.refl N w)
  go_enter Tryd.func53, Tryd.ntmps53
  go_wp2_with fail
  go_loopw [0, 191] (fun v c wr => ∃ (k : Nat) (A : Option Addr) (l cp : Nat), v = .slice A l cp ∧ k ≤ P ∧ c = .int .i64 (k : Nat) ∧ Row8 wr N b (.slice A l cp) ([] ++ dgl d 0 k) ∧ DV wr b d n (P : Int) ∧ Below N w wr) (fun _ c _ => P - (intOf c).toNat)
  case atStart =>
    first
      | exact ⟨0, _, _, _, rfl, Nat.zero_le _, rfl, by simpa [dgl] using RW.out, V0.out, B0.out⟩
      | (obtain ⟨A, cp, ev⟩ := own_slice0 RW.out.own
         subst ev
         exact ⟨0, A, _, cp, rfl, Nat.zero_le _, rfl, by simpa [dgl] using RW.out, V0.out, B0.out⟩)
  case round =>
    clear RW V0 B0
    obtain ⟨k, A19, l19, c19, rfl, hk, rfl, hrw, hdv, hbl⟩ := hrel
    have RW := Lib.hid hrw; have VW := Lib.hid hdv; have BW := Lib.hid hbl
    clear hrw hdv hbl
    by_cases hlt : k < P
    · have hl : (k : Int) < (P : Int) := by omega
      have hk8 : k < 800 := by omega
      have hk8' : ((k : Nat) : Int) < 800 := by omega
      obtain ⟨y, hy⟩ : ∃ y, y = d (0 + k) := ⟨_, rfl⟩
      have x0 := VW.out.cd (0 + k) (by omega)
      rw [← hy] at x0
      have HYN : Hid (dgl d 0 k ++ [y] = dgl d 0 (k + 1)) := Lib.hid (by rw [hy]; exact dgl_next d 0 k)
      clear hy
      rw [Nat.zero_add] at x0
      obtain ⟨i0, hi, hz0, hz1, hz2⟩ := info_parts info_u8
      have OA := own_below (b_alloc (Below.refl wr.heap.size wr) (.cells #[.int .u8 ((y : Nat) : Int)] 5)) RW.out.own
      have ON := Lib.hid (one_cell wr ((y : Nat) : Int) 5)
      have hlen1 : ([] ++ dgl d 0 k).length < 90000 := by (simp [dgl_len]; omega)
      have hbs := RW.out.base
      go_wp2_with (at_builtin; refine wpList_append_own_at _ rfl (.tmp 195) (.tmp 197) 63 rfl N 5 i0 (.int .u8 0) 1 1 Tryd.underlying63 hi hz0 hz1 hz2 rfl (by decide) (.slice A19 l19 c19) ([] ++ dgl d 0 k).length (bys ([] ++ dgl d 0 k)) rfl OA ⟨wr.heap.size, 0, none⟩ 1 1 [.int .u8 ((y : Nat) : Int)] rfl rfl ON.out (one_one _) (by unfold maxLen; omega) (by omega) (by simp; omega) ?_; intro v1 w1 own1 gr1 nil1 at1; have RWN := Lib.hid (row_step (x := y) RW.out own1 gr1 at1 (by omega)); have DVN := Lib.hid (fun d n p h => dv_step (x := y) (d := d) (n := n) (p := p) RW.out h gr1); have BN1 := Lib.hid (b_step (x := y) RW.out gr1); clear own1 gr1 nil1 at1; refine Hid.out ?_)
      refine Lib.hid ?_
      clear OA ON hlen1 hbs hi hz0 hz1 hz2
      have RN : Row8 w1 N b v1 ([] ++ dgl d 0 (k + 1)) := by have := RWN.out; rw [List.append_assoc, HYN.out] at this; exact this
      have V1 := DVN.out _ _ _ VW.out; have B1 := BW.out.trans BN1.out
      clear RWN DVN BN1 RW VW BW
      obtain ⟨A', cp', ev⟩ := own_slice0 RN.own
      subst ev
      have RNH := Lib.hid RN; have V1H := Lib.hid V1; have B1H := Lib.hid B1
      clear RN V1 B1
      go_wp2_with fail
      go_roundw
      case rel =>
        exact ⟨k + 1, A', _, cp', rfl, hlt, by go_num, RNH.out, V1H.out, B1H.out⟩
      case measure => simp [intOf]; omega
    · have hl : ¬ (k : Int) < (P : Int) := by omega
      have hkk : k = P := by omega
      have RE : Hid (Row8 wr N b ((.slice A19 l19 c19)) ([] ++ dgl d 0 (P))) := Lib.hid (by rw [← hkk]; exact RW.out)
      have VE := VW; have BE := BW
      clear RW VW BW hkk
      go_wp2_with fail
      go_loopw [0, 203] (fun v c wr => ∃ (A : Option Addr) (l cp : Nat), v = .slice A l cp ∧ c = .int .i64 0 ∧ Row8 wr N b (.slice A l cp) ([] ++ dgl d 0 P) ∧ DV wr b d n (P : Int) ∧ Below N w wr) (fun _ _ _ => 0)
      case atStart =>
        first
          | exact ⟨_, _, _, rfl, rfl, RE.out, VE.out, BE.out⟩
          | (obtain ⟨A, cp, ev⟩ := own_slice0 RE.out.own
             subst ev
             exact ⟨A, _, cp, rfl, rfl, RE.out, VE.out, BE.out⟩)
      case round =>
        clear RE VE BE
        obtain ⟨A18, l18, c18, rfl, rfl, hrw, hdv, hbl⟩ := hrel
        have RE := Lib.hid hrw; have VE := Lib.hid hdv; have BE := Lib.hid hbl
        clear hrw hdv hbl
        obtain ⟨i0, hi, hz0, hz1, hz2⟩ := info_parts info_u8
        have OA := own_below (b_alloc (Below.refl wr.heap.size wr) (.cells #[.int .u8 46] 5)) RE.out.own
        have ON := Lib.hid (one_cell wr 46 5)
        have hlen1 : ([] ++ dgl d 0 P).length < 90000 := by (simp [dgl_len]; omega)
        have hbs := RE.out.base
        go_wp2_with (at_builtin; refine wpList_append_own_at _ rfl (.tmp 214) (.tmp 215) 63 rfl N 5 i0 (.int .u8 0) 1 1 Tryd.underlying63 hi hz0 hz1 hz2 rfl (by decide) (.slice A18 l18 c18) ([] ++ dgl d 0 P).length (bys ([] ++ dgl d 0 P)) rfl OA ⟨wr.heap.size, 0, none⟩ 1 1 [.int .u8 46] rfl rfl ON.out (one_one _) (by unfold maxLen; omega) (by omega) (by simp; omega) ?_; intro v1 w1 own1 gr1 nil1 at1; have RWN := Lib.hid (row_step (x := 46) RE.out own1 gr1 at1 (by omega)); have DVN := Lib.hid (fun d n p h => dv_step (x := 46) (d := d) (n := n) (p := p) RE.out h gr1); have BN1 := Lib.hid (b_step (x := 46) RE.out gr1); clear own1 gr1 nil1 at1; refine Hid.out ?_)
        refine Lib.hid ?_
        clear OA ON hlen1 hbs hi hz0 hz1 hz2
        have R2 := RWN; have V2 := Lib.hid (DVN.out _ _ _ VE.out); have B2 := Lib.hid (BE.out.trans BN1.out)
        clear RWN DVN BN1 RE VE BE
        go_wp2_with fail
        go_loopw [0, 240] (fun v c wr => ∃ (A : Option Addr) (l cp : Nat), v = .slice A l cp ∧ c = .int .i64 0 ∧ Row8 wr N b (.slice A l cp) ([] ++ dgl d 0 P ++ [46]) ∧ DV wr b d n (P : Int) ∧ Below N w wr) (fun _ _ _ => 0)
        case atStart =>
          first
            | exact ⟨_, _, _, rfl, rfl, R2.out, V2.out, B2.out⟩
            | (obtain ⟨A, cp, ev⟩ := own_slice0 R2.out.own
               subst ev
               exact ⟨A, _, cp, rfl, rfl, R2.out, V2.out, B2.out⟩)
        case round =>
          clear R2 V2 B2
          obtain ⟨A17, l17, c17, rfl, rfl, hrw, hdv, hbl⟩ := hrel
          have RE := Lib.hid hrw; have VE := Lib.hid hdv; have BE := Lib.hid hbl
          clear hrw hdv hbl
          go_wp2_with fail
          go_loopw [0, 247] (fun v c wr => ∃ (k : Nat) (A : Option Addr) (l cp : Nat), v = .slice A l cp ∧ k ≤ (n - P) ∧ c = .int .i64 (k : Nat) ∧ Row8 wr N b (.slice A l cp) ([] ++ dgl d 0 P ++ [46] ++ dgl d P k) ∧ DV wr b d n (P : Int) ∧ Below N w wr) (fun _ c _ => (n - P) - (intOf c).toNat)
          case atStart =>
            first
              | exact ⟨0, _, _, _, rfl, Nat.zero_le _, rfl, by simpa [dgl] using RE.out, VE.out, BE.out⟩
              | (obtain ⟨A, cp, ev⟩ := own_slice0 RE.out.own
                 subst ev
                 exact ⟨0, A, _, cp, rfl, Nat.zero_le _, rfl, by simpa [dgl] using RE.out, VE.out, BE.out⟩)
          case round =>
            clear RE VE BE
            obtain ⟨k, A16, l16, c16, rfl, hk, rfl, hrw, hdv, hbl⟩ := hrel
            have RW := Lib.hid hrw; have VW := Lib.hid hdv; have BW := Lib.hid hbl
            clear hrw hdv hbl
            by_cases hlt : k < (n - P)
            · have hl : (k : Int) < ((n : Int) - (P : Int)) := by omega
              have hk8 : (P + k) < 800 := by omega
              have hk8' : (((P + k) : Nat) : Int) < 800 := by omega
              obtain ⟨y, hy⟩ : ∃ y, y = d (P + k) := ⟨_, rfl⟩
              have x0 := VW.out.cd (P + k) (by omega)
              rw [← hy] at x0
              have HYN : Hid (dgl d P k ++ [y] = dgl d P (k + 1)) := Lib.hid (by rw [hy]; exact dgl_next d P k)
              clear hy

              obtain ⟨i0, hi, hz0, hz1, hz2⟩ := info_parts info_u8
              have OA := own_below (b_alloc (Below.refl wr.heap.size wr) (.cells #[.int .u8 ((y : Nat) : Int)] 5)) RW.out.own
              have ON := Lib.hid (one_cell wr ((y : Nat) : Int) 5)
              have hlen1 : ([] ++ dgl d 0 P ++ [46] ++ dgl d P k).length < 90000 := by (simp [dgl_len]; omega)
              have hbs := RW.out.base
              go_wp2_with (at_builtin; refine wpList_append_own_at _ rfl (.tmp 250) (.tmp 257) 63 rfl N 5 i0 (.int .u8 0) 1 1 Tryd.underlying63 hi hz0 hz1 hz2 rfl (by decide) (.slice A16 l16 c16) ([] ++ dgl d 0 P ++ [46] ++ dgl d P k).length (bys ([] ++ dgl d 0 P ++ [46] ++ dgl d P k)) rfl OA ⟨wr.heap.size, 0, none⟩ 1 1 [.int .u8 ((y : Nat) : Int)] rfl rfl ON.out (one_one _) (by unfold maxLen; omega) (by omega) (by simp; omega) ?_; intro v1 w1 own1 gr1 nil1 at1; have RWN := Lib.hid (row_step (x := y) RW.out own1 gr1 at1 (by omega)); have DVN := Lib.hid (fun d n p h => dv_step (x := y) (d := d) (n := n) (p := p) RW.out h gr1); have BN1 := Lib.hid (b_step (x := y) RW.out gr1); clear own1 gr1 nil1 at1; refine Hid.out ?_)
              refine Lib.hid ?_
              clear OA ON hlen1 hbs hi hz0 hz1 hz2
              have RN : Row8 w1 N b v1 ([] ++ dgl d 0 P ++ [46] ++ dgl d P (k + 1)) := by have := RWN.out; rw [List.append_assoc, HYN.out] at this; exact this
              have V1 := DVN.out _ _ _ VW.out; have B1 := BW.out.trans BN1.out
              clear RWN DVN BN1 RW VW BW
              obtain ⟨A', cp', ev⟩ := own_slice0 RN.own
              subst ev
              have RNH := Lib.hid RN; have V1H := Lib.hid V1; have B1H := Lib.hid B1
              clear RN V1 B1
              go_wp2_with fail
              go_roundw
              case rel =>
                exact ⟨k + 1, A', _, cp', rfl, hlt, by go_num, RNH.out, V1H.out, B1H.out⟩
              case measure => simp [intOf]; omega
            · have hl : ¬ (k : Int) < ((n : Int) - (P : Int)) := by omega
              have hkk : k = (n - P) := by omega
              have RE : Hid (Row8 wr N b ((.slice A16 l16 c16)) ([] ++ dgl d 0 P ++ [46] ++ dgl d P ((n - P)))) := Lib.hid (by rw [← hkk]; exact RW.out)
              have VE := VW; have BE := BW
              clear RW VW BW hkk
              go_wp2_with fail
              go_loopw [0, 261] (fun v c wr => ∃ (k : Nat) (A : Option Addr) (l cp : Nat), v = .slice A l cp ∧ k ≤ (1100 - (n - P)) ∧ c = .int .i64 (k : Nat) ∧ Row8 wr N b (.slice A l cp) ([] ++ dgl d 0 P ++ [46] ++ dgl d P (n - P) ++ List.replicate k 48) ∧ DV wr b d n (P : Int) ∧ Below N w wr) (fun _ c _ => (1100 - (n - P)) - (intOf c).toNat)
              case atStart =>
                first
                  | exact ⟨0, _, _, _, rfl, Nat.zero_le _, rfl, by simpa [dgl] using RE.out, VE.out, BE.out⟩
                  | (obtain ⟨A, cp, ev⟩ := own_slice0 RE.out.own
                     subst ev
                     exact ⟨0, A, _, cp, rfl, Nat.zero_le _, rfl, by simpa [dgl] using RE.out, VE.out, BE.out⟩)
              case round =>
                clear RE VE BE
                obtain ⟨k, A15, l15, c15, rfl, hk, rfl, hrw, hdv, hbl⟩ := hrel
                have RW := Lib.hid hrw; have VW := Lib.hid hdv; have BW := Lib.hid hbl
                clear hrw hdv hbl
                by_cases hlt : k < (1100 - (n - P))
                · have hl : (k : Int) < (1100 - ((n : Int) - (P : Int))) := by omega

                  obtain ⟨i0, hi, hz0, hz1, hz2⟩ := info_parts info_u8
                  have OA := own_below (b_alloc (Below.refl wr.heap.size wr) (.cells #[.int .u8 48] 5)) RW.out.own
                  have ON := Lib.hid (one_cell wr 48 5)
                  have hlen1 : ([] ++ dgl d 0 P ++ [46] ++ dgl d P (n - P) ++ List.replicate k 48).length < 90000 := by (simp [dgl_len]; omega)
                  have hbs := RW.out.base
                  go_wp2_with (at_builtin; refine wpList_append_own_at _ rfl (.tmp 263) (.tmp 264) 63 rfl N 5 i0 (.int .u8 0) 1 1 Tryd.underlying63 hi hz0 hz1 hz2 rfl (by decide) (.slice A15 l15 c15) ([] ++ dgl d 0 P ++ [46] ++ dgl d P (n - P) ++ List.replicate k 48).length (bys ([] ++ dgl d 0 P ++ [46] ++ dgl d P (n - P) ++ List.replicate k 48)) rfl OA ⟨wr.heap.size, 0, none⟩ 1 1 [.int .u8 48] rfl rfl ON.out (one_one _) (by unfold maxLen; omega) (by omega) (by simp; omega) ?_; intro v1 w1 own1 gr1 nil1 at1; have RWN := Lib.hid (row_step (x := 48) RW.out own1 gr1 at1 (by omega)); have DVN := Lib.hid (fun d n p h => dv_step (x := 48) (d := d) (n := n) (p := p) RW.out h gr1); have BN1 := Lib.hid (b_step (x := 48) RW.out gr1); clear own1 gr1 nil1 at1; refine Hid.out ?_)
                  refine Lib.hid ?_
                  clear OA ON hlen1 hbs hi hz0 hz1 hz2
                  have RN : Row8 w1 N b v1 ([] ++ dgl d 0 P ++ [46] ++ dgl d P (n - P) ++ List.replicate (k + 1) 48) := by have := RWN.out; rw [List.append_assoc, zer_next] at this; exact this
                  have V1 := DVN.out _ _ _ VW.out; have B1 := BW.out.trans BN1.out
                  clear RWN DVN BN1 RW VW BW
                  obtain ⟨A', cp', ev⟩ := own_slice0 RN.own
                  subst ev
                  have RNH := Lib.hid RN; have V1H := Lib.hid V1; have B1H := Lib.hid B1
                  clear RN V1 B1
                  go_wp2_with fail
                  go_roundw
                  case rel =>
                    exact ⟨k + 1, A', _, cp', rfl, hlt, by go_num, RNH.out, V1H.out, B1H.out⟩
                  case measure => simp [intOf]; omega
                · have hl : ¬ (k : Int) < (1100 - ((n : Int) - (P : Int))) := by omega
                  have hkk : k = (1100 - (n - P)) := by omega
                  have RE : Hid (Row8 wr N b ((.slice A15 l15 c15)) ([] ++ dgl d 0 P ++ [46] ++ dgl d P (n - P) ++ List.replicate ((1100 - (n - P))) 48)) := Lib.hid (by rw [← hkk]; exact RW.out)
                  have VE := VW; have BE := BW
                  clear RW VW BW hkk
                  go_wp2_with fail
                  go_ret
                  exact ⟨⟨(.slice A15 l15 c15), rfl, RE.out, VE.out⟩, BE.out⟩
/-- The text of a decimal that is no zero. -/
def fmtL (d : Nat → Nat) (n : Nat) (p : Int) : List Nat := if 0 < p then (if n ≤ p.toNat then lfm_ge d n p.toNat else lfm_mid d n p.toNat) else fle d n (-p).toNat
theorem fmC (b N : Nat) (d : Nat → Nat) (n : Nat) (p : Int) (w : World) (v : Value) (hp1 : -100 ≤ p) (hp2 : p ≤ 100) (hn1 : 1 ≤ n) (hn : n ≤ 100) (RW : Hid (Row8 w N b v [])) (V0 : Hid (DV w b d n p)) :
    Calls Tryd.prog 53 #[v, .bool false, .slice (some ⟨b, 0, none⟩) 800 800, .int .i64 p, .int .i64 (n : Nat), .int .i64 1100, .int .u8 102, .bool false] w fun e w' => (∃ v', e = .returned v' ∧ Row8 w' N b v' (fmtL d n p) ∧ DV w' b d n p) ∧ Below N w w' := by
  unfold fmtL
  by_cases h0 : 0 < p
  · rw [if_pos h0]
    have e : p = (p.toNat : Int) := by omega
    by_cases h1 : n ≤ p.toNat
    · rw [if_pos h1]
      exact fm_ge b N d n p w p.toNat v e (by omega) (by omega) hn1 hn h1 RW V0
    · rw [if_neg h1]
      exact fm_mid b N d n p w p.toNat v e (by omega) (by omega) hn1 hn (by omega) RW V0
  · rw [if_neg h0]
    rcases Int.lt_or_eq_of_le (Int.le_of_not_gt h0) with h1 | h1
    · exact fm_le b N d n p w (-p).toNat v (by omega) (by omega) (by omega) hn1 hn RW V0
    · subst h1
      exact fm_zero b N d n 0 w v rfl hn1 hn RW V0

end Dec
end Go.Proofs.YtoafljgcmloilaaDoor
