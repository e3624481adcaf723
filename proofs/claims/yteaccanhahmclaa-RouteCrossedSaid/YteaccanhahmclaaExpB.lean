/- Lists of names that grow by append from any list; slices.Grow, slices.Concat. -/
import Derived.Test.YteaccanhahmclaaChE
import Derived.Laws.AppendOwnNone
import Derived.Lib.AppendZeros
namespace Go.Proofs.Yteaccanhahmclaa
open Go.RowKit
namespace Route
open Kit Chart
/-- The cells of a list of names. -/
abbrev vs (L : List ByteArray) : List Value := L.map Value.string
theorem vs_one {L : List ByteArray} : ∀ u ∈ vs L, u.oneCell' = true := by
  intro u hu
  obtain ⟨s, -, rfl⟩ := List.mem_map.1 hu
  rfl
/-- A slice that reads as a list of names. -/
def SL (w : World) (v : Value) (L : List ByteArray) : Prop := SV w v L.length (fun k => L.getD k ⟨#[]⟩)
theorem sl_keep {W w1 : World} (hb : Below W.heap.size W w1) {v : Value} {L : List ByteArray} (h : SL W v L) : SL w1 v L := sv_keep hb h
theorem sl_cells {w : World} {b off : Nat} {L : List ByteArray} (h : ∀ k, k < L.length → w.cell? ⟨b, off + k, none⟩ = some (.string (L.getD k ⟨#[]⟩))) : ∀ j u, (vs L)[j]? = some u → w.cell? ((⟨b, off, none⟩ : Addr).add j) = some u := fun j u hu => by
  have hj : j < L.length := by
    have := (List.getElem?_eq_some_iff.1 hu).1
    rwa [List.length_map] at this
  rw [Go.WideShapes.add_plain, h j hj]
  rw [List.getElem?_map, List.getElem?_eq_getElem hj] at hu
  rw [← Option.some.inj hu, List.getD_eq_getElem?_getD, List.getElem?_eq_getElem hj]
  rfl
/-- What a call owns reads as a list. -/
theorem sl_own {w : World} {base : Nat} {E : TypeId} {v : Value} {L : List ByteArray} (h : w.ownsRow base E 1 v L.length (vs L)) : SL w v L := by
  have hh := h
  rcases Nat.eq_zero_or_pos L.length with h0 | h0
  · refine Or.inl ⟨h0, ?_⟩
    rcases h.2 with ⟨hv, -⟩ | ⟨g, cap, cur, hv, hb, hg, hnc, hcm, -⟩
    · exact Or.inl hv
    · exact Or.inr ⟨⟨g, 0, none⟩, cap, by rw [hv, h0], hcm⟩
  · rcases h.2 with ⟨-, h1⟩ | ⟨g, cap, cur, hv, hb, hg, hnc, hcm, -⟩
    · omega
    · refine Or.inr ⟨h0, g, 0, cap, hv, hnc, hcm, fun k hk => ?_⟩
      subst hv
      have hc := hh.cellAt k (by omega)
      rw [Nat.zero_add, hc, List.getElem?_map, List.getElem?_eq_getElem hk]
      show some (Value.string L[k]) = some (.string (L.getD k ⟨#[]⟩))
      rw [List.getD_eq_getElem?_getD, List.getElem?_eq_getElem hk]
      rfl
theorem sl_slice {w : World} {v : Value} {L : List ByteArray} (h : SL w v L) : ∃ A cap, v = .slice A L.length cap := sv_slice h
section
variable {P : Program} {w : World}
theorem grown_refl (w : World) (row : Option Nat) : w.grownBy w row := ⟨rfl, rfl, rfl, Nat.le_refl _, fun _ _ _ => rfl⟩
/-- append(v, u...), the source a list of names in memory, nil or not. -/
theorem append_sl {ops : Array Oper} {rest : List Oper} {o : Oper} {a : Act} {Q : Exit → Act → World → Prop} (hgd : o.guard = none) (s x : Operand) (t : TypeId)
    (ho : o.op = .call { callee := .builtin .append, args := #[s, x], argTypes := #[t, t] })
    (base : Nat) (e : TypeId) (i : TypeInfo) (z : Value) (ht : P.underlying t = some (.slice e)) (hi : P.info? e = some i) (hz : i.zero = some z)
    (hsize : i.size = 1) (hby : i.bytes = 16) (hzs : z.cells.size = 1)
    (v : Value) (L : List ByteArray) (hs : a.eval s = v) (hown : w.ownsRow base e 1 v L.length (vs L))
    (u : Value) (M : List ByteArray) (hx : a.eval x = u) (hu : SL w u M) (hlen : L.length + M.length ≤ 1000000) (hbase : base ≤ w.heap.size)
    (h : ∀ v' w', w'.ownsRow base e 1 v' (L ++ M).length (vs (L ++ M)) → w.grownBy w' v.ownBlock → wpList P ops Q rest (a.put o.dst v') w') : wpList P ops Q (o :: rest) a w := by
  have key : ∀ (ad : Addr) (c : Nat), u = .slice (some ad) M.length c → (∀ j y, (vs M)[j]? = some y → w.cell? (ad.add j) = some y) → wpList P ops Q (o :: rest) a w := fun ad c hu' hc => by
    subst hu'
    refine wpList_append_own w hgd s x t ho base e i z 1 16 ht hi hz hsize hby hzs (by decide) v L.length (vs L) hs hown ad M.length c (vs M) hx (by rw [List.length_map, Nat.mul_one]) hc vs_one (by unfold maxLen; omega) (by omega) hbase fun v' w' h2 h3 _ => h v' w' ?_ h3
    show w'.ownsRow base e 1 v' _ ((L ++ M).map Value.string)
    rw [List.length_append, List.map_append]
    exact h2
  rcases hu with ⟨h0, rfl | ⟨ad, c, rfl, hc⟩⟩ | ⟨h0, b, off, c, rfl, h1, h2, h3⟩
  · obtain rfl : M = [] := List.length_eq_zero_iff.1 h0
    refine wpList_append_own_none hgd s x t ho base e i 1 ht hi v L.length (vs L) hs hown hx ?_
    have := h v w (by rw [List.append_nil]; exact hown) (grown_refl w _)
    exact this
  · obtain rfl : M = [] := List.length_eq_zero_iff.1 h0
    exact key ad c rfl fun j y hy => by simp at hy
  · exact key ⟨b, off, none⟩ c rfl (sl_cells h3)
end
set_option maxRecDepth 100000 in
set_option maxHeartbeats 1000000 in
theorem growC (n : Nat) (w : World) (h0 : 0 < n) (h1 : n ≤ 1000000) : Calls Try.prog 146 #[.slice none 0 0, .int .i64 n] w fun e w' => (∃ v, e = .returned v ∧ w'.ownsRow w.heap.size 9 1 v 0 []) ∧ Below w.heap.size w w' := by
  obtain ⟨i0, hi, hz0, hz1, hz2⟩ := info_parts info_str
  have hr := fun W : World => Lib.run_append_nil_zeros (P := Try.prog) W 46 3 46 9 i0 (.string ⟨#[]⟩) .i64 .i64 Try.underlying46 Try.underlying3 hi hz0 n h0 (by rw [hz1]; decide) (by omega) (by rw [hz2]; omega)
  have hp : 0 < (n : Int) := by omega
  have hcap : grownCap w n 0 9 ≤ maxLen := grownCap_le_maxLen w n 0 9 (by unfold maxLen; omega)
  have hcap0 : grownCap w n 0 9 ≤ 9223372036854775807 := Nat.le_trans hcap (by decide)
  have hge := grownCap_ge w n 0 9
  have HR := Lib.hid (hr w); clear hr
  generalize grownCap w n 0 9 = cap at *
  go_enter Try.func146, Try.ntmps146
  go_wp2_with (at_builtin; refine Lib.wpList_append_run _ rfl _ _ _ _ rfl _ _ rfl rfl _ _ HR.out ?_)
  all_goals first | (exfalso; omega) | skip
  refine bodyPost_ret (v := .slice (some ⟨w.heap.size, 0, none⟩) 0 cap) (by simp [results, Try.results146, go_sem]) rfl ⟨⟨_, rfl, rfl, Or.inr ⟨w.heap.size, cap, Builtin.zeroCells #[Value.string ⟨#[]⟩] n ++ Builtin.zeroCells #[Value.string ⟨#[]⟩] (cap - n), rfl, Nat.le_refl _, heap_alloc_new w _, Nat.zero_le _, hcap, ?_, by simp⟩⟩, ?_⟩
  · simp [Builtin.zeroCells]; omega
  · exact b_drew (b_alloc (Below.refl _ _) _)
/-- The slices of a slice of three. -/
abbrev T3 (w : World) (b : Nat) (U : Nat → Value) : Prop := ∀ k, k < 3 → w.cell? ⟨b, k, none⟩ = some (U k)
/-- The first k of three lists, one behind the other. -/
def pre (L : Nat → List ByteArray) : Nat → List ByteArray
  | 0 => []
  | k + 1 => pre L k ++ L k
theorem pre_len {L : Nat → List ByteArray} (h : ∀ k, (L k).length ≤ 1000) : ∀ k, (pre L k).length ≤ 1000 * k
  | 0 => Nat.le_refl _
  | k + 1 => by
    show (pre L k ++ L k).length ≤ _
    rw [List.length_append]
    have := pre_len h k; have := h k; omega
set_option maxRecDepth 100000 in
set_option maxHeartbeats 4000000 in
theorem concat_w (b : Nat) (U : Nat → Value) (L : Nat → List ByteArray) (w : World) (HT : Hid (T3 w b U)) (HS : Hid (∀ k, k < 3 → SL w (U k) (L k))) (HL : Hid (∀ k, (L k).length ≤ 1000)) (h0 : 0 < (L 0).length) :
    Calls Try.prog 105 #[.slice (some ⟨b, 0, none⟩) 3 3] w fun e w' => (∃ v, e = .returned v ∧ SL w' v (pre L 3)) ∧ Below w.heap.size w w' := by
  obtain ⟨i0, hi, hz0, hz1, hz2⟩ := info_parts info_str
  have I := Lib.hid (And.intro hi (And.intro hz0 (And.intro hz1 hz2))); clear hi hz0 hz1 hz2
  have HP := Lib.hid (pre_len HL.out)
  have e3 : Hid (0 < (pre L 3).length) := Lib.hid (by show 0 < ((([] ++ L 0) ++ L 1) ++ L 2).length; simp only [List.length_append]; omega)
  go_enter Try.func105, Try.ntmps105
  go_wp2_with fail
  go_loopw [3, 11] (fun sm s wr => ∃ k : Nat, k ≤ 3 ∧ s = .int .i64 k ∧ sm = .int .i64 ((pre L k).length : Nat) ∧ w = wr) (fun _ s _ => 3 - (intOf s).toNat)
  case atStart => exact ⟨0, by omega, rfl, rfl, rfl⟩
  case round =>
    obtain ⟨k, hk, rfl, rfl, rfl⟩ := hrel
    by_cases hlt : k < 3
    · have hl : (k : Int) < 3 := by omega
      obtain ⟨A, c, hU⟩ := sl_slice (HS.out k hlt)
      have c0 := HT.out k hlt
      rw [hU] at c0
      have b1 := HP.out k
      have b2 := HL.out k
      have hn : (pre L (k + 1)).length = (pre L k).length + (L k).length := by show (pre L k ++ L k).length = _; rw [List.length_append]
      have HN := Lib.hid hn; clear hn hU
      generalize (pre L k).length = x at *
      generalize (L k).length = y at *
      go_wp2_with fail
      all_goals first | (exfalso; omega) | skip
      go_roundw
      case rel => exact ⟨k + 1, by omega, by go_num, by rw [HN.out]; go_num, by first | rfl | trivial⟩
      case measure => simp [intOf]; omega
    · have e : k = 3 := by omega
      subst e
      have b1 := HP.out 3
      have b3 := e3.out
      have HG := Lib.hid fun W : World => growC (pre L 3).length W b3 (by omega)
      generalize (pre L 3).length = x at *
      go_wp2_with fail
      (with_reducible refine (HG.out _).mono ?_); rintro e w1 ⟨⟨v1, rfl, hown⟩, hb⟩
      have W1 := Lib.hid hb
      have O1 : Hid (w1.ownsRow w.heap.size 9 1 v1 (pre L 0).length (vs (pre L 0))) := Lib.hid hown
      clear hb hown
      go_wp2_with fail
      go_loopw [6, 27] (fun v s wr => ∃ k : Nat, k ≤ 3 ∧ s = .int .i64 k ∧ wr.ownsRow w.heap.size 9 1 v (pre L k).length (vs (pre L k)) ∧ Below w.heap.size w wr) (fun _ s _ => 3 - (intOf s).toNat)
      case atStart => exact ⟨0, by omega, rfl, O1.out, W1.out⟩
      case round =>
        obtain ⟨k, hk, rfl, hown, hbl⟩ := hrel
        have OW := Lib.hid hown; have WR := Lib.hid hbl; clear hown
        by_cases hlt : k < 3
        · have hl : (k : Int) < 3 := by omega
          have c0 := keep hbl (HT.out k hlt)
          have SU := Lib.hid (sl_keep hbl (HS.out k hlt))
          have b1 := HP.out k
          have b2 := HL.out k
          have HZ := Lib.hid hbl.size
          clear hbl
          obtain ⟨A, c, hU⟩ := sl_slice SU.out
          rw [hU] at c0 SU
          clear hU
          go_wp2_with (at_builtin; refine append_sl rfl (.tmp 31) (.tmp 32) 46 rfl w.heap.size 9 i0 _ Try.underlying46 I.out.1 I.out.2.1 I.out.2.2.1 I.out.2.2.2 rfl _ (pre L k) rfl OW.out _ (L k) rfl SU.out (by omega) HZ.out ?_; intro v2 w2 hown2 hg2)
          have W2 := Lib.hid (WR.out.grown hg2 WR.out.size (fun q hq => (OW.out.lt q hq).1))
          go_roundw
          case rel => exact ⟨k + 1, by omega, by go_num, hown2, W2.out⟩
          case measure => simp [intOf]; omega
        · have e : k = 3 := by omega
          subst e
          clear hbl
          go_wp2_with fail
          refine bodyPost_ret (v := u6) (by simp [results, Try.results105, go_sem]) rfl ⟨⟨u6, rfl, sl_own OW.out⟩, WR.out⟩
end Route
end Go.Proofs.Yteaccanhahmclaa
