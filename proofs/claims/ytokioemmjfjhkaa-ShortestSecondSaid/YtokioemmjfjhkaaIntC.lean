/- Lists of numbers: slices.Index, slices.Contains. Lists of numbers that grow by append from any list; slices.Grow, slices.Concat at them. slices.Compare at lists of numbers: it answers some number. Another way than the shortest one, in plain Lean. -/
import Derived.Test.YtokioemmjfjhkaaNetA
import Derived.Test.YtokioemmjfjhkaaCpy
import Derived.Test.YtokioemmjfjhkaaExpB
import Derived.Test.YtokioemmjfjhkaaDijL
namespace Go.Proofs.Ytokioemmjfjhkaa
open Go.RowKit
namespace Net
open Kit Chart
/-- Where a number stands in a list; -1: nowhere. -/
def ifx (f : Nat → Int) (x : Int) (n : Nat) : Int := fnd (fun k => decide (f k = x)) n
set_option maxRecDepth 100000 in
set_option maxHeartbeats 2000000 in
theorem iidx_w (n cap b off : Nat) (f : Nat → Int) (x : Int) (w : World) (_hm : cap ≤ 9223372036854775807) (_hc : n ≤ cap) (HV : Hid (∀ k, k < n → w.cell? ⟨b, off + k, none⟩ = some (.int .i64 (f k)))) :
    Calls Try.prog 48 #[.slice (some ⟨b, off, none⟩) n cap, .int .i64 x] w fun e w' => e = .returned (.int .i64 (ifx f x n)) ∧ Below w.heap.size w w' := by
  go_enter Try.func48, Try.ntmps48
  obtain ⟨r, hr⟩ : ∃ r, r = ifx f x n := ⟨_, rfl⟩
  rw [← hr]
  have HR := Lib.hid hr; clear hr
  go_wp2_with fail
  go_loopw [5, 8] (fun _ t wr => ∃ k : Nat, k ≤ n ∧ t = .int .i64 k ∧ (∀ j, j < k → decide (f j = x) = false) ∧ Below w.heap.size w wr) (fun _ t _ => n - (intOf t).toNat)
  case atStart => exact ⟨0, Nat.zero_le _, rfl, fun j hj => absurd hj (Nat.not_lt_zero j), Below.refl _ _⟩
  case round =>
    obtain ⟨k, hk, rfl, hno, hbl⟩ := hrel
    have HN := Lib.hid hno; have HB := Lib.hid hbl; clear hno
    by_cases hlt : k < n
    · have c0 := keep hbl (HV.out k hlt)
      have hl : (k : Int) < (n : Int) := by omega
      have HS := Lib.hid (show ∀ hh : decide (f k = x) = false, ∀ j, j < k + 1 → decide (f j = x) = false from fun hh j hj => by
        rcases Nat.lt_or_ge j k with hl | hl
        · exact HN.out j hl
        · rw [show j = k from by omega]; exact hh)
      have HT := Lib.hid (show ∀ hh : decide (f k = x) = true, r = k from fun hh => by rw [HR.out]; exact fnd_at HN.out hh n hlt)
      have hq : (x == f k) = decide (f k = x) := by rw [Bool.eq_iff_iff, beq_iff_eq, decide_eq_true_iff]; exact eq_comm
      clear hbl
      generalize decide (f k = x) = d at *
      cases d with
      | true =>
        have e := HT.out rfl
        subst e
        go_wp2_with fail
        go_ret
        exact ⟨rfl, HB.out⟩
      | false =>
        go_wp2_with fail
        exact ⟨⟨k + 1, by omega, by go_num, (by first | exact HS.out rfl | exact HS.out trivial), HB.out⟩, by simp [intOf]; omega⟩
    · have he : k = n := by omega
      have hl : ¬ (k : Int) < (n : Int) := by omega
      have e : r = -1 := by rw [HR.out]; exact fnd_no (fun j hj => HN.out j (by omega))
      subst e
      clear hbl
      go_wp2_with fail
      go_ret
      exact ⟨rfl, HB.out⟩
set_option maxHeartbeats 1000000 in
theorem iidx_none (A : Option Addr) (cap : Nat) (x : Int) (w : World) :
    Calls Try.prog 48 #[.slice A 0 cap, .int .i64 x] w fun e w' => e = .returned (.int .i64 (-1)) ∧ Below w.heap.size w w' := by
  go_enter Try.func48, Try.ntmps48
  go_wp2_with fail
  go_loopw [8] (fun s wr => s = .int .i64 0 ∧ Below w.heap.size w wr) (fun _ _ => 0)
  case atStart => exact ⟨rfl, Below.refl _ _⟩
  case round =>
    obtain ⟨rfl, hbl⟩ := hrel
    go_wp2_with fail
    all_goals (go_ret; exact ⟨rfl, hbl⟩)
theorem iidxC {v : Value} {n : Nat} {f : Nat → Int} {w : World} (hv : IV w v n f) (x : Int) :
    Calls Try.prog 48 #[v, .int .i64 x] w fun e w' => e = .returned (.int .i64 (ifx f x n)) ∧ Below w.heap.size w w' := by
  rcases hv with ⟨rfl, h⟩ | ⟨h0, b, off, cap, rfl, hc, hm, HV⟩
  · rcases h with rfl | ⟨a, cap, rfl, -⟩
    · exact iidx_none none 0 x w
    · exact iidx_none (some a) cap x w
  · exact iidx_w n cap b off f x w (Nat.le_trans hm (by decide)) hc (Lib.hid HV)
set_option maxHeartbeats 1000000 in
theorem icont_w (v : Value) (x : Int) (r : Int) (w : World) (H : Hid (∀ w1, Below w.heap.size w w1 → Calls Try.prog 48 #[v, .int .i64 x] w1 fun e w' => e = .returned (.int .i64 r) ∧ Below w1.heap.size w1 w')) :
    Calls Try.prog 51 #[v, .int .i64 x] w fun e w' => e = .returned (.bool (decide (0 ≤ r))) ∧ Below w.heap.size w w' := by
  go_enter Try.func51, Try.ntmps51
  go_wp2_with fail
  (with_reducible refine (H.out _ (Below.refl _ _)).mono ?_); rintro e w1 ⟨rfl, hb⟩
  have HB := Lib.hid hb; clear hb
  go_wp2_with fail
  all_goals (go_ret; exact ⟨rfl, HB.out⟩)
theorem icontC {v : Value} {n : Nat} {f : Nat → Int} {w : World} (hv : IV w v n f) (x : Int) :
    Calls Try.prog 51 #[v, .int .i64 x] w fun e w' => e = .returned (.bool (decide (0 ≤ ifx f x n))) ∧ Below w.heap.size w w' :=
  icont_w v x _ w (Lib.hid fun _ hb => iidxC (iv_keep hb hv) x)
end Net
end Go.Proofs.Ytokioemmjfjhkaa
namespace Go.Proofs.Ytokioemmjfjhkaa
open Go.RowKit
namespace Net
open Kit Chart Route
/-- The cells of a list of numbers. -/
abbrev vsN (L : List Nat) : List Value := L.map fun x : Nat => Value.int .i64 (x : Int)
theorem vsN_one {L : List Nat} : ∀ u ∈ vsN L, u.oneCell' = true := by
  intro u hu
  obtain ⟨s, -, rfl⟩ := List.mem_map.1 hu
  rfl
/-- A slice that reads as a list of numbers. -/
def NL (w : World) (v : Value) (L : List Nat) : Prop := IV w v L.length (fun k => ((L.getD k 0 : Nat) : Int))
theorem nl_keep {W w1 : World} (hb : Below W.heap.size W w1) {v : Value} {L : List Nat} (h : NL W v L) : NL w1 v L := iv_keep hb h
theorem nl_cells {w : World} {b off : Nat} {L : List Nat} (h : ∀ k, k < L.length → w.cell? ⟨b, off + k, none⟩ = some (.int .i64 ((L.getD k 0 : Nat) : Int))) : ∀ j u, (vsN L)[j]? = some u → w.cell? ((⟨b, off, none⟩ : Addr).add j) = some u := fun j u hu => by
  have hj : j < L.length := by
    have := (List.getElem?_eq_some_iff.1 hu).1
    rwa [List.length_map] at this
  rw [Go.WideShapes.add_plain, h j hj]
  rw [List.getElem?_map, List.getElem?_eq_getElem hj] at hu
  rw [← Option.some.inj hu, List.getD_eq_getElem?_getD, List.getElem?_eq_getElem hj]
  rfl
/-- What a call owns reads as a list. -/
theorem nl_own {w : World} {base : Nat} {E : TypeId} {v : Value} {L : List Nat} (h : w.ownsRow base E 1 v L.length (vsN L)) : NL w v L := by
  have hh := h
  rcases Nat.eq_zero_or_pos L.length with h0 | h0
  · refine Or.inl ⟨h0, ?_⟩
    rcases h.2 with ⟨hv, -⟩ | ⟨g, cap, cur, hv, hb, hg, hnc, hcm, -⟩
    · exact Or.inl hv
    · exact Or.inr ⟨⟨g, 0, none⟩, cap, by rw [hv, h0], hcm⟩
  · rcases h.2 with ⟨-, h1⟩ | ⟨g, cap, cur, hv, hb, hg, hnc, hcm, -⟩
    · omega
    · refine Or.inr ⟨h0, g, 0, cap, hv, hnc, hcm, fun k hk => ?_⟩
      subst hv
      have hc := hh.cellAt k (by omega)
      rw [Nat.zero_add, hc, List.getElem?_map, List.getElem?_eq_getElem hk]
      show some (Value.int .i64 ((L[k] : Nat) : Int)) = some (.int .i64 ((L.getD k 0 : Nat) : Int))
      rw [List.getD_eq_getElem?_getD, List.getElem?_eq_getElem hk]
      rfl
theorem nl_slice {w : World} {v : Value} {L : List Nat} (h : NL w v L) : ∃ A cap, v = .slice A L.length cap := iv_slice h
section
variable {P : Program} {w : World}
/-- append(v, u...), the source a list of numbers in memory, nil or not. -/
theorem append_nl {ops : Array Oper} {rest : List Oper} {o : Oper} {a : Act} {Q : Exit → Act → World → Prop} (hgd : o.guard = none) (s x : Operand) (t : TypeId)
    (ho : o.op = .call { callee := .builtin .append, args := #[s, x], argTypes := #[t, t] })
    (base : Nat) (e : TypeId) (i : TypeInfo) (z : Value) (ht : P.underlying t = some (.slice e)) (hi : P.info? e = some i) (hz : i.zero = some z)
    (hsize : i.size = 1) (hby : i.bytes = 8) (hzs : z.cells.size = 1)
    (v : Value) (L : List Nat) (hs : a.eval s = v) (hown : w.ownsRow base e 1 v L.length (vsN L))
    (u : Value) (M : List Nat) (hx : a.eval x = u) (hu : NL w u M) (hlen : L.length + M.length ≤ 1000000) (hbase : base ≤ w.heap.size)
    (h : ∀ v' w', w'.ownsRow base e 1 v' (L ++ M).length (vsN (L ++ M)) → w.grownBy w' v.ownBlock → wpList P ops Q rest (a.put o.dst v') w') : wpList P ops Q (o :: rest) a w := by
  have key : ∀ (ad : Addr) (c : Nat), u = .slice (some ad) M.length c → (∀ j y, (vsN M)[j]? = some y → w.cell? (ad.add j) = some y) → wpList P ops Q (o :: rest) a w := fun ad c hu' hc => by
    subst hu'
    refine wpList_append_own w hgd s x t ho base e i z 1 8 ht hi hz hsize hby hzs (by decide) v L.length (vsN L) hs hown ad M.length c (vsN M) hx (by rw [List.length_map, Nat.mul_one]) hc vsN_one (by unfold maxLen; omega) (by omega) hbase fun v' w' h2 h3 _ => h v' w' ?_ h3
    show w'.ownsRow base e 1 v' _ ((L ++ M).map fun x : Nat => Value.int .i64 (x : Int))
    rw [List.length_append, List.map_append]
    exact h2
  rcases hu with ⟨h0, rfl | ⟨ad, c, rfl, hc⟩⟩ | ⟨h0, b, off, c, rfl, h1, h2, h3⟩
  · obtain rfl : M = [] := List.length_eq_zero_iff.1 h0
    refine wpList_append_own_none hgd s x t ho base e i 1 ht hi v L.length (vsN L) hs hown hx ?_
    have := h v w (by rw [List.append_nil]; exact hown) (grown_refl w _)
    exact this
  · obtain rfl : M = [] := List.length_eq_zero_iff.1 h0
    exact key ad c rfl fun j y hy => by simp at hy
  · exact key ⟨b, off, none⟩ c rfl (nl_cells h3)
end
set_option maxRecDepth 100000 in
set_option maxHeartbeats 1000000 in
theorem growC (n : Nat) (w : World) (h0 : 0 < n) (h1 : n ≤ 1000000) : Calls Try.prog 68 #[.slice none 0 0, .int .i64 n] w fun e w' => (∃ v, e = .returned v ∧ w'.ownsRow w.heap.size 3 1 v 0 []) ∧ Below w.heap.size w w' := by
  obtain ⟨i0, hi, hz0, hz1, hz2⟩ := info_parts Cpy.int_info
  have hr := fun W : World => Lib.run_append_nil_zeros (P := Try.prog) W 22 3 22 3 i0 (.int .i64 0) .i64 .i64 Try.underlying22 Try.underlying3 hi hz0 n h0 (by rw [hz1]; decide) (by omega) (by rw [hz2]; omega)
  have hp : 0 < (n : Int) := by omega
  have hcap : grownCap w n 0 3 ≤ maxLen := grownCap_le_maxLen w n 0 3 (by unfold maxLen; omega)
  have hcap0 : grownCap w n 0 3 ≤ 9223372036854775807 := Nat.le_trans hcap (by decide)
  have hge := grownCap_ge w n 0 3
  have HR := Lib.hid (hr w); clear hr
  generalize grownCap w n 0 3 = cap at *
  go_enter Try.func68, Try.ntmps68
  go_wp2_with (at_builtin; refine Lib.wpList_append_run _ rfl _ _ _ _ rfl _ _ rfl rfl _ _ HR.out ?_)
  all_goals first | (exfalso; omega) | skip
  refine bodyPost_ret (v := .slice (some ⟨w.heap.size, 0, none⟩) 0 cap) (by simp [results, Try.results68, go_sem]) rfl ⟨⟨_, rfl, rfl, Or.inr ⟨w.heap.size, cap, Builtin.zeroCells #[Value.int .i64 0] n ++ Builtin.zeroCells #[Value.int .i64 0] (cap - n), rfl, Nat.le_refl _, heap_alloc_new w _, Nat.zero_le _, hcap, ?_, by simp⟩⟩, ?_⟩
  · simp [Builtin.zeroCells]; omega
  · exact b_drew (b_alloc (Below.refl _ _) _)
/-- The slices of a slice of two. -/
abbrev T2 (w : World) (b : Nat) (U : Nat → Value) : Prop := ∀ k, k < 2 → w.cell? ⟨b, k, none⟩ = some (U k)
/-- The first k of two lists, one behind the other. -/
def preN (L : Nat → List Nat) : Nat → List Nat
  | 0 => []
  | k + 1 => preN L k ++ L k
theorem preN_len {L : Nat → List Nat} (h : ∀ k, (L k).length ≤ 1000) : ∀ k, (preN L k).length ≤ 1000 * k
  | 0 => Nat.le_refl _
  | k + 1 => by
    show (preN L k ++ L k).length ≤ _
    rw [List.length_append]
    have := preN_len h k; have := h k; omega
set_option maxRecDepth 100000 in
set_option maxHeartbeats 4000000 in
theorem concat_w (b : Nat) (U : Nat → Value) (L : Nat → List Nat) (w : World) (HT : Hid (T2 w b U)) (HS : Hid (∀ k, k < 2 → NL w (U k) (L k))) (HL : Hid (∀ k, (L k).length ≤ 1000)) (h0 : 0 < (preN L 2).length) :
    Calls Try.prog 46 #[.slice (some ⟨b, 0, none⟩) 2 2] w fun e w' => (∃ v, e = .returned v ∧ w'.ownsRow w.heap.size 3 1 v (preN L 2).length (vsN (preN L 2))) ∧ Below w.heap.size w w' := by
  obtain ⟨i0, hi, hz0, hz1, hz2⟩ := info_parts Cpy.int_info
  have I := Lib.hid (And.intro hi (And.intro hz0 (And.intro hz1 hz2))); clear hi hz0 hz1 hz2
  have HP := Lib.hid (preN_len HL.out)
  have e3 := Lib.hid h0
  go_enter Try.func46, Try.ntmps46
  go_wp2_with fail
  go_loopw [3, 11] (fun sm s wr => ∃ k : Nat, k ≤ 2 ∧ s = .int .i64 k ∧ sm = .int .i64 ((preN L k).length : Nat) ∧ w = wr) (fun _ s _ => 2 - (intOf s).toNat)
  case atStart => exact ⟨0, by omega, rfl, rfl, rfl⟩
  case round =>
    obtain ⟨k, hk, rfl, rfl, rfl⟩ := hrel
    by_cases hlt : k < 2
    · have hl : (k : Int) < 2 := by omega
      obtain ⟨A, c, hU⟩ := nl_slice (HS.out k hlt)
      have c0 := HT.out k hlt
      rw [hU] at c0
      have b1 := HP.out k
      have b2 := HL.out k
      have hn : (preN L (k + 1)).length = (preN L k).length + (L k).length := by show (preN L k ++ L k).length = _; rw [List.length_append]
      have HN := Lib.hid hn; clear hn hU
      generalize (preN L k).length = x at *
      generalize (L k).length = y at *
      go_wp2_with fail
      all_goals first | (exfalso; omega) | skip
      go_roundw
      case rel => exact ⟨k + 1, by omega, by go_num, by rw [HN.out]; go_num, by first | rfl | trivial⟩
      case measure => simp [intOf]; omega
    · have e : k = 2 := by omega
      subst e
      have b1 := HP.out 2
      have b3 := e3.out
      have HG := Lib.hid fun W : World => growC (preN L 2).length W b3 (by omega)
      generalize (preN L 2).length = x at *
      go_wp2_with fail
      (with_reducible refine (HG.out _).mono ?_); rintro e w1 ⟨⟨v1, rfl, hown⟩, hb⟩
      have W1 := Lib.hid hb
      have O1 : Hid (w1.ownsRow w.heap.size 3 1 v1 (preN L 0).length (vsN (preN L 0))) := Lib.hid hown
      clear hb hown
      go_wp2_with fail
      go_loopw [6, 27] (fun v s wr => ∃ k : Nat, k ≤ 2 ∧ s = .int .i64 k ∧ wr.ownsRow w.heap.size 3 1 v (preN L k).length (vsN (preN L k)) ∧ Below w.heap.size w wr) (fun _ s _ => 2 - (intOf s).toNat)
      case atStart => exact ⟨0, by omega, rfl, O1.out, W1.out⟩
      case round =>
        obtain ⟨k, hk, rfl, hown, hbl⟩ := hrel
        have OW := Lib.hid hown; have WR := Lib.hid hbl; clear hown
        by_cases hlt : k < 2
        · have hl : (k : Int) < 2 := by omega
          have c0 := keep hbl (HT.out k hlt)
          have SU := Lib.hid (nl_keep hbl (HS.out k hlt))
          have b1 := HP.out k
          have b2 := HL.out k
          have HZ := Lib.hid hbl.size
          clear hbl
          obtain ⟨A, c, hU⟩ := nl_slice SU.out
          rw [hU] at c0 SU
          clear hU
          go_wp2_with (at_builtin; refine append_nl rfl (.tmp 31) (.tmp 32) 22 rfl w.heap.size 3 i0 _ Try.underlying22 I.out.1 I.out.2.1 I.out.2.2.1 I.out.2.2.2 rfl _ (preN L k) rfl OW.out _ (L k) rfl SU.out (by omega) HZ.out ?_; intro v2 w2 hown2 hg2)
          have W2 := Lib.hid (WR.out.grown hg2 WR.out.size (fun q hq => (OW.out.lt q hq).1))
          go_roundw
          case rel => exact ⟨k + 1, by omega, by go_num, hown2, W2.out⟩
          case measure => simp [intOf]; omega
        · have e : k = 2 := by omega
          subst e
          clear hbl
          go_wp2_with fail
          refine bodyPost_ret (v := u6) (by simp [results, Try.results46, go_sem]) rfl ⟨⟨u6, rfl, OW.out⟩, WR.out⟩
end Net
end Go.Proofs.Ytokioemmjfjhkaa
namespace Go.Proofs.Ytokioemmjfjhkaa
open Go.RowKit
namespace Net
open Kit Chart
theorem nan_w (x : Int) (w : World) : Calls Try.prog 87 #[.int .i64 x] w fun e w' => e = .returned (.bool false) ∧ w = w' := by
  have h1 : (x == x) = true := by simp
  have h2 : (x != x) = false := by simp
  go_enter Try.func87, Try.ntmps87
  go_wp2_with fail
  go_ret
  exact ⟨rfl, rfl⟩
set_option maxRecDepth 100000 in
set_option maxHeartbeats 2000000 in
theorem cmp_w (x y : Int) (w : World) : Calls Try.prog 69 #[.int .i64 x, .int .i64 y] w fun e w' => (∃ r : Int, e = .returned (.int .i64 r)) ∧ w = w' := by
  have N1 := Lib.hid (nan_w x w); have N2 := Lib.hid (nan_w y w)
  go_enter Try.func69, Try.ntmps69
  go_wp2_with fail
  (with_reducible refine N1.out.mono ?_); rintro e w1 ⟨rfl, rfl⟩
  go_wp2_with fail
  (with_reducible refine N2.out.mono ?_); rintro e w1 ⟨rfl, rfl⟩
  rcases Int.lt_trichotomy x y with h | h | h
  · go_wp2_with fail
    go_ret
    exact ⟨⟨_, rfl⟩, rfl⟩
  · subst h
    have h0 : ¬ x < x := by omega
    go_wp2_with fail
    go_ret
    exact ⟨⟨_, rfl⟩, rfl⟩
  · have h0 : ¬ x < y := by omega
    go_wp2_with fail
    go_ret
    exact ⟨⟨_, rfl⟩, rfl⟩
set_option maxRecDepth 100000 in
set_option maxHeartbeats 4000000 in
/-- slices.Compare at two lists of numbers. -/
theorem compare_w (A B : Option Addr) (n c m d : Nat) (f g : Nat → Int) (w : World) (hc : n ≤ c ∧ c ≤ 9223372036854775807) (_hd : m ≤ d ∧ d ≤ 9223372036854775807) (HA : Hid (IV w (.slice A n c) n f)) (HB : Hid (IV w (.slice B m d) m g)) :
    Calls Try.prog 47 #[.slice A n c, .slice B m d] w fun e w' => (∃ r : Int, e = .returned (.int .i64 r)) ∧ Below w.heap.size w w' := by
  go_enter Try.func47, Try.ntmps47
  go_wp2_with fail
  go_loopw [11] (fun s wr => ∃ k : Nat, k ≤ n ∧ s = .int .i64 k ∧ Below w.heap.size w wr) (fun s _ => n - (intOf s).toNat)
  case atStart => exact ⟨0, Nat.zero_le _, rfl, Below.refl _ _⟩
  case round =>
    obtain ⟨k, hk, rfl, hbl⟩ := hrel
    have BR := Lib.hid hbl
    by_cases hlt : k < n
    · have hl : (k : Int) < (n : Int) := by omega
      have HLT := Lib.hid hlt
      obtain ⟨b, off, c', e, h1, h2, h3⟩ := iv_at HA.out (by omega)
      injection e with e1 _ e3
      subst e1 e3
      have x0 := keep hbl (h3 k hlt)
      clear h3
      by_cases hm : m ≤ k
      · have hmi : (m : Int) ≤ (k : Int) := by omega
        clear hbl
        go_wp2_with fail
        go_ret
        exact ⟨⟨_, rfl⟩, BR.out⟩
      · have hmi : ¬ (m : Int) ≤ (k : Int) := by omega
        have hmk : (k : Int) < (m : Int) := by omega
        obtain ⟨b', off', c', e, h1', h2', h3'⟩ := iv_at HB.out (by omega)
        injection e with e1 _ e3
        subst e1 e3
        have y0 := keep hbl (h3' k (by omega))
        have CM := Lib.hid (cmp_w (f k) (g k) wr)
        clear h3' hbl
        generalize f k = fk at *
        generalize g k = gk at *
        go_wp2_with fail
        (with_reducible refine CM.out.mono ?_); rintro e w1 ⟨⟨q, rfl⟩, rfl⟩
        by_cases hq : q = 0
        · subst hq
          go_wp2_with fail
          go_roundw
          case rel => exact ⟨k + 1, HLT.out, by go_num, BR.out⟩
          case measure => have := HLT.out; simp [intOf]; omega
        · have hq1 : (q == 0) = false := by simpa using hq
          have hq2 : (q != 0) = true := by simpa using hq
          go_wp2_with fail
          go_ret
          exact ⟨⟨_, rfl⟩, BR.out⟩
    · obtain rfl : k = n := by omega
      have hl : ¬ (k : Int) < (k : Int) := by omega
      clear hbl
      by_cases hm : k < m
      · have hmi : (k : Int) < (m : Int) := by omega
        go_wp2_with fail
        go_ret
        exact ⟨⟨_, rfl⟩, BR.out⟩
      · have hmi : ¬ (k : Int) < (m : Int) := by omega
        go_wp2_with fail
        go_ret
        exact ⟨⟨_, rfl⟩, BR.out⟩
end Net
end Go.Proofs.Ytokioemmjfjhkaa
namespace Go.Proofs.Ytokioemmjfjhkaa
namespace Short
/-- The i-th fix of a way. -/
def at' (a : Nat) (z : List Nat) (i : Nat) : Nat := (a :: z).getD i 0
theorem at_zero (a : Nat) (z : List Nat) : at' a z 0 = a := rfl
theorem at_succ (a b : Nat) (z : List Nat) (i : Nat) : at' a (b :: z) (i + 1) = at' b z i := rfl
theorem at_mem {a : Nat} {z : List Nat} {i : Nat} (h : i ≤ z.length) : at' a z i ∈ a :: z := by
  unfold at'
  rw [List.getD_eq_getElem?_getD, List.getElem?_eq_getElem (by simpa using Nat.lt_succ_of_le h)]
  exact List.getElem_mem _
theorem take_at : ∀ (i : Nat) (a : Nat) (z l : List Nat), i ≤ z.length → (a :: z).take i ++ (at' a z i :: l) = a :: (z.take i ++ l)
  | 0, _, _, _, _ => rfl
  | i + 1, a, [], _, h => absurd h (by simp)
  | i + 1, a, b :: z, l, h => by
    have q := take_at i b z l (by simpa using h)
    rw [at_succ, List.take_succ_cons, List.cons_append, q, List.take_succ_cons, List.cons_append]
theorem fin_take : ∀ (i : Nat) (a : Nat) (z : List Nat), i ≤ z.length → fin a (z.take i) = at' a z i
  | 0, _, _, _ => rfl
  | i + 1, a, [], h => absurd h (by simp)
  | i + 1, a, b :: z, h => by
    rw [List.take_succ_cons, at_succ]
    exact fin_take i b z (by simpa using h)
theorem take_next {i : Nat} {a : Nat} {z : List Nat} (h : i < z.length) : z.take (i + 1) = z.take i ++ [at' a z (i + 1)] := by
  rw [List.take_add_one, List.getElem?_eq_getElem h]
  congr 1
  show [z[i]] = [(a :: z).getD (i + 1) 0]
  rw [List.getD_cons_succ, List.getD_eq_getElem?_getD, List.getElem?_eq_getElem h]
  rfl
section
variable {G : Gr} {B : Int} {a b : Nat} {z : List Nat}
theorem adj_at (hc : chn G a z) {i : Nat} (h : i < z.length) : G.adj (at' a z i) (at' a z (i + 1)) := by
  have q : chn G a (z.take (i + 1) ++ z.drop (i + 1)) := by rw [List.take_append_drop]; exact hc
  have q1 := (chn_append _ _ _).1 q
  rw [take_next (a := a) h] at q1
  have q2 := ((chn_append _ _ _).1 q1.1).2
  rw [fin_take i a z (Nat.le_of_lt h)] at q2
  exact q2.1
theorem len_next {i : Nat} (h : i < z.length) : len G.d a (z.take (i + 1)) = len G.d a (z.take i) + G.d (at' a z i) (at' a z (i + 1)) := by
  rw [take_next (a := a) h, len_append, fin_take i a z (Nat.le_of_lt h)]
  show _ = _ + G.d _ _
  simp [len]
theorem len_bd (hG : G.Ok B) : ∀ (l : List Nat) (a : Nat), a < G.N → chn G a l → len G.d a l ≤ B * l.length
  | [], _, _, _ => by simp [len]
  | c :: l, a, ha, h => by
    have h1 := (hG.pos a ha c h.1).2
    have h2 := len_bd hG l c (adj_lt hG ha h.1) h.2
    have e : B * ((c :: l).length : Nat) = B + B * (l.length : Nat) := by
      rw [List.length_cons]; push_cast; rw [Int.mul_add, Int.mul_one, Int.add_comm]
    show G.d a c + len G.d c l ≤ _
    omega
theorem chn_take (hc : chn G a z) (i : Nat) : chn G a (z.take i) := by
  have q : chn G a (z.take i ++ z.drop i) := by rw [List.take_append_drop]; exact hc
  exact ((chn_append _ _ _).1 q).1
/-- What is shut before step i. -/
def shutB (a : Nat) (z : List Nat) (i : Nat) : Nat → Bool := fun x => decide (x ∈ (a :: z).take i)
theorem shutB_zero : shutB a z 0 = noc := by funext x; simp [shutB, noc]
theorem shutB_next {i : Nat} (h : i ≤ z.length) : shutB a z (i + 1) = fun x => if x = at' a z i then true else shutB a z i x := by
  funext x
  have e : (a :: z).take (i + 1) = (a :: z).take i ++ [at' a z i] := by
    rw [List.take_add_one, List.getElem?_eq_getElem (show i < (a :: z).length by simpa using Nat.lt_succ_of_le h)]
    congr 1
    unfold at'
    rw [List.getD_eq_getElem?_getD, List.getElem?_eq_getElem (show i < (a :: z).length by simpa using Nat.lt_succ_of_le h)]
    rfl
  unfold shutB
  rw [e]
  by_cases q : x = at' a z i
  · rw [if_pos q]; simp [q]
  · rw [if_neg q]; simp [q]
theorem at_inj (hn : (a :: z).Nodup) {i j : Nat} (hi : i ≤ z.length) (hj : j ≤ z.length) (e : at' a z i = at' a z j) : i = j := by
  unfold at' at e
  have h1 : i < (a :: z).length := by simpa using Nat.lt_succ_of_le hi
  have h2 : j < (a :: z).length := by simpa using Nat.lt_succ_of_le hj
  rw [List.getD_eq_getElem?_getD, List.getElem?_eq_getElem h1, List.getD_eq_getElem?_getD, List.getElem?_eq_getElem h2] at e
  exact (List.getElem_inj hn).1 e
theorem at_not (hn : (a :: z).Nodup) {i j : Nat} (hij : i ≤ j) (hj : j ≤ z.length) : shutB a z i (at' a z j) = false := by
  refine decide_eq_false fun hm => ?_
  obtain ⟨k, hk, e⟩ := List.mem_iff_getElem.1 hm
  rw [List.length_take] at hk
  rw [List.getElem_take] at e
  have h1 : k < (a :: z).length := by omega
  have e2 : at' a z k = at' a z j := by
    rw [← e]
    unfold at'
    rw [List.getD_eq_getElem?_getD, List.getElem?_eq_getElem h1]
    rfl
  have := at_inj hn (by simp at h1; omega) hj e2
  omega
theorem fin_at (z : List Nat) (a : Nat) : fin a z = at' a z z.length := by
  have := fin_take z.length a z (Nat.le_refl _)
  rwa [List.take_length] at this
/-- Another way. -/
structure Alt (G : Gr) (a b : Nat) (z : List Nat) (q : List Nat) (n : Int) : Prop where
  chn : chn G a q
  fin : fin a q = b
  nodup : (a :: q).Nodup
  other : q ≠ z
  len : Short.len G.d a q = n
theorem alt_of {i : Nat} (hi : i < z.length) (hc : chn G a z) (hn : (a :: z).Nodup) {l : List Nat} {n : Int} (h : Is G (at' a z i) b (shutB a z i) (at' a z (i + 1) : Nat) l) (hl : Short.len G.d (at' a z i) l = n) : Alt G a b z (z.take i ++ l) (Short.len G.d a (z.take i) + n) where
  chn := (chn_append _ _ _).2 ⟨by
    have q : Short.chn G a (z.take i ++ z.drop i) := by rw [List.take_append_drop]; exact hc
    exact ((chn_append _ _ _).1 q).1, by rw [fin_take i a z (Nat.le_of_lt hi)]; exact h.chn⟩
  fin := by rw [fin_append, fin_take i a z (Nat.le_of_lt hi)]; exact h.fin
  nodup := by
    rw [← take_at i a z l (Nat.le_of_lt hi)]
    refine List.nodup_append.2 ⟨hn.sublist (List.take_sublist _ _), h.nodup, fun x hx y hy e => ?_⟩
    subst e
    rcases List.mem_cons.1 hy with e | hy
    · have := at_not hn (Nat.le_refl i) (Nat.le_of_lt hi)
      rw [← e] at this
      exact absurd hx (by simpa [shutB] using this)
    · have := h.opn x hy
      exact absurd hx (by simpa [shutB] using this)
  other := fun e => by
    have e2 : l = z.drop i := by
      have q : z.take i ++ l = z.take i ++ z.drop i := by rw [e, List.take_append_drop]
      exact List.append_cancel_left q
    have e3 : z.drop i = at' a z (i + 1) :: z.drop (i + 1) := by
      rw [List.drop_eq_getElem_cons hi]
      congr 1
      show _ = (a :: z).getD (i + 1) 0
      rw [List.getD_cons_succ, List.getD_eq_getElem?_getD, List.getElem?_eq_getElem hi]
      rfl
    exact h.fst _ _ (e2.trans e3) rfl
  len := by rw [len_append, fin_take i a z (Nat.le_of_lt hi), hl]
end
end Short
end Go.Proofs.Ytokioemmjfjhkaa
