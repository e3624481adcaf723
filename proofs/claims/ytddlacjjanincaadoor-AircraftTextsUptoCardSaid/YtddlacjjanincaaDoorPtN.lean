/- strconv.Itoa and the program's number: what they return. -/
import Derived.Test.YtddlacjjanincaaDoorNumT
import Derived.Test.YtddlacjjanincaaDoorChV
import Derived.Shelf.Strconv.Itoa3
import Derived.Shelf.Strconv.AtoiAll
import Derived.Shelf.Strconv.ErrVarAll
import Derived.Lib.AtoiAllCases
import Derived.Shelf.Lay
import Derived.Test.YtddlacjjanincaaDoorProg
namespace Go.Proofs.YtddlacjjanincaaDoor
open Go.RowKit Go.Shelf
shelf_lay LaysM.n171 Nm 171 at Tryd as itoaLays
shelf_lay LaysC.n172 Nm 172 at Tryd as atoiLays
namespace Pt
open Kit Chart
/-- What the texts read of the library's variables. -/
structure Vars (w : World) : Prop where
  tab : Lib.TabIs Tryd.prog w "internal/strconv.uint64pow10" .u64 Lib.pow10Tab
  syn : ∃ tp p, w.var? Tryd.prog "strconv.ErrSyntax" = some #[.iface tp p]
  rng : ∃ tp p, w.var? Tryd.prog "strconv.ErrRange" = some #[.iface tp p]
  len : ∃ m : Int, w.cell? ⟨2, 0, none⟩ = some (.int .i64 m)
theorem var_keep {w w1 : World} (hb : Below w.heap.size w w1) {n : String} {g : Nat} {cs : Array Value} (hg : Tryd.prog.globalNamed n = some g) (h : w.var? Tryd.prog n = some cs) (h0 : 0 < cs.size) : w1.var? Tryd.prog n = some cs := by
  have c := World.var?_cell hg h 0
  rw [Array.getElem?_eq_getElem h0] at c
  exact var?_below hb hg (lt_of_cell c) h
theorem vars_keep {w w1 : World} (hb : Below w.heap.size w w1) (h : Vars w) : Vars w1 := by
  refine ⟨var_keep hb (g := 1) (by kernel_rfl) h.tab (by decide), ?_, ?_, h.len.elim fun m q => ⟨m, keep hb q⟩⟩
  · obtain ⟨tp, p, q⟩ := h.syn; exact ⟨tp, p, var_keep hb (g := 3) (by kernel_rfl) q Nat.zero_lt_one⟩
  · obtain ⟨tp, p, q⟩ := h.rng; exact ⟨tp, p, var_keep hb (g := 4) (by kernel_rfl) q Nat.zero_lt_one⟩
theorem below_grow {N : Nat} {w0 w : World} (h : Below N w0 w) (hN : N ≤ w0.heap.size) (k : Nat) (os : Array Obj) : Below N w0 (Go.Sort.grow (w.drewN k) os) := by
  refine ⟨h.os, h.tape, h.output, ?_, fun j hj => ?_⟩
  · rw [Go.Sort.size_grow]; exact Nat.le_trans h.size (Nat.le_add_right _ _)
  · rw [Go.Sort.heap_grow_old _ _ (show j < (w.drewN k).heap.size from Nat.lt_of_lt_of_le hj (Nat.le_trans hN h.size))]
    exact h.block j hj
abbrev txt (n : Int) : ByteArray := ⟨(Lib.itoa n).toArray⟩
theorem itoaC {w : World} (V : Vars w) (n : Int) (h0 : -9223372036854775808 ≤ n) (h1 : n ≤ 9223372036854775807) : Calls Tryd.prog 24 #[.int .i64 n] w fun e w' => e = .returned (.string (txt n)) ∧ Below w.heap.size w w' := by
  have hcon := Any.strconv_Itoa itoaLays n h0 h1 w V.tab
  change Calls Tryd.prog 24 _ _ _ at hcon
  refine hcon.mono ?_
  rintro e w' ⟨rfl, k, os, rfl⟩
  exact ⟨rfl, below_grow (Below.refl _ _) (Nat.le_refl _) k os⟩
/-- strconv.Atoi: a number, or an error that is not nil. -/
def AtoR (s : ByteArray) (e : Ending) : Prop := (∃ v, Lib.atoiAll s.data.toList = .ok v ∧ e = .returned (.tuple #[.int .i64 v, .nilIface])) ∨ ((∀ v, Lib.atoiAll s.data.toList ≠ .ok v) ∧ ∃ v t b, e = .returned (.tuple #[.int .i64 v, .iface t (.pointer (some ⟨b, 0, none⟩))]))
theorem atoiC {w : World} (V : Vars w) (s : ByteArray) (hs : s.size ≤ 2000000) : Calls Tryd.prog 44 #[.string s] w fun e w' => AtoR s e ∧ Below w.heap.size w w' := by
  cases h : Lib.atoiAll s.data.toList with
  | ok v =>
    have hcon := Any.strconv_Atoi_ok atoiLays s (by omega) v h w
    change Calls Tryd.prog 44 _ _ _ at hcon
    refine hcon.mono ?_
    rintro e w' ⟨rfl, q⟩
    refine ⟨Or.inl ⟨v, h, rfl⟩, ?_⟩
    rcases q with rfl | ⟨t, rfl⟩
    · exact Below.refl _ _
    · exact Lib.bytesWorld_below _ _ _
  | «syntax» =>
    obtain ⟨tp, p, hv⟩ := V.syn
    have hcon := Any.strconv_Atoi_syntax_var atoiLays s (by omega) h tp p w hv
    change Calls Tryd.prog 44 _ _ _ at hcon
    refine hcon.mono ?_
    rintro e w' ⟨N, rfl, -, -, hb⟩
    exact ⟨Or.inr ⟨(fun v q => by rw [h] at q; cases q), _, _, N, rfl⟩, hb⟩
  | range =>
    obtain ⟨tp, p, hv⟩ := V.rng
    have hcon := Any.strconv_Atoi_range_var atoiLays s (by omega) h tp p w hv
    change Calls Tryd.prog 44 _ _ _ at hcon
    refine hcon.mono ?_
    rintro e w' ⟨N, rfl, -, -, hb⟩
    exact ⟨Or.inr ⟨(fun v q => by rw [h] at q; cases q), _, _, N, rfl⟩, hb⟩
/-- What number answers. -/
def NumR (s : ByteArray) (e : Ending) : Prop := (∃ n, NumT.numB s.data.toList = some n ∧ e = .returned (.tuple #[.int .i64 n, .bool true])) ∨ (NumT.numB s.data.toList = none ∧ ∃ v, e = .returned (.tuple #[.int .i64 v, .bool false]))
theorem numB_ok {l : List UInt8} {v : Int} (h : Lib.atoiAll l = .ok v) (h6 : l.length ≤ 6) : NumT.numB l = if 0 ≤ v ∧ Lib.itoa v = l then some v else none := by
  rw [Lib.atoiAll_short l (by omega)] at h
  unfold NumT.numB
  cases q : Lib.atoi l with
  | none => rw [q] at h; cases h
  | some m =>
    rw [q] at h
    have e : m = v := by injection h
    subst e
    show (if 0 ≤ m ∧ l.length ≤ 6 ∧ Lib.itoa m = l then some m else none) = _
    by_cases g : 0 ≤ m ∧ Lib.itoa m = l
    · rw [if_pos ⟨g.1, h6, g.2⟩, if_pos g]
    · rw [if_neg (fun k => g ⟨k.1, k.2.2⟩), if_neg g]
theorem numB_long {l : List UInt8} (h6 : ¬ l.length ≤ 6) : NumT.numB l = none := by
  cases q : NumT.numB l with
  | none => rfl
  | some n => exact absurd (NumT.numB_some q).2.1 h6
theorem numB_bad {l : List UInt8} (h : ∀ v, Lib.atoiAll l ≠ .ok v) : NumT.numB l = none := by
  by_cases h6 : l.length ≤ 6
  · unfold NumT.numB
    cases q : Lib.atoi l with
    | none => rfl
    | some m => exact absurd (by rw [Lib.atoiAll_short l (by omega), q]; rfl) (h m)
  · exact numB_long h6
theorem txt_eq (n : Int) (s : ByteArray) : txt n = s ↔ Lib.itoa n = s.data.toList := by
  constructor
  · intro h; rw [← h]
  · intro h
    obtain ⟨⟨a⟩⟩ := s
    have h : Lib.itoa n = a := h
    show (⟨(Lib.itoa n).toArray⟩ : ByteArray) = _
    rw [h]
set_option maxRecDepth 100000 in
set_option maxHeartbeats 4000000 in
theorem number_w (s : ByteArray) (hs : s.size ≤ 2000000) (w : World) (AT : Hid (∀ w1, Below w.heap.size w w1 → Calls Tryd.prog 44 #[.string s] w1 fun e w' => AtoR s e ∧ Below w1.heap.size w1 w'))
    (IT : Hid (∀ n : Int, -9223372036854775808 ≤ n → n ≤ 9223372036854775807 → ∀ w1, Below w.heap.size w w1 → Calls Tryd.prog 24 #[.int .i64 n] w1 fun e w' => e = .returned (.string (txt n)) ∧ Below w1.heap.size w1 w')) :
    Calls Tryd.prog 35 #[.string s] w fun e w' => NumR s e ∧ Below w.heap.size w w' := by
  have hsz : s.size = s.data.toList.length := by rw [Array.length_toList]; rfl
  have HSZ := Lib.hid hsz; clear hsz
  go_enter Tryd.func35, Tryd.ntmps35
  go_wp2_with fail
  (with_reducible refine (AT.out _ (Below.refl _ _)).mono ?_); rintro e w1 ⟨hat, hb⟩
  have W1 := Lib.hid hb; clear hb
  rcases hat with ⟨v, hv, rfl⟩ | ⟨hno, v, t, b, rfl⟩
  · have bd := Lib.atoiAll_bounds hv
    have HV := Lib.hid hv; clear hv
    by_cases h0 : 0 ≤ v
    · by_cases h6 : s.size ≤ 6
      · have h6i : (s.size : Int) ≤ 6 := by omega
        have k6 := decide_eq_true h6i; have k6n := decide_eq_true h6; have k0 := decide_eq_true h0
        have NB := Lib.hid (numB_ok HV.out (by rw [← HSZ.out]; exact h6))
        have ITV := Lib.hid (IT.out v bd.1 bd.2)
        by_cases he : txt v = s
        · have hq : ((txt v).toList == s.toList) = true := by rw [seq_eq]; exact decide_eq_true he
          have NR : Hid (NumT.numB s.data.toList = some v) := Lib.hid (by rw [NB.out, if_pos ⟨h0, (txt_eq v s).1 he⟩])
          generalize txt v = tv at *
          clear he
          go_wp2_with fail
          (with_reducible refine (ITV.out _ W1.out).mono ?_); rintro e w2 ⟨rfl, hb⟩
          have W2 := Lib.hid (b_next W1.out hb); clear hb
          go_wp2_with fail
          go_ret2
          exact ⟨Or.inl ⟨v, NR.out, rfl⟩, W2.out⟩
        · have hq : ((txt v).toList == s.toList) = false := by rw [seq_eq]; exact decide_eq_false he
          have NR : Hid (NumT.numB s.data.toList = none) := Lib.hid (by rw [NB.out, if_neg (fun q => he ((txt_eq v s).2 q.2))])
          generalize txt v = tv at *
          clear he
          go_wp2_with fail
          (with_reducible refine (ITV.out _ W1.out).mono ?_); rintro e w2 ⟨rfl, hb⟩
          have W2 := Lib.hid (b_next W1.out hb); clear hb
          go_wp2_with fail
          go_ret2
          exact ⟨Or.inr ⟨NR.out, v, rfl⟩, W2.out⟩
      · have h6i : ¬ (s.size : Int) ≤ 6 := by omega
        have k6 := decide_eq_false h6i; have k6n := decide_eq_false h6; have k0 := decide_eq_true h0
        have NR : Hid (NumT.numB s.data.toList = none) := Lib.hid (numB_long (by rw [← HSZ.out]; exact h6))
        go_wp2_with fail
        go_ret2
        exact ⟨Or.inr ⟨NR.out, v, rfl⟩, W1.out⟩
    · have k0 := decide_eq_false h0
      have NR : Hid (NumT.numB s.data.toList = none) := Lib.hid (by
        by_cases h6 : s.data.toList.length ≤ 6
        · rw [numB_ok HV.out h6, if_neg (fun q => h0 q.1)]
        · exact numB_long h6)
      go_wp2_with fail
      go_ret2
      exact ⟨Or.inr ⟨NR.out, v, rfl⟩, W1.out⟩
  · have NR := Lib.hid (numB_bad hno)
    clear hno
    go_wp2_with fail
    go_ret2
    exact ⟨Or.inr ⟨NR.out, v, rfl⟩, W1.out⟩
theorem numberC {w : World} (V : Vars w) (s : ByteArray) (hs : s.size ≤ 2000000) : Calls Tryd.prog 35 #[.string s] w fun e w' => NumR s e ∧ Below w.heap.size w w' :=
  number_w s hs w (Lib.hid fun _ hb => atoiC (vars_keep hb V) s hs) (Lib.hid fun n h0 h1 _ hb => itoaC (vars_keep hb V) n h0 h1)
end Pt
end Go.Proofs.YtddlacjjanincaaDoor
