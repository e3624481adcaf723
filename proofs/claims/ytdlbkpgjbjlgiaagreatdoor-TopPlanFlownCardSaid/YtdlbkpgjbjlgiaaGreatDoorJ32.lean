/- Joined texts: NumT, PtN, Spl, OwnS, PtP. -/
import Derived.Lib.ItoaMem
import Derived.Lib.Atoi
import Derived.Lib.AtoiTie
import Derived.WalkKit
import Derived.Test.YtdlbkpgjbjlgiaaGreatDoorJ07
import Derived.Shelf.Strconv.Itoa3
import Derived.Shelf.Strconv.AtoiAll
import Derived.Shelf.Strconv.ErrVarAll
import Derived.Lib.AtoiAllCases
import Derived.Shelf.Lay
import Derived.Test.YtdlbkpgjbjlgiaaGreatDoorProg
import Derived.Lib.SplitLaws
import Derived.Lib.IndexLaws
import Derived.Lib.IndexBytes
import Derived.Lib.Join
import Derived.Test.YtdlbkpgjbjlgiaaGreatDoorJ27
import Derived.Test.YtdlbkpgjbjlgiaaGreatDoorJ08
import Derived.Test.YtdlbkpgjbjlgiaaGreatDoorJ09
import Derived.Shelf.Strings.OnBuilder
import Derived.Lib.ItoaLen
namespace Go.Proofs.YtdlbkpgjbjlgiaaGreatDoor
namespace NumT
open Go.Lib
theorem digit_val {d : Nat} (h : d < 10) : digitVal (UInt8.ofNat (48 + d)) = some d := by
  have e : (UInt8.ofNat (48 + d)).toNat = 48 + d := by
    rw [UInt8.toNat_ofNat']; omega
  unfold digitVal
  rw [e, if_pos (by omega)]
  congr 1; omega
theorem dec_snoc (b : UInt8) : ∀ (l : List UInt8) (acc n d : Nat), decFrom acc l = some n → digitVal b = some d → decFrom acc (l ++ [b]) = some (n * 10 + d)
  | [], acc, n, d, h, hb => by
    have h : acc = n := by injection h
    subst h
    show (match digitVal b with | some d => decFrom (acc * 10 + d) [] | none => none) = _
    rw [hb]; rfl
  | a :: l, acc, n, d, h, hb => by
    have h : (match digitVal a with | some d => decFrom (acc * 10 + d) l | none => none) = some n := h
    show (match digitVal a with | some d => decFrom (acc * 10 + d) (l ++ [b]) | none => none) = _
    cases q : digitVal a with
    | none => rw [q] at h; cases h
    | some e =>
      rw [q] at h
      exact dec_snoc b l _ n d h hb
theorem dec_digits (u : Nat) : decFrom 0 (decDigits u) = some u := by
  induction u using Nat.strongRecOn with
  | _ u ih =>
    by_cases h : u < 10
    · rw [decDigits, dif_pos h]
      show (match digitVal (UInt8.ofNat (48 + u)) with | some d => decFrom (0 * 10 + d) [] | none => none) = _
      rw [digit_val h]
      show some (0 * 10 + u) = some u
      rw [Nat.zero_mul, Nat.zero_add]
    · rw [decDigits, dif_neg h]
      rw [dec_snoc _ _ 0 (u / 10) (u % 10) (ih (u / 10) (by omega)) (digit_val (by omega))]
      congr 1; omega
theorem digits_are (u : Nat) : ∀ b ∈ decDigits u, 48 ≤ b.toNat ∧ b.toNat ≤ 57 := by
  induction u using Nat.strongRecOn with
  | _ u ih =>
    intro b hb
    have one : ∀ d, d < 10 → (UInt8.ofNat (48 + d)).toNat = 48 + d := fun d h => by rw [UInt8.toNat_ofNat']; omega
    rw [decDigits] at hb
    split at hb
    · rename_i h
      rw [List.mem_singleton] at hb
      rw [hb, one u h]; omega
    · rcases List.mem_append.1 hb with q | q
      · exact ih (u / 10) (by omega) b q
      · rw [List.mem_singleton] at q
        rw [q, one _ (by omega)]; omega
theorem digits_ne (u : Nat) : ∃ b r, decDigits u = b :: r := by
  rw [decDigits]
  split
  · exact ⟨_, _, rfl⟩
  · cases h : decDigits (u / 10) with
    | nil => exact ⟨_, [], rfl⟩
    | cons b r => exact ⟨b, _, rfl⟩
theorem itoa_nat (u : Nat) : itoa (u : Int) = decDigits u := itoa_nonneg u
theorem atoi_itoa (u : Nat) : atoi (itoa (u : Int)) = some (u : Int) := by
  rw [itoa_nat]
  have q := dec_digits u
  have a := digits_are u
  obtain ⟨b, r, e⟩ := digits_ne u
  rw [e] at q a ⊢
  have hb := a b List.mem_cons_self
  have n45 : (b == 45) = false := by
    rw [beq_eq_false_iff_ne]; intro h; subst h; exact absurd hb.1 (by decide)
  have n43 : (b == 43) = false := by
    rw [beq_eq_false_iff_ne]; intro h; subst h; exact absurd hb.1 (by decide)
  show (if b == 45 then _ else if b == 43 then _ else (decNat (b :: r)).map fun (m : Nat) => (m : Int)) = _
  rw [n45, n43, if_neg (by decide), if_neg (by decide)]
  unfold decNat
  rw [List.isEmpty_cons, if_neg (by decide), q]
  rfl
theorem itoa_len {u k : Nat} (h : u < 10 ^ k) (hk : 1 ≤ k) : (itoa (u : Int)).length ≤ k := by
  rw [itoa_nat, decDigits_length]
  have key : ∀ k u : Nat, 1 ≤ k → u < 10 ^ k → nDigits u ≤ k := by
    intro k
    induction k with
    | zero => intro u h; omega
    | succ k ih =>
      intro u _ hu
      by_cases h : u < 10
      · rw [nDigits_small h]; omega
      · rw [nDigits_big h]
        rcases Nat.eq_zero_or_pos k with e | e
        · subst e; rw [Nat.pow_succ] at hu; omega
        · have := ih (u / 10) e (by rw [Nat.pow_succ] at hu; omega)
          omega
  exact key k u hk h
/-- What the program's number reads: a number of at most six digits as it is printed. -/
def numB (l : List UInt8) : Option Int :=
  match atoi l with
  | some n => if 0 ≤ n ∧ l.length ≤ 6 ∧ itoa n = l then some n else none
  | none => none
theorem numB_itoa {u : Nat} (h : u < 1000000) : numB (itoa (u : Int)) = some (u : Int) := by
  unfold numB
  rw [atoi_itoa]
  show (if _ then _ else _) = _
  rw [if_pos ⟨by omega, itoa_len (k := 6) (by omega) (by decide), rfl⟩]
theorem numB_some {l : List UInt8} {n : Int} (h : numB l = some n) : 0 ≤ n ∧ l.length ≤ 6 ∧ itoa n = l := by
  unfold numB at h
  cases q : atoi l with
  | none => rw [q] at h; cases h
  | some m =>
    rw [q] at h
    have h : (if 0 ≤ m ∧ l.length ≤ 6 ∧ itoa m = l then some m else none) = some n := h
    split at h
    · rename_i g
      injection h with h
      subst h; exact g
    · cases h
end NumT
end Go.Proofs.YtdlbkpgjbjlgiaaGreatDoor
namespace Go.Proofs.YtdlbkpgjbjlgiaaGreatDoor
open Go.RowKit Go.Shelf
shelf_lay LaysM.n171 Nm 171 at Tryz as itoaLays
shelf_lay LaysC.n172 Nm 172 at Tryz as atoiLays
namespace Pt
open Kit Chart
/-- What the texts read of the library's variables. -/
structure Vars (w : World) : Prop where
  tab : Lib.TabIs Tryz.prog w "internal/strconv.uint64pow10" .u64 Lib.pow10Tab
  syn : ∃ tp p, w.var? Tryz.prog "strconv.ErrSyntax" = some #[.iface tp p]
  rng : ∃ tp p, w.var? Tryz.prog "strconv.ErrRange" = some #[.iface tp p]
  len : ∃ m : Int, w.cell? ⟨2, 0, none⟩ = some (.int .i64 m)
theorem var_keep {w w1 : World} (hb : Below w.heap.size w w1) {n : String} {g : Nat} {cs : Array Value} (hg : Tryz.prog.globalNamed n = some g) (h : w.var? Tryz.prog n = some cs) (h0 : 0 < cs.size) : w1.var? Tryz.prog n = some cs := by
  have c := World.var?_cell hg h 0
  rw [Array.getElem?_eq_getElem h0] at c
  exact var?_below hb hg (lt_of_cell c) h
theorem vars_keep {w w1 : World} (hb : Below w.heap.size w w1) (h : Vars w) : Vars w1 := by
  refine ⟨var_keep hb (g := 1) (by kernel_rfl) h.tab (by decide), ?_, ?_, h.len.elim fun m q => ⟨m, keep hb q⟩⟩
  · obtain ⟨tp, p, q⟩ := h.syn; exact ⟨tp, p, var_keep hb (g := 3) (by kernel_rfl) q Nat.zero_lt_one⟩
  · obtain ⟨tp, p, q⟩ := h.rng; exact ⟨tp, p, var_keep hb (g := 4) (by kernel_rfl) q Nat.zero_lt_one⟩
theorem below_grow {N : Nat} {w0 w : World} (h : Below N w0 w) (hN : N ≤ w0.heap.size) (k : Nat) (os : Array Obj) : Below N w0 (Go.Sort.grow (w.drewN k) os) := by
  refine ⟨h.os, h.tape, h.output, ?_, fun j hj => ?_⟩
  · rw [Go.Sort.size_grow]; exact Nat.le_trans h.size (Nat.le_add_right _ _)
  · rw [Go.Sort.heap_grow_old _ _ (show j < (w.drewN k).heap.size from Nat.lt_of_lt_of_le hj (Nat.le_trans hN h.size))]
    exact h.block j hj
abbrev txt (n : Int) : ByteArray := ⟨(Lib.itoa n).toArray⟩
theorem itoaC {w : World} (V : Vars w) (n : Int) (h0 : -9223372036854775808 ≤ n) (h1 : n ≤ 9223372036854775807) : Calls Tryz.prog 36 #[.int .i64 n] w fun e w' => e = .returned (.string (txt n)) ∧ Below w.heap.size w w' := by
  have hcon := Any.strconv_Itoa itoaLays n h0 h1 w V.tab
  change Calls Tryz.prog 36 _ _ _ at hcon
  refine hcon.mono ?_
  rintro e w' ⟨rfl, k, os, rfl⟩
  exact ⟨rfl, below_grow (Below.refl _ _) (Nat.le_refl _) k os⟩
/-- strconv.Atoi: a number, or an error that is not nil. -/
def AtoR (s : ByteArray) (e : Ending) : Prop := (∃ v, Lib.atoiAll s.data.toList = .ok v ∧ e = .returned (.tuple #[.int .i64 v, .nilIface])) ∨ ((∀ v, Lib.atoiAll s.data.toList ≠ .ok v) ∧ ∃ v t b, e = .returned (.tuple #[.int .i64 v, .iface t (.pointer (some ⟨b, 0, none⟩))]))
theorem atoiC {w : World} (V : Vars w) (s : ByteArray) (hs : s.size ≤ 2000000) : Calls Tryz.prog 77 #[.string s] w fun e w' => AtoR s e ∧ Below w.heap.size w w' := by
  cases h : Lib.atoiAll s.data.toList with
  | ok v =>
    have hcon := Any.strconv_Atoi_ok atoiLays s (by omega) v h w
    change Calls Tryz.prog 77 _ _ _ at hcon
    refine hcon.mono ?_
    rintro e w' ⟨rfl, q⟩
    refine ⟨Or.inl ⟨v, h, rfl⟩, ?_⟩
    rcases q with rfl | ⟨t, rfl⟩
    · exact Below.refl _ _
    · exact Lib.bytesWorld_below _ _ _
  | «syntax» =>
    obtain ⟨tp, p, hv⟩ := V.syn
    have hcon := Any.strconv_Atoi_syntax_var atoiLays s (by omega) h tp p w hv
    change Calls Tryz.prog 77 _ _ _ at hcon
    refine hcon.mono ?_
    rintro e w' ⟨N, rfl, -, -, hb⟩
    exact ⟨Or.inr ⟨(fun v q => by rw [h] at q; cases q), _, _, N, rfl⟩, hb⟩
  | range =>
    obtain ⟨tp, p, hv⟩ := V.rng
    have hcon := Any.strconv_Atoi_range_var atoiLays s (by omega) h tp p w hv
    change Calls Tryz.prog 77 _ _ _ at hcon
    refine hcon.mono ?_
    rintro e w' ⟨N, rfl, -, -, hb⟩
    exact ⟨Or.inr ⟨(fun v q => by rw [h] at q; cases q), _, _, N, rfl⟩, hb⟩
/-- What number answers. -/
def NumR (s : ByteArray) (e : Ending) : Prop := (∃ n, NumT.numB s.data.toList = some n ∧ e = .returned (.tuple #[.int .i64 n, .bool true])) ∨ (NumT.numB s.data.toList = none ∧ ∃ v, e = .returned (.tuple #[.int .i64 v, .bool false]))
theorem numB_ok {l : List UInt8} {v : Int} (h : Lib.atoiAll l = .ok v) (h6 : l.length ≤ 6) : NumT.numB l = if 0 ≤ v ∧ Lib.itoa v = l then some v else none := by
  rw [Lib.atoiAll_short l (by omega)] at h
  unfold NumT.numB
  cases q : Lib.atoi l with
  | none => rw [q] at h; cases h
  | some m =>
    rw [q] at h
    have e : m = v := by injection h
    subst e
    show (if 0 ≤ m ∧ l.length ≤ 6 ∧ Lib.itoa m = l then some m else none) = _
    by_cases g : 0 ≤ m ∧ Lib.itoa m = l
    · rw [if_pos ⟨g.1, h6, g.2⟩, if_pos g]
    · rw [if_neg (fun k => g ⟨k.1, k.2.2⟩), if_neg g]
theorem numB_long {l : List UInt8} (h6 : ¬ l.length ≤ 6) : NumT.numB l = none := by
  cases q : NumT.numB l with
  | none => rfl
  | some n => exact absurd (NumT.numB_some q).2.1 h6
theorem numB_bad {l : List UInt8} (h : ∀ v, Lib.atoiAll l ≠ .ok v) : NumT.numB l = none := by
  by_cases h6 : l.length ≤ 6
  · unfold NumT.numB
    cases q : Lib.atoi l with
    | none => rfl
    | some m => exact absurd (by rw [Lib.atoiAll_short l (by omega), q]; rfl) (h m)
  · exact numB_long h6
theorem txt_eq (n : Int) (s : ByteArray) : txt n = s ↔ Lib.itoa n = s.data.toList := by
  constructor
  · intro h; rw [← h]
  · intro h
    obtain ⟨⟨a⟩⟩ := s
    have h : Lib.itoa n = a := h
    show (⟨(Lib.itoa n).toArray⟩ : ByteArray) = _
    rw [h]
set_option maxRecDepth 100000 in
set_option maxHeartbeats 4000000 in
theorem number_w (s : ByteArray) (hs : s.size ≤ 2000000) (w : World) (AT : Hid (∀ w1, Below w.heap.size w w1 → Calls Tryz.prog 77 #[.string s] w1 fun e w' => AtoR s e ∧ Below w1.heap.size w1 w'))
    (IT : Hid (∀ n : Int, -9223372036854775808 ≤ n → n ≤ 9223372036854775807 → ∀ w1, Below w.heap.size w w1 → Calls Tryz.prog 36 #[.int .i64 n] w1 fun e w' => e = .returned (.string (txt n)) ∧ Below w1.heap.size w1 w')) :
    Calls Tryz.prog 40 #[.string s] w fun e w' => NumR s e ∧ Below w.heap.size w w' := by
  have hsz : s.size = s.data.toList.length := by rw [Array.length_toList]; rfl
  have HSZ := Lib.hid hsz; clear hsz
  go_enter Tryz.func40, Tryz.ntmps40
  go_wp2_with fail
  (with_reducible refine (AT.out _ (Below.refl _ _)).mono ?_); rintro e w1 ⟨hat, hb⟩
  have W1 := Lib.hid hb; clear hb
  rcases hat with ⟨v, hv, rfl⟩ | ⟨hno, v, t, b, rfl⟩
  · have bd := Lib.atoiAll_bounds hv
    have HV := Lib.hid hv; clear hv
    by_cases h0 : 0 ≤ v
    · by_cases h6 : s.size ≤ 6
      · have h6i : (s.size : Int) ≤ 6 := by omega
        have k6 := decide_eq_true h6i; have k6n := decide_eq_true h6; have k0 := decide_eq_true h0
        have NB := Lib.hid (numB_ok HV.out (by rw [← HSZ.out]; exact h6))
        have ITV := Lib.hid (IT.out v bd.1 bd.2)
        by_cases he : txt v = s
        · have hq : ((txt v).toList == s.toList) = true := by rw [seq_eq]; exact decide_eq_true he
          have NR : Hid (NumT.numB s.data.toList = some v) := Lib.hid (by rw [NB.out, if_pos ⟨h0, (txt_eq v s).1 he⟩])
          generalize txt v = tv at *
          clear he
          go_wp2_with fail
          (with_reducible refine (ITV.out _ W1.out).mono ?_); rintro e w2 ⟨rfl, hb⟩
          have W2 := Lib.hid (b_next W1.out hb); clear hb
          go_wp2_with fail
          go_ret2
          exact ⟨Or.inl ⟨v, NR.out, rfl⟩, W2.out⟩
        · have hq : ((txt v).toList == s.toList) = false := by rw [seq_eq]; exact decide_eq_false he
          have NR : Hid (NumT.numB s.data.toList = none) := Lib.hid (by rw [NB.out, if_neg (fun q => he ((txt_eq v s).2 q.2))])
          generalize txt v = tv at *
          clear he
          go_wp2_with fail
          (with_reducible refine (ITV.out _ W1.out).mono ?_); rintro e w2 ⟨rfl, hb⟩
          have W2 := Lib.hid (b_next W1.out hb); clear hb
          go_wp2_with fail
          go_ret2
          exact ⟨Or.inr ⟨NR.out, v, rfl⟩, W2.out⟩
      · have h6i : ¬ (s.size : Int) ≤ 6 := by omega
        have k6 := decide_eq_false h6i; have k6n := decide_eq_false h6; have k0 := decide_eq_true h0
        have NR : Hid (NumT.numB s.data.toList = none) := Lib.hid (numB_long (by rw [← HSZ.out]; exact h6))
        go_wp2_with fail
        go_ret2
        exact ⟨Or.inr ⟨NR.out, v, rfl⟩, W1.out⟩
    · have k0 := decide_eq_false h0
      have NR : Hid (NumT.numB s.data.toList = none) := Lib.hid (by
        by_cases h6 : s.data.toList.length ≤ 6
        · rw [numB_ok HV.out h6, if_neg (fun q => h0 q.1)]
        · exact numB_long h6)
      go_wp2_with fail
      go_ret2
      exact ⟨Or.inr ⟨NR.out, v, rfl⟩, W1.out⟩
  · have NR := Lib.hid (numB_bad hno)
    clear hno
    go_wp2_with fail
    go_ret2
    exact ⟨Or.inr ⟨NR.out, v, rfl⟩, W1.out⟩
theorem numberC {w : World} (V : Vars w) (s : ByteArray) (hs : s.size ≤ 2000000) : Calls Tryz.prog 40 #[.string s] w fun e w' => NumR s e ∧ Below w.heap.size w w' :=
  number_w s hs w (Lib.hid fun _ hb => atoiC (vars_keep hb V) s hs) (Lib.hid fun n h0 h1 _ hb => itoaC (vars_keep hb V) n h0 h1)
end Pt
end Go.Proofs.YtdlbkpgjbjlgiaaGreatDoor
namespace Go.Proofs.YtdlbkpgjbjlgiaaGreatDoor
namespace Spl
/-- The pieces between the bytes c. -/
def sp (c : UInt8) : List UInt8 → List (List UInt8)
  | [] => [[]]
  | b :: l => if b = c then [] :: sp c l else match sp c l with
    | [] => [[b]]
    | h :: t => (b :: h) :: t
theorem sp_ne (c : UInt8) : ∀ s, ∃ h t, sp c s = h :: t
  | [] => ⟨[], [], rfl⟩
  | b :: l => by
    unfold sp
    by_cases e : b = c
    · rw [if_pos e]; exact ⟨_, _, rfl⟩
    · rw [if_neg e]
      obtain ⟨h, t, e2⟩ := sp_ne c l
      rw [e2]; exact ⟨_, _, rfl⟩
theorem sp_hit (c : UInt8) (l : List UInt8) : sp c (c :: l) = [] :: sp c l := by
  show (if c = c then _ else _) = _
  rw [if_pos rfl]
theorem sp_miss {c b : UInt8} (h : b ≠ c) {l x : List UInt8} {t : List (List UInt8)} (e : sp c l = x :: t) : sp c (b :: l) = (b :: x) :: t := by
  show (if b = c then _ else match sp c l with | [] => [[b]] | h :: t => (b :: h) :: t) = _
  rw [if_neg h, e]
theorem index_none {l : List UInt8} {c : UInt8} (h : Lib.indexByte l c = -1) : l.count c = 0 := by
  rw [List.count_eq_zero]
  intro hm
  obtain ⟨i, hi, e⟩ := List.mem_iff_getElem.1 hm
  exact Lib.indexByte_none h i (by rw [List.getElem?_eq_getElem hi, e])
theorem splitK_sp (c : UInt8) : ∀ s : List UInt8, Lib.splitK [c] 0 (s.count c) s = sp c s
  | [] => rfl
  | b :: l => by
    have ih := splitK_sp c l
    by_cases e : b = c
    · subst e
      rw [List.count_cons_self, sp_hit]
      show (if Lib.index (b :: l) [b] == -1 then _ else _) = _
      have i0 : Lib.index (b :: l) [b] = 0 := by rw [Lib.index_one]; unfold Lib.indexByte; simp
      rw [i0, if_neg (by decide)]
      show (b :: l).take 0 :: Lib.splitK [b] 0 (l.count b) ((b :: l).drop 1) = _
      rw [List.take_zero, List.drop_one, List.tail_cons, ih]
    · rw [List.count_cons_of_ne e]
      obtain ⟨x, t, e2⟩ := sp_ne c l
      rw [sp_miss e e2]
      rw [e2] at ih
      cases k : l.count c with
      | zero =>
        rw [k] at ih
        have ih : [l] = x :: t := ih
        injection ih with h1 h2
        rw [← h1, ← h2]; rfl
      | succ n =>
        rw [k] at ih
        have hn : Lib.indexByte l c ≠ -1 := fun q => by have := index_none q; omega
        have hb : (b == c) = false := by simpa using e
        have hi : Lib.index (b :: l) [c] = Lib.indexByte l c + 1 := by
          rw [Lib.index_one]
          show (if b == c then _ else _) = _
          rw [hb, if_neg (by decide), if_neg (by simpa using hn)]
        have hge := Lib.indexByte_ge l c
        obtain ⟨i, hi2⟩ : ∃ i : Nat, Lib.indexByte l c = i := ⟨(Lib.indexByte l c).toNat, by omega⟩
        have u : Lib.splitK [c] 0 (n + 1) l = l.take i :: Lib.splitK [c] 0 n (l.drop (i + 1)) := by
          show (if Lib.index l [c] == -1 then _ else _) = _
          rw [Lib.index_one, hi2, if_neg (by simp)]
          rfl
        rw [u] at ih
        injection ih with h1 h2
        show (if Lib.index (b :: l) [c] == -1 then _ else _) = _
        rw [hi, hi2, if_neg (by simp; omega)]
        rw [show ((i : Int) + 1).toNat = i + 1 by omega]
        show (b :: l).take (i + 1 + 0) :: Lib.splitK [c] 0 n ((b :: l).drop (i + 1 + 1)) = _
        rw [Nat.add_zero, List.take_succ_cons, List.drop_succ_cons, h1, h2]
theorem split_sp (c : UInt8) (s : List UInt8) : Lib.split s [c] = sp c s := by
  unfold Lib.split
  rw [Lib.count_one, splitK_sp]
/-- Joined with c. -/
def jn (c : UInt8) (xs : List (List UInt8)) : List UInt8 := Lib.join xs [c]
theorem jn_one (c : UInt8) (x : List UInt8) : jn c [x] = x := Lib.join_one x [c]
theorem jn_cons (c : UInt8) (x y : List UInt8) (t : List (List UInt8)) : jn c (x :: y :: t) = x ++ c :: jn c (y :: t) := by
  unfold jn
  rw [Lib.join_cons, Lib.join_cons]
  simp [Lib.joinTail]
theorem jn_push (c b : UInt8) (x : List UInt8) (t : List (List UInt8)) : jn c ((b :: x) :: t) = b :: jn c (x :: t) := by
  cases t with
  | nil => rw [jn_one, jn_one]
  | cons y t => rw [jn_cons, jn_cons]; rfl
/-- What is cut and joined is the same. -/
theorem jn_sp (c : UInt8) : ∀ s, jn c (sp c s) = s
  | [] => jn_one c []
  | b :: l => by
    have ih := jn_sp c l
    obtain ⟨x, t, e⟩ := sp_ne c l
    rw [e] at ih
    by_cases h : b = c
    · subst h
      rw [sp_hit, e, jn_cons, ih]; rfl
    · rw [sp_miss h e, jn_push, ih]
theorem sp_free (c : UInt8) : ∀ s, ∀ x ∈ sp c s, c ∉ x
  | [], x, hx => by
    have e : x = [] := by simpa [sp] using hx
    rw [e]; exact List.not_mem_nil
  | b :: l, x, hx => by
    have ih := sp_free c l
    obtain ⟨y, t, e⟩ := sp_ne c l
    by_cases h : b = c
    · subst h
      rw [sp_hit] at hx
      rcases List.mem_cons.1 hx with q | q
      · rw [q]; exact List.not_mem_nil
      · exact ih x q
    · rw [sp_miss h e] at hx
      rcases List.mem_cons.1 hx with q | q
      · rw [q]
        intro hm
        rcases List.mem_cons.1 hm with r | r
        · exact h r.symm
        · exact ih y (by rw [e]; exact List.mem_cons_self) r
      · exact ih x (by rw [e]; exact List.mem_cons_of_mem _ q)
theorem sp_app {c : UInt8} : ∀ {x : List UInt8} (l : List UInt8), c ∉ x → sp c (x ++ c :: l) = x :: sp c l
  | [], l, _ => sp_hit c l
  | b :: x, l, h => by
    have hb : b ≠ c := fun e => h (by rw [e]; exact List.mem_cons_self)
    have ih := sp_app (x := x) l fun q => h (List.mem_cons_of_mem _ q)
    exact sp_miss hb ih
theorem sp_one {c : UInt8} : ∀ {x : List UInt8}, c ∉ x → sp c x = [x]
  | [], _ => rfl
  | b :: x, h => by
    have hb : b ≠ c := fun e => h (by rw [e]; exact List.mem_cons_self)
    exact sp_miss hb (sp_one fun q => h (List.mem_cons_of_mem _ q))
/-- What is joined and cut is the same, where no piece has the byte. -/
theorem sp_jn (c : UInt8) : ∀ (t : List (List UInt8)) (x : List UInt8), (∀ y ∈ x :: t, c ∉ y) → sp c (jn c (x :: t)) = x :: t
  | [], x, h => by rw [jn_one]; exact sp_one (h x List.mem_cons_self)
  | y :: t, x, h => by
    rw [jn_cons, sp_app _ (h x List.mem_cons_self), sp_jn c t y fun z hz => h z (List.mem_cons_of_mem _ hz)]
end Spl
end Go.Proofs.YtdlbkpgjbjlgiaaGreatDoor
namespace Go.Proofs.YtdlbkpgjbjlgiaaGreatDoor
open Go.RowKit
namespace Own0
open Kit Chart Route
theorem vs_srow (L : List ByteArray) : vs L = srow (fun k => L.getD k ⟨#[]⟩) L.length := by
  apply List.ext_getElem?
  intro i
  rcases Nat.lt_or_ge i L.length with h | h
  · rw [srow_at h, List.getElem?_map, List.getElem?_eq_getElem h, List.getD_eq_getElem?_getD, List.getElem?_eq_getElem h]; rfl
  · rw [List.getElem?_eq_none (by rw [List.length_map]; exact h), List.getElem?_eq_none (by rw [srow_len]; exact h)]
/-- Cells of names that may be turned. -/
def Row (w : World) (g n : Nat) (S : Nat → ByteArray) : Prop := ∀ k, k < n → w.cell? ⟨g, k, none⟩ = some (.string (S k)) ∧ w.frozen? ⟨g, k, none⟩ = false
theorem row_of {w : World} {base : Nat} {E : TypeId} {v : Value} {L : List ByteArray} (h : w.ownsRow base E 1 v L.length (vs L)) (h0 : 0 < L.length) : ∃ g cap, v = .slice (some ⟨g, 0, none⟩) L.length cap ∧ base ≤ g ∧ g < w.heap.size ∧ L.length ≤ cap ∧ cap ≤ maxLen ∧ Row w g L.length (fun k => L.getD k ⟨#[]⟩) := by
  rw [vs_srow] at h
  obtain ⟨g, cap, e, h1, h2, h3, h4, h5⟩ := srow_of h h0
  exact ⟨g, cap, e, h1, h2, h3, h4, fun k hk => ⟨h5.cell k hk, h5.free k⟩⟩
theorem row_keep {w w1 : World} (hb : Below w.heap.size w w1) {g n : Nat} {S : Nat → ByteArray} (h : Row w g n S) : Row w1 g n S := fun k hk => ⟨keep hb (h k hk).1, keepF hb (h k hk).1 (h k hk).2⟩
theorem own_lt {w : World} {base : Nat} {E : TypeId} {C n : Nat} {v : Value} {xs : List Value} (h : w.ownsRow base E C v n xs) : ∀ b, v.ownBlock = some b → b < w.heap.size := by
  intro b hb
  rcases h.2 with ⟨rfl, -⟩ | ⟨g, cap, cur, rfl, -, hg, -⟩
  · cases hb
  · cases hb; exact (Array.getElem?_eq_some_iff.1 hg).1
theorem own_below {W w1 : World} {base : Nat} {E : TypeId} {C n : Nat} {v : Value} {xs : List Value} (hb : Below W.heap.size W w1) (h : W.ownsRow base E C v n xs) : w1.ownsRow base E C v n xs := by
  refine ⟨h.1, ?_⟩
  rcases h.2 with hh | ⟨g, cap, cur, hv, h1, hg, h2⟩
  · exact Or.inl hh
  · exact Or.inr ⟨g, cap, cur, hv, h1, (hb.block g (Array.getElem?_eq_some_iff.1 hg).1).trans hg, h2⟩
theorem own_slice0 {w : World} {base : Nat} {E : TypeId} {C n : Nat} {v : Value} {xs : List Value} (h : w.ownsRow base E C v n xs) : ∃ A cap, v = .slice A n cap := by
  rcases h.2 with ⟨rfl, rfl⟩ | ⟨g, cap, cur, rfl, -⟩
  · exact ⟨_, _, rfl⟩
  · exact ⟨_, _, rfl⟩
theorem own_ge0 {w : World} {base : Nat} {E : TypeId} {C n : Nat} {v : Value} {xs : List Value} (h : w.ownsRow base E C v n xs) : ∀ k, v.ownBlock = some k → base ≤ k := by
  intro k hk
  rcases h.2 with ⟨rfl, -⟩ | ⟨g, cap, cur, rfl, h1, -⟩
  · simp [Value.ownBlock] at hk
  · simp [Value.ownBlock] at hk; omega
theorem grow_b {N : Nat} {W w w1 : World} {v : Value} {base : Nat} {E : TypeId} {C n : Nat} {xs : List Value} (hb : Below N W w) (h : w.ownsRow base E C v n xs) (hg : w.grownBy w1 v.ownBlock) (hN : N ≤ base) (hs : N ≤ w.heap.size) : Below N W w1 :=
  hb.grown hg hs (fun k hk => Nat.le_trans hN (own_ge0 h k hk))
end Own0
end Go.Proofs.YtdlbkpgjbjlgiaaGreatDoor
namespace Go.Proofs.YtdlbkpgjbjlgiaaGreatDoor
open Go.RowKit Go.Shelf
shelf_lay Lays.n156 Nm 156 at Tryz as joinLays
namespace Pt
open Kit Chart Route Plan Name
theorem extra : Builder.Extra Tryz.prog joinLays_ren where
  sizeBuilder := by kernel_rfl
  liesBuilder := by kernel_rfl
  t5 := Tryz.underlying5
  a5 := Tryz.isAgg5
  z5 := Tryz.sizeOf5
  v5 := Tryz.zeroValue5
  infoByte := by kernel_rfl
  cellsByte := by kernel_rfl
  sizeByte := by kernel_rfl
  neB5 := by decide
/-- The fields of a plan's text. -/
def fld (c k f t : ByteArray) (off sp h : Int) (R : List ByteArray) : List ByteArray := [c, k, f, t, txt off, txt sp, txt h] ++ R
abbrev raw (L : List ByteArray) : List (List UInt8) := L.map fun x => x.data.toList
/-- The text of a plan. -/
def ptext (c k f t : ByteArray) (off sp h : Int) (R : List ByteArray) : ByteArray := ⟨(Spl.jn 32 (raw (fld c k f t off sp h R))).toArray⟩
theorem jn_len : ∀ (xs : List (List UInt8)) (m : Nat), (∀ x ∈ xs, x.length ≤ m) → (Spl.jn 32 xs).length ≤ (m + 1) * xs.length
  | [], _, _ => Nat.zero_le _
  | [x], m, h => by rw [Spl.jn_one]; have := h x List.mem_cons_self; simp; omega
  | x :: y :: t, m, h => by
    have ih := jn_len (y :: t) m fun z hz => h z (List.mem_cons_of_mem _ hz)
    have := h x List.mem_cons_self
    rw [Spl.jn_cons, List.length_append, List.length_cons]
    show _ ≤ (m + 1) * ((y :: t).length + 1)
    rw [Nat.mul_succ]
    omega
theorem name_len {s : ByteArray} (h : nameB s = true) : s.size ≤ 8 := by
  unfold nameB at h
  exact (of_decide_eq_true h).2.1
theorem size_raw (s : ByteArray) : s.data.toList.length = s.size := by rw [Array.length_toList]; rfl
/-- What a plan without a fault gives. -/
structure PlOk (c k f t : ByteArray) (off sp h : Int) (R : List ByteArray) : Prop where
  nm : nameB c = true ∧ nameB k = true ∧ nameB f = true ∧ nameB t = true
  off : 0 ≤ off ∧ off ≤ 200000
  sp : 1 ≤ sp ∧ sp ≤ 400
  h : 1 ≤ h ∧ h ≤ 60000
  len : R.length ≤ 24
  rt : ∀ x ∈ R, nameB x = true
abbrev rtF (R : List ByteArray) : Nat → ByteArray := fun k => R.getD k ⟨#[]⟩
theorem plan_ok {c k f t : ByteArray} {off sp h : Int} {R : List ByteArray} (e : planE c k f t off sp h R.length (rtF R) = 0) : PlOk c k f t off sp h R := by
  unfold planE at e
  split at e
  · exact absurd e (by decide)
  rename_i h1
  split at e
  · exact absurd e (by decide)
  rename_i h2
  split at e
  · exact absurd e (by decide)
  rename_i h3
  split at e
  · exact absurd e (by decide)
  rename_i h4
  split at e
  · exact absurd e (by decide)
  rename_i h5
  have b : ∀ s : ByteArray, nameB s ≠ false → nameB s = true := fun s q => by simpa using q
  refine ⟨⟨b c fun q => h1 (Or.inl q), b k fun q => h1 (Or.inr (Or.inl q)), b f fun q => h1 (Or.inr (Or.inr (Or.inl q))), b t fun q => h1 (Or.inr (Or.inr (Or.inr q)))⟩, by omega, by omega, by omega, by omega, fun x hx => ?_⟩
  obtain ⟨i, hi, rfl⟩ := List.mem_iff_getElem.1 hx
  have q := fnd_neg (Int.not_le.1 h5) i hi
  rw [rtF, List.getD_eq_getElem?_getD, List.getElem?_eq_getElem hi] at q
  simpa using q
theorem plan_zero {c k f t : ByteArray} {off sp h : Int} {R : List ByteArray} (e : PlOk c k f t off sp h R) : planE c k f t off sp h R.length (rtF R) = 0 := by
  unfold planE
  rw [if_neg (by rw [e.nm.1, e.nm.2.1, e.nm.2.2.1, e.nm.2.2.2]; simp), if_neg (by have := e.off; omega), if_neg (by have := e.sp; have := e.h; omega), if_neg (by have := e.len; omega), if_neg]
  intro q
  obtain ⟨i, hi, -, h2, -⟩ := fnd_pos q
  have := e.rt (rtF R i) (by rw [rtF, List.getD_eq_getElem?_getD, List.getElem?_eq_getElem hi]; exact List.getElem_mem hi)
  rw [this] at h2
  exact absurd h2 (by decide)
theorem fld_len {c k f t : ByteArray} {off sp h : Int} {R : List ByteArray} (e : PlOk c k f t off sp h R) : ∀ x ∈ raw (fld c k f t off sp h R), x.length ≤ 21 := by
  intro x hx
  obtain ⟨s, hs, rfl⟩ := List.mem_map.1 hx
  have nm : ∀ s : ByteArray, nameB s = true → s.data.toList.length ≤ 21 := fun s q => by rw [size_raw]; have := name_len q; omega
  have it : ∀ n : Int, 0 ≤ n → n ≤ 200000 → (txt n).data.toList.length ≤ 21 := fun n h0 h1 => Lib.itoa_length_le n (by omega) (by omega)
  rcases List.mem_append.1 hs with q | q
  · simp only [List.mem_cons, List.not_mem_nil, or_false] at q
    have a1 := e.off; have a2 := e.sp; have a3 := e.h
    rcases q with rfl | rfl | rfl | rfl | rfl | rfl | rfl
    · exact nm _ e.nm.1
    · exact nm _ e.nm.2.1
    · exact nm _ e.nm.2.2.1
    · exact nm _ e.nm.2.2.2
    · exact it _ a1.1 a1.2
    · exact it _ (by omega) (by omega)
    · exact it _ (by omega) (by omega)
  · exact nm _ (e.rt s q)
theorem text_len {c k f t : ByteArray} {off sp h : Int} {R : List ByteArray} (e : PlOk c k f t off sp h R) : (Spl.jn 32 (raw (fld c k f t off sp h R))).length ≤ 682 := by
  have q := jn_len _ 21 (fld_len e)
  have l : (raw (fld c k f t off sp h R)).length ≤ 31 := by
    have := e.len
    rw [List.length_map]; unfold fld; rw [List.length_append]; simp; omega
  omega
abbrev PrC (c k f t : ByteArray) (off sp h : Int) (r : Value) (w : World) (s : ByteArray) (E : Int) : Prop := Calls Tryz.prog 11 #[plan c k f t off sp h r] w fun e w' => e = .returned (.tuple #[.string s, .int .i64 E]) ∧ Below w.heap.size w w'
set_option maxHeartbeats 1000000 in
theorem print_bad (c k f t : ByteArray) (off sp h : Int) (r : Value) (E : Int) (w : World) (CK : Hid (∀ w1, Below w.heap.size w w1 → Calls Tryz.prog 17 #[plan c k f t off sp h r] w1 fun e w' => e = .returned (.int .i64 E) ∧ Below w1.heap.size w1 w')) (_hE1 : (E == 0) = false) (hE2 : (E != 0) = true) : PrC c k f t off sp h r w ⟨#[]⟩ E := by
  have W0 := Lib.hid (b_alloc (Below.refl w.heap.size w) (.cells #[.string c, .string k, .string f, .string t, .int .i64 off, .int .i64 sp, .int .i64 h, r] 24))
  obtain ⟨x0, x1, x2, x3, x4, x5, x6, x7⟩ := n8_new w 24 c k f t off sp h r
  go_enter Tryz.func11, Tryz.ntmps11
  go_wp2_with fail
  (with_reducible refine (CK.out _ W0.out).mono ?_); rintro e w1 ⟨rfl, hb⟩
  have W1 := Lib.hid (b_next W0.out hb); clear hb
  go_wp2_with fail
  all_goals (go_ret2; exact ⟨rfl, W1.out⟩)
set_option maxRecDepth 100000 in
set_option maxHeartbeats 8000000 in
theorem print_ok (c k f t : ByteArray) (off sp h : Int) (A : Option Addr) (n cap : Nat) (R : List ByteArray) (w : World) (hn : n = R.length) (HR : Hid (SL w (.slice A n cap) R)) (e : Hid (PlOk c k f t off sp h R)) (CK : Hid (∀ w1, Below w.heap.size w w1 → Calls Tryz.prog 17 #[plan c k f t off sp h (.slice A n cap)] w1 fun e w' => e = .returned (.int .i64 0) ∧ Below w1.heap.size w1 w'))
    (IT : Hid (∀ n : Int, -9223372036854775808 ≤ n → n ≤ 9223372036854775807 → ∀ w1, Below w.heap.size w w1 → Calls Tryz.prog 36 #[.int .i64 n] w1 fun e w' => e = .returned (.string (txt n)) ∧ Below w1.heap.size w1 w')) :
    PrC c k f t off sp h (.slice A n cap) w (ptext c k f t off sp h R) 0 := by
  have W0 := Lib.hid (b_alloc (Below.refl w.heap.size w) (.cells #[.string c, .string k, .string f, .string t, .int .i64 off, .int .i64 sp, .int .i64 h, .slice A n cap] 24))
  have N0 := Lib.hid (n8_new w 24 c k f t off sp h (.slice A n cap))
  have I1 := Lib.hid (IT.out off (by have := e.out.off; omega) (by have := e.out.off; omega))
  have I2 := Lib.hid (IT.out sp (by have := e.out.sp; omega) (by have := e.out.sp; omega))
  have I3 := Lib.hid (IT.out h (by have := e.out.h; omega) (by have := e.out.h; omega))
  have LN := Lib.hid e.out.len
  have TL := Lib.hid (text_len e.out)
  have HN := Lib.hid hn; clear hn
  obtain ⟨i0, hi, hz0, hz1, hz2⟩ := info_parts info_str
  have IN := Lib.hid (And.intro hi (And.intro hz0 (And.intro hz1 hz2))); clear hi hz0 hz1 hz2
  have F7 : Hid ([Value.string c, .string k, .string f, .string t, .string (txt off), .string (txt sp), .string (txt h)] = vs [c, k, f, t, txt off, txt sp, txt h]) := Lib.hid rfl
  have RES : Hid (ptext c k f t off sp h R = ⟨(Lib.join (([c, k, f, t, txt off, txt sp, txt h] ++ R).map fun x => x.data.toList) [32]).toArray⟩) := Lib.hid rfl
  have TL' : Hid ((Lib.join (([c, k, f, t, txt off, txt sp, txt h] ++ R).map fun x => x.data.toList) [32]).length ≤ 682) := TL
  obtain ⟨PT, hPT⟩ : ∃ PT, PT = ptext c k f t off sp h R := ⟨_, rfl⟩
  rw [← hPT] at RES ⊢
  generalize txt off = t1 at *
  generalize txt sp = t2 at *
  generalize txt h = t3 at *
  clear hPT TL e IT
  obtain ⟨x0, x1, x2, x3, x4, x5, x6, x7⟩ := N0.out
  go_enter Tryz.func11, Tryz.ntmps11
  go_wp2_with fail
  obtain ⟨b0, hb0⟩ : ∃ b0, b0 = w.heap.size := ⟨_, rfl⟩
  rw [← hb0] at N0 ⊢
  have HB0 := Lib.hid hb0
  clear hb0 x0 x1 x2 x3 x4 x5 x6 x7
  (with_reducible refine (CK.out _ W0.out).mono ?_); rintro e w1 ⟨rfl, hb⟩
  have W1 := Lib.hid (b_next W0.out hb); have N1 := Lib.hid (n8_keep hb N0.out); clear hb
  obtain ⟨x0, x1, x2, x3, x4, x5, x6, x7⟩ := N1.out
  go_wp2_with fail
  refine Tail.tail_region (by kernel_rfl) (by kernel_rfl) ?_
  apply Tail.Gq.p
  · intro wq
    (go_simp; first | exact Tail.pv_value | exact Tail.pv_skip)
  simp only [Act.put, List.setIfInBounds_toArray, List.set_cons_zero, List.set_cons_succ]
  apply Tail.Gq.r
  · intro wq hc hq
    (have l0 := keep (cls hq) x0; have l1 := keep (cls hq) x1; have l2 := keep (cls hq) x2; have l3 := keep (cls hq) x3; have l4 := keep (cls hq) x4; have l5 := keep (cls hq) x5; have l6 := keep (cls hq) x6; clear hc; go_simp; first | exact q2_value | exact q2_skip | (apply q2_enter; go_at_call 36; with_reducible exact I1.out _ (b_next W1.out (cls hq))) | (apply q2_enter; go_at_call 36; with_reducible exact I2.out _ (b_next W1.out (cls hq))) | (apply q2_enter; go_at_call 36; with_reducible exact I3.out _ (b_next W1.out (cls hq))))
  simp only [Act.put, List.setIfInBounds_toArray, List.set_cons_zero, List.set_cons_succ]
  apply Tail.Gq.p
  · intro wq
    (go_simp; first | exact Tail.pv_value | exact Tail.pv_skip)
  simp only [Act.put, List.setIfInBounds_toArray, List.set_cons_zero, List.set_cons_succ]
  apply Tail.Gq.r
  · intro wq hc hq
    (have l0 := keep (cls hq) x0; have l1 := keep (cls hq) x1; have l2 := keep (cls hq) x2; have l3 := keep (cls hq) x3; have l4 := keep (cls hq) x4; have l5 := keep (cls hq) x5; have l6 := keep (cls hq) x6; clear hc; go_simp; first | exact q2_value | exact q2_skip | (apply q2_enter; go_at_call 36; with_reducible exact I1.out _ (b_next W1.out (cls hq))) | (apply q2_enter; go_at_call 36; with_reducible exact I2.out _ (b_next W1.out (cls hq))) | (apply q2_enter; go_at_call 36; with_reducible exact I3.out _ (b_next W1.out (cls hq))))
  simp only [Act.put, List.setIfInBounds_toArray, List.set_cons_zero, List.set_cons_succ]
  apply Tail.Gq.p
  · intro wq
    (go_simp; first | exact Tail.pv_value | exact Tail.pv_skip)
  simp only [Act.put, List.setIfInBounds_toArray, List.set_cons_zero, List.set_cons_succ]
  apply Tail.Gq.r
  · intro wq hc hq
    (have l0 := keep (cls hq) x0; have l1 := keep (cls hq) x1; have l2 := keep (cls hq) x2; have l3 := keep (cls hq) x3; have l4 := keep (cls hq) x4; have l5 := keep (cls hq) x5; have l6 := keep (cls hq) x6; clear hc; go_simp; first | exact q2_value | exact q2_skip | (apply q2_enter; go_at_call 36; with_reducible exact I1.out _ (b_next W1.out (cls hq))) | (apply q2_enter; go_at_call 36; with_reducible exact I2.out _ (b_next W1.out (cls hq))) | (apply q2_enter; go_at_call 36; with_reducible exact I3.out _ (b_next W1.out (cls hq))))
  simp only [Act.put, List.setIfInBounds_toArray, List.set_cons_zero, List.set_cons_succ]
  apply Tail.Gq.p
  · intro wq
    (go_simp; first | exact Tail.pv_value | exact Tail.pv_skip)
  simp only [Act.put, List.setIfInBounds_toArray, List.set_cons_zero, List.set_cons_succ]
  apply Tail.Gq.r
  · intro wq hc hq
    (have l0 := keep (cls hq) x0; have l1 := keep (cls hq) x1; have l2 := keep (cls hq) x2; have l3 := keep (cls hq) x3; have l4 := keep (cls hq) x4; have l5 := keep (cls hq) x5; have l6 := keep (cls hq) x6; clear hc; go_simp; first | exact q2_value | exact q2_skip | (apply q2_enter; go_at_call 36; with_reducible exact I1.out _ (b_next W1.out (cls hq))) | (apply q2_enter; go_at_call 36; with_reducible exact I2.out _ (b_next W1.out (cls hq))) | (apply q2_enter; go_at_call 36; with_reducible exact I3.out _ (b_next W1.out (cls hq))))
  simp only [Act.put, List.setIfInBounds_toArray, List.set_cons_zero, List.set_cons_succ]
  apply Tail.Gq.p
  · intro wq
    (go_simp; first | exact Tail.pv_value | exact Tail.pv_skip)
  simp only [Act.put, List.setIfInBounds_toArray, List.set_cons_zero, List.set_cons_succ]
  apply Tail.Gq.r
  · intro wq hc hq
    (have l0 := keep (cls hq) x0; have l1 := keep (cls hq) x1; have l2 := keep (cls hq) x2; have l3 := keep (cls hq) x3; have l4 := keep (cls hq) x4; have l5 := keep (cls hq) x5; have l6 := keep (cls hq) x6; clear hc; go_simp; first | exact q2_value | exact q2_skip | (apply q2_enter; go_at_call 36; with_reducible exact I1.out _ (b_next W1.out (cls hq))) | (apply q2_enter; go_at_call 36; with_reducible exact I2.out _ (b_next W1.out (cls hq))) | (apply q2_enter; go_at_call 36; with_reducible exact I3.out _ (b_next W1.out (cls hq))))
  simp only [Act.put, List.setIfInBounds_toArray, List.set_cons_zero, List.set_cons_succ]
  apply Tail.Gq.r
  · intro wq hc hq
    (have l0 := keep (cls hq) x0; have l1 := keep (cls hq) x1; have l2 := keep (cls hq) x2; have l3 := keep (cls hq) x3; have l4 := keep (cls hq) x4; have l5 := keep (cls hq) x5; have l6 := keep (cls hq) x6; clear hc; go_simp; first | exact q2_value | exact q2_skip | (apply q2_enter; go_at_call 36; with_reducible exact I1.out _ (b_next W1.out (cls hq))) | (apply q2_enter; go_at_call 36; with_reducible exact I2.out _ (b_next W1.out (cls hq))) | (apply q2_enter; go_at_call 36; with_reducible exact I3.out _ (b_next W1.out (cls hq))))
  simp only [Act.put, List.setIfInBounds_toArray, List.set_cons_zero, List.set_cons_succ]
  apply Tail.Gq.p
  · intro wq
    (go_simp; first | exact Tail.pv_value | exact Tail.pv_skip)
  simp only [Act.put, List.setIfInBounds_toArray, List.set_cons_zero, List.set_cons_succ]
  apply Tail.Gq.r
  · intro wq hc hq
    (have l0 := keep (cls hq) x0; have l1 := keep (cls hq) x1; have l2 := keep (cls hq) x2; have l3 := keep (cls hq) x3; have l4 := keep (cls hq) x4; have l5 := keep (cls hq) x5; have l6 := keep (cls hq) x6; clear hc; go_simp; first | exact q2_value | exact q2_skip | (apply q2_enter; go_at_call 36; with_reducible exact I1.out _ (b_next W1.out (cls hq))) | (apply q2_enter; go_at_call 36; with_reducible exact I2.out _ (b_next W1.out (cls hq))) | (apply q2_enter; go_at_call 36; with_reducible exact I3.out _ (b_next W1.out (cls hq))))
  simp only [Act.put, List.setIfInBounds_toArray, List.set_cons_zero, List.set_cons_succ]
  apply Tail.Gq.r
  · intro wq hc hq
    (have l0 := keep (cls hq) x0; have l1 := keep (cls hq) x1; have l2 := keep (cls hq) x2; have l3 := keep (cls hq) x3; have l4 := keep (cls hq) x4; have l5 := keep (cls hq) x5; have l6 := keep (cls hq) x6; clear hc; go_simp; first | exact q2_value | exact q2_skip | (apply q2_enter; go_at_call 36; with_reducible exact I1.out _ (b_next W1.out (cls hq))) | (apply q2_enter; go_at_call 36; with_reducible exact I2.out _ (b_next W1.out (cls hq))) | (apply q2_enter; go_at_call 36; with_reducible exact I3.out _ (b_next W1.out (cls hq))))
  simp only [Act.put, List.setIfInBounds_toArray, List.set_cons_zero, List.set_cons_succ]
  apply Tail.Gq.p
  · intro wq
    (go_simp; first | exact Tail.pv_value | exact Tail.pv_skip)
  simp only [Act.put, List.setIfInBounds_toArray, List.set_cons_zero, List.set_cons_succ]
  apply Tail.Gq.r
  · intro wq hc hq
    (have l0 := keep (cls hq) x0; have l1 := keep (cls hq) x1; have l2 := keep (cls hq) x2; have l3 := keep (cls hq) x3; have l4 := keep (cls hq) x4; have l5 := keep (cls hq) x5; have l6 := keep (cls hq) x6; clear hc; go_simp; first | exact q2_value | exact q2_skip | (apply q2_enter; go_at_call 36; with_reducible exact I1.out _ (b_next W1.out (cls hq))) | (apply q2_enter; go_at_call 36; with_reducible exact I2.out _ (b_next W1.out (cls hq))) | (apply q2_enter; go_at_call 36; with_reducible exact I3.out _ (b_next W1.out (cls hq))))
  simp only [Act.put, List.setIfInBounds_toArray, List.set_cons_zero, List.set_cons_succ]
  apply Tail.Gq.r
  · intro wq hc hq
    (have l0 := keep (cls hq) x0; have l1 := keep (cls hq) x1; have l2 := keep (cls hq) x2; have l3 := keep (cls hq) x3; have l4 := keep (cls hq) x4; have l5 := keep (cls hq) x5; have l6 := keep (cls hq) x6; clear hc; go_simp; first | exact q2_value | exact q2_skip | (apply q2_enter; go_at_call 36; with_reducible exact I1.out _ (b_next W1.out (cls hq))) | (apply q2_enter; go_at_call 36; with_reducible exact I2.out _ (b_next W1.out (cls hq))) | (apply q2_enter; go_at_call 36; with_reducible exact I3.out _ (b_next W1.out (cls hq))))
  simp only [Act.put, List.setIfInBounds_toArray, List.set_cons_zero, List.set_cons_succ]
  apply Tail.Gq.t
  apply Tail.Gq.t
  refine Tail.Gq.nil ⟨by kernel_rfl, fun w3 hb3 => ?_⟩
  simp only [List.reverse_cons, List.reverse_nil, List.nil_append, List.cons_append]
  have W3 := Lib.hid (b_next W1.out hb3); have N3 := Lib.hid (n8_keep hb3 N1.out)
  clear hb3 x0 x1 x2 x3 x4 x5 x6 x7
  go_wp2_with fail
  simp only [Kit.Ends]
  have OM := Lib.hid (World.ownsRow_lit (base := w.heap.size) (size := 1) (e := 9) w3 #[.string c, .string k, .string f, .string t, .string t1, .string t2, .string t3] 7 W3.out.size (by decide) rfl)
  have W4 := Lib.hid (b_alloc W3.out (.cells #[.string c, .string k, .string f, .string t, .string t1, .string t2, .string t3] 9))
  have N4 := Lib.hid (n8_keep (b_alloc (Below.refl w3.heap.size w3) (.cells #[.string c, .string k, .string f, .string t, .string t1, .string t2, .string t3] 9)) N3.out)
  obtain ⟨n3, hn3⟩ : ∃ n3, n3 = w3.heap.size := ⟨_, rfl⟩
  rw [← hn3] at OM ⊢
  clear hn3
  generalize w3.alloc (.cells #[.string c, .string k, .string f, .string t, .string t1, .string t2, .string t3] 9) = w4 at *
  have OW : Hid (w4.ownsRow w.heap.size 9 1 (.slice (some ⟨n3, 0, none⟩) 7 7) [c, k, f, t, t1, t2, t3].length (vs [c, k, f, t, t1, t2, t3])) := Lib.hid (by have q := OM.out; exact q)
  have HR4 := Lib.hid (sl_keep W4.out HR.out)
  obtain ⟨x0, x1, x2, x3, x4, x5, x6, x7⟩ := N4.out
  have SZ := Lib.hid W4.out.size
  go_wp2_with (at_builtin; refine append_sl rfl (.tmp 29) (.tmp 31) 22 rfl w.heap.size 9 i0 _ Tryz.underlying22 IN.out.1 IN.out.2.1 IN.out.2.2.1 IN.out.2.2.2 rfl _ _ rfl OW.out _ R rfl HR4.out (by have := LN.out; simp; omega) SZ.out ?_; intro v5 w5 ho' hg'; have ho := Lib.hid ho'; have hg := Lib.hid hg'; clear ho' hg'; refine Hid.out ?_)
  have W5 := Lib.hid (Own0.grow_b W4.out OW.out hg.out (Nat.le_refl _) SZ.out)
  obtain ⟨g, cg, e1, hg1, hg2, hg3, hg4, hgr⟩ := Own0.row_of ho.out (by simp)
  have JC := Any.strings_Join joinLays extra g 0 cg ([c, k, f, t, t1, t2, t3] ++ R) ⟨#[32]⟩ w5 (fun j x hx => by
    have hj := (List.getElem?_eq_some_iff.1 hx).1
    rw [Nat.zero_add, (hgr j hj).1]
    show some (Value.string (([c, k, f, t, t1, t2, t3] ++ R).getD j ⟨#[]⟩)) = _
    rw [List.getD_eq_getElem?_getD, hx]; rfl) hg2 (by have := LN.out; simp; omega) hg3 (Nat.le_trans TL'.out (by decide))
  change Calls Tryz.prog 37 _ _ _ at JC
  rw [show ([c, k, f, t, t1, t2, t3] ++ R).length = R.length + 1 + 1 + 1 + 1 + 1 + 1 + 1 from by rw [List.length_append]; simp; omega] at JC
  subst e1
  have JCH := Lib.hid JC
  clear JC hgr ho hg x0 x1 x2 x3 x4 x5 x6 x7
  refine Lib.hid ?_
  go_wp2_with fail
  (with_reducible refine JCH.out.mono ?_); rintro e w6 ⟨rfl, hb⟩
  have W6 := Lib.hid (b_next W5.out hb); clear hb
  go_wp2_with fail
  go_ret2
  exact ⟨by rw [RES.out]; rfl, W6.out⟩
/-- plantext.Print. -/
theorem printC {w : World} (V : Vars w) {r : Value} {R : List ByteArray} (hr : SL w r R) (c k f t : ByteArray) (off sp h : Int) :
    PrC c k f t off sp h r w (if planE c k f t off sp h R.length (rtF R) = 0 then ptext c k f t off sp h R else ⟨#[]⟩) (planE c k f t off sp h R.length (rtF R)) := by
  have CK := checkC (c := c) (k := k) (f := f) (t := t) (off := off) (sp := sp) (h := h) hr
  by_cases e : planE c k f t off sp h R.length (rtF R) = 0
  · rw [if_pos e, e]
    rw [e] at CK
    obtain ⟨A, cap, rfl⟩ := sl_slice hr
    exact print_ok c k f t off sp h A R.length cap R w rfl (Lib.hid hr) (Lib.hid (plan_ok e)) (Lib.hid CK) (Lib.hid fun n h0 h1 _ hb => itoaC (vars_keep hb V) n h0 h1)
  · rw [if_neg e]
    exact print_bad c k f t off sp h r _ w (Lib.hid CK) (by simpa using e) (by simpa using e)
end Pt
end Go.Proofs.YtdlbkpgjbjlgiaaGreatDoor
