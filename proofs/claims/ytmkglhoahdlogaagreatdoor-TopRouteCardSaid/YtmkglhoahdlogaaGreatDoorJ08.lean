/- Joined texts: ChD, Fresh, FreshU, Tail, ChE. -/
import Derived.Test.YtmkglhoahdlogaaGreatDoorJ07
import Derived.Test.YtmkglhoahdlogaaGreatDoorJ01
import Derived.Laws.Rows
namespace Go.Proofs.YtmkglhoahdlogaaGreatDoor
open Go.RowKit
namespace Chart
open Kit Plane Poly
theorem chkF (x y : Int) : Chk x y (if goodB x y = false then 4 else 0) := fun w => by
  have c := check x y w
  cases hg : goodB x y with
  | false => rw [chk_bad (fun g => by rw [goodB_iff.2 g] at hg; cases hg)] at c; rw [if_pos rfl]; exact c
  | true => rw [chk_ok (goodB_iff.1 hg)] at c; rw [if_neg (by simp)]; exact c
/-- The error at one fix. -/
def fe (n : Nat) (N : Nat → ByteArray) (X Y : Nat → Int) (k : Nat) : Int :=
  if Name.nameB (N k) = false then 5 else if fix N (N k) n < k then 7 else if goodB (X k) (Y k) = false then 4 else 0
/-- chart.Check's error. -/
def cerr (n : Nat) (N : Nat → ByteArray) (X Y : Nat → Int) (m : Nat) (M : Nat → ByteArray) (l : Nat → Nat) (S : Nat → Nat → ByteArray) : Int :=
  if 64 < n ∨ 16 < m then 2 else if ferr (fe n N X Y) n ≠ 0 then ferr (fe n N X Y) n else ferr (aerr n N X Y M l S) m
/-- Three cells. -/
structure S3 (w : World) (b : Nat) (s : ByteArray) (x y : Int) : Prop where
  c0 : w.cell? ⟨b, 0, none⟩ = some (.string s)
  c1 : w.cell? ⟨b, 1, none⟩ = some (.int .i64 x)
  c2 : w.cell? ⟨b, 2, none⟩ = some (.int .i64 y)
theorem s3_new (w : World) (t : TypeId) (s : ByteArray) (x y : Int) : S3 (w.alloc (.cells #[.string s, .int .i64 x, .int .i64 y] t)) w.heap.size s x y := ⟨by simp, by simp, by simp⟩
theorem s3_keep {W w1 : World} (hb : Below W.heap.size W w1) {b : Nat} {s : ByteArray} {x y : Int} (h : S3 W b s x y) : S3 w1 b s x y := ⟨keep hb h.c0, keep hb h.c1, keep hb h.c2⟩
theorem all_next {e : Nat → Int} {k : Nat} (h : ∀ j, j < k → e j = 0) (hk : e k = 0) : ∀ j, j < k + 1 → e j = 0 := fun j hj => by
  rcases Nat.lt_or_ge j k with hl | hl
  · exact h j hl
  · rw [show j = k from by omega]; exact hk
set_option maxHeartbeats 1000000 in
theorem check_big (A B : Option Addr) (n cf m ca : Nat) (w : World) (h : 64 < n ∨ 16 < m) :
    Calls Tryz.prog 14 #[.agg #[.slice A n cf, .slice B m ca]] w fun e w' => e = .returned (.int .i64 2) ∧ Below w.heap.size w w' := by
  have W0 := Lib.hid (b_alloc (Below.refl w.heap.size w) (.cells #[.slice A n cf, .slice B m ca] 28))
  go_enter Tryz.func14, Tryz.ntmps14
  rcases h with h | h
  · have h1 : (64 : Int) < (n : Int) := by omega
    go_wp2_with fail
    all_goals (go_ret; exact ⟨rfl, W0.out⟩)
  · have h1 : (16 : Int) < (m : Int) := by omega
    go_wp2_with fail
    all_goals (go_ret; exact ⟨rfl, W0.out⟩)
set_option maxRecDepth 100000 in
set_option maxHeartbeats 8000000 in
theorem check_w (A B : Option Addr) (n cf m ca : Nat) (N : Nat → ByteArray) (X Y : Nat → Int) (M : Nat → ByteArray) (l : Nat → Nat) (S : Nat → Nat → ByteArray) (w : World) (hn : n ≤ 64) (hm : m ≤ 16)
    (HF : Hid (FV w (.slice A n cf) n N X Y)) (IX : Hid (IxC (.slice A n cf) (.slice B m ca) n N w)) (CA : Hid (∀ i, i < m → ∀ w1, Below w.heap.size w w1 → Calls Tryz.prog 39 #[.agg #[.slice A n cf, .slice B m ca], .int .i64 i] w1 fun e w' => e = .returned (.int .i64 (aerr n N X Y M l S i)) ∧ Below w1.heap.size w1 w')) :
    Calls Tryz.prog 14 #[.agg #[.slice A n cf, .slice B m ca]] w fun e w' => e = .returned (.int .i64 (cerr n N X Y m M l S)) ∧ Below w.heap.size w w' := by
  have BX0 := Lib.hid (p2v_new w 28 (.slice A n cf) (.slice B m ca))
  have W0 := Lib.hid (b_alloc (Below.refl w.heap.size w) (.cells #[.slice A n cf, .slice B m ca] 28))
  obtain ⟨R, hR⟩ : ∃ R, R = cerr n N X Y m M l S := ⟨_, rfl⟩
  rw [← hR]
  unfold cerr at hR
  rw [if_neg (by omega)] at hR
  have HR := Lib.hid hR; clear hR
  have g1 : ¬ (64 : Int) < (n : Int) := by omega
  have g2 : ¬ (16 : Int) < (m : Int) := by omega
  go_enter Tryz.func14, Tryz.ntmps14
  go_wp2_with fail
  obtain ⟨w0, hw0⟩ : ∃ w0, w0 = w.alloc (.cells #[.slice A n cf, .slice B m ca] 28) := ⟨_, rfl⟩
  rw [← hw0] at BX0 W0 ⊢
  clear hw0
  go_loopw [21] (fun s wr => ∃ k : Nat, k ≤ n ∧ s = .int .i64 k ∧ (∀ j, j < k → fe n N X Y j = 0) ∧ Below w0.heap.size w0 wr) (fun s _ => n - (intOf s).toNat)
  case atStart => exact ⟨0, Nat.zero_le _, rfl, fun j hj => absurd hj (Nat.not_lt_zero j), Below.refl _ _⟩
  case round =>
    obtain ⟨k, hk, rfl, hno, hbl⟩ := hrel
    have HN := Lib.hid hno; have HB := Lib.hid hbl; have W1 := Lib.hid (b_next W0.out hbl); have BX1 := Lib.hid (p2v_keep hbl BX0.out); clear hno hbl
    obtain ⟨x0, x1⟩ := BX1.out
    by_cases hlt : k < n
    · have hl : (k : Int) < (n : Int) := by omega
      obtain ⟨b, off, c, e, hc1, hc2, HE3⟩ := fv_at (fv_keep W1.out HF.out) (by omega)
      injection e with e1 _ e3
      subst e1 e3
      have hc3 : cf ≤ 9223372036854775807 := Nat.le_trans hc2 (by decide)
      obtain ⟨c0, c1, c2⟩ := HE3 k hlt
      clear HE3
      have S31 := Lib.hid (s3_new wr 38 (N k) (X k) (Y k))
      have hal := b_alloc (Below.refl wr.heap.size wr) (.cells #[.string (N k), .int .i64 (X k), .int .i64 (Y k)] 38)
      have HB2 := Lib.hid (b_next HB.out hal); have W2 := Lib.hid (b_next W1.out hal); have BX2 := Lib.hid (p2v_keep hal BX1.out); clear hal
      have he : fe n N X Y k = if Name.nameB (N k) = false then 5 else if fix N (N k) n < k then 7 else if goodB (X k) (Y k) = false then 4 else 0 := rfl
      have HE : Hid (fe n N X Y k ≠ 0 → R = fe n N X Y k) := Lib.hid fun h => by
        have := ferr_at HN.out h hlt
        rw [HR.out, this, if_pos h]
      go_wp2_with fail
      (with_reducible refine (Name.nameC (N k) _).mono ?_); rintro e w3 ⟨rfl, hb⟩
      have HB3 := Lib.hid (b_next HB2.out hb); have W3 := Lib.hid (b_next W2.out hb); have BX3 := Lib.hid (p2v_keep hb BX2.out); have S33 := Lib.hid (s3_keep hb S31.out); clear hb c0 c1 c2 x0 x1
      obtain ⟨x0, x1⟩ := BX3.out; obtain ⟨c0, c1, c2⟩ := S33.out
      cases hnm : Name.nameB (N k) with
      | false =>
        rw [if_pos hnm] at he
        have e5 : R = 5 := by rw [HE.out (by omega), he]
        subst e5
        go_wp2_with fail
        all_goals (go_ret; exact ⟨rfl, W3.out⟩)
      | true =>
      rw [if_neg (by rw [hnm]; decide)] at he
      go_wp2_with fail
      (with_reducible refine (IX.out _ _ W3.out).mono ?_); rintro e w4 ⟨rfl, hb⟩
      have HB4 := Lib.hid (b_next HB3.out hb); have W4 := Lib.hid (b_next W3.out hb); have BX4 := Lib.hid (p2v_keep hb BX3.out); have S34 := Lib.hid (s3_keep hb S33.out); clear hb c0 c1 c2 x0 x1
      obtain ⟨x0, x1⟩ := BX4.out; obtain ⟨c0, c1, c2⟩ := S34.out
      by_cases hf : fix N (N k) n < k
      · rw [if_pos hf] at he
        have e7 : R = 7 := by rw [HE.out (by omega), he]
        subst e7
        generalize fix N (N k) n = r at *
        go_wp2_with fail
        all_goals (go_ret; exact ⟨rfl, W4.out⟩)
      rw [if_neg hf] at he
      generalize fix N (N k) n = r at *
      have G := Lib.hid (chkF (X k) (Y k))
      go_wp2_with fail
      (with_reducible refine (G.out _).mono ?_); rintro e w5 ⟨rfl, hb⟩
      have HB5 := Lib.hid (b_next HB4.out hb); have W5 := Lib.hid (b_next W4.out hb); clear hb c0 c1 c2 x0 x1
      cases hg : goodB (X k) (Y k) with
      | false =>
        rw [if_pos hg] at he
        have e4 : R = 4 := by rw [HE.out (by omega), he]
        subst e4
        rw [if_pos rfl]
        go_wp2_with fail
        all_goals (go_ret; exact ⟨rfl, W5.out⟩)
      | true =>
        rw [if_neg (by rw [hg]; decide)] at he
        have HZ := Lib.hid he; clear he
        rw [if_neg (by decide)]
        go_wp2_with fail
        exact ⟨⟨k + 1, by omega, by go_num, all_next HN.out HZ.out, HB5.out⟩, by simp [intOf]; omega⟩
    · have hkn : k = n := by omega
      have hlk : ¬ (k : Int) < (n : Int) := by omega
      have hr : R = ferr (aerr n N X Y M l S) m := by
        have := ferr_zero (e := fe n N X Y) (n := n) (fun j hj => HN.out j (by omega))
        rw [HR.out, this, if_neg (by decide)]
      have HR2 := Lib.hid hr; clear hr HR
      obtain ⟨wa, hwa⟩ : ∃ wa : World, wa = wr := ⟨_, rfl⟩
      subst hwa
      go_wp2_with fail
      go_loopw [46] (fun s wq => ∃ i : Nat, i ≤ m ∧ s = .int .i64 i ∧ (∀ j, j < i → aerr n N X Y M l S j = 0) ∧ Below wa.heap.size wa wq) (fun s _ => m - (intOf s).toNat)
      case atStart => exact ⟨0, Nat.zero_le _, rfl, fun j hj => absurd hj (Nat.not_lt_zero j), Below.refl _ _⟩
      case round =>
        obtain ⟨i, hi, rfl, hno, hbl⟩ := hrel
        have HM := Lib.hid hno; have HC := Lib.hid hbl; have W2 := Lib.hid (b_next W1.out hbl); have BX2 := Lib.hid (p2v_keep hbl BX1.out); clear hno hbl x0 x1
        obtain ⟨x0, x1⟩ := BX2.out
        by_cases hlt : i < m
        · have hl : (i : Int) < (m : Int) := by omega
          have HE : Hid (aerr n N X Y M l S i ≠ 0 → R = aerr n N X Y M l S i) := Lib.hid fun h => by rw [HR2.out]; exact ferr_at HM.out h hlt
          have CI := Lib.hid (CA.out i hlt)
          obtain ⟨ae, hae⟩ : ∃ ae, ae = aerr n N X Y M l S i := ⟨_, rfl⟩
          rw [← hae] at HE CI
          have HZ := Lib.hid hae; clear hae
          go_wp2_with fail
          (with_reducible refine (CI.out _ W2.out).mono ?_); rintro e w3 ⟨rfl, hb⟩
          have W3 := Lib.hid (b_next W2.out hb); have HC3 := Lib.hid (b_next HC.out hb); clear hb x0 x1
          by_cases h0 : ae = 0
          · subst h0
            go_wp2_with fail
            exact ⟨⟨i + 1, by omega, by go_num, all_next HM.out HZ.out.symm, HC3.out⟩, by simp [intOf]; omega⟩
          · have e1 := HE.out h0
            subst e1
            have z1 : (R == 0) = false := by simp [h0]
            have z2 : (R != 0) = true := by simp [h0]
            clear HZ
            go_wp2_with fail
            all_goals (go_ret; exact ⟨rfl, W3.out⟩)
        · have hin : i = m := by omega
          have hl : ¬ (i : Int) < (m : Int) := by omega
          have e0 : R = 0 := by rw [HR2.out]; exact ferr_zero (fun j hj => HM.out j (by omega))
          subst e0
          go_wp2_with fail
          all_goals (go_ret; exact ⟨rfl, W2.out⟩)
theorem fv_slice {w : World} {v : Value} {n : Nat} {N : Nat → ByteArray} {X Y : Nat → Int} (h : FV w v n N X Y) : ∃ A cap, v = .slice A n cap := by
  rcases h with ⟨rfl, h⟩ | ⟨h0, b, off, cap, rfl, h1, h2, h3⟩
  · exact nil0_slice h
  · exact ⟨_, _, rfl⟩
theorem av_slice {w : World} {v : Value} {m : Nat} {M : Nat → ByteArray} {l : Nat → Nat} {S : Nat → Nat → ByteArray} (h : AV w v m M l S) : ∃ A cap, v = .slice A m cap := by
  rcases h with ⟨rfl, h⟩ | ⟨h0, b, off, cap, rfl, h1, h2, h3⟩
  · exact nil0_slice h
  · exact ⟨_, _, rfl⟩
/-- A chart in memory. -/
structure CV (w : World) (c : Value) (n : Nat) (N : Nat → ByteArray) (X Y : Nat → Int) (m : Nat) (M : Nat → ByteArray) (l : Nat → Nat) (S : Nat → Nat → ByteArray) : Prop where
  ex : ∃ fx aw, c = .agg #[fx, aw] ∧ FV w fx n N X Y ∧ AV w aw m M l S
theorem cv_keep {W w1 : World} (hb : Below W.heap.size W w1) {c : Value} {n : Nat} {N : Nat → ByteArray} {X Y : Nat → Int} {m : Nat} {M : Nat → ByteArray} {l : Nat → Nat} {S : Nat → Nat → ByteArray} (h : CV W c n N X Y m M l S) : CV w1 c n N X Y m M l S := by
  obtain ⟨fx, aw, e, h1, h2⟩ := h.ex
  exact ⟨fx, aw, e, fv_keep hb h1, av_keep hb h2⟩
theorem checkC {c : Value} {n : Nat} {N : Nat → ByteArray} {X Y : Nat → Int} {m : Nat} {M : Nat → ByteArray} {l : Nat → Nat} {S : Nat → Nat → ByteArray} {w : World} (hv : CV w c n N X Y m M l S) :
    Calls Tryz.prog 14 #[c] w fun e w' => e = .returned (.int .i64 (cerr n N X Y m M l S)) ∧ Below w.heap.size w w' := by
  obtain ⟨fx, aw, rfl, h1, h2⟩ := hv.ex
  obtain ⟨A, cf, rfl⟩ := fv_slice h1
  obtain ⟨B, ca, rfl⟩ := av_slice h2
  by_cases hb : 64 < n ∨ 16 < m
  · unfold cerr
    rw [if_pos hb]
    exact check_big A B n cf m ca w hb
  · refine check_w A B n cf m ca N X Y M l S w (by omega) (by omega) (Lib.hid h1) (Lib.hid fun w1 s hb => indexC (fv_keep hb h1) s) (Lib.hid fun i hi w1 hb => ?_)
    rcases h2 with ⟨h0, -⟩ | ⟨h0, b, off, cap, e, hc1, hc2, hA⟩
    · omega
    · injection e with e1 _ e3
      subst e1 e3
      exact checkAirway_w _ n m ca b off i N X Y M l S w1 hi hc1 (Nat.le_trans hc2 (by decide)) (Lib.hid hc2) (by omega) (Lib.hid (fv_keep hb h1)) (Lib.hid fun k hk => a2_keep hb (hA k hk)) (Lib.hid fun w2 s hb2 => indexC (fv_keep (b_next hb hb2) h1) s)
end Chart
end Go.Proofs.YtmkglhoahdlogaaGreatDoor
namespace Go.Proofs.YtmkglhoahdlogaaGreatDoor
open Go.RowKit
namespace Kit
inductive Info where
  | r (v : Value) | al (d : Tmp) (T : TypeId) (z : Array Value) | st (j : Nat) (cs : Array Value)
def edgeB (o : Oper) (j : Nat) : Bool := o.after.any fun e => Region.binds .any e && e.on == j
def slotsOf (o : Oper) : List Tmp := o.op.operands.toList.filterMap fun | .tmp t => some t | _ => none
def chkPair (is : Array Info) (i : Nat) (o : Oper) (j : Nat) (p : Oper) : Bool :=
  (match p.dst with
    | none => true
    | some d => !(slotsOf o).contains d || (decide (j < i) && edgeB o j) || (decide (i < j) && edgeB p i)) &&
  (match is[j]? with
    | some (.al d _ _) => !(slotsOf o).contains d || (match is[i]? with | some (.st k _) => k == j | _ => false)
    | some (.st k _) => (match is[i]? with | some (.st m _) => i == j || m != k | _ => true)
    | _ => true)
def chkOp (ops : Array Oper) (is : Array Info) (i : Nat) (o : Oper) : Bool :=
  o.guard.isNone && (match o.op with | .select _ _ => false | _ => true) && (o.after.all fun e => !Region.binds .any e || decide (e.on < i)) &&
  (match is[i]? with | some (.st k _) => edgeB o k | _ => true) &&
  (List.range ops.size).all fun j => match ops[j]? with | some p => chkPair is i o j p | none => true
/-- No two operations write one slot. -/
def distB (ops : Array Oper) : Bool :=
  (List.range ops.size).all fun i => (List.range ops.size).all fun j => match ops[i]?, ops[j]? with | some o, some p => i == j || p.dst.isNone || o.dst != p.dst | _, _ => true
def chkAll (ops : Array Oper) (is : Array Info) : Bool :=
  (List.range ops.size).all fun i => match ops[i]? with | some o => chkOp ops is i o | none => true
def quiet2 (P : Program) (w' : World) (v : Value) : Result Next → Prop
  | .ok (.value u) w2 => w2 = w' ∧ u = v
  | .ok .skip w2 => w2 = w' ∧ v = undef
  | .ok (.enter f args) w2 => w2 = w' ∧ Calls P f args w' fun e w3 => e = .returned v ∧ Below w'.heap.size w' w3
  | _ => False
/-- Only block b has turned. -/
def OnlyB (b : Nat) (w' w2 : World) : Prop := w2.os = w'.os ∧ w2.tape = w'.tape ∧ w2.output = w'.output ∧ w2.heap.size = w'.heap.size ∧ ∀ c, c ≠ b → w2.heap[c]? = w'.heap[c]?
section
variable (P : Program) (w : World)
/-- What is asked of one operation, its kind being told, at a frame. -/
def okOp (is : Array Info) (o : Oper) (a : Act) : Info → Prop
  | .r v => ∀ w', (∀ b o, b < w.heap.size → w'.cell? ⟨b, o, none⟩ = w.cell? ⟨b, o, none⟩) → Cls w w' → quiet2 P w' v ((execOp a.eval o).run P w')
  | .al d T z => o.dst = some d ∧ d < a.tmps.size ∧ ∀ w', (execOp a.eval o).run P w' = .ok (.value (.pointer (some ⟨w'.heap.size, 0, none⟩))) (w'.alloc (.cells z T))
  | .st j cs => o.dst = none ∧ ∃ d T z, is[j]? = some (.al d T z) ∧ ∀ w' b, w'.heap[b]? = some (.cells z T (0, 0)) → ∃ w2, (execOp (a.put (some d) (.pointer (some ⟨b, 0, none⟩))).eval o).run P w' = .ok .skip w2 ∧ w2.heap[b]? = some (.cells cs T (0, 0)) ∧ OnlyB b w' w2
/-- The walk in the order of the text. -/
inductive Fq (K : List Info → Act → Prop) : List Oper → Act → List Info → Prop
  | nil {a : Act} {acc : List Info} (h : K acc.reverse a) : Fq K [] a acc
  | r {o : Oper} {rest : List Oper} {a : Act} {acc : List Info}
      (v : Value) (h : ∀ w', (∀ b o, b < w.heap.size → w'.cell? ⟨b, o, none⟩ = w.cell? ⟨b, o, none⟩) → Cls w w' → quiet2 P w' v ((execOp a.eval o).run P w')) (hr : Fq K rest (a.put o.dst v) (.r v :: acc)) : Fq K (o :: rest) a acc
  | al {o : Oper} {rest : List Oper} {a : Act} {acc : List Info} (d : Tmp) (T : TypeId) (z : Array Value) (hd : o.dst = some d) (hs : d < a.tmps.size)
      (h : ∀ w', (execOp a.eval o).run P w' = .ok (.value (.pointer (some ⟨w'.heap.size, 0, none⟩))) (w'.alloc (.cells z T))) (hr : Fq K rest a (.al d T z :: acc)) : Fq K (o :: rest) a acc
  | st {o : Oper} {rest : List Oper} {a : Act} {acc : List Info} (j : Nat) (cs : Array Value) (d : Tmp) (T : TypeId) (z : Array Value) (hd : o.dst = none) (hj : acc.reverse[j]? = some (.al d T z))
      (h : ∀ w' b, w'.heap[b]? = some (.cells z T (0, 0)) → ∃ w2, (execOp (a.put (some d) (.pointer (some ⟨b, 0, none⟩))).eval o).run P w' = .ok .skip w2 ∧ w2.heap[b]? = some (.cells cs T (0, 0)) ∧ OnlyB b w' w2)
      (hr : Fq K rest a (.st j cs :: acc)) : Fq K (o :: rest) a acc
end
section
variable {P : Program} {ops : Array Oper} {w : World} {a0 : Act}
/-- The frame of the text's order ahead of operation i: what R-operations have yielded. -/
structure At (ops : Array Oper) (is : Array Info) (a0 : Act) (i : Nat) (f : Act) : Prop where
  size : f.tmps.size = a0.tmps.size
  defers : f.defers = a0.defers
  old : ∀ d, (∀ j o v, j < i → ops[j]? = some o → is[j]? = some (.r v) → o.dst ≠ some d) → f.tmps[d]? = a0.tmps[d]?
  new : ∀ j o v d, j < i → ops[j]? = some o → is[j]? = some (.r v) → o.dst = some d → d < a0.tmps.size → f.tmps[d]? = some v
theorem put_size (a : Act) (x : Option Tmp) (v : Value) : (a.put x v).tmps.size = a.tmps.size := by cases x <;> simp [Act.put]
theorem put_defers (a : Act) (x : Option Tmp) (v : Value) : (a.put x v).defers = a.defers := by cases x <;> rfl
theorem put_ne (a : Act) (x : Option Tmp) (v : Value) (d : Nat) (h : x ≠ some d) : (a.put x v).tmps[d]? = a.tmps[d]? := by
  cases x with
  | none => rfl
  | some e => exact Array.getElem?_setIfInBounds_ne (fun he => h (by rw [he]))
theorem put_eq (a : Act) (v : Value) (d : Nat) (h : d < a.tmps.size) : (a.put (some d) v).tmps[d]? = some v := by
  simp [Act.put, h]
theorem chk_pair {is : Array Info} (h : chkAll ops is = true) {i j : Nat} {o p : Oper} (hi : ops[i]? = some o) (hj : ops[j]? = some p) : chkPair is i o j p = true := by
  have hlt : i < ops.size := (Array.getElem?_eq_some_iff.1 hi).1
  have hlt' : j < ops.size := (Array.getElem?_eq_some_iff.1 hj).1
  unfold chkAll at h
  rw [List.all_eq_true] at h
  have h1 := h i (List.mem_range.2 hlt)
  simp only [hi] at h1
  unfold chkOp at h1
  rw [Bool.and_eq_true, List.all_eq_true] at h1
  have h2 := h1.2 j (List.mem_range.2 hlt')
  simpa only [hj] using h2
theorem chk_op {is : Array Info} (h : chkAll ops is = true) {i : Nat} {o : Oper} (hi : ops[i]? = some o) : o.guard = none ∧ (∀ e ∈ o.after, Region.binds .any e = true → e.on < i) ∧ (∀ k cs, is[i]? = some (.st k cs) → edgeB o k = true) ∧ ∀ cs b, o.op ≠ .select cs b := by
  have hlt : i < ops.size := (Array.getElem?_eq_some_iff.1 hi).1
  unfold chkAll at h
  rw [List.all_eq_true] at h
  have h1 := h i (List.mem_range.2 hlt)
  simp only [hi] at h1
  unfold chkOp at h1
  simp only [Bool.and_eq_true] at h1
  obtain ⟨⟨⟨⟨h1, h4⟩, h2⟩, h3⟩, -⟩ := h1
  refine ⟨by simpa using h1, fun e he hb => ?_, fun k cs hk => by rw [hk] at h3; exact h3, fun cs b e => by rw [e] at h4; cases h4⟩
  rw [Array.all_eq_true_iff_forall_mem] at h2
  have := h2 e he
  rw [hb] at this
  simpa using this
theorem dist {ops : Array Oper} (h : distB ops = true) {i j : Nat} {o p : Oper} {d : Tmp} (hi : ops[i]? = some o) (hj : ops[j]? = some p) (ho : o.dst = some d) (hp : p.dst = some d) : i = j := by
  have hlt : i < ops.size := (Array.getElem?_eq_some_iff.1 hi).1
  have hlt' : j < ops.size := (Array.getElem?_eq_some_iff.1 hj).1
  unfold distB at h
  rw [List.all_eq_true] at h
  have h1 := h i (List.mem_range.2 hlt)
  rw [List.all_eq_true] at h1
  have h2 := h1 j (List.mem_range.2 hlt')
  simp only [hi, hj] at h2
  rw [ho, hp] at h2
  simpa using h2
theorem chk_slot {is : Array Info} (h : chkAll ops is = true) {i j : Nat} {o p : Oper} {d : Tmp} (hi : ops[i]? = some o) (hj : ops[j]? = some p) (hd : d ∈ slotsOf o) (hp : p.dst = some d) : (j < i ∧ edgeB o j = true) ∨ (i < j ∧ edgeB p i = true) := by
  have h1 := chk_pair h hi hj
  unfold chkPair at h1
  simp only [Bool.and_eq_true] at h1
  have h2 := h1.1
  rw [hp] at h2
  have hc : (slotsOf o).contains d = true := List.contains_iff_mem.2 hd
  simp only [hc, Bool.not_true, Bool.false_or, Bool.or_eq_true, Bool.and_eq_true, decide_eq_true_eq] at h2
  exact h2
theorem chk_al {is : Array Info} (h : chkAll ops is = true) {i j : Nat} {o p : Oper} {d : Tmp} {T : TypeId} {z : Array Value} (hi : ops[i]? = some o) (hj : ops[j]? = some p) (hd : d ∈ slotsOf o) (hp : is[j]? = some (.al d T z)) : ∃ cs, is[i]? = some (.st j cs) := by
  have h1 := chk_pair h hi hj
  unfold chkPair at h1
  simp only [Bool.and_eq_true] at h1
  have h2 := h1.2
  rw [hp] at h2
  have hc : (slotsOf o).contains d = true := List.contains_iff_mem.2 hd
  simp only [hc, Bool.not_true, Bool.false_or] at h2
  split at h2
  · rename_i k cs hk
    have : k = j := by simpa using h2
    exact ⟨cs, by rw [hk, this]⟩
  · cases h2
theorem chk_st {is : Array Info} (h : chkAll ops is = true) {i j k : Nat} {o p : Oper} {cs cs' : Array Value} (hi : ops[i]? = some o) (hj : ops[j]? = some p) (h1 : is[i]? = some (.st k cs)) (h2 : is[j]? = some (.st k cs')) : i = j := by
  have h3 := chk_pair h hi hj
  unfold chkPair at h3
  simp only [Bool.and_eq_true] at h3
  have h4 := h3.2
  rw [h1, h2] at h4
  simpa using h4
theorem edge_mem {o : Oper} {j : Nat} (h : edgeB o j = true) : ∃ e ∈ o.after, Region.binds .any e = true ∧ e.on = j := by
  unfold edgeB at h
  rw [Array.any_eq_true] at h
  obtain ⟨i, hi, h⟩ := h
  rw [Bool.and_eq_true, beq_iff_eq] at h
  exact ⟨_, Array.getElem_mem hi, h.1, h.2⟩
/-- What the walk has shown, operation by operation. -/
theorem fq_spec {K : List Info → Act → Prop} (hD : distB ops = true) : ∀ (l : List Oper) (a : Act) (acc : List Info), Fq P w K l a acc → (∀ j, l[j]? = ops[acc.length + j]?) →
    (At ops acc.reverse.toArray a0 acc.length a) →
    ∃ (is : List Info) (aR : Act), acc.reverse <+: is ∧ is.length = acc.length + l.length ∧ K is aR ∧ At ops is.toArray a0 (acc.length + l.length) aR ∧
      ∀ i o, acc.length ≤ i → i < acc.length + l.length → ops[i]? = some o → ∃ (k : Info) (f : Act), is[i]? = some k ∧ At ops is.toArray a0 i f ∧ okOp P w is.toArray o f k := by
  intro l
  induction l with
  | nil =>
    intro a acc h _ hat
    cases h with
    | nil h => exact ⟨acc.reverse, a, List.prefix_refl _, by simp, h, by simpa using hat, fun i o h1 h2 => by simp at h2; omega⟩
  | cons o l ih =>
    intro a acc h hl hat
    have h0 : ops[acc.length]? = some o := by simpa using (hl 0).symm
    have key : ∀ (k : Info) (a' : Act), Fq P w K l a' (k :: acc) → At ops (k :: acc).reverse.toArray a0 (acc.length + 1) a' → (∀ is : List Info, (k :: acc).reverse <+: is → okOp P w is.toArray o a k) →
        ∃ (is : List Info) (aR : Act), acc.reverse <+: is ∧ is.length = acc.length + (o :: l).length ∧ K is aR ∧ At ops is.toArray a0 (acc.length + (o :: l).length) aR ∧
      ∀ i o', acc.length ≤ i → i < acc.length + (o :: l).length → ops[i]? = some o' → ∃ (k : Info) (f : Act), is[i]? = some k ∧ At ops is.toArray a0 i f ∧ okOp P w is.toArray o' f k := by
      intro k a' hq hat' hok
      obtain ⟨is, aR, h1, h2, h3, h4, h5⟩ := ih a' (k :: acc) hq (fun j => by have := hl (j + 1); simpa [Nat.add_assoc, Nat.add_comm 1 j] using this) (by simpa using hat')
      have hpre : acc.reverse <+: is := List.IsPrefix.trans (by simp) h1
      have hget : ∀ j, j < acc.length → acc.reverse[j]? = is[j]? := fun j hj => by
        obtain ⟨t, ht⟩ := hpre
        rw [← ht, List.getElem?_append_left (by simpa using hj)]
      refine ⟨is, aR, hpre, by rw [h2]; simp; omega, h3, by rw [show acc.length + (o :: l).length = (k :: acc).length + l.length from by simp; omega]; exact h4, fun i o' hi1 hi2 hio => ?_⟩
      rcases Nat.lt_or_ge acc.length i with hlt | hge
      · exact h5 i o' (by simp only [List.length_cons]; omega) (by simp at hi2 ⊢; omega) hio
      · have he : i = acc.length := by omega
        subst he
        have : o' = o := by rw [h0] at hio; exact (Option.some.inj hio).symm
        subst this
        refine ⟨k, a, ?_, ⟨hat.size, hat.defers, fun d hd => hat.old d fun j o v hj hjo hjv => hd j o v hj hjo ?_, fun j o v d hj hjo hjv => hat.new j o v d hj hjo ?_⟩, hok is h1⟩
        · obtain ⟨t, ht⟩ := h1
          rw [← ht, List.getElem?_append_left (by simp)]
          simp
        · simpa [← hget j hj] using hjv
        · simpa [hget j hj] using hjv
    have grow : ∀ (k : Info) (a' : Act), a'.tmps.size = a.tmps.size → a'.defers = a.defers →
        (∀ d, (∀ v, k = .r v → o.dst ≠ some d) → a'.tmps[d]? = a.tmps[d]?) → (∀ v d, k = .r v → o.dst = some d → d < a.tmps.size → a'.tmps[d]? = some v) →
        At ops (k :: acc).reverse.toArray a0 (acc.length + 1) a' := by
      intro k a' h1 h2 h3 h4
      have hg : ∀ j, j < acc.length → (k :: acc).reverse.toArray[j]? = acc.reverse.toArray[j]? := fun j hj => by
        simp only [List.reverse_cons, List.getElem?_toArray]
        rw [List.getElem?_append_left (by simpa using hj)]
      have hgk : (k :: acc).reverse.toArray[acc.length]? = some k := by simp
      refine ⟨h1.trans hat.size, h2.trans hat.defers, fun d hd => ?_, fun j p u d hj hjp hju hpd hds => ?_⟩
      · rw [h3 d (fun v hv => hd acc.length o v (by omega) h0 (by rw [hgk, hv]))]
        exact hat.old d fun j p u hj hjp hju => hd j p u (by omega) hjp (by rw [hg j hj]; exact hju)
      · rcases Nat.lt_or_ge j acc.length with hlt | hge
        · rw [hg j hlt] at hju
          have hold := hat.new j p u d hlt hjp hju hpd hds
          rw [h3 d (fun v hv hod => by have := dist hD hjp h0 hpd hod; omega)]
          exact hold
        · have he : j = acc.length := by omega
          subst he
          rw [hgk] at hju
          have hpo : p = o := by rw [h0] at hjp; exact (Option.some.inj hjp).symm
          subst hpo
          exact h4 u d (Option.some.inj hju) hpd (by rw [hat.size]; exact hds)
    cases h with
    | r v h hr =>
      refine key (.r v) _ hr (grow (.r v) _ (put_size _ _ _) (put_defers _ _ _) (fun d hd => put_ne _ _ _ _ (hd v rfl)) (fun u d hu hd hs => ?_)) (fun _ _ => h)
      injection hu with hu
      subst hu
      rw [hd]
      exact put_eq _ _ _ hs
    | al d T z hd hs h hr => exact key _ _ hr (grow _ _ rfl rfl (fun _ _ => rfl) (fun u d hu => by cases hu)) (fun _ _ => ⟨hd, hs, h⟩)
    | st j cs d T z hd hj h hr =>
      refine key _ _ hr (grow _ _ rfl rfl (fun _ _ => rfl) (fun u d hu => by cases hu)) (fun is hp => ⟨hd, d, T, z, ?_, h⟩)
      obtain ⟨t, ht⟩ := hp
      have hjl : j < acc.reverse.length := (List.getElem?_eq_some_iff.1 hj).1
      rw [← ht, List.getElem?_toArray, List.reverse_cons, List.append_assoc, List.getElem?_append_left hjl]
      exact hj

/-- What holds while some operations have been carried out. -/
structure Inv (ops : Array Oper) (is : Array Info) (a0 : Act) (w : World) (L : Array Bool) (a : Act) (w' : World) (β : Nat → Nat) : Prop where
  lsize : L.size = ops.size
  closed : ∀ j o, ops[j]? = some o → L.getD j false = true → ∀ e ∈ o.after, Region.binds .any e = true → L.getD e.on false = true
  below : Below w.heap.size w w'
  defers : a.defers = a0.defers
  size : a.tmps.size = a0.tmps.size
  new : ∀ j o v d, ops[j]? = some o → L.getD j false = true → is[j]? = some (.r v) → o.dst = some d → d < a0.tmps.size → a.tmps[d]? = some v
  newp : ∀ j d T z, L.getD j false = true → is[j]? = some (.al d T z) → a.tmps[d]? = some (.pointer (some ⟨β j, 0, none⟩))
  old : ∀ d, (∀ j o, ops[j]? = some o → L.getD j false = true → o.dst ≠ some d) → a.tmps[d]? = a0.tmps[d]?
  blk0 : ∀ j d T z, L.getD j false = true → is[j]? = some (.al d T z) → (∀ s cs, is[s]? = some (.st j cs) → L.getD s false = false) → w'.heap[β j]? = some (.cells z T (0, 0))
  blk1 : ∀ s j cs d T z, L.getD s false = true → is[s]? = some (.st j cs) → is[j]? = some (.al d T z) → w'.heap[β j]? = some (.cells cs T (0, 0))
  fresh : ∀ j d T z, L.getD j false = true → is[j]? = some (.al d T z) → w.heap.size ≤ β j
  low : ∀ j d T z, L.getD j false = true → is[j]? = some (.al d T z) → β j < w'.heap.size
  inj : ∀ i j d T z d' T' z', L.getD i false = true → L.getD j false = true → is[i]? = some (.al d T z) → is[j]? = some (.al d' T' z') → β i = β j → i = j
/-- What the walk in the order of the text has shown. -/
structure Told (P : Program) (ops : Array Oper) (is : Array Info) (a0 : Act) (w : World) : Prop where
  dist : distB ops = true
  chk : chkAll ops is = true
  each : ∀ i o, ops[i]? = some o → ∃ (k : Info) (f : Act), is[i]? = some k ∧ At ops is a0 i f ∧ okOp P w is o f k
theorem Told.al {is : Array Info} (h : Told P ops is a0 w) {j : Nat} {p : Oper} {d : Tmp} {T : TypeId} {z : Array Value} (hj : ops[j]? = some p) (hi : is[j]? = some (.al d T z)) : p.dst = some d ∧ d < a0.tmps.size := by
  obtain ⟨k, f, h1, h2, h3⟩ := h.each j p hj
  rw [hi] at h1
  obtain rfl := Option.some.inj h1
  exact ⟨h3.1, by rw [← h2.size]; exact h3.2.1⟩
theorem Told.st {is : Array Info} (h : Told P ops is a0 w) {j k : Nat} {p : Oper} {cs : Array Value} (hj : ops[j]? = some p) (hi : is[j]? = some (.st k cs)) : p.dst = none := by
  obtain ⟨k, f, h1, h2, h3⟩ := h.each j p hj
  rw [hi] at h1
  obtain rfl := Option.some.inj h1
  exact h3.1
theorem Told.op {is : Array Info} (_h : Told P ops is a0 w) (hs : is.size = ops.size) {j : Nat} {k : Info} (hi : is[j]? = some k) : ∃ p, ops[j]? = some p := by
  have : j < is.size := (Array.getElem?_eq_some_iff.1 hi).1
  exact ⟨_, Array.getElem?_eq_getElem (by omega)⟩
/-- A slot that operation i reads holds what it holds in the order of the text. -/
theorem agree {is : Array Info} (T : Told P ops is a0 w) {L : Array Bool} {a : Act} {w' : World} {β : Nat → Nat} (I : Inv ops is a0 w L a w' β) {i : Nat} {o : Oper} {f : Act} (hi : ops[i]? = some o) (hf : At ops is a0 i f)
    (hL : L.getD i false = false) (hdep : ∀ e ∈ o.after, Region.binds .any e = true → L.getD e.on false = true) {t : Tmp} (ht : t ∈ slotsOf o) (hna : ∀ j T z, is[j]? = some (.al t T z) → j < ops.size → False) : a.tmps[t]? = f.tmps[t]? := by
  by_cases hex : ∃ (j : Nat) (p : Oper), ops[j]? = some p ∧ p.dst = some t
  · obtain ⟨j, p, hj, hp⟩ := hex
    have hjl : j < ops.size := (Array.getElem?_eq_some_iff.1 hj).1
    obtain ⟨k, g, hk, hg, hok⟩ := T.each j p hj
    cases k with
    | al d T' z =>
      have := (T.al hj hk).1
      rw [hp] at this
      obtain rfl := Option.some.inj this
      exact (hna j _ _ hk hjl).elim
    | st k cs => have := T.st hj hk; rw [hp] at this; cases this
    | r u =>
      rcases Nat.lt_or_ge t a0.tmps.size with hts | hts
      · rcases chk_slot T.chk hi hj ht hp with ⟨hlt, he⟩ | ⟨hlt, he⟩
        · obtain ⟨e, he1, he2, he3⟩ := edge_mem he
          have hLj := hdep e he1 he2
          rw [he3] at hLj
          rw [I.new j p u t hj hLj hk hp hts, hf.new j p u t hlt hj hk hp hts]
        · obtain ⟨e, he1, he2, he3⟩ := edge_mem he
          rw [I.old t (fun j' p' hj' hL' hp' => by
            have e1 := dist T.dist hj' hj hp' hp
            subst e1
            have := I.closed j' p' hj' hL'
            rw [hj] at hj'
            obtain rfl := Option.some.inj hj'
            have := this e he1 he2
            rw [he3, hL] at this
            cases this), hf.old t (fun j' p' v hlt' hj' _ hp' => by
            have e1 := dist T.dist hj' hj hp' hp
            omega)]
      · rw [Array.getElem?_eq_none (by rw [I.size]; omega), Array.getElem?_eq_none (by rw [hf.size]; omega)]
  · rw [I.old t (fun j p hj _ hp => hex ⟨j, p, hj, hp⟩), hf.old t (fun j p v _ hj _ hp => hex ⟨j, p, hj, hp⟩)]
theorem eval_of {a f : Act} (x : Operand) (h : ∀ t, x = .tmp t → a.tmps[t]? = f.tmps[t]?) : a.eval x = f.eval x := by
  cases x with
  | tmp t => have := h t rfl; simp only [Act.eval, Array.getD_eq_getD_getElem?, this]
  | _ => rfl
theorem slot_mem {o : Oper} {t : Tmp} (h : Operand.tmp t ∈ o.op.operands) : t ∈ slotsOf o :=
  List.mem_filterMap.2 ⟨.tmp t, by simpa using h, rfl⟩
theorem getD_set_same {L : Array Bool} {i : Nat} (h : i < L.size) : (L.setIfInBounds i true).getD i false = true := by simp [h]
theorem getD_set_cases {L : Array Bool} {i j : Nat} (h : (L.setIfInBounds i true).getD j false = true) : j = i ∨ L.getD j false = true := by
  by_cases hij : i = j
  · exact Or.inl hij.symm
  · rw [getD_set_ne false hij] at h; exact Or.inr h
theorem getD_set_false {L : Array Bool} {i j : Nat} (h : (L.setIfInBounds i true).getD j false = false) (hj : j < L.size) : L.getD j false = false ∧ j ≠ i := by
  by_cases hij : i = j
  · subst hij; rw [getD_set_same hj] at h; cases h
  · rw [getD_set_ne false hij] at h; exact ⟨h, fun e => hij e.symm⟩
end
section
variable {P : Program} {ops : Array Oper} {w : World} {a0 : Act}
theorem below_only {w' w2 : World} {b : Nat} (hb : Below w.heap.size w w') (ho : OnlyB b w' w2) (hw : w.heap.size ≤ b) : Below w.heap.size w w2 :=
  ⟨ho.1.trans hb.os, ho.2.1.trans hb.tape, ho.2.2.1.trans hb.output, by rw [ho.2.2.2.1]; exact hb.size, fun c hc => (ho.2.2.2.2 c (by omega)).trans (hb.block c hc)⟩
theorem closed_set {is : Array Info} {L : Array Bool} {a : Act} {w' : World} {β : Nat → Nat} (I : Inv ops is a0 w L a w' β) {i : Nat} {o : Oper} (hi : ops[i]? = some o) (hdep : ∀ e ∈ o.after, Region.binds .any e = true → L.getD e.on false = true) :
    ∀ j o', ops[j]? = some o' → (L.setIfInBounds i true).getD j false = true → ∀ e ∈ o'.after, Region.binds .any e = true → (L.setIfInBounds i true).getD e.on false = true := by
  intro j o' hj hL e he hb
  have up : ∀ m, L.getD m false = true → (L.setIfInBounds i true).getD m false = true := fun m hm => by
    by_cases him : i = m
    · subst him; exact getD_set_same (by
        rcases Nat.lt_or_ge i L.size with h | h
        · exact h
        · simp [Array.getElem?_eq_none h] at hm)
    · rw [getD_set_ne false him]; exact hm
  rcases getD_set_cases hL with rfl | h
  · rw [hi] at hj
    obtain rfl := Option.some.inj hj
    exact up _ (hdep e he hb)
  · exact up _ (I.closed j o' hj h e he hb)
/-- An operation that yields a value. -/
theorem inv_r {is : Array Info} (T : Told P ops is a0 w) (hz : is.size = ops.size) {L : Array Bool} {a : Act} {w' w2 : World} {β : Nat → Nat} (I : Inv ops is a0 w L a w' β) {i : Nat} {o : Oper} {v : Value} (hi : ops[i]? = some o) (hk : is[i]? = some (.r v))
    (hL : L.getD i false = false) (hdep : ∀ e ∈ o.after, Region.binds .any e = true → L.getD e.on false = true) (hb : Below w'.heap.size w' w2) : Inv ops is a0 w (L.setIfInBounds i true) (a.put o.dst v) w2 β := by
  have hil : i < L.size := by rw [I.lsize]; exact (Array.getElem?_eq_some_iff.1 hi).1
  have hkeep : ∀ j d T' z, L.getD j false = true → is[j]? = some (.al d T' z) → w2.heap[β j]? = w'.heap[β j]? := fun j d T' z hj hjk => hb.block _ (I.low j d T' z hj hjk)
  have hne : ∀ j (kk : Info), is[j]? = some kk → (∀ u, kk ≠ .r u) → j ≠ i := fun j kk hj hn e => by
    subst e; rw [hk] at hj; exact hn v (Option.some.inj hj).symm
  refine ⟨by simp [I.lsize], closed_set I hi hdep, b_next I.below hb, by rw [put_defers]; exact I.defers, by rw [put_size]; exact I.size, ?_, ?_, ?_, ?_, ?_, ?_, ?_, ?_⟩
  · intro j p u d hj hLj hju hp hd
    by_cases hji : j = i
    · subst hji
      rw [hi] at hj; obtain rfl := Option.some.inj hj
      rw [hk] at hju; obtain rfl := Info.r.inj (Option.some.inj hju)
      rw [hp]; exact put_eq _ _ _ (by rw [I.size]; exact hd)
    · rw [put_ne _ _ _ _ (fun ho => hji (dist T.dist hj hi hp ho))]
      exact I.new j p u d hj ((getD_set_cases hLj).resolve_left hji) hju hp hd
  · intro j d T' z hLj hjk
    have hji := hne j _ hjk (fun u h => by cases h)
    obtain ⟨p, hj⟩ := T.op hz hjk
    rw [put_ne _ _ _ _ (fun ho => hji (dist T.dist hj hi (T.al hj hjk).1 ho))]
    exact I.newp j d T' z ((getD_set_cases hLj).resolve_left hji) hjk
  · intro d hd
    rw [put_ne _ _ _ _ (hd i o hi (getD_set_same hil))]
    refine I.old d fun j p hj hLj => hd j p hj ?_
    by_cases hij : i = j
    · subst hij; exact getD_set_same hil
    · rw [getD_set_ne false hij]; exact hLj
  · intro j d T' z hLj hjk hs
    have hLj' := (getD_set_cases hLj).resolve_left (hne j _ hjk (fun u h => by cases h))
    rw [hkeep j d T' z hLj' hjk]
    refine I.blk0 j d T' z hLj' hjk fun s cs hsk => ?_
    have h1 := hs s cs hsk
    have hsi := hne s _ hsk (fun u h => by cases h)
    rw [getD_set_ne false (fun e => hsi e.symm)] at h1
    exact h1
  · intro s j cs d T' z hLs hsk hjk
    have hLs' := (getD_set_cases hLs).resolve_left (hne s _ hsk (fun u h => by cases h))
    obtain ⟨p, hp⟩ := T.op hz hsk
    obtain ⟨e, he1, he2, he3⟩ := edge_mem ((chk_op T.chk hp).2.2.1 j cs hsk)
    have hLj : L.getD j false = true := by have := I.closed s p hp hLs' e he1 he2; rw [he3] at this; exact this
    rw [hkeep j d T' z hLj hjk]
    exact I.blk1 s j cs d T' z hLs' hsk hjk
  · intro j d T' z hLj hjk
    exact I.fresh j d T' z ((getD_set_cases hLj).resolve_left (hne j _ hjk (fun u h => by cases h))) hjk
  · intro j d T' z hLj hjk
    exact Nat.lt_of_lt_of_le (I.low j d T' z ((getD_set_cases hLj).resolve_left (hne j _ hjk (fun u h => by cases h))) hjk) hb.size
  · intro x y d T' z d' T2 z' hx hy hxk hyk
    exact I.inj x y d T' z d' T2 z' ((getD_set_cases hx).resolve_left (hne x _ hxk (fun u h => by cases h))) ((getD_set_cases hy).resolve_left (hne y _ hyk (fun u h => by cases h))) hxk hyk
/-- An operation that makes a variable. -/
theorem inv_al {is : Array Info} (T : Told P ops is a0 w) (hz : is.size = ops.size) {L : Array Bool} {a : Act} {w' : World} {β : Nat → Nat} (I : Inv ops is a0 w L a w' β) {i : Nat} {o : Oper} {d0 : Tmp} {T0 : TypeId} {z0 : Array Value} (hi : ops[i]? = some o) (hk : is[i]? = some (.al d0 T0 z0))
    (hL : L.getD i false = false) (hdep : ∀ e ∈ o.after, Region.binds .any e = true → L.getD e.on false = true) :
    Inv ops is a0 w (L.setIfInBounds i true) (a.put o.dst (.pointer (some ⟨w'.heap.size, 0, none⟩))) (w'.alloc (.cells z0 T0)) (fun j => if j = i then w'.heap.size else β j) := by
  have hil : i < L.size := by rw [I.lsize]; exact (Array.getElem?_eq_some_iff.1 hi).1
  have hb : Below w'.heap.size w' (w'.alloc (.cells z0 T0)) := b_alloc (Below.refl _ _) _
  have hod := T.al hi hk
  have hLi : ∀ j, j ≠ i → (L.setIfInBounds i true).getD j false = true → L.getD j false = true := fun j hj h => (getD_set_cases h).resolve_left hj
  refine ⟨by simp [I.lsize], closed_set I hi hdep, b_next I.below hb, by rw [put_defers]; exact I.defers, by rw [put_size]; exact I.size, ?_, ?_, ?_, ?_, ?_, ?_, ?_, ?_⟩
  · intro j p u d hj hLj hju hp hd
    have hji : j ≠ i := fun e => by subst e; rw [hk] at hju; cases hju
    rw [put_ne _ _ _ _ (fun ho => hji (dist T.dist hj hi hp ho))]
    exact I.new j p u d hj (hLi j hji hLj) hju hp hd
  · intro j d T' z hLj hjk
    by_cases hji : j = i
    · subst hji
      rw [hk] at hjk
      injection hjk with hjk
      injection hjk with h1 h2 h3
      subst h1
      rw [hod.1, if_pos rfl]
      exact put_eq _ _ _ (by rw [I.size]; exact hod.2)
    · obtain ⟨p, hj⟩ := T.op hz hjk
      rw [put_ne _ _ _ _ (fun ho => hji (dist T.dist hj hi (T.al hj hjk).1 ho)), if_neg hji]
      exact I.newp j d T' z (hLi j hji hLj) hjk
  · intro d hd
    rw [put_ne _ _ _ _ (hd i o hi (getD_set_same hil))]
    refine I.old d fun j p hj hLj => hd j p hj ?_
    by_cases hij : i = j
    · subst hij; exact getD_set_same hil
    · rw [getD_set_ne false hij]; exact hLj
  · intro j d T' z hLj hjk hs
    by_cases hji : j = i
    · subst hji
      rw [hk] at hjk
      injection hjk with hjk
      injection hjk with h1 h2 h3
      subst h2 h3
      rw [if_pos rfl]
      exact heap_alloc_new w' _
    · have hLj' := hLi j hji hLj
      rw [if_neg hji, hb.block _ (I.low j d T' z hLj' hjk)]
      refine I.blk0 j d T' z hLj' hjk fun s cs hsk => ?_
      have h1 := hs s cs hsk
      have hsi : s ≠ i := fun e => by subst e; rw [hk] at hsk; cases hsk
      rw [getD_set_ne false (fun e => hsi e.symm)] at h1
      exact h1
  · intro s j cs d T' z hLs hsk hjk
    have hsi : s ≠ i := fun e => by subst e; rw [hk] at hsk; cases hsk
    have hLs' := hLi s hsi hLs
    obtain ⟨p, hp⟩ := T.op hz hsk
    obtain ⟨e, he1, he2, he3⟩ := edge_mem ((chk_op T.chk hp).2.2.1 j cs hsk)
    have hLj : L.getD j false = true := by have := I.closed s p hp hLs' e he1 he2; rw [he3] at this; exact this
    have hji : j ≠ i := fun e => by subst e; rw [hL] at hLj; cases hLj
    rw [if_neg hji, hb.block _ (I.low j d T' z hLj hjk)]
    exact I.blk1 s j cs d T' z hLs' hsk hjk
  · intro j d T' z hLj hjk
    by_cases hji : j = i
    · rw [if_pos hji]; exact I.below.size
    · rw [if_neg hji]; exact I.fresh j d T' z (hLi j hji hLj) hjk
  · intro j d T' z hLj hjk
    by_cases hji : j = i
    · rw [if_pos hji]; simp
    · rw [if_neg hji]; exact Nat.lt_of_lt_of_le (I.low j d T' z (hLi j hji hLj) hjk) hb.size
  · intro x y d T' z d' T2 z' hx hy hxk hyk hxy
    by_cases hxi : x = i
    · by_cases hyi : y = i
      · rw [hxi, hyi]
      · rw [if_pos hxi, if_neg hyi] at hxy
        have := I.low y d' T2 z' (hLi y hyi hy) hyk
        omega
    · by_cases hyi : y = i
      · rw [if_neg hxi, if_pos hyi] at hxy
        have := I.low x d T' z (hLi x hxi hx) hxk
        omega
      · rw [if_neg hxi, if_neg hyi] at hxy
        exact I.inj x y d T' z d' T2 z' (hLi x hxi hx) (hLi y hyi hy) hxk hyk hxy
/-- An operation that stores into a variable. -/
theorem inv_st {is : Array Info} (T : Told P ops is a0 w) (hz : is.size = ops.size) {L : Array Bool} {a : Act} {w' w2 : World} {β : Nat → Nat} (I : Inv ops is a0 w L a w' β) {i j0 : Nat} {o : Oper} {cs0 : Array Value} (hi : ops[i]? = some o) (hk : is[i]? = some (.st j0 cs0))
    (hL : L.getD i false = false) (hdep : ∀ e ∈ o.after, Region.binds .any e = true → L.getD e.on false = true) {d0 : Tmp} {T0 : TypeId} {z0 : Array Value} (hj0 : is[j0]? = some (.al d0 T0 z0)) (hnew : w2.heap[β j0]? = some (.cells cs0 T0 (0, 0))) (ho : OnlyB (β j0) w' w2) :
    Inv ops is a0 w (L.setIfInBounds i true) a w2 β := by
  have hil : i < L.size := by rw [I.lsize]; exact (Array.getElem?_eq_some_iff.1 hi).1
  have hod := T.st hi hk
  have hne : ∀ j (kk : Info), is[j]? = some kk → (∀ k cs, kk ≠ .st k cs) → j ≠ i := fun j kk hj hn e => by
    subst e; rw [hk] at hj; exact hn j0 cs0 (Option.some.inj hj).symm
  have hLj0 : L.getD j0 false = true := by
    obtain ⟨e, he1, he2, he3⟩ := edge_mem ((chk_op T.chk hi).2.2.1 j0 cs0 hk)
    have := hdep e he1 he2; rw [he3] at this; exact this
  have hfar : ∀ j d T' z, L.getD j false = true → is[j]? = some (.al d T' z) → j ≠ j0 → w2.heap[β j]? = w'.heap[β j]? := fun j d T' z hLj hjk hjj =>
    ho.2.2.2.2 _ fun e => hjj (I.inj j j0 d T' z d0 T0 z0 hLj hLj0 hjk hj0 e)
  refine ⟨by simp [I.lsize], closed_set I hi hdep, below_only I.below ho (I.fresh j0 d0 T0 z0 hLj0 hj0), I.defers, I.size, ?_, ?_, ?_, ?_, ?_, ?_, ?_, ?_⟩
  · intro j p u d hj hLj hju hp hd
    exact I.new j p u d hj ((getD_set_cases hLj).resolve_left (hne j _ hju (fun _ _ h => by cases h))) hju hp hd
  · intro j d T' z hLj hjk
    exact I.newp j d T' z ((getD_set_cases hLj).resolve_left (hne j _ hjk (fun _ _ h => by cases h))) hjk
  · intro d hd
    refine I.old d fun j p hj hLj => hd j p hj ?_
    by_cases hij : i = j
    · subst hij; exact getD_set_same hil
    · rw [getD_set_ne false hij]; exact hLj
  · intro j d T' z hLj hjk hs
    have hLj' := (getD_set_cases hLj).resolve_left (hne j _ hjk (fun _ _ h => by cases h))
    have hjj : j ≠ j0 := fun e => by
      subst e
      have := hs i cs0 hk
      rw [getD_set_same hil] at this
      cases this
    rw [hfar j d T' z hLj' hjk hjj]
    refine I.blk0 j d T' z hLj' hjk fun s cs hsk => ?_
    have h1 := hs s cs hsk
    by_cases hsi : i = s
    · subst hsi; rw [getD_set_same hil] at h1; cases h1
    · rw [getD_set_ne false hsi] at h1; exact h1
  · intro s j cs d T' z hLs hsk hjk
    by_cases hsi : s = i
    · subst hsi
      rw [hk] at hsk
      injection hsk with hsk
      injection hsk with h1 h2
      subst h1 h2
      rw [hj0] at hjk
      injection hjk with hjk
      injection hjk with h1 h2 h3
      subst h2
      exact hnew
    · have hLs' := (getD_set_cases hLs).resolve_left hsi
      obtain ⟨p, hp⟩ := T.op hz hsk
      obtain ⟨e, he1, he2, he3⟩ := edge_mem ((chk_op T.chk hp).2.2.1 j cs hsk)
      have hLj : L.getD j false = true := by have := I.closed s p hp hLs' e he1 he2; rw [he3] at this; exact this
      have hjj : j ≠ j0 := fun e => by subst e; exact hsi (chk_st T.chk hp hi hsk hk)
      rw [hfar j d T' z hLj hjk hjj]
      exact I.blk1 s j cs d T' z hLs' hsk hjk
  · intro j d T' z hLj hjk
    exact I.fresh j d T' z ((getD_set_cases hLj).resolve_left (hne j _ hjk (fun _ _ h => by cases h))) hjk
  · intro j d T' z hLj hjk
    rw [ho.2.2.2.1]
    exact I.low j d T' z ((getD_set_cases hLj).resolve_left (hne j _ hjk (fun _ _ h => by cases h))) hjk
  · intro x y d T' z d' T2 z' hx hy hxk hyk
    exact I.inj x y d T' z d' T2 z' ((getD_set_cases hx).resolve_left (hne x _ hxk (fun _ _ h => by cases h))) ((getD_set_cases hy).resolve_left (hne y _ hyk (fun _ _ h => by cases h))) hxk hyk
/-- An operation that comes up is carried out. -/
theorem inv_step {is : Array Info} (T : Told P ops is a0 w) (hz : is.size = ops.size) {Q : Exit → Act → World → Prop} {L : Array Bool} {a : Act} {w' : World} {β : Nat → Nat} (I : Inv ops is a0 w L a w' β) {i : Nat} (hr : i ∈ Region.ready .any ops L) :
    wpOp P ops Q i (fun a' w2 => ∃ β', Inv ops is a0 w (L.setIfInBounds i true) a' w2 β') a w' := by
  obtain ⟨hL0, o, hi, hdep⟩ := mem_ready.1 hr
  have hil : i < L.size := by rw [I.lsize]; exact (Array.getElem?_eq_some_iff.1 hi).1
  have hL : L.getD i false = false := by simpa [hil] using hL0
  obtain ⟨hg, hlow, hst, hsel⟩ := chk_op T.chk hi
  obtain ⟨k, f, hk, hf, hok⟩ := T.each i o hi
  unfold wpOp
  simp only [hi]
  rw [if_pos (by simp [Region.wanted, hg])]
  left
  unfold Oper.wp
  cases k with
  | r v =>
    have he : execOp a.eval o = execOp f.eval o := execOp_congr o hsel fun x hx => eval_of x fun t ht => by
      subst ht
      refine agree T I hi hf hL hdep (slot_mem hx) fun j T' z hjk hjl => ?_
      obtain ⟨cs, h⟩ := chk_al T.chk hi (Array.getElem?_eq_getElem hjl) (slot_mem hx) hjk
      rw [hk] at h; cases h
    rw [he]
    have h1 := hok w' (bcell I.below).1 I.below
    generalize (execOp f.eval o).run P w' = r at *
    cases r with
    | ok n w2 =>
      cases n <;> simp only [quiet2] at h1 <;> simp only [Oper.upon]
      case value u =>
        obtain ⟨e1, e2⟩ := h1
        rw [e1, e2]
        exact ⟨β, inv_r T hz I hi hk hL hdep (Below.refl _ _)⟩
      case skip =>
        obtain ⟨e1, e2⟩ := h1
        rw [e1, ← e2]
        exact ⟨β, inv_r T hz I hi hk hL hdep (Below.refl _ _)⟩
      case enter g args =>
        obtain ⟨e1, hc⟩ := h1
        rw [e1]
        exact hc.mono fun e w3 ⟨he', hb⟩ => by subst he'; exact ⟨β, inv_r T hz I hi hk hL hdep hb⟩
    | halt x w2 => simp only [quiet2] at h1
  | al d T0 z =>
    have he : execOp a.eval o = execOp f.eval o := execOp_congr o hsel fun x hx => eval_of x fun t ht => by
      subst ht
      refine agree T I hi hf hL hdep (slot_mem hx) fun j T' z hjk hjl => ?_
      obtain ⟨cs, h⟩ := chk_al T.chk hi (Array.getElem?_eq_getElem hjl) (slot_mem hx) hjk
      rw [hk] at h; cases h
    rw [he, hok.2.2 w']
    simp only [Oper.upon]
    exact ⟨_, inv_al T hz I hi hk hL hdep⟩
  | st j0 cs =>
    obtain ⟨hod, d, T0, z, hj0, hrun⟩ := hok
    obtain ⟨p, hp⟩ := T.op hz hj0
    have hLj0 : L.getD j0 false = true := by
      obtain ⟨e, he1, he2, he3⟩ := edge_mem (hst j0 cs hk)
      have := hdep e he1 he2; rw [he3] at this; exact this
    have hblk := I.blk0 j0 d T0 z hLj0 hj0 fun s cs' hsk => by
      obtain ⟨q, hq⟩ := T.op hz hsk
      have := chk_st T.chk hq hi hsk hk
      rw [this]; exact hL
    obtain ⟨w2, h1, h2, h3⟩ := hrun w' (β j0) hblk
    have he : execOp a.eval o = execOp (f.put (some d) (.pointer (some ⟨β j0, 0, none⟩))).eval o := execOp_congr o hsel fun x hx => eval_of x fun t ht => by
      subst ht
      by_cases htd : t = d
      · subst htd
        rw [I.newp j0 t T0 z hLj0 hj0, put_eq _ _ _ (by rw [hf.size]; exact (T.al hp hj0).2)]
      · rw [put_ne _ _ _ _ (fun e => htd (Option.some.inj e).symm)]
        refine agree T I hi hf hL hdep (slot_mem hx) fun j T' z' hjk hjl => ?_
        obtain ⟨cs', h⟩ := chk_al T.chk hi (Array.getElem?_eq_getElem hjl) (slot_mem hx) hjk
        rw [hk] at h
        injection h with h
        injection h with h4 h5
        subst h4
        rw [hj0] at hjk
        injection hjk with hjk
        injection hjk with h6
        exact htd h6.symm
    rw [he, h1]
    simp only [Oper.upon]
    rw [show a.put o.dst undef = a from by rw [hod]; rfl]
    exact ⟨β, inv_st T hz I hi hk hL hdep hj0 h2 h3⟩
/-- The frame with the pointers to the variables that were made. -/
def putAl (β : Nat → Nat) : List Info → Nat → Act → Act
  | [], _, a => a
  | .al d _ _ :: l, i, a => putAl β l (i + 1) (a.put (some d) (.pointer (some ⟨β i, 0, none⟩)))
  | .r _ :: l, i, a => putAl β l (i + 1) a
  | .st _ _ :: l, i, a => putAl β l (i + 1) a
theorem putAl_keep (β : Nat → Nat) : ∀ (l : List Info) (i : Nat) (a : Act), (putAl β l i a).tmps.size = a.tmps.size ∧ (putAl β l i a).defers = a.defers
  | [], _, _ => ⟨rfl, rfl⟩
  | .al d _ _ :: l, i, a => by have h := putAl_keep β l (i + 1) (a.put (some d) (.pointer (some ⟨β i, 0, none⟩))); rw [put_size, put_defers] at h; exact h
  | .r _ :: l, i, a => putAl_keep β l (i + 1) a
  | .st _ _ :: l, i, a => putAl_keep β l (i + 1) a
theorem putAl_ne (β : Nat → Nat) (t : Tmp) : ∀ (l : List Info) (i : Nat) (a : Act), (∀ (j : Nat) (T : TypeId) (z : Array Value), l[j]? ≠ some (Info.al t T z)) → (putAl β l i a).tmps[t]? = a.tmps[t]?
  | [], _, _, _ => rfl
  | .al d T z :: l, i, a, h => by
    have h1 := putAl_ne β t l (i + 1) (a.put (some d) (.pointer (some ⟨β i, 0, none⟩))) (fun j T z => by have := h (j + 1) T z; simpa using this)
    rw [put_ne _ _ _ _ (fun e => h 0 T z (by rw [← Option.some.inj e]; rfl))] at h1
    exact h1
  | .r _ :: l, i, a, h => putAl_ne β t l (i + 1) a (fun j T z => by have := h (j + 1) T z; simpa using this)
  | .st _ _ :: l, i, a, h => putAl_ne β t l (i + 1) a (fun j T z => by have := h (j + 1) T z; simpa using this)
theorem putAl_eq (β : Nat → Nat) (t : Tmp) : ∀ (l : List Info) (i : Nat) (a : Act) (j : Nat) (T : TypeId) (z : Array Value), l[j]? = some (.al t T z) → (∀ (j' : Nat) (T : TypeId) (z : Array Value), l[j']? = some (Info.al t T z) → j' = j) → t < a.tmps.size →
    (putAl β l i a).tmps[t]? = some (.pointer (some ⟨β (i + j), 0, none⟩))
  | [], _, _, j, _, _, h, _, _ => by simp at h
  | k :: l, i, a, 0, T, z, h, hu, ht => by
    have hk : k = .al t T z := by simpa using h
    subst hk
    show (putAl β l (i + 1) (a.put (some t) (.pointer (some ⟨β i, 0, none⟩)))).tmps[t]? = _
    rw [putAl_ne β t l (i + 1) _ (fun j T z hj => by have := hu (j + 1) T z (by simpa using hj); omega)]
    exact put_eq _ _ _ ht
  | k :: l, i, a, j + 1, T, z, h, hu, ht => by
    have hl : l[j]? = some (.al t T z) := by simpa using h
    have hu' : ∀ j' T z, l[j']? = some (.al t T z) → j' = j := fun j' T z hj => by have := hu (j' + 1) T z (by simpa using hj); omega
    have e : i + (j + 1) = i + 1 + j := by omega
    rw [e]
    cases k with
    | r v => exact putAl_eq β t l (i + 1) a j T z hl hu' ht
    | st _ _ => exact putAl_eq β t l (i + 1) a j T z hl hu' ht
    | al d _ _ => exact putAl_eq β t l (i + 1) _ j T z hl hu' (by rw [put_size]; exact ht)
theorem cnt_set {L : Array Bool} {i n : Nat} (hi : i < n) (hs : i < L.size) (h : L.getD i false = false) : ((List.range n).filter fun j => !(L.setIfInBounds i true).getD j false).length < ((List.range n).filter fun j => !L.getD j false).length := by
  have key : ∀ n, ((List.range n).filter fun j => !(L.setIfInBounds i true).getD j false).length + (if i < n then 1 else 0) = ((List.range n).filter fun j => !L.getD j false).length := by
    intro n
    induction n with
    | zero => simp
    | succ n ih =>
      rw [List.range_succ, List.filter_append, List.filter_append, List.length_append, List.length_append]
      by_cases hin : i = n
      · subst hin
        rw [if_neg (by omega)] at ih
        rw [if_pos (by omega)]
        have e1 : (List.filter (fun j => !(L.setIfInBounds i true).getD j false) [i]).length = 0 := by
          simp only [List.filter_cons, getD_set_same hs, Bool.not_true]; simp
        have e2 : (List.filter (fun j => !L.getD j false) [i]).length = 1 := by
          simp only [List.filter_cons, h, Bool.not_false]; simp
        omega
      · have e : (List.filter (fun j => !(L.setIfInBounds i true).getD j false) [n]).length = (List.filter (fun j => !L.getD j false) [n]).length := by
          simp only [List.filter_cons, getD_set_ne false hin, List.filter_nil]
        by_cases hlt : i < n
        · rw [if_pos hlt] at ih; rw [if_pos (by omega)]; omega
        · rw [if_neg hlt] at ih; rw [if_neg (by omega)]; omega
  have := key n
  rw [if_pos hi] at this
  omega
theorem all_listed {is : Array Info} (T : Told P ops is a0 w) {L : Array Bool} {a : Act} {w' : World} {β : Nat → Nat} (I : Inv ops is a0 w L a w' β) (hr : Region.ready .any ops L = []) : ∀ j, j < ops.size → L.getD j false = true := by
  intro j
  induction j using Nat.strongRecOn with
  | _ j ih =>
    intro hj
    cases hL : L.getD j false with
    | true => rfl
    | false =>
      have hjl : j < L.size := by rw [I.lsize]; exact hj
      have h0 : L.getD j true = false := by simpa [hjl] using hL
      have hm : j ∈ Region.ready .any ops L := mem_ready.2 ⟨h0, ops[j], Array.getElem?_eq_getElem hj, fun e he hb => by
        have hlt := (chk_op T.chk (Array.getElem?_eq_getElem hj)).2.1 e he hb
        exact ih e.on hlt (by omega)⟩
      rw [hr] at hm
      cases hm
theorem any_of_inv {is : Array Info} (T : Told P ops is a0 w) (hz : is.size = ops.size) {Q : Exit → Act → World → Prop} (hQ : ∀ L a w' β, Inv ops is a0 w L a w' β → (∀ j, j < ops.size → L.getD j false = true) → Q .normal a w') :
    ∀ (fuel : Nat) (L : Array Bool) (a : Act) (w' : World), (∃ β, Inv ops is a0 w L a w' β) → ((List.range ops.size).filter fun j => !L.getD j false).length ≤ fuel → wpAny P .any ops Q fuel L a w' := by
  intro fuel
  induction fuel with
  | zero =>
    intro L a w' ⟨β, I⟩ hc
    have hall : ∀ j, j < ops.size → L.getD j false = true := fun j hj => by
      cases hL : L.getD j false with
      | true => rfl
      | false =>
        have : j ∈ (List.range ops.size).filter fun j => !L.getD j false := List.mem_filter.2 ⟨List.mem_range.2 hj, by rw [hL]; rfl⟩
        have := List.length_pos_of_mem this
        omega
    refine ⟨?_, hQ L a w' β I hall⟩
    cases hr : Region.ready .any ops L with
    | nil => rfl
    | cons i _ =>
      obtain ⟨h0, o, hi, -⟩ := mem_ready.1 (show i ∈ Region.ready .any ops L by rw [hr]; simp)
      have hlt : i < ops.size := (Array.getElem?_eq_some_iff.1 hi).1
      have h1 := hall i hlt
      have hl : i < L.size := by rw [I.lsize]; exact hlt
      simp [hl] at h0 h1
      rw [h0] at h1; cases h1
  | succ fuel ih =>
    intro L a w' ⟨β, I⟩ hc
    refine ⟨fun hr => hQ L a w' β I (all_listed T I hr), fun i hi => wpOp_mono (fun a' w2 h => ih _ a' w2 h ?_) (inv_step T hz I hi)⟩
    obtain ⟨h0, o, ho, -⟩ := mem_ready.1 hi
    have hlt : i < ops.size := (Array.getElem?_eq_some_iff.1 ho).1
    have hl : i < L.size := by rw [I.lsize]; exact hlt
    have := cnt_set hlt hl (by simpa [hl] using h0)
    omega
/-- What is known behind the region: of each variable that was made, its block. -/
structure Made (is : List Info) (w w' : World) (β : Nat → Nat) : Prop where
  below : Below w.heap.size w w'
  fresh : ∀ (j : Nat) (d : Tmp) (T : TypeId) (z : Array Value), is[j]? = some (Info.al d T z) → w.heap.size ≤ β j
  block : ∀ (s j : Nat) (cs : Array Value) (d : Tmp) (T : TypeId) (z : Array Value), is[s]? = some (Info.st j cs) → is[j]? = some (Info.al d T z) → w'.heap[β j]? = some (.cells cs T (0, 0))
  inj : ∀ (i j : Nat) (d : Tmp) (T : TypeId) (z : Array Value) (d' : Tmp) (T' : TypeId) (z' : Array Value), is[i]? = some (Info.al d T z) → is[j]? = some (Info.al d' T' z') → β i = β j → i = j
theorem fresh_region {id : Nat} {Q : Exit → Act → World → Prop} {l : List Oper} {a : Act} (hm : P.follows .mixedOrders = true) (hD : distB l.toArray = true)
    (h : Fq P w (fun is aR => chkAll l.toArray is.toArray = true ∧ ∀ β w', Made is w w' β → Q .normal (putAl β is 0 aR) w') l a []) : (Code.region id l.toArray true).wp P Q a w := by
  obtain ⟨is, aR, -, hlen, ⟨hchk, hQ⟩, hat, heach⟩ := fq_spec (ops := l.toArray) (a0 := a) hD l a [] h (fun j => by simp) ⟨rfl, rfl, fun _ _ => rfl, fun j o v d hj => by simp at hj⟩
  have hz : is.toArray.size = l.toArray.size := by simpa using hlen
  have T : Told P l.toArray is.toArray a w := ⟨hD, hchk, fun i o hi => by
    have hlt : i < l.toArray.size := (Array.getElem?_eq_some_iff.1 hi).1
    obtain ⟨k, f, h1, h2, h3⟩ := heach i o (by simp) (by simpa using hlt) hi
    exact ⟨k, f, by simpa using h1, h2, h3⟩⟩
  refine wp_region_any hm (any_of_inv T hz (fun L a' w' β I hall => ?_) _ _ _ _ ⟨fun _ => 0, ?_⟩ ?_)
  · have hM : Made is w w' β := by
      have hl : ∀ j (k : Info), is[j]? = some k → L.getD j false = true := fun j k hj => hall j (by
        have := (List.getElem?_eq_some_iff.1 hj).1
        rw [← hz]; simpa using this)
      exact ⟨I.below, fun j d T z hj => I.fresh j d T z (hl j _ hj) (by simpa using hj), fun s j cs d T z hs hj => I.blk1 s j cs d T z (hl s _ hs) (by simpa using hs) (by simpa using hj),
        fun i j d T z d' T' z' hi hj => I.inj i j d T z d' T' z' (hl i _ hi) (hl j _ hj) (by simpa using hi) (by simpa using hj)⟩
    have hfin : a' = putAl β is 0 aR := by
      have hk := putAl_keep β is 0 aR
      obtain ⟨ta, da⟩ := a'
      have hd : da = (putAl β is 0 aR).defers := by rw [hk.2, hat.defers]; exact I.defers
      have ht : ta = (putAl β is 0 aR).tmps := by
        refine Array.ext_getElem? fun t => ?_
        have hsz : ta.size = a.tmps.size := I.size
        by_cases hex : ∃ (j : Nat) (p : Oper), l.toArray[j]? = some p ∧ p.dst = some t
        · obtain ⟨j, p, hj, hp⟩ := hex
          have hjl : j < l.toArray.size := (Array.getElem?_eq_some_iff.1 hj).1
          obtain ⟨k, f, hkj, hf, hok⟩ := T.each j p hj
          cases k with
          | st k cs => have := T.st hj hkj; rw [hp] at this; cases this
          | al d T' z =>
            have hd := T.al hj hkj
            rw [hp] at hd
            obtain rfl := Option.some.inj hd.1
            have h1 := I.newp j t T' z (hall j hjl) hkj
            have h2 := putAl_eq β t is 0 aR j T' z (by simpa using hkj) (fun j' T2 z2 hj' => by
              obtain ⟨p', hp'⟩ := T.op hz (j := j') (by simpa using hj')
              exact dist T.dist hp' hj (T.al hp' (by simpa using hj')).1 hp) (by rw [hat.size]; exact hd.2)
            rw [Nat.zero_add] at h2
            exact h1.trans h2.symm
          | r v =>
            rw [putAl_ne β t is 0 aR (fun j' T2 z2 hj' => by
              obtain ⟨p', hp'⟩ := T.op hz (j := j') (by simpa using hj')
              have e := dist T.dist hp' hj (T.al hp' (by simpa using hj')).1 hp
              subst e
              rw [show is.toArray[j']? = is[j']? from by simp, hj'] at hkj
              cases hkj)]
            rcases Nat.lt_or_ge t a.tmps.size with hts | hts
            · exact (I.new j p v t hj (hall j hjl) hkj hp hts).trans (hat.new j p v t (by simpa using hjl) hj hkj hp hts).symm
            · rw [Array.getElem?_eq_none (by omega), Array.getElem?_eq_none (by rw [hat.size]; omega)]
        · rw [putAl_ne β t is 0 aR (fun j' T2 z2 hj' => by
            obtain ⟨p', hp'⟩ := T.op hz (j := j') (by simpa using hj')
            exact hex ⟨j', p', hp', (T.al hp' (by simpa using hj')).1⟩)]
          exact (I.old t (fun j p hj _ hp => hex ⟨j, p, hj, hp⟩)).trans (hat.old t (fun j p v _ hj _ hp => hex ⟨j, p, hj, hp⟩)).symm
      rw [ht, hd]
    rw [hfin]
    exact hQ β w' hM
  · have hf : ∀ j, (Array.replicate l.toArray.size false).getD j false = false := fun j => by
      simp only [Array.getD_eq_getD_getElem?, Array.getElem?_replicate]
      split <;> rfl
    refine ⟨by simp, fun j o _ h => ?_, ?_, rfl, rfl, fun j o v d _ h => ?_, fun j d T z h => ?_, fun _ _ => rfl, fun j d T z h => ?_, fun s j cs d T z h => ?_, fun j d T z h => ?_, fun j d T z h => ?_, fun i j d T z d' T' z' h => ?_⟩
    · rw [hf] at h; cases h
    · exact (Below.refl w.heap.size w).drew
    all_goals (rw [hf] at h; cases h)
  · exact Nat.le_trans (List.length_filter_le _ _) (by simp)
end
end Kit
end Go.Proofs.YtmkglhoahdlogaaGreatDoor
namespace Go.Proofs.YtmkglhoahdlogaaGreatDoor
open Go.RowKit
namespace Kit
theorem q2_value {P : Program} {w : World} {v : Value} : quiet2 P w v (.ok (.value v) w) := ⟨rfl, rfl⟩
theorem q2_skip {P : Program} {w : World} : quiet2 P w undef (.ok .skip w) := ⟨rfl, rfl⟩
theorem q2_enter {P : Program} {w : World} {v : Value} {f : FuncId} {args : Array Value} (h : Calls P f args w fun e w3 => e = .returned v ∧ Below w.heap.size w w3) : quiet2 P w v (.ok (.enter f args) w) := ⟨rfl, h⟩
theorem only_refl (b : Nat) (w : World) : OnlyB b w w := ⟨rfl, rfl, rfl, rfl, fun _ _ => rfl⟩
theorem only_set {b : Nat} {w w' : World} (h : OnlyB b w w') (i : Nat) (u : Value) : OnlyB b w (w'.setCell ⟨b, i, none⟩ u) :=
  ⟨h.1, h.2.1, h.2.2.1, by rw [← h.2.2.2.1]; simp [World.setCell], fun c hc => (Below.heap_setCell w' ⟨b, i, none⟩ u c hc).trans (h.2.2.2.2 c hc)⟩
theorem blk_set {w : World} {b : Nat} {t : TypeId} {cs : Array Value} (h : w.heap[b]? = some (.cells cs t (0, 0))) (i : Nat) (u : Value) : (w.setCell ⟨b, i, none⟩ u).heap[b]? = some (.cells (cs.setIfInBounds i u) t (0, 0)) := by
  simp [World.setCell, Array.getElem?_modify, h]
theorem blk_cell {w : World} {b : Nat} {t : TypeId} {cs : Array Value} (h : w.heap[b]? = some (.cells cs t (0, 0))) (i : Nat) : w.cell? ⟨b, i, none⟩ = cs[i]? := cell_of_row w b i cs t (0, 0) h
theorem blk_free {w : World} {b : Nat} {t : TypeId} {cs : Array Value} (h : w.heap[b]? = some (.cells cs t (0, 0))) (i : Nat) : w.frozen? ⟨b, i, none⟩ = false := by simp [World.frozen?, h]
theorem blk_b2 {w : World} {b : Nat} {t : TypeId} {x y : Int} (h : w.heap[b]? = some (.cells #[.int .i64 x, .int .i64 y] t (0, 0))) : B2 w b x y :=
  ⟨⟨blk_cell h 0, blk_cell h 1⟩, blk_free h 0, blk_free h 1⟩
theorem made_ne {is : List Info} {w w' : World} {β : Nat → Nat} (M : Made is w w' β) (i j : Nat) {d d' : Tmp} {T T' : TypeId} {z z' : Array Value} (hi : is[i]? = some (.al d T z)) (hj : is[j]? = some (.al d' T' z')) (h : i ≠ j) : β i ≠ β j :=
  fun e => h (M.inj i j d T z d' T' z' hi hj e)
end Kit
end Go.Proofs.YtmkglhoahdlogaaGreatDoor
namespace Go.Proofs.YtmkglhoahdlogaaGreatDoor
open Go.RowKit
namespace Kit
namespace Tail
/-- r: reads or calls; p: yields the same in every world; t: one of the last ones. -/
inductive Inf where
  | r (v : Value) | p (v : Value) | t
def Inf.val : Inf → Option Value
  | .r v => some v
  | .p v => some v
  | .t => none
def isT : Inf → Bool
  | .t => true
  | _ => false
def isR : Inf → Bool
  | .r _ => true
  | _ => false
/-- The operations that one waits for are marked. -/
def markE (l : List Edge) (m : Array Bool) : Array Bool := l.foldl (fun m e => if Region.binds .any e then m.setIfInBounds e.on true else m) m
def closGo (ops : Array Oper) : Nat → Array Bool → Array Bool
  | 0, m => m
  | i + 1, m => closGo ops i (if m.getD i false then (match ops[i]? with | some o => markE o.after.toList m | none => m) else m)
/-- What operation t waits for, over any number of steps. -/
def clos (ops : Array Oper) (t : Nat) : Array Bool := closGo ops t (match ops[t]? with | some o => markE o.after.toList (Array.replicate ops.size false) | none => Array.replicate ops.size false)
def chkPairT (is : Array Inf) (i : Nat) (o : Oper) (j : Nat) (p : Oper) : Bool :=
  match p.dst with
  | none => true
  | some d => !(slotsOf o).contains d || (match is[j]? with
    | some .t => (match is[i]? with | some .t => true | _ => decide (i < j) && edgeB p i)
    | _ => (decide (j < i) && edgeB o j) || (decide (i < j) && edgeB p i && (match is[i]? with | some .t => false | _ => true)))
def chkOpT (ops : Array Oper) (is : Array Inf) (i : Nat) (o : Oper) : Bool :=
  o.guard.isNone && (match o.op with | .select _ _ => false | _ => true) && (o.after.all fun e => !Region.binds .any e || decide (e.on < i)) &&
  (List.range ops.size).all fun j => match ops[j]? with | some p => chkPairT is i o j p | none => true
/-- The last ones are in a forced order, and the first of them waits for all that read. -/
def chkChain (ops : Array Oper) (is : Array Inf) (T : List Nat) : Bool :=
  (match T with
    | [] => true
    | t :: _ => let m := clos ops t; (List.range ops.size).all fun i => match is[i]? with | some k => !isR k || m.getD i false | none => true) &&
  (List.range T.length).all fun k => let m := clos ops (T.getD k 0); (List.range k).all fun k' => decide (T.getD k' 0 < T.getD k 0) && m.getD (T.getD k' 0) false
def chkT (ops : Array Oper) (is : Array Inf) (T : List Nat) : Bool :=
  chkChain ops is T && (List.range ops.size).all fun i => match ops[i]? with | some o => chkOpT ops is i o | none => true
/-- The value, and the world as it was. -/
def pure2 (w' : World) (v : Value) : Result Next → Prop
  | .ok (.value u) w2 => w2 = w' ∧ u = v
  | .ok .skip w2 => w2 = w' ∧ v = undef
  | _ => False
theorem pure_quiet {P : Program} {w' : World} {v : Value} {r : Result Next} (h : pure2 w' v r) : quiet2 P w' v r ∧ ∀ (g : FuncId) (args : Array Value) (w2 : World), r = .ok (.enter g args) w2 → False := by
  cases r with
  | ok n w2 => cases n <;> simp only [pure2] at h <;> exact ⟨h, fun g args w3 e => by cases e⟩
  | halt x w2 => simp only [pure2] at h
theorem pv_value {w' : World} {v : Value} : pure2 w' v (.ok (.value v) w') := ⟨rfl, rfl⟩
theorem pv_skip {w' : World} : pure2 w' undef (.ok .skip w') := ⟨rfl, rfl⟩
def valAt (is : Array Inf) (j : Nat) : Option Value := (is[j]?).bind Inf.val
section
variable (P : Program) (w : World)
/-- What is asked of one operation, its kind being told, at a frame. -/
def okOp (o : Oper) (a : Act) : Inf → Prop
  | .r v => ∀ w', (∀ b o, b < w.heap.size → w'.cell? ⟨b, o, none⟩ = w.cell? ⟨b, o, none⟩) → Cls w w' → quiet2 P w' v ((execOp a.eval o).run P w')
  | .p v => (∀ w', quiet2 P w' v ((execOp a.eval o).run P w')) ∧ ∀ w' (g : FuncId) (args : Array Value) (w2 : World), (execOp a.eval o).run P w' = .ok (.enter g args) w2 → False
  | .t => True
/-- The walk in the order of the text. -/
inductive Gq (K : List Inf → List Nat → List Oper → Act → Prop) : List Oper → Act → List Inf → List Nat → List Oper → Prop
  | nil {a : Act} {acc : List Inf} {T : List Nat} {TO : List Oper} (h : K acc.reverse T.reverse TO.reverse a) : Gq K [] a acc T TO
  | r {o : Oper} {rest : List Oper} {a : Act} {acc : List Inf} {T : List Nat} {TO : List Oper}
      (v : Value) (h : ∀ w', (∀ b o, b < w.heap.size → w'.cell? ⟨b, o, none⟩ = w.cell? ⟨b, o, none⟩) → Cls w w' → quiet2 P w' v ((execOp a.eval o).run P w')) (hr : Gq K rest (a.put o.dst v) (.r v :: acc) T TO) : Gq K (o :: rest) a acc T TO
  | p {o : Oper} {rest : List Oper} {a : Act} {acc : List Inf} {T : List Nat} {TO : List Oper}
      (v : Value) (h : ∀ w', pure2 w' v ((execOp a.eval o).run P w')) (hr : Gq K rest (a.put o.dst v) (.p v :: acc) T TO) : Gq K (o :: rest) a acc T TO
  | t {o : Oper} {rest : List Oper} {a : Act} {acc : List Inf} {T : List Nat} {TO : List Oper}
      (hr : Gq K rest a (.t :: acc) (acc.length :: T) (o :: TO)) : Gq K (o :: rest) a acc T TO
end
section
variable {P : Program} {ops : Array Oper} {w : World} {a0 : Act}
/-- The frame of the text's order ahead of operation i: what has been yielded. -/
structure At (ops : Array Oper) (is : Array Inf) (a0 : Act) (i : Nat) (f : Act) : Prop where
  size : f.tmps.size = a0.tmps.size
  defers : f.defers = a0.defers
  old : ∀ d, (∀ j o v, j < i → ops[j]? = some o → valAt is j = some v → o.dst ≠ some d) → f.tmps[d]? = a0.tmps[d]?
  new : ∀ j o v d, j < i → ops[j]? = some o → valAt is j = some v → o.dst = some d → d < a0.tmps.size → f.tmps[d]? = some v
/-- The last operations, by their numbers and as they are. -/
structure Tails (ops : Array Oper) (is : Array Inf) (n : Nat) (T : List Nat) (TO : List Oper) : Prop where
  len : TO.length = T.length
  at' : ∀ (k i : Nat), T[k]? = some i → i < n ∧ is[i]? = some .t ∧ ops[i]? = TO[k]?
  all : ∀ i, i < n → is[i]? = some .t → ∃ k : Nat, T[k]? = some i
theorem gq_spec {K : List Inf → List Nat → List Oper → Act → Prop} (hD : distB ops = true) : ∀ (l : List Oper) (a : Act) (acc : List Inf) (T : List Nat) (TO : List Oper), Gq P w K l a acc T TO → (∀ j, l[j]? = ops[acc.length + j]?) →
    At ops acc.reverse.toArray a0 acc.length a → Tails ops acc.reverse.toArray acc.length T.reverse TO.reverse →
    ∃ (is : List Inf) (T' : List Nat) (TO' : List Oper) (aR : Act), acc.reverse <+: is ∧ is.length = acc.length + l.length ∧ K is T' TO' aR ∧ At ops is.toArray a0 (acc.length + l.length) aR ∧ Tails ops is.toArray (acc.length + l.length) T' TO' ∧
      ∀ i o, acc.length ≤ i → i < acc.length + l.length → ops[i]? = some o → ∃ (k : Inf) (f : Act), is[i]? = some k ∧ At ops is.toArray a0 i f ∧ okOp P w o f k := by
  intro l
  induction l with
  | nil =>
    intro a acc T TO h _ hat ht
    cases h with
    | nil h => exact ⟨acc.reverse, T.reverse, TO.reverse, a, List.prefix_refl _, by simp, h, by simpa using hat, by simpa using ht, fun i o h1 h2 => by simp at h2; omega⟩
  | cons o l ih =>
    intro a acc T TO h hl hat ht
    have h0 : ops[acc.length]? = some o := by simpa using (hl 0).symm
    have vget : ∀ (k : Inf) j, j < acc.length → valAt (k :: acc).reverse.toArray j = valAt acc.reverse.toArray j := fun k j hj => by
      unfold valAt
      simp only [List.reverse_cons, List.getElem?_toArray]
      rw [List.getElem?_append_left (by simpa using hj)]
    have vnew : ∀ k : Inf, (k :: acc).reverse.toArray[acc.length]? = some k := fun k => by simp
    have iget : ∀ (k : Inf) j, j < acc.length → (k :: acc).reverse.toArray[j]? = acc.reverse.toArray[j]? := fun k j hj => by
      simp only [List.reverse_cons, List.getElem?_toArray]
      rw [List.getElem?_append_left (by simpa using hj)]
    have key : ∀ (k : Inf) (a' : Act) (T1 : List Nat) (TO1 : List Oper), Gq P w K l a' (k :: acc) T1 TO1 → At ops (k :: acc).reverse.toArray a0 (acc.length + 1) a' → Tails ops (k :: acc).reverse.toArray (acc.length + 1) T1.reverse TO1.reverse → okOp P w o a k →
        ∃ (is : List Inf) (T' : List Nat) (TO' : List Oper) (aR : Act), acc.reverse <+: is ∧ is.length = acc.length + (o :: l).length ∧ K is T' TO' aR ∧ At ops is.toArray a0 (acc.length + (o :: l).length) aR ∧ Tails ops is.toArray (acc.length + (o :: l).length) T' TO' ∧
      ∀ i o', acc.length ≤ i → i < acc.length + (o :: l).length → ops[i]? = some o' → ∃ (k : Inf) (f : Act), is[i]? = some k ∧ At ops is.toArray a0 i f ∧ okOp P w o' f k := by
      intro k a' T1 TO1 hq hat' ht' hok
      obtain ⟨is, T', TO', aR, h1, h2, h3, h4, h5, h6⟩ := ih a' (k :: acc) T1 TO1 hq (fun j => by have := hl (j + 1); simpa [Nat.add_assoc, Nat.add_comm 1 j] using this) (by simpa using hat') (by simpa using ht')
      have hpre : acc.reverse <+: is := List.IsPrefix.trans (by simp) h1
      have hget : ∀ j, j < acc.length → is.toArray[j]? = acc.reverse.toArray[j]? := fun j hj => by
        obtain ⟨t, ht⟩ := hpre
        simp only [List.getElem?_toArray]
        rw [← ht, List.getElem?_append_left (by simpa using hj)]
      have e : acc.length + (o :: l).length = (k :: acc).length + l.length := by simp; omega
      refine ⟨is, T', TO', aR, hpre, by rw [h2, e], h3, by rw [e]; exact h4, by rw [e]; exact h5, fun i o' hi1 hi2 hio => ?_⟩
      rcases Nat.lt_or_ge acc.length i with hlt | hge
      · exact h6 i o' (by simp only [List.length_cons]; omega) (by simp at hi2 ⊢; omega) hio
      · have he : i = acc.length := by omega
        subst he
        have : o' = o := by rw [h0] at hio; exact (Option.some.inj hio).symm
        subst this
        have hv : ∀ j, j < acc.length → valAt is.toArray j = valAt acc.reverse.toArray j := fun j hj => by unfold valAt; rw [hget j hj]
        refine ⟨k, a, ?_, ⟨hat.size, hat.defers, fun d hd => hat.old d fun j o v hj hjo hjv => hd j o v hj hjo (by rw [hv j hj]; exact hjv), fun j o v d hj hjo hjv => hat.new j o v d hj hjo (by rw [← hv j hj]; exact hjv)⟩, hok⟩
        obtain ⟨t, ht⟩ := h1
        rw [← ht, List.getElem?_append_left (by simp)]
        simp
    have grow : ∀ (k : Inf) (a' : Act), a'.tmps.size = a.tmps.size → a'.defers = a.defers →
        (∀ d, (∀ v, k.val = some v → o.dst ≠ some d) → a'.tmps[d]? = a.tmps[d]?) → (∀ v d, k.val = some v → o.dst = some d → d < a.tmps.size → a'.tmps[d]? = some v) →
        At ops (k :: acc).reverse.toArray a0 (acc.length + 1) a' := by
      intro k a' h1 h2 h3 h4
      have hgk : valAt (k :: acc).reverse.toArray acc.length = k.val := by unfold valAt; rw [vnew]; rfl
      refine ⟨h1.trans hat.size, h2.trans hat.defers, fun d hd => ?_, fun j p u d hj hjp hju hpd hds => ?_⟩
      · rw [h3 d (fun v hv => hd acc.length o v (by omega) h0 (by rw [hgk, hv]))]
        exact hat.old d fun j p u hj hjp hju => hd j p u (by omega) hjp (by rw [vget k j hj]; exact hju)
      · rcases Nat.lt_or_ge j acc.length with hlt | hge
        · rw [vget k j hlt] at hju
          have hold := hat.new j p u d hlt hjp hju hpd hds
          rw [h3 d (fun v hv hod => by have := dist hD hjp h0 hpd hod; omega)]
          exact hold
        · have he : j = acc.length := by omega
          subst he
          rw [hgk] at hju
          have hpo : p = o := by rw [h0] at hjp; exact (Option.some.inj hjp).symm
          subst hpo
          exact h4 u d hju hpd (by rw [hat.size]; exact hds)
    have tsame : ∀ k : Inf, k ≠ .t → Tails ops (k :: acc).reverse.toArray (acc.length + 1) T.reverse TO.reverse := fun k hk => by
      refine ⟨ht.len, fun m i hm => ?_, fun i hi hit => ?_⟩
      · obtain ⟨h1, h2, h3⟩ := ht.at' m i hm
        exact ⟨by omega, by rw [iget k i h1]; exact h2, h3⟩
      · rcases Nat.lt_or_ge i acc.length with hlt | hge
        · exact ht.all i hlt (by rw [← iget k i hlt]; exact hit)
        · have : i = acc.length := by omega
          subst this
          rw [vnew] at hit
          exact absurd (Option.some.inj hit) hk
    cases h with
    | r v h hr =>
      refine key (.r v) _ _ _ hr (grow (.r v) _ (put_size _ _ _) (put_defers _ _ _) (fun d hd => put_ne _ _ _ _ (hd v rfl)) (fun u d hu hd hs => ?_)) (tsame _ (fun e => by cases e)) h
      obtain rfl : v = u := Option.some.inj hu
      rw [hd]
      exact put_eq _ _ _ hs
    | p v h hr =>
      refine key (.p v) _ _ _ hr (grow (.p v) _ (put_size _ _ _) (put_defers _ _ _) (fun d hd => put_ne _ _ _ _ (hd v rfl)) (fun u d hu hd hs => ?_)) (tsame _ (fun e => by cases e)) ⟨fun w' => (pure_quiet (h w')).1, fun w' => (pure_quiet (P := P) (h w')).2⟩
      obtain rfl : v = u := Option.some.inj hu
      rw [hd]
      exact put_eq _ _ _ hs
    | t hr =>
      refine key .t _ _ _ hr (grow .t _ rfl rfl (fun _ _ => rfl) (fun u d hu => by cases hu)) ⟨by simp [List.length_reverse] at ht ⊢; have := ht.len; simpa using this, fun m i hm => ?_, fun i hi hit => ?_⟩ trivial
      · have hlen : TO.length = T.length := by have := ht.len; simpa using this
        simp only [List.reverse_cons] at hm ⊢
        rcases Nat.lt_or_ge m T.reverse.length with hlt | hge
        · rw [List.getElem?_append_left hlt] at hm
          obtain ⟨h1, h2, h3⟩ := ht.at' m i hm
          have h4 := iget .t i h1
          rw [List.reverse_cons] at h4
          refine ⟨by omega, by rw [h4]; exact h2, ?_⟩
          rw [List.getElem?_append_left (by simpa [hlen] using hlt)]
          exact h3
        · rw [List.getElem?_append_right hge] at hm
          have hm0 : m - T.reverse.length = 0 := by
            rcases Nat.eq_zero_or_pos (m - T.reverse.length) with h | h
            · exact h
            · rw [List.getElem?_eq_none (by simp at h ⊢; omega)] at hm; cases hm
          rw [hm0] at hm
          obtain rfl : acc.length = i := by simpa using hm
          have h4 := vnew .t
          rw [List.reverse_cons] at h4
          refine ⟨by omega, h4, ?_⟩
          rw [List.getElem?_append_right (by simp [hlen] at hge ⊢; exact hge), show m - TO.reverse.length = 0 from by simp [hlen] at hm0 ⊢; exact hm0]
          simpa using h0
      · rcases Nat.lt_or_ge i acc.length with hlt | hge
        · obtain ⟨k, hk⟩ := ht.all i hlt (by rw [← iget .t i hlt]; exact hit)
          refine ⟨k, ?_⟩
          rw [List.reverse_cons, List.getElem?_append_left (List.getElem?_eq_some_iff.1 hk).1]
          exact hk
        · have : i = acc.length := by omega
          subst this
          exact ⟨T.reverse.length, by rw [List.reverse_cons, List.getElem?_append_right (Nat.le_refl _)]; simp⟩
/-- What the walk in the order of the text has shown. -/
structure Told (P : Program) (ops : Array Oper) (is : Array Inf) (T : List Nat) (TO : List Oper) (a0 : Act) (w : World) (aR : Act) : Prop where
  dist : distB ops = true
  chk : chkT ops is T = true
  each : ∀ i o, ops[i]? = some o → ∃ (k : Inf) (f : Act), is[i]? = some k ∧ At ops is a0 i f ∧ okOp P w o f k
  fin : At ops is a0 ops.size aR
  tails : Tails ops is ops.size T TO
theorem t_op {is : Array Inf} {T : List Nat} (h : chkT ops is T = true) {i : Nat} {o : Oper} (hi : ops[i]? = some o) : chkOpT ops is i o = true := by
  have hlt : i < ops.size := (Array.getElem?_eq_some_iff.1 hi).1
  unfold chkT at h
  rw [Bool.and_eq_true, List.all_eq_true] at h
  have h1 := h.2 i (List.mem_range.2 hlt)
  simpa only [hi] using h1
theorem t_parts {is : Array Inf} {i : Nat} {o : Oper} (h : chkOpT ops is i o = true) : o.guard = none ∧ (∀ e ∈ o.after, Region.binds .any e = true → e.on < i) ∧ (∀ cs b, o.op ≠ .select cs b) ∧ ∀ j p, ops[j]? = some p → chkPairT is i o j p = true := by
  unfold chkOpT at h
  simp only [Bool.and_eq_true, List.all_eq_true] at h
  obtain ⟨⟨⟨h1, h4⟩, h2⟩, h3⟩ := h
  refine ⟨by simpa using h1, fun e he hb => ?_, (fun cs b e => by rw [e] at h4; cases h4), fun j p hj => ?_⟩
  · rw [Array.all_eq_true_iff_forall_mem] at h2
    have := h2 e he
    rw [hb] at this
    simpa using this
  · have := h3 j (List.mem_range.2 (Array.getElem?_eq_some_iff.1 hj).1)
    simpa only [hj] using this
theorem t_slot {is : Array Inf} {i j : Nat} {o p : Oper} {d : Tmp} (h : chkPairT is i o j p = true) (hd : d ∈ slotsOf o) (hp : p.dst = some d) :
    (is[j]? = some .t ∧ (is[i]? = some .t ∨ (i < j ∧ edgeB p i = true))) ∨ (is[j]? ≠ some .t ∧ ((j < i ∧ edgeB o j = true) ∨ (i < j ∧ edgeB p i = true ∧ is[i]? ≠ some .t))) := by
  unfold chkPairT at h
  rw [hp] at h
  have hc : (slotsOf o).contains d = true := List.contains_iff_mem.2 hd
  simp only [hc, Bool.not_true, Bool.false_or] at h
  split at h
  · rename_i hj
    split at h
    · rename_i hi; exact Or.inl ⟨hj, Or.inl hi⟩
    · simp only [Bool.and_eq_true, decide_eq_true_eq] at h
      exact Or.inl ⟨hj, Or.inr h⟩
  · rename_i hj
    refine Or.inr ⟨hj, ?_⟩
    simp only [Bool.or_eq_true, Bool.and_eq_true, decide_eq_true_eq] at h
    rcases h with h | ⟨⟨h1, h2⟩, h3⟩
    · exact Or.inl h
    · refine Or.inr ⟨h1, h2, fun hi => ?_⟩
      rw [hi] at h3
      cases h3
theorem mark_le {L : Array Bool} : ∀ (l : List Edge) (m : Array Bool), (∀ j, m.getD j false = true → L.getD j false = true) → (∀ e ∈ l, Region.binds .any e = true → L.getD e.on false = true) → ∀ j, (markE l m).getD j false = true → L.getD j false = true
  | [], _, hm, _, j, h => hm j h
  | e :: l, m, hm, he, j, h => by
    unfold markE at h
    rw [List.foldl_cons] at h
    refine mark_le l _ (fun j' h' => ?_) (fun e' h1 h2 => he e' (List.mem_cons_of_mem _ h1) h2) j h
    split at h'
    · rename_i hb
      rcases getD_set_cases h' with rfl | h''
      · exact he e (List.mem_cons_self ..) hb
      · exact hm j' h''
    · exact hm j' h'
theorem clos_le {L : Array Bool} (hc : ∀ j o, ops[j]? = some o → L.getD j false = true → ∀ e ∈ o.after, Region.binds .any e = true → L.getD e.on false = true) : ∀ (n : Nat) (m : Array Bool), (∀ j, m.getD j false = true → L.getD j false = true) → ∀ j, (closGo ops n m).getD j false = true → L.getD j false = true
  | 0, _, hm, j, h => hm j h
  | n + 1, m, hm, j, h => by
    refine clos_le hc n _ (fun j' h' => ?_) j h
    split at h'
    · rename_i hn
      split at h'
      · rename_i o ho
        exact mark_le _ _ hm (fun e he hb => hc n o ho (hm n hn) e (by simpa using he) hb) j' h'
      · exact hm j' h'
    · exact hm j' h'
theorem clos_listed {L : Array Bool} (hc : ∀ j o, ops[j]? = some o → L.getD j false = true → ∀ e ∈ o.after, Region.binds .any e = true → L.getD e.on false = true) {t : Nat} {o : Oper} (ho : ops[t]? = some o) (hd : ∀ e ∈ o.after, Region.binds .any e = true → L.getD e.on false = true) {j : Nat} (h : (clos ops t).getD j false = true) : L.getD j false = true := by
  unfold clos at h
  rw [ho] at h
  have h0 : ∀ j, (Array.replicate ops.size false).getD j false = true → L.getD j false = true := fun j hj => by
    simp only [Array.getD_eq_getD_getElem?, Array.getElem?_replicate] at hj
    split at hj <;> cases hj
  exact clos_le hc t _ (mark_le _ _ h0 (fun e he hb => hd e (by simpa using he) hb)) j h
theorem ch_first {is : Array Inf} {t : Nat} {T : List Nat} (h : chkT ops is (t :: T) = true) {i : Nat} {v : Value} (hi : i < ops.size) (hk : is[i]? = some (.r v)) : (clos ops t).getD i false = true := by
  unfold chkT chkChain at h
  simp only [Bool.and_eq_true, List.all_eq_true] at h
  have := h.1.1 i (List.mem_range.2 hi)
  rw [hk] at this
  simpa [isR] using this
theorem ch_next {is : Array Inf} {T : List Nat} (h : chkT ops is T = true) {k k' i i' : Nat} (hk : T[k]? = some i) (hk' : T[k']? = some i') (hlt : k' < k) : i' < i ∧ (clos ops i).getD i' false = true := by
  unfold chkT chkChain at h
  simp only [Bool.and_eq_true, List.all_eq_true] at h
  have h1 : T.getD k 0 = i := by rw [List.getD_eq_getElem?_getD, hk]; rfl
  have h2 : T.getD k' 0 = i' := by rw [List.getD_eq_getElem?_getD, hk']; rfl
  have := h.1.2 k (List.mem_range.2 (List.getElem?_eq_some_iff.1 hk).1) k' (List.mem_range.2 hlt)
  rw [h1, h2] at this
  simpa using this
/-- What holds while some operations have been carried out, m of the last ones among them. -/
structure Inv (P : Program) (ops : Array Oper) (is : Array Inf) (T : List Nat) (TO : List Oper) (a0 : Act) (w : World) (aR : Act) (Q : Exit → Act → World → Prop) (L : Array Bool) (a : Act) (w' : World) (m : Nat) : Prop where
  lsize : L.size = ops.size
  closed : ∀ j o, ops[j]? = some o → L.getD j false = true → ∀ e ∈ o.after, Region.binds .any e = true → L.getD e.on false = true
  size : a.tmps.size = a0.tmps.size
  new : ∀ j o v d, ops[j]? = some o → L.getD j false = true → valAt is j = some v → o.dst = some d → d < a0.tmps.size → a.tmps[d]? = some v
  old : ∀ d, (∀ j o, ops[j]? = some o → L.getD j false = true → o.dst ≠ some d) → a.tmps[d]? = a0.tmps[d]?
  done : ∀ (k i : Nat), T[k]? = some i → (L.getD i false = true ↔ k < m)
  first : m = 0 → Below w.heap.size w w' ∧ a.defers = a0.defers
  later : 0 < m → (∀ i v, i < ops.size → is[i]? = some (.r v) → L.getD i false = true) ∧ ∃ aS, aS.defers = a.defers ∧ aS.tmps.size = a0.tmps.size ∧
    (∀ d, (∃ (k i : Nat) (o : Oper), k < m ∧ T[k]? = some i ∧ ops[i]? = some o ∧ o.dst = some d) → aS.tmps[d]? = a.tmps[d]?) ∧
    (∀ d, (∀ (k i : Nat) (o : Oper), k < m → T[k]? = some i → ops[i]? = some o → o.dst ≠ some d) → aS.tmps[d]? = aR.tmps[d]?) ∧ wpList P TO.toArray Q (TO.drop m) aS w'
theorem Told.tdst {is : Array Inf} {T : List Nat} {TO : List Oper} {aR : Act} (h : Told P ops is T TO a0 w aR) {i : Nat} {o : Oper} (hi : ops[i]? = some o) (ht : is[i]? ≠ some .t) : ∃ v, valAt is i = some v := by
  obtain ⟨k, f, h1, -, -⟩ := h.each i o hi
  unfold valAt
  rw [h1]
  cases k with
  | r v => exact ⟨v, rfl⟩
  | p v => exact ⟨v, rfl⟩
  | t => exact absurd h1 ht
theorem val_not {is : Array Inf} {i : Nat} {v : Value} (h : valAt is i = some v) : is[i]? ≠ some .t := fun e => by
  unfold valAt at h; rw [e] at h; cases h
variable {Q : Exit → Act → World → Prop}
/-- A slot that operation i, none of the last, reads holds what it holds in the order of the text. -/
theorem agree {is : Array Inf} {T : List Nat} {TO : List Oper} {aR : Act} (H : Told P ops is T TO a0 w aR) {L : Array Bool} {a : Act} {w' : World} {m : Nat} (I : Inv P ops is T TO a0 w aR Q L a w' m) {i : Nat} {o : Oper} {f : Act} (hi : ops[i]? = some o) (hf : At ops is a0 i f)
    (hL : L.getD i false = false) (hdep : ∀ e ∈ o.after, Region.binds .any e = true → L.getD e.on false = true) (hnt : is[i]? ≠ some .t) {t : Tmp} (ht : t ∈ slotsOf o) : a.tmps[t]? = f.tmps[t]? := by
  by_cases hex : ∃ (j : Nat) (p : Oper), ops[j]? = some p ∧ p.dst = some t
  · obtain ⟨j, p, hj, hp⟩ := hex
    rcases t_slot ((t_parts (t_op H.chk hi)).2.2.2 j p hj) ht hp with ⟨-, h2 | ⟨hlt, he⟩⟩ | ⟨hjt, h2⟩
    · exact absurd h2 hnt
    · obtain ⟨e, he1, he2, he3⟩ := edge_mem he
      rw [I.old t (fun j' p' hj' hL' hp' => by
        have e1 := dist H.dist hj' hj hp' hp
        subst e1
        have := I.closed j' p' hj' hL'
        rw [hj] at hj'
        obtain rfl := Option.some.inj hj'
        have := this e he1 he2
        rw [he3, hL] at this
        cases this), hf.old t (fun j' p' v hlt' hj' _ hp' => by
        have e1 := dist H.dist hj' hj hp' hp
        omega)]
    · obtain ⟨u, hu⟩ := H.tdst hj hjt
      rcases Nat.lt_or_ge t a0.tmps.size with hts | hts
      · rcases h2 with ⟨hlt, he⟩ | ⟨hlt, he, -⟩
        · obtain ⟨e, he1, he2, he3⟩ := edge_mem he
          have hLj := hdep e he1 he2
          rw [he3] at hLj
          rw [I.new j p u t hj hLj hu hp hts, hf.new j p u t hlt hj hu hp hts]
        · obtain ⟨e, he1, he2, he3⟩ := edge_mem he
          rw [I.old t (fun j' p' hj' hL' hp' => by
            have e1 := dist H.dist hj' hj hp' hp
            subst e1
            have := I.closed j' p' hj' hL'
            rw [hj] at hj'
            obtain rfl := Option.some.inj hj'
            have := this e he1 he2
            rw [he3, hL] at this
            cases this), hf.old t (fun j' p' v hlt' hj' _ hp' => by
            have e1 := dist H.dist hj' hj hp' hp
            omega)]
      · rw [Array.getElem?_eq_none (by rw [I.size]; omega), Array.getElem?_eq_none (by rw [hf.size]; omega)]
  · rw [I.old t (fun j p hj _ hp => hex ⟨j, p, hj, hp⟩), hf.old t (fun j p v _ hj _ hp => hex ⟨j, p, hj, hp⟩)]
theorem closed_set {L : Array Bool} (hc : ∀ j o, ops[j]? = some o → L.getD j false = true → ∀ e ∈ o.after, Region.binds .any e = true → L.getD e.on false = true) {i : Nat} {o : Oper} (hi : ops[i]? = some o) (hdep : ∀ e ∈ o.after, Region.binds .any e = true → L.getD e.on false = true) :
    ∀ j o', ops[j]? = some o' → (L.setIfInBounds i true).getD j false = true → ∀ e ∈ o'.after, Region.binds .any e = true → (L.setIfInBounds i true).getD e.on false = true := by
  intro j o' hj hL e he hb
  have up : ∀ m, L.getD m false = true → (L.setIfInBounds i true).getD m false = true := fun m hm => by
    by_cases him : i = m
    · subst him; exact getD_set_same (by
        rcases Nat.lt_or_ge i L.size with h | h
        · exact h
        · simp [Array.getElem?_eq_none h] at hm)
    · rw [getD_set_ne false him]; exact hm
  rcases getD_set_cases hL with rfl | h
  · rw [hi] at hj
    obtain rfl := Option.some.inj hj
    exact up _ (hdep e he hb)
  · exact up _ (hc j o' hj h e he hb)
/-- An operation that yields a value, none of the last. -/
theorem inv_val {is : Array Inf} {T : List Nat} {TO : List Oper} {aR : Act} (H : Told P ops is T TO a0 w aR) {L : Array Bool} {a : Act} {w' w2 : World} {m : Nat} (I : Inv P ops is T TO a0 w aR Q L a w' m) {i : Nat} {o : Oper} {v : Value} (hi : ops[i]? = some o) (hk : valAt is i = some v)
    (_hL : L.getD i false = false) (hdep : ∀ e ∈ o.after, Region.binds .any e = true → L.getD e.on false = true) (hw : (m = 0 ∧ Below w'.heap.size w' w2) ∨ w2 = w') : Inv P ops is T TO a0 w aR Q (L.setIfInBounds i true) (a.put o.dst v) w2 m := by
  have hil : i < L.size := by rw [I.lsize]; exact (Array.getElem?_eq_some_iff.1 hi).1
  refine ⟨by simp [I.lsize], closed_set I.closed hi hdep, by rw [put_size]; exact I.size, ?_, ?_, ?_, ?_, ?_⟩
  · intro j p u d hj hLj hju hp hd
    by_cases hji : j = i
    · subst hji
      rw [hi] at hj; obtain rfl := Option.some.inj hj
      rw [hk] at hju; obtain rfl := Option.some.inj hju
      rw [hp]; exact put_eq _ _ _ (by rw [I.size]; exact hd)
    · rw [put_ne _ _ _ _ (fun ho => hji (dist H.dist hj hi hp ho))]
      exact I.new j p u d hj ((getD_set_cases hLj).resolve_left hji) hju hp hd
  · intro d hd
    rw [put_ne _ _ _ _ (hd i o hi (getD_set_same hil))]
    refine I.old d fun j p hj hLj => hd j p hj ?_
    by_cases hij : i = j
    · subst hij; exact getD_set_same hil
    · rw [getD_set_ne false hij]; exact hLj
  · intro k i' hk'
    have hne : i ≠ i' := fun e => by subst e; exact val_not hk (H.tails.at' k i hk').2.1
    rw [getD_set_ne false hne]
    exact I.done k i' hk'
  · intro h0
    obtain ⟨h1, h2⟩ := I.first h0
    refine ⟨?_, by rw [put_defers]; exact h2⟩
    rcases hw with ⟨-, hb⟩ | rfl
    · exact b_next h1 hb
    · exact h1
  · intro h0
    obtain ⟨h1, aS, h2, h3, h4, h5, h6⟩ := I.later h0
    have hw2 : w2 = w' := hw.resolve_left (fun h => by omega)
    subst hw2
    refine ⟨fun i' v' hi' hk' => ?_, aS, by rw [put_defers]; exact h2, h3, fun d hd => ?_, h5, h6⟩
    · by_cases hii : i = i'
      · subst hii; exact getD_set_same hil
      · rw [getD_set_ne false hii]; exact h1 i' v' hi' hk'
    · rw [put_ne _ _ _ _ (fun ho => ?_)]
      · exact h4 d hd
      · obtain ⟨k, i', o', -, hk', hi', hd'⟩ := hd
        have := dist H.dist hi' hi hd' ho
        subst this
        exact val_not hk (H.tails.at' k _ hk').2.1
/-- A slot that one of the last operations reads holds what it holds in the walk of these. -/
theorem agree_t {is : Array Inf} {T : List Nat} {TO : List Oper} {aR : Act} (H : Told P ops is T TO a0 w aR) {L : Array Bool} {a : Act} {w' : World} {m : Nat} (I : Inv P ops is T TO a0 w aR Q L a w' m) {i : Nat} {o : Oper} {aS : Act} (hi : ops[i]? = some o) (hm : T[m]? = some i)
    (hdep : ∀ e ∈ o.after, Region.binds .any e = true → L.getD e.on false = true) (_hs : aS.tmps.size = a0.tmps.size)
    (h4 : ∀ d, (∃ (k i : Nat) (o : Oper), k < m ∧ T[k]? = some i ∧ ops[i]? = some o ∧ o.dst = some d) → aS.tmps[d]? = a.tmps[d]?)
    (h5 : ∀ d, (∀ (k i : Nat) (o : Oper), k < m → T[k]? = some i → ops[i]? = some o → o.dst ≠ some d) → aS.tmps[d]? = aR.tmps[d]?) {t : Tmp} (ht : t ∈ slotsOf o) : a.tmps[t]? = aS.tmps[t]? := by
  have hit := (H.tails.at' m i hm).2.1
  by_cases hex : ∃ (j : Nat) (p : Oper), ops[j]? = some p ∧ p.dst = some t
  · obtain ⟨j, p, hj, hp⟩ := hex
    rcases t_slot ((t_parts (t_op H.chk hi)).2.2.2 j p hj) ht hp with ⟨hjt, -⟩ | ⟨hjt, h2⟩
    · obtain ⟨k, hk⟩ := H.tails.all j (Array.getElem?_eq_some_iff.1 hj).1 hjt
      by_cases hkm : k < m
      · exact (h4 t ⟨k, j, p, hkm, hk, hj, hp⟩).symm
      · rw [h5 t (fun k' i' o' hk' hk2 hi' hd' => by
          have e := dist H.dist hi' hj hd' hp
          subst e
          have h1 := (I.done k' i' hk2).2 hk'
          exact hkm ((I.done k i' hk).1 h1))]
        rw [I.old t (fun j' p' hj' hL' hp' => by
          have e := dist H.dist hj' hj hp' hp
          subst e
          exact hkm ((I.done k j' hk).1 hL'))]
        exact (H.fin.old t (fun j' p' v _ hj' hv hp' => by
          have e := dist H.dist hj' hj hp' hp
          subst e
          exact val_not hv hjt)).symm
    · obtain ⟨u, hu⟩ := H.tdst hj hjt
      rw [h5 t (fun k' i' o' hk' hk2 hi' hd' => by
        have e := dist H.dist hi' hj hd' hp
        subst e
        exact hjt (H.tails.at' k' i' hk2).2.1)]
      rcases Nat.lt_or_ge t a0.tmps.size with hts | hts
      · rcases h2 with ⟨hlt, he⟩ | ⟨-, -, h3⟩
        · obtain ⟨e, he1, he2, he3⟩ := edge_mem he
          have hLj := hdep e he1 he2
          rw [he3] at hLj
          rw [I.new j p u t hj hLj hu hp hts, H.fin.new j p u t (Array.getElem?_eq_some_iff.1 hj).1 hj hu hp hts]
        · exact absurd hit h3
      · rw [Array.getElem?_eq_none (by rw [I.size]; omega), Array.getElem?_eq_none (by rw [H.fin.size]; omega)]
  · rw [h5 t (fun k' i' o' _ _ hi' hd' => hex ⟨i', o', hi', hd'⟩), I.old t (fun j p hj _ hp => hex ⟨j, p, hj, hp⟩), H.fin.old t (fun j p v _ hj _ hp => hex ⟨j, p, hj, hp⟩)]
/-- One of the last operations has been carried out. -/
theorem inv_tail {is : Array Inf} {T : List Nat} {TO : List Oper} {aR : Act} (H : Told P ops is T TO a0 w aR) {L : Array Bool} {a : Act} {w' w2 : World} {m : Nat} (I : Inv P ops is T TO a0 w aR Q L a w' m) {i : Nat} {o : Oper} {v : Value} {aS : Act} (hi : ops[i]? = some o) (hm : T[m]? = some i)
    (hdep : ∀ e ∈ o.after, Region.binds .any e = true → L.getD e.on false = true) (hr : ∀ i v, i < ops.size → is[i]? = some (.r v) → L.getD i false = true) (hs : aS.tmps.size = a0.tmps.size)
    (h4 : ∀ d, (∃ (k i : Nat) (o : Oper), k < m ∧ T[k]? = some i ∧ ops[i]? = some o ∧ o.dst = some d) → aS.tmps[d]? = a.tmps[d]?)
    (h5 : ∀ d, (∀ (k i : Nat) (o : Oper), k < m → T[k]? = some i → ops[i]? = some o → o.dst ≠ some d) → aS.tmps[d]? = aR.tmps[d]?)
    {ds ds' : List Deferred} (hds : ds = ds') (hw : wpList P TO.toArray Q (TO.drop (m + 1)) (({ aS with defers := ds } : Act).put o.dst v) w2) : Inv P ops is T TO a0 w aR Q (L.setIfInBounds i true) (({ a with defers := ds' } : Act).put o.dst v) w2 (m + 1) := by
  subst hds
  have hil : i < L.size := by rw [I.lsize]; exact (Array.getElem?_eq_some_iff.1 hi).1
  have hit := (H.tails.at' m i hm).2.1
  have pne : ∀ (d : Nat), o.dst ≠ some d → (({ a with defers := ds } : Act).put o.dst v).tmps[d]? = a.tmps[d]? := fun d hd => put_ne _ _ _ _ hd
  refine ⟨by simp [I.lsize], closed_set I.closed hi hdep, by rw [put_size]; exact I.size, ?_, ?_, ?_, fun h => by omega, fun _ => ⟨fun i' v' hi' hk' => ?_, _, ?_, ?_, ?_, ?_, hw⟩⟩
  · intro j p u d hj hLj hju hp hd
    have hji : j ≠ i := fun e => by subst e; exact val_not hju hit
    rw [pne _ (fun ho => hji (dist H.dist hj hi hp ho))]
    exact I.new j p u d hj ((getD_set_cases hLj).resolve_left hji) hju hp hd
  · intro d hd
    rw [pne _ (hd i o hi (getD_set_same hil))]
    refine I.old d fun j p hj hLj => hd j p hj ?_
    by_cases hij : i = j
    · subst hij; exact getD_set_same hil
    · rw [getD_set_ne false hij]; exact hLj
  · intro k i' hk'
    by_cases hii : i = i'
    · subst hii
      have : k = m := by
        rcases Nat.lt_trichotomy k m with h | h | h
        · have := (ch_next H.chk hm hk' h).1; omega
        · exact h
        · have := (ch_next H.chk hk' hm h).1; omega
      subst this
      exact ⟨fun _ => by omega, fun _ => getD_set_same hil⟩
    · rw [getD_set_ne false hii, I.done k i' hk']
      constructor
      · intro h; omega
      · intro h
        rcases Nat.lt_or_ge k m with h' | h'
        · exact h'
        · have : k = m := by omega
          subst this
          rw [hm] at hk'
          exact absurd (Option.some.inj hk') hii
  · by_cases hii : i = i'
    · subst hii; exact getD_set_same hil
    · rw [getD_set_ne false hii]; exact hr i' v' hi' hk'
  · rw [put_defers, put_defers]
  · rw [put_size]; exact hs
  · intro d ⟨k, i', o', hk, hki, hio, hod⟩
    by_cases hd : o.dst = some d
    · rcases Nat.lt_or_ge d a0.tmps.size with h | h
      · rw [hd, put_eq _ _ _ (by show d < aS.tmps.size; rw [hs]; exact h), put_eq _ _ _ (by show d < a.tmps.size; rw [I.size]; exact h)]
      · rw [Array.getElem?_eq_none (by rw [put_size]; show aS.tmps.size ≤ d; rw [hs]; exact h), Array.getElem?_eq_none (by rw [put_size]; show a.tmps.size ≤ d; rw [I.size]; exact h)]
    · rw [pne d hd, put_ne _ _ _ _ hd]
      refine h4 d ⟨k, i', o', ?_, hki, hio, hod⟩
      rcases Nat.lt_or_ge k m with h' | h'
      · exact h'
      · have : k = m := by omega
        subst this
        rw [hm] at hki
        obtain rfl := Option.some.inj hki
        rw [hi] at hio
        obtain rfl := Option.some.inj hio
        exact absurd hod hd
  · intro d hd
    rw [put_ne _ _ _ _ (hd m i o (by omega) hm hi)]
    exact h5 d fun k i' o' hk => hd k i' o' (by omega)
theorem drop_get {TO : List Oper} {m : Nat} {o : Oper} (h : TO[m]? = some o) : TO.drop m = o :: TO.drop (m + 1) := by
  obtain ⟨hlt, he⟩ := List.getElem?_eq_some_iff.1 h
  rw [← he]
  exact List.drop_eq_getElem_cons hlt
/-- An operation that comes up is carried out. -/
theorem inv_step {is : Array Inf} {T : List Nat} {TO : List Oper} {aR : Act} {F : Act → World → Prop} {Q : Exit → Act → World → Prop} (H : Told P ops is T TO a0 w aR) (hK : ∀ w1, Below w.heap.size w w1 → wpList P TO.toArray (Ends F) TO aR w1) {L : Array Bool} {a : Act} {w' : World} (I : ∃ m, Inv P ops is T TO a0 w aR (Ends F) L a w' m) {i : Nat} (hr : i ∈ Region.ready .any ops L) :
    wpOp P ops Q i (fun a' w2 => ∃ m', Inv P ops is T TO a0 w aR (Ends F) (L.setIfInBounds i true) a' w2 m') a w' := by
  obtain ⟨m, I⟩ := I
  obtain ⟨hL0, o, hi, hdep⟩ := mem_ready.1 hr
  have hilt : i < ops.size := (Array.getElem?_eq_some_iff.1 hi).1
  have hil : i < L.size := by rw [I.lsize]; exact hilt
  have hL : L.getD i false = false := by simpa [hil] using hL0
  obtain ⟨hg, hlow, hsel, -⟩ := t_parts (t_op H.chk hi)
  obtain ⟨k, f, hk, hf, hok⟩ := H.each i o hi
  unfold wpOp
  simp only [hi]
  rw [if_pos (by simp [Region.wanted, hg])]
  left
  unfold Oper.wp
  by_cases hkt : k = .t
  · subst hkt
    obtain ⟨k0, hk0⟩ := H.tails.all i hilt hk
    have hk0m : k0 = m := by
      have h1 : ¬ k0 < m := fun h => by have := (I.done k0 i hk0).2 h; rw [hL] at this; cases this
      rcases Nat.lt_or_ge m k0 with h | h
      · have hlt : m < T.length := by have := (List.getElem?_eq_some_iff.1 hk0).1; omega
        have hTm : T[m]? = some (T[m]'hlt) := List.getElem?_eq_getElem hlt
        have h2 := (ch_next H.chk hk0 hTm h).2
        have h3 := clos_listed I.closed hi hdep h2
        have := (I.done m _ hTm).1 h3
        omega
      · omega
    subst hk0m
    have hTO : TO[k0]? = some o := by rw [← (H.tails.at' k0 i hk0).2.2]; exact hi
    have key : ∃ aS : Act, aS.defers = a.defers ∧ aS.tmps.size = a0.tmps.size ∧ (∀ i v, i < ops.size → is[i]? = some (.r v) → L.getD i false = true) ∧
        (∀ d, (∃ (k i : Nat) (o : Oper), k < k0 ∧ T[k]? = some i ∧ ops[i]? = some o ∧ o.dst = some d) → aS.tmps[d]? = a.tmps[d]?) ∧
        (∀ d, (∀ (k i : Nat) (o : Oper), k < k0 → T[k]? = some i → ops[i]? = some o → o.dst ≠ some d) → aS.tmps[d]? = aR.tmps[d]?) ∧ wpList P TO.toArray (Ends F) (TO.drop k0) aS w' := by
      rcases Nat.eq_zero_or_pos k0 with h0 | h0
      · subst h0
        obtain ⟨h1, h2⟩ := I.first rfl
        refine ⟨aR, by rw [H.fin.defers, h2], H.fin.size, fun i' v' hi' hk' => ?_, fun d ⟨k, _, _, hk, _⟩ => absurd hk (Nat.not_lt_zero k), fun d _ => rfl, hK w' h1⟩
        cases T with
        | nil => simp at hk0
        | cons t T =>
          obtain rfl : t = i := by simpa using hk0
          exact clos_listed I.closed hi hdep (ch_first H.chk hi' hk')
      · obtain ⟨h1, aS, h2, h3, h4, h5, h6⟩ := I.later h0
        exact ⟨aS, h2, h3, h1, h4, h5, h6⟩
    obtain ⟨aS, hdf, hsz, hrd, h4, h5, hwp⟩ := key
    rw [drop_get hTO] at hwp
    unfold wpList at hwp
    rw [if_pos (by simp [Region.wanted, hg])] at hwp
    have hwp := hwp.resolve_right (fun h => by obtain ⟨_, _, hh⟩ := h.2; exact hh)
    unfold Oper.wp at hwp
    have he : execOp a.eval o = execOp aS.eval o := execOp_congr o hsel fun x hx => eval_of x fun t ht => by
      subst ht
      exact agree_t H I hi hk0 hdep hsz h4 h5 (slot_mem hx)
    rw [he]
    have put : ∀ (v : Value) (w2 : World), wpList P TO.toArray (Ends F) (TO.drop (k0 + 1)) (aS.put o.dst v) w2 → ∃ m', Inv P ops is T TO a0 w aR (Ends F) (L.setIfInBounds i true) (a.put o.dst v) w2 m' := fun v w2 h =>
      ⟨k0 + 1, inv_tail H I hi hk0 hdep hrd hsz h4 h5 (ds := aS.defers) (ds' := a.defers) hdf h⟩
    generalize (execOp aS.eval o).run P w' = r at *
    cases r with
    | ok n w2 =>
      cases n <;> simp only [Oper.upon] at hwp ⊢
      case value u => exact put u w2 hwp
      case skip => exact put _ w2 hwp
      case defer d => exact ⟨k0 + 1, inv_tail H I hi hk0 hdep hrd hsz h4 h5 (ds := d :: aS.defers) (ds' := d :: a.defers) (by rw [hdf]) hwp⟩
      case enter g args =>
        refine hwp.mono fun e w3 h => ?_
        cases e with
        | returned v => exact put v w3 h
        | panicked c => exact h.elim
        | outgrown => obtain ⟨_, _, hh⟩ := h; exact hh.elim
      case row r args => exact Rows.mono hwp (fun v w3 h => put v w3 h)
    | halt x w2 => cases x <;> simp only [Oper.upon] at hwp ⊢ <;> exact hwp.elim
  · have hnt : is[i]? ≠ some .t := fun h => hkt (by rw [hk] at h; exact Option.some.inj h)
    have he : execOp a.eval o = execOp f.eval o := execOp_congr o hsel fun x hx => eval_of x fun t ht => by
      subst ht
      exact agree H I hi hf hL hdep hnt (slot_mem hx)
    rw [he]
    have run : ∀ v : Value, valAt is i = some v → quiet2 P w' v ((execOp f.eval o).run P w') → (m = 0 ∨ ∀ (g : FuncId) (args : Array Value) (w2 : World), (execOp f.eval o).run P w' = .ok (.enter g args) w2 → False) →
        o.upon P a (fun a' w2 => ∃ m', Inv P ops is T TO a0 w aR (Ends F) (L.setIfInBounds i true) a' w2 m') Q ((execOp f.eval o).run P w') := by
      intro v hv h1 hm
      generalize (execOp f.eval o).run P w' = r at *
      cases r with
      | ok n w2 =>
        cases n <;> simp only [quiet2] at h1 <;> simp only [Oper.upon]
        case value u =>
          obtain ⟨e1, e2⟩ := h1
          rw [e1, e2]
          exact ⟨m, inv_val H I hi hv hL hdep (Or.inr rfl)⟩
        case skip =>
          obtain ⟨e1, e2⟩ := h1
          rw [e1, ← e2]
          exact ⟨m, inv_val H I hi hv hL hdep (Or.inr rfl)⟩
        case enter g args =>
          obtain ⟨e1, hc⟩ := h1
          rw [e1]
          rcases hm with hm | hm
          · exact hc.mono fun e w3 ⟨he', hb⟩ => by subst he'; exact ⟨m, inv_val H I hi hv hL hdep (Or.inl ⟨hm, hb⟩)⟩
          · exact (hm g args w2 rfl).elim
      | halt x w2 => simp only [quiet2] at h1
    cases k with
    | t => exact absurd rfl hkt
    | r v =>
      have hv : valAt is i = some v := by unfold valAt; rw [hk]; rfl
      have hm : m = 0 := by
        rcases Nat.eq_zero_or_pos m with h | h
        · exact h
        · have := (I.later h).1 i v hilt hk
          rw [hL] at this; cases this
      have hb := (I.first hm).1
      exact run v hv (hok w' (bcell hb).1 hb) (Or.inl hm)
    | p v =>
      have hv : valAt is i = some v := by unfold valAt; rw [hk]; rfl
      refine run v hv (hok.1 w') (Or.inr fun g args w2 h => hok.2 w' g args w2 h)
theorem all_listed {is : Array Inf} {T : List Nat} {TO : List Oper} {aR : Act} (H : Told P ops is T TO a0 w aR) {L : Array Bool} (hs : L.size = ops.size) (hr : Region.ready .any ops L = []) : ∀ j, j < ops.size → L.getD j false = true := by
  intro j
  induction j using Nat.strongRecOn with
  | _ j ih =>
    intro hj
    cases hL : L.getD j false with
    | true => rfl
    | false =>
      have hjl : j < L.size := by rw [hs]; exact hj
      have h0 : L.getD j true = false := by simpa [hjl] using hL
      have hm : j ∈ Region.ready .any ops L := mem_ready.2 ⟨h0, ops[j], Array.getElem?_eq_getElem hj, fun e he hb => by
        have hlt := (t_parts (t_op H.chk (Array.getElem?_eq_getElem hj))).2.1 e he hb
        exact ih e.on hlt (by omega)⟩
      rw [hr] at hm
      cases hm
theorem any_of_inv {is : Array Inf} {T : List Nat} {TO : List Oper} {aR : Act} {F : Act → World → Prop} {Q : Exit → Act → World → Prop} (H : Told P ops is T TO a0 w aR) (hK : ∀ w1, Below w.heap.size w w1 → wpList P TO.toArray (Ends F) TO aR w1)
    (hQ : ∀ L a w' m, Inv P ops is T TO a0 w aR (Ends F) L a w' m → (∀ j, j < ops.size → L.getD j false = true) → Q .normal a w') :
    ∀ (fuel : Nat) (L : Array Bool) (a : Act) (w' : World), (∃ m, Inv P ops is T TO a0 w aR (Ends F) L a w' m) → ((List.range ops.size).filter fun j => !L.getD j false).length ≤ fuel → wpAny P .any ops Q fuel L a w' := by
  intro fuel
  induction fuel with
  | zero =>
    intro L a w' ⟨m, I⟩ hc
    have hall : ∀ j, j < ops.size → L.getD j false = true := fun j hj => by
      cases hL : L.getD j false with
      | true => rfl
      | false =>
        have : j ∈ (List.range ops.size).filter fun j => !L.getD j false := List.mem_filter.2 ⟨List.mem_range.2 hj, by rw [hL]; rfl⟩
        have := List.length_pos_of_mem this
        omega
    refine ⟨?_, hQ L a w' m I hall⟩
    cases hr : Region.ready .any ops L with
    | nil => rfl
    | cons i _ =>
      obtain ⟨h0, o, hi, -⟩ := mem_ready.1 (show i ∈ Region.ready .any ops L by rw [hr]; simp)
      have hlt : i < ops.size := (Array.getElem?_eq_some_iff.1 hi).1
      have h1 := hall i hlt
      have hl : i < L.size := by rw [I.lsize]; exact hlt
      simp [hl] at h0 h1
      rw [h0] at h1; cases h1
  | succ fuel ih =>
    intro L a w' ⟨m, I⟩ hc
    refine ⟨fun hr => hQ L a w' m I (all_listed H I.lsize hr), fun i hi => wpOp_mono (fun a' w2 h => ih _ a' w2 h ?_) (inv_step H hK ⟨m, I⟩ hi)⟩
    obtain ⟨h0, o, ho, -⟩ := mem_ready.1 hi
    have hlt : i < ops.size := (Array.getElem?_eq_some_iff.1 ho).1
    have hl : i < L.size := by rw [I.lsize]; exact hlt
    have := cnt_set hlt hl (by simpa [hl] using h0)
    omega
theorem tail_region {id : Nat} {Q : Exit → Act → World → Prop} {l : List Oper} {a : Act} (hm : P.follows .mixedOrders = true) (hD : distB l.toArray = true)
    (h : Gq P w (fun is T TO aR => chkT l.toArray is.toArray T = true ∧ ∀ w1, Below w.heap.size w w1 → wpList P TO.toArray (Ends (Q .normal)) TO aR w1) l a [] [] []) : (Code.region id l.toArray true).wp P Q a w := by
  obtain ⟨is, T, TO, aR, -, hlen, ⟨hchk, hK⟩, hat, htl, heach⟩ := gq_spec (ops := l.toArray) (a0 := a) hD l a [] [] [] h (fun j => by simp) ⟨rfl, rfl, fun _ _ => rfl, fun j o v d hj => by simp at hj⟩ ⟨rfl, fun k i h => by simp at h, fun i hi => by simp at hi⟩
  have H : Told P l.toArray is.toArray T TO a w aR := ⟨hD, hchk, fun i o hi => by
    have hlt : i < l.toArray.size := (Array.getElem?_eq_some_iff.1 hi).1
    obtain ⟨k, f, h1, h2, h3⟩ := heach i o (by simp) (by simpa using hlt) hi
    exact ⟨k, f, by simpa using h1, h2, h3⟩, by simpa using hat, by simpa using htl⟩
  refine wp_region_any hm (any_of_inv H hK (fun L a' w' m I hall => ?_) _ _ _ _ ⟨0, ?_⟩ ?_)
  · have hmT : T.length ≤ m := by
      rcases Nat.lt_or_ge m T.length with h | h
      · have h1 : T[m]? = some (T[m]'h) := List.getElem?_eq_getElem h
        have h2 := (I.done m _ h1).1 (hall _ (htl.at' m _ h1 |>.1 |> fun h => by simpa using h))
        omega
      · exact h
    have hTO : TO.length = T.length := htl.len
    have ext : ∀ aS : Act, aS.defers = a'.defers → aS.tmps.size = a.tmps.size → (∀ d, (∃ (k i : Nat) (o : Oper), k < m ∧ T[k]? = some i ∧ l.toArray[i]? = some o ∧ o.dst = some d) → aS.tmps[d]? = a'.tmps[d]?) →
        (∀ d, (∀ (k i : Nat) (o : Oper), k < m → T[k]? = some i → l.toArray[i]? = some o → o.dst ≠ some d) → aS.tmps[d]? = aR.tmps[d]?) → a' = aS := by
      intro aS h1 h2 h3 h4
      obtain ⟨ta, da⟩ := a'
      obtain ⟨ts, ds⟩ := aS
      obtain rfl : ds = da := h1
      have ht : ta = ts := by
        refine Array.ext_getElem? fun d => ?_
        by_cases hex : ∃ (k i : Nat) (o : Oper), k < m ∧ T[k]? = some i ∧ l.toArray[i]? = some o ∧ o.dst = some d
        · exact (h3 d hex).symm
        · rw [h4 d (fun k i o hk hki hio hod => hex ⟨k, i, o, hk, hki, hio, hod⟩)]
          by_cases hj : ∃ (j : Nat) (p : Oper), l.toArray[j]? = some p ∧ p.dst = some d
          · obtain ⟨j, p, hj, hp⟩ := hj
            have hjl : j < l.toArray.size := (Array.getElem?_eq_some_iff.1 hj).1
            have hnt : is.toArray[j]? ≠ some .t := fun h => by
              obtain ⟨k, hk⟩ := H.tails.all j hjl h
              exact hex ⟨k, j, p, Nat.lt_of_lt_of_le (List.getElem?_eq_some_iff.1 hk).1 hmT, hk, hj, hp⟩
            obtain ⟨u, hu⟩ := H.tdst hj hnt
            rcases Nat.lt_or_ge d a.tmps.size with hts | hts
            · exact (I.new j p u d hj (hall j hjl) hu hp hts).trans (H.fin.new j p u d hjl hj hu hp hts).symm
            · rw [Array.getElem?_eq_none (by have := I.size; show ta.size ≤ d; have e : ta.size = a.tmps.size := this; omega), Array.getElem?_eq_none (by rw [H.fin.size]; omega)]
          · exact (I.old d (fun j p hj' _ hp => hj ⟨j, p, hj', hp⟩)).trans (H.fin.old d (fun j p v _ hj' _ hp => hj ⟨j, p, hj', hp⟩)).symm
      rw [ht]
    rcases Nat.eq_zero_or_pos m with h0 | h0
    · subst h0
      obtain ⟨h1, h2⟩ := I.first rfl
      have := hK w' h1
      rw [List.eq_nil_of_length_eq_zero (show TO.length = 0 by omega)] at this
      rw [ext aR (by rw [H.fin.defers, h2]) H.fin.size (fun d ⟨k, _, _, hk, _⟩ => absurd hk (Nat.not_lt_zero k)) (fun d _ => rfl)]
      exact this
    · obtain ⟨-, aS, h2, h3, h4, h5, h6⟩ := I.later h0
      rw [List.drop_eq_nil_of_le (by omega)] at h6
      rw [ext aS h2 h3 h4 h5]
      exact h6
  · have hf : ∀ j, (Array.replicate l.toArray.size false).getD j false = false := fun j => by
      simp only [Array.getD_eq_getD_getElem?, Array.getElem?_replicate]
      split <;> rfl
    refine ⟨by simp, fun j o _ h => ?_, rfl, fun j o v d _ h => ?_, fun _ _ => rfl, fun k i _ => ⟨fun h => ?_, fun h => absurd h (Nat.not_lt_zero k)⟩, fun _ => ⟨(Below.refl w.heap.size w).drew, rfl⟩, fun h => absurd h (Nat.lt_irrefl 0)⟩
    all_goals (rw [hf] at h; cases h)
  · exact Nat.le_trans (List.length_filter_le _ _) (by simp)
end
end Tail
end Kit
end Go.Proofs.YtmkglhoahdlogaaGreatDoor
namespace Go.Proofs.YtmkglhoahdlogaaGreatDoor
open Go.RowKit
namespace Chart
open Kit Plane Poly
def srow (S : Nat → ByteArray) (n : Nat) : List Value := (List.range n).map fun k => .string (S k)
theorem srow_len (S : Nat → ByteArray) (n : Nat) : (srow S n).length = n := by unfold srow; rw [List.length_map, List.length_range]
theorem srow_at {S : Nat → ByteArray} {n k : Nat} (h : k < n) : (srow S n)[k]? = some (.string (S k)) := by
  unfold srow; rw [List.getElem?_map, List.getElem?_range h]; rfl
theorem srow_one {S : Nat → ByteArray} {n : Nat} : ∀ u ∈ srow S n, u.oneCell' = true := by
  intro u hu
  unfold srow at hu
  obtain ⟨k, -, rfl⟩ := List.mem_map.1 hu
  rfl
/-- Names in a block of its own. -/
structure SRow (w : World) (g n : Nat) (S : Nat → ByteArray) : Prop where
  cell : ∀ k, k < n → w.cell? ⟨g, k, none⟩ = some (.string (S k))
  free : ∀ k, w.frozen? ⟨g, k, none⟩ = false
theorem srow_of {w : World} {base : Nat} {E : TypeId} {v : Value} {n : Nat} {S : Nat → ByteArray} (h : w.ownsRow base E 1 v n (srow S n)) (h0 : 0 < n) : ∃ g cap, v = .slice (some ⟨g, 0, none⟩) n cap ∧ base ≤ g ∧ g < w.heap.size ∧ n ≤ cap ∧ cap ≤ maxLen ∧ SRow w g n S := by
  have hh := h
  rcases h.2 with ⟨_, h1⟩ | ⟨g, cap, cur, hv, hb, hg, hnc, hcm, _⟩
  · omega
  · subst hv
    have hlt : g < w.heap.size := by
      rcases Nat.lt_or_ge g w.heap.size with hl | hl
      · exact hl
      · rw [Array.getElem?_eq_none hl] at hg; cases hg
    refine ⟨g, cap, rfl, hb, hlt, hnc, hcm, fun k hk => ?_, fun k => hh.frozenAt k⟩
    rw [hh.cellAt k (by omega)]
    exact srow_at hk
theorem srow_keep {w w1 : World} {g n : Nat} {S : Nat → ByteArray} (hb : Below w.heap.size w w1) (hg : g < w.heap.size) (h : SRow w g n S) : SRow w1 g n S :=
  ⟨fun k hk => keep hb (h.cell k hk), fun k => (hb.frozen (p := ⟨g, k, none⟩) hg).trans (h.free k)⟩
theorem srow_set {w : World} {g n : Nat} {S : Nat → ByteArray} (h : SRow w g n S) {i : Nat} (hi : i < n) (s : ByteArray) : SRow (w.setCell ⟨g, i, none⟩ (.string s)) g n (fun k => if k = i then s else S k) := by
  refine ⟨fun k hk => ?_, fun k => (World.frozen?_setCell _ _ _ _).trans (h.free k)⟩
  by_cases e : k = i
  · subst e; rw [if_pos rfl]; exact cset _ (h.cell k hk)
  · rw [if_neg e]
    refine cfar _ (fun he => e ?_) (h.cell k hk)
    injection he with _ h2; omega
theorem info_str : (Tryz.prog.info? 9).map (fun i => (i.zero, i.size, i.bytes)) = some (some (.string ⟨#[]⟩), 1, 16) := by kernel_rfl
set_option maxRecDepth 100000 in
set_option maxHeartbeats 1000000 in
theorem clone_w (n cap b off : Nat) (S : Nat → ByteArray) (w : World) (h0 : 0 < n) (hn : n ≤ 1000) (_hc : n ≤ cap) (HV : Hid (∀ i, i < n → w.cell? ⟨b, off + i, none⟩ = some (.string (S i)))) :
    Calls Tryz.prog 43 #[.slice (some ⟨b, off, none⟩) n cap] w fun e w' => (∃ g c, e = .returned (.slice (some ⟨g, 0, none⟩) n c) ∧ w.heap.size ≤ g ∧ g < w'.heap.size ∧ n ≤ c ∧ c ≤ maxLen ∧ SRow w' g n S) ∧ Below w.heap.size w w' := by
  obtain ⟨i0, hi, hz0, hz1, hz2⟩ := info_parts info_str
  have hnil := fun W : World => Lib.run_eql_slice_nil (P := Tryz.prog) W 22 9 (some ⟨b, off, none⟩) n cap 0 0 Tryz.underlying22
  go_enter Tryz.func43, Tryz.ntmps43
  have hb0 := b_alloc (Below.refl w.heap.size w) (.cells #[] 9)
  have hs' : ∀ j u, (srow S n)[j]? = some u → (w.alloc (.cells #[] 9)).cell? ((⟨b, off, none⟩ : Addr).add j) = some u := fun j u h => by
    have hj : j < n := by
      have := (List.getElem?_eq_some_iff.1 h).1
      rwa [srow_len] at this
    rw [srow_at hj] at h
    rw [← Option.some.inj h, Go.WideShapes.add_plain]
    exact keep hb0 (HV.out j hj)
  have HS := Lib.hid hs'; have HB := Lib.hid hb0; clear hs' hb0
  have hlen : (srow S n).length = n * 1 := by rw [srow_len, Nat.mul_one]
  have HL := Lib.hid hlen; clear hlen
  go_wp2_with (at_builtin; refine wpList_append_own_at _ rfl (.tmp 5) (.tmp 6) 22 rfl w.heap.size 9 i0 _ 1 16 Tryz.underlying22 hi hz0 hz1 hz2 rfl (by decide) (.slice (some ⟨w.heap.size, 0, none⟩) 0 0) 0 [] rfl (World.ownsRow_made w #[] 0 (Nat.le_refl _) (by decide) rfl) ⟨b, off, none⟩ n cap (srow S n) rfl HL.out HS.out srow_one (by unfold maxLen; omega) (by omega) (by simp) ?_; intro v1 w1 hown1 hg1 hnil1 hat1)
  go_ret
  have hown2 : w1.ownsRow w.heap.size 9 1 v1 n (srow S n) := by
    have := hown1; rw [Nat.zero_add, List.nil_append] at this; exact this
  obtain ⟨g, c, rfl, h1, h2, h3, h4, h5⟩ := srow_of hown2 h0
  refine ⟨⟨g, c, rfl, h1, h2, h3, h4, h5⟩, ?_⟩
  exact HB.out.grown hg1 HB.out.size (fun k hk => by simp [Value.ownBlock] at hk; omega)
/-- What Reverse has done after k steps. -/
def revS (S : Nat → ByteArray) (n k : Nat) : Nat → ByteArray := fun i => if i < k ∨ n ≤ i + k then S (n - 1 - i) else S i
set_option maxRecDepth 100000 in
set_option maxHeartbeats 4000000 in
theorem reverse_w (n cap g : Nat) (S : Nat → ByteArray) (w : World) (h0 : 0 < n) (hn : n ≤ 1000) (_hc : n ≤ cap) (_hm : cap ≤ 9223372036854775807) (hg : g < w.heap.size) (HV : Hid (SRow w g n S)) :
    Calls Tryz.prog 44 #[.slice (some ⟨g, 0, none⟩) n cap] w fun e w' => e = .returned (.tuple #[]) ∧ SRow w' g n (fun i => S (n - 1 - i)) ∧ (∀ W : World, W.heap.size ≤ g → Below W.heap.size W w → Below W.heap.size W w') ∧ w.heap.size ≤ w'.heap.size := by
  go_enter Tryz.func44, Tryz.ntmps44
  have z1 : IntKind.i64.wrap ((n : Int) - 1) = ((n - 1 : Nat) : Int) := by rw [IntWalk.i64_in _ (by omega)]; omega
  go_wp2_with fail
  go_loopw [2, 3] (fun s t wr => ∃ k J : Nat, 2 * k ≤ n ∧ J + k + 1 = n ∧ s = .int .i64 k ∧ t = .int .i64 J ∧ SRow wr g n (revS S n k) ∧ (∀ W : World, W.heap.size ≤ g → Below W.heap.size W w → Below W.heap.size W wr) ∧ w.heap.size ≤ wr.heap.size) (fun s _ _ => n - (intOf s).toNat)
  case atStart => exact ⟨0, n - 1, by omega, by omega, rfl, rfl, ⟨fun k hk => by unfold revS; rw [if_neg (by omega)]; exact HV.out.cell k hk, HV.out.free⟩, fun W _ h => h, Nat.le_refl _⟩
  case round =>
    obtain ⟨k, J, hk, hJ, rfl, rfl, hr, hb, hs⟩ := hrel
    have HR := Lib.hid hr; have HB := Lib.hid hb; have HSZ := Lib.hid hs; clear hb hs
    by_cases hlt : k < J
    · have hl : (k : Int) < (J : Int) := by omega
      have i1 : (k : Int) < (n : Int) := by omega
      have i2 : (J : Int) < (n : Int) := by omega
      have hne : ¬ k = J := by omega
      have hne2 : ¬ J = k := by omega
      have c0 := hr.cell k (by omega)
      have c1 := hr.cell J (by omega)
      have e0 : revS S n k k = S k := by unfold revS; rw [if_neg (by omega)]
      have e1 : revS S n k J = S J := by unfold revS; rw [if_neg (by omega)]
      rw [e0] at c0
      rw [e1] at c1
      have f0 := hr.free k
      have f1 := hr.free J
      have C0 := Lib.hid c0; have C1 := Lib.hid c1; have F0 := Lib.hid f0; have F1 := Lib.hid f1
      have hgw : g < wr.heap.size := Nat.lt_of_lt_of_le hg HSZ.out
      have EV : Hid (∀ i, i < n → revS S n (k + 1) i = if i = J then S k else if i = k then S J else revS S n k i) := Lib.hid fun i hi => by
        unfold revS
        by_cases h1 : i = J
        · rw [if_pos h1, if_pos (by omega), show n - 1 - i = k from by omega]
        · rw [if_neg h1]
          by_cases h2 : i = k
          · rw [if_pos h2, if_pos (by omega), show n - 1 - i = J from by omega]
          · rw [if_neg h2]
            by_cases h3 : i < k ∨ n ≤ i + k
            · rw [if_pos h3, if_pos (by omega)]
            · rw [if_neg h3, if_neg (by omega)]
      clear c0 c1 e0 e1 hr f0 f1
      obtain ⟨x, hx⟩ : ∃ x, x = S k := ⟨_, rfl⟩
      obtain ⟨y, hy⟩ : ∃ y, y = S J := ⟨_, rfl⟩
      rw [← hx] at C0 EV
      rw [← hy] at C1 EV
      clear hx hy
      go_wp2_with fail
      refine Tail.tail_region (by kernel_rfl) (by kernel_rfl) ?_
      apply Tail.Gq.p
      · intro wq
        (go_simp; first | exact Tail.pv_value | exact Tail.pv_skip)
      simp only [Act.put, List.setIfInBounds_toArray, List.set_cons_zero, List.set_cons_succ]
      apply Tail.Gq.p
      · intro wq
        (go_simp; first | exact Tail.pv_value | exact Tail.pv_skip)
      simp only [Act.put, List.setIfInBounds_toArray, List.set_cons_zero, List.set_cons_succ]
      apply Tail.Gq.p
      · intro wq
        (go_simp; first | exact Tail.pv_value | exact Tail.pv_skip)
      simp only [Act.put, List.setIfInBounds_toArray, List.set_cons_zero, List.set_cons_succ]
      apply Tail.Gq.p
      · intro wq
        (go_simp; first | exact Tail.pv_value | exact Tail.pv_skip)
      simp only [Act.put, List.setIfInBounds_toArray, List.set_cons_zero, List.set_cons_succ]
      apply Tail.Gq.p
      · intro wq
        (go_simp; first | exact Tail.pv_value | exact Tail.pv_skip)
      simp only [Act.put, List.setIfInBounds_toArray, List.set_cons_zero, List.set_cons_succ]
      apply Tail.Gq.p
      · intro wq
        (go_simp; first | exact Tail.pv_value | exact Tail.pv_skip)
      simp only [Act.put, List.setIfInBounds_toArray, List.set_cons_zero, List.set_cons_succ]
      apply Tail.Gq.p
      · intro wq
        (go_simp; first | exact Tail.pv_value | exact Tail.pv_skip)
      simp only [Act.put, List.setIfInBounds_toArray, List.set_cons_zero, List.set_cons_succ]
      apply Tail.Gq.r
      · intro wq hc hq
        (have q0 := keep (cls hq) C0.out; have q1 := keep (cls hq) C1.out; clear hc; go_simp; first | exact q2_value | exact q2_skip)
      simp only [Act.put, List.setIfInBounds_toArray, List.set_cons_zero, List.set_cons_succ]
      apply Tail.Gq.p
      · intro wq
        (go_simp; first | exact Tail.pv_value | exact Tail.pv_skip)
      simp only [Act.put, List.setIfInBounds_toArray, List.set_cons_zero, List.set_cons_succ]
      apply Tail.Gq.p
      · intro wq
        (go_simp; first | exact Tail.pv_value | exact Tail.pv_skip)
      simp only [Act.put, List.setIfInBounds_toArray, List.set_cons_zero, List.set_cons_succ]
      apply Tail.Gq.p
      · intro wq
        (go_simp; first | exact Tail.pv_value | exact Tail.pv_skip)
      simp only [Act.put, List.setIfInBounds_toArray, List.set_cons_zero, List.set_cons_succ]
      apply Tail.Gq.r
      · intro wq hc hq
        (have q0 := keep (cls hq) C0.out; have q1 := keep (cls hq) C1.out; clear hc; go_simp; first | exact q2_value | exact q2_skip)
      simp only [Act.put, List.setIfInBounds_toArray, List.set_cons_zero, List.set_cons_succ]
      apply Tail.Gq.p
      · intro wq
        (go_simp; first | exact Tail.pv_value | exact Tail.pv_skip)
      simp only [Act.put, List.setIfInBounds_toArray, List.set_cons_zero, List.set_cons_succ]
      apply Tail.Gq.t
      apply Tail.Gq.t
      apply Tail.Gq.t
      refine Tail.Gq.nil ⟨by kernel_rfl, fun w2 hb2 => ?_⟩
      simp only [List.reverse_cons, List.reverse_nil, List.nil_append, List.cons_append]
      have R2 := srow_keep hb2 hgw HR.out
      have c0 := keep hb2 C0.out; have c1 := keep hb2 C1.out; have f0 := R2.free k; have f1 := R2.free J
      have R3 := Lib.hid (srow_set (srow_set R2 (show k < n by omega) y) (show J < n by omega) x)
      have B2 : Hid (∀ W : World, W.heap.size ≤ g → Below W.heap.size W w → Below W.heap.size W w2) := Lib.hid fun W h1 h2 => b_next (HB.out W h1 h2) hb2
      have S2 := Lib.hid (Nat.le_trans HSZ.out hb2.size)
      clear hb2 R2
      go_wp2_with fail
      simp only [Kit.Ends]
      go_wp2_with fail
      refine ⟨⟨k + 1, J - 1, by omega, by omega, by go_num, by (congr 1; omega), ⟨fun i hi => ?_, R3.out.free⟩, fun W h1 h2 => b_set (b_set (B2.out W h1 h2) h1 _) h1 _, ?_⟩, by simp [intOf]; omega⟩
      · rw [EV.out i hi]; exact R3.out.cell i hi
      · simp; exact S2.out
    · have hl : ¬ (k : Int) < (J : Int) := by omega
      clear hr
      go_wp2_with fail
      go_end0
      refine ⟨rfl, ⟨fun i hi => ?_, HR.out.free⟩, HB.out, HSZ.out⟩
      have e : S (n - 1 - i) = revS S n k i := by
        unfold revS
        by_cases h : i < k ∨ n ≤ i + k
        · rw [if_pos h]
        · rw [if_neg h, show n - 1 - i = i from by omega]
      rw [e]
      exact HR.out.cell i hi
end Chart
end Go.Proofs.YtmkglhoahdlogaaGreatDoor
