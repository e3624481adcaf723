/- A drawn region whose operations read old cells and call functions that only make new memory, and that makes variables of its own and stores into each of them once: one walk in the order of the text serves every order, whatever blocks the variables get. -/
import Derived.Test.YtoafljgcmloilaaDoorKit2
namespace Go.Proofs.YtoafljgcmloilaaDoor
open Go.RowKit
namespace Kit
inductive Info where
  | r (v : Value) | al (d : Tmp) (T : TypeId) (z : Array Value) | st (j : Nat) (cs : Array Value)
def edgeB (o : Oper) (j : Nat) : Bool := o.after.any fun e => Region.binds .any e && e.on == j
def slotsOf (o : Oper) : List Tmp := o.op.operands.toList.filterMap fun | .tmp t => some t | _ => none
def chkPair (is : Array Info) (i : Nat) (o : Oper) (j : Nat) (p : Oper) : Bool :=
  (match p.dst with
    | none => true
    | some d => !(slotsOf o).contains d || (decide (j < i) && edgeB o j) || (decide (i < j) && edgeB p i)) &&
  (match is[j]? with
    | some (.al d _ _) => !(slotsOf o).contains d || (match is[i]? with | some (.st k _) => k == j | _ => false)
    | some (.st k _) => (match is[i]? with | some (.st m _) => i == j || m != k | _ => true)
    | _ => true)
def chkOp (ops : Array Oper) (is : Array Info) (i : Nat) (o : Oper) : Bool :=
  o.guard.isNone && (match o.op with | .select _ _ => false | _ => true) && (o.after.all fun e => !Region.binds .any e || decide (e.on < i)) &&
  (match is[i]? with | some (.st k _) => edgeB o k | _ => true) &&
  (List.range ops.size).all fun j => match ops[j]? with | some p => chkPair is i o j p | none => true
/-- No two operations write one slot. -/
def distB (ops : Array Oper) : Bool :=
  (List.range ops.size).all fun i => (List.range ops.size).all fun j => match ops[i]?, ops[j]? with | some o, some p => i == j || p.dst.isNone || o.dst != p.dst | _, _ => true
def chkAll (ops : Array Oper) (is : Array Info) : Bool :=
  (List.range ops.size).all fun i => match ops[i]? with | some o => chkOp ops is i o | none => true
def quiet2 (P : Program) (w' : World) (v : Value) : Result Next → Prop
  | .ok (.value u) w2 => w2 = w' ∧ u = v
  | .ok .skip w2 => w2 = w' ∧ v = undef
  | .ok (.enter f args) w2 => w2 = w' ∧ Calls P f args w' fun e w3 => e = .returned v ∧ Below w'.heap.size w' w3
  | _ => False
/-- Only block b has turned. -/
def OnlyB (b : Nat) (w' w2 : World) : Prop := w2.os = w'.os ∧ w2.tape = w'.tape ∧ w2.output = w'.output ∧ w2.heap.size = w'.heap.size ∧ ∀ c, c ≠ b → w2.heap[c]? = w'.heap[c]?
section
variable (P : Program) (w : World)
/-- What is asked of one operation, its kind being told, at a frame. -/
def okOp (is : Array Info) (o : Oper) (a : Act) : Info → Prop
  | .r v => ∀ w', (∀ b o, b < w.heap.size → w'.cell? ⟨b, o, none⟩ = w.cell? ⟨b, o, none⟩) → Cls w w' → quiet2 P w' v ((execOp a.eval o).run P w')
  | .al d T z => o.dst = some d ∧ d < a.tmps.size ∧ ∀ w', (execOp a.eval o).run P w' = .ok (.value (.pointer (some ⟨w'.heap.size, 0, none⟩))) (w'.alloc (.cells z T))
  | .st j cs => o.dst = none ∧ ∃ d T z, is[j]? = some (.al d T z) ∧ ∀ w' b, w'.heap[b]? = some (.cells z T (0, 0)) → ∃ w2, (execOp (a.put (some d) (.pointer (some ⟨b, 0, none⟩))).eval o).run P w' = .ok .skip w2 ∧ w2.heap[b]? = some (.cells cs T (0, 0)) ∧ OnlyB b w' w2
/-- The walk in the order of the text. -/
inductive Fq (K : List Info → Act → Prop) : List Oper → Act → List Info → Prop
  | nil {a : Act} {acc : List Info} (h : K acc.reverse a) : Fq K [] a acc
  | r {o : Oper} {rest : List Oper} {a : Act} {acc : List Info}
      (v : Value) (h : ∀ w', (∀ b o, b < w.heap.size → w'.cell? ⟨b, o, none⟩ = w.cell? ⟨b, o, none⟩) → Cls w w' → quiet2 P w' v ((execOp a.eval o).run P w')) (hr : Fq K rest (a.put o.dst v) (.r v :: acc)) : Fq K (o :: rest) a acc
  | al {o : Oper} {rest : List Oper} {a : Act} {acc : List Info} (d : Tmp) (T : TypeId) (z : Array Value) (hd : o.dst = some d) (hs : d < a.tmps.size)
      (h : ∀ w', (execOp a.eval o).run P w' = .ok (.value (.pointer (some ⟨w'.heap.size, 0, none⟩))) (w'.alloc (.cells z T))) (hr : Fq K rest a (.al d T z :: acc)) : Fq K (o :: rest) a acc
  | st {o : Oper} {rest : List Oper} {a : Act} {acc : List Info} (j : Nat) (cs : Array Value) (d : Tmp) (T : TypeId) (z : Array Value) (hd : o.dst = none) (hj : acc.reverse[j]? = some (.al d T z))
      (h : ∀ w' b, w'.heap[b]? = some (.cells z T (0, 0)) → ∃ w2, (execOp (a.put (some d) (.pointer (some ⟨b, 0, none⟩))).eval o).run P w' = .ok .skip w2 ∧ w2.heap[b]? = some (.cells cs T (0, 0)) ∧ OnlyB b w' w2)
      (hr : Fq K rest a (.st j cs :: acc)) : Fq K (o :: rest) a acc
end
section
variable {P : Program} {ops : Array Oper} {w : World} {a0 : Act}
/-- The frame of the text's order ahead of operation i: what R-operations have yielded. -/
structure At (ops : Array Oper) (is : Array Info) (a0 : Act) (i : Nat) (f : Act) : Prop where
  size : f.tmps.size = a0.tmps.size
  defers : f.defers = a0.defers
  old : ∀ d, (∀ j o v, j < i → ops[j]? = some o → is[j]? = some (.r v) → o.dst ≠ some d) → f.tmps[d]? = a0.tmps[d]?
  new : ∀ j o v d, j < i → ops[j]? = some o → is[j]? = some (.r v) → o.dst = some d → d < a0.tmps.size → f.tmps[d]? = some v
theorem put_size (a : Act) (x : Option Tmp) (v : Value) : (a.put x v).tmps.size = a.tmps.size := by cases x <;> simp [Act.put]
theorem put_defers (a : Act) (x : Option Tmp) (v : Value) : (a.put x v).defers = a.defers := by cases x <;> rfl
theorem put_ne (a : Act) (x : Option Tmp) (v : Value) (d : Nat) (h : x ≠ some d) : (a.put x v).tmps[d]? = a.tmps[d]? := by
  cases x with
  | none => rfl
  | some e => exact Array.getElem?_setIfInBounds_ne (fun he => h (by rw [he]))
theorem put_eq (a : Act) (v : Value) (d : Nat) (h : d < a.tmps.size) : (a.put (some d) v).tmps[d]? = some v := by
  simp [Act.put, h]
theorem chk_pair {is : Array Info} (h : chkAll ops is = true) {i j : Nat} {o p : Oper} (hi : ops[i]? = some o) (hj : ops[j]? = some p) : chkPair is i o j p = true := by
  have hlt : i < ops.size := (Array.getElem?_eq_some_iff.1 hi).1
  have hlt' : j < ops.size := (Array.getElem?_eq_some_iff.1 hj).1
  unfold chkAll at h
  rw [List.all_eq_true] at h
  have h1 := h i (List.mem_range.2 hlt)
  simp only [hi] at h1
  unfold chkOp at h1
  rw [Bool.and_eq_true, List.all_eq_true] at h1
  have h2 := h1.2 j (List.mem_range.2 hlt')
  simpa only [hj] using h2
theorem chk_op {is : Array Info} (h : chkAll ops is = true) {i : Nat} {o : Oper} (hi : ops[i]? = some o) : o.guard = none ∧ (∀ e ∈ o.after, Region.binds .any e = true → e.on < i) ∧ (∀ k cs, is[i]? = some (.st k cs) → edgeB o k = true) ∧ ∀ cs b, o.op ≠ .select cs b := by
  have hlt : i < ops.size := (Array.getElem?_eq_some_iff.1 hi).1
  unfold chkAll at h
  rw [List.all_eq_true] at h
  have h1 := h i (List.mem_range.2 hlt)
  simp only [hi] at h1
  unfold chkOp at h1
  simp only [Bool.and_eq_true] at h1
  obtain ⟨⟨⟨⟨h1, h4⟩, h2⟩, h3⟩, -⟩ := h1
  refine ⟨by simpa using h1, fun e he hb => ?_, fun k cs hk => by rw [hk] at h3; exact h3, fun cs b e => by rw [e] at h4; cases h4⟩
  rw [Array.all_eq_true_iff_forall_mem] at h2
  have := h2 e he
  rw [hb] at this
  simpa using this
theorem dist {ops : Array Oper} (h : distB ops = true) {i j : Nat} {o p : Oper} {d : Tmp} (hi : ops[i]? = some o) (hj : ops[j]? = some p) (ho : o.dst = some d) (hp : p.dst = some d) : i = j := by
  have hlt : i < ops.size := (Array.getElem?_eq_some_iff.1 hi).1
  have hlt' : j < ops.size := (Array.getElem?_eq_some_iff.1 hj).1
  unfold distB at h
  rw [List.all_eq_true] at h
  have h1 := h i (List.mem_range.2 hlt)
  rw [List.all_eq_true] at h1
  have h2 := h1 j (List.mem_range.2 hlt')
  simp only [hi, hj] at h2
  rw [ho, hp] at h2
  simpa using h2
theorem chk_slot {is : Array Info} (h : chkAll ops is = true) {i j : Nat} {o p : Oper} {d : Tmp} (hi : ops[i]? = some o) (hj : ops[j]? = some p) (hd : d ∈ slotsOf o) (hp : p.dst = some d) : (j < i ∧ edgeB o j = true) ∨ (i < j ∧ edgeB p i = true) := by
  have h1 := chk_pair h hi hj
  unfold chkPair at h1
  simp only [Bool.and_eq_true] at h1
  have h2 := h1.1
  rw [hp] at h2
  have hc : (slotsOf o).contains d = true := List.contains_iff_mem.2 hd
  simp only [hc, Bool.not_true, Bool.false_or, Bool.or_eq_true, Bool.and_eq_true, decide_eq_true_eq] at h2
  exact h2
theorem chk_al {is : Array Info} (h : chkAll ops is = true) {i j : Nat} {o p : Oper} {d : Tmp} {T : TypeId} {z : Array Value} (hi : ops[i]? = some o) (hj : ops[j]? = some p) (hd : d ∈ slotsOf o) (hp : is[j]? = some (.al d T z)) : ∃ cs, is[i]? = some (.st j cs) := by
  have h1 := chk_pair h hi hj
  unfold chkPair at h1
  simp only [Bool.and_eq_true] at h1
  have h2 := h1.2
  rw [hp] at h2
  have hc : (slotsOf o).contains d = true := List.contains_iff_mem.2 hd
  simp only [hc, Bool.not_true, Bool.false_or] at h2
  split at h2
  · rename_i k cs hk
    have : k = j := by simpa using h2
    exact ⟨cs, by rw [hk, this]⟩
  · cases h2
theorem chk_st {is : Array Info} (h : chkAll ops is = true) {i j k : Nat} {o p : Oper} {cs cs' : Array Value} (hi : ops[i]? = some o) (hj : ops[j]? = some p) (h1 : is[i]? = some (.st k cs)) (h2 : is[j]? = some (.st k cs')) : i = j := by
  have h3 := chk_pair h hi hj
  unfold chkPair at h3
  simp only [Bool.and_eq_true] at h3
  have h4 := h3.2
  rw [h1, h2] at h4
  simpa using h4
theorem edge_mem {o : Oper} {j : Nat} (h : edgeB o j = true) : ∃ e ∈ o.after, Region.binds .any e = true ∧ e.on = j := by
  unfold edgeB at h
  rw [Array.any_eq_true] at h
  obtain ⟨i, hi, h⟩ := h
  rw [Bool.and_eq_true, beq_iff_eq] at h
  exact ⟨_, Array.getElem_mem hi, h.1, h.2⟩
/-- What the walk has shown, operation by operation. -/
theorem fq_spec {K : List Info → Act → Prop} (hD : distB ops = true) : ∀ (l : List Oper) (a : Act) (acc : List Info), Fq P w K l a acc → (∀ j, l[j]? = ops[acc.length + j]?) →
    (At ops acc.reverse.toArray a0 acc.length a) →
    ∃ (is : List Info) (aR : Act), acc.reverse <+: is ∧ is.length = acc.length + l.length ∧ K is aR ∧ At ops is.toArray a0 (acc.length + l.length) aR ∧
      ∀ i o, acc.length ≤ i → i < acc.length + l.length → ops[i]? = some o → ∃ (k : Info) (f : Act), is[i]? = some k ∧ At ops is.toArray a0 i f ∧ okOp P w is.toArray o f k := by
  intro l
  induction l with
  | nil =>
    intro a acc h _ hat
    cases h with
    | nil h => exact ⟨acc.reverse, a, List.prefix_refl _, by simp, h, by simpa using hat, fun i o h1 h2 => by simp at h2; omega⟩
  | cons o l ih =>
    intro a acc h hl hat
    have h0 : ops[acc.length]? = some o := by simpa using (hl 0).symm
    have key : ∀ (k : Info) (a' : Act), Fq P w K l a' (k :: acc) → At ops (k :: acc).reverse.toArray a0 (acc.length + 1) a' → (∀ is : List Info, (k :: acc).reverse <+: is → okOp P w is.toArray o a k) →
        ∃ (is : List Info) (aR : Act), acc.reverse <+: is ∧ is.length = acc.length + (o :: l).length ∧ K is aR ∧ At ops is.toArray a0 (acc.length + (o :: l).length) aR ∧
      ∀ i o', acc.length ≤ i → i < acc.length + (o :: l).length → ops[i]? = some o' → ∃ (k : Info) (f : Act), is[i]? = some k ∧ At ops is.toArray a0 i f ∧ okOp P w is.toArray o' f k := by
      intro k a' hq hat' hok
      obtain ⟨is, aR, h1, h2, h3, h4, h5⟩ := ih a' (k :: acc) hq (fun j => by have := hl (j + 1); simpa [Nat.add_assoc, Nat.add_comm 1 j] using this) (by simpa using hat')
      have hpre : acc.reverse <+: is := List.IsPrefix.trans (by simp) h1
      have hget : ∀ j, j < acc.length → acc.reverse[j]? = is[j]? := fun j hj => by
        obtain ⟨t, ht⟩ := hpre
        rw [← ht, List.getElem?_append_left (by simpa using hj)]
      refine ⟨is, aR, hpre, by rw [h2]; simp; omega, h3, by rw [show acc.length + (o :: l).length = (k :: acc).length + l.length from by simp; omega]; exact h4, fun i o' hi1 hi2 hio => ?_⟩
      rcases Nat.lt_or_ge acc.length i with hlt | hge
      · exact h5 i o' (by simp only [List.length_cons]; omega) (by simp at hi2 ⊢; omega) hio
      · have he : i = acc.length := by omega
        subst he
        have : o' = o := by rw [h0] at hio; exact (Option.some.inj hio).symm
        subst this
        refine ⟨k, a, ?_, ⟨hat.size, hat.defers, fun d hd => hat.old d fun j o v hj hjo hjv => hd j o v hj hjo ?_, fun j o v d hj hjo hjv => hat.new j o v d hj hjo ?_⟩, hok is h1⟩
        · obtain ⟨t, ht⟩ := h1
          rw [← ht, List.getElem?_append_left (by simp)]
          simp
        · simpa [← hget j hj] using hjv
        · simpa [hget j hj] using hjv
    have grow : ∀ (k : Info) (a' : Act), a'.tmps.size = a.tmps.size → a'.defers = a.defers →
        (∀ d, (∀ v, k = .r v → o.dst ≠ some d) → a'.tmps[d]? = a.tmps[d]?) → (∀ v d, k = .r v → o.dst = some d → d < a.tmps.size → a'.tmps[d]? = some v) →
        At ops (k :: acc).reverse.toArray a0 (acc.length + 1) a' := by
      intro k a' h1 h2 h3 h4
      have hg : ∀ j, j < acc.length → (k :: acc).reverse.toArray[j]? = acc.reverse.toArray[j]? := fun j hj => by
        simp only [List.reverse_cons, List.getElem?_toArray]
        rw [List.getElem?_append_left (by simpa using hj)]
      have hgk : (k :: acc).reverse.toArray[acc.length]? = some k := by simp
      refine ⟨h1.trans hat.size, h2.trans hat.defers, fun d hd => ?_, fun j p u d hj hjp hju hpd hds => ?_⟩
      · rw [h3 d (fun v hv => hd acc.length o v (by omega) h0 (by rw [hgk, hv]))]
        exact hat.old d fun j p u hj hjp hju => hd j p u (by omega) hjp (by rw [hg j hj]; exact hju)
      · rcases Nat.lt_or_ge j acc.length with hlt | hge
        · rw [hg j hlt] at hju
          have hold := hat.new j p u d hlt hjp hju hpd hds
          rw [h3 d (fun v hv hod => by have := dist hD hjp h0 hpd hod; omega)]
          exact hold
        · have he : j = acc.length := by omega
          subst he
          rw [hgk] at hju
          have hpo : p = o := by rw [h0] at hjp; exact (Option.some.inj hjp).symm
          subst hpo
          exact h4 u d (Option.some.inj hju) hpd (by rw [hat.size]; exact hds)
    cases h with
    | r v h hr =>
      refine key (.r v) _ hr (grow (.r v) _ (put_size _ _ _) (put_defers _ _ _) (fun d hd => put_ne _ _ _ _ (hd v rfl)) (fun u d hu hd hs => ?_)) (fun _ _ => h)
      injection hu with hu
      subst hu
      rw [hd]
      exact put_eq _ _ _ hs
    | al d T z hd hs h hr => exact key _ _ hr (grow _ _ rfl rfl (fun _ _ => rfl) (fun u d hu => by cases hu)) (fun _ _ => ⟨hd, hs, h⟩)
    | st j cs d T z hd hj h hr =>
      refine key _ _ hr (grow _ _ rfl rfl (fun _ _ => rfl) (fun u d hu => by cases hu)) (fun is hp => ⟨hd, d, T, z, ?_, h⟩)
      obtain ⟨t, ht⟩ := hp
      have hjl : j < acc.reverse.length := (List.getElem?_eq_some_iff.1 hj).1
      rw [← ht, List.getElem?_toArray, List.reverse_cons, List.append_assoc, List.getElem?_append_left hjl]
      exact hj

/-- What holds while some operations have been carried out. -/
structure Inv (ops : Array Oper) (is : Array Info) (a0 : Act) (w : World) (L : Array Bool) (a : Act) (w' : World) (β : Nat → Nat) : Prop where
  lsize : L.size = ops.size
  closed : ∀ j o, ops[j]? = some o → L.getD j false = true → ∀ e ∈ o.after, Region.binds .any e = true → L.getD e.on false = true
  below : Below w.heap.size w w'
  defers : a.defers = a0.defers
  size : a.tmps.size = a0.tmps.size
  new : ∀ j o v d, ops[j]? = some o → L.getD j false = true → is[j]? = some (.r v) → o.dst = some d → d < a0.tmps.size → a.tmps[d]? = some v
  newp : ∀ j d T z, L.getD j false = true → is[j]? = some (.al d T z) → a.tmps[d]? = some (.pointer (some ⟨β j, 0, none⟩))
  old : ∀ d, (∀ j o, ops[j]? = some o → L.getD j false = true → o.dst ≠ some d) → a.tmps[d]? = a0.tmps[d]?
  blk0 : ∀ j d T z, L.getD j false = true → is[j]? = some (.al d T z) → (∀ s cs, is[s]? = some (.st j cs) → L.getD s false = false) → w'.heap[β j]? = some (.cells z T (0, 0))
  blk1 : ∀ s j cs d T z, L.getD s false = true → is[s]? = some (.st j cs) → is[j]? = some (.al d T z) → w'.heap[β j]? = some (.cells cs T (0, 0))
  fresh : ∀ j d T z, L.getD j false = true → is[j]? = some (.al d T z) → w.heap.size ≤ β j
  low : ∀ j d T z, L.getD j false = true → is[j]? = some (.al d T z) → β j < w'.heap.size
  inj : ∀ i j d T z d' T' z', L.getD i false = true → L.getD j false = true → is[i]? = some (.al d T z) → is[j]? = some (.al d' T' z') → β i = β j → i = j
/-- What the walk in the order of the text has shown. -/
structure Told (P : Program) (ops : Array Oper) (is : Array Info) (a0 : Act) (w : World) : Prop where
  dist : distB ops = true
  chk : chkAll ops is = true
  each : ∀ i o, ops[i]? = some o → ∃ (k : Info) (f : Act), is[i]? = some k ∧ At ops is a0 i f ∧ okOp P w is o f k
theorem Told.al {is : Array Info} (h : Told P ops is a0 w) {j : Nat} {p : Oper} {d : Tmp} {T : TypeId} {z : Array Value} (hj : ops[j]? = some p) (hi : is[j]? = some (.al d T z)) : p.dst = some d ∧ d < a0.tmps.size := by
  obtain ⟨k, f, h1, h2, h3⟩ := h.each j p hj
  rw [hi] at h1
  obtain rfl := Option.some.inj h1
  exact ⟨h3.1, by rw [← h2.size]; exact h3.2.1⟩
theorem Told.st {is : Array Info} (h : Told P ops is a0 w) {j k : Nat} {p : Oper} {cs : Array Value} (hj : ops[j]? = some p) (hi : is[j]? = some (.st k cs)) : p.dst = none := by
  obtain ⟨k, f, h1, h2, h3⟩ := h.each j p hj
  rw [hi] at h1
  obtain rfl := Option.some.inj h1
  exact h3.1
theorem Told.op {is : Array Info} (_h : Told P ops is a0 w) (hs : is.size = ops.size) {j : Nat} {k : Info} (hi : is[j]? = some k) : ∃ p, ops[j]? = some p := by
  have : j < is.size := (Array.getElem?_eq_some_iff.1 hi).1
  exact ⟨_, Array.getElem?_eq_getElem (by omega)⟩
/-- A slot that operation i reads holds what it holds in the order of the text. -/
theorem agree {is : Array Info} (T : Told P ops is a0 w) {L : Array Bool} {a : Act} {w' : World} {β : Nat → Nat} (I : Inv ops is a0 w L a w' β) {i : Nat} {o : Oper} {f : Act} (hi : ops[i]? = some o) (hf : At ops is a0 i f)
    (hL : L.getD i false = false) (hdep : ∀ e ∈ o.after, Region.binds .any e = true → L.getD e.on false = true) {t : Tmp} (ht : t ∈ slotsOf o) (hna : ∀ j T z, is[j]? = some (.al t T z) → j < ops.size → False) : a.tmps[t]? = f.tmps[t]? := by
  by_cases hex : ∃ (j : Nat) (p : Oper), ops[j]? = some p ∧ p.dst = some t
  · obtain ⟨j, p, hj, hp⟩ := hex
    have hjl : j < ops.size := (Array.getElem?_eq_some_iff.1 hj).1
    obtain ⟨k, g, hk, hg, hok⟩ := T.each j p hj
    cases k with
    | al d T' z =>
      have := (T.al hj hk).1
      rw [hp] at this
      obtain rfl := Option.some.inj this
      exact (hna j _ _ hk hjl).elim
    | st k cs => have := T.st hj hk; rw [hp] at this; cases this
    | r u =>
      rcases Nat.lt_or_ge t a0.tmps.size with hts | hts
      · rcases chk_slot T.chk hi hj ht hp with ⟨hlt, he⟩ | ⟨hlt, he⟩
        · obtain ⟨e, he1, he2, he3⟩ := edge_mem he
          have hLj := hdep e he1 he2
          rw [he3] at hLj
          rw [I.new j p u t hj hLj hk hp hts, hf.new j p u t hlt hj hk hp hts]
        · obtain ⟨e, he1, he2, he3⟩ := edge_mem he
          rw [I.old t (fun j' p' hj' hL' hp' => by
            have e1 := dist T.dist hj' hj hp' hp
            subst e1
            have := I.closed j' p' hj' hL'
            rw [hj] at hj'
            obtain rfl := Option.some.inj hj'
            have := this e he1 he2
            rw [he3, hL] at this
            cases this), hf.old t (fun j' p' v hlt' hj' _ hp' => by
            have e1 := dist T.dist hj' hj hp' hp
            omega)]
      · rw [Array.getElem?_eq_none (by rw [I.size]; omega), Array.getElem?_eq_none (by rw [hf.size]; omega)]
  · rw [I.old t (fun j p hj _ hp => hex ⟨j, p, hj, hp⟩), hf.old t (fun j p v _ hj _ hp => hex ⟨j, p, hj, hp⟩)]
theorem eval_of {a f : Act} (x : Operand) (h : ∀ t, x = .tmp t → a.tmps[t]? = f.tmps[t]?) : a.eval x = f.eval x := by
  cases x with
  | tmp t => have := h t rfl; simp only [Act.eval, Array.getD_eq_getD_getElem?, this]
  | _ => rfl
theorem slot_mem {o : Oper} {t : Tmp} (h : Operand.tmp t ∈ o.op.operands) : t ∈ slotsOf o :=
  List.mem_filterMap.2 ⟨.tmp t, by simpa using h, rfl⟩
theorem getD_set_same {L : Array Bool} {i : Nat} (h : i < L.size) : (L.setIfInBounds i true).getD i false = true := by simp [h]
theorem getD_set_cases {L : Array Bool} {i j : Nat} (h : (L.setIfInBounds i true).getD j false = true) : j = i ∨ L.getD j false = true := by
  by_cases hij : i = j
  · exact Or.inl hij.symm
  · rw [getD_set_ne false hij] at h; exact Or.inr h
theorem getD_set_false {L : Array Bool} {i j : Nat} (h : (L.setIfInBounds i true).getD j false = false) (hj : j < L.size) : L.getD j false = false ∧ j ≠ i := by
  by_cases hij : i = j
  · subst hij; rw [getD_set_same hj] at h; cases h
  · rw [getD_set_ne false hij] at h; exact ⟨h, fun e => hij e.symm⟩
end
section
variable {P : Program} {ops : Array Oper} {w : World} {a0 : Act}
theorem below_only {w' w2 : World} {b : Nat} (hb : Below w.heap.size w w') (ho : OnlyB b w' w2) (hw : w.heap.size ≤ b) : Below w.heap.size w w2 :=
  ⟨ho.1.trans hb.os, ho.2.1.trans hb.tape, ho.2.2.1.trans hb.output, by rw [ho.2.2.2.1]; exact hb.size, fun c hc => (ho.2.2.2.2 c (by omega)).trans (hb.block c hc)⟩
theorem closed_set {is : Array Info} {L : Array Bool} {a : Act} {w' : World} {β : Nat → Nat} (I : Inv ops is a0 w L a w' β) {i : Nat} {o : Oper} (hi : ops[i]? = some o) (hdep : ∀ e ∈ o.after, Region.binds .any e = true → L.getD e.on false = true) :
    ∀ j o', ops[j]? = some o' → (L.setIfInBounds i true).getD j false = true → ∀ e ∈ o'.after, Region.binds .any e = true → (L.setIfInBounds i true).getD e.on false = true := by
  intro j o' hj hL e he hb
  have up : ∀ m, L.getD m false = true → (L.setIfInBounds i true).getD m false = true := fun m hm => by
    by_cases him : i = m
    · subst him; exact getD_set_same (by
        rcases Nat.lt_or_ge i L.size with h | h
        · exact h
        · simp [Array.getElem?_eq_none h] at hm)
    · rw [getD_set_ne false him]; exact hm
  rcases getD_set_cases hL with rfl | h
  · rw [hi] at hj
    obtain rfl := Option.some.inj hj
    exact up _ (hdep e he hb)
  · exact up _ (I.closed j o' hj h e he hb)
/-- An operation that yields a value. -/
theorem inv_r {is : Array Info} (T : Told P ops is a0 w) (hz : is.size = ops.size) {L : Array Bool} {a : Act} {w' w2 : World} {β : Nat → Nat} (I : Inv ops is a0 w L a w' β) {i : Nat} {o : Oper} {v : Value} (hi : ops[i]? = some o) (hk : is[i]? = some (.r v))
    (hL : L.getD i false = false) (hdep : ∀ e ∈ o.after, Region.binds .any e = true → L.getD e.on false = true) (hb : Below w'.heap.size w' w2) : Inv ops is a0 w (L.setIfInBounds i true) (a.put o.dst v) w2 β := by
  have hil : i < L.size := by rw [I.lsize]; exact (Array.getElem?_eq_some_iff.1 hi).1
  have hkeep : ∀ j d T' z, L.getD j false = true → is[j]? = some (.al d T' z) → w2.heap[β j]? = w'.heap[β j]? := fun j d T' z hj hjk => hb.block _ (I.low j d T' z hj hjk)
  have hne : ∀ j (kk : Info), is[j]? = some kk → (∀ u, kk ≠ .r u) → j ≠ i := fun j kk hj hn e => by
    subst e; rw [hk] at hj; exact hn v (Option.some.inj hj).symm
  refine ⟨by simp [I.lsize], closed_set I hi hdep, b_next I.below hb, by rw [put_defers]; exact I.defers, by rw [put_size]; exact I.size, ?_, ?_, ?_, ?_, ?_, ?_, ?_, ?_⟩
  · intro j p u d hj hLj hju hp hd
    by_cases hji : j = i
    · subst hji
      rw [hi] at hj; obtain rfl := Option.some.inj hj
      rw [hk] at hju; obtain rfl := Info.r.inj (Option.some.inj hju)
      rw [hp]; exact put_eq _ _ _ (by rw [I.size]; exact hd)
    · rw [put_ne _ _ _ _ (fun ho => hji (dist T.dist hj hi hp ho))]
      exact I.new j p u d hj ((getD_set_cases hLj).resolve_left hji) hju hp hd
  · intro j d T' z hLj hjk
    have hji := hne j _ hjk (fun u h => by cases h)
    obtain ⟨p, hj⟩ := T.op hz hjk
    rw [put_ne _ _ _ _ (fun ho => hji (dist T.dist hj hi (T.al hj hjk).1 ho))]
    exact I.newp j d T' z ((getD_set_cases hLj).resolve_left hji) hjk
  · intro d hd
    rw [put_ne _ _ _ _ (hd i o hi (getD_set_same hil))]
    refine I.old d fun j p hj hLj => hd j p hj ?_
    by_cases hij : i = j
    · subst hij; exact getD_set_same hil
    · rw [getD_set_ne false hij]; exact hLj
  · intro j d T' z hLj hjk hs
    have hLj' := (getD_set_cases hLj).resolve_left (hne j _ hjk (fun u h => by cases h))
    rw [hkeep j d T' z hLj' hjk]
    refine I.blk0 j d T' z hLj' hjk fun s cs hsk => ?_
    have h1 := hs s cs hsk
    have hsi := hne s _ hsk (fun u h => by cases h)
    rw [getD_set_ne false (fun e => hsi e.symm)] at h1
    exact h1
  · intro s j cs d T' z hLs hsk hjk
    have hLs' := (getD_set_cases hLs).resolve_left (hne s _ hsk (fun u h => by cases h))
    obtain ⟨p, hp⟩ := T.op hz hsk
    obtain ⟨e, he1, he2, he3⟩ := edge_mem ((chk_op T.chk hp).2.2.1 j cs hsk)
    have hLj : L.getD j false = true := by have := I.closed s p hp hLs' e he1 he2; rw [he3] at this; exact this
    rw [hkeep j d T' z hLj hjk]
    exact I.blk1 s j cs d T' z hLs' hsk hjk
  · intro j d T' z hLj hjk
    exact I.fresh j d T' z ((getD_set_cases hLj).resolve_left (hne j _ hjk (fun u h => by cases h))) hjk
  · intro j d T' z hLj hjk
    exact Nat.lt_of_lt_of_le (I.low j d T' z ((getD_set_cases hLj).resolve_left (hne j _ hjk (fun u h => by cases h))) hjk) hb.size
  · intro x y d T' z d' T2 z' hx hy hxk hyk
    exact I.inj x y d T' z d' T2 z' ((getD_set_cases hx).resolve_left (hne x _ hxk (fun u h => by cases h))) ((getD_set_cases hy).resolve_left (hne y _ hyk (fun u h => by cases h))) hxk hyk
/-- An operation that makes a variable. -/
theorem inv_al {is : Array Info} (T : Told P ops is a0 w) (hz : is.size = ops.size) {L : Array Bool} {a : Act} {w' : World} {β : Nat → Nat} (I : Inv ops is a0 w L a w' β) {i : Nat} {o : Oper} {d0 : Tmp} {T0 : TypeId} {z0 : Array Value} (hi : ops[i]? = some o) (hk : is[i]? = some (.al d0 T0 z0))
    (hL : L.getD i false = false) (hdep : ∀ e ∈ o.after, Region.binds .any e = true → L.getD e.on false = true) :
    Inv ops is a0 w (L.setIfInBounds i true) (a.put o.dst (.pointer (some ⟨w'.heap.size, 0, none⟩))) (w'.alloc (.cells z0 T0)) (fun j => if j = i then w'.heap.size else β j) := by
  have hil : i < L.size := by rw [I.lsize]; exact (Array.getElem?_eq_some_iff.1 hi).1
  have hb : Below w'.heap.size w' (w'.alloc (.cells z0 T0)) := b_alloc (Below.refl _ _) _
  have hod := T.al hi hk
  have hLi : ∀ j, j ≠ i → (L.setIfInBounds i true).getD j false = true → L.getD j false = true := fun j hj h => (getD_set_cases h).resolve_left hj
  refine ⟨by simp [I.lsize], closed_set I hi hdep, b_next I.below hb, by rw [put_defers]; exact I.defers, by rw [put_size]; exact I.size, ?_, ?_, ?_, ?_, ?_, ?_, ?_, ?_⟩
  · intro j p u d hj hLj hju hp hd
    have hji : j ≠ i := fun e => by subst e; rw [hk] at hju; cases hju
    rw [put_ne _ _ _ _ (fun ho => hji (dist T.dist hj hi hp ho))]
    exact I.new j p u d hj (hLi j hji hLj) hju hp hd
  · intro j d T' z hLj hjk
    by_cases hji : j = i
    · subst hji
      rw [hk] at hjk
      injection hjk with hjk
      injection hjk with h1 h2 h3
      subst h1
      rw [hod.1, if_pos rfl]
      exact put_eq _ _ _ (by rw [I.size]; exact hod.2)
    · obtain ⟨p, hj⟩ := T.op hz hjk
      rw [put_ne _ _ _ _ (fun ho => hji (dist T.dist hj hi (T.al hj hjk).1 ho)), if_neg hji]
      exact I.newp j d T' z (hLi j hji hLj) hjk
  · intro d hd
    rw [put_ne _ _ _ _ (hd i o hi (getD_set_same hil))]
    refine I.old d fun j p hj hLj => hd j p hj ?_
    by_cases hij : i = j
    · subst hij; exact getD_set_same hil
    · rw [getD_set_ne false hij]; exact hLj
  · intro j d T' z hLj hjk hs
    by_cases hji : j = i
    · subst hji
      rw [hk] at hjk
      injection hjk with hjk
      injection hjk with h1 h2 h3
      subst h2 h3
      rw [if_pos rfl]
      exact heap_alloc_new w' _
    · have hLj' := hLi j hji hLj
      rw [if_neg hji, hb.block _ (I.low j d T' z hLj' hjk)]
      refine I.blk0 j d T' z hLj' hjk fun s cs hsk => ?_
      have h1 := hs s cs hsk
      have hsi : s ≠ i := fun e => by subst e; rw [hk] at hsk; cases hsk
      rw [getD_set_ne false (fun e => hsi e.symm)] at h1
      exact h1
  · intro s j cs d T' z hLs hsk hjk
    have hsi : s ≠ i := fun e => by subst e; rw [hk] at hsk; cases hsk
    have hLs' := hLi s hsi hLs
    obtain ⟨p, hp⟩ := T.op hz hsk
    obtain ⟨e, he1, he2, he3⟩ := edge_mem ((chk_op T.chk hp).2.2.1 j cs hsk)
    have hLj : L.getD j false = true := by have := I.closed s p hp hLs' e he1 he2; rw [he3] at this; exact this
    have hji : j ≠ i := fun e => by subst e; rw [hL] at hLj; cases hLj
    rw [if_neg hji, hb.block _ (I.low j d T' z hLj hjk)]
    exact I.blk1 s j cs d T' z hLs' hsk hjk
  · intro j d T' z hLj hjk
    by_cases hji : j = i
    · rw [if_pos hji]; exact I.below.size
    · rw [if_neg hji]; exact I.fresh j d T' z (hLi j hji hLj) hjk
  · intro j d T' z hLj hjk
    by_cases hji : j = i
    · rw [if_pos hji]; simp
    · rw [if_neg hji]; exact Nat.lt_of_lt_of_le (I.low j d T' z (hLi j hji hLj) hjk) hb.size
  · intro x y d T' z d' T2 z' hx hy hxk hyk hxy
    by_cases hxi : x = i
    · by_cases hyi : y = i
      · rw [hxi, hyi]
      · rw [if_pos hxi, if_neg hyi] at hxy
        have := I.low y d' T2 z' (hLi y hyi hy) hyk
        omega
    · by_cases hyi : y = i
      · rw [if_neg hxi, if_pos hyi] at hxy
        have := I.low x d T' z (hLi x hxi hx) hxk
        omega
      · rw [if_neg hxi, if_neg hyi] at hxy
        exact I.inj x y d T' z d' T2 z' (hLi x hxi hx) (hLi y hyi hy) hxk hyk hxy
/-- An operation that stores into a variable. -/
theorem inv_st {is : Array Info} (T : Told P ops is a0 w) (hz : is.size = ops.size) {L : Array Bool} {a : Act} {w' w2 : World} {β : Nat → Nat} (I : Inv ops is a0 w L a w' β) {i j0 : Nat} {o : Oper} {cs0 : Array Value} (hi : ops[i]? = some o) (hk : is[i]? = some (.st j0 cs0))
    (hL : L.getD i false = false) (hdep : ∀ e ∈ o.after, Region.binds .any e = true → L.getD e.on false = true) {d0 : Tmp} {T0 : TypeId} {z0 : Array Value} (hj0 : is[j0]? = some (.al d0 T0 z0)) (hnew : w2.heap[β j0]? = some (.cells cs0 T0 (0, 0))) (ho : OnlyB (β j0) w' w2) :
    Inv ops is a0 w (L.setIfInBounds i true) a w2 β := by
  have hil : i < L.size := by rw [I.lsize]; exact (Array.getElem?_eq_some_iff.1 hi).1
  have hod := T.st hi hk
  have hne : ∀ j (kk : Info), is[j]? = some kk → (∀ k cs, kk ≠ .st k cs) → j ≠ i := fun j kk hj hn e => by
    subst e; rw [hk] at hj; exact hn j0 cs0 (Option.some.inj hj).symm
  have hLj0 : L.getD j0 false = true := by
    obtain ⟨e, he1, he2, he3⟩ := edge_mem ((chk_op T.chk hi).2.2.1 j0 cs0 hk)
    have := hdep e he1 he2; rw [he3] at this; exact this
  have hfar : ∀ j d T' z, L.getD j false = true → is[j]? = some (.al d T' z) → j ≠ j0 → w2.heap[β j]? = w'.heap[β j]? := fun j d T' z hLj hjk hjj =>
    ho.2.2.2.2 _ fun e => hjj (I.inj j j0 d T' z d0 T0 z0 hLj hLj0 hjk hj0 e)
  refine ⟨by simp [I.lsize], closed_set I hi hdep, below_only I.below ho (I.fresh j0 d0 T0 z0 hLj0 hj0), I.defers, I.size, ?_, ?_, ?_, ?_, ?_, ?_, ?_, ?_⟩
  · intro j p u d hj hLj hju hp hd
    exact I.new j p u d hj ((getD_set_cases hLj).resolve_left (hne j _ hju (fun _ _ h => by cases h))) hju hp hd
  · intro j d T' z hLj hjk
    exact I.newp j d T' z ((getD_set_cases hLj).resolve_left (hne j _ hjk (fun _ _ h => by cases h))) hjk
  · intro d hd
    refine I.old d fun j p hj hLj => hd j p hj ?_
    by_cases hij : i = j
    · subst hij; exact getD_set_same hil
    · rw [getD_set_ne false hij]; exact hLj
  · intro j d T' z hLj hjk hs
    have hLj' := (getD_set_cases hLj).resolve_left (hne j _ hjk (fun _ _ h => by cases h))
    have hjj : j ≠ j0 := fun e => by
      subst e
      have := hs i cs0 hk
      rw [getD_set_same hil] at this
      cases this
    rw [hfar j d T' z hLj' hjk hjj]
    refine I.blk0 j d T' z hLj' hjk fun s cs hsk => ?_
    have h1 := hs s cs hsk
    by_cases hsi : i = s
    · subst hsi; rw [getD_set_same hil] at h1; cases h1
    · rw [getD_set_ne false hsi] at h1; exact h1
  · intro s j cs d T' z hLs hsk hjk
    by_cases hsi : s = i
    · subst hsi
      rw [hk] at hsk
      injection hsk with hsk
      injection hsk with h1 h2
      subst h1 h2
      rw [hj0] at hjk
      injection hjk with hjk
      injection hjk with h1 h2 h3
      subst h2
      exact hnew
    · have hLs' := (getD_set_cases hLs).resolve_left hsi
      obtain ⟨p, hp⟩ := T.op hz hsk
      obtain ⟨e, he1, he2, he3⟩ := edge_mem ((chk_op T.chk hp).2.2.1 j cs hsk)
      have hLj : L.getD j false = true := by have := I.closed s p hp hLs' e he1 he2; rw [he3] at this; exact this
      have hjj : j ≠ j0 := fun e => by subst e; exact hsi (chk_st T.chk hp hi hsk hk)
      rw [hfar j d T' z hLj hjk hjj]
      exact I.blk1 s j cs d T' z hLs' hsk hjk
  · intro j d T' z hLj hjk
    exact I.fresh j d T' z ((getD_set_cases hLj).resolve_left (hne j _ hjk (fun _ _ h => by cases h))) hjk
  · intro j d T' z hLj hjk
    rw [ho.2.2.2.1]
    exact I.low j d T' z ((getD_set_cases hLj).resolve_left (hne j _ hjk (fun _ _ h => by cases h))) hjk
  · intro x y d T' z d' T2 z' hx hy hxk hyk
    exact I.inj x y d T' z d' T2 z' ((getD_set_cases hx).resolve_left (hne x _ hxk (fun _ _ h => by cases h))) ((getD_set_cases hy).resolve_left (hne y _ hyk (fun _ _ h => by cases h))) hxk hyk
/-- An operation that comes up is carried out. -/
theorem inv_step {is : Array Info} (T : Told P ops is a0 w) (hz : is.size = ops.size) {Q : Exit → Act → World → Prop} {L : Array Bool} {a : Act} {w' : World} {β : Nat → Nat} (I : Inv ops is a0 w L a w' β) {i : Nat} (hr : i ∈ Region.ready .any ops L) :
    wpOp P ops Q i (fun a' w2 => ∃ β', Inv ops is a0 w (L.setIfInBounds i true) a' w2 β') a w' := by
  obtain ⟨hL0, o, hi, hdep⟩ := mem_ready.1 hr
  have hil : i < L.size := by rw [I.lsize]; exact (Array.getElem?_eq_some_iff.1 hi).1
  have hL : L.getD i false = false := by simpa [hil] using hL0
  obtain ⟨hg, hlow, hst, hsel⟩ := chk_op T.chk hi
  obtain ⟨k, f, hk, hf, hok⟩ := T.each i o hi
  unfold wpOp
  simp only [hi]
  rw [if_pos (by simp [Region.wanted, hg])]
  left
  unfold Oper.wp
  cases k with
  | r v =>
    have he : execOp a.eval o = execOp f.eval o := execOp_congr o hsel fun x hx => eval_of x fun t ht => by
      subst ht
      refine agree T I hi hf hL hdep (slot_mem hx) fun j T' z hjk hjl => ?_
      obtain ⟨cs, h⟩ := chk_al T.chk hi (Array.getElem?_eq_getElem hjl) (slot_mem hx) hjk
      rw [hk] at h; cases h
    rw [he]
    have h1 := hok w' (bcell I.below).1 I.below
    generalize (execOp f.eval o).run P w' = r at *
    cases r with
    | ok n w2 =>
      cases n <;> simp only [quiet2] at h1 <;> simp only [Oper.upon]
      case value u =>
        obtain ⟨e1, e2⟩ := h1
        rw [e1, e2]
        exact ⟨β, inv_r T hz I hi hk hL hdep (Below.refl _ _)⟩
      case skip =>
        obtain ⟨e1, e2⟩ := h1
        rw [e1, ← e2]
        exact ⟨β, inv_r T hz I hi hk hL hdep (Below.refl _ _)⟩
      case enter g args =>
        obtain ⟨e1, hc⟩ := h1
        rw [e1]
        exact hc.mono fun e w3 ⟨he', hb⟩ => by subst he'; exact ⟨β, inv_r T hz I hi hk hL hdep hb⟩
    | halt x w2 => simp only [quiet2] at h1
  | al d T0 z =>
    have he : execOp a.eval o = execOp f.eval o := execOp_congr o hsel fun x hx => eval_of x fun t ht => by
      subst ht
      refine agree T I hi hf hL hdep (slot_mem hx) fun j T' z hjk hjl => ?_
      obtain ⟨cs, h⟩ := chk_al T.chk hi (Array.getElem?_eq_getElem hjl) (slot_mem hx) hjk
      rw [hk] at h; cases h
    rw [he, hok.2.2 w']
    simp only [Oper.upon]
    exact ⟨_, inv_al T hz I hi hk hL hdep⟩
  | st j0 cs =>
    obtain ⟨hod, d, T0, z, hj0, hrun⟩ := hok
    obtain ⟨p, hp⟩ := T.op hz hj0
    have hLj0 : L.getD j0 false = true := by
      obtain ⟨e, he1, he2, he3⟩ := edge_mem (hst j0 cs hk)
      have := hdep e he1 he2; rw [he3] at this; exact this
    have hblk := I.blk0 j0 d T0 z hLj0 hj0 fun s cs' hsk => by
      obtain ⟨q, hq⟩ := T.op hz hsk
      have := chk_st T.chk hq hi hsk hk
      rw [this]; exact hL
    obtain ⟨w2, h1, h2, h3⟩ := hrun w' (β j0) hblk
    have he : execOp a.eval o = execOp (f.put (some d) (.pointer (some ⟨β j0, 0, none⟩))).eval o := execOp_congr o hsel fun x hx => eval_of x fun t ht => by
      subst ht
      by_cases htd : t = d
      · subst htd
        rw [I.newp j0 t T0 z hLj0 hj0, put_eq _ _ _ (by rw [hf.size]; exact (T.al hp hj0).2)]
      · rw [put_ne _ _ _ _ (fun e => htd (Option.some.inj e).symm)]
        refine agree T I hi hf hL hdep (slot_mem hx) fun j T' z' hjk hjl => ?_
        obtain ⟨cs', h⟩ := chk_al T.chk hi (Array.getElem?_eq_getElem hjl) (slot_mem hx) hjk
        rw [hk] at h
        injection h with h
        injection h with h4 h5
        subst h4
        rw [hj0] at hjk
        injection hjk with hjk
        injection hjk with h6
        exact htd h6.symm
    rw [he, h1]
    simp only [Oper.upon]
    rw [show a.put o.dst undef = a from by rw [hod]; rfl]
    exact ⟨β, inv_st T hz I hi hk hL hdep hj0 h2 h3⟩
/-- The frame with the pointers to the variables that were made. -/
def putAl (β : Nat → Nat) : List Info → Nat → Act → Act
  | [], _, a => a
  | .al d _ _ :: l, i, a => putAl β l (i + 1) (a.put (some d) (.pointer (some ⟨β i, 0, none⟩)))
  | .r _ :: l, i, a => putAl β l (i + 1) a
  | .st _ _ :: l, i, a => putAl β l (i + 1) a
theorem putAl_keep (β : Nat → Nat) : ∀ (l : List Info) (i : Nat) (a : Act), (putAl β l i a).tmps.size = a.tmps.size ∧ (putAl β l i a).defers = a.defers
  | [], _, _ => ⟨rfl, rfl⟩
  | .al d _ _ :: l, i, a => by have h := putAl_keep β l (i + 1) (a.put (some d) (.pointer (some ⟨β i, 0, none⟩))); rw [put_size, put_defers] at h; exact h
  | .r _ :: l, i, a => putAl_keep β l (i + 1) a
  | .st _ _ :: l, i, a => putAl_keep β l (i + 1) a
theorem putAl_ne (β : Nat → Nat) (t : Tmp) : ∀ (l : List Info) (i : Nat) (a : Act), (∀ (j : Nat) (T : TypeId) (z : Array Value), l[j]? ≠ some (Info.al t T z)) → (putAl β l i a).tmps[t]? = a.tmps[t]?
  | [], _, _, _ => rfl
  | .al d T z :: l, i, a, h => by
    have h1 := putAl_ne β t l (i + 1) (a.put (some d) (.pointer (some ⟨β i, 0, none⟩))) (fun j T z => by have := h (j + 1) T z; simpa using this)
    rw [put_ne _ _ _ _ (fun e => h 0 T z (by rw [← Option.some.inj e]; rfl))] at h1
    exact h1
  | .r _ :: l, i, a, h => putAl_ne β t l (i + 1) a (fun j T z => by have := h (j + 1) T z; simpa using this)
  | .st _ _ :: l, i, a, h => putAl_ne β t l (i + 1) a (fun j T z => by have := h (j + 1) T z; simpa using this)
theorem putAl_eq (β : Nat → Nat) (t : Tmp) : ∀ (l : List Info) (i : Nat) (a : Act) (j : Nat) (T : TypeId) (z : Array Value), l[j]? = some (.al t T z) → (∀ (j' : Nat) (T : TypeId) (z : Array Value), l[j']? = some (Info.al t T z) → j' = j) → t < a.tmps.size →
    (putAl β l i a).tmps[t]? = some (.pointer (some ⟨β (i + j), 0, none⟩))
  | [], _, _, j, _, _, h, _, _ => by simp at h
  | k :: l, i, a, 0, T, z, h, hu, ht => by
    have hk : k = .al t T z := by simpa using h
    subst hk
    show (putAl β l (i + 1) (a.put (some t) (.pointer (some ⟨β i, 0, none⟩)))).tmps[t]? = _
    rw [putAl_ne β t l (i + 1) _ (fun j T z hj => by have := hu (j + 1) T z (by simpa using hj); omega)]
    exact put_eq _ _ _ ht
  | k :: l, i, a, j + 1, T, z, h, hu, ht => by
    have hl : l[j]? = some (.al t T z) := by simpa using h
    have hu' : ∀ j' T z, l[j']? = some (.al t T z) → j' = j := fun j' T z hj => by have := hu (j' + 1) T z (by simpa using hj); omega
    have e : i + (j + 1) = i + 1 + j := by omega
    rw [e]
    cases k with
    | r v => exact putAl_eq β t l (i + 1) a j T z hl hu' ht
    | st _ _ => exact putAl_eq β t l (i + 1) a j T z hl hu' ht
    | al d _ _ => exact putAl_eq β t l (i + 1) _ j T z hl hu' (by rw [put_size]; exact ht)
theorem cnt_set {L : Array Bool} {i n : Nat} (hi : i < n) (hs : i < L.size) (h : L.getD i false = false) : ((List.range n).filter fun j => !(L.setIfInBounds i true).getD j false).length < ((List.range n).filter fun j => !L.getD j false).length := by
  have key : ∀ n, ((List.range n).filter fun j => !(L.setIfInBounds i true).getD j false).length + (if i < n then 1 else 0) = ((List.range n).filter fun j => !L.getD j false).length := by
    intro n
    induction n with
    | zero => simp
    | succ n ih =>
      rw [List.range_succ, List.filter_append, List.filter_append, List.length_append, List.length_append]
      by_cases hin : i = n
      · subst hin
        rw [if_neg (by omega)] at ih
        rw [if_pos (by omega)]
        have e1 : (List.filter (fun j => !(L.setIfInBounds i true).getD j false) [i]).length = 0 := by
          simp only [List.filter_cons, getD_set_same hs, Bool.not_true]; simp
        have e2 : (List.filter (fun j => !L.getD j false) [i]).length = 1 := by
          simp only [List.filter_cons, h, Bool.not_false]; simp
        omega
      · have e : (List.filter (fun j => !(L.setIfInBounds i true).getD j false) [n]).length = (List.filter (fun j => !L.getD j false) [n]).length := by
          simp only [List.filter_cons, getD_set_ne false hin, List.filter_nil]
        by_cases hlt : i < n
        · rw [if_pos hlt] at ih; rw [if_pos (by omega)]; omega
        · rw [if_neg hlt] at ih; rw [if_neg (by omega)]; omega
  have := key n
  rw [if_pos hi] at this
  omega
theorem all_listed {is : Array Info} (T : Told P ops is a0 w) {L : Array Bool} {a : Act} {w' : World} {β : Nat → Nat} (I : Inv ops is a0 w L a w' β) (hr : Region.ready .any ops L = []) : ∀ j, j < ops.size → L.getD j false = true := by
  intro j
  induction j using Nat.strongRecOn with
  | _ j ih =>
    intro hj
    cases hL : L.getD j false with
    | true => rfl
    | false =>
      have hjl : j < L.size := by rw [I.lsize]; exact hj
      have h0 : L.getD j true = false := by simpa [hjl] using hL
      have hm : j ∈ Region.ready .any ops L := mem_ready.2 ⟨h0, ops[j], Array.getElem?_eq_getElem hj, fun e he hb => by
        have hlt := (chk_op T.chk (Array.getElem?_eq_getElem hj)).2.1 e he hb
        exact ih e.on hlt (by omega)⟩
      rw [hr] at hm
      cases hm
theorem any_of_inv {is : Array Info} (T : Told P ops is a0 w) (hz : is.size = ops.size) {Q : Exit → Act → World → Prop} (hQ : ∀ L a w' β, Inv ops is a0 w L a w' β → (∀ j, j < ops.size → L.getD j false = true) → Q .normal a w') :
    ∀ (fuel : Nat) (L : Array Bool) (a : Act) (w' : World), (∃ β, Inv ops is a0 w L a w' β) → ((List.range ops.size).filter fun j => !L.getD j false).length ≤ fuel → wpAny P .any ops Q fuel L a w' := by
  intro fuel
  induction fuel with
  | zero =>
    intro L a w' ⟨β, I⟩ hc
    have hall : ∀ j, j < ops.size → L.getD j false = true := fun j hj => by
      cases hL : L.getD j false with
      | true => rfl
      | false =>
        have : j ∈ (List.range ops.size).filter fun j => !L.getD j false := List.mem_filter.2 ⟨List.mem_range.2 hj, by rw [hL]; rfl⟩
        have := List.length_pos_of_mem this
        omega
    refine ⟨?_, hQ L a w' β I hall⟩
    cases hr : Region.ready .any ops L with
    | nil => rfl
    | cons i _ =>
      obtain ⟨h0, o, hi, -⟩ := mem_ready.1 (show i ∈ Region.ready .any ops L by rw [hr]; simp)
      have hlt : i < ops.size := (Array.getElem?_eq_some_iff.1 hi).1
      have h1 := hall i hlt
      have hl : i < L.size := by rw [I.lsize]; exact hlt
      simp [hl] at h0 h1
      rw [h0] at h1; cases h1
  | succ fuel ih =>
    intro L a w' ⟨β, I⟩ hc
    refine ⟨fun hr => hQ L a w' β I (all_listed T I hr), fun i hi => wpOp_mono (fun a' w2 h => ih _ a' w2 h ?_) (inv_step T hz I hi)⟩
    obtain ⟨h0, o, ho, -⟩ := mem_ready.1 hi
    have hlt : i < ops.size := (Array.getElem?_eq_some_iff.1 ho).1
    have hl : i < L.size := by rw [I.lsize]; exact hlt
    have := cnt_set hlt hl (by simpa [hl] using h0)
    omega
/-- What is known behind the region: of each variable that was made, its block. -/
structure Made (is : List Info) (w w' : World) (β : Nat → Nat) : Prop where
  below : Below w.heap.size w w'
  fresh : ∀ (j : Nat) (d : Tmp) (T : TypeId) (z : Array Value), is[j]? = some (Info.al d T z) → w.heap.size ≤ β j
  block : ∀ (s j : Nat) (cs : Array Value) (d : Tmp) (T : TypeId) (z : Array Value), is[s]? = some (Info.st j cs) → is[j]? = some (Info.al d T z) → w'.heap[β j]? = some (.cells cs T (0, 0))
  inj : ∀ (i j : Nat) (d : Tmp) (T : TypeId) (z : Array Value) (d' : Tmp) (T' : TypeId) (z' : Array Value), is[i]? = some (Info.al d T z) → is[j]? = some (Info.al d' T' z') → β i = β j → i = j
theorem fresh_region {id : Nat} {Q : Exit → Act → World → Prop} {l : List Oper} {a : Act} (hm : P.follows .mixedOrders = true) (hD : distB l.toArray = true)
    (h : Fq P w (fun is aR => chkAll l.toArray is.toArray = true ∧ ∀ β w', Made is w w' β → Q .normal (putAl β is 0 aR) w') l a []) : (Code.region id l.toArray true).wp P Q a w := by
  obtain ⟨is, aR, -, hlen, ⟨hchk, hQ⟩, hat, heach⟩ := fq_spec (ops := l.toArray) (a0 := a) hD l a [] h (fun j => by simp) ⟨rfl, rfl, fun _ _ => rfl, fun j o v d hj => by simp at hj⟩
  have hz : is.toArray.size = l.toArray.size := by simpa using hlen
  have T : Told P l.toArray is.toArray a w := ⟨hD, hchk, fun i o hi => by
    have hlt : i < l.toArray.size := (Array.getElem?_eq_some_iff.1 hi).1
    obtain ⟨k, f, h1, h2, h3⟩ := heach i o (by simp) (by simpa using hlt) hi
    exact ⟨k, f, by simpa using h1, h2, h3⟩⟩
  refine wp_region_any hm (any_of_inv T hz (fun L a' w' β I hall => ?_) _ _ _ _ ⟨fun _ => 0, ?_⟩ ?_)
  · have hM : Made is w w' β := by
      have hl : ∀ j (k : Info), is[j]? = some k → L.getD j false = true := fun j k hj => hall j (by
        have := (List.getElem?_eq_some_iff.1 hj).1
        rw [← hz]; simpa using this)
      exact ⟨I.below, fun j d T z hj => I.fresh j d T z (hl j _ hj) (by simpa using hj), fun s j cs d T z hs hj => I.blk1 s j cs d T z (hl s _ hs) (by simpa using hs) (by simpa using hj),
        fun i j d T z d' T' z' hi hj => I.inj i j d T z d' T' z' (hl i _ hi) (hl j _ hj) (by simpa using hi) (by simpa using hj)⟩
    have hfin : a' = putAl β is 0 aR := by
      have hk := putAl_keep β is 0 aR
      obtain ⟨ta, da⟩ := a'
      have hd : da = (putAl β is 0 aR).defers := by rw [hk.2, hat.defers]; exact I.defers
      have ht : ta = (putAl β is 0 aR).tmps := by
        refine Array.ext_getElem? fun t => ?_
        have hsz : ta.size = a.tmps.size := I.size
        by_cases hex : ∃ (j : Nat) (p : Oper), l.toArray[j]? = some p ∧ p.dst = some t
        · obtain ⟨j, p, hj, hp⟩ := hex
          have hjl : j < l.toArray.size := (Array.getElem?_eq_some_iff.1 hj).1
          obtain ⟨k, f, hkj, hf, hok⟩ := T.each j p hj
          cases k with
          | st k cs => have := T.st hj hkj; rw [hp] at this; cases this
          | al d T' z =>
            have hd := T.al hj hkj
            rw [hp] at hd
            obtain rfl := Option.some.inj hd.1
            have h1 := I.newp j t T' z (hall j hjl) hkj
            have h2 := putAl_eq β t is 0 aR j T' z (by simpa using hkj) (fun j' T2 z2 hj' => by
              obtain ⟨p', hp'⟩ := T.op hz (j := j') (by simpa using hj')
              exact dist T.dist hp' hj (T.al hp' (by simpa using hj')).1 hp) (by rw [hat.size]; exact hd.2)
            rw [Nat.zero_add] at h2
            exact h1.trans h2.symm
          | r v =>
            rw [putAl_ne β t is 0 aR (fun j' T2 z2 hj' => by
              obtain ⟨p', hp'⟩ := T.op hz (j := j') (by simpa using hj')
              have e := dist T.dist hp' hj (T.al hp' (by simpa using hj')).1 hp
              subst e
              rw [show is.toArray[j']? = is[j']? from by simp, hj'] at hkj
              cases hkj)]
            rcases Nat.lt_or_ge t a.tmps.size with hts | hts
            · exact (I.new j p v t hj (hall j hjl) hkj hp hts).trans (hat.new j p v t (by simpa using hjl) hj hkj hp hts).symm
            · rw [Array.getElem?_eq_none (by omega), Array.getElem?_eq_none (by rw [hat.size]; omega)]
        · rw [putAl_ne β t is 0 aR (fun j' T2 z2 hj' => by
            obtain ⟨p', hp'⟩ := T.op hz (j := j') (by simpa using hj')
            exact hex ⟨j', p', hp', (T.al hp' (by simpa using hj')).1⟩)]
          exact (I.old t (fun j p hj _ hp => hex ⟨j, p, hj, hp⟩)).trans (hat.old t (fun j p v _ hj _ hp => hex ⟨j, p, hj, hp⟩)).symm
      rw [ht, hd]
    rw [hfin]
    exact hQ β w' hM
  · have hf : ∀ j, (Array.replicate l.toArray.size false).getD j false = false := fun j => by
      simp only [Array.getD_eq_getD_getElem?, Array.getElem?_replicate]
      split <;> rfl
    refine ⟨by simp, fun j o _ h => ?_, ?_, rfl, rfl, fun j o v d _ h => ?_, fun j d T z h => ?_, fun _ _ => rfl, fun j d T z h => ?_, fun s j cs d T z h => ?_, fun j d T z h => ?_, fun j d T z h => ?_, fun i j d T z d' T' z' h => ?_⟩
    · rw [hf] at h; cases h
    · exact (Below.refl w.heap.size w).drew
    all_goals (rw [hf] at h; cases h)
  · exact Nat.le_trans (List.length_filter_le _ _) (by simp)
end
end Kit
end Go.Proofs.YtoafljgcmloilaaDoor
