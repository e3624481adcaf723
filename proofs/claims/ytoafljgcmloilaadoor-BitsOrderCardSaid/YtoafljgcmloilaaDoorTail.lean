/- A drawn region whose operations read old cells and call functions that only make new memory, and of which some few, in a forced order behind all of these, write: one walk in the order of the text, then the writing ones one by one. -/
import Derived.Test.YtoafljgcmloilaaDoorFreshU
namespace Go.Proofs.YtoafljgcmloilaaDoor
open Go.RowKit
namespace Kit
namespace Tail
/-- r: reads or calls; p: yields the same in every world; t: one of the last ones. -/
inductive Inf where
  | r (v : Value) | p (v : Value) | t
def Inf.val : Inf → Option Value
  | .r v => some v
  | .p v => some v
  | .t => none
def isT : Inf → Bool
  | .t => true
  | _ => false
def isR : Inf → Bool
  | .r _ => true
  | _ => false
/-- The operations that one waits for are marked. -/
def markE (l : List Edge) (m : Array Bool) : Array Bool := l.foldl (fun m e => if Region.binds .any e then m.setIfInBounds e.on true else m) m
def closGo (ops : Array Oper) : Nat → Array Bool → Array Bool
  | 0, m => m
  | i + 1, m => closGo ops i (if m.getD i false then (match ops[i]? with | some o => markE o.after.toList m | none => m) else m)
/-- What operation t waits for, over any number of steps. -/
def clos (ops : Array Oper) (t : Nat) : Array Bool := closGo ops t (match ops[t]? with | some o => markE o.after.toList (Array.replicate ops.size false) | none => Array.replicate ops.size false)
def chkPairT (is : Array Inf) (i : Nat) (o : Oper) (j : Nat) (p : Oper) : Bool :=
  match p.dst with
  | none => true
  | some d => !(slotsOf o).contains d || (match is[j]? with
    | some .t => (match is[i]? with | some .t => true | _ => decide (i < j) && edgeB p i)
    | _ => (decide (j < i) && edgeB o j) || (decide (i < j) && edgeB p i && (match is[i]? with | some .t => false | _ => true)))
def chkOpT (ops : Array Oper) (is : Array Inf) (i : Nat) (o : Oper) : Bool :=
  o.guard.isNone && (match o.op with | .select _ _ => false | _ => true) && (o.after.all fun e => !Region.binds .any e || decide (e.on < i)) &&
  (List.range ops.size).all fun j => match ops[j]? with | some p => chkPairT is i o j p | none => true
/-- The last ones are in a forced order, and the first of them waits for all that read. -/
def chkChain (ops : Array Oper) (is : Array Inf) (T : List Nat) : Bool :=
  (match T with
    | [] => true
    | t :: _ => let m := clos ops t; (List.range ops.size).all fun i => match is[i]? with | some k => !isR k || m.getD i false | none => true) &&
  (List.range T.length).all fun k => let m := clos ops (T.getD k 0); (List.range k).all fun k' => decide (T.getD k' 0 < T.getD k 0) && m.getD (T.getD k' 0) false
def chkT (ops : Array Oper) (is : Array Inf) (T : List Nat) : Bool :=
  chkChain ops is T && (List.range ops.size).all fun i => match ops[i]? with | some o => chkOpT ops is i o | none => true
/-- The value, and the world as it was. -/
def pure2 (w' : World) (v : Value) : Result Next → Prop
  | .ok (.value u) w2 => w2 = w' ∧ u = v
  | .ok .skip w2 => w2 = w' ∧ v = undef
  | _ => False
theorem pure_quiet {P : Program} {w' : World} {v : Value} {r : Result Next} (h : pure2 w' v r) : quiet2 P w' v r ∧ ∀ (g : FuncId) (args : Array Value) (w2 : World), r = .ok (.enter g args) w2 → False := by
  cases r with
  | ok n w2 => cases n <;> simp only [pure2] at h <;> exact ⟨h, fun g args w3 e => by cases e⟩
  | halt x w2 => simp only [pure2] at h
theorem pv_value {w' : World} {v : Value} : pure2 w' v (.ok (.value v) w') := ⟨rfl, rfl⟩
theorem pv_skip {w' : World} : pure2 w' undef (.ok .skip w') := ⟨rfl, rfl⟩
def valAt (is : Array Inf) (j : Nat) : Option Value := (is[j]?).bind Inf.val
section
variable (P : Program) (w : World)
/-- What is asked of one operation, its kind being told, at a frame. -/
def okOp (o : Oper) (a : Act) : Inf → Prop
  | .r v => ∀ w', (∀ b o, b < w.heap.size → w'.cell? ⟨b, o, none⟩ = w.cell? ⟨b, o, none⟩) → Cls w w' → quiet2 P w' v ((execOp a.eval o).run P w')
  | .p v => (∀ w', quiet2 P w' v ((execOp a.eval o).run P w')) ∧ ∀ w' (g : FuncId) (args : Array Value) (w2 : World), (execOp a.eval o).run P w' = .ok (.enter g args) w2 → False
  | .t => True
/-- The walk in the order of the text. -/
inductive Gq (K : List Inf → List Nat → List Oper → Act → Prop) : List Oper → Act → List Inf → List Nat → List Oper → Prop
  | nil {a : Act} {acc : List Inf} {T : List Nat} {TO : List Oper} (h : K acc.reverse T.reverse TO.reverse a) : Gq K [] a acc T TO
  | r {o : Oper} {rest : List Oper} {a : Act} {acc : List Inf} {T : List Nat} {TO : List Oper}
      (v : Value) (h : ∀ w', (∀ b o, b < w.heap.size → w'.cell? ⟨b, o, none⟩ = w.cell? ⟨b, o, none⟩) → Cls w w' → quiet2 P w' v ((execOp a.eval o).run P w')) (hr : Gq K rest (a.put o.dst v) (.r v :: acc) T TO) : Gq K (o :: rest) a acc T TO
  | p {o : Oper} {rest : List Oper} {a : Act} {acc : List Inf} {T : List Nat} {TO : List Oper}
      (v : Value) (h : ∀ w', pure2 w' v ((execOp a.eval o).run P w')) (hr : Gq K rest (a.put o.dst v) (.p v :: acc) T TO) : Gq K (o :: rest) a acc T TO
  | t {o : Oper} {rest : List Oper} {a : Act} {acc : List Inf} {T : List Nat} {TO : List Oper}
      (hr : Gq K rest a (.t :: acc) (acc.length :: T) (o :: TO)) : Gq K (o :: rest) a acc T TO
end
section
variable {P : Program} {ops : Array Oper} {w : World} {a0 : Act}
/-- The frame of the text's order ahead of operation i: what has been yielded. -/
structure At (ops : Array Oper) (is : Array Inf) (a0 : Act) (i : Nat) (f : Act) : Prop where
  size : f.tmps.size = a0.tmps.size
  defers : f.defers = a0.defers
  old : ∀ d, (∀ j o v, j < i → ops[j]? = some o → valAt is j = some v → o.dst ≠ some d) → f.tmps[d]? = a0.tmps[d]?
  new : ∀ j o v d, j < i → ops[j]? = some o → valAt is j = some v → o.dst = some d → d < a0.tmps.size → f.tmps[d]? = some v
/-- The last operations, by their numbers and as they are. -/
structure Tails (ops : Array Oper) (is : Array Inf) (n : Nat) (T : List Nat) (TO : List Oper) : Prop where
  len : TO.length = T.length
  at' : ∀ (k i : Nat), T[k]? = some i → i < n ∧ is[i]? = some .t ∧ ops[i]? = TO[k]?
  all : ∀ i, i < n → is[i]? = some .t → ∃ k : Nat, T[k]? = some i
theorem gq_spec {K : List Inf → List Nat → List Oper → Act → Prop} (hD : distB ops = true) : ∀ (l : List Oper) (a : Act) (acc : List Inf) (T : List Nat) (TO : List Oper), Gq P w K l a acc T TO → (∀ j, l[j]? = ops[acc.length + j]?) →
    At ops acc.reverse.toArray a0 acc.length a → Tails ops acc.reverse.toArray acc.length T.reverse TO.reverse →
    ∃ (is : List Inf) (T' : List Nat) (TO' : List Oper) (aR : Act), acc.reverse <+: is ∧ is.length = acc.length + l.length ∧ K is T' TO' aR ∧ At ops is.toArray a0 (acc.length + l.length) aR ∧ Tails ops is.toArray (acc.length + l.length) T' TO' ∧
      ∀ i o, acc.length ≤ i → i < acc.length + l.length → ops[i]? = some o → ∃ (k : Inf) (f : Act), is[i]? = some k ∧ At ops is.toArray a0 i f ∧ okOp P w o f k := by
  intro l
  induction l with
  | nil =>
    intro a acc T TO h _ hat ht
    cases h with
    | nil h => exact ⟨acc.reverse, T.reverse, TO.reverse, a, List.prefix_refl _, by simp, h, by simpa using hat, by simpa using ht, fun i o h1 h2 => by simp at h2; omega⟩
  | cons o l ih =>
    intro a acc T TO h hl hat ht
    have h0 : ops[acc.length]? = some o := by simpa using (hl 0).symm
    have vget : ∀ (k : Inf) j, j < acc.length → valAt (k :: acc).reverse.toArray j = valAt acc.reverse.toArray j := fun k j hj => by
      unfold valAt
      simp only [List.reverse_cons, List.getElem?_toArray]
      rw [List.getElem?_append_left (by simpa using hj)]
    have vnew : ∀ k : Inf, (k :: acc).reverse.toArray[acc.length]? = some k := fun k => by simp
    have iget : ∀ (k : Inf) j, j < acc.length → (k :: acc).reverse.toArray[j]? = acc.reverse.toArray[j]? := fun k j hj => by
      simp only [List.reverse_cons, List.getElem?_toArray]
      rw [List.getElem?_append_left (by simpa using hj)]
    have key : ∀ (k : Inf) (a' : Act) (T1 : List Nat) (TO1 : List Oper), Gq P w K l a' (k :: acc) T1 TO1 → At ops (k :: acc).reverse.toArray a0 (acc.length + 1) a' → Tails ops (k :: acc).reverse.toArray (acc.length + 1) T1.reverse TO1.reverse → okOp P w o a k →
        ∃ (is : List Inf) (T' : List Nat) (TO' : List Oper) (aR : Act), acc.reverse <+: is ∧ is.length = acc.length + (o :: l).length ∧ K is T' TO' aR ∧ At ops is.toArray a0 (acc.length + (o :: l).length) aR ∧ Tails ops is.toArray (acc.length + (o :: l).length) T' TO' ∧
      ∀ i o', acc.length ≤ i → i < acc.length + (o :: l).length → ops[i]? = some o' → ∃ (k : Inf) (f : Act), is[i]? = some k ∧ At ops is.toArray a0 i f ∧ okOp P w o' f k := by
      intro k a' T1 TO1 hq hat' ht' hok
      obtain ⟨is, T', TO', aR, h1, h2, h3, h4, h5, h6⟩ := ih a' (k :: acc) T1 TO1 hq (fun j => by have := hl (j + 1); simpa [Nat.add_assoc, Nat.add_comm 1 j] using this) (by simpa using hat') (by simpa using ht')
      have hpre : acc.reverse <+: is := List.IsPrefix.trans (by simp) h1
      have hget : ∀ j, j < acc.length → is.toArray[j]? = acc.reverse.toArray[j]? := fun j hj => by
        obtain ⟨t, ht⟩ := hpre
        simp only [List.getElem?_toArray]
        rw [← ht, List.getElem?_append_left (by simpa using hj)]
      have e : acc.length + (o :: l).length = (k :: acc).length + l.length := by simp; omega
      refine ⟨is, T', TO', aR, hpre, by rw [h2, e], h3, by rw [e]; exact h4, by rw [e]; exact h5, fun i o' hi1 hi2 hio => ?_⟩
      rcases Nat.lt_or_ge acc.length i with hlt | hge
      · exact h6 i o' (by simp only [List.length_cons]; omega) (by simp at hi2 ⊢; omega) hio
      · have he : i = acc.length := by omega
        subst he
        have : o' = o := by rw [h0] at hio; exact (Option.some.inj hio).symm
        subst this
        have hv : ∀ j, j < acc.length → valAt is.toArray j = valAt acc.reverse.toArray j := fun j hj => by unfold valAt; rw [hget j hj]
        refine ⟨k, a, ?_, ⟨hat.size, hat.defers, fun d hd => hat.old d fun j o v hj hjo hjv => hd j o v hj hjo (by rw [hv j hj]; exact hjv), fun j o v d hj hjo hjv => hat.new j o v d hj hjo (by rw [← hv j hj]; exact hjv)⟩, hok⟩
        obtain ⟨t, ht⟩ := h1
        rw [← ht, List.getElem?_append_left (by simp)]
        simp
    have grow : ∀ (k : Inf) (a' : Act), a'.tmps.size = a.tmps.size → a'.defers = a.defers →
        (∀ d, (∀ v, k.val = some v → o.dst ≠ some d) → a'.tmps[d]? = a.tmps[d]?) → (∀ v d, k.val = some v → o.dst = some d → d < a.tmps.size → a'.tmps[d]? = some v) →
        At ops (k :: acc).reverse.toArray a0 (acc.length + 1) a' := by
      intro k a' h1 h2 h3 h4
      have hgk : valAt (k :: acc).reverse.toArray acc.length = k.val := by unfold valAt; rw [vnew]; rfl
      refine ⟨h1.trans hat.size, h2.trans hat.defers, fun d hd => ?_, fun j p u d hj hjp hju hpd hds => ?_⟩
      · rw [h3 d (fun v hv => hd acc.length o v (by omega) h0 (by rw [hgk, hv]))]
        exact hat.old d fun j p u hj hjp hju => hd j p u (by omega) hjp (by rw [vget k j hj]; exact hju)
      · rcases Nat.lt_or_ge j acc.length with hlt | hge
        · rw [vget k j hlt] at hju
          have hold := hat.new j p u d hlt hjp hju hpd hds
          rw [h3 d (fun v hv hod => by have := dist hD hjp h0 hpd hod; omega)]
          exact hold
        · have he : j = acc.length := by omega
          subst he
          rw [hgk] at hju
          have hpo : p = o := by rw [h0] at hjp; exact (Option.some.inj hjp).symm
          subst hpo
          exact h4 u d hju hpd (by rw [hat.size]; exact hds)
    have tsame : ∀ k : Inf, k ≠ .t → Tails ops (k :: acc).reverse.toArray (acc.length + 1) T.reverse TO.reverse := fun k hk => by
      refine ⟨ht.len, fun m i hm => ?_, fun i hi hit => ?_⟩
      · obtain ⟨h1, h2, h3⟩ := ht.at' m i hm
        exact ⟨by omega, by rw [iget k i h1]; exact h2, h3⟩
      · rcases Nat.lt_or_ge i acc.length with hlt | hge
        · exact ht.all i hlt (by rw [← iget k i hlt]; exact hit)
        · have : i = acc.length := by omega
          subst this
          rw [vnew] at hit
          exact absurd (Option.some.inj hit) hk
    cases h with
    | r v h hr =>
      refine key (.r v) _ _ _ hr (grow (.r v) _ (put_size _ _ _) (put_defers _ _ _) (fun d hd => put_ne _ _ _ _ (hd v rfl)) (fun u d hu hd hs => ?_)) (tsame _ (fun e => by cases e)) h
      obtain rfl : v = u := Option.some.inj hu
      rw [hd]
      exact put_eq _ _ _ hs
    | p v h hr =>
      refine key (.p v) _ _ _ hr (grow (.p v) _ (put_size _ _ _) (put_defers _ _ _) (fun d hd => put_ne _ _ _ _ (hd v rfl)) (fun u d hu hd hs => ?_)) (tsame _ (fun e => by cases e)) ⟨fun w' => (pure_quiet (h w')).1, fun w' => (pure_quiet (P := P) (h w')).2⟩
      obtain rfl : v = u := Option.some.inj hu
      rw [hd]
      exact put_eq _ _ _ hs
    | t hr =>
      refine key .t _ _ _ hr (grow .t _ rfl rfl (fun _ _ => rfl) (fun u d hu => by cases hu)) ⟨by simp [List.length_reverse] at ht ⊢; have := ht.len; simpa using this, fun m i hm => ?_, fun i hi hit => ?_⟩ trivial
      · have hlen : TO.length = T.length := by have := ht.len; simpa using this
        simp only [List.reverse_cons] at hm ⊢
        rcases Nat.lt_or_ge m T.reverse.length with hlt | hge
        · rw [List.getElem?_append_left hlt] at hm
          obtain ⟨h1, h2, h3⟩ := ht.at' m i hm
          have h4 := iget .t i h1
          rw [List.reverse_cons] at h4
          refine ⟨by omega, by rw [h4]; exact h2, ?_⟩
          rw [List.getElem?_append_left (by simpa [hlen] using hlt)]
          exact h3
        · rw [List.getElem?_append_right hge] at hm
          have hm0 : m - T.reverse.length = 0 := by
            rcases Nat.eq_zero_or_pos (m - T.reverse.length) with h | h
            · exact h
            · rw [List.getElem?_eq_none (by simp at h ⊢; omega)] at hm; cases hm
          rw [hm0] at hm
          obtain rfl : acc.length = i := by simpa using hm
          have h4 := vnew .t
          rw [List.reverse_cons] at h4
          refine ⟨by omega, h4, ?_⟩
          rw [List.getElem?_append_right (by simp [hlen] at hge ⊢; exact hge), show m - TO.reverse.length = 0 from by simp [hlen] at hm0 ⊢; exact hm0]
          simpa using h0
      · rcases Nat.lt_or_ge i acc.length with hlt | hge
        · obtain ⟨k, hk⟩ := ht.all i hlt (by rw [← iget .t i hlt]; exact hit)
          refine ⟨k, ?_⟩
          rw [List.reverse_cons, List.getElem?_append_left (List.getElem?_eq_some_iff.1 hk).1]
          exact hk
        · have : i = acc.length := by omega
          subst this
          exact ⟨T.reverse.length, by rw [List.reverse_cons, List.getElem?_append_right (Nat.le_refl _)]; simp⟩
/-- What the walk in the order of the text has shown. -/
structure Told (P : Program) (ops : Array Oper) (is : Array Inf) (T : List Nat) (TO : List Oper) (a0 : Act) (w : World) (aR : Act) : Prop where
  dist : distB ops = true
  chk : chkT ops is T = true
  each : ∀ i o, ops[i]? = some o → ∃ (k : Inf) (f : Act), is[i]? = some k ∧ At ops is a0 i f ∧ okOp P w o f k
  fin : At ops is a0 ops.size aR
  tails : Tails ops is ops.size T TO
theorem t_op {is : Array Inf} {T : List Nat} (h : chkT ops is T = true) {i : Nat} {o : Oper} (hi : ops[i]? = some o) : chkOpT ops is i o = true := by
  have hlt : i < ops.size := (Array.getElem?_eq_some_iff.1 hi).1
  unfold chkT at h
  rw [Bool.and_eq_true, List.all_eq_true] at h
  have h1 := h.2 i (List.mem_range.2 hlt)
  simpa only [hi] using h1
theorem t_parts {is : Array Inf} {i : Nat} {o : Oper} (h : chkOpT ops is i o = true) : o.guard = none ∧ (∀ e ∈ o.after, Region.binds .any e = true → e.on < i) ∧ (∀ cs b, o.op ≠ .select cs b) ∧ ∀ j p, ops[j]? = some p → chkPairT is i o j p = true := by
  unfold chkOpT at h
  simp only [Bool.and_eq_true, List.all_eq_true] at h
  obtain ⟨⟨⟨h1, h4⟩, h2⟩, h3⟩ := h
  refine ⟨by simpa using h1, fun e he hb => ?_, (fun cs b e => by rw [e] at h4; cases h4), fun j p hj => ?_⟩
  · rw [Array.all_eq_true_iff_forall_mem] at h2
    have := h2 e he
    rw [hb] at this
    simpa using this
  · have := h3 j (List.mem_range.2 (Array.getElem?_eq_some_iff.1 hj).1)
    simpa only [hj] using this
theorem t_slot {is : Array Inf} {i j : Nat} {o p : Oper} {d : Tmp} (h : chkPairT is i o j p = true) (hd : d ∈ slotsOf o) (hp : p.dst = some d) :
    (is[j]? = some .t ∧ (is[i]? = some .t ∨ (i < j ∧ edgeB p i = true))) ∨ (is[j]? ≠ some .t ∧ ((j < i ∧ edgeB o j = true) ∨ (i < j ∧ edgeB p i = true ∧ is[i]? ≠ some .t))) := by
  unfold chkPairT at h
  rw [hp] at h
  have hc : (slotsOf o).contains d = true := List.contains_iff_mem.2 hd
  simp only [hc, Bool.not_true, Bool.false_or] at h
  split at h
  · rename_i hj
    split at h
    · rename_i hi; exact Or.inl ⟨hj, Or.inl hi⟩
    · simp only [Bool.and_eq_true, decide_eq_true_eq] at h
      exact Or.inl ⟨hj, Or.inr h⟩
  · rename_i hj
    refine Or.inr ⟨hj, ?_⟩
    simp only [Bool.or_eq_true, Bool.and_eq_true, decide_eq_true_eq] at h
    rcases h with h | ⟨⟨h1, h2⟩, h3⟩
    · exact Or.inl h
    · refine Or.inr ⟨h1, h2, fun hi => ?_⟩
      rw [hi] at h3
      cases h3
theorem mark_le {L : Array Bool} : ∀ (l : List Edge) (m : Array Bool), (∀ j, m.getD j false = true → L.getD j false = true) → (∀ e ∈ l, Region.binds .any e = true → L.getD e.on false = true) → ∀ j, (markE l m).getD j false = true → L.getD j false = true
  | [], _, hm, _, j, h => hm j h
  | e :: l, m, hm, he, j, h => by
    unfold markE at h
    rw [List.foldl_cons] at h
    refine mark_le l _ (fun j' h' => ?_) (fun e' h1 h2 => he e' (List.mem_cons_of_mem _ h1) h2) j h
    split at h'
    · rename_i hb
      rcases getD_set_cases h' with rfl | h''
      · exact he e (List.mem_cons_self ..) hb
      · exact hm j' h''
    · exact hm j' h'
theorem clos_le {L : Array Bool} (hc : ∀ j o, ops[j]? = some o → L.getD j false = true → ∀ e ∈ o.after, Region.binds .any e = true → L.getD e.on false = true) : ∀ (n : Nat) (m : Array Bool), (∀ j, m.getD j false = true → L.getD j false = true) → ∀ j, (closGo ops n m).getD j false = true → L.getD j false = true
  | 0, _, hm, j, h => hm j h
  | n + 1, m, hm, j, h => by
    refine clos_le hc n _ (fun j' h' => ?_) j h
    split at h'
    · rename_i hn
      split at h'
      · rename_i o ho
        exact mark_le _ _ hm (fun e he hb => hc n o ho (hm n hn) e (by simpa using he) hb) j' h'
      · exact hm j' h'
    · exact hm j' h'
theorem clos_listed {L : Array Bool} (hc : ∀ j o, ops[j]? = some o → L.getD j false = true → ∀ e ∈ o.after, Region.binds .any e = true → L.getD e.on false = true) {t : Nat} {o : Oper} (ho : ops[t]? = some o) (hd : ∀ e ∈ o.after, Region.binds .any e = true → L.getD e.on false = true) {j : Nat} (h : (clos ops t).getD j false = true) : L.getD j false = true := by
  unfold clos at h
  rw [ho] at h
  have h0 : ∀ j, (Array.replicate ops.size false).getD j false = true → L.getD j false = true := fun j hj => by
    simp only [Array.getD_eq_getD_getElem?, Array.getElem?_replicate] at hj
    split at hj <;> cases hj
  exact clos_le hc t _ (mark_le _ _ h0 (fun e he hb => hd e (by simpa using he) hb)) j h
theorem ch_first {is : Array Inf} {t : Nat} {T : List Nat} (h : chkT ops is (t :: T) = true) {i : Nat} {v : Value} (hi : i < ops.size) (hk : is[i]? = some (.r v)) : (clos ops t).getD i false = true := by
  unfold chkT chkChain at h
  simp only [Bool.and_eq_true, List.all_eq_true] at h
  have := h.1.1 i (List.mem_range.2 hi)
  rw [hk] at this
  simpa [isR] using this
theorem ch_next {is : Array Inf} {T : List Nat} (h : chkT ops is T = true) {k k' i i' : Nat} (hk : T[k]? = some i) (hk' : T[k']? = some i') (hlt : k' < k) : i' < i ∧ (clos ops i).getD i' false = true := by
  unfold chkT chkChain at h
  simp only [Bool.and_eq_true, List.all_eq_true] at h
  have h1 : T.getD k 0 = i := by rw [List.getD_eq_getElem?_getD, hk]; rfl
  have h2 : T.getD k' 0 = i' := by rw [List.getD_eq_getElem?_getD, hk']; rfl
  have := h.1.2 k (List.mem_range.2 (List.getElem?_eq_some_iff.1 hk).1) k' (List.mem_range.2 hlt)
  rw [h1, h2] at this
  simpa using this
/-- What holds while some operations have been carried out, m of the last ones among them. -/
structure Inv (P : Program) (ops : Array Oper) (is : Array Inf) (T : List Nat) (TO : List Oper) (a0 : Act) (w : World) (aR : Act) (Q : Exit → Act → World → Prop) (L : Array Bool) (a : Act) (w' : World) (m : Nat) : Prop where
  lsize : L.size = ops.size
  closed : ∀ j o, ops[j]? = some o → L.getD j false = true → ∀ e ∈ o.after, Region.binds .any e = true → L.getD e.on false = true
  size : a.tmps.size = a0.tmps.size
  new : ∀ j o v d, ops[j]? = some o → L.getD j false = true → valAt is j = some v → o.dst = some d → d < a0.tmps.size → a.tmps[d]? = some v
  old : ∀ d, (∀ j o, ops[j]? = some o → L.getD j false = true → o.dst ≠ some d) → a.tmps[d]? = a0.tmps[d]?
  done : ∀ (k i : Nat), T[k]? = some i → (L.getD i false = true ↔ k < m)
  first : m = 0 → Below w.heap.size w w' ∧ a.defers = a0.defers
  later : 0 < m → (∀ i v, i < ops.size → is[i]? = some (.r v) → L.getD i false = true) ∧ ∃ aS, aS.defers = a.defers ∧ aS.tmps.size = a0.tmps.size ∧
    (∀ d, (∃ (k i : Nat) (o : Oper), k < m ∧ T[k]? = some i ∧ ops[i]? = some o ∧ o.dst = some d) → aS.tmps[d]? = a.tmps[d]?) ∧
    (∀ d, (∀ (k i : Nat) (o : Oper), k < m → T[k]? = some i → ops[i]? = some o → o.dst ≠ some d) → aS.tmps[d]? = aR.tmps[d]?) ∧ wpList P TO.toArray Q (TO.drop m) aS w'
theorem Told.tdst {is : Array Inf} {T : List Nat} {TO : List Oper} {aR : Act} (h : Told P ops is T TO a0 w aR) {i : Nat} {o : Oper} (hi : ops[i]? = some o) (ht : is[i]? ≠ some .t) : ∃ v, valAt is i = some v := by
  obtain ⟨k, f, h1, -, -⟩ := h.each i o hi
  unfold valAt
  rw [h1]
  cases k with
  | r v => exact ⟨v, rfl⟩
  | p v => exact ⟨v, rfl⟩
  | t => exact absurd h1 ht
theorem val_not {is : Array Inf} {i : Nat} {v : Value} (h : valAt is i = some v) : is[i]? ≠ some .t := fun e => by
  unfold valAt at h; rw [e] at h; cases h
variable {Q : Exit → Act → World → Prop}
/-- A slot that operation i, none of the last, reads holds what it holds in the order of the text. -/
theorem agree {is : Array Inf} {T : List Nat} {TO : List Oper} {aR : Act} (H : Told P ops is T TO a0 w aR) {L : Array Bool} {a : Act} {w' : World} {m : Nat} (I : Inv P ops is T TO a0 w aR Q L a w' m) {i : Nat} {o : Oper} {f : Act} (hi : ops[i]? = some o) (hf : At ops is a0 i f)
    (hL : L.getD i false = false) (hdep : ∀ e ∈ o.after, Region.binds .any e = true → L.getD e.on false = true) (hnt : is[i]? ≠ some .t) {t : Tmp} (ht : t ∈ slotsOf o) : a.tmps[t]? = f.tmps[t]? := by
  by_cases hex : ∃ (j : Nat) (p : Oper), ops[j]? = some p ∧ p.dst = some t
  · obtain ⟨j, p, hj, hp⟩ := hex
    rcases t_slot ((t_parts (t_op H.chk hi)).2.2.2 j p hj) ht hp with ⟨-, h2 | ⟨hlt, he⟩⟩ | ⟨hjt, h2⟩
    · exact absurd h2 hnt
    · obtain ⟨e, he1, he2, he3⟩ := edge_mem he
      rw [I.old t (fun j' p' hj' hL' hp' => by
        have e1 := dist H.dist hj' hj hp' hp
        subst e1
        have := I.closed j' p' hj' hL'
        rw [hj] at hj'
        obtain rfl := Option.some.inj hj'
        have := this e he1 he2
        rw [he3, hL] at this
        cases this), hf.old t (fun j' p' v hlt' hj' _ hp' => by
        have e1 := dist H.dist hj' hj hp' hp
        omega)]
    · obtain ⟨u, hu⟩ := H.tdst hj hjt
      rcases Nat.lt_or_ge t a0.tmps.size with hts | hts
      · rcases h2 with ⟨hlt, he⟩ | ⟨hlt, he, -⟩
        · obtain ⟨e, he1, he2, he3⟩ := edge_mem he
          have hLj := hdep e he1 he2
          rw [he3] at hLj
          rw [I.new j p u t hj hLj hu hp hts, hf.new j p u t hlt hj hu hp hts]
        · obtain ⟨e, he1, he2, he3⟩ := edge_mem he
          rw [I.old t (fun j' p' hj' hL' hp' => by
            have e1 := dist H.dist hj' hj hp' hp
            subst e1
            have := I.closed j' p' hj' hL'
            rw [hj] at hj'
            obtain rfl := Option.some.inj hj'
            have := this e he1 he2
            rw [he3, hL] at this
            cases this), hf.old t (fun j' p' v hlt' hj' _ hp' => by
            have e1 := dist H.dist hj' hj hp' hp
            omega)]
      · rw [Array.getElem?_eq_none (by rw [I.size]; omega), Array.getElem?_eq_none (by rw [hf.size]; omega)]
  · rw [I.old t (fun j p hj _ hp => hex ⟨j, p, hj, hp⟩), hf.old t (fun j p v _ hj _ hp => hex ⟨j, p, hj, hp⟩)]
theorem closed_set {L : Array Bool} (hc : ∀ j o, ops[j]? = some o → L.getD j false = true → ∀ e ∈ o.after, Region.binds .any e = true → L.getD e.on false = true) {i : Nat} {o : Oper} (hi : ops[i]? = some o) (hdep : ∀ e ∈ o.after, Region.binds .any e = true → L.getD e.on false = true) :
    ∀ j o', ops[j]? = some o' → (L.setIfInBounds i true).getD j false = true → ∀ e ∈ o'.after, Region.binds .any e = true → (L.setIfInBounds i true).getD e.on false = true := by
  intro j o' hj hL e he hb
  have up : ∀ m, L.getD m false = true → (L.setIfInBounds i true).getD m false = true := fun m hm => by
    by_cases him : i = m
    · subst him; exact getD_set_same (by
        rcases Nat.lt_or_ge i L.size with h | h
        · exact h
        · simp [Array.getElem?_eq_none h] at hm)
    · rw [getD_set_ne false him]; exact hm
  rcases getD_set_cases hL with rfl | h
  · rw [hi] at hj
    obtain rfl := Option.some.inj hj
    exact up _ (hdep e he hb)
  · exact up _ (hc j o' hj h e he hb)
/-- An operation that yields a value, none of the last. -/
theorem inv_val {is : Array Inf} {T : List Nat} {TO : List Oper} {aR : Act} (H : Told P ops is T TO a0 w aR) {L : Array Bool} {a : Act} {w' w2 : World} {m : Nat} (I : Inv P ops is T TO a0 w aR Q L a w' m) {i : Nat} {o : Oper} {v : Value} (hi : ops[i]? = some o) (hk : valAt is i = some v)
    (_hL : L.getD i false = false) (hdep : ∀ e ∈ o.after, Region.binds .any e = true → L.getD e.on false = true) (hw : (m = 0 ∧ Below w'.heap.size w' w2) ∨ w2 = w') : Inv P ops is T TO a0 w aR Q (L.setIfInBounds i true) (a.put o.dst v) w2 m := by
  have hil : i < L.size := by rw [I.lsize]; exact (Array.getElem?_eq_some_iff.1 hi).1
  refine ⟨by simp [I.lsize], closed_set I.closed hi hdep, by rw [put_size]; exact I.size, ?_, ?_, ?_, ?_, ?_⟩
  · intro j p u d hj hLj hju hp hd
    by_cases hji : j = i
    · subst hji
      rw [hi] at hj; obtain rfl := Option.some.inj hj
      rw [hk] at hju; obtain rfl := Option.some.inj hju
      rw [hp]; exact put_eq _ _ _ (by rw [I.size]; exact hd)
    · rw [put_ne _ _ _ _ (fun ho => hji (dist H.dist hj hi hp ho))]
      exact I.new j p u d hj ((getD_set_cases hLj).resolve_left hji) hju hp hd
  · intro d hd
    rw [put_ne _ _ _ _ (hd i o hi (getD_set_same hil))]
    refine I.old d fun j p hj hLj => hd j p hj ?_
    by_cases hij : i = j
    · subst hij; exact getD_set_same hil
    · rw [getD_set_ne false hij]; exact hLj
  · intro k i' hk'
    have hne : i ≠ i' := fun e => by subst e; exact val_not hk (H.tails.at' k i hk').2.1
    rw [getD_set_ne false hne]
    exact I.done k i' hk'
  · intro h0
    obtain ⟨h1, h2⟩ := I.first h0
    refine ⟨?_, by rw [put_defers]; exact h2⟩
    rcases hw with ⟨-, hb⟩ | rfl
    · exact b_next h1 hb
    · exact h1
  · intro h0
    obtain ⟨h1, aS, h2, h3, h4, h5, h6⟩ := I.later h0
    have hw2 : w2 = w' := hw.resolve_left (fun h => by omega)
    subst hw2
    refine ⟨fun i' v' hi' hk' => ?_, aS, by rw [put_defers]; exact h2, h3, fun d hd => ?_, h5, h6⟩
    · by_cases hii : i = i'
      · subst hii; exact getD_set_same hil
      · rw [getD_set_ne false hii]; exact h1 i' v' hi' hk'
    · rw [put_ne _ _ _ _ (fun ho => ?_)]
      · exact h4 d hd
      · obtain ⟨k, i', o', -, hk', hi', hd'⟩ := hd
        have := dist H.dist hi' hi hd' ho
        subst this
        exact val_not hk (H.tails.at' k _ hk').2.1
/-- A slot that one of the last operations reads holds what it holds in the walk of these. -/
theorem agree_t {is : Array Inf} {T : List Nat} {TO : List Oper} {aR : Act} (H : Told P ops is T TO a0 w aR) {L : Array Bool} {a : Act} {w' : World} {m : Nat} (I : Inv P ops is T TO a0 w aR Q L a w' m) {i : Nat} {o : Oper} {aS : Act} (hi : ops[i]? = some o) (hm : T[m]? = some i)
    (hdep : ∀ e ∈ o.after, Region.binds .any e = true → L.getD e.on false = true) (_hs : aS.tmps.size = a0.tmps.size)
    (h4 : ∀ d, (∃ (k i : Nat) (o : Oper), k < m ∧ T[k]? = some i ∧ ops[i]? = some o ∧ o.dst = some d) → aS.tmps[d]? = a.tmps[d]?)
    (h5 : ∀ d, (∀ (k i : Nat) (o : Oper), k < m → T[k]? = some i → ops[i]? = some o → o.dst ≠ some d) → aS.tmps[d]? = aR.tmps[d]?) {t : Tmp} (ht : t ∈ slotsOf o) : a.tmps[t]? = aS.tmps[t]? := by
  have hit := (H.tails.at' m i hm).2.1
  by_cases hex : ∃ (j : Nat) (p : Oper), ops[j]? = some p ∧ p.dst = some t
  · obtain ⟨j, p, hj, hp⟩ := hex
    rcases t_slot ((t_parts (t_op H.chk hi)).2.2.2 j p hj) ht hp with ⟨hjt, -⟩ | ⟨hjt, h2⟩
    · obtain ⟨k, hk⟩ := H.tails.all j (Array.getElem?_eq_some_iff.1 hj).1 hjt
      by_cases hkm : k < m
      · exact (h4 t ⟨k, j, p, hkm, hk, hj, hp⟩).symm
      · rw [h5 t (fun k' i' o' hk' hk2 hi' hd' => by
          have e := dist H.dist hi' hj hd' hp
          subst e
          have h1 := (I.done k' i' hk2).2 hk'
          exact hkm ((I.done k i' hk).1 h1))]
        rw [I.old t (fun j' p' hj' hL' hp' => by
          have e := dist H.dist hj' hj hp' hp
          subst e
          exact hkm ((I.done k j' hk).1 hL'))]
        exact (H.fin.old t (fun j' p' v _ hj' hv hp' => by
          have e := dist H.dist hj' hj hp' hp
          subst e
          exact val_not hv hjt)).symm
    · obtain ⟨u, hu⟩ := H.tdst hj hjt
      rw [h5 t (fun k' i' o' hk' hk2 hi' hd' => by
        have e := dist H.dist hi' hj hd' hp
        subst e
        exact hjt (H.tails.at' k' i' hk2).2.1)]
      rcases Nat.lt_or_ge t a0.tmps.size with hts | hts
      · rcases h2 with ⟨hlt, he⟩ | ⟨-, -, h3⟩
        · obtain ⟨e, he1, he2, he3⟩ := edge_mem he
          have hLj := hdep e he1 he2
          rw [he3] at hLj
          rw [I.new j p u t hj hLj hu hp hts, H.fin.new j p u t (Array.getElem?_eq_some_iff.1 hj).1 hj hu hp hts]
        · exact absurd hit h3
      · rw [Array.getElem?_eq_none (by rw [I.size]; omega), Array.getElem?_eq_none (by rw [H.fin.size]; omega)]
  · rw [h5 t (fun k' i' o' _ _ hi' hd' => hex ⟨i', o', hi', hd'⟩), I.old t (fun j p hj _ hp => hex ⟨j, p, hj, hp⟩), H.fin.old t (fun j p v _ hj _ hp => hex ⟨j, p, hj, hp⟩)]
/-- One of the last operations has been carried out. -/
theorem inv_tail {is : Array Inf} {T : List Nat} {TO : List Oper} {aR : Act} (H : Told P ops is T TO a0 w aR) {L : Array Bool} {a : Act} {w' w2 : World} {m : Nat} (I : Inv P ops is T TO a0 w aR Q L a w' m) {i : Nat} {o : Oper} {v : Value} {aS : Act} (hi : ops[i]? = some o) (hm : T[m]? = some i)
    (hdep : ∀ e ∈ o.after, Region.binds .any e = true → L.getD e.on false = true) (hr : ∀ i v, i < ops.size → is[i]? = some (.r v) → L.getD i false = true) (hs : aS.tmps.size = a0.tmps.size)
    (h4 : ∀ d, (∃ (k i : Nat) (o : Oper), k < m ∧ T[k]? = some i ∧ ops[i]? = some o ∧ o.dst = some d) → aS.tmps[d]? = a.tmps[d]?)
    (h5 : ∀ d, (∀ (k i : Nat) (o : Oper), k < m → T[k]? = some i → ops[i]? = some o → o.dst ≠ some d) → aS.tmps[d]? = aR.tmps[d]?)
    {ds ds' : List Deferred} (hds : ds = ds') (hw : wpList P TO.toArray Q (TO.drop (m + 1)) (({ aS with defers := ds } : Act).put o.dst v) w2) : Inv P ops is T TO a0 w aR Q (L.setIfInBounds i true) (({ a with defers := ds' } : Act).put o.dst v) w2 (m + 1) := by
  subst hds
  have hil : i < L.size := by rw [I.lsize]; exact (Array.getElem?_eq_some_iff.1 hi).1
  have hit := (H.tails.at' m i hm).2.1
  have pne : ∀ (d : Nat), o.dst ≠ some d → (({ a with defers := ds } : Act).put o.dst v).tmps[d]? = a.tmps[d]? := fun d hd => put_ne _ _ _ _ hd
  refine ⟨by simp [I.lsize], closed_set I.closed hi hdep, by rw [put_size]; exact I.size, ?_, ?_, ?_, fun h => by omega, fun _ => ⟨fun i' v' hi' hk' => ?_, _, ?_, ?_, ?_, ?_, hw⟩⟩
  · intro j p u d hj hLj hju hp hd
    have hji : j ≠ i := fun e => by subst e; exact val_not hju hit
    rw [pne _ (fun ho => hji (dist H.dist hj hi hp ho))]
    exact I.new j p u d hj ((getD_set_cases hLj).resolve_left hji) hju hp hd
  · intro d hd
    rw [pne _ (hd i o hi (getD_set_same hil))]
    refine I.old d fun j p hj hLj => hd j p hj ?_
    by_cases hij : i = j
    · subst hij; exact getD_set_same hil
    · rw [getD_set_ne false hij]; exact hLj
  · intro k i' hk'
    by_cases hii : i = i'
    · subst hii
      have : k = m := by
        rcases Nat.lt_trichotomy k m with h | h | h
        · have := (ch_next H.chk hm hk' h).1; omega
        · exact h
        · have := (ch_next H.chk hk' hm h).1; omega
      subst this
      exact ⟨fun _ => by omega, fun _ => getD_set_same hil⟩
    · rw [getD_set_ne false hii, I.done k i' hk']
      constructor
      · intro h; omega
      · intro h
        rcases Nat.lt_or_ge k m with h' | h'
        · exact h'
        · have : k = m := by omega
          subst this
          rw [hm] at hk'
          exact absurd (Option.some.inj hk') hii
  · by_cases hii : i = i'
    · subst hii; exact getD_set_same hil
    · rw [getD_set_ne false hii]; exact hr i' v' hi' hk'
  · rw [put_defers, put_defers]
  · rw [put_size]; exact hs
  · intro d ⟨k, i', o', hk, hki, hio, hod⟩
    by_cases hd : o.dst = some d
    · rcases Nat.lt_or_ge d a0.tmps.size with h | h
      · rw [hd, put_eq _ _ _ (by show d < aS.tmps.size; rw [hs]; exact h), put_eq _ _ _ (by show d < a.tmps.size; rw [I.size]; exact h)]
      · rw [Array.getElem?_eq_none (by rw [put_size]; show aS.tmps.size ≤ d; rw [hs]; exact h), Array.getElem?_eq_none (by rw [put_size]; show a.tmps.size ≤ d; rw [I.size]; exact h)]
    · rw [pne d hd, put_ne _ _ _ _ hd]
      refine h4 d ⟨k, i', o', ?_, hki, hio, hod⟩
      rcases Nat.lt_or_ge k m with h' | h'
      · exact h'
      · have : k = m := by omega
        subst this
        rw [hm] at hki
        obtain rfl := Option.some.inj hki
        rw [hi] at hio
        obtain rfl := Option.some.inj hio
        exact absurd hod hd
  · intro d hd
    rw [put_ne _ _ _ _ (hd m i o (by omega) hm hi)]
    exact h5 d fun k i' o' hk => hd k i' o' (by omega)
theorem drop_get {TO : List Oper} {m : Nat} {o : Oper} (h : TO[m]? = some o) : TO.drop m = o :: TO.drop (m + 1) := by
  obtain ⟨hlt, he⟩ := List.getElem?_eq_some_iff.1 h
  rw [← he]
  exact List.drop_eq_getElem_cons hlt
/-- An operation that comes up is carried out. -/
theorem inv_step {is : Array Inf} {T : List Nat} {TO : List Oper} {aR : Act} {F : Act → World → Prop} {Q : Exit → Act → World → Prop} (H : Told P ops is T TO a0 w aR) (hK : ∀ w1, Below w.heap.size w w1 → wpList P TO.toArray (Ends F) TO aR w1) {L : Array Bool} {a : Act} {w' : World} (I : ∃ m, Inv P ops is T TO a0 w aR (Ends F) L a w' m) {i : Nat} (hr : i ∈ Region.ready .any ops L) :
    wpOp P ops Q i (fun a' w2 => ∃ m', Inv P ops is T TO a0 w aR (Ends F) (L.setIfInBounds i true) a' w2 m') a w' := by
  obtain ⟨m, I⟩ := I
  obtain ⟨hL0, o, hi, hdep⟩ := mem_ready.1 hr
  have hilt : i < ops.size := (Array.getElem?_eq_some_iff.1 hi).1
  have hil : i < L.size := by rw [I.lsize]; exact hilt
  have hL : L.getD i false = false := by simpa [hil] using hL0
  obtain ⟨hg, hlow, hsel, -⟩ := t_parts (t_op H.chk hi)
  obtain ⟨k, f, hk, hf, hok⟩ := H.each i o hi
  unfold wpOp
  simp only [hi]
  rw [if_pos (by simp [Region.wanted, hg])]
  left
  unfold Oper.wp
  by_cases hkt : k = .t
  · subst hkt
    obtain ⟨k0, hk0⟩ := H.tails.all i hilt hk
    have hk0m : k0 = m := by
      have h1 : ¬ k0 < m := fun h => by have := (I.done k0 i hk0).2 h; rw [hL] at this; cases this
      rcases Nat.lt_or_ge m k0 with h | h
      · have hlt : m < T.length := by have := (List.getElem?_eq_some_iff.1 hk0).1; omega
        have hTm : T[m]? = some (T[m]'hlt) := List.getElem?_eq_getElem hlt
        have h2 := (ch_next H.chk hk0 hTm h).2
        have h3 := clos_listed I.closed hi hdep h2
        have := (I.done m _ hTm).1 h3
        omega
      · omega
    subst hk0m
    have hTO : TO[k0]? = some o := by rw [← (H.tails.at' k0 i hk0).2.2]; exact hi
    have key : ∃ aS : Act, aS.defers = a.defers ∧ aS.tmps.size = a0.tmps.size ∧ (∀ i v, i < ops.size → is[i]? = some (.r v) → L.getD i false = true) ∧
        (∀ d, (∃ (k i : Nat) (o : Oper), k < k0 ∧ T[k]? = some i ∧ ops[i]? = some o ∧ o.dst = some d) → aS.tmps[d]? = a.tmps[d]?) ∧
        (∀ d, (∀ (k i : Nat) (o : Oper), k < k0 → T[k]? = some i → ops[i]? = some o → o.dst ≠ some d) → aS.tmps[d]? = aR.tmps[d]?) ∧ wpList P TO.toArray (Ends F) (TO.drop k0) aS w' := by
      rcases Nat.eq_zero_or_pos k0 with h0 | h0
      · subst h0
        obtain ⟨h1, h2⟩ := I.first rfl
        refine ⟨aR, by rw [H.fin.defers, h2], H.fin.size, fun i' v' hi' hk' => ?_, fun d ⟨k, _, _, hk, _⟩ => absurd hk (Nat.not_lt_zero k), fun d _ => rfl, hK w' h1⟩
        cases T with
        | nil => simp at hk0
        | cons t T =>
          obtain rfl : t = i := by simpa using hk0
          exact clos_listed I.closed hi hdep (ch_first H.chk hi' hk')
      · obtain ⟨h1, aS, h2, h3, h4, h5, h6⟩ := I.later h0
        exact ⟨aS, h2, h3, h1, h4, h5, h6⟩
    obtain ⟨aS, hdf, hsz, hrd, h4, h5, hwp⟩ := key
    rw [drop_get hTO] at hwp
    unfold wpList at hwp
    rw [if_pos (by simp [Region.wanted, hg])] at hwp
    have hwp := hwp.resolve_right (fun h => by obtain ⟨_, _, hh⟩ := h.2; exact hh)
    unfold Oper.wp at hwp
    have he : execOp a.eval o = execOp aS.eval o := execOp_congr o hsel fun x hx => eval_of x fun t ht => by
      subst ht
      exact agree_t H I hi hk0 hdep hsz h4 h5 (slot_mem hx)
    rw [he]
    have put : ∀ (v : Value) (w2 : World), wpList P TO.toArray (Ends F) (TO.drop (k0 + 1)) (aS.put o.dst v) w2 → ∃ m', Inv P ops is T TO a0 w aR (Ends F) (L.setIfInBounds i true) (a.put o.dst v) w2 m' := fun v w2 h =>
      ⟨k0 + 1, inv_tail H I hi hk0 hdep hrd hsz h4 h5 (ds := aS.defers) (ds' := a.defers) hdf h⟩
    generalize (execOp aS.eval o).run P w' = r at *
    cases r with
    | ok n w2 =>
      cases n <;> simp only [Oper.upon] at hwp ⊢
      case value u => exact put u w2 hwp
      case skip => exact put _ w2 hwp
      case defer d => exact ⟨k0 + 1, inv_tail H I hi hk0 hdep hrd hsz h4 h5 (ds := d :: aS.defers) (ds' := d :: a.defers) (by rw [hdf]) hwp⟩
      case enter g args =>
        refine hwp.mono fun e w3 h => ?_
        cases e with
        | returned v => exact put v w3 h
        | panicked c => exact h.elim
        | outgrown => obtain ⟨_, _, hh⟩ := h; exact hh.elim
      case row r args => exact Rows.mono hwp (fun v w3 h => put v w3 h)
    | halt x w2 => cases x <;> simp only [Oper.upon] at hwp ⊢ <;> exact hwp.elim
  · have hnt : is[i]? ≠ some .t := fun h => hkt (by rw [hk] at h; exact Option.some.inj h)
    have he : execOp a.eval o = execOp f.eval o := execOp_congr o hsel fun x hx => eval_of x fun t ht => by
      subst ht
      exact agree H I hi hf hL hdep hnt (slot_mem hx)
    rw [he]
    have run : ∀ v : Value, valAt is i = some v → quiet2 P w' v ((execOp f.eval o).run P w') → (m = 0 ∨ ∀ (g : FuncId) (args : Array Value) (w2 : World), (execOp f.eval o).run P w' = .ok (.enter g args) w2 → False) →
        o.upon P a (fun a' w2 => ∃ m', Inv P ops is T TO a0 w aR (Ends F) (L.setIfInBounds i true) a' w2 m') Q ((execOp f.eval o).run P w') := by
      intro v hv h1 hm
      generalize (execOp f.eval o).run P w' = r at *
      cases r with
      | ok n w2 =>
        cases n <;> simp only [quiet2] at h1 <;> simp only [Oper.upon]
        case value u =>
          obtain ⟨e1, e2⟩ := h1
          rw [e1, e2]
          exact ⟨m, inv_val H I hi hv hL hdep (Or.inr rfl)⟩
        case skip =>
          obtain ⟨e1, e2⟩ := h1
          rw [e1, ← e2]
          exact ⟨m, inv_val H I hi hv hL hdep (Or.inr rfl)⟩
        case enter g args =>
          obtain ⟨e1, hc⟩ := h1
          rw [e1]
          rcases hm with hm | hm
          · exact hc.mono fun e w3 ⟨he', hb⟩ => by subst he'; exact ⟨m, inv_val H I hi hv hL hdep (Or.inl ⟨hm, hb⟩)⟩
          · exact (hm g args w2 rfl).elim
      | halt x w2 => simp only [quiet2] at h1
    cases k with
    | t => exact absurd rfl hkt
    | r v =>
      have hv : valAt is i = some v := by unfold valAt; rw [hk]; rfl
      have hm : m = 0 := by
        rcases Nat.eq_zero_or_pos m with h | h
        · exact h
        · have := (I.later h).1 i v hilt hk
          rw [hL] at this; cases this
      have hb := (I.first hm).1
      exact run v hv (hok w' (bcell hb).1 hb) (Or.inl hm)
    | p v =>
      have hv : valAt is i = some v := by unfold valAt; rw [hk]; rfl
      refine run v hv (hok.1 w') (Or.inr fun g args w2 h => hok.2 w' g args w2 h)
theorem all_listed {is : Array Inf} {T : List Nat} {TO : List Oper} {aR : Act} (H : Told P ops is T TO a0 w aR) {L : Array Bool} (hs : L.size = ops.size) (hr : Region.ready .any ops L = []) : ∀ j, j < ops.size → L.getD j false = true := by
  intro j
  induction j using Nat.strongRecOn with
  | _ j ih =>
    intro hj
    cases hL : L.getD j false with
    | true => rfl
    | false =>
      have hjl : j < L.size := by rw [hs]; exact hj
      have h0 : L.getD j true = false := by simpa [hjl] using hL
      have hm : j ∈ Region.ready .any ops L := mem_ready.2 ⟨h0, ops[j], Array.getElem?_eq_getElem hj, fun e he hb => by
        have hlt := (t_parts (t_op H.chk (Array.getElem?_eq_getElem hj))).2.1 e he hb
        exact ih e.on hlt (by omega)⟩
      rw [hr] at hm
      cases hm
theorem any_of_inv {is : Array Inf} {T : List Nat} {TO : List Oper} {aR : Act} {F : Act → World → Prop} {Q : Exit → Act → World → Prop} (H : Told P ops is T TO a0 w aR) (hK : ∀ w1, Below w.heap.size w w1 → wpList P TO.toArray (Ends F) TO aR w1)
    (hQ : ∀ L a w' m, Inv P ops is T TO a0 w aR (Ends F) L a w' m → (∀ j, j < ops.size → L.getD j false = true) → Q .normal a w') :
    ∀ (fuel : Nat) (L : Array Bool) (a : Act) (w' : World), (∃ m, Inv P ops is T TO a0 w aR (Ends F) L a w' m) → ((List.range ops.size).filter fun j => !L.getD j false).length ≤ fuel → wpAny P .any ops Q fuel L a w' := by
  intro fuel
  induction fuel with
  | zero =>
    intro L a w' ⟨m, I⟩ hc
    have hall : ∀ j, j < ops.size → L.getD j false = true := fun j hj => by
      cases hL : L.getD j false with
      | true => rfl
      | false =>
        have : j ∈ (List.range ops.size).filter fun j => !L.getD j false := List.mem_filter.2 ⟨List.mem_range.2 hj, by rw [hL]; rfl⟩
        have := List.length_pos_of_mem this
        omega
    refine ⟨?_, hQ L a w' m I hall⟩
    cases hr : Region.ready .any ops L with
    | nil => rfl
    | cons i _ =>
      obtain ⟨h0, o, hi, -⟩ := mem_ready.1 (show i ∈ Region.ready .any ops L by rw [hr]; simp)
      have hlt : i < ops.size := (Array.getElem?_eq_some_iff.1 hi).1
      have h1 := hall i hlt
      have hl : i < L.size := by rw [I.lsize]; exact hlt
      simp [hl] at h0 h1
      rw [h0] at h1; cases h1
  | succ fuel ih =>
    intro L a w' ⟨m, I⟩ hc
    refine ⟨fun hr => hQ L a w' m I (all_listed H I.lsize hr), fun i hi => wpOp_mono (fun a' w2 h => ih _ a' w2 h ?_) (inv_step H hK ⟨m, I⟩ hi)⟩
    obtain ⟨h0, o, ho, -⟩ := mem_ready.1 hi
    have hlt : i < ops.size := (Array.getElem?_eq_some_iff.1 ho).1
    have hl : i < L.size := by rw [I.lsize]; exact hlt
    have := cnt_set hlt hl (by simpa [hl] using h0)
    omega
theorem tail_region {id : Nat} {Q : Exit → Act → World → Prop} {l : List Oper} {a : Act} (hm : P.follows .mixedOrders = true) (hD : distB l.toArray = true)
    (h : Gq P w (fun is T TO aR => chkT l.toArray is.toArray T = true ∧ ∀ w1, Below w.heap.size w w1 → wpList P TO.toArray (Ends (Q .normal)) TO aR w1) l a [] [] []) : (Code.region id l.toArray true).wp P Q a w := by
  obtain ⟨is, T, TO, aR, -, hlen, ⟨hchk, hK⟩, hat, htl, heach⟩ := gq_spec (ops := l.toArray) (a0 := a) hD l a [] [] [] h (fun j => by simp) ⟨rfl, rfl, fun _ _ => rfl, fun j o v d hj => by simp at hj⟩ ⟨rfl, fun k i h => by simp at h, fun i hi => by simp at hi⟩
  have H : Told P l.toArray is.toArray T TO a w aR := ⟨hD, hchk, fun i o hi => by
    have hlt : i < l.toArray.size := (Array.getElem?_eq_some_iff.1 hi).1
    obtain ⟨k, f, h1, h2, h3⟩ := heach i o (by simp) (by simpa using hlt) hi
    exact ⟨k, f, by simpa using h1, h2, h3⟩, by simpa using hat, by simpa using htl⟩
  refine wp_region_any hm (any_of_inv H hK (fun L a' w' m I hall => ?_) _ _ _ _ ⟨0, ?_⟩ ?_)
  · have hmT : T.length ≤ m := by
      rcases Nat.lt_or_ge m T.length with h | h
      · have h1 : T[m]? = some (T[m]'h) := List.getElem?_eq_getElem h
        have h2 := (I.done m _ h1).1 (hall _ (htl.at' m _ h1 |>.1 |> fun h => by simpa using h))
        omega
      · exact h
    have hTO : TO.length = T.length := htl.len
    have ext : ∀ aS : Act, aS.defers = a'.defers → aS.tmps.size = a.tmps.size → (∀ d, (∃ (k i : Nat) (o : Oper), k < m ∧ T[k]? = some i ∧ l.toArray[i]? = some o ∧ o.dst = some d) → aS.tmps[d]? = a'.tmps[d]?) →
        (∀ d, (∀ (k i : Nat) (o : Oper), k < m → T[k]? = some i → l.toArray[i]? = some o → o.dst ≠ some d) → aS.tmps[d]? = aR.tmps[d]?) → a' = aS := by
      intro aS h1 h2 h3 h4
      obtain ⟨ta, da⟩ := a'
      obtain ⟨ts, ds⟩ := aS
      obtain rfl : ds = da := h1
      have ht : ta = ts := by
        refine Array.ext_getElem? fun d => ?_
        by_cases hex : ∃ (k i : Nat) (o : Oper), k < m ∧ T[k]? = some i ∧ l.toArray[i]? = some o ∧ o.dst = some d
        · exact (h3 d hex).symm
        · rw [h4 d (fun k i o hk hki hio hod => hex ⟨k, i, o, hk, hki, hio, hod⟩)]
          by_cases hj : ∃ (j : Nat) (p : Oper), l.toArray[j]? = some p ∧ p.dst = some d
          · obtain ⟨j, p, hj, hp⟩ := hj
            have hjl : j < l.toArray.size := (Array.getElem?_eq_some_iff.1 hj).1
            have hnt : is.toArray[j]? ≠ some .t := fun h => by
              obtain ⟨k, hk⟩ := H.tails.all j hjl h
              exact hex ⟨k, j, p, Nat.lt_of_lt_of_le (List.getElem?_eq_some_iff.1 hk).1 hmT, hk, hj, hp⟩
            obtain ⟨u, hu⟩ := H.tdst hj hnt
            rcases Nat.lt_or_ge d a.tmps.size with hts | hts
            · exact (I.new j p u d hj (hall j hjl) hu hp hts).trans (H.fin.new j p u d hjl hj hu hp hts).symm
            · rw [Array.getElem?_eq_none (by have := I.size; show ta.size ≤ d; have e : ta.size = a.tmps.size := this; omega), Array.getElem?_eq_none (by rw [H.fin.size]; omega)]
          · exact (I.old d (fun j p hj' _ hp => hj ⟨j, p, hj', hp⟩)).trans (H.fin.old d (fun j p v _ hj' _ hp => hj ⟨j, p, hj', hp⟩)).symm
      rw [ht]
    rcases Nat.eq_zero_or_pos m with h0 | h0
    · subst h0
      obtain ⟨h1, h2⟩ := I.first rfl
      have := hK w' h1
      rw [List.eq_nil_of_length_eq_zero (show TO.length = 0 by omega)] at this
      rw [ext aR (by rw [H.fin.defers, h2]) H.fin.size (fun d ⟨k, _, _, hk, _⟩ => absurd hk (Nat.not_lt_zero k)) (fun d _ => rfl)]
      exact this
    · obtain ⟨-, aS, h2, h3, h4, h5, h6⟩ := I.later h0
      rw [List.drop_eq_nil_of_le (by omega)] at h6
      rw [ext aS h2 h3 h4 h5]
      exact h6
  · have hf : ∀ j, (Array.replicate l.toArray.size false).getD j false = false := fun j => by
      simp only [Array.getD_eq_getD_getElem?, Array.getElem?_replicate]
      split <;> rfl
    refine ⟨by simp, fun j o _ h => ?_, rfl, fun j o v d _ h => ?_, fun _ _ => rfl, fun k i _ => ⟨fun h => ?_, fun h => absurd h (Nat.not_lt_zero k)⟩, fun _ => ⟨(Below.refl w.heap.size w).drew, rfl⟩, fun h => absurd h (Nat.lt_irrefl 0)⟩
    all_goals (rw [hf] at h; cases h)
  · exact Nat.le_trans (List.length_filter_le _ _) (by simp)
end
end Tail
end Kit
end Go.Proofs.YtoafljgcmloilaaDoor
