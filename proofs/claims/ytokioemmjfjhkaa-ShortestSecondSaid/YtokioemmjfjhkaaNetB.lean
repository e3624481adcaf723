/- net.text: the names of fixes. The net of a chart in memory: views; where a name stands among sorted names. A drawn region in which a condition on the world holds until a late operation is carried out: loads that this operation waits for may be taken first. shortest.of: the net under way: what its cells hold, and what a round's end leaves. -/
import Derived.Test.YtokioemmjfjhkaaNetW
import Derived.Test.YtokioemmjfjhkaaOwnS
import Derived.Test.YtokioemmjfjhkaaLnkL
import Derived.Test.YtokioemmjfjhkaaNetA
import Derived.Shelf.Spec.SearchS
import Derived.Shelf.Lay
import Derived.Ground.Names2Prog
import Derived.Test.YtokioemmjfjhkaaKit2
import Derived.OrdersHeld
import Derived.Deep.RegionHeld
import Derived.Test.YtokioemmjfjhkaaLnkS
import Derived.Test.YtokioemmjfjhkaaChD
import Derived.Deep.RegionHeld3
namespace Go.Proofs.Ytokioemmjfjhkaa
open Go.RowKit
namespace Net
open Kit Chart Route
theorem str_info : (Try.prog.info? 9).map (fun i => (i.zero, i.size, i.bytes)) = some (some (.string ⟨#[]⟩), 1, 16) := by kernel_rfl
/-- The names of k fixes. -/
def nms (S : Nat → ByteArray) (g : Nat → Nat) (k : Nat) : List ByteArray := (List.range k).map fun i => S (g i)
theorem nms_len (S : Nat → ByteArray) (g : Nat → Nat) (k : Nat) : (nms S g k).length = k := by unfold nms; rw [List.length_map, List.length_range]
theorem nms_next (S : Nat → ByteArray) (g : Nat → Nat) (k : Nat) : vs (nms S g k) ++ [.string (S (g k))] = vs (nms S g (k + 1)) := by
  unfold nms vs
  rw [List.range_succ, List.map_append, List.map_append]; rfl
theorem ownS_nil (w : World) (base : Nat) (E : TypeId) : w.ownsRow base E 1 (.slice none 0 0) 0 (vs []) := ⟨by rfl, Or.inl ⟨rfl, rfl⟩⟩
set_option maxRecDepth 100000 in
set_option maxHeartbeats 4000000 in
theorem text_w (ba oa ca n cv N : Nat) (vA : Option Addr) (b c : Value) (S : Nat → ByteArray) (g : Nat → Nat) (w : World) (_hN : N ≤ 64) (hn : n ≤ 100) (_hca : N ≤ ca ∧ ca ≤ 9223372036854775807) (hcv : n ≤ cv ∧ cv ≤ 9223372036854775807) (hb : ∃ B1 n1 c1, b = .slice B1 n1 c1) (hc : ∃ B1 n1 c1, c = .slice B1 n1 c1)
    (HS : Hid (∀ k, k < N → w.cell? ⟨ba, oa + k, none⟩ = some (.string (S k)))) (HV : Hid (IV w (.slice vA n cv) n (fun i => (g i : Int)))) (HG : Hid (∀ k, k < n → g k < N)) :
    Calls Try.prog 45 #[.agg #[.slice (some ⟨ba, oa, none⟩) N ca, b, c], .slice vA n cv] w fun e w' => (∃ u, e = .returned u ∧ SL w' u (nms S g n)) ∧ Below w.heap.size w w' := by
  obtain ⟨B1, n1, c1, rfl⟩ := hb
  obtain ⟨C1, n2, c2, rfl⟩ := hc
  obtain ⟨i0, hi0, hz0, hz1, hz2⟩ := info_parts str_info
  have IF := Lib.hid (And.intro hi0 (And.intro hz0 (And.intro hz1 hz2))); clear hi0 hz0 hz1 hz2
  have B0 := Lib.hid (b_alloc (Below.refl w.heap.size w) (.cells #[.slice (some ⟨ba, oa, none⟩) N ca, .slice B1 n1 c1, .slice C1 n2 c2] 83))
  have X0 : Hid ((w.alloc (.cells #[.slice (some ⟨ba, oa, none⟩) N ca, .slice B1 n1 c1, .slice C1 n2 c2] 83)).cell? ⟨w.heap.size, 0, none⟩ = some (.slice (some ⟨ba, oa, none⟩) N ca)) := Lib.hid (by simp)
  go_enter Try.func45, Try.ntmps45
  go_wp2_with fail
  obtain ⟨w0, hw0⟩ : ∃ w0, w0 = w.alloc (.cells #[.slice (some ⟨ba, oa, none⟩) N ca, .slice B1 n1 c1, .slice C1 n2 c2] 83) := ⟨_, rfl⟩
  rw [← hw0] at B0 X0 ⊢
  clear hw0
  go_loopw [5, 10] (fun o s wr => ∃ k : Nat, k ≤ n ∧ s = .int .i64 k ∧ wr.ownsRow w0.heap.size 9 1 o k (vs (nms S g k)) ∧ Below w0.heap.size w0 wr) (fun _ s _ => n - (intOf s).toNat)
  case atStart => exact ⟨0, Nat.zero_le _, rfl, ownS_nil _ _ _, Below.refl _ _⟩
  case round =>
    obtain ⟨k, hk, rfl, hown, hbl⟩ := hrel
    have OW := Lib.hid hown; have BR := Lib.hid hbl; clear hown
    by_cases hlt : k < n
    · have hl : (k : Int) < (n : Int) := by omega
      obtain ⟨b2, f2, c2', e2, -, -, hcl2⟩ := iv_at HV.out (show 0 < n by omega)
      injection e2 with e2 _ e3
      subst e2 e3
      have x0 := keep hbl (keep B0.out (hcl2 k hlt))
      have x1 := keep hbl X0.out
      have hg := HG.out k hlt
      have x2 := keep hbl (keep B0.out (HS.out (g k) hg))
      have hgi : (g k : Int) < (N : Int) := by omega
      have NXT := Lib.hid (nms_next S g k)
      generalize S (g k) = sk at *
      generalize g k = gk at *
      have B9 := b_alloc (Below.refl wr.heap.size wr) (.cells #[.string sk] 9)
      have OS := Lib.hid (Own0.own_below B9 OW.out)
      have NS := Lib.hid (new1 wr 9 (.string sk))
      have B10 := Lib.hid (b_next BR.out B9)
      have NB := Lib.hid B10.out.size
      clear B9 hbl hcl2
      go_wp2_with (at_builtin; refine wpList_append_own_at _ rfl (.tmp 14) (.tmp 20) 38 rfl w0.heap.size 9 i0 _ 1 16 Try.underlying38 IF.out.1 IF.out.2.1 IF.out.2.2.1 IF.out.2.2.2 rfl (by decide) _ k _ rfl OS.out ⟨wr.heap.size, 0, none⟩ 1 1 [.string sk] rfl rfl NS.out (by simp [Value.oneCell']) (by unfold maxLen; omega) (by omega) NB.out ?_; intro v2 w9 hown1' hg1' hnil1 hat1'; have hown1 := Lib.hid hown1'; have hg1 := Lib.hid hg1'; clear hnil1 hown1' hg1' hat1')
      have B11 := Lib.hid (Own0.grow_b B10.out OS.out hg1.out (Nat.le_refl _) NB.out)
      clear x0 x1 x2
      go_wp2_with fail
      go_roundw
      case rel => exact ⟨k + 1, by omega, by go_num, by have q := hown1.out; rw [NXT.out] at q; exact q, B11.out⟩
      case measure => simp [intOf]; omega
    · obtain rfl : k = n := by omega
      have hl : ¬ (k : Int) < (k : Int) := by omega
      have SS : Hid (SL wr u5 (nms S g k)) := Lib.hid (sl_own (by rw [nms_len]; exact OW.out))
      have BF := Lib.hid (b_next B0.out hbl); clear hbl
      go_wp2_with fail
      go_ret
      exact ⟨⟨_, rfl, SS.out⟩, BF.out⟩
end Net
end Go.Proofs.Ytokioemmjfjhkaa
namespace Go.Proofs.Ytokioemmjfjhkaa
open Go.RowKit Go.Shelf
shelf_lay Lays2.n26 Nm2 26 at Try as searchLays
namespace Net
open Kit Chart
/-- Names that ascend. -/
def Srt (S : Nat → ByteArray) (n : Nat) : Prop := ∀ i j, i < j → j < n → Op.bytesLess (S i).toList (S j).toList = true
theorem srt_inj {S : Nat → ByteArray} {n : Nat} (h : Srt S n) {i j : Nat} (hi : i < n) (hj : j < n) (e : S i = S j) : i = j := by
  rcases Nat.lt_trichotomy i j with q | q | q
  · have := h i j q hj
    rw [e, bl_irr] at this
    cases this
  · exact q
  · have := h j i q hi
    rw [e, bl_irr] at this
    cases this
theorem bl_asym {x y : List UInt8} (h : Op.bytesLess x y = true) : Op.bytesLess y x = false := by
  cases q : Op.bytesLess y x with
  | false => rfl
  | true =>
    have := bl_trans h q
    rw [bl_irr] at this
    cases this
/-- A point before which all are less and from which on none is. -/
theorem part {p : Nat → Bool} : ∀ n, (∀ i j, i < j → j < n → p j = true → p i = true) → ∃ k, k ≤ n ∧ (∀ t, t < k → p t = true) ∧ ∀ t, k ≤ t → t < n → p t = false
  | 0, _ => ⟨0, Nat.le_refl _, fun t h => absurd h (Nat.not_lt_zero t), fun t _ h => absurd h (Nat.not_lt_zero t)⟩
  | n + 1, h => by
    obtain ⟨k, h1, h2, h3⟩ := part n fun i j hij hj => h i j hij (by omega)
    cases q : p n with
    | true =>
      refine ⟨n + 1, Nat.le_refl _, fun t ht => ?_, fun t h4 h5 => by omega⟩
      by_cases e : t = n
      · rw [e]; exact q
      · exact h t n (by omega) (by omega) q
    | false =>
      refine ⟨k, by omega, h2, fun t h4 h5 => ?_⟩
      by_cases e : t = n
      · rw [e]; exact q
      · exact h3 t h4 (by omega)
/-- slices.BinarySearch at ascending names. -/
def FndR (S : Nat → ByteArray) (n : Nat) (x : ByteArray) (e : Ending) : Prop := (∃ k, k < n ∧ S k = x ∧ e = .returned (.tuple #[.int .i64 (k : Int), .bool true])) ∨ ((∀ k, k < n → S k ≠ x) ∧ ∃ k : Nat, k ≤ n ∧ e = .returned (.tuple #[.int .i64 (k : Int), .bool false]))
theorem searchC {w : World} {v : Value} {n : Nat} {S : Nat → ByteArray} (hv : SV w v n S) (hs : Srt S n) (hn : n ≤ 1000000) (x : ByteArray) :
    Calls Try.prog 64 #[v, .string x] w fun e w' => FndR S n x e ∧ Below w.heap.size w w' := by
  rcases hv with ⟨h0, hnil⟩ | ⟨h0, b, off, cap, rfl, h1, h2, h3⟩
  · subst h0
    obtain ⟨A, c, rfl⟩ := nil0_slice hnil
    have hcon := Any2.slices_BinarySearch_string_empty searchLays A c x w
    change Calls Try.prog 64 _ _ _ at hcon
    refine hcon.mono ?_
    rintro e w' ⟨rfl, rfl⟩
    exact ⟨Or.inr ⟨fun k hk => absurd hk (Nat.not_lt_zero k), 0, Nat.le_refl _, rfl⟩, Below.refl _ _⟩
  · obtain ⟨T, hT⟩ : ∃ T : Nat → ByteArray, T = fun t => if t < n then S t else x := ⟨_, rfl⟩
    have Tin : ∀ t, t < n → T t = S t := fun t ht => by rw [hT]; exact if_pos ht
    have Tout : ∀ t, ¬ t < n → T t = x := fun t ht => by rw [hT]; exact if_neg ht
    have hcon := Any2.slices_BinarySearch_string searchLays b off n cap T x w (by omega) (fun j hj => by rw [Tin j hj]; exact h3 j hj)
    change Calls Try.prog 64 _ _ _ at hcon
    obtain ⟨k, k1, k2, k3⟩ := part (p := fun t => Op.bytesLess (T t).toList x.toList) n fun i j hij hj q => by
      have a := hs i j hij hj
      rw [Tin j hj] at q
      rw [Tin i (by omega)]
      exact bl_trans a q
    have hsp := Lib.bsGo_spec (fun t => Op.bytesLess (T t).toList x.toList) k k2 (fun t ht => by
      by_cases q : t < n
      · exact k3 t ht q
      · rw [Tout t q]; exact bl_irr _) n 0 n (by omega) (by omega) k1
    rw [hsp] at hcon
    refine hcon.mono ?_
    rintro e w' ⟨rfl, q, rfl⟩
    refine ⟨?_, b_drewN (Below.refl _ _) q⟩
    by_cases g : k < n ∧ T k = x
    · rw [decide_eq_true g]
      exact Or.inl ⟨k, g.1, by rw [← Tin k g.1]; exact g.2, rfl⟩
    · rw [decide_eq_false g]
      refine Or.inr ⟨fun j hj e => ?_, k, k1, rfl⟩
      have kj : k = j := by
        rcases Nat.lt_trichotomy k j with q | q | q
        · -- place k is less than place j, so less than x
          have a := hs k j q hj
          have c := k3 k (Nat.le_refl _) (by omega)
          rw [Tin k (by omega), ← e, a] at c
          cases c
        · exact q
        · have c := k2 j q
          rw [Tin j hj, e, bl_irr] at c
          cases c
      subst kj
      exact g ⟨hj, by rw [Tin k hj]; exact e⟩
/-- (net).find. -/
def PosR (S : Nat → ByteArray) (n : Nat) (x : ByteArray) (e : Ending) : Prop := (∃ k, k < n ∧ S k = x ∧ e = .returned (.int .i64 (k : Int))) ∨ ((∀ k, k < n → S k ≠ x) ∧ e = .returned (.int .i64 (-1)))
set_option maxRecDepth 100000 in
set_option maxHeartbeats 2000000 in
theorem find_w (a b c : Value) (x : ByteArray) (S : Nat → ByteArray) (n : Nat) (w : World) (SC : Hid (∀ w1, Below w.heap.size w w1 → Calls Try.prog 64 #[a, .string x] w1 fun e w' => FndR S n x e ∧ Below w1.heap.size w1 w')) :
    Calls Try.prog 42 #[.agg #[a, b, c], .string x] w fun e w' => PosR S n x e ∧ Below w.heap.size w w' := by
  have W0 := Lib.hid (b_alloc (Below.refl w.heap.size w) (.cells #[a, b, c] 83))
  go_enter Try.func42, Try.ntmps42
  go_wp2_with fail
  (with_reducible refine (SC.out _ W0.out).mono ?_); rintro e w1 ⟨hr, hb⟩
  have W1 := Lib.hid (b_next W0.out hb); clear hb
  rcases hr with ⟨k, h1, h2, rfl⟩ | ⟨h1, k, -, rfl⟩
  · have H1 := Lib.hid h1; have H2 := Lib.hid h2; clear h1 h2
    go_wp2_with fail
    go_ret
    exact ⟨Or.inl ⟨k, H1.out, H2.out, rfl⟩, W1.out⟩
  · have H1 := Lib.hid h1; clear h1
    go_wp2_with fail
    go_ret
    exact ⟨Or.inr ⟨H1.out, rfl⟩, W1.out⟩
open Short in
theorem findC {w : World} {v : Value} {G : Gr} {S : Nat → ByteArray} (hv : NV w v G S) (hs : Srt S G.N) (hn : G.N ≤ 1000000) (x : ByteArray) :
    Calls Try.prog 42 #[v, .string x] w fun e w' => PosR S G.N x e ∧ Below w.heap.size w w' := by
  obtain ⟨a, b, c, rfl, h1, -, -⟩ := hv.ex
  exact find_w a b c x S G.N w (Lib.hid fun _ hb => searchC (sv_keep hb h1) hs hn x)
end Net
end Go.Proofs.Ytokioemmjfjhkaa
namespace Go.Proofs.Ytokioemmjfjhkaa
namespace Late
section
variable {P : Program} {ops : Array Oper} {Q : Exit → Act → World → Prop} {md : Region.Mode} {S : World → Prop} {s : Nat}
/-- Whatever order is taken, S holds behind each operation until number s has been carried out. -/
def Any (P : Program) (md : Region.Mode) (ops : Array Oper) (Q : Exit → Act → World → Prop) (S : World → Prop) (s : Nat) : Nat → Array Bool → Act → World → Prop
  | 0, L, a, w => Region.ready md ops L = [] ∧ Q .normal a w
  | n + 1, L, a, w => (Region.ready md ops L = [] → Q .normal a w) ∧ ∀ i ∈ Region.ready md ops L, wpOp P ops Q i (fun a' w' => ((L.setIfInBounds i true).getD s false = false → S w') ∧ Any P md ops Q S s n (L.setIfInBounds i true) a' w') a w
theorem any_of : ∀ (n : Nat) (L : Array Bool) (a : Act) (w : World), Any P md ops Q S s n L a w → wpAny P md ops Q n L a w
  | 0, _, _, _, h => h
  | n + 1, _, _, _, h => ⟨h.1, fun i hi => wpOp_mono (fun a' w' q => any_of n _ a' w' q.2) (h.2 i hi)⟩
theorem set_far {L : Array Bool} {i j : Nat} (h : i ≠ j) : (L.setIfInBounds i true).getD j false = L.getD j false := getD_set_ne false h
/-- Number s waits for number i. -/
def waits (md : Region.Mode) (ops : Array Oper) (s i : Nat) : Bool := match ops[s]? with
  | some o => o.after.any fun e => Region.binds md e && e.on == i
  | none => false
theorem waits_not {i : Nat} {L : Array Bool} (h : waits md ops s i = true) (hi : L.getD i true = false) : s ∉ Region.ready md ops L := fun hr => by
  obtain ⟨-, o, ho, hall⟩ := mem_ready.1 hr
  unfold waits at h
  rw [ho] at h
  obtain ⟨k, hk, q⟩ := Array.any_eq_true.1 h
  obtain ⟨e, rfl⟩ : ∃ e, e = o.after[k] := ⟨_, rfl⟩
  have he : o.after[k] ∈ o.after := Array.getElem_mem hk
  rw [Bool.and_eq_true, beq_iff_eq] at q
  have h1 := hall _ he q.1
  rw [q.2] at h1
  rcases Nat.lt_or_ge i L.size with g | g
  · simp [g] at h1 hi; rw [h1] at hi; cases hi
  · simp [Array.getElem?_eq_none g] at h1
theorem first {i : Nat} {oi : Oper} {v : Value} (hi : ops[i]? = some oi) (hw : waits md ops s i = true) (hsi : s ≠ i) (hsel : ∀ (j : Nat) (o : Oper) cs b, ops[j]? = some o → o.op ≠ .select cs b)
    (hQ : ∀ c a w, Q (.panic c) (a.put oi.dst v) w → Q (.panic c) a w) :
    ∀ (n : Nat) (L : Array Bool) (a : Act) (w : World),
      (∀ j oj, ops[j]? = some oj → j ≠ i → L.getD j true = false → (∀ e ∈ oj.after, Region.binds md e = true → e.on ≠ i) → oi.apart ops oj = true) →
      i ∈ Region.ready md ops L → L.getD s false = false → YieldsIf P ops S oi v a → S w →
      Any P md ops Q S s n (L.setIfInBounds i true) (a.put oi.dst v) w → Any P md ops Q S s (n + 1) L a w := by
  intro n
  induction n with
  | zero =>
    intro L a w _ hr hs hy hS H
    refine ⟨fun h => (by rw [h] at hr; cases hr), fun j hj => ?_⟩
    by_cases hji : j = i
    · subst hji; exact hy.wpOp hi hS ⟨fun _ => hS, H⟩
    · have := ready_mono hj hji
      rw [H.1] at this
      cases this
  | succ n ih =>
    intro L a w hfree hr hs hy hS H
    refine ⟨fun h => (by rw [h] at hr; cases hr), fun j hj => ?_⟩
    by_cases hji : j = i
    · subst hji; exact hy.wpOp hi hS ⟨fun _ => hS, H⟩
    · have h1 := H.2 j (ready_mono hj hji)
      obtain ⟨hjun, oj, hoj, hall⟩ := mem_ready.1 hj
      have hjs : j ≠ s := fun e => waits_not hw (mem_ready.1 hr).1 (e ▸ hj)
      have hnot : ∀ e ∈ oj.after, Region.binds md e = true → e.on ≠ i := fun e he hb heq => by
        have h1 := hall e he hb
        have h0 := (mem_ready.1 hr).1
        rw [heq] at h1
        rcases Nat.lt_or_ge i L.size with g | g
        · simp [g] at h0 h1; rw [h0] at h1; cases h1
        · simp [Array.getElem?_eq_none g] at h1
      have h2 := wpOp_putIf hoj (hfree j oj hoj hji hjun hnot) (fun cs b => hsel i oi cs b hi) (fun cs b => hsel j oj cs b hoj) hQ hy h1
      have hfree' : ∀ k ok, ops[k]? = some ok → k ≠ i → (L.setIfInBounds j true).getD k true = false → (∀ e ∈ ok.after, Region.binds md e = true → e.on ≠ i) → oi.apart ops ok = true := fun k ok hk hki hun hno => by
        refine hfree k ok hk hki ?_ hno
        by_cases hjk : j = k
        · subst hjk; exact hjun
        · rw [getD_set_ne true hjk] at hun; exact hun
      have hs' : (L.setIfInBounds j true).getD s false = false := by rw [set_far hjs]; exact hs
      refine wpOp_mono (fun a' w' q => ?_) h2
      have hS' : S w' := q.2.1 (by rw [set_far hjs, set_far (Ne.symm hsi)]; exact hs)
      refine ⟨fun _ => hS', ih (L.setIfInBounds j true) a' w' hfree' (ready_mono hr (Ne.symm hji)) hs' q.1 hS' ?_⟩
      rw [Array.setIfInBounds_comm _ _ hji]
      exact q.2.2
theorem first0 {i : Nat} {oi : Oper} {v : Value} (hi : ops[i]? = some oi) (hsi : s ≠ i) (hsel : ∀ (j : Nat) (o : Oper) cs b, ops[j]? = some o → o.op ≠ .select cs b)
    (hQ : ∀ c a w, Q (.panic c) (a.put oi.dst v) w → Q (.panic c) a w) :
    ∀ (n : Nat) (L : Array Bool) (a : Act) (w : World),
      (∀ j oj, ops[j]? = some oj → j ≠ i → L.getD j true = false → (∀ e ∈ oj.after, Region.binds md e = true → e.on ≠ i) → oi.apart ops oj = true) →
      i ∈ Region.ready md ops L → YieldsIf P ops (fun _ => True) oi v a → (L.getD s false = false → S w) →
      Any P md ops Q S s n (L.setIfInBounds i true) (a.put oi.dst v) w → Any P md ops Q S s (n + 1) L a w := by
  intro n
  induction n with
  | zero =>
    intro L a w _ hr hy hS H
    refine ⟨fun h => (by rw [h] at hr; cases hr), fun j hj => ?_⟩
    by_cases hji : j = i
    · subst hji; exact hy.wpOp hi trivial ⟨fun h => hS (by rw [set_far (Ne.symm hsi)] at h; exact h), H⟩
    · have := ready_mono hj hji
      rw [H.1] at this
      cases this
  | succ n ih =>
    intro L a w hfree hr hy hS H
    refine ⟨fun h => (by rw [h] at hr; cases hr), fun j hj => ?_⟩
    by_cases hji : j = i
    · subst hji; exact hy.wpOp hi trivial ⟨fun h => hS (by rw [set_far (Ne.symm hsi)] at h; exact h), H⟩
    · have h1 := H.2 j (ready_mono hj hji)
      obtain ⟨hjun, oj, hoj, hall⟩ := mem_ready.1 hj
      have hnot : ∀ e ∈ oj.after, Region.binds md e = true → e.on ≠ i := fun e he hb heq => by
        have h1 := hall e he hb
        have h0 := (mem_ready.1 hr).1
        rw [heq] at h1
        rcases Nat.lt_or_ge i L.size with g | g
        · simp [g] at h0 h1; rw [h0] at h1; cases h1
        · simp [Array.getElem?_eq_none g] at h1
      have h2 := wpOp_putIf hoj (hfree j oj hoj hji hjun hnot) (fun cs b => hsel i oi cs b hi) (fun cs b => hsel j oj cs b hoj) hQ hy h1
      have hfree' : ∀ k ok, ops[k]? = some ok → k ≠ i → (L.setIfInBounds j true).getD k true = false → (∀ e ∈ ok.after, Region.binds md e = true → e.on ≠ i) → oi.apart ops ok = true := fun k ok hk hki hun hno => by
        refine hfree k ok hk hki ?_ hno
        by_cases hjk : j = k
        · subst hjk; exact hjun
        · rw [getD_set_ne true hjk] at hun; exact hun
      refine wpOp_mono (fun a' w' q => ?_) h2
      have hS' : (L.setIfInBounds j true).getD s false = false → S w' := fun h => q.2.1 (by rw [Array.setIfInBounds_comm _ _ (Ne.symm hji), set_far (Ne.symm hsi)]; exact h)
      refine ⟨hS', ih (L.setIfInBounds j true) a' w' hfree' (ready_mono hr (Ne.symm hji)) q.1 hS' ?_⟩
      rw [Array.setIfInBounds_comm _ _ hji]
      exact q.2.2
/-- Number i first, that yields the same in every world. -/
theorem take0 {i : Nat} {oi : Oper} {v : Value} {n : Nat} {L : Array Bool} {a : Act} {w : World} (hi : ops[i]? = some oi) (hc : (Region.noSelect ops && Region.free md ops L i && (Region.ready md ops L).contains i && s != i) = true)
    (hQ : ∀ c a w, Q (.panic c) (a.put oi.dst v) w → Q (.panic c) a w) (hy : YieldsIf P ops (fun _ => True) oi v a) (hS : S w)
    (h : Any P md ops Q S s n (L.setIfInBounds i true) (a.put oi.dst v) w) : Any P md ops Q S s (n + 1) L a w := by
  simp only [Bool.and_eq_true, bne_iff_ne] at hc
  obtain ⟨⟨⟨h1, h2⟩, h3⟩, h5⟩ := hc
  exact first0 hi h5 (Region.noSelect_spec h1) hQ n L a w (Region.free_spec hi h2) (by simpa using h3) hy (fun _ => hS) h
/-- Number i first. -/
theorem take {i : Nat} {oi : Oper} {v : Value} {n : Nat} {L : Array Bool} {a : Act} {w : World} (hi : ops[i]? = some oi) (hc : (Region.noSelect ops && Region.free md ops L i && (Region.ready md ops L).contains i && waits md ops s i && s != i && !L.getD s false) = true)
    (hQ : ∀ c a w, Q (.panic c) (a.put oi.dst v) w → Q (.panic c) a w) (hy : YieldsIf P ops S oi v a) (hS : S w)
    (h : Any P md ops Q S s n (L.setIfInBounds i true) (a.put oi.dst v) w) : Any P md ops Q S s (n + 1) L a w := by
  simp only [Bool.and_eq_true, Bool.not_eq_true', bne_iff_ne] at hc
  obtain ⟨⟨⟨⟨⟨h1, h2⟩, h3⟩, h4⟩, h5⟩, h6⟩ := hc
  exact first hi h4 h5 (Region.noSelect_spec h1) hQ n L a w (Region.free_spec hi h2) (by simpa using h3) h6 hy hS h
/-- Each of some comes up next. -/
def Each (P : Program) (md : Region.Mode) (ops : Array Oper) (Q : Exit → Act → World → Prop) (S : World → Prop) (s n : Nat) (L : Array Bool) (a : Act) (w : World) (rs : List Nat) : Prop :=
  ∀ i ∈ rs, wpOp P ops Q i (fun a' w' => ((L.setIfInBounds i true).getD s false = false → S w') ∧ Any P md ops Q S s n (L.setIfInBounds i true) a' w') a w
theorem each_nil {n : Nat} {L : Array Bool} {a : Act} {w : World} : Each P md ops Q S s n L a w [] := fun _ h => by cases h
theorem each_cons {n : Nat} {L : Array Bool} {a : Act} {w : World} {i : Nat} {o : Oper} {rs : List Nat} (ho : ops[i]? = some o)
    (h : ∀ K' : Act → World → Prop, Shut (∀ a w, ((L.setIfInBounds i true).getD s false = false → S w) → Any P md ops Q S s n (L.setIfInBounds i true) a w → K' a w) → if Region.wanted o (yielded ops a.tmps) = true then Oper.wp P o a w K' Q else K' (a.put o.dst undef) w)
    (hs : Each P md ops Q S s n L a w rs) : Each P md ops Q S s n L a w (i :: rs) := fun j hj => by
  rcases List.mem_cons.1 hj with rfl | hj
  · exact wpOp_step ho (fun K' hK => h K' (fun a w hS hW => hK a w ⟨hS, hW⟩))
  · exact hs j hj
theorem ready {rs : List Nat} {n : Nat} {L : Array Bool} {a : Act} {w : World} (hr : Region.ready md ops L = rs) (hne : rs ≠ [])
    (h : Each P md ops Q S s n L a w rs) : Any P md ops Q S s (n + 1) L a w := ⟨fun h0 => absurd (hr ▸ h0) hne, hr ▸ h⟩
theorem done {L : Array Bool} {a : Act} {w : World} (hr : Region.ready md ops L = []) (h : Q .normal a w) : ∀ n, Any P md ops Q S s n L a w
  | 0 => ⟨hr, h⟩
  | _ + 1 => ⟨fun _ => h, by rw [hr]; simp⟩
theorem region {id : Nat} {a : Act} {w : World} (S : World → Prop) (s : Nat) (hm : P.follows .mixedOrders = true)
    (h : Any P .any ops Q S s ops.size (Array.replicate ops.size false) a w.drew) : (Code.region id ops true).wp P Q a w :=
  wp_region_any hm (any_of _ _ _ _ h)
end
end Late
end Go.Proofs.Ytokioemmjfjhkaa
namespace Go.Proofs.Ytokioemmjfjhkaa
open Go.RowKit
namespace Net
open Kit Chart Route
/-- The net under way. -/
structure Bx (w : World) (q : Nat) (a b c : Value) : Prop where
  c0 : w.cell? ⟨q, 0, none⟩ = some a
  c1 : w.cell? ⟨q, 1, none⟩ = some b
  c2 : w.cell? ⟨q, 2, none⟩ = some c
  f0 : w.frozen? ⟨q, 0, none⟩ = false
  f1 : w.frozen? ⟨q, 1, none⟩ = false
  f2 : w.frozen? ⟨q, 2, none⟩ = false
theorem bx_new (w : World) (t : TypeId) (a b c : Value) : Bx (w.alloc (.cells #[a, b, c] t)) w.heap.size a b c := ⟨by simp, by simp, by simp, by simp, by simp, by simp⟩
theorem bx_keep {W w1 : World} (hb : Below W.heap.size W w1) {q : Nat} {a b c : Value} (h : Bx W q a b c) : Bx w1 q a b c := ⟨keep hb h.c0, keep hb h.c1, keep hb h.c2, keepF hb h.c0 h.f0, keepF hb h.c1 h.f1, keepF hb h.c2 h.f2⟩
theorem bx_keepN {N : Nat} {W w1 : World} (hb : Below N W w1) {q : Nat} (hq : q < N) {a b c : Value} (h : Bx W q a b c) : Bx w1 q a b c :=
  ⟨keepN hb hq h.c0, keepN hb hq h.c1, keepN hb hq h.c2, (hb.frozen (p := ⟨q, 0, none⟩) hq).trans h.f0, (hb.frozen (p := ⟨q, 1, none⟩) hq).trans h.f1, (hb.frozen (p := ⟨q, 2, none⟩) hq).trans h.f2⟩
theorem bx_grow {W w1 : World} {o : Option Nat} (hg : W.grownBy w1 o) {q : Nat} (hq : some q ≠ o) {a b c : Value} (h : Bx W q a b c) : Bx w1 q a b c :=
  ⟨(hg.cell_far ⟨q, 0, none⟩ (lt_of_cell h.c0) hq).trans h.c0, (hg.cell_far ⟨q, 1, none⟩ (lt_of_cell h.c1) hq).trans h.c1, (hg.cell_far ⟨q, 2, none⟩ (lt_of_cell h.c2) hq).trans h.c2, (hg.frozen_far ⟨q, 0, none⟩ (lt_of_cell h.c0) hq).trans h.f0, (hg.frozen_far ⟨q, 1, none⟩ (lt_of_cell h.c1) hq).trans h.f1, (hg.frozen_far ⟨q, 2, none⟩ (lt_of_cell h.c2) hq).trans h.f2⟩
theorem bx_set0 {w : World} {q : Nat} {a b c : Value} (h : Bx w q a b c) (y : Value) : Bx (w.setCell ⟨q, 0, none⟩ y) q y b c := ⟨cset _ h.c0, cfar _ (by simp) h.c1, cfar _ (by simp) h.c2, (World.frozen?_setCell _ _ _ _).trans h.f0, (World.frozen?_setCell _ _ _ _).trans h.f1, (World.frozen?_setCell _ _ _ _).trans h.f2⟩
theorem bx_set1 {w : World} {q : Nat} {a b c : Value} (h : Bx w q a b c) (y : Value) : Bx (w.setCell ⟨q, 1, none⟩ y) q a y c := ⟨cfar _ (by simp) h.c0, cset _ h.c1, cfar _ (by simp) h.c2, (World.frozen?_setCell _ _ _ _).trans h.f0, (World.frozen?_setCell _ _ _ _).trans h.f1, (World.frozen?_setCell _ _ _ _).trans h.f2⟩
theorem bx_set2 {w : World} {q : Nat} {a b c : Value} (h : Bx w q a b c) (y : Value) : Bx (w.setCell ⟨q, 2, none⟩ y) q a b y := ⟨cfar _ (by simp) h.c0, cfar _ (by simp) h.c1, cset _ h.c2, (World.frozen?_setCell _ _ _ _).trans h.f0, (World.frozen?_setCell _ _ _ _).trans h.f1, (World.frozen?_setCell _ _ _ _).trans h.f2⟩
theorem owns_far {w : World} {base : Nat} {E : TypeId} {C n : Nat} {v : Value} {xs : List Value} (h : w.ownsRow base E C v n xs) (a : Addr) (ha : a.block < base) (u : Value) : (w.setCell a u).ownsRow base E C v n xs := by
  refine ⟨h.1, ?_⟩
  rcases h.2 with hh | ⟨g, cap, cur, hv, hb, hg, h2⟩
  · exact Or.inl hh
  · refine Or.inr ⟨g, cap, cur, hv, hb, ?_, h2⟩
    have hne : ¬ a.block = g := by omega
    rw [← hg]
    simp [World.setCell, Array.getElem?_modify, hne]
/-- All cells behind a block are as they were. -/
def Kq (q : Nat) (w W : World) : Prop := ∀ a u, q < a.block → w.cell? a = some u → W.cell? a = some u
theorem kq_refl (q : Nat) (w : World) : Kq q w w := fun _ _ _ h => h
theorem kq_below {q : Nat} {w W w1 : World} (hb : Below W.heap.size W w1) (h : Kq q w W) : Kq q w w1 := fun a u ha hc => keep hb (h a u ha hc)
theorem kq_grow {q : Nat} {w W w1 : World} {o : Option Nat} (hg : W.grownBy w1 o) (ho : ∀ g, o = some g → w.heap.size ≤ g) (h : Kq q w W) : Kq q w w1 := fun a u ha hc =>
  (hg.cell_far a (lt_of_cell (h a u ha hc)) (fun e => by have := ho _ e.symm; have := lt_of_cell hc; omega)).trans (h a u ha hc)
theorem kq_set {q : Nat} {w W : World} (h : Kq q w W) (p : Addr) (hp : p.block ≤ q) (y : Value) : Kq q w (W.setCell p y) := fun a u ha hc => cfar _ (fun e => by have ha : q < a.block := ha; rw [← e] at ha; omega) (h a u ha hc)
theorem kq_trans {q : Nat} {w1 w2 w3 : World} (h1 : Kq q w1 w2) (h2 : Kq q w2 w3) : Kq q w1 w3 := fun a u ha hc => h2 a u ha (h1 a u ha hc)
theorem kq_mono {p q : Nat} {w W : World} (hpq : p ≤ q) (h : Kq p w W) : Kq q w W := fun a u ha hc => h a u (Nat.lt_of_le_of_lt hpq ha) hc
/-- All cells from a block on are as they were. -/
def Kg (N : Nat) (w W : World) : Prop := ∀ a u, N ≤ a.block → w.cell? a = some u → W.cell? a = some u
/-- A list of numbers that lies apart from two rows. -/
def Ap (q : Nat) (w : World) (ob oc v : Value) (d : Nat) (f : Nat → Int) : Prop := ∀ W : World, (∀ a u, q < a.block → ob.ownBlock ≠ some a.block → oc.ownBlock ≠ some a.block → w.cell? a = some u → W.cell? a = some u) → IV W v d f
theorem ap_iv {q : Nat} {w : World} {ob oc v : Value} {d : Nat} {f : Nat → Int} (h : Ap q w ob oc v d f) : IV w v d f := h w fun _ _ _ _ _ h => h
theorem ap_keep {q : Nat} {w w1 : World} {ob oc v : Value} {d : Nat} {f : Nat → Int} (hb : Below w.heap.size w w1) (h : Ap q w ob oc v d f) : Ap q w1 ob oc v d f := fun W hW => h W fun a u h1 h2 h3 hc => hW a u h1 h2 h3 (keep hb hc)
theorem ap_step {q : Nat} {w w1 : World} {ob oc ob1 oc1 v : Value} {d : Nat} {f : Nat → Int} (h : Ap q w ob oc v d f) (hs : ∀ a u, q < a.block → ob.ownBlock ≠ some a.block → oc.ownBlock ≠ some a.block → w.cell? a = some u → w1.cell? a = some u ∧ ob1.ownBlock ≠ some a.block ∧ oc1.ownBlock ≠ some a.block) : Ap q w1 ob1 oc1 v d f := fun W hW => h W fun a u h1 h2 h3 hc => hW a u h1 (hs a u h1 h2 h3 hc).2.1 (hs a u h1 h2 h3 hc).2.2 (hs a u h1 h2 h3 hc).1
theorem sv_row {w : World} {g n cap : Nat} {S : Nat → ByteArray} (h0 : 0 < n) (h1 : n ≤ cap) (h2 : cap ≤ maxLen) (h : ∀ k, k < n → w.cell? ⟨g, k, none⟩ = some (.string (S k))) : SV w (.slice (some ⟨g, 0, none⟩) n cap) n S :=
  Or.inr ⟨h0, g, 0, cap, rfl, h1, h2, fun k hk => by have := h k hk; simpa using this⟩
/-- The names, sorted, seen from any world that keeps them. -/
theorem sorted_sv {q n : Nat} {w w2 : World} {o : Value} {L : List ByteArray} (hn : L.length = n) (h : w.ownsRow (q + 1) 9 1 o n (vs L)) (hr : 0 < L.length → ∀ g cap, o = .slice (some ⟨g, 0, none⟩) L.length cap → Lnk.Row w2 g L.length (Lnk.nth (Lnk.srt L))) :
    ∀ W, Kq q w2 W → SV W o n (Lnk.nth (Lnk.srt L)) := fun W hW => by
  subst hn
  rcases Nat.eq_zero_or_pos L.length with h0 | h0
  · left
    refine ⟨h0, ?_⟩
    rw [h0] at h
    rcases h.2 with ⟨rfl, -⟩ | ⟨g, cap, cur, rfl, -, -, -, hc, -⟩
    · exact Or.inl rfl
    · exact Or.inr ⟨_, cap, rfl, hc⟩
  · obtain ⟨g, cap, rfl, h1, -, h3, h4, -⟩ := Lnk.row_of h h0
    have r := hr h0 g cap rfl
    exact sv_row h0 h3 h4 fun k hk => hW _ _ (by show q < g; omega) (r k hk).1
theorem sl_two (w : World) (t : TypeId) (a b : ByteArray) : SL (w.alloc (.cells #[.string a, .string b] t)) (.slice (some ⟨w.heap.size, 0, none⟩) 2 2) [a, b] :=
  Or.inr ⟨Nat.succ_pos 1, w.heap.size, 0, 2, rfl, Nat.le_refl _, by decide, fun k hk => by
    have hk2 : k < 2 := hk
    match k, hk2 with
    | 0, _ => simp
    | 1, _ => simp⟩
theorem sv_at0 {w : World} {v : Value} {n : Nat} {S : Nat → ByteArray} (h : SV w v n S) (h0 : 0 < n) : ∃ b off cap, v = .slice (some ⟨b, off, none⟩) n cap ∧ n ≤ cap ∧ cap ≤ maxLen ∧ ∀ k, k < n → w.cell? ⟨b, off + k, none⟩ = some (.string (S k)) := by
  rcases h with ⟨h1, -⟩ | ⟨-, h⟩
  · omega
  · exact h
theorem own_apart {w w1 : World} {base : Nat} {E : TypeId} {C n : Nat} {v : Value} {xs : List Value} {o : Option Nat} (h : w.ownsRow base E C v n xs) (hg : w.grownBy w1 o) (hne : ∀ g, v.ownBlock = some g → o ≠ some g) : w1.ownsRow base E C v n xs := by
  refine ⟨h.1, ?_⟩
  rcases h.2 with hh | ⟨g, cap, cur, hv, h1, hgq, h2⟩
  · exact Or.inl hh
  · exact Or.inr ⟨g, cap, cur, hv, h1, (hg.block g (Array.getElem?_eq_some_iff.1 hgq).1 (fun e => hne g (by rw [hv]; rfl) e.symm)).trans hgq, h2⟩
theorem dj_left {w : World} {v v' o : Value} (hat : v'.ownBlock = v.ownBlock ∨ v'.ownBlock = some w.heap.size) (hd : ∀ g, v.ownBlock = some g → o.ownBlock ≠ some g) (ho : ∀ g, o.ownBlock = some g → g < w.heap.size) : ∀ g, v'.ownBlock = some g → o.ownBlock ≠ some g := fun g hg e => by
  rcases hat with h | h
  · exact hd g (h ▸ hg) e
  · have := ho g e; rw [h] at hg; injection hg with hg; omega
theorem dj_right {w : World} {v v' o : Value} (hat : v'.ownBlock = v.ownBlock ∨ v'.ownBlock = some w.heap.size) (hd : ∀ g, o.ownBlock = some g → v.ownBlock ≠ some g) (ho : ∀ g, o.ownBlock = some g → g < w.heap.size) : ∀ g, o.ownBlock = some g → v'.ownBlock ≠ some g := fun g hg e => by
  rcases hat with h | h
  · exact hd g hg (h ▸ e)
  · have := ho g hg; rw [h] at e; injection e with e; omega
theorem ints_info : (Try.prog.info? 22).map (fun i => (i.zero, i.size, i.bytes)) = some (some (.slice none 0 0), 1, 24) := by kernel_rfl
theorem sz_le {W w1 : World} {n : Nat} (h : n ≤ W.heap.size) (hb : Below W.heap.size W w1) : n ≤ w1.heap.size := Nat.le_trans h hb.size
theorem blk_keep {W w1 : World} {g : Nat} {o : Obj} (h : W.heap[g]? = some o) (hb : Below W.heap.size W w1) : w1.heap[g]? = some o := (hb.block g (Array.getElem?_eq_some_iff.1 h).1).trans h
theorem heap_second (W : World) (o o' : Obj) : ((W.alloc o).alloc o').heap[W.heap.size + 1]? = some o' := by have := heap_alloc_new (W.alloc o) o'; simpa using this
theorem bel_of {wr wA w1 : World} {o : Option Nat} (_hg : wA.grownBy w1 o) (h : Below wr.heap.size wr wA) : Below wr.heap.size wr wA := h
theorem int_next (f : Nat → Int) (k : Nat) : rowL 1 (fun i _ => f i) k ++ [.int .i64 (f k)] = rowL 1 (fun i _ => f i) (k + 1) := rfl
theorem val_next (f : Nat → Value) (k : Nat) : rowG 1 (fun i _ => f i) k ++ [f k] = rowG 1 (fun i _ => f i) (k + 1) := rfl

theorem ap_own {w : World} {q b4 n : Nat} {ob oc x : Value} {f : Nat → Int} (h : Own w b4 3 1 x n (fun i _ => f i)) (hq : q < b4) (h1 : ∀ g, ob.ownBlock = some g → g < b4) (h2 : ∀ g, oc.ownBlock = some g → g < b4) : Ap q w ob oc x n f := fun W hW => by
  rcases Nat.eq_zero_or_pos n with h0 | h0
  · left
    refine ⟨h0, ?_⟩
    subst h0
    rcases h.2 with ⟨rfl, -⟩ | ⟨g, cap, cur, rfl, -, -, -, hc, -⟩
    · exact Or.inl rfl
    · exact Or.inr ⟨_, cap, rfl, hc⟩
  · obtain ⟨g, cap, rfl, hg, -, hn, hcap, hr⟩ := own_row h h0
    refine Or.inr ⟨h0, g, 0, cap, rfl, hn, hcap, fun k hk => ?_⟩
    have hg' : b4 ≤ g := hg
    refine hW _ _ (by show q < g; omega) (fun e => ?_) (fun e => ?_) ?_
    · have := h1 _ e; simp at this; omega
    · have := h2 _ e; simp at this; omega
    · have := hr.cell k hk 0 (Nat.succ_pos 0); simpa using this
theorem round_end {E : TypeId} {q i g1 k1 g2 k2 : Nat} {w2 w0 wr wA w9 wB w10 : World} {o ob oc x y : Value} {RB RC : Nat → Value} {d : Nat → Nat} {lk dd : Nat → Nat → Int}
    (hq : q < w2.heap.size) (hs : w2.heap.size ≤ wr.heap.size) (bx : Bx wr q o ob oc)
    (hob : OwnG wr w2.heap.size E 1 ob i (fun k _ => RB k)) (hoc : OwnG wr w2.heap.size E 1 oc i (fun k _ => RC k)) (dj : ∀ g, ob.ownBlock = some g → oc.ownBlock ≠ some g)
    (hB : ∀ k, k < i → Ap q wr ob oc (RB k) (d k) (lk k)) (hC : ∀ k, k < i → Ap q wr ob oc (RC k) (d k) (dd k)) (hx : Ap q wr ob oc x (d i) (lk i)) (hy : Ap q wr ob oc y (d i) (dd i))
    (kq : Kq q w2 wr) (hbl : Below q w0 wr)
    (hA1 : Below wr.heap.size wr wA) (hg1 : wA.grownBy w9 ob.ownBlock) (ha1 : ob.ownBlock = some g1 ∨ g1 = wA.heap.size) (ho1 : w9.ownsRow w2.heap.size E 1 (.slice (some ⟨g1, 0, none⟩) (i + 1) k1) (i + 1) (rowG 1 (fun k _ => RB k) i ++ [x]))
    (hA2 : Below w9.heap.size w9 wB) (hg2 : wB.grownBy w10 oc.ownBlock) (ha2 : oc.ownBlock = some g2 ∨ g2 = wB.heap.size) (ho2 : w10.ownsRow w2.heap.size E 1 (.slice (some ⟨g2, 0, none⟩) (i + 1) k2) (i + 1) (rowG 1 (fun k _ => RC k) i ++ [y])) :
    let v1 : Value := .slice (some ⟨g1, 0, none⟩) (i + 1) k1
    let v2 : Value := .slice (some ⟨g2, 0, none⟩) (i + 1) k2
    let W := (w10.setCell ⟨q, 1, none⟩ v1).setCell ⟨q, 2, none⟩ v2
    ∃ RB' RC' : Nat → Value, Bx W q o v1 v2 ∧ OwnG W w2.heap.size E 1 v1 (i + 1) (fun k _ => RB' k) ∧ OwnG W w2.heap.size E 1 v2 (i + 1) (fun k _ => RC' k) ∧ (∀ g, v1.ownBlock = some g → v2.ownBlock ≠ some g) ∧
      (∀ k, k < i + 1 → Ap q W v1 v2 (RB' k) (d k) (lk k)) ∧ (∀ k, k < i + 1 → Ap q W v1 v2 (RC' k) (d k) (dd k)) ∧ Kq q w2 W ∧ w2.heap.size ≤ W.heap.size ∧ Below q w0 W := by
  intro v1 v2 W
  have s1 := hA1.size; have s2 := hg1.size; have s3 := hA2.size; have s4 := hg2.size
  have qr : q < wr.heap.size := lt_of_cell bx.c0
  have lb := Own0.own_lt hob; have lc := Own0.own_lt hoc
  have gb := Own0.own_ge0 hob; have gc := Own0.own_ge0 hoc
  have b1 : v1.ownBlock = some g1 := rfl
  have b2 : v2.ownBlock = some g2 := rfl
  have nb : ob.ownBlock ≠ some q := fun e => by have := gb _ e; omega
  have nc : oc.ownBlock ≠ some q := fun e => by have := gc _ e; omega
  have BX9 : Bx w9 q o ob oc := bx_grow hg1 (fun e => nb e.symm) (bx_keep hA1 bx)
  have BX10 : Bx w10 q o ob oc := bx_grow hg2 (fun e => nc e.symm) (bx_keep hA2 BX9)
  have BXW : Bx W q o v1 v2 := bx_set2 (bx_set1 BX10 v1) v2
  have apart : ∀ a u, q < a.block → ob.ownBlock ≠ some a.block → oc.ownBlock ≠ some a.block → wr.cell? a = some u → W.cell? a = some u ∧ v1.ownBlock ≠ some a.block ∧ v2.ownBlock ≠ some a.block := by
    intro a u h0 h1 h2 hc
    have hl := lt_of_cell hc
    have hA := keep hA1 hc
    have h9 := (hg1.cell_far a (lt_of_cell hA) (fun e => h1 e.symm)).trans hA
    have hB := keep hA2 h9
    have h10 := (hg2.cell_far a (lt_of_cell hB) (fun e => h2 e.symm)).trans hB
    refine ⟨cfar _ (fun e => by have h0 : q < a.block := h0; rw [← e] at h0; exact absurd h0 (Nat.lt_irrefl _)) (cfar _ (fun e => by have h0 : q < a.block := h0; rw [← e] at h0; exact absurd h0 (Nat.lt_irrefl _)) h10), fun e => ?_, fun e => ?_⟩
    · rw [b1] at e; injection e with e
      rcases ha1 with h | h
      · exact h1 (by rw [h, e])
      · omega
    · rw [b2] at e; injection e with e
      rcases ha2 with h | h
      · exact h2 (by rw [h, e])
      · omega
  have D1 : ∀ g, v1.ownBlock = some g → oc.ownBlock ≠ some g := fun g hg e => by
    rw [b1] at hg; injection hg with hg; subst hg
    rcases ha1 with h | h
    · exact dj _ h e
    · have := lc _ e; omega
  have l1 : g1 < w9.heap.size := Own0.own_lt ho1 _ b1
  have D2 : ∀ g, v1.ownBlock = some g → v2.ownBlock ≠ some g := fun g hg e => by
    rw [b2] at e; injection e with e; subst e
    rcases ha2 with h | h
    · exact D1 _ hg h
    · rw [b1] at hg; injection hg with hg; omega
  have e1 : rowG 1 (fun k _ => RB k) i ++ [x] = rowG 1 (fun k _ => if k = i then x else RB k) (i + 1) := by
    rw [← val_next (fun k => if k = i then x else RB k) i, if_pos rfl]
    congr 1
    exact rowG_congr fun k hk j hj => by rw [if_neg (by omega)]
  have e2 : rowG 1 (fun k _ => RC k) i ++ [y] = rowG 1 (fun k _ => if k = i then y else RC k) (i + 1) := by
    rw [← val_next (fun k => if k = i then y else RC k) i, if_pos rfl]
    congr 1
    exact rowG_congr fun k hk j hj => by rw [if_neg (by omega)]
  rw [e1] at ho1; rw [e2] at ho2
  refine ⟨fun k => if k = i then x else RB k, fun k => if k = i then y else RC k, BXW, ?_, ?_, D2, fun k hk => ?_, fun k hk => ?_, ?_, ?_, ?_⟩
  · exact owns_far (owns_far (own_apart (Own0.own_below hA2 ho1) hg2 (fun g hg => D1 g hg)) _ hq _) _ hq _
  · exact owns_far (owns_far ho2 _ hq _) _ hq _
  · by_cases hki : k = i
    · subst hki; simp only [if_pos]; exact ap_step hx fun a u h0 h1 h2 hc => apart a u h0 h1 h2 hc
    · simp only [if_neg hki]; exact ap_step (hB k (by omega)) fun a u h0 h1 h2 hc => apart a u h0 h1 h2 hc
  · by_cases hki : k = i
    · subst hki; simp only [if_pos]; exact ap_step hy fun a u h0 h1 h2 hc => apart a u h0 h1 h2 hc
    · simp only [if_neg hki]; exact ap_step (hC k (by omega)) fun a u h0 h1 h2 hc => apart a u h0 h1 h2 hc
  · intro a u ha hc
    have hl := lt_of_cell hc
    exact (apart a u ha (fun e => by have := gb _ e; omega) (fun e => by have := gc _ e; omega) (kq a u ha hc)).1
  · show w2.heap.size ≤ _
    simp only [W, World.size_setCell]; omega
  · have h1 := Own0.grow_b (hbl.trans (hA1.mono (Nat.le_of_lt qr))) (Own0.own_below hA1 hob) hg1 (Nat.le_of_lt hq) (by omega)
    have h2 := Own0.grow_b (h1.trans (hA2.mono (by omega))) (Own0.own_below hA2 (own_apart (Own0.own_below hA1 hoc) hg1 (fun g hg e => dj g e hg))) hg2 (Nat.le_of_lt hq) (by omega)
    exact (h2.setCell (p := ⟨q, 1, none⟩) (Nat.le_refl _) v1).setCell (p := ⟨q, 2, none⟩) (Nat.le_refl _) v2
theorem lv_end {E : TypeId} {q b n : Nat} {wr : World} {ob oc v : Value} {RB : Nat → Value} {d : Nat → Nat} {f : Nat → Nat → Int} (h : OwnG wr b E 1 v n (fun k _ => RB k)) (hq : q < b) (hA : ∀ k, k < n → Ap q wr ob oc (RB k) (d k) (f k)) : ∀ W, Kq q wr W → LV W v n d f := fun W hW => by
  rcases Nat.eq_zero_or_pos n with h0 | h0
  · left
    refine ⟨h0, ?_⟩
    subst h0
    rcases h.2 with ⟨rfl, -⟩ | ⟨g, cap, cur, rfl, -, -, -, hc, -⟩
    · exact Or.inl rfl
    · exact Or.inr ⟨_, cap, rfl, hc⟩
  · obtain ⟨g, cap, rfl, hg, -, hn, hcap, hr⟩ := ownG_row h h0
    refine Or.inr ⟨h0, g, 0, cap, rfl, hn, hcap, fun k hk => ⟨RB k, ?_, ?_⟩⟩
    · have := hW ⟨g, k, none⟩ _ (by show q < g; omega) (by have := hr.cell k hk 0 (Nat.succ_pos 0); simpa using this)
      simpa using this
    · exact hA k hk W fun a u h1 _ _ hc => hW a u h1 hc
end Net
end Go.Proofs.Ytokioemmjfjhkaa
