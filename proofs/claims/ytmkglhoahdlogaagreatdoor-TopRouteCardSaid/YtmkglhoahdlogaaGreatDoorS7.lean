/- Joined texts: NetB, NetC. -/
import Derived.Test.YtmkglhoahdlogaaGreatDoorNetW
import Derived.Test.YtmkglhoahdlogaaGreatDoorS6
import Derived.Test.YtmkglhoahdlogaaGreatDoorS3
import Derived.Shelf.Spec.SearchS
import Derived.Shelf.Lay
import Derived.Ground.Names2Prog
import Derived.Test.YtmkglhoahdlogaaGreatDoorJ01
import Derived.OrdersHeld
import Derived.Deep.RegionHeld
import Derived.Test.YtmkglhoahdlogaaGreatDoorJ08
import Derived.Deep.RegionHeld3
import Derived.Test.YtmkglhoahdlogaaGreatDoorJ09
namespace Go.Proofs.YtmkglhoahdlogaaGreatDoor
open Go.RowKit
namespace Net
open Kit Chart Route
theorem str_info : (Tryz.prog.info? 9).map (fun i => (i.zero, i.size, i.bytes)) = some (some (.string ⟨#[]⟩), 1, 16) := by kernel_rfl
/-- The names of k fixes. -/
def nms (S : Nat → ByteArray) (g : Nat → Nat) (k : Nat) : List ByteArray := (List.range k).map fun i => S (g i)
theorem nms_len (S : Nat → ByteArray) (g : Nat → Nat) (k : Nat) : (nms S g k).length = k := by unfold nms; rw [List.length_map, List.length_range]
theorem nms_next (S : Nat → ByteArray) (g : Nat → Nat) (k : Nat) : vs (nms S g k) ++ [.string (S (g k))] = vs (nms S g (k + 1)) := by
  unfold nms vs
  rw [List.range_succ, List.map_append, List.map_append]; rfl
theorem ownS_nil (w : World) (base : Nat) (E : TypeId) : w.ownsRow base E 1 (.slice none 0 0) 0 (vs []) := ⟨by rfl, Or.inl ⟨rfl, rfl⟩⟩
set_option maxRecDepth 100000 in
set_option maxHeartbeats 4000000 in
theorem text_w (ba oa ca n cv N : Nat) (vA : Option Addr) (b c : Value) (S : Nat → ByteArray) (g : Nat → Nat) (w : World) (_hN : N ≤ 64) (hn : n ≤ 100) (_hca : N ≤ ca ∧ ca ≤ 9223372036854775807) (hcv : n ≤ cv ∧ cv ≤ 9223372036854775807) (hb : ∃ B1 n1 c1, b = .slice B1 n1 c1) (hc : ∃ B1 n1 c1, c = .slice B1 n1 c1)
    (HS : Hid (∀ k, k < N → w.cell? ⟨ba, oa + k, none⟩ = some (.string (S k)))) (HV : Hid (IV w (.slice vA n cv) n (fun i => (g i : Int)))) (HG : Hid (∀ k, k < n → g k < N)) :
    Calls Tryz.prog 29 #[.agg #[.slice (some ⟨ba, oa, none⟩) N ca, b, c], .slice vA n cv] w fun e w' => (∃ u, e = .returned u ∧ SL w' u (nms S g n)) ∧ Below w.heap.size w w' := by
  obtain ⟨B1, n1, c1, rfl⟩ := hb
  obtain ⟨C1, n2, c2, rfl⟩ := hc
  obtain ⟨i0, hi0, hz0, hz1, hz2⟩ := info_parts str_info
  have IF := Lib.hid (And.intro hi0 (And.intro hz0 (And.intro hz1 hz2))); clear hi0 hz0 hz1 hz2
  have B0 := Lib.hid (b_alloc (Below.refl w.heap.size w) (.cells #[.slice (some ⟨ba, oa, none⟩) N ca, .slice B1 n1 c1, .slice C1 n2 c2] 80))
  have X0 : Hid ((w.alloc (.cells #[.slice (some ⟨ba, oa, none⟩) N ca, .slice B1 n1 c1, .slice C1 n2 c2] 80)).cell? ⟨w.heap.size, 0, none⟩ = some (.slice (some ⟨ba, oa, none⟩) N ca)) := Lib.hid (by simp)
  go_enter Tryz.func29, Tryz.ntmps29
  go_wp2_with fail
  obtain ⟨w0, hw0⟩ : ∃ w0, w0 = w.alloc (.cells #[.slice (some ⟨ba, oa, none⟩) N ca, .slice B1 n1 c1, .slice C1 n2 c2] 80) := ⟨_, rfl⟩
  rw [← hw0] at B0 X0 ⊢
  clear hw0
  go_loopw [5, 10] (fun o s wr => ∃ k : Nat, k ≤ n ∧ s = .int .i64 k ∧ wr.ownsRow w0.heap.size 9 1 o k (vs (nms S g k)) ∧ Below w0.heap.size w0 wr) (fun _ s _ => n - (intOf s).toNat)
  case atStart => exact ⟨0, Nat.zero_le _, rfl, ownS_nil _ _ _, Below.refl _ _⟩
  case round =>
    obtain ⟨k, hk, rfl, hown, hbl⟩ := hrel
    have OW := Lib.hid hown; have BR := Lib.hid hbl; clear hown
    by_cases hlt : k < n
    · have hl : (k : Int) < (n : Int) := by omega
      obtain ⟨b2, f2, c2', e2, -, -, hcl2⟩ := iv_at HV.out (show 0 < n by omega)
      injection e2 with e2 _ e3
      subst e2 e3
      have x0 := keep hbl (keep B0.out (hcl2 k hlt))
      have x1 := keep hbl X0.out
      have hg := HG.out k hlt
      have x2 := keep hbl (keep B0.out (HS.out (g k) hg))
      have hgi : (g k : Int) < (N : Int) := by omega
      have NXT := Lib.hid (nms_next S g k)
      generalize S (g k) = sk at *
      generalize g k = gk at *
      have B9 := b_alloc (Below.refl wr.heap.size wr) (.cells #[.string sk] 9)
      have OS := Lib.hid (Own0.own_below B9 OW.out)
      have NS := Lib.hid (new1 wr 9 (.string sk))
      have B10 := Lib.hid (b_next BR.out B9)
      have NB := Lib.hid B10.out.size
      clear B9 hbl hcl2
      go_wp2_with (at_builtin; refine wpList_append_own_at _ rfl (.tmp 14) (.tmp 20) 22 rfl w0.heap.size 9 i0 _ 1 16 Tryz.underlying22 IF.out.1 IF.out.2.1 IF.out.2.2.1 IF.out.2.2.2 rfl (by decide) _ k _ rfl OS.out ⟨wr.heap.size, 0, none⟩ 1 1 [.string sk] rfl rfl NS.out (by simp [Value.oneCell']) (by unfold maxLen; omega) (by omega) NB.out ?_; intro v2 w9 hown1' hg1' hnil1 hat1'; have hown1 := Lib.hid hown1'; have hg1 := Lib.hid hg1'; clear hnil1 hown1' hg1' hat1')
      have B11 := Lib.hid (Own0.grow_b B10.out OS.out hg1.out (Nat.le_refl _) NB.out)
      clear x0 x1 x2
      go_wp2_with fail
      go_roundw
      case rel => exact ⟨k + 1, by omega, by go_num, by have q := hown1.out; rw [NXT.out] at q; exact q, B11.out⟩
      case measure => simp [intOf]; omega
    · obtain rfl : k = n := by omega
      have hl : ¬ (k : Int) < (k : Int) := by omega
      have SS : Hid (SL wr u5 (nms S g k)) := Lib.hid (sl_own (by rw [nms_len]; exact OW.out))
      have BF := Lib.hid (b_next B0.out hbl); clear hbl
      go_wp2_with fail
      go_ret
      exact ⟨⟨_, rfl, SS.out⟩, BF.out⟩
end Net
end Go.Proofs.YtmkglhoahdlogaaGreatDoor
namespace Go.Proofs.YtmkglhoahdlogaaGreatDoor
open Go.RowKit Go.Shelf
shelf_lay Lays2.n26 Nm2 26 at Tryz as searchLays
namespace Net
open Kit Chart
/-- Names that ascend. -/
def Srt (S : Nat → ByteArray) (n : Nat) : Prop := ∀ i j, i < j → j < n → Op.bytesLess (S i).toList (S j).toList = true
theorem srt_inj {S : Nat → ByteArray} {n : Nat} (h : Srt S n) {i j : Nat} (hi : i < n) (hj : j < n) (e : S i = S j) : i = j := by
  rcases Nat.lt_trichotomy i j with q | q | q
  · have := h i j q hj
    rw [e, bl_irr] at this
    cases this
  · exact q
  · have := h j i q hi
    rw [e, bl_irr] at this
    cases this
theorem bl_asym {x y : List UInt8} (h : Op.bytesLess x y = true) : Op.bytesLess y x = false := by
  cases q : Op.bytesLess y x with
  | false => rfl
  | true =>
    have := bl_trans h q
    rw [bl_irr] at this
    cases this
/-- A point before which all are less and from which on none is. -/
theorem part {p : Nat → Bool} : ∀ n, (∀ i j, i < j → j < n → p j = true → p i = true) → ∃ k, k ≤ n ∧ (∀ t, t < k → p t = true) ∧ ∀ t, k ≤ t → t < n → p t = false
  | 0, _ => ⟨0, Nat.le_refl _, fun t h => absurd h (Nat.not_lt_zero t), fun t _ h => absurd h (Nat.not_lt_zero t)⟩
  | n + 1, h => by
    obtain ⟨k, h1, h2, h3⟩ := part n fun i j hij hj => h i j hij (by omega)
    cases q : p n with
    | true =>
      refine ⟨n + 1, Nat.le_refl _, fun t ht => ?_, fun t h4 h5 => by omega⟩
      by_cases e : t = n
      · rw [e]; exact q
      · exact h t n (by omega) (by omega) q
    | false =>
      refine ⟨k, by omega, h2, fun t h4 h5 => ?_⟩
      by_cases e : t = n
      · rw [e]; exact q
      · exact h3 t h4 (by omega)
/-- slices.BinarySearch at ascending names. -/
def FndR (S : Nat → ByteArray) (n : Nat) (x : ByteArray) (e : Ending) : Prop := (∃ k, k < n ∧ S k = x ∧ e = .returned (.tuple #[.int .i64 (k : Int), .bool true])) ∨ ((∀ k, k < n → S k ≠ x) ∧ ∃ k : Nat, k ≤ n ∧ e = .returned (.tuple #[.int .i64 (k : Int), .bool false]))
theorem searchC {w : World} {v : Value} {n : Nat} {S : Nat → ByteArray} (hv : SV w v n S) (hs : Srt S n) (hn : n ≤ 1000000) (x : ByteArray) :
    Calls Tryz.prog 83 #[v, .string x] w fun e w' => FndR S n x e ∧ Below w.heap.size w w' := by
  rcases hv with ⟨h0, hnil⟩ | ⟨h0, b, off, cap, rfl, h1, h2, h3⟩
  · subst h0
    obtain ⟨A, c, rfl⟩ := nil0_slice hnil
    have hcon := Any2.slices_BinarySearch_string_empty searchLays A c x w
    change Calls Tryz.prog 83 _ _ _ at hcon
    refine hcon.mono ?_
    rintro e w' ⟨rfl, rfl⟩
    exact ⟨Or.inr ⟨fun k hk => absurd hk (Nat.not_lt_zero k), 0, Nat.le_refl _, rfl⟩, Below.refl _ _⟩
  · obtain ⟨T, hT⟩ : ∃ T : Nat → ByteArray, T = fun t => if t < n then S t else x := ⟨_, rfl⟩
    have Tin : ∀ t, t < n → T t = S t := fun t ht => by rw [hT]; exact if_pos ht
    have Tout : ∀ t, ¬ t < n → T t = x := fun t ht => by rw [hT]; exact if_neg ht
    have hcon := Any2.slices_BinarySearch_string searchLays b off n cap T x w (by omega) (fun j hj => by rw [Tin j hj]; exact h3 j hj)
    change Calls Tryz.prog 83 _ _ _ at hcon
    obtain ⟨k, k1, k2, k3⟩ := part (p := fun t => Op.bytesLess (T t).toList x.toList) n fun i j hij hj q => by
      have a := hs i j hij hj
      rw [Tin j hj] at q
      rw [Tin i (by omega)]
      exact bl_trans a q
    have hsp := Lib.bsGo_spec (fun t => Op.bytesLess (T t).toList x.toList) k k2 (fun t ht => by
      by_cases q : t < n
      · exact k3 t ht q
      · rw [Tout t q]; exact bl_irr _) n 0 n (by omega) (by omega) k1
    rw [hsp] at hcon
    refine hcon.mono ?_
    rintro e w' ⟨rfl, q, rfl⟩
    refine ⟨?_, b_drewN (Below.refl _ _) q⟩
    by_cases g : k < n ∧ T k = x
    · rw [decide_eq_true g]
      exact Or.inl ⟨k, g.1, by rw [← Tin k g.1]; exact g.2, rfl⟩
    · rw [decide_eq_false g]
      refine Or.inr ⟨fun j hj e => ?_, k, k1, rfl⟩
      have kj : k = j := by
        rcases Nat.lt_trichotomy k j with q | q | q
        · -- place k is less than place j, so less than x
          have a := hs k j q hj
          have c := k3 k (Nat.le_refl _) (by omega)
          rw [Tin k (by omega), ← e, a] at c
          cases c
        · exact q
        · have c := k2 j q
          rw [Tin j hj, e, bl_irr] at c
          cases c
      subst kj
      exact g ⟨hj, by rw [Tin k hj]; exact e⟩
/-- (net).find. -/
def PosR (S : Nat → ByteArray) (n : Nat) (x : ByteArray) (e : Ending) : Prop := (∃ k, k < n ∧ S k = x ∧ e = .returned (.int .i64 (k : Int))) ∨ ((∀ k, k < n → S k ≠ x) ∧ e = .returned (.int .i64 (-1)))
set_option maxRecDepth 100000 in
set_option maxHeartbeats 2000000 in
theorem find_w (a b c : Value) (x : ByteArray) (S : Nat → ByteArray) (n : Nat) (w : World) (SC : Hid (∀ w1, Below w.heap.size w w1 → Calls Tryz.prog 83 #[a, .string x] w1 fun e w' => FndR S n x e ∧ Below w1.heap.size w1 w')) :
    Calls Tryz.prog 52 #[.agg #[a, b, c], .string x] w fun e w' => PosR S n x e ∧ Below w.heap.size w w' := by
  have W0 := Lib.hid (b_alloc (Below.refl w.heap.size w) (.cells #[a, b, c] 80))
  go_enter Tryz.func52, Tryz.ntmps52
  go_wp2_with fail
  (with_reducible refine (SC.out _ W0.out).mono ?_); rintro e w1 ⟨hr, hb⟩
  have W1 := Lib.hid (b_next W0.out hb); clear hb
  rcases hr with ⟨k, h1, h2, rfl⟩ | ⟨h1, k, -, rfl⟩
  · have H1 := Lib.hid h1; have H2 := Lib.hid h2; clear h1 h2
    go_wp2_with fail
    go_ret
    exact ⟨Or.inl ⟨k, H1.out, H2.out, rfl⟩, W1.out⟩
  · have H1 := Lib.hid h1; clear h1
    go_wp2_with fail
    go_ret
    exact ⟨Or.inr ⟨H1.out, rfl⟩, W1.out⟩
open Short in
theorem findC {w : World} {v : Value} {G : Gr} {S : Nat → ByteArray} (hv : NV w v G S) (hs : Srt S G.N) (hn : G.N ≤ 1000000) (x : ByteArray) :
    Calls Tryz.prog 52 #[v, .string x] w fun e w' => PosR S G.N x e ∧ Below w.heap.size w w' := by
  obtain ⟨a, b, c, rfl, h1, -, -⟩ := hv.ex
  exact find_w a b c x S G.N w (Lib.hid fun _ hb => searchC (sv_keep hb h1) hs hn x)
end Net
end Go.Proofs.YtmkglhoahdlogaaGreatDoor
namespace Go.Proofs.YtmkglhoahdlogaaGreatDoor
namespace Late
section
variable {P : Program} {ops : Array Oper} {Q : Exit → Act → World → Prop} {md : Region.Mode} {S : World → Prop} {s : Nat}
/-- Whatever order is taken, S holds behind each operation until number s has been carried out. -/
def Any (P : Program) (md : Region.Mode) (ops : Array Oper) (Q : Exit → Act → World → Prop) (S : World → Prop) (s : Nat) : Nat → Array Bool → Act → World → Prop
  | 0, L, a, w => Region.ready md ops L = [] ∧ Q .normal a w
  | n + 1, L, a, w => (Region.ready md ops L = [] → Q .normal a w) ∧ ∀ i ∈ Region.ready md ops L, wpOp P ops Q i (fun a' w' => ((L.setIfInBounds i true).getD s false = false → S w') ∧ Any P md ops Q S s n (L.setIfInBounds i true) a' w') a w
theorem any_of : ∀ (n : Nat) (L : Array Bool) (a : Act) (w : World), Any P md ops Q S s n L a w → wpAny P md ops Q n L a w
  | 0, _, _, _, h => h
  | n + 1, _, _, _, h => ⟨h.1, fun i hi => wpOp_mono (fun a' w' q => any_of n _ a' w' q.2) (h.2 i hi)⟩
theorem set_far {L : Array Bool} {i j : Nat} (h : i ≠ j) : (L.setIfInBounds i true).getD j false = L.getD j false := getD_set_ne false h
/-- Number s waits for number i. -/
def waits (md : Region.Mode) (ops : Array Oper) (s i : Nat) : Bool := match ops[s]? with
  | some o => o.after.any fun e => Region.binds md e && e.on == i
  | none => false
theorem waits_not {i : Nat} {L : Array Bool} (h : waits md ops s i = true) (hi : L.getD i true = false) : s ∉ Region.ready md ops L := fun hr => by
  obtain ⟨-, o, ho, hall⟩ := mem_ready.1 hr
  unfold waits at h
  rw [ho] at h
  obtain ⟨k, hk, q⟩ := Array.any_eq_true.1 h
  obtain ⟨e, rfl⟩ : ∃ e, e = o.after[k] := ⟨_, rfl⟩
  have he : o.after[k] ∈ o.after := Array.getElem_mem hk
  rw [Bool.and_eq_true, beq_iff_eq] at q
  have h1 := hall _ he q.1
  rw [q.2] at h1
  rcases Nat.lt_or_ge i L.size with g | g
  · simp [g] at h1 hi; rw [h1] at hi; cases hi
  · simp [Array.getElem?_eq_none g] at h1
theorem first {i : Nat} {oi : Oper} {v : Value} (hi : ops[i]? = some oi) (hw : waits md ops s i = true) (hsi : s ≠ i) (hsel : ∀ (j : Nat) (o : Oper) cs b, ops[j]? = some o → o.op ≠ .select cs b)
    (hQ : ∀ c a w, Q (.panic c) (a.put oi.dst v) w → Q (.panic c) a w) :
    ∀ (n : Nat) (L : Array Bool) (a : Act) (w : World),
      (∀ j oj, ops[j]? = some oj → j ≠ i → L.getD j true = false → (∀ e ∈ oj.after, Region.binds md e = true → e.on ≠ i) → oi.apart ops oj = true) →
      i ∈ Region.ready md ops L → L.getD s false = false → YieldsIf P ops S oi v a → S w →
      Any P md ops Q S s n (L.setIfInBounds i true) (a.put oi.dst v) w → Any P md ops Q S s (n + 1) L a w := by
  intro n
  induction n with
  | zero =>
    intro L a w _ hr hs hy hS H
    refine ⟨fun h => (by rw [h] at hr; cases hr), fun j hj => ?_⟩
    by_cases hji : j = i
    · subst hji; exact hy.wpOp hi hS ⟨fun _ => hS, H⟩
    · have := ready_mono hj hji
      rw [H.1] at this
      cases this
  | succ n ih =>
    intro L a w hfree hr hs hy hS H
    refine ⟨fun h => (by rw [h] at hr; cases hr), fun j hj => ?_⟩
    by_cases hji : j = i
    · subst hji; exact hy.wpOp hi hS ⟨fun _ => hS, H⟩
    · have h1 := H.2 j (ready_mono hj hji)
      obtain ⟨hjun, oj, hoj, hall⟩ := mem_ready.1 hj
      have hjs : j ≠ s := fun e => waits_not hw (mem_ready.1 hr).1 (e ▸ hj)
      have hnot : ∀ e ∈ oj.after, Region.binds md e = true → e.on ≠ i := fun e he hb heq => by
        have h1 := hall e he hb
        have h0 := (mem_ready.1 hr).1
        rw [heq] at h1
        rcases Nat.lt_or_ge i L.size with g | g
        · simp [g] at h0 h1; rw [h0] at h1; cases h1
        · simp [Array.getElem?_eq_none g] at h1
      have h2 := wpOp_putIf hoj (hfree j oj hoj hji hjun hnot) (fun cs b => hsel i oi cs b hi) (fun cs b => hsel j oj cs b hoj) hQ hy h1
      have hfree' : ∀ k ok, ops[k]? = some ok → k ≠ i → (L.setIfInBounds j true).getD k true = false → (∀ e ∈ ok.after, Region.binds md e = true → e.on ≠ i) → oi.apart ops ok = true := fun k ok hk hki hun hno => by
        refine hfree k ok hk hki ?_ hno
        by_cases hjk : j = k
        · subst hjk; exact hjun
        · rw [getD_set_ne true hjk] at hun; exact hun
      have hs' : (L.setIfInBounds j true).getD s false = false := by rw [set_far hjs]; exact hs
      refine wpOp_mono (fun a' w' q => ?_) h2
      have hS' : S w' := q.2.1 (by rw [set_far hjs, set_far (Ne.symm hsi)]; exact hs)
      refine ⟨fun _ => hS', ih (L.setIfInBounds j true) a' w' hfree' (ready_mono hr (Ne.symm hji)) hs' q.1 hS' ?_⟩
      rw [Array.setIfInBounds_comm _ _ hji]
      exact q.2.2
theorem first0 {i : Nat} {oi : Oper} {v : Value} (hi : ops[i]? = some oi) (hsi : s ≠ i) (hsel : ∀ (j : Nat) (o : Oper) cs b, ops[j]? = some o → o.op ≠ .select cs b)
    (hQ : ∀ c a w, Q (.panic c) (a.put oi.dst v) w → Q (.panic c) a w) :
    ∀ (n : Nat) (L : Array Bool) (a : Act) (w : World),
      (∀ j oj, ops[j]? = some oj → j ≠ i → L.getD j true = false → (∀ e ∈ oj.after, Region.binds md e = true → e.on ≠ i) → oi.apart ops oj = true) →
      i ∈ Region.ready md ops L → YieldsIf P ops (fun _ => True) oi v a → (L.getD s false = false → S w) →
      Any P md ops Q S s n (L.setIfInBounds i true) (a.put oi.dst v) w → Any P md ops Q S s (n + 1) L a w := by
  intro n
  induction n with
  | zero =>
    intro L a w _ hr hy hS H
    refine ⟨fun h => (by rw [h] at hr; cases hr), fun j hj => ?_⟩
    by_cases hji : j = i
    · subst hji; exact hy.wpOp hi trivial ⟨fun h => hS (by rw [set_far (Ne.symm hsi)] at h; exact h), H⟩
    · have := ready_mono hj hji
      rw [H.1] at this
      cases this
  | succ n ih =>
    intro L a w hfree hr hy hS H
    refine ⟨fun h => (by rw [h] at hr; cases hr), fun j hj => ?_⟩
    by_cases hji : j = i
    · subst hji; exact hy.wpOp hi trivial ⟨fun h => hS (by rw [set_far (Ne.symm hsi)] at h; exact h), H⟩
    · have h1 := H.2 j (ready_mono hj hji)
      obtain ⟨hjun, oj, hoj, hall⟩ := mem_ready.1 hj
      have hnot : ∀ e ∈ oj.after, Region.binds md e = true → e.on ≠ i := fun e he hb heq => by
        have h1 := hall e he hb
        have h0 := (mem_ready.1 hr).1
        rw [heq] at h1
        rcases Nat.lt_or_ge i L.size with g | g
        · simp [g] at h0 h1; rw [h0] at h1; cases h1
        · simp [Array.getElem?_eq_none g] at h1
      have h2 := wpOp_putIf hoj (hfree j oj hoj hji hjun hnot) (fun cs b => hsel i oi cs b hi) (fun cs b => hsel j oj cs b hoj) hQ hy h1
      have hfree' : ∀ k ok, ops[k]? = some ok → k ≠ i → (L.setIfInBounds j true).getD k true = false → (∀ e ∈ ok.after, Region.binds md e = true → e.on ≠ i) → oi.apart ops ok = true := fun k ok hk hki hun hno => by
        refine hfree k ok hk hki ?_ hno
        by_cases hjk : j = k
        · subst hjk; exact hjun
        · rw [getD_set_ne true hjk] at hun; exact hun
      refine wpOp_mono (fun a' w' q => ?_) h2
      have hS' : (L.setIfInBounds j true).getD s false = false → S w' := fun h => q.2.1 (by rw [Array.setIfInBounds_comm _ _ (Ne.symm hji), set_far (Ne.symm hsi)]; exact h)
      refine ⟨hS', ih (L.setIfInBounds j true) a' w' hfree' (ready_mono hr (Ne.symm hji)) q.1 hS' ?_⟩
      rw [Array.setIfInBounds_comm _ _ hji]
      exact q.2.2
/-- Number i first, that yields the same in every world. -/
theorem take0 {i : Nat} {oi : Oper} {v : Value} {n : Nat} {L : Array Bool} {a : Act} {w : World} (hi : ops[i]? = some oi) (hc : (Region.noSelect ops && Region.free md ops L i && (Region.ready md ops L).contains i && s != i) = true)
    (hQ : ∀ c a w, Q (.panic c) (a.put oi.dst v) w → Q (.panic c) a w) (hy : YieldsIf P ops (fun _ => True) oi v a) (hS : S w)
    (h : Any P md ops Q S s n (L.setIfInBounds i true) (a.put oi.dst v) w) : Any P md ops Q S s (n + 1) L a w := by
  simp only [Bool.and_eq_true, bne_iff_ne] at hc
  obtain ⟨⟨⟨h1, h2⟩, h3⟩, h5⟩ := hc
  exact first0 hi h5 (Region.noSelect_spec h1) hQ n L a w (Region.free_spec hi h2) (by simpa using h3) hy (fun _ => hS) h
/-- Number i first. -/
theorem take {i : Nat} {oi : Oper} {v : Value} {n : Nat} {L : Array Bool} {a : Act} {w : World} (hi : ops[i]? = some oi) (hc : (Region.noSelect ops && Region.free md ops L i && (Region.ready md ops L).contains i && waits md ops s i && s != i && !L.getD s false) = true)
    (hQ : ∀ c a w, Q (.panic c) (a.put oi.dst v) w → Q (.panic c) a w) (hy : YieldsIf P ops S oi v a) (hS : S w)
    (h : Any P md ops Q S s n (L.setIfInBounds i true) (a.put oi.dst v) w) : Any P md ops Q S s (n + 1) L a w := by
  simp only [Bool.and_eq_true, Bool.not_eq_true', bne_iff_ne] at hc
  obtain ⟨⟨⟨⟨⟨h1, h2⟩, h3⟩, h4⟩, h5⟩, h6⟩ := hc
  exact first hi h4 h5 (Region.noSelect_spec h1) hQ n L a w (Region.free_spec hi h2) (by simpa using h3) h6 hy hS h
/-- Each of some comes up next. -/
def Each (P : Program) (md : Region.Mode) (ops : Array Oper) (Q : Exit → Act → World → Prop) (S : World → Prop) (s n : Nat) (L : Array Bool) (a : Act) (w : World) (rs : List Nat) : Prop :=
  ∀ i ∈ rs, wpOp P ops Q i (fun a' w' => ((L.setIfInBounds i true).getD s false = false → S w') ∧ Any P md ops Q S s n (L.setIfInBounds i true) a' w') a w
theorem each_nil {n : Nat} {L : Array Bool} {a : Act} {w : World} : Each P md ops Q S s n L a w [] := fun _ h => by cases h
theorem each_cons {n : Nat} {L : Array Bool} {a : Act} {w : World} {i : Nat} {o : Oper} {rs : List Nat} (ho : ops[i]? = some o)
    (h : ∀ K' : Act → World → Prop, Shut (∀ a w, ((L.setIfInBounds i true).getD s false = false → S w) → Any P md ops Q S s n (L.setIfInBounds i true) a w → K' a w) → if Region.wanted o (yielded ops a.tmps) = true then Oper.wp P o a w K' Q else K' (a.put o.dst undef) w)
    (hs : Each P md ops Q S s n L a w rs) : Each P md ops Q S s n L a w (i :: rs) := fun j hj => by
  rcases List.mem_cons.1 hj with rfl | hj
  · exact wpOp_step ho (fun K' hK => h K' (fun a w hS hW => hK a w ⟨hS, hW⟩))
  · exact hs j hj
theorem ready {rs : List Nat} {n : Nat} {L : Array Bool} {a : Act} {w : World} (hr : Region.ready md ops L = rs) (hne : rs ≠ [])
    (h : Each P md ops Q S s n L a w rs) : Any P md ops Q S s (n + 1) L a w := ⟨fun h0 => absurd (hr ▸ h0) hne, hr ▸ h⟩
theorem done {L : Array Bool} {a : Act} {w : World} (hr : Region.ready md ops L = []) (h : Q .normal a w) : ∀ n, Any P md ops Q S s n L a w
  | 0 => ⟨hr, h⟩
  | _ + 1 => ⟨fun _ => h, by rw [hr]; simp⟩
theorem region {id : Nat} {a : Act} {w : World} (S : World → Prop) (s : Nat) (hm : P.follows .mixedOrders = true)
    (h : Any P .any ops Q S s ops.size (Array.replicate ops.size false) a w.drew) : (Code.region id ops true).wp P Q a w :=
  wp_region_any hm (any_of _ _ _ _ h)
end
end Late
end Go.Proofs.YtmkglhoahdlogaaGreatDoor
namespace Go.Proofs.YtmkglhoahdlogaaGreatDoor
open Go.RowKit
namespace Net
open Kit Chart Route
/-- The net under way. -/
structure Bx (w : World) (q : Nat) (a b c : Value) : Prop where
  c0 : w.cell? ⟨q, 0, none⟩ = some a
  c1 : w.cell? ⟨q, 1, none⟩ = some b
  c2 : w.cell? ⟨q, 2, none⟩ = some c
  f0 : w.frozen? ⟨q, 0, none⟩ = false
  f1 : w.frozen? ⟨q, 1, none⟩ = false
  f2 : w.frozen? ⟨q, 2, none⟩ = false
theorem bx_new (w : World) (t : TypeId) (a b c : Value) : Bx (w.alloc (.cells #[a, b, c] t)) w.heap.size a b c := ⟨by simp, by simp, by simp, by simp, by simp, by simp⟩
theorem bx_keep {W w1 : World} (hb : Below W.heap.size W w1) {q : Nat} {a b c : Value} (h : Bx W q a b c) : Bx w1 q a b c := ⟨keep hb h.c0, keep hb h.c1, keep hb h.c2, keepF hb h.c0 h.f0, keepF hb h.c1 h.f1, keepF hb h.c2 h.f2⟩
theorem bx_keepN {N : Nat} {W w1 : World} (hb : Below N W w1) {q : Nat} (hq : q < N) {a b c : Value} (h : Bx W q a b c) : Bx w1 q a b c :=
  ⟨keepN hb hq h.c0, keepN hb hq h.c1, keepN hb hq h.c2, (hb.frozen (p := ⟨q, 0, none⟩) hq).trans h.f0, (hb.frozen (p := ⟨q, 1, none⟩) hq).trans h.f1, (hb.frozen (p := ⟨q, 2, none⟩) hq).trans h.f2⟩
theorem bx_grow {W w1 : World} {o : Option Nat} (hg : W.grownBy w1 o) {q : Nat} (hq : some q ≠ o) {a b c : Value} (h : Bx W q a b c) : Bx w1 q a b c :=
  ⟨(hg.cell_far ⟨q, 0, none⟩ (lt_of_cell h.c0) hq).trans h.c0, (hg.cell_far ⟨q, 1, none⟩ (lt_of_cell h.c1) hq).trans h.c1, (hg.cell_far ⟨q, 2, none⟩ (lt_of_cell h.c2) hq).trans h.c2, (hg.frozen_far ⟨q, 0, none⟩ (lt_of_cell h.c0) hq).trans h.f0, (hg.frozen_far ⟨q, 1, none⟩ (lt_of_cell h.c1) hq).trans h.f1, (hg.frozen_far ⟨q, 2, none⟩ (lt_of_cell h.c2) hq).trans h.f2⟩
theorem bx_set0 {w : World} {q : Nat} {a b c : Value} (h : Bx w q a b c) (y : Value) : Bx (w.setCell ⟨q, 0, none⟩ y) q y b c := ⟨cset _ h.c0, cfar _ (by simp) h.c1, cfar _ (by simp) h.c2, (World.frozen?_setCell _ _ _ _).trans h.f0, (World.frozen?_setCell _ _ _ _).trans h.f1, (World.frozen?_setCell _ _ _ _).trans h.f2⟩
theorem bx_set1 {w : World} {q : Nat} {a b c : Value} (h : Bx w q a b c) (y : Value) : Bx (w.setCell ⟨q, 1, none⟩ y) q a y c := ⟨cfar _ (by simp) h.c0, cset _ h.c1, cfar _ (by simp) h.c2, (World.frozen?_setCell _ _ _ _).trans h.f0, (World.frozen?_setCell _ _ _ _).trans h.f1, (World.frozen?_setCell _ _ _ _).trans h.f2⟩
theorem bx_set2 {w : World} {q : Nat} {a b c : Value} (h : Bx w q a b c) (y : Value) : Bx (w.setCell ⟨q, 2, none⟩ y) q a b y := ⟨cfar _ (by simp) h.c0, cfar _ (by simp) h.c1, cset _ h.c2, (World.frozen?_setCell _ _ _ _).trans h.f0, (World.frozen?_setCell _ _ _ _).trans h.f1, (World.frozen?_setCell _ _ _ _).trans h.f2⟩
theorem owns_far {w : World} {base : Nat} {E : TypeId} {C n : Nat} {v : Value} {xs : List Value} (h : w.ownsRow base E C v n xs) (a : Addr) (ha : a.block < base) (u : Value) : (w.setCell a u).ownsRow base E C v n xs := by
  refine ⟨h.1, ?_⟩
  rcases h.2 with hh | ⟨g, cap, cur, hv, hb, hg, h2⟩
  · exact Or.inl hh
  · refine Or.inr ⟨g, cap, cur, hv, hb, ?_, h2⟩
    have hne : ¬ a.block = g := by omega
    rw [← hg]
    simp [World.setCell, Array.getElem?_modify, hne]
/-- All cells behind a block are as they were. -/
def Kq (q : Nat) (w W : World) : Prop := ∀ a u, q < a.block → w.cell? a = some u → W.cell? a = some u
theorem kq_refl (q : Nat) (w : World) : Kq q w w := fun _ _ _ h => h
theorem kq_below {q : Nat} {w W w1 : World} (hb : Below W.heap.size W w1) (h : Kq q w W) : Kq q w w1 := fun a u ha hc => keep hb (h a u ha hc)
theorem kq_grow {q : Nat} {w W w1 : World} {o : Option Nat} (hg : W.grownBy w1 o) (ho : ∀ g, o = some g → w.heap.size ≤ g) (h : Kq q w W) : Kq q w w1 := fun a u ha hc =>
  (hg.cell_far a (lt_of_cell (h a u ha hc)) (fun e => by have := ho _ e.symm; have := lt_of_cell hc; omega)).trans (h a u ha hc)
theorem kq_set {q : Nat} {w W : World} (h : Kq q w W) (p : Addr) (hp : p.block ≤ q) (y : Value) : Kq q w (W.setCell p y) := fun a u ha hc => cfar _ (fun e => by have ha : q < a.block := ha; rw [← e] at ha; omega) (h a u ha hc)
theorem kq_trans {q : Nat} {w1 w2 w3 : World} (h1 : Kq q w1 w2) (h2 : Kq q w2 w3) : Kq q w1 w3 := fun a u ha hc => h2 a u ha (h1 a u ha hc)
theorem kq_mono {p q : Nat} {w W : World} (hpq : p ≤ q) (h : Kq p w W) : Kq q w W := fun a u ha hc => h a u (Nat.lt_of_le_of_lt hpq ha) hc
/-- All cells from a block on are as they were. -/
def Kg (N : Nat) (w W : World) : Prop := ∀ a u, N ≤ a.block → w.cell? a = some u → W.cell? a = some u
/-- A list of numbers that lies apart from two rows. -/
def Ap (q : Nat) (w : World) (ob oc v : Value) (d : Nat) (f : Nat → Int) : Prop := ∀ W : World, (∀ a u, q < a.block → ob.ownBlock ≠ some a.block → oc.ownBlock ≠ some a.block → w.cell? a = some u → W.cell? a = some u) → IV W v d f
theorem ap_iv {q : Nat} {w : World} {ob oc v : Value} {d : Nat} {f : Nat → Int} (h : Ap q w ob oc v d f) : IV w v d f := h w fun _ _ _ _ _ h => h
theorem ap_keep {q : Nat} {w w1 : World} {ob oc v : Value} {d : Nat} {f : Nat → Int} (hb : Below w.heap.size w w1) (h : Ap q w ob oc v d f) : Ap q w1 ob oc v d f := fun W hW => h W fun a u h1 h2 h3 hc => hW a u h1 h2 h3 (keep hb hc)
theorem ap_step {q : Nat} {w w1 : World} {ob oc ob1 oc1 v : Value} {d : Nat} {f : Nat → Int} (h : Ap q w ob oc v d f) (hs : ∀ a u, q < a.block → ob.ownBlock ≠ some a.block → oc.ownBlock ≠ some a.block → w.cell? a = some u → w1.cell? a = some u ∧ ob1.ownBlock ≠ some a.block ∧ oc1.ownBlock ≠ some a.block) : Ap q w1 ob1 oc1 v d f := fun W hW => h W fun a u h1 h2 h3 hc => hW a u h1 (hs a u h1 h2 h3 hc).2.1 (hs a u h1 h2 h3 hc).2.2 (hs a u h1 h2 h3 hc).1
theorem sv_row {w : World} {g n cap : Nat} {S : Nat → ByteArray} (h0 : 0 < n) (h1 : n ≤ cap) (h2 : cap ≤ maxLen) (h : ∀ k, k < n → w.cell? ⟨g, k, none⟩ = some (.string (S k))) : SV w (.slice (some ⟨g, 0, none⟩) n cap) n S :=
  Or.inr ⟨h0, g, 0, cap, rfl, h1, h2, fun k hk => by have := h k hk; simpa using this⟩
/-- The names, sorted, seen from any world that keeps them. -/
theorem sorted_sv {q n : Nat} {w w2 : World} {o : Value} {L : List ByteArray} (hn : L.length = n) (h : w.ownsRow (q + 1) 9 1 o n (vs L)) (hr : 0 < L.length → ∀ g cap, o = .slice (some ⟨g, 0, none⟩) L.length cap → Lnk.Row w2 g L.length (Lnk.nth (Lnk.srt L))) :
    ∀ W, Kq q w2 W → SV W o n (Lnk.nth (Lnk.srt L)) := fun W hW => by
  subst hn
  rcases Nat.eq_zero_or_pos L.length with h0 | h0
  · left
    refine ⟨h0, ?_⟩
    rw [h0] at h
    rcases h.2 with ⟨rfl, -⟩ | ⟨g, cap, cur, rfl, -, -, -, hc, -⟩
    · exact Or.inl rfl
    · exact Or.inr ⟨_, cap, rfl, hc⟩
  · obtain ⟨g, cap, rfl, h1, -, h3, h4, -⟩ := Lnk.row_of h h0
    have r := hr h0 g cap rfl
    exact sv_row h0 h3 h4 fun k hk => hW _ _ (by show q < g; omega) (r k hk).1
theorem sl_two (w : World) (t : TypeId) (a b : ByteArray) : SL (w.alloc (.cells #[.string a, .string b] t)) (.slice (some ⟨w.heap.size, 0, none⟩) 2 2) [a, b] :=
  Or.inr ⟨Nat.succ_pos 1, w.heap.size, 0, 2, rfl, Nat.le_refl _, by decide, fun k hk => by
    have hk2 : k < 2 := hk
    match k, hk2 with
    | 0, _ => simp
    | 1, _ => simp⟩
theorem sv_at0 {w : World} {v : Value} {n : Nat} {S : Nat → ByteArray} (h : SV w v n S) (h0 : 0 < n) : ∃ b off cap, v = .slice (some ⟨b, off, none⟩) n cap ∧ n ≤ cap ∧ cap ≤ maxLen ∧ ∀ k, k < n → w.cell? ⟨b, off + k, none⟩ = some (.string (S k)) := by
  rcases h with ⟨h1, -⟩ | ⟨-, h⟩
  · omega
  · exact h
theorem own_apart {w w1 : World} {base : Nat} {E : TypeId} {C n : Nat} {v : Value} {xs : List Value} {o : Option Nat} (h : w.ownsRow base E C v n xs) (hg : w.grownBy w1 o) (hne : ∀ g, v.ownBlock = some g → o ≠ some g) : w1.ownsRow base E C v n xs := by
  refine ⟨h.1, ?_⟩
  rcases h.2 with hh | ⟨g, cap, cur, hv, h1, hgq, h2⟩
  · exact Or.inl hh
  · exact Or.inr ⟨g, cap, cur, hv, h1, (hg.block g (Array.getElem?_eq_some_iff.1 hgq).1 (fun e => hne g (by rw [hv]; rfl) e.symm)).trans hgq, h2⟩
theorem dj_left {w : World} {v v' o : Value} (hat : v'.ownBlock = v.ownBlock ∨ v'.ownBlock = some w.heap.size) (hd : ∀ g, v.ownBlock = some g → o.ownBlock ≠ some g) (ho : ∀ g, o.ownBlock = some g → g < w.heap.size) : ∀ g, v'.ownBlock = some g → o.ownBlock ≠ some g := fun g hg e => by
  rcases hat with h | h
  · exact hd g (h ▸ hg) e
  · have := ho g e; rw [h] at hg; injection hg with hg; omega
theorem dj_right {w : World} {v v' o : Value} (hat : v'.ownBlock = v.ownBlock ∨ v'.ownBlock = some w.heap.size) (hd : ∀ g, o.ownBlock = some g → v.ownBlock ≠ some g) (ho : ∀ g, o.ownBlock = some g → g < w.heap.size) : ∀ g, o.ownBlock = some g → v'.ownBlock ≠ some g := fun g hg e => by
  rcases hat with h | h
  · exact hd g hg (h ▸ e)
  · have := ho g hg; rw [h] at e; injection e with e; omega
theorem ints_info : (Tryz.prog.info? 83).map (fun i => (i.zero, i.size, i.bytes)) = some (some (.slice none 0 0), 1, 24) := by kernel_rfl
theorem sz_le {W w1 : World} {n : Nat} (h : n ≤ W.heap.size) (hb : Below W.heap.size W w1) : n ≤ w1.heap.size := Nat.le_trans h hb.size
theorem blk_keep {W w1 : World} {g : Nat} {o : Obj} (h : W.heap[g]? = some o) (hb : Below W.heap.size W w1) : w1.heap[g]? = some o := (hb.block g (Array.getElem?_eq_some_iff.1 h).1).trans h
theorem heap_second (W : World) (o o' : Obj) : ((W.alloc o).alloc o').heap[W.heap.size + 1]? = some o' := by have := heap_alloc_new (W.alloc o) o'; simpa using this
theorem bel_of {wr wA w1 : World} {o : Option Nat} (_hg : wA.grownBy w1 o) (h : Below wr.heap.size wr wA) : Below wr.heap.size wr wA := h
theorem int_next (f : Nat → Int) (k : Nat) : rowL 1 (fun i _ => f i) k ++ [.int .i64 (f k)] = rowL 1 (fun i _ => f i) (k + 1) := rfl
theorem val_next (f : Nat → Value) (k : Nat) : rowG 1 (fun i _ => f i) k ++ [f k] = rowG 1 (fun i _ => f i) (k + 1) := rfl

theorem ap_own {w : World} {q b4 n : Nat} {ob oc x : Value} {f : Nat → Int} (h : Own w b4 3 1 x n (fun i _ => f i)) (hq : q < b4) (h1 : ∀ g, ob.ownBlock = some g → g < b4) (h2 : ∀ g, oc.ownBlock = some g → g < b4) : Ap q w ob oc x n f := fun W hW => by
  rcases Nat.eq_zero_or_pos n with h0 | h0
  · left
    refine ⟨h0, ?_⟩
    subst h0
    rcases h.2 with ⟨rfl, -⟩ | ⟨g, cap, cur, rfl, -, -, -, hc, -⟩
    · exact Or.inl rfl
    · exact Or.inr ⟨_, cap, rfl, hc⟩
  · obtain ⟨g, cap, rfl, hg, -, hn, hcap, hr⟩ := own_row h h0
    refine Or.inr ⟨h0, g, 0, cap, rfl, hn, hcap, fun k hk => ?_⟩
    have hg' : b4 ≤ g := hg
    refine hW _ _ (by show q < g; omega) (fun e => ?_) (fun e => ?_) ?_
    · have := h1 _ e; simp at this; omega
    · have := h2 _ e; simp at this; omega
    · have := hr.cell k hk 0 (Nat.succ_pos 0); simpa using this
theorem round_end {E : TypeId} {q i g1 k1 g2 k2 : Nat} {w2 w0 wr wA w9 wB w10 : World} {o ob oc x y : Value} {RB RC : Nat → Value} {d : Nat → Nat} {lk dd : Nat → Nat → Int}
    (hq : q < w2.heap.size) (hs : w2.heap.size ≤ wr.heap.size) (bx : Bx wr q o ob oc)
    (hob : OwnG wr w2.heap.size E 1 ob i (fun k _ => RB k)) (hoc : OwnG wr w2.heap.size E 1 oc i (fun k _ => RC k)) (dj : ∀ g, ob.ownBlock = some g → oc.ownBlock ≠ some g)
    (hB : ∀ k, k < i → Ap q wr ob oc (RB k) (d k) (lk k)) (hC : ∀ k, k < i → Ap q wr ob oc (RC k) (d k) (dd k)) (hx : Ap q wr ob oc x (d i) (lk i)) (hy : Ap q wr ob oc y (d i) (dd i))
    (kq : Kq q w2 wr) (hbl : Below q w0 wr)
    (hA1 : Below wr.heap.size wr wA) (hg1 : wA.grownBy w9 ob.ownBlock) (ha1 : ob.ownBlock = some g1 ∨ g1 = wA.heap.size) (ho1 : w9.ownsRow w2.heap.size E 1 (.slice (some ⟨g1, 0, none⟩) (i + 1) k1) (i + 1) (rowG 1 (fun k _ => RB k) i ++ [x]))
    (hA2 : Below w9.heap.size w9 wB) (hg2 : wB.grownBy w10 oc.ownBlock) (ha2 : oc.ownBlock = some g2 ∨ g2 = wB.heap.size) (ho2 : w10.ownsRow w2.heap.size E 1 (.slice (some ⟨g2, 0, none⟩) (i + 1) k2) (i + 1) (rowG 1 (fun k _ => RC k) i ++ [y])) :
    let v1 : Value := .slice (some ⟨g1, 0, none⟩) (i + 1) k1
    let v2 : Value := .slice (some ⟨g2, 0, none⟩) (i + 1) k2
    let W := (w10.setCell ⟨q, 1, none⟩ v1).setCell ⟨q, 2, none⟩ v2
    ∃ RB' RC' : Nat → Value, Bx W q o v1 v2 ∧ OwnG W w2.heap.size E 1 v1 (i + 1) (fun k _ => RB' k) ∧ OwnG W w2.heap.size E 1 v2 (i + 1) (fun k _ => RC' k) ∧ (∀ g, v1.ownBlock = some g → v2.ownBlock ≠ some g) ∧
      (∀ k, k < i + 1 → Ap q W v1 v2 (RB' k) (d k) (lk k)) ∧ (∀ k, k < i + 1 → Ap q W v1 v2 (RC' k) (d k) (dd k)) ∧ Kq q w2 W ∧ w2.heap.size ≤ W.heap.size ∧ Below q w0 W := by
  intro v1 v2 W
  have s1 := hA1.size; have s2 := hg1.size; have s3 := hA2.size; have s4 := hg2.size
  have qr : q < wr.heap.size := lt_of_cell bx.c0
  have lb := Own0.own_lt hob; have lc := Own0.own_lt hoc
  have gb := Own0.own_ge0 hob; have gc := Own0.own_ge0 hoc
  have b1 : v1.ownBlock = some g1 := rfl
  have b2 : v2.ownBlock = some g2 := rfl
  have nb : ob.ownBlock ≠ some q := fun e => by have := gb _ e; omega
  have nc : oc.ownBlock ≠ some q := fun e => by have := gc _ e; omega
  have BX9 : Bx w9 q o ob oc := bx_grow hg1 (fun e => nb e.symm) (bx_keep hA1 bx)
  have BX10 : Bx w10 q o ob oc := bx_grow hg2 (fun e => nc e.symm) (bx_keep hA2 BX9)
  have BXW : Bx W q o v1 v2 := bx_set2 (bx_set1 BX10 v1) v2
  have apart : ∀ a u, q < a.block → ob.ownBlock ≠ some a.block → oc.ownBlock ≠ some a.block → wr.cell? a = some u → W.cell? a = some u ∧ v1.ownBlock ≠ some a.block ∧ v2.ownBlock ≠ some a.block := by
    intro a u h0 h1 h2 hc
    have hl := lt_of_cell hc
    have hA := keep hA1 hc
    have h9 := (hg1.cell_far a (lt_of_cell hA) (fun e => h1 e.symm)).trans hA
    have hB := keep hA2 h9
    have h10 := (hg2.cell_far a (lt_of_cell hB) (fun e => h2 e.symm)).trans hB
    refine ⟨cfar _ (fun e => by have h0 : q < a.block := h0; rw [← e] at h0; exact absurd h0 (Nat.lt_irrefl _)) (cfar _ (fun e => by have h0 : q < a.block := h0; rw [← e] at h0; exact absurd h0 (Nat.lt_irrefl _)) h10), fun e => ?_, fun e => ?_⟩
    · rw [b1] at e; injection e with e
      rcases ha1 with h | h
      · exact h1 (by rw [h, e])
      · omega
    · rw [b2] at e; injection e with e
      rcases ha2 with h | h
      · exact h2 (by rw [h, e])
      · omega
  have D1 : ∀ g, v1.ownBlock = some g → oc.ownBlock ≠ some g := fun g hg e => by
    rw [b1] at hg; injection hg with hg; subst hg
    rcases ha1 with h | h
    · exact dj _ h e
    · have := lc _ e; omega
  have l1 : g1 < w9.heap.size := Own0.own_lt ho1 _ b1
  have D2 : ∀ g, v1.ownBlock = some g → v2.ownBlock ≠ some g := fun g hg e => by
    rw [b2] at e; injection e with e; subst e
    rcases ha2 with h | h
    · exact D1 _ hg h
    · rw [b1] at hg; injection hg with hg; omega
  have e1 : rowG 1 (fun k _ => RB k) i ++ [x] = rowG 1 (fun k _ => if k = i then x else RB k) (i + 1) := by
    rw [← val_next (fun k => if k = i then x else RB k) i, if_pos rfl]
    congr 1
    exact rowG_congr fun k hk j hj => by rw [if_neg (by omega)]
  have e2 : rowG 1 (fun k _ => RC k) i ++ [y] = rowG 1 (fun k _ => if k = i then y else RC k) (i + 1) := by
    rw [← val_next (fun k => if k = i then y else RC k) i, if_pos rfl]
    congr 1
    exact rowG_congr fun k hk j hj => by rw [if_neg (by omega)]
  rw [e1] at ho1; rw [e2] at ho2
  refine ⟨fun k => if k = i then x else RB k, fun k => if k = i then y else RC k, BXW, ?_, ?_, D2, fun k hk => ?_, fun k hk => ?_, ?_, ?_, ?_⟩
  · exact owns_far (owns_far (own_apart (Own0.own_below hA2 ho1) hg2 (fun g hg => D1 g hg)) _ hq _) _ hq _
  · exact owns_far (owns_far ho2 _ hq _) _ hq _
  · by_cases hki : k = i
    · subst hki; simp only [if_pos]; exact ap_step hx fun a u h0 h1 h2 hc => apart a u h0 h1 h2 hc
    · simp only [if_neg hki]; exact ap_step (hB k (by omega)) fun a u h0 h1 h2 hc => apart a u h0 h1 h2 hc
  · by_cases hki : k = i
    · subst hki; simp only [if_pos]; exact ap_step hy fun a u h0 h1 h2 hc => apart a u h0 h1 h2 hc
    · simp only [if_neg hki]; exact ap_step (hC k (by omega)) fun a u h0 h1 h2 hc => apart a u h0 h1 h2 hc
  · intro a u ha hc
    have hl := lt_of_cell hc
    exact (apart a u ha (fun e => by have := gb _ e; omega) (fun e => by have := gc _ e; omega) (kq a u ha hc)).1
  · show w2.heap.size ≤ _
    simp only [W, World.size_setCell]; omega
  · have h1 := Own0.grow_b (hbl.trans (hA1.mono (Nat.le_of_lt qr))) (Own0.own_below hA1 hob) hg1 (Nat.le_of_lt hq) (by omega)
    have h2 := Own0.grow_b (h1.trans (hA2.mono (by omega))) (Own0.own_below hA2 (own_apart (Own0.own_below hA1 hoc) hg1 (fun g hg e => dj g e hg))) hg2 (Nat.le_of_lt hq) (by omega)
    exact (h2.setCell (p := ⟨q, 1, none⟩) (Nat.le_refl _) v1).setCell (p := ⟨q, 2, none⟩) (Nat.le_refl _) v2
theorem lv_end {E : TypeId} {q b n : Nat} {wr : World} {ob oc v : Value} {RB : Nat → Value} {d : Nat → Nat} {f : Nat → Nat → Int} (h : OwnG wr b E 1 v n (fun k _ => RB k)) (hq : q < b) (hA : ∀ k, k < n → Ap q wr ob oc (RB k) (d k) (f k)) : ∀ W, Kq q wr W → LV W v n d f := fun W hW => by
  rcases Nat.eq_zero_or_pos n with h0 | h0
  · left
    refine ⟨h0, ?_⟩
    subst h0
    rcases h.2 with ⟨rfl, -⟩ | ⟨g, cap, cur, rfl, -, -, -, hc, -⟩
    · exact Or.inl rfl
    · exact Or.inr ⟨_, cap, rfl, hc⟩
  · obtain ⟨g, cap, rfl, hg, -, hn, hcap, hr⟩ := ownG_row h h0
    refine Or.inr ⟨h0, g, 0, cap, rfl, hn, hcap, fun k hk => ⟨RB k, ?_, ?_⟩⟩
    · have := hW ⟨g, k, none⟩ _ (by show q < g; omega) (by have := hr.cell k hk 0 (Nat.succ_pos 0); simpa using this)
      simpa using this
    · exact hA k hk W fun a u h1 _ _ hc => hW a u h1 hc
end Net
end Go.Proofs.YtmkglhoahdlogaaGreatDoor
namespace Go.Proofs.YtmkglhoahdlogaaGreatDoor
open Go.RowKit
namespace Net
open Kit Chart Route
abbrev EnC (c : Value) (s t : ByteArray) (w : World) (post : Ending → World → Prop) : Prop := Calls Tryz.prog 27 #[c, .string s, .string t] w fun e w' => post e w' ∧ Below w.heap.size w w'
theorem kg_refl (N : Nat) (w : World) : Kg N w w := fun _ _ _ h => h
theorem kg_below {N : Nat} {w W w1 : World} (h : Kg N w W) (hb : Below W.heap.size W w1) : Kg N w w1 := fun a u ha hc => keep hb (h a u ha hc)
theorem kg_set {N : Nat} {w W : World} (h : Kg N w W) (p : Addr) (hp : p.block < N) (y : Value) : Kg N w (W.setCell p y) := fun a u ha hc => cfar _ (fun e => by have ha : N ≤ a.block := ha; rw [← e] at ha; omega) (h a u ha hc)
theorem b_set3 {N k : Nat} {w W : World} (hb : Below N w W) (hk : N ≤ k) (a b c : Value) : Below N w (((W.setCell ⟨k, 0, none⟩ a).setCell ⟨k, 1, none⟩ b).setCell ⟨k, 2, none⟩ c) :=
  ((hb.setCell (p := ⟨k, 0, none⟩) hk a).setCell (p := ⟨k, 1, none⟩) hk b).setCell (p := ⟨k, 2, none⟩) hk c
/-- No net. -/
abbrev net0 : Value := .agg #[.slice none 0 0, .slice none 0 0, .slice none 0 0]
theorem bx_two (w : World) (o : Obj) (t : TypeId) (a b c : Value) : Bx ((w.alloc o).alloc (.cells #[a, b, c] t)) (w.heap.size + 1) a b c := by
  have h := bx_new (w.alloc o) t a b c
  simp only [World.size_alloc] at h
  exact h
set_option maxRecDepth 100000 in
set_option maxHeartbeats 2000000 in
theorem ends_bad (fx aw : Value) (s t : ByteArray) (E : Int) (w : World) (C : Hid (CcC (.agg #[fx, aw]) E w)) (_hE1 : (E == 0) = false) (hE2 : (E != 0) = true) : EnC (.agg #[fx, aw]) s t w fun e _ => e = .returned (.tuple #[net0, .int .i64 0, .int .i64 0, .int .i64 E]) := by
  have W0 := Lib.hid (b_alloc (b_alloc (Below.refl w.heap.size w) (.cells #[fx, aw] 28)) (.cells #[.slice none 0 0, .slice none 0 0, .slice none 0 0] 80))
  have P0 := Lib.hid (p2v_keep (b_alloc (Below.refl _ _) (.cells #[.slice none 0 0, .slice none 0 0, .slice none 0 0] 80)) (p2v_new w 28 fx aw))
  have X0 := Lib.hid (bx_two w (.cells #[fx, aw] 28) 80 (.slice none 0 0) (.slice none 0 0) (.slice none 0 0))
  obtain ⟨x0, x1⟩ := P0.out
  go_enter Tryz.func27, Tryz.ntmps27
  go_wp2_with fail
  (with_reducible refine (C.out _ W0.out).mono ?_); rintro e w1 ⟨rfl, hb⟩
  have W1 := Lib.hid (b_next W0.out hb); have X1 := Lib.hid (bx_keep hb X0.out); clear hb x0 x1
  obtain ⟨z0, z1, z2, z3, z4, z5⟩ := X1.out
  go_wp2_with fail
  have R3 := bx_set2 (bx_set1 (bx_set0 X1.out (.slice none 0 0)) (.slice none 0 0)) (.slice none 0 0)
  refine bodyPost_ret (v := .tuple #[net0, .int .i64 0, .int .i64 0, .int .i64 E]) (by simp [results, Tryz.results27, go_sem, R3.c0, R3.c1, R3.c2]) rfl ⟨rfl, ?_⟩
  exact b_set3 W1.out (Nat.le_succ _) _ _ _
set_option maxRecDepth 100000 in
set_option maxHeartbeats 4000000 in
theorem ends_w (fx aw : Value) (s t : ByteArray) (ps pt : Int) (R : World → Value → Value → Value → Prop) (w : World) (HR : Hid (∀ W w1 o ob oc, R W o ob oc → Below W.heap.size W w1 → R w1 o ob oc)) (C : Hid (CcC (.agg #[fx, aw]) 0 w))
    (HO : Hid (∀ w1, Below w.heap.size w w1 → Calls Tryz.prog 51 #[.agg #[fx, aw]] w1 fun e w' => (∃ A1 n1 c1 A2 n2 c2 A3 n3 c3, e = .returned (.agg #[.slice A1 n1 c1, .slice A2 n2 c2, .slice A3 n3 c3]) ∧ ∀ W, Kg w1.heap.size w' W → R W (.slice A1 n1 c1) (.slice A2 n2 c2) (.slice A3 n3 c3)) ∧ Below w1.heap.size w1 w'))
    (HS : Hid (∀ w1 o ob oc, R w1 o ob oc → Calls Tryz.prog 52 #[.agg #[o, ob, oc], .string s] w1 fun e w' => e = .returned (.int .i64 ps) ∧ Below w1.heap.size w1 w'))
    (HT : Hid (∀ w1 o ob oc, R w1 o ob oc → Calls Tryz.prog 52 #[.agg #[o, ob, oc], .string t] w1 fun e w' => e = .returned (.int .i64 pt) ∧ Below w1.heap.size w1 w')) :
    EnC (.agg #[fx, aw]) s t w fun e w' => if ps < 0 ∨ pt < 0 then e = .returned (.tuple #[net0, .int .i64 0, .int .i64 0, .int .i64 6]) else ∃ o ob oc, e = .returned (.tuple #[.agg #[o, ob, oc], .int .i64 ps, .int .i64 pt, .int .i64 0]) ∧ R w' o ob oc := by
  have W0 := Lib.hid (b_alloc (b_alloc (Below.refl w.heap.size w) (.cells #[fx, aw] 28)) (.cells #[.slice none 0 0, .slice none 0 0, .slice none 0 0] 80))
  have P0 := Lib.hid (p2v_keep (b_alloc (Below.refl _ _) (.cells #[.slice none 0 0, .slice none 0 0, .slice none 0 0] 80)) (p2v_new w 28 fx aw))
  have X0 := Lib.hid (bx_two w (.cells #[fx, aw] 28) 80 (.slice none 0 0) (.slice none 0 0) (.slice none 0 0))
  obtain ⟨x0, x1⟩ := P0.out
  go_enter Tryz.func27, Tryz.ntmps27
  go_wp2_with fail
  (with_reducible refine (C.out _ W0.out).mono ?_); rintro e w1 ⟨rfl, hb⟩
  have W1 := Lib.hid (b_next W0.out hb); have X1 := Lib.hid (bx_keep hb X0.out); clear x0 x1; obtain ⟨x0, x1⟩ := p2v_keep hb P0.out; clear hb
  have Q1 : Hid (w.heap.size + 1 < w1.heap.size) := Lib.hid (lt_of_cell X1.out.c0)
  go_wp2_with fail
  (with_reducible refine (HO.out _ W1.out).mono ?_); rintro e w2 ⟨⟨A1, n1, c1, A2, n2, c2, A3, n3, c3, rfl, hr⟩, hb⟩
  have W2 := Lib.hid (b_next W1.out hb); have X2 := Lib.hid (bx_keep hb X1.out); have HR2 := Lib.hid hr; clear hr x0 x1
  have S12 := Lib.hid hb.size
  have RA : Hid (R (w2.alloc (.cells #[.slice A1 n1 c1, .slice A2 n2 c2, .slice A3 n3 c3] 80)) (.slice A1 n1 c1) (.slice A2 n2 c2) (.slice A3 n3 c3)) := Lib.hid (HR2.out _ fun a u _ hc => keep (b_alloc (Below.refl _ _) _) hc)
  have BA := Lib.hid (b_alloc (Below.refl w2.heap.size w2) (.cells #[.slice A1 n1 c1, .slice A2 n2 c2, .slice A3 n3 c3] 80))
  have N2 := Lib.hid (bx_new w2 80 (.slice A1 n1 c1) (.slice A2 n2 c2) (.slice A3 n3 c3))
  clear hb
  go_wp2_with fail
  obtain ⟨b2, hb2⟩ : ∃ b, b = w2.heap.size := ⟨_, rfl⟩
  obtain ⟨w3, hw3⟩ : ∃ x, x = w2.alloc (.cells #[.slice A1 n1 c1, .slice A2 n2 c2, .slice A3 n3 c3] 80) := ⟨_, rfl⟩
  rw [← hw3, ← hb2]
  rw [← hw3] at RA BA N2; rw [← hb2] at N2
  clear hw3 hb2
  refine d_region (by kernel_rfl) (by kernel_rfl) ?_
  repeat
    first
      | (refine d_plain (by with_reducible rfl) ?_; apply Exists.intro; refine ⟨fun wq hc hq => ?_, ?_⟩)
      | (refine d_on (by with_reducible rfl) (by rfl) (by with_reducible rfl) ?_; apply Exists.intro; refine ⟨fun wq hc hq => ?_, ?_⟩)
      | (refine d_off (by with_reducible rfl) (by rfl) (by rfl) ?_)
      | (refine d_void (by with_reducible rfl) (by rfl) ?_)
    try any_goals
      (obtain ⟨y0, y1, y2, y3, y4, y5⟩ := bx_keep (cls hq) N2.out; clear hc
       go_simp
       first
         | rfl
         | (go_at_call 52; with_reducible exact call_below hq (HS.out _ _ _ _ (HR.out _ _ _ _ _ RA.out (cls hq))))
         | (go_at_call 52; with_reducible exact call_below hq (HT.out _ _ _ _ (HR.out _ _ _ _ _ RA.out (cls hq)))))
    simp only [Act.put, List.setIfInBounds_toArray, List.set_cons_zero, List.set_cons_succ]
  refine d_nil ?_
  intro w4 hb4
  have B4 : Hid (Below w2.heap.size w2 w4) := Lib.hid (b_next BA.out hb4)
  have W4 := Lib.hid (b_next W2.out B4.out)
  have X4 := Lib.hid (bx_keep B4.out X2.out)
  have N4 := Lib.hid (bx_keep hb4 N2.out)
  clear hb4
  obtain ⟨y0, y1, y2, y3, y4, y5⟩ := N4.out
  obtain ⟨z0, z1, z2, z3, z4, z5⟩ := X4.out
  have bad : ∀ w5, w5 = ((w4.setCell ⟨w.heap.size + 1, 0, none⟩ (.slice none 0 0)).setCell ⟨w.heap.size + 1, 1, none⟩ (.slice none 0 0)).setCell ⟨w.heap.size + 1, 2, none⟩ (.slice none 0 0) → Bx w5 (w.heap.size + 1) (.slice none 0 0) (.slice none 0 0) (.slice none 0 0) := fun w5 e => e ▸ bx_set2 (bx_set1 (bx_set0 X4.out (.slice none 0 0)) (.slice none 0 0)) (.slice none 0 0)
  have BAD := Lib.hid (bad _ rfl)
  clear bad
  by_cases h1 : ps < 0
  · go_wp2_with fail
    refine bodyPost_ret (v := .tuple #[net0, .int .i64 0, .int .i64 0, .int .i64 6]) (by simp [results, Tryz.results27, go_sem, BAD.out.c0, BAD.out.c1, BAD.out.c2]) rfl ⟨rfl, ?_⟩
    exact b_set3 W4.out (Nat.le_succ _) _ _ _
  · by_cases h2 : pt < 0
    · go_wp2_with fail
      refine bodyPost_ret (v := .tuple #[net0, .int .i64 0, .int .i64 0, .int .i64 6]) (by simp [results, Tryz.results27, go_sem, BAD.out.c0, BAD.out.c1, BAD.out.c2]) rfl ⟨rfl, ?_⟩
      exact b_set3 W4.out (Nat.le_succ _) _ _ _
    · go_wp2_with fail
      have R3 := bx_set2 (bx_set1 (bx_set0 X4.out (.slice A1 n1 c1)) (.slice A2 n2 c2)) (.slice A3 n3 c3)
      have KG := kg_set (kg_set (kg_set (kg_below (kg_refl w1.heap.size w2) B4.out) ⟨w.heap.size + 1, 0, none⟩ Q1.out (.slice A1 n1 c1)) ⟨w.heap.size + 1, 1, none⟩ Q1.out (.slice A2 n2 c2)) ⟨w.heap.size + 1, 2, none⟩ Q1.out (.slice A3 n3 c3)
      refine bodyPost_ret (v := .tuple #[.agg #[.slice A1 n1 c1, .slice A2 n2 c2, .slice A3 n3 c3], .int .i64 ps, .int .i64 pt, .int .i64 0]) (by simp [results, Tryz.results27, go_sem, R3.c0, R3.c1, R3.c2]) rfl ⟨?_, ?_⟩
      · exact ⟨_, _, _, rfl, HR2.out _ KG⟩
      · exact b_set3 W4.out (Nat.le_succ _) _ _ _
end Net
end Go.Proofs.YtmkglhoahdlogaaGreatDoor
namespace Go.Proofs.YtmkglhoahdlogaaGreatDoor
namespace Net
open Kit Plane Chart Lnk
/-- The names in order. -/
def gS (n : Nat) (N : Nat → ByteArray) : Nat → ByteArray := nth (srt (nms N (fun i => i) n))
theorem srt_n (n : Nat) (N : Nat → ByteArray) : (srt (nms N (fun i => i) n)).length = n := by rw [srt_len, nms_len]
theorem gS_at {n : Nat} {N : Nat → ByteArray} {k : Nat} (hk : k < n) : ∃ h : k < (srt (nms N (fun i => i) n)).length, (gS n N k).data.toList = (srt (nms N (fun i => i) n))[k] := by
  have h : k < (srt (nms N (fun i => i) n)).length := by rw [srt_n]; exact hk
  refine ⟨h, ?_⟩
  unfold gS nth
  rw [List.getD_eq_getElem?_getD, List.getElem?_eq_getElem h]
  rfl
theorem srt_mem {n : Nat} {N : Nat → ByteArray} {x : List UInt8} : x ∈ srt (nms N (fun i => i) n) ↔ ∃ j, j < n ∧ (N j).data.toList = x := by
  unfold srt nms
  rw [List.mem_mergeSort, List.mem_map]
  constructor
  · rintro ⟨y, hy, e⟩
    obtain ⟨j, hj, e2⟩ := List.mem_map.1 hy
    exact ⟨j, List.mem_range.1 hj, by rw [← e, ← e2]⟩
  · rintro ⟨j, hj, e⟩
    exact ⟨N j, List.mem_map.2 ⟨j, List.mem_range.2 hj, rfl⟩, e⟩
theorem gS_mem {n : Nat} {N : Nat → ByteArray} {k : Nat} (hk : k < n) : ∃ j, j < n ∧ gS n N k = N j := by
  obtain ⟨h, e⟩ := gS_at (N := N) hk
  obtain ⟨j, hj, e2⟩ := srt_mem.1 (List.getElem_mem h)
  exact ⟨j, hj, ba_eq (e.trans e2.symm)⟩
theorem gS_has {n : Nat} {N : Nat → ByteArray} {j : Nat} (hj : j < n) : ∃ k, k < n ∧ gS n N k = N j := by
  have q : (N j).data.toList ∈ srt (nms N (fun i => i) n) := srt_mem.2 ⟨j, hj, rfl⟩
  obtain ⟨k, hk, e⟩ := List.mem_iff_getElem.1 q
  have hk' : k < n := by rw [srt_n] at hk; exact hk
  obtain ⟨h, e2⟩ := gS_at (N := N) hk'
  exact ⟨k, hk', ba_eq (e2.trans e)⟩
/-- No name twice. -/
theorem once {n : Nat} {N : Nat → ByteArray} {X Y : Nat → Int} {m : Nat} {M : Nat → ByteArray} {l : Nat → Nat} {S : Nat → Nat → ByteArray} (h : cerr n N X Y m M l S = 0) : ∀ i j, i < n → j < n → N i = N j → i = j := by
  have one : ∀ i j, i < j → j < n → N i = N j → False := fun i j hij hj e => by
    have q := (fe_ok ((cerr_ok h).2.2.1 j hj)).2.1
    have q0 : 0 ≤ fnd (fun k => decide (N k = N j)) n := by unfold fix at q; omega
    obtain ⟨k, hk, e1, -, e3⟩ := fnd_pos q0
    have q1 : fix N (N j) n = (k : Int) := e1
    have := e3 i (by omega)
    rw [decide_eq_false_iff_not] at this
    exact this e
  intro i j hi hj e
  rcases Nat.lt_trichotomy i j with q | q | q
  · exact (one i j q hj e).elim
  · exact q
  · exact (one j i q hi e.symm).elim
theorem gS_srt {n : Nat} {N : Nat → ByteArray} (h : ∀ i j, i < n → j < n → N i = N j → i = j) : Srt (gS n N) n := by
  intro i j hij hj
  obtain ⟨h1, e1⟩ := gS_at (N := N) (show i < n by omega)
  obtain ⟨h2, e2⟩ := gS_at (N := N) hj
  have nd : (srt (nms N (fun i => i) n)).Nodup := by
    unfold srt nms
    refine (List.mergeSort_perm _ _).nodup_iff.2 ?_
    rw [List.map_map]
    unfold List.Nodup
    rw [List.pairwise_map]
    refine List.Pairwise.imp_of_mem ?_ (List.nodup_range (n := n))
    intro a b ha hb hab e
    exact hab (h a b (List.mem_range.1 ha) (List.mem_range.1 hb) (ba_eq e))
  rw [ByteArray.toList_eq, ByteArray.toList_eq, bytesLess_eq]
  refine decide_eq_true ?_
  rw [e1, e2]
  have l0 : (srt (nms N (fun i => i) n)).Pairwise fun x y => ¬ y < x := sort_pair _
  have l1 := List.pairwise_iff_getElem.1 l0 i j h1 h2 hij
  have l2 := List.pairwise_iff_getElem.1 nd i j h1 h2 hij
  rcases Classical.em ((srt (nms N (fun i => i) n))[i] < (srt (nms N (fun i => i) n))[j]) with q | q
  · exact q
  · exact absurd (List.le_antisymm q l1).symm l2
/-- A name that is one of them stands where its place says. -/
theorem pos_of {n : Nat} {T : Nat → ByteArray} {t : ByteArray} (h : ∃ k, k < n ∧ T k = t) : pos n T t < n ∧ T (pos n T t) = t := by
  obtain ⟨k, hk, e⟩ := h
  have q : 0 ≤ fix T t n := by
    rcases Int.lt_or_le (fix T t n) 0 with g | g
    · have := fnd_neg g k hk
      rw [decide_eq_false_iff_not] at this
      exact absurd e this
    · exact g
  obtain ⟨k', h1, h2, h3, -⟩ := fnd_pos q
  have h2 : fix T t n = (k' : Int) := h2
  unfold pos
  rw [h2]
  exact ⟨by omega, by simpa using h3⟩
theorem fix_has {n : Nat} {T : Nat → ByteArray} {t : ByteArray} (h : 0 ≤ fix T t n) : ∃ k, k < n ∧ T k = t := by
  obtain ⟨k, h1, -, h3, -⟩ := fnd_pos h
  exact ⟨k, h1, by simpa using h3⟩
theorem has_fix {n : Nat} {T : Nat → ByteArray} {t : ByteArray} (h : ∃ k, k < n ∧ T k = t) : 0 ≤ fix T t n := by
  obtain ⟨k, hk, e⟩ := h
  rcases Int.lt_or_le (fix T t n) 0 with g | g
  · have := fnd_neg g k hk
    rw [decide_eq_false_iff_not] at this
    exact absurd e this
  · exact g
theorem pos_at {n : Nat} {T : Nat → ByteArray} (h : Srt T n) {b : Nat} (hb : b < n) : pos n T (T b) = b := by
  have q := pos_of (T := T) (t := T b) ⟨b, hb, rfl⟩
  exact srt_inj h q.1 hb q.2
/-- The length between two fixes. -/
def dst (n : Nat) (N : Nat → ByteArray) (X Y : Nat → Int) (s t : ByteArray) : Int := dup (sqr (X (pos n N s)) (Y (pos n N s)) (X (pos n N t)) (Y (pos n N t)))
/-- The graph. -/
def gr (n : Nat) (N : Nat → ByteArray) (X Y : Nat → Int) (m : Nat) (l : Nat → Nat) (S : Nat → Nat → ByteArray) : Short.Gr where
  N := n
  deg := fun i => (links l S (gS n N i) m).length
  lk := fun i j => pos n (gS n N) ((links l S (gS n N i) m).getD j ⟨#[]⟩)
  d := fun a b => dst n N X Y (gS n N a) (gS n N b)
section
variable {n : Nat} {N : Nat → ByteArray} {X Y : Nat → Int} {m : Nat} {M : Nat → ByteArray} {l : Nat → Nat} {S : Nat → Nat → ByteArray}
theorem link_in (h : cerr n N X Y m M l S = 0) {s t : ByteArray} (q : t ∈ links l S s m) : ∃ k, k < n ∧ gS n N k = t := by
  obtain ⟨j, hj, e⟩ := fix_has (links_fix h q)
  obtain ⟨k, hk, e2⟩ := gS_has (N := N) hj
  exact ⟨k, hk, e2.trans e⟩
theorem link_at {L : List ByteArray} {i : Nat} (hi : i < L.length) : L.getD i ⟨#[]⟩ ∈ L := by
  rw [List.getD_eq_getElem?_getD, List.getElem?_eq_getElem hi]
  exact List.getElem_mem hi
theorem gr_lk (h : cerr n N X Y m M l S = 0) {a i : Nat} (hi : i < (gr n N X Y m l S).deg a) : (gr n N X Y m l S).lk a i < n ∧ gS n N ((gr n N X Y m l S).lk a i) = (links l S (gS n N a) m).getD i ⟨#[]⟩ :=
  pos_of (link_in h (link_at hi))
theorem gr_adj (h : cerr n N X Y m M l S = 0) {a b : Nat} : (gr n N X Y m l S).adj a b ↔ b < n ∧ gS n N b ∈ links l S (gS n N a) m := by
  constructor
  · rintro ⟨i, hi, e⟩
    have q := gr_lk h hi
    rw [e] at q
    exact ⟨q.1, by rw [q.2]; exact link_at hi⟩
  · rintro ⟨hb, hm⟩
    obtain ⟨i, hi, e⟩ := List.mem_iff_getElem.1 hm
    refine ⟨i, hi, ?_⟩
    show pos n (gS n N) ((links l S (gS n N a) m).getD i ⟨#[]⟩) = b
    rw [List.getD_eq_getElem?_getD, List.getElem?_eq_getElem hi, Option.getD_some, e]
    exact pos_at (gS_srt (once h)) hb
theorem sqr_turn (ax ay bx by' : Int) : sqr ax ay bx by' = sqr bx by' ax ay := by unfold sqr; grind
theorem dst_turn (s t : ByteArray) : dst n N X Y s t = dst n N X Y t s := by unfold dst; rw [sqr_turn]
theorem sqr_some {ax ay bx by' : Int} (h : ¬ (ax = bx ∧ ay = by')) : 0 < sqr ax ay bx by' := by
  have h0 := sqr_nonneg ax ay bx by'
  rcases Int.lt_or_eq_of_le h0 with q | q
  · exact q
  · refine absurd ?_ h
    unfold sqr at q
    have h1 : 0 ≤ (ax - bx) * (ax - bx) := by
      rcases Int.le_total 0 (ax - bx) with g | g
      · exact Int.mul_nonneg g g
      · exact Int.mul_nonneg_of_nonpos_of_nonpos g g
    have h2 : 0 ≤ (ay - by') * (ay - by') := by
      rcases Int.le_total 0 (ay - by') with g | g
      · exact Int.mul_nonneg g g
      · exact Int.mul_nonneg_of_nonpos_of_nonpos g g
    have e1 : (ax - bx) * (ax - bx) = 0 := by omega
    have e2 : (ay - by') * (ay - by') = 0 := by omega
    have f1 := Int.mul_eq_zero.1 e1
    have f2 := Int.mul_eq_zero.1 e2
    omega
theorem dst_bd (h : cerr n N X Y m M l S = 0) (h0 : 0 < n) (s t : ByteArray) : 0 ≤ dst n N X Y s t ∧ dst n N X Y s t ≤ 2828428 := by
  have g : ∀ k, k < n → good (X k) (Y k) := fun k hk => (fe_ok ((cerr_ok h).2.2.1 k hk)).2.2
  have q := sqr_near (g _ (pos_lt (N := N) s h0)) (g _ (pos_lt (N := N) t h0))
  have q0 := sqr_nonneg (X (pos n N s)) (Y (pos n N s)) (X (pos n N t)) (Y (pos n N t))
  exact ⟨(dup_spec q0).1, (dup_le q0 q).1⟩
theorem dst_link (h : cerr n N X Y m M l S = 0) {s t : ByteArray} (q : t ∈ links l S s m) : 1 ≤ dst n N X Y s t := by
  rw [links_mem h] at q
  obtain ⟨a, ha, i, hi, h3⟩ := q
  have one : ∀ x y, S a i = x → S a (i + 1) = y → 1 ≤ dst n N X Y y x := by
    intro x y e1 e2
    have q := (aerr_len ((cerr_ok h).2.2.2 a ha)).2.2.2.2.2 (i + 1) hi
    unfold nerr at q
    split at q
    · exact absurd q (by decide)
    · split at q
      · exact absurd q (by decide)
      · split at q
        · exact absurd q (by decide)
        · rename_i h4
          rw [show i + 1 - 1 = i from rfl, e1, e2] at h4
          have hs : 0 < sqr (X (pos n N y)) (Y (pos n N y)) (X (pos n N x)) (Y (pos n N x)) := sqr_some fun g => h4 ⟨Nat.succ_pos i, g⟩
          have d := dup_spec (Int.le_of_lt hs)
          unfold dst
          rcases Int.lt_or_le 0 (dup (sqr (X (pos n N y)) (Y (pos n N y)) (X (pos n N x)) (Y (pos n N x)))) with g | g
          · omega
          · have e : dup (sqr (X (pos n N y)) (Y (pos n N y)) (X (pos n N x)) (Y (pos n N x))) = 0 := by have := d.1; omega
            have := d.2.1
            rw [e] at this
            omega
  rcases h3 with ⟨e1, e2⟩ | ⟨e1, e2⟩
  · rw [dst_turn]; exact one _ _ e1 e2
  · exact one _ _ e1 e2
theorem gr_ok (h : cerr n N X Y m M l S = 0) : (gr n N X Y m l S).Ok 10000000 where
  lt := fun k _ i hi => (gr_lk h hi).1
  sym := fun a ha b hab => by
    have ⟨hb, q⟩ := (gr_adj h).1 hab
    exact (gr_adj h).2 ⟨ha, links_symm h q⟩
  dsym := fun a b => dst_turn _ _
  pos := fun a ha b hab => by
    have ⟨hb, q⟩ := (gr_adj h).1 hab
    have h0 : 0 < n := by omega
    have b1 := dst_bd h h0 (gS n N a) (gS n N b)
    exact ⟨dst_link h q, by show dst n N X Y _ _ ≤ _; omega⟩
  deg32 := fun k _ => by
    have h1 := links_len (l := l) (S := S) (s' := gS n N k) (m := m)
    have h2 := (cerr_ok h).2.1
    show (links l S (gS n N k) m).length ≤ 32
    omega
  n64 := (cerr_ok h).1
  b0 := by decide
end
end Net
end Go.Proofs.YtmkglhoahdlogaaGreatDoor
namespace Go.Proofs.YtmkglhoahdlogaaGreatDoor
open Go.RowKit
namespace Net
open Kit Chart Short Route
theorem nv_parts {w : World} {v : Value} {G : Gr} {S : Nat → ByteArray} (h : NV w v G S) (h0 : 0 < G.N) : ∃ ba oa ca bb ob cb bc oc cc, v = .agg #[.slice (some ⟨ba, oa, none⟩) G.N ca, .slice (some ⟨bb, ob, none⟩) G.N cb, .slice (some ⟨bc, oc, none⟩) G.N cc] ∧ (G.N ≤ ca ∧ ca ≤ 9223372036854775807) ∧ (G.N ≤ cb ∧ cb ≤ 9223372036854775807) ∧ (G.N ≤ cc ∧ cc ≤ 9223372036854775807) ∧
    (∀ k, k < G.N → w.cell? ⟨ba, oa + k, none⟩ = some (.string (S k))) ∧ (∀ k, k < G.N → ∃ u, w.cell? ⟨bb, ob + k, none⟩ = some u ∧ IV w u (G.deg k) (fun i => (G.lk k i : Int))) ∧ (∀ k, k < G.N → ∃ u, w.cell? ⟨bc, oc + k, none⟩ = some u ∧ IV w u (G.deg k) (fun i => G.d k (G.lk k i))) := by
  obtain ⟨a, b, c, rfl, h1, h2, h3⟩ := h.ex
  obtain ⟨ba, oa, ca, rfl, p1, p2, p3⟩ := sv_at0 h1 h0
  obtain ⟨bb, ob, cb, rfl, q1, q2, q3⟩ := lv_at h2 h0
  obtain ⟨bc, oc, cc, rfl, r1, r2, r3⟩ := lv_at h3 h0
  exact ⟨ba, oa, ca, bb, ob, cb, bc, oc, cc, rfl, ⟨p1, Nat.le_trans p2 (by decide)⟩, ⟨q1, Nat.le_trans q2 (by decide)⟩, ⟨r1, Nat.le_trans r2 (by decide)⟩, p3, q3, r3⟩
/-- The shortest lengths. -/
theorem lengthsC {w : World} {v cv : Value} {G : Gr} {S : Nat → ByteArray} {cl : Nat → Bool} {tgt : Nat} (hv : NV w v G S) (hG : G.Ok 10000000) (hto : tgt < G.N) (hc : BV w cv G.N cl) :
    Calls Tryz.prog 54 #[v, .int .i64 tgt, cv] w fun e w' => (∃ u o, e = .returned u ∧ IV w' u G.N o ∧ Fin G tgt cl o ∧ ∀ k, k < G.N → o k ≤ 640000000) ∧ Below w.heap.size w w' := by
  obtain ⟨ba, oa, ca, bb, ob, cb, bc, oc, cc, rfl, -, h2, h3, -, h5, h6⟩ := nv_parts hv (by omega)
  obtain ⟨bv, ov, cv', rfl, g1, g2, g3⟩ := bv_at hc (by omega)
  exact lengths_w _ ca bb ob cb bc oc cc bv ov cv' tgt G 10000000 cl w hG (Int.le_refl _) hto h2 h3 ⟨g1, Nat.le_trans g2 (by decide)⟩ (Lib.hid h5) (Lib.hid h6) (Lib.hid g3)
/-- The shortest way. -/
theorem wayC {w : World} {v cv : Value} {G : Gr} {S : Nat → ByteArray} {cl : Nat → Bool} {fr tgt : Nat} (bar : Int) (hv : NV w v G S) (hG : G.Ok 10000000) (ha : fr < G.N) (hto : tgt < G.N) (hct : fr ≠ tgt → cl tgt = false) (hc : BV w cv G.N cl) :
    Calls Tryz.prog 28 #[v, .int .i64 fr, .int .i64 tgt, cv, .int .i64 bar] w fun e w' => WayR G fr tgt cl bar e w' ∧ Below w.heap.size w w' := by
  by_cases hne : fr = tgt
  · subst hne
    obtain ⟨a, b, c, rfl, -⟩ := hv.ex
    exact way_same a b c fr bar cv G 10000000 cl w hG ha
  · obtain ⟨ba, oa, ca, bb, ob, cb, bc, oc, cc, rfl, -, h2, h3, -, h5, h6⟩ := nv_parts hv (by omega)
    obtain ⟨bv, ov, cv', rfl, g1, g2, g3⟩ := bv_at hc (by omega)
    exact way_w _ ca bb ob cb bc oc cc bv ov cv' fr tgt bar G 10000000 cl w hG (Int.le_refl _) ha hto hne (hct hne) h2 h3 ⟨g1, Nat.le_trans g2 (by decide)⟩ (Lib.hid h5) (Lib.hid h6) (Lib.hid g3)
/-- The names of numbers. -/
theorem textC {w : World} {v u : Value} {G : Gr} {S : Nat → ByteArray} {n : Nat} {g : Nat → Nat} (hv : NV w v G S) (hN : G.N ≤ 64) (h0 : 0 < G.N) (hn : n ≤ 100) (hu : IV w u n (fun i => (g i : Int))) (hg : ∀ k, k < n → g k < G.N) :
    Calls Tryz.prog 29 #[v, u] w fun e w' => (∃ x, e = .returned x ∧ SL w' x (nms S g n)) ∧ Below w.heap.size w w' := by
  obtain ⟨ba, oa, ca, bb, ob, cb, bc, oc, cc, rfl, h1, -, -, h4, -, -⟩ := nv_parts hv h0
  rcases hu with ⟨rfl, h⟩ | ⟨hp, b, off, cap, rfl, k1, k2, k3⟩
  · rcases h with rfl | ⟨a, c, rfl, hc'⟩
    · exact text_w ba oa ca 0 0 G.N none _ _ S g w hN hn h1 (by decide) ⟨_, _, _, rfl⟩ ⟨_, _, _, rfl⟩ (Lib.hid h4) (Lib.hid (Or.inl ⟨rfl, Or.inl rfl⟩)) (Lib.hid hg)
    · exact text_w ba oa ca 0 c G.N (some a) _ _ S g w hN hn h1 ⟨Nat.zero_le _, Nat.le_trans hc' (by decide)⟩ ⟨_, _, _, rfl⟩ ⟨_, _, _, rfl⟩ (Lib.hid h4) (Lib.hid (Or.inl ⟨rfl, Or.inr ⟨a, c, rfl, hc'⟩⟩)) (Lib.hid hg)
  · exact text_w ba oa ca n cap G.N _ _ _ S g w hN hn h1 ⟨k1, Nat.le_trans k2 (by decide)⟩ ⟨_, _, _, rfl⟩ ⟨_, _, _, rfl⟩ (Lib.hid h4) (Lib.hid (Or.inr ⟨hp, b, off, cap, rfl, k1, k2, k3⟩)) (Lib.hid hg)
/-- Where a name stands. -/
theorem find_fix {w : World} {v : Value} {G : Gr} {S : Nat → ByteArray} (hv : NV w v G S) (hs : Srt S G.N) (hn : G.N ≤ 1000000) (x : ByteArray) :
    Calls Tryz.prog 52 #[v, .string x] w fun e w' => e = .returned (.int .i64 (fix S x G.N)) ∧ Below w.heap.size w w' := by
  refine (findC hv hs hn x).mono ?_
  rintro e w' ⟨h, hb⟩
  refine ⟨?_, hb⟩
  rcases h with ⟨k, hk, e1, rfl⟩ | ⟨h, rfl⟩
  · have q := pos_of (T := S) (t := x) ⟨k, hk, e1⟩
    have q2 : pos G.N S x = k := srt_inj hs q.1 hk (q.2.trans e1.symm)
    have q3 := has_fix (T := S) (t := x) ⟨k, hk, e1⟩
    unfold pos at q2
    rw [show fix S x G.N = (k : Int) by omega]
  · have q : fix S x G.N = -1 := fnd_no fun k hk => decide_eq_false (h k hk)
    rw [q]
end Net
end Go.Proofs.YtmkglhoahdlogaaGreatDoor
