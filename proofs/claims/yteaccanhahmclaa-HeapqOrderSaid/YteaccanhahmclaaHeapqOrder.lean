/- HeapqOrder: values leave a queue in the order of their priorities, and those of equal priority in the order in which they came; for every list of numbers, with no condition. -/
import Derived.Test.YteaccanhahmclaaHeapC
namespace Go.Proofs.Yteaccanhahmclaa
open Go.ChangeShapes Go.WideShapes Go.RowKit
namespace HeapqOrder
open Kit Heap
/-- Numbers in memory. -/
def IV (w : World) (v : Value) (n : Nat) (L : Nat → Int) : Prop :=
  (n = 0 ∧ (v = .slice none 0 0 ∨ ∃ a cap, v = .slice (some a) 0 cap ∧ cap ≤ maxLen)) ∨ (0 < n ∧ ∃ b off cap, v = .slice (some ⟨b, off, none⟩) n cap ∧ n ≤ cap ∧ cap ≤ maxLen ∧ ∀ k, k < n → w.cell? ⟨b, off + k, none⟩ = some (.int .i64 (L k)))
theorem iv_of {W : World} {v : Value} (h : Frame.Okc W (.sl [.int]) v) : ∃ n L, IV W v n L := by
  rcases Frame.Okc.sl_inv h with rfl | ⟨a, cap, rfl, hc⟩ | ⟨b, off, len, cap, cells, rfl, h0, h1, h2, h3, h4⟩
  · exact ⟨0, fun _ => 0, Or.inl ⟨rfl, Or.inl rfl⟩⟩
  · exact ⟨0, fun _ => 0, Or.inl ⟨rfl, Or.inr ⟨_, _, rfl, hc⟩⟩⟩
  · have one : ∀ i, i < len → ∃ x : Int, W.cell? ⟨b, off + i, none⟩ = some (.int .i64 x) := fun i hi => by
      obtain ⟨x, e0, -⟩ := (h4 i hi 0 (by decide)).int_inv
      have := h3 i hi 0 (by decide)
      rw [e0] at this
      exact ⟨x, by simpa using this⟩
    classical
    refine ⟨len, fun i => if h : i < len then Classical.choose (one i h) else 0, Or.inr ⟨h0, b, off, cap, rfl, h1, h2, fun k hk => ?_⟩⟩
    simp only [dif_pos hk]
    exact Classical.choose_spec (one k hk)
/-- An item that is one of the first m numbers. -/
def Is (L : Nat → Int) (m : Nat) (x : It) : Prop := ∃ a : Nat, a < m ∧ x = ⟨L a, (a : Int), .int .i64 (a : Int)⟩
theorem is_more {L : Nat → Int} {m : Nat} {x : It} (h : Is L m x) : Is L (m + 1) x := by
  obtain ⟨a, h1, h2⟩ := h
  exact ⟨a, by omega, h2⟩
abbrev QI (w : World) (q n : Nat) (f : Hp) (nx : Int) : Prop := QS 124 Ki.KV w q n f nx
/-- What came out last is before what is left. -/
def Lst (k m : Nat) (was last : Int) (f : Hp) : Prop := 0 < k → All m (fun x => bef x ⟨was, last, .int .i64 last⟩ = false) f

set_option maxRecDepth 100000 in
set_option maxHeartbeats 8000000 in
theorem core60 (A : Option Addr) (m cap : Nat) (L : Nat → Int) (W : World) (h60 : 60 < m) (hm : m ≤ cap) (hcap : cap ≤ 9223372036854775807) (HV : Hid (∃ b off, (0 < m → A = some ⟨b, off, none⟩) ∧ ∀ k, k < m → W.cell? ⟨b, off + k, none⟩ = some (.int .i64 (L k)))) :
    Calls Try.prog 3 #[.slice A m cap] W fun e w' => e = .returned (.bool true) ∧ Below W.heap.size W w' := by
  have hm9 : (m : Int) ≤ 9223372036854775807 := by omega
  have hm0 : (0 : Int) ≤ (m : Int) := Int.natCast_nonneg _
  have h60' : (60 : Int) < (m : Int) := by omega
  go_enter Try.func3, Try.ntmps3
  go_wp2_with fail
  all_goals try (exfalso; omega)
  (with_reducible refine (heapWorks _).mono ?_); rintro e w1 ⟨rfl, hb⟩
  have W1 := Lib.hid hb; clear hb
  go_wp2_with fail
  (with_reducible refine (Ki.new_q _).mono ?_); rintro e w2 ⟨⟨q, rfl, hq1, hq2, hqs⟩, hb⟩
  have W2 := Lib.hid (b_next W1.out hb); have H2 := Lib.hid (hqs f00)
  have HB := Lib.hid (show W.heap.size ≤ q from Nat.le_trans W1.out.size hq1)
  clear hb hqs hq1 hq2
  go_wp2_with fail
  go_loopw [25] (fun s wr => ∃ (k : Nat) (f : Hp), k ≤ 60 ∧ s = .int .i64 k ∧ QI wr q k f k ∧ Ord k f ∧ All k (Is L k) f ∧ Below W.heap.size W wr) (fun s _ => 60 - (intOf s).toNat)
  case atStart => exact ⟨0, f00, Nat.zero_le _, rfl, H2.out, fun i _ h => absurd h (Nat.not_lt_zero i), fun i h => absurd h (Nat.not_lt_zero i), W2.out⟩
  case round =>
    obtain ⟨k, f, hk, rfl, hqs, hord, hall, hbl⟩ := hrel
    by_cases hlt : k < 60
    · have hl : (k : Int) < (60 : Int) := by omega
      have hlm : k < m := by omega
      obtain ⟨b, off, hA, hc⟩ := HV.out
      have hA := hA (by omega)
      subst hA
      have c0 := keep hbl (hc k hlm)
      have PU := Lib.hid (Ki.pushC hqs (by omega) (by omega) (L k) (k : Int))
      have ORD := Lib.hid (push_ord (x := ⟨L k, (k : Int), .int .i64 (k : Int)⟩) hord)
      have ALL := Lib.hid (push_all (x := ⟨L k, (k : Int), .int .i64 (k : Int)⟩) (P := Is L (k + 1)) (fun i hi => is_more (hall i hi)) ⟨k, Nat.lt_succ_self k, rfl⟩)
      have WR := Lib.hid hbl
      clear hqs hord hall hbl hc
      generalize L k = lk at *
      go_wp2_with fail
      (with_reducible refine PU.out.mono ?_); rintro e w3 ⟨rfl, hs, hb⟩
      have W3 := Lib.hid (WR.out.trans (hb.mono HB.out)); have H3 := Lib.hid hs
      clear hs hb PU
      go_wp2_with fail
      go_roundw
      case rel => exact ⟨k + 1, _, by omega, by go_num, H3.out, ORD.out, ALL.out, W3.out⟩
      case measure => simp [intOf]; omega
    · have hkn : 60 = k := by omega
      subst hkn
      have OR1 := Lib.hid hord; have AL1 := Lib.hid hall; have WR := Lib.hid hbl; have LN := Lib.hid (Ki.len_q q _ f _ wr (by omega) hqs); have QS1 := Lib.hid hqs
      clear hqs hord hall hbl
      go_wp2_with fail
      (with_reducible refine LN.out.mono ?_); rintro e w3 ⟨rfl, rfl⟩
      clear LN
      go_wp2_with fail
      go_loopw [6, 7, 42] (fun s1 s2 s wr => ∃ (k : Nat) (f : Hp) (was last : Int), k ≤ 60 ∧ s = .int .i64 k ∧ s1 = .int .i64 was ∧ s2 = .int .i64 last ∧ QI wr q (60 - k) f (60 : Nat) ∧ Ord (60 - k) f ∧ All (60 - k) (Is L 60) f ∧ Lst k (60 - k) was last f ∧ Below W.heap.size W wr) (fun _ _ s _ => 60 - (intOf s).toNat)
      case atStart => exact ⟨0, f, 0, -1, Nat.zero_le _, rfl, rfl, rfl, QS1.out, OR1.out, AL1.out, fun h => absurd h (Nat.lt_irrefl 0), WR.out⟩
      case round =>
        obtain ⟨k, h, was, last, hk, rfl, rfl, rfl, hqs, hord, hall, hlst, hbl⟩ := hrel
        have W4 := Lib.hid hbl
        by_cases hlt : k < 60
        · have hl : (k : Int) < (60 : Int) := by omega
          obtain ⟨a, ha, hx⟩ := hall 0 (by omega)
          obtain ⟨b, off, hA, hc⟩ := HV.out
          have hA := hA (by omega)
          subst hA
          have PO := Ki.popC hqs (by omega) (by omega)
          rw [hx] at PO
          have PO := Lib.hid PO
          have ORD := Lib.hid (pop_ord hord)
          have ALL := Lib.hid (pop_all hall)
          have LST := pop_later hord
          rw [hx] at LST
          have LST' : Hid (Lst (k + 1) (60 - k - 1) (L a) (a : Int) (popF (60 - k) h)) := Lib.hid fun _ i hi => LST i hi
          have ca := hc a (by omega)
          have CA := Lib.hid ca
          have NB : Hid (0 < k → ¬ (L a < was ∨ L a = was ∧ (a : Int) < last)) := Lib.hid fun h0 => by
            have q := hlst h0 0 (by omega)
            rw [hx] at q
            unfold bef at q
            exact of_decide_eq_false q
          have ha1 : ¬ (a : Int) < 0 := by omega
          have ha2 : ¬ (60 : Int) ≤ (a : Int) := by omega
          have ha3 : (a : Int) < (60 : Int) := by omega
          clear hqs hord hall hlst hbl hc LST ca hx
          generalize L a = la at *
          have eqs : (la != la) = false := by simp
          go_wp2_with fail
          (with_reducible refine PO.out.mono ?_); rintro e w5 ⟨rfl, hs, hb⟩
          have W5 := Lib.hid (W4.out.trans (hb.mono HB.out)); have H5 := Lib.hid hs
          have ca := keep W5.out CA.out
          clear hs hb PO
          have FIN : Hid (∃ (k' : Nat) (f : Hp) (was last : Int), k' ≤ 60 ∧ Value.int .i64 ((k : Int) + 1) = .int .i64 k' ∧ Value.int .i64 la = .int .i64 was ∧ Value.int .i64 (a : Int) = .int .i64 last ∧ QI w5 q (60 - k') f (60 : Nat) ∧ Ord (60 - k') f ∧ All (60 - k') (Is L 60) f ∧ Lst k' (60 - k') was last f ∧ Below W.heap.size W w5) := Lib.hid ⟨k + 1, _, la, a, by omega, by go_num, rfl, rfl, H5.out, ORD.out, ALL.out, LST'.out, W5.out⟩
          by_cases h0 : 0 < k
          · have h0' : (0 : Int) < (k : Int) := by omega
            have nb := NB.out h0
            have b1 : ¬ la < was := fun e => nb (Or.inl e)
            have d1 := decide_eq_false b1
            clear NB
            by_cases e : la = was
            · subst e
              have b2 : ¬ (a : Int) < last := fun e => nb (Or.inr ⟨rfl, e⟩)
              have d2 := decide_eq_false b2
              have d3 : (la == la) = true := by simp
              clear nb
              go_wp2_with fail
              go_roundw
              case rel => exact FIN.out
              case measure => simp [intOf]; omega
            · have d3 : (la == was) = false := by simpa using e
              clear nb e
              go_wp2_with fail
              go_roundw
              case rel => exact FIN.out
              case measure => simp [intOf]; omega
          · have h0' : ¬ (0 : Int) < (k : Int) := by omega
            go_wp2_with fail
            go_roundw
            case rel => exact FIN.out
            case measure => simp [intOf]; omega
        · have hkn : 60 = k := by omega
          subst hkn
          have hl : ¬ (60 : Int) < (60 : Int) := by omega
          rw [Nat.sub_self] at hqs
          have PN := Lib.hid (Ki.pop_none q h _ wr hqs)
          clear hqs hord hall hlst hbl
          go_wp2_with fail
          (with_reducible refine PN.out.mono ?_); rintro e w5 ⟨rfl, rfl⟩
          go_wp2_with fail
          go_ret
          exact ⟨rfl, W4.out⟩

set_option maxRecDepth 100000 in
set_option maxHeartbeats 8000000 in
theorem coreS (A : Option Addr) (m cap : Nat) (L : Nat → Int) (W : World) (h60 : m ≤ 60) (hm : m ≤ cap) (hcap : cap ≤ 9223372036854775807) (HV : Hid (∃ b off, (0 < m → A = some ⟨b, off, none⟩) ∧ ∀ k, k < m → W.cell? ⟨b, off + k, none⟩ = some (.int .i64 (L k)))) :
    Calls Try.prog 3 #[.slice A m cap] W fun e w' => e = .returned (.bool true) ∧ Below W.heap.size W w' := by
  have hm9 : (m : Int) ≤ 9223372036854775807 := by omega
  have hm0 : (0 : Int) ≤ (m : Int) := Int.natCast_nonneg _
  have h60' : ¬ (60 : Int) < (m : Int) := by omega
  go_enter Try.func3, Try.ntmps3
  go_wp2_with fail
  all_goals try (exfalso; omega)
  (with_reducible refine (heapWorks _).mono ?_); rintro e w1 ⟨rfl, hb⟩
  have W1 := Lib.hid hb; clear hb
  go_wp2_with fail
  (with_reducible refine (Ki.new_q _).mono ?_); rintro e w2 ⟨⟨q, rfl, hq1, hq2, hqs⟩, hb⟩
  have W2 := Lib.hid (b_next W1.out hb); have H2 := Lib.hid (hqs f00)
  have HB := Lib.hid (show W.heap.size ≤ q from Nat.le_trans W1.out.size hq1)
  clear hb hqs hq1 hq2
  go_wp2_with fail
  go_loopw [25] (fun s wr => ∃ (k : Nat) (f : Hp), k ≤ m ∧ s = .int .i64 k ∧ QI wr q k f k ∧ Ord k f ∧ All k (Is L k) f ∧ Below W.heap.size W wr) (fun s _ => m - (intOf s).toNat)
  case atStart => exact ⟨0, f00, Nat.zero_le _, rfl, H2.out, fun i _ h => absurd h (Nat.not_lt_zero i), fun i h => absurd h (Nat.not_lt_zero i), W2.out⟩
  case round =>
    obtain ⟨k, f, hk, rfl, hqs, hord, hall, hbl⟩ := hrel
    by_cases hlt : k < m
    · have hl : (k : Int) < (m : Int) := by omega
      have hlm : k < m := by omega
      obtain ⟨b, off, hA, hc⟩ := HV.out
      have hA := hA (by omega)
      subst hA
      have c0 := keep hbl (hc k hlm)
      have PU := Lib.hid (Ki.pushC hqs (by omega) (by omega) (L k) (k : Int))
      have ORD := Lib.hid (push_ord (x := ⟨L k, (k : Int), .int .i64 (k : Int)⟩) hord)
      have ALL := Lib.hid (push_all (x := ⟨L k, (k : Int), .int .i64 (k : Int)⟩) (P := Is L (k + 1)) (fun i hi => is_more (hall i hi)) ⟨k, Nat.lt_succ_self k, rfl⟩)
      have WR := Lib.hid hbl
      clear hqs hord hall hbl hc
      generalize L k = lk at *
      go_wp2_with fail
      (with_reducible refine PU.out.mono ?_); rintro e w3 ⟨rfl, hs, hb⟩
      have W3 := Lib.hid (WR.out.trans (hb.mono HB.out)); have H3 := Lib.hid hs
      clear hs hb PU
      go_wp2_with fail
      go_roundw
      case rel => exact ⟨k + 1, _, by omega, by go_num, H3.out, ORD.out, ALL.out, W3.out⟩
      case measure => simp [intOf]; omega
    · have hkn : m = k := by omega
      subst hkn
      have OR1 := Lib.hid hord; have AL1 := Lib.hid hall; have WR := Lib.hid hbl; have LN := Lib.hid (Ki.len_q q _ f _ wr (by omega) hqs); have QS1 := Lib.hid hqs
      clear hqs hord hall hbl
      go_wp2_with fail
      (with_reducible refine LN.out.mono ?_); rintro e w3 ⟨rfl, rfl⟩
      clear LN
      go_wp2_with fail
      go_loopw [6, 7, 42] (fun s1 s2 s wr => ∃ (k : Nat) (f : Hp) (was last : Int), k ≤ m ∧ s = .int .i64 k ∧ s1 = .int .i64 was ∧ s2 = .int .i64 last ∧ QI wr q (m - k) f (m : Nat) ∧ Ord (m - k) f ∧ All (m - k) (Is L m) f ∧ Lst k (m - k) was last f ∧ Below W.heap.size W wr) (fun _ _ s _ => m - (intOf s).toNat)
      case atStart => exact ⟨0, f, 0, -1, Nat.zero_le _, rfl, rfl, rfl, QS1.out, OR1.out, AL1.out, fun h => absurd h (Nat.lt_irrefl 0), WR.out⟩
      case round =>
        obtain ⟨k, h, was, last, hk, rfl, rfl, rfl, hqs, hord, hall, hlst, hbl⟩ := hrel
        have W4 := Lib.hid hbl
        by_cases hlt : k < m
        · have hl : (k : Int) < (m : Int) := by omega
          obtain ⟨a, ha, hx⟩ := hall 0 (by omega)
          obtain ⟨b, off, hA, hc⟩ := HV.out
          have hA := hA (by omega)
          subst hA
          have PO := Ki.popC hqs (by omega) (by omega)
          rw [hx] at PO
          have PO := Lib.hid PO
          have ORD := Lib.hid (pop_ord hord)
          have ALL := Lib.hid (pop_all hall)
          have LST := pop_later hord
          rw [hx] at LST
          have LST' : Hid (Lst (k + 1) (m - k - 1) (L a) (a : Int) (popF (m - k) h)) := Lib.hid fun _ i hi => LST i hi
          have ca := hc a (by omega)
          have CA := Lib.hid ca
          have NB : Hid (0 < k → ¬ (L a < was ∨ L a = was ∧ (a : Int) < last)) := Lib.hid fun h0 => by
            have q := hlst h0 0 (by omega)
            rw [hx] at q
            unfold bef at q
            exact of_decide_eq_false q
          have ha1 : ¬ (a : Int) < 0 := by omega
          have ha2 : ¬ (m : Int) ≤ (a : Int) := by omega
          have ha3 : (a : Int) < (m : Int) := by omega
          clear hqs hord hall hlst hbl hc LST ca hx
          generalize L a = la at *
          have eqs : (la != la) = false := by simp
          go_wp2_with fail
          (with_reducible refine PO.out.mono ?_); rintro e w5 ⟨rfl, hs, hb⟩
          have W5 := Lib.hid (W4.out.trans (hb.mono HB.out)); have H5 := Lib.hid hs
          have ca := keep W5.out CA.out
          clear hs hb PO
          have FIN : Hid (∃ (k' : Nat) (f : Hp) (was last : Int), k' ≤ m ∧ Value.int .i64 ((k : Int) + 1) = .int .i64 k' ∧ Value.int .i64 la = .int .i64 was ∧ Value.int .i64 (a : Int) = .int .i64 last ∧ QI w5 q (m - k') f (m : Nat) ∧ Ord (m - k') f ∧ All (m - k') (Is L m) f ∧ Lst k' (m - k') was last f ∧ Below W.heap.size W w5) := Lib.hid ⟨k + 1, _, la, a, by omega, by go_num, rfl, rfl, H5.out, ORD.out, ALL.out, LST'.out, W5.out⟩
          by_cases h0 : 0 < k
          · have h0' : (0 : Int) < (k : Int) := by omega
            have nb := NB.out h0
            have b1 : ¬ la < was := fun e => nb (Or.inl e)
            have d1 := decide_eq_false b1
            clear NB
            by_cases e : la = was
            · subst e
              have b2 : ¬ (a : Int) < last := fun e => nb (Or.inr ⟨rfl, e⟩)
              have d2 := decide_eq_false b2
              have d3 : (la == la) = true := by simp
              clear nb
              go_wp2_with fail
              go_roundw
              case rel => exact FIN.out
              case measure => simp [intOf]; omega
            · have d3 : (la == was) = false := by simpa using e
              clear nb e
              go_wp2_with fail
              go_roundw
              case rel => exact FIN.out
              case measure => simp [intOf]; omega
          · have h0' : ¬ (0 : Int) < (k : Int) := by omega
            go_wp2_with fail
            go_roundw
            case rel => exact FIN.out
            case measure => simp [intOf]; omega
        · have hkn : m = k := by omega
          subst hkn
          have hl : ¬ (m : Int) < (m : Int) := by omega
          rw [Nat.sub_self] at hqs
          have PN := Lib.hid (Ki.pop_none q h _ wr hqs)
          clear hqs hord hall hlst hbl
          go_wp2_with fail
          (with_reducible refine PN.out.mono ?_); rintro e w5 ⟨rfl, rfl⟩
          go_wp2_with fail
          go_ret
          exact ⟨rfl, W4.out⟩

theorem walk (l : Value) (W : World) (h_l : Frame.Okc W (.sl [.int]) l) :
    Calls Try.prog 3 #[l] W fun e w' => e = .returned (.bool true) ∧ Below W.heap.size W w' := by
  obtain ⟨n, L, h⟩ := iv_of h_l
  have key : ∀ (A : Option Addr) (m cap : Nat), m ≤ cap → cap ≤ maxLen → (∃ b off, (0 < m → A = some ⟨b, off, none⟩) ∧ ∀ k, k < m → W.cell? ⟨b, off + k, none⟩ = some (.int .i64 (L k))) → Calls Try.prog 3 #[.slice A m cap] W fun e w' => e = .returned (.bool true) ∧ Below W.heap.size W w' := fun A m cap h1 h2 h3 => by
    have h2' : cap ≤ 9223372036854775807 := Nat.le_trans h2 (by decide)
    rcases Nat.lt_or_ge 60 m with hl | hl
    · exact core60 A m cap L W hl h1 h2' (Lib.hid h3)
    · exact coreS A m cap L W hl h1 h2' (Lib.hid h3)
  rcases h with ⟨rfl, rfl | ⟨a, cap, rfl, hc⟩⟩ | ⟨h0, b, off, cap, rfl, h1, h2, h3⟩
  · exact key none 0 0 (Nat.le_refl _) (Nat.zero_le _) ⟨0, 0, fun h => absurd h (Nat.lt_irrefl 0), fun k hk => absurd hk (Nat.not_lt_zero k)⟩
  · exact key (some a) 0 cap (Nat.zero_le _) hc ⟨0, 0, fun h => absurd h (Nat.lt_irrefl 0), fun k hk => absurd hk (Nat.not_lt_zero k)⟩
  · exact key (some ⟨b, off, none⟩) n cap h1 h2 ⟨b, off, fun _ => rfl, h3⟩
-- FRAME --

set_option maxRecDepth 100000 in
theorem lifted (os : Os) (started : os.Started) (H : Type) (enc : TypeId × Value → H) :
    ReturnsInHanded {} Try.checked os 3 .any (Rows.heapqOrderSpec.pre6 enc Try.prog Try.f3 Rows.heapqOrderRow.domain false) (Rows.heapqOrderSpec.post enc Try.prog Try.f3 false true false false) :=
  Frame.lifted (C := Try.checked) 3 Try.f3 Try.own started (by kernel_rfl) Try.func3 Try.laidOut rfl (by kernel_rfl) 4 rfl Try.underlying4
      (fun ds h => by match ds, h with | [_], _ => rfl)
      (ChangeSpec.witness6 (enc := enc) (C := Try.checked) false ⟨#[], #[.slice none 0 0], []⟩ 8 (by kernel_rfl) (by kernel_rfl) (by kernel_rfl) (by kernel_rfl))
      (fun W base args ds ps hval0 hA _ => by
        have hval : ∀ (j : Nat) t v, Try.f3.params[j]? = some t → args[j]? = some v → Value.okWide Try.prog W .any base t v := hval0
        have hA' : DataW.TrodAll enc Try.prog W 0 (fun _ => true) true Try.f3.params.toList args.toList ds ps := hA
        clear hval0 hA
        have hA := hA'
        clear hA'
        rw [Try.params3] at hA hval
        obtain ⟨v0, vs0, d0, ds0, p0, q0, ea, rfl, rfl, tr0, rest0⟩ := trodAll_cons hA
        obtain ⟨rfl, rfl, rfl⟩ := trodAll_nil rest0
        obtain rfl : args = #[v0] := by cases args; simp_all
        clear ea
        have sl_l : Frame.Okc W (.sl [.int]) v0 := by obtain ⟨a, l, c, e⟩ := okWide_slice Try.underlying22 (hval 0 _ v0 rfl rfl); exact Frame.arg_cell (k := 8) (by kernel_rfl) (by have e2 : v0 = .slice a l c := e; rw [e2]; rfl) tr0
        exact walk v0 W sl_l)

/-- The statement. -/
theorem proved : Rows.HeapqOrderSaid :=
  OpenClaim.holds_of_wide 3 Try.f3 rfl rfl rfl rfl rfl rfl rfl ⟨rfl, rfl, rfl, rfl, rfl⟩ rfl rfl rfl rfl rfl (by kernel_rfl) Try.func3 (by kernel_rfl)
    (of_decide_eq_true (by kernel_rfl)) (by unfold Func.isWrapper; first | (rw [if_pos (by decide +kernel)]; kernel_rfl) | (rw [if_neg (by decide +kernel)]; exact ⟨rfl, rfl⟩))
    (fun os started H enc _ => lifted os started H enc)
#print axioms proved
end HeapqOrder
end Go.Proofs.Yteaccanhahmclaa

