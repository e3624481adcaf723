/- HeapqAll: the iterator yields what Pop would return, and removes nothing; for every list of numbers and every number of removals, with no condition. -/
import Derived.Test.YtjmfopihfnpcpaaHeapH
import Derived.Test.YtjmfopihfnpcpaaDraw
namespace Go.Proofs.Ytjmfopihfnpcpaa
open Go.ChangeShapes Go.WideShapes Go.RowKit
attribute [local go_sem] Oper.semAt_some
namespace HeapqAll
open Kit Heap
/-- Numbers in memory. -/
def IV (w : World) (v : Value) (n : Nat) (L : Nat → Int) : Prop :=
  (n = 0 ∧ (v = .slice none 0 0 ∨ ∃ a cap, v = .slice (some a) 0 cap ∧ cap ≤ maxLen)) ∨ (0 < n ∧ ∃ b off cap, v = .slice (some ⟨b, off, none⟩) n cap ∧ n ≤ cap ∧ cap ≤ maxLen ∧ ∀ k, k < n → w.cell? ⟨b, off + k, none⟩ = some (.int .i64 (L k)))
theorem iv_of {W : World} {v : Value} (h : Frame.Okc W (.sl [.int]) v) : ∃ n L, IV W v n L := by
  rcases Frame.Okc.sl_inv h with rfl | ⟨a, cap, rfl, hc⟩ | ⟨b, off, len, cap, cells, rfl, h0, h1, h2, h3, h4⟩
  · exact ⟨0, fun _ => 0, Or.inl ⟨rfl, Or.inl rfl⟩⟩
  · exact ⟨0, fun _ => 0, Or.inl ⟨rfl, Or.inr ⟨_, _, rfl, hc⟩⟩⟩
  · have one : ∀ i, i < len → ∃ x : Int, W.cell? ⟨b, off + i, none⟩ = some (.int .i64 x) := fun i hi => by
      obtain ⟨x, e0, -⟩ := (h4 i hi 0 (by decide)).int_inv
      have := h3 i hi 0 (by decide)
      rw [e0] at this
      exact ⟨x, by simpa using this⟩
    classical
    refine ⟨len, fun i => if h : i < len then Classical.choose (one i h) else 0, Or.inr ⟨h0, b, off, cap, rfl, h1, h2, fun k hk => ?_⟩⟩
    simp only [dif_pos hk]
    exact Classical.choose_spec (one k hk)
abbrev QI (w : World) (q n : Nat) (f : Hp) (nx : Int) : Prop := QS 43 Ki.KV w q n f nx
theorem info_int : (Try.prog.info? 3).map (fun i => (i.zero, i.size, i.bytes)) = some (some (.int .i64 0), 1, 8) := by kernel_rfl
theorem two_cells (W : World) (a b : Value) (t : TypeId) : ∀ j u, [a, b][j]? = some u → (W.alloc (.cells #[a, b] t)).cell? ((⟨W.heap.size, 0, none⟩ : Addr).add j) = some u := fun j u h => by
  match j, h with
  | 0, h => cases h; simp [Addr.add]
  | 1, h => cases h; simp [Addr.add]
  | j + 2, h => simp at h

set_option maxRecDepth 100000 in
set_option maxHeartbeats 8000000 in
theorem coreL (A : Option Addr) (m cap : Nat) (p : Int) (L : Nat → Int) (W : World) (h40 : 40 < m) (hm : m ≤ cap) (hcap : cap ≤ 9223372036854775807) (HV : Hid (∃ b off, (0 < m → A = some ⟨b, off, none⟩) ∧ ∀ k, k < m → W.cell? ⟨b, off + k, none⟩ = some (.int .i64 (L k)))) :
    Calls Try.prog 3 #[.slice A m cap, .int .i64 p] W fun e w' => e = .returned (.bool true) ∧ Below W.heap.size W w' := by
  have hm9 : (m : Int) ≤ 9223372036854775807 := by omega
  have hm0 : (0 : Int) ≤ (m : Int) := Int.natCast_nonneg _
  have h40' : (40 : Int) < (m : Int) := by omega
  refine (callsIn_wide (n := 6)).1 ?_
  refine callsIn_of_wp_marks Try.func3 rfl trivial ?_ rfl
  simp only [Try.ntmps3, List.size_toArray, List.length_cons, List.length_nil, Nat.reduceAdd, Nat.reduceSub, Array.replicate_succ, Array.replicate_zero, List.push_toArray, List.append_toArray, List.nil_append, List.cons_append]
  gi_wp2_with fail
  all_goals try (exfalso; omega)
  refine ⟨trivial, ?_⟩; refine (callsIn_wide.2 (heapWorks _)).mono ?_; rintro e w1 ⟨rfl, hb⟩
  have W1 := Lib.hid hb; clear hb
  gi_wp2_with fail
  refine ⟨trivial, ?_⟩; refine (callsIn_wide.2 (Ki.new_q _)).mono ?_; rintro e w2 ⟨⟨q, rfl, hq1, hq2, hqs⟩, hb⟩
  have W2 := Lib.hid (b_next W1.out hb); have H2 := Lib.hid (hqs f00)
  have HB := Lib.hid (show W.heap.size ≤ q from Nat.le_trans W1.out.size hq1)
  clear hb hqs hq1 hq2
  gi_wp2_with fail
  gi_loopw [28] (fun s wr => ∃ (k : Nat) (f : Hp), k ≤ 40 ∧ s = .int .i64 k ∧ QI wr q k f k ∧ Below W.heap.size W wr) (fun s _ => 40 - (intOf s).toNat)
  case atStart => exact ⟨0, f00, Nat.zero_le _, rfl, H2.out, W2.out⟩
  case round =>
    obtain ⟨k, f, hk, rfl, hqs, hbl⟩ := hrel
    by_cases hlt : k < 40
    · have hl : (k : Int) < (40 : Int) := by omega
      have hlm : k < m := by omega
      obtain ⟨b, off, hA, hc⟩ := HV.out
      have hA := hA (by omega)
      subst hA
      have c0 := keep hbl (hc k hlm)
      have PU := Lib.hid (Ki.pushC hqs (by omega) (by omega) (L k) (k : Int))
      have WR := Lib.hid hbl
      clear hqs hbl hc
      generalize L k = lk at *
      gi_wp2_with fail
      refine ⟨trivial, ?_⟩; refine (callsIn_wide.2 PU.out).mono ?_; rintro e w3 ⟨rfl, hs, hb⟩
      have W3 := Lib.hid (WR.out.trans (hb.mono HB.out)); have H3 := Lib.hid hs
      clear hs hb PU
      gi_wp2_with fail
      go_roundw
      case rel => exact ⟨k + 1, _, by omega, by go_num, H3.out, W3.out⟩
      case measure => simp [intOf]; omega
    · have hkn : 40 = k := by omega
      subst hkn
      have hl : ¬ (40 : Int) < (40 : Int) := by omega
      have WR := Lib.hid hbl; have QS1 := Lib.hid hqs
      clear hqs hbl
      clear H2 W2 W1 HV
      have hd1 : ¬ (10 : Int) = 0 := by decide
      have hp1 : -10 < p.tmod 10 ∧ p.tmod 10 < 10 := by have := Int.tmod_lt_of_pos p (show (0 : Int) < 10 by decide); have := Int.lt_tmod_of_pos p (show (0 : Int) < 10 by decide); omega
      gi_wp2_with fail
      obtain ⟨r, hr⟩ : ∃ r : Nat, p.tmod 10 % 10 = (r : Int) := ⟨(p.tmod 10 % 10).toNat, by omega⟩
      have hr10 : r < 10 := by omega
      rw [hr]
      clear hr hp1
      gi_loopw [42] (fun s wr => ∃ (k n : Nat) (f : Hp) (nx : Int), k ≤ r ∧ n ≤ 40 ∧ s = .int .i64 k ∧ QI wr q n f nx ∧ Below W.heap.size W wr) (fun s _ => r - (intOf s).toNat)
      case atStart => exact ⟨0, 40, f, _, Nat.zero_le _, by omega, rfl, QS1.out, WR.out⟩
      case round =>
        clear QS1 WR
        obtain ⟨k, n, f, nx, hk, hn, rfl, hqs, hbl⟩ := hrel
        by_cases hlt : k < r
        · have hl : (k : Int) < (r : Int) := by omega
          have WR := Lib.hid hbl
          have PO : Hid (Calls Try.prog 7 #[.pointer (some ⟨q, 0, none⟩)] wr fun e w' => ∃ z, e = .returned z ∧ ∃ (n' : Nat) (f' : Hp), n' ≤ 40 ∧ QI w' q n' f' nx ∧ Below q wr w') := by
            by_cases h0 : 0 < n
            · exact Lib.hid ((Ki.popC hqs h0 (by omega)).mono fun e w' h => ⟨_, h.1, n - 1, _, by omega, h.2.1, h.2.2⟩)
            · obtain rfl : n = 0 := by omega
              exact Lib.hid ((Ki.pop_none q f nx _ hqs).mono fun e w' h => by
                obtain ⟨rfl, rfl⟩ := h
                exact ⟨_, rfl, 0, f, by omega, hqs, Below.refl _ _⟩)
          clear hqs hbl
          gi_wp2_with fail
          refine ⟨trivial, ?_⟩; refine (callsIn_wide.2 PO.out).mono ?_; rintro e w3 ⟨z, rfl, n', f', hn', hs, hb⟩
          have W3 := Lib.hid (WR.out.trans (hb.mono HB.out)); have H3 := Lib.hid hs
          clear hs hb PO
          gi_wp2_with fail
          go_roundw
          case rel => exact ⟨k + 1, n', f', nx, by omega, hn', by go_num, H3.out, W3.out⟩
          case measure => simp [intOf]; omega
        · obtain rfl : r = k := by omega
          have hl : ¬ (r : Int) < (r : Int) := by omega
          have WR := Lib.hid hbl; have QS1 := Lib.hid hqs
          clear hqs hbl
          have WA := Lib.hid (b_alloc (Below.refl wr.heap.size wr) (.cells #[.slice none 0 0] 22))
          have BXA := Lib.hid (Boxed.new wr 22 (.slice none 0 0))
          gi_wp2_with fail
          refine ⟨trivial, ?_⟩; refine (callsIn_wide.2 (Ki.allF q _)).mono ?_; rintro e w5 ⟨⟨Bx, rfl, hcB⟩, hb⟩
          have W5 : Hid (Below wr.heap.size wr w5) := Lib.hid (b_next WA.out hb)
          have BX5 : Hid (Boxed w5 wr.heap.size 22 (.slice none 0 0)) := Lib.hid ((hb.block wr.heap.size (by simp)).trans BXA.out)
          have hsz5 : wr.heap.size < w5.heap.size := by have := hb.size; simp at this; omega
          clear hb WA BXA
          have QW := Lib.hid (Ki.qs_keep W5.out QS1.out)
          obtain ⟨vq, hQb, hOw, hKv⟩ := QW.out
          obtain ⟨Z, hZ⟩ : ∃ Z : Nat → Int, ∀ k, k < n → (pops n f k 0).v = .int .i64 (Z k) := by
            have := fun k (hk : k < n) => Ki.pops_all (P := fun x => Ki.KV x.v) (n := n) (f := f) hKv k 0 (by omega)
            classical
            exact ⟨fun k => if h : k < n then Classical.choose (this k h) else 0, fun k hk => by simp only [dif_pos hk]; exact Classical.choose_spec (this k hk)⟩
          obtain ⟨B8, hB8⟩ : ∃ B8, B8 = wr.heap.size := ⟨_, rfl⟩
          rw [← hB8] at BX5 hsz5
          have HB8 := Lib.hid hB8
          gi_wp2_with fail
          rw [← hB8]
          clear hB8
          refine Ki.range_q (d := 5) (by decide) Bx q n (q + 1) f vq (by omega) hcB hQb.c0 hOw hKv rfl rfl
            (fun N1 pre W' => Below wr.heap.size wr W' ∧ ∃ v, Boxed W' B8 22 v ∧ OwnG W' N1 3 1 v (2 * pre.length) (Ki.sq n f))
            ?hI ?h0 ?a1 ?assign ?body ?done
          case hI =>
            rintro N1 s X Y ⟨hb, v, h1, h2⟩ hq
            exact ⟨hb.trans (hq.b.mono (by have := HB8.out; omega)), v, (hq.b.block B8 hsz5).trans h1, Ki.ownG_kq hq.k h2⟩
          case h0 =>
            intro X hX
            exact ⟨W5.out.trans (hX.mono (by have := HB8.out; omega)), _, (hX.block B8 hsz5).trans BX5.out, ownG_nil _ _ _ _ _⟩
          case assign =>
            intro l x W' K hK
            have hxe : Ki.encH n f x = #[.int .i64 (pops n f x.val 0).p, .int .i64 (Z x.val)] := by unfold Ki.encH; rw [hZ x.val x.isLt]
            rw [hxe]
            gi_wp2
            exact hK
          case body =>
            rintro l N1 pre x W' hord hx ⟨hB, v, hbox, hown⟩ h1 h2
            have hpl : pre.length < 40 := by have := x.isLt; omega
            have SQ := Lib.hid (Ki.sq_two n f x.val)
            rw [hZ x.val x.isLt, hx] at SQ
            rw [hx]
            obtain ⟨i0, hi, hz0, hz1, hz2⟩ := info_parts info_int
            generalize (pops n f pre.length 0).p = a at *
            generalize Z pre.length = b at *
            have OA := ownG_keep (b_alloc (Below.refl W'.heap.size W') (.cells #[.int .i64 a, .int .i64 b] 3)) hown
            have BA : Boxed (W'.alloc (.cells #[.int .i64 a, .int .i64 b] 3)) B8 22 v := (Below.heap_alloc W' _ B8 hbox.lt).trans hbox
            have x8 := hbox.cell
            have HO := Lib.hid hown; have HX := Lib.hid hbox
            have hsz : W'.heap.size < (W'.alloc (.cells #[.int .i64 a, .int .i64 b] 3)).heap.size := by simp
            have hge := ownG_ge hown
            clear hown hbox
            gi_wp2_with (gi_at_builtin; refine wpListIn_append_own _ rfl _ _ 22 rfl N1 3 i0 (.int .i64 0) 1 8 Try.underlying22 hi hz0 hz1 hz2 rfl (by decide) v (2 * pre.length) _ rfl OA ⟨W'.heap.size, 0, none⟩ 2 2 [.int .i64 a, .int .i64 b] rfl rfl (two_cells W' _ _ _) (by intro u hu; simp at hu; rcases hu with rfl | rfl <;> rfl) (by unfold maxLen; omega) (by omega) (by omega) ?_; intro v1 w6 hown6 hg6 hnil6; have hown7 : OwnG w6 N1 3 1 v1 (2 * (pre.length + 1)) (Ki.sq n f) := (by have := hown6; rw [SQ.out] at this; exact this); obtain ⟨g6, c6, rfl, hg1, hg2, -, -, -⟩ := ownG_row hown7 (by omega); have BX6 : Boxed w6 B8 22 v := (hg6.block B8 (by have := BA.lt; omega) (fun e => by have := hge B8 e.symm; omega)).trans BA; have x9 := BX6.cell; have x10 := BX6.frozen; clear hown6 hnil6)
            have hlen : (pre ++ [x]).length = pre.length + 1 := by rw [List.length_append]; rfl
            have hs6 := hg6.size
            refine ⟨⟨?_, ?_⟩, ?_, .slice (some ⟨g6, 0, none⟩) (2 * pre.length + 2) c6, ?_, ?_⟩
            · simp; omega
            · intro k k1 k2
              refine (Below.heap_setCell w6 _ _ k (by show k ≠ B8; omega)).trans ((hg6.block k (by omega) (fun e => by have := hge k e.symm; omega)).trans (Below.heap_alloc W' _ k (by omega)))
            · refine b_set' ((b_next hB (b_alloc (Below.refl W'.heap.size W') _)).grown hg6 ?_ (fun k e => by have := hge k e; have := HB8.out; omega)) (by show wr.heap.size ≤ B8; have := HB8.out; omega) _
              have := HB8.out; omega
            · exact BX6.set _
            · rw [hlen]; exact ownG_far hown7 _ (by show B8 < N1; omega) _
          case done =>
            rintro D N1 xs W' hD hN1 - hlen ⟨hB, v, hbox, hown⟩ hKd
            rw [hlen] at hown
            have hB' := hB
            have QX := Lib.hid (Ki.qs_keep hB QS1.out)
            have B6 := Lib.hid (WR.out.trans (hB.mono WR.out.size))
            obtain ⟨m2, hm2⟩ : ∃ m2, m2 = 2 * n := ⟨_, rfl⟩
            rw [← hm2] at hown
            obtain ⟨A9, c9, rfl, hc9⟩ := ownG_slice hown
            have C8 := Lib.hid hbox.cell
            have OW := Lib.hid hown
            have LN := Lib.hid fun (w1 : World) (hb : Below W'.heap.size W' w1) => (Ki.len_q q n f nx w1 (by omega) (Ki.qs_keep hb QX.out)).mono (fun e w' h => (⟨h.1, by rw [← h.2]; exact Below.refl _ _⟩ : e = .returned (.int .i64 n) ∧ Below w1.heap.size w1 w'))
            have hq8 : q < B8 := by rw [HB8.out]; exact Ki.qs_lt QS1.out
            have hqw := Ki.qs_lt QX.out
            have hB8 : B8 < W'.heap.size := hbox.lt
            have hDw : D < W'.heap.size := (Array.getElem?_eq_some_iff.1 hKd).1
            have hmul : IntKind.i64.wrap (2 * (n : Int)) = (m2 : Int) := by rw [IntWalk.i64_in _ (by omega)]; omega
            have hne : ((m2 : Int) != (m2 : Int)) = false := by simp
            have KD := Lib.hid hKd
            clear hown hbox hB hKd
            gi_wp2_with fail
            refine wpIn_wide.2 ?_
            refine d_region (by kernel_rfl) (by kernel_rfl) ?_
            repeat
              first
                | (refine d_plain (by with_reducible rfl) ?_; apply Exists.intro; refine ⟨fun wq hc hq => ?_, ?_⟩)
                | (refine d_on (by with_reducible rfl) (by rfl) (by with_reducible rfl) ?_; apply Exists.intro; refine ⟨fun wq hc hq => ?_, ?_⟩)
                | (refine d_off (by with_reducible rfl) (by rfl) (by rfl) ?_)
                | (refine d_void (by with_reducible rfl) (by rfl) ?_)
              try any_goals
                (have x0 := keep (cls hq) C8.out; clear hc
                 go_simp
                 first
                   | rfl
                   | (go_at_call 9; with_reducible exact call_below hq (LN.out _ (cls hq))))
              simp only [Act.put, List.setIfInBounds_toArray, List.set_cons_zero, List.set_cons_succ]
            refine d_nil ?_
            intro w9 hb9
            have W9 := Lib.hid (b_next B6.out hb9)
            have Q9 := Lib.hid (Ki.qs_keep hb9 QX.out)
            have Y8 := Lib.hid (keep hb9 C8.out)
            have O9 := Lib.hid (ownG_keep hb9 OW.out)
            have D9 : Hid (w9.heap[D]? = some (.deferred (some []))) := Lib.hid ((hb9.block D hDw).trans KD.out)
            have hs9 := hb9.size
            have K89 := hB'.trans (hb9.mono hB'.size)
            have hzD := W5.out.size
            clear hb9 C8 OW KD LN QX B6
            have GG : ∃ g cap', (0 < n → q < g ∧ Ki.QG w9 q q g cap' n f nx) ∧ g < B8 := by
              by_cases h0 : 0 < n
              · obtain ⟨g, c', h1, h2, h3⟩ := Ki.qg_of_qs QS1.out h0
                exact ⟨g, c', fun _ => ⟨h1, Ki.qg_same (K89.block q (Ki.qs_lt QS1.out)) (K89.block g h2) h3⟩, by rw [HB8.out]; exact h2⟩
              · exact ⟨0, 0, fun h => absurd h h0, by omega⟩
            obtain ⟨g, cap', hGG, hg8⟩ := GG
            have SE : Hid (0 < n → ∃ g9, A9 = some ⟨g9, 0, none⟩ ∧ N1 ≤ g9 ∧ g9 < w9.heap.size ∧ m2 ≤ c9 ∧ ∀ j, j < m2 → w9.cell? ⟨g9, j, none⟩ = some (Ki.sq n f j 0)) := Lib.hid fun h0 => by
              obtain ⟨g9, c', e, k1, k2, k3, k4, k5⟩ := ownG_row O9.out (by omega)
              injection e with e1 _ e3
              refine ⟨g9, e1, k1, k2, by omega, fun j hj => ?_⟩
              have := k5.cell j hj 0 Nat.one_pos
              simpa using this
            have hwB : W.heap.size ≤ q := HB.out
            clear K89 hB'
            gi_wp2_with fail
            gi_loopw [11] (fun s wv => ∃ k : Nat, k ≤ n ∧ s = .int .i64 ((2 * k : Nat) : Int) ∧ QI wv q (n - k) (pops n f k) nx ∧ (0 < n → Ki.QG wv q q g cap' (n - k) (pops n f k) nx) ∧ w9.heap.size ≤ wv.heap.size ∧ Below W.heap.size W wv ∧ ∀ j, j < w9.heap.size → j ≠ q → j ≠ g → wv.heap[j]? = w9.heap[j]?) (fun s _ => m2 - (intOf s).toNat)
            case atStart => exact ⟨0, Nat.zero_le _, rfl, Q9.out, fun h => (hGG h).2, Nat.le_refl _, W9.out, fun _ _ _ _ => rfl⟩
            case round =>
              obtain ⟨k, hk, rfl, hqs, hqg, hsz, hbl, hkk⟩ := hrel
              obtain ⟨K2, hK2⟩ : ∃ K2, K2 = 2 * k := ⟨_, rfl⟩
              rw [← hK2]
              have y8 := (World.cell?_of_block (hkk B8 (by omega) (by omega) (by omega))).trans Y8.out
              by_cases hlt : k < n
              · have h0 : 0 < n := by omega
                obtain ⟨hgq, -⟩ := hGG h0
                obtain ⟨g9, rfl, g91, g92, g93, hce⟩ := SE.out h0
                obtain ⟨mm, hmm⟩ : ∃ mm, n - k = mm + 1 := ⟨n - k - 1, by omega⟩
                have hqg := hqg h0
                rw [hmm] at hqg hqs
                have hl : (K2 : Int) < (m2 : Int) := by omega
                have hl2 : (K2 : Int) + 1 < (m2 : Int) := by omega
                have hc9' : (c9 : Int) ≤ 9223372036854775807 := by have : c9 ≤ 9223372036854775807 := Nat.le_trans hc9 (by decide); omega
                have PK := Lib.hid (Ki.peekC hqs (by omega))
                have PO := Lib.hid fun (w1 : World) (hb : Below wr.heap.size wr w1) => Ki.popG (Ki.qg_same (hb.block q (by omega)) (hb.block g (by omega)) hqg) (Nat.le_refl q) (by omega) (by omega)
                have CE : Hid (∀ w1 : World, (∀ j, j < w9.heap.size → j ≠ q → j ≠ g → w1.heap[j]? = w9.heap[j]?) → w1.cell? ⟨B8, 0, none⟩ = some (.slice (some ⟨g9, 0, none⟩) m2 c9) ∧ w1.cell? ⟨g9, K2, none⟩ = some (.int .i64 (pops n f k 0).p) ∧ w1.cell? ⟨g9, K2 + 1, none⟩ = some (.int .i64 (Z k))) := Lib.hid fun w1 h1 => by
                  refine ⟨(World.cell?_of_block (h1 B8 (by omega) (by omega) (by omega))).trans Y8.out, ?_, ?_⟩
                  · have e := hce K2 (by omega)
                    rw [hK2, Ki.sq_even] at e
                    rw [hK2]
                    exact (World.cell?_of_block (h1 g9 (by omega) (by omega) (by omega))).trans e
                  · have e := hce (K2 + 1) (by omega)
                    rw [hK2, Ki.sq_odd, hZ k hlt] at e
                    rw [hK2]
                    exact (World.cell?_of_block (h1 g9 (by omega) (by omega) (by omega))).trans e
                rw [hZ k hlt] at PK PO
                have NX : Hid (popF (mm + 1) (pops n f k) = pops n f (k + 1)) := Lib.hid (by rw [← hmm]; rfl)
                have KK := Lib.hid hkk; have WV := Lib.hid hbl
                clear hce hqg hqs hkk hbl
                have HK2 := Lib.hid hK2; clear hK2 hm2
                generalize (pops n f k 0).p = pp at *
                generalize Z k = zz at *
                gi_wp2_with fail
                refine ⟨trivial, ?_⟩; refine (callsIn_wide.2 PK.out).mono ?_; rintro e w10 ⟨rfl, hb⟩
                have PO10 := Lib.hid (PO.out w10 hb)
                have K10 : Hid (∀ j, j < w9.heap.size → j ≠ q → j ≠ g → w10.heap[j]? = w9.heap[j]?) := Lib.hid fun j h1 h2 h3 => (hb.block j (by omega)).trans (KK.out j h1 h2 h3)
                have W10 := Lib.hid (b_next WV.out hb)
                have hs10 : w9.heap.size ≤ w10.heap.size := Nat.le_trans hsz hb.size
                clear PK PO hb
                gi_wp2_with fail
                refine ⟨trivial, ?_⟩; refine (callsIn_wide.2 PO10.out).mono ?_; rintro e w11 ⟨rfl, hqg, hb⟩
                have K11 : Hid (∀ j, j < w9.heap.size → j ≠ q → j ≠ g → w11.heap[j]? = w9.heap[j]?) := Lib.hid fun j h1 h2 h3 => (hb.k j (by omega) h2 h3).trans (K10.out j h1 h2 h3)
                have W11 := Lib.hid (W10.out.trans (hb.b.mono hwB))
                have hs11 : w9.heap.size ≤ w11.heap.size := Nat.le_trans hs10 hb.b.size
                have QG11 := Lib.hid hqg
                obtain ⟨z8, z9, z10⟩ := CE.out w11 K11.out
                have ba : ((pp : Int) != pp) = false := by simp
                have bb : ((zz : Int) != zz) = false := by simp
                clear hb hqg PO10
                gi_wp2_with fail
                go_roundw
                case rel =>
                  refine ⟨k + 1, by omega, ?_, ?_, ?_, hs11, W11.out, K11.out⟩
                  · have := HK2.out; congr 1; omega
                  · rw [show n - (k + 1) = mm by omega, ← NX.out]; exact Ki.qs_of_qg QG11.out hgq
                  · intro _; rw [show n - (k + 1) = mm by omega, ← NX.out]; exact QG11.out
                case measure => simp [intOf]; omega
              · obtain rfl : n = k := by omega
                have hl : ¬ (K2 : Int) < (m2 : Int) := by omega
                rw [Nat.sub_self] at hqs
                have LN := Lib.hid (Ki.len_q q 0 _ nx _ (by omega) hqs)
                have WV := Lib.hid hbl
                have KDv := Lib.hid ((hkk D (by omega) (by omega) (by omega)).trans D9.out)
                clear hqs hqg hbl hkk
                gi_wp2_with fail
                refine ⟨trivial, ?_⟩; refine (callsIn_wide.2 LN.out).mono ?_; rintro e w10 ⟨rfl, rfl⟩
                gi_wp2_with fail
                have hKv := KDv.out
                refine ⟨by simp, .inl ⟨_, _, rfl, run_takeDeferred hKv, ?_⟩⟩
                refine ⟨.bool true, ?_, rfl, WV.out.trans (Ki.b_put (by omega) _)⟩
                simp [results, Try.f3, go_sem]

set_option maxRecDepth 100000 in
set_option maxHeartbeats 8000000 in
theorem coreS (A : Option Addr) (m cap : Nat) (p : Int) (L : Nat → Int) (W : World) (h40 : m ≤ 40) (hm : m ≤ cap) (hcap : cap ≤ 9223372036854775807) (HV : Hid (∃ b off, (0 < m → A = some ⟨b, off, none⟩) ∧ ∀ k, k < m → W.cell? ⟨b, off + k, none⟩ = some (.int .i64 (L k)))) :
    Calls Try.prog 3 #[.slice A m cap, .int .i64 p] W fun e w' => e = .returned (.bool true) ∧ Below W.heap.size W w' := by
  have hm9 : (m : Int) ≤ 9223372036854775807 := by omega
  have hm0 : (0 : Int) ≤ (m : Int) := Int.natCast_nonneg _
  have h40' : ¬ (40 : Int) < (m : Int) := by omega
  refine (callsIn_wide (n := 6)).1 ?_
  refine callsIn_of_wp_marks Try.func3 rfl trivial ?_ rfl
  simp only [Try.ntmps3, List.size_toArray, List.length_cons, List.length_nil, Nat.reduceAdd, Nat.reduceSub, Array.replicate_succ, Array.replicate_zero, List.push_toArray, List.append_toArray, List.nil_append, List.cons_append]
  gi_wp2_with fail
  all_goals try (exfalso; omega)
  refine ⟨trivial, ?_⟩; refine (callsIn_wide.2 (heapWorks _)).mono ?_; rintro e w1 ⟨rfl, hb⟩
  have W1 := Lib.hid hb; clear hb
  gi_wp2_with fail
  refine ⟨trivial, ?_⟩; refine (callsIn_wide.2 (Ki.new_q _)).mono ?_; rintro e w2 ⟨⟨q, rfl, hq1, hq2, hqs⟩, hb⟩
  have W2 := Lib.hid (b_next W1.out hb); have H2 := Lib.hid (hqs f00)
  have HB := Lib.hid (show W.heap.size ≤ q from Nat.le_trans W1.out.size hq1)
  clear hb hqs hq1 hq2
  gi_wp2_with fail
  gi_loopw [28] (fun s wr => ∃ (k : Nat) (f : Hp), k ≤ m ∧ s = .int .i64 k ∧ QI wr q k f k ∧ Below W.heap.size W wr) (fun s _ => m - (intOf s).toNat)
  case atStart => exact ⟨0, f00, Nat.zero_le _, rfl, H2.out, W2.out⟩
  case round =>
    obtain ⟨k, f, hk, rfl, hqs, hbl⟩ := hrel
    by_cases hlt : k < m
    · have hl : (k : Int) < (m : Int) := by omega
      have hlm : k < m := by omega
      obtain ⟨b, off, hA, hc⟩ := HV.out
      have hA := hA (by omega)
      subst hA
      have c0 := keep hbl (hc k hlm)
      have PU := Lib.hid (Ki.pushC hqs (by omega) (by omega) (L k) (k : Int))
      have WR := Lib.hid hbl
      clear hqs hbl hc
      generalize L k = lk at *
      gi_wp2_with fail
      refine ⟨trivial, ?_⟩; refine (callsIn_wide.2 PU.out).mono ?_; rintro e w3 ⟨rfl, hs, hb⟩
      have W3 := Lib.hid (WR.out.trans (hb.mono HB.out)); have H3 := Lib.hid hs
      clear hs hb PU
      gi_wp2_with fail
      go_roundw
      case rel => exact ⟨k + 1, _, by omega, by go_num, H3.out, W3.out⟩
      case measure => simp [intOf]; omega
    · have hkn : m = k := by omega
      subst hkn
      have hl : ¬ (m : Int) < (m : Int) := by omega
      have WR := Lib.hid hbl; have QS1 := Lib.hid hqs
      clear hqs hbl
      clear H2 W2 W1 HV
      have hd1 : ¬ (10 : Int) = 0 := by decide
      have hp1 : -10 < p.tmod 10 ∧ p.tmod 10 < 10 := by have := Int.tmod_lt_of_pos p (show (0 : Int) < 10 by decide); have := Int.lt_tmod_of_pos p (show (0 : Int) < 10 by decide); omega
      gi_wp2_with fail
      obtain ⟨r, hr⟩ : ∃ r : Nat, p.tmod 10 % 10 = (r : Int) := ⟨(p.tmod 10 % 10).toNat, by omega⟩
      have hr10 : r < 10 := by omega
      rw [hr]
      clear hr hp1
      gi_loopw [42] (fun s wr => ∃ (k n : Nat) (f : Hp) (nx : Int), k ≤ r ∧ n ≤ 40 ∧ s = .int .i64 k ∧ QI wr q n f nx ∧ Below W.heap.size W wr) (fun s _ => r - (intOf s).toNat)
      case atStart => exact ⟨0, m, f, _, Nat.zero_le _, by omega, rfl, QS1.out, WR.out⟩
      case round =>
        clear QS1 WR
        obtain ⟨k, n, f, nx, hk, hn, rfl, hqs, hbl⟩ := hrel
        by_cases hlt : k < r
        · have hl : (k : Int) < (r : Int) := by omega
          have WR := Lib.hid hbl
          have PO : Hid (Calls Try.prog 7 #[.pointer (some ⟨q, 0, none⟩)] wr fun e w' => ∃ z, e = .returned z ∧ ∃ (n' : Nat) (f' : Hp), n' ≤ 40 ∧ QI w' q n' f' nx ∧ Below q wr w') := by
            by_cases h0 : 0 < n
            · exact Lib.hid ((Ki.popC hqs h0 (by omega)).mono fun e w' h => ⟨_, h.1, n - 1, _, by omega, h.2.1, h.2.2⟩)
            · obtain rfl : n = 0 := by omega
              exact Lib.hid ((Ki.pop_none q f nx _ hqs).mono fun e w' h => by
                obtain ⟨rfl, rfl⟩ := h
                exact ⟨_, rfl, 0, f, by omega, hqs, Below.refl _ _⟩)
          clear hqs hbl
          gi_wp2_with fail
          refine ⟨trivial, ?_⟩; refine (callsIn_wide.2 PO.out).mono ?_; rintro e w3 ⟨z, rfl, n', f', hn', hs, hb⟩
          have W3 := Lib.hid (WR.out.trans (hb.mono HB.out)); have H3 := Lib.hid hs
          clear hs hb PO
          gi_wp2_with fail
          go_roundw
          case rel => exact ⟨k + 1, n', f', nx, by omega, hn', by go_num, H3.out, W3.out⟩
          case measure => simp [intOf]; omega
        · obtain rfl : r = k := by omega
          have hl : ¬ (r : Int) < (r : Int) := by omega
          have WR := Lib.hid hbl; have QS1 := Lib.hid hqs
          clear hqs hbl
          have WA := Lib.hid (b_alloc (Below.refl wr.heap.size wr) (.cells #[.slice none 0 0] 22))
          have BXA := Lib.hid (Boxed.new wr 22 (.slice none 0 0))
          gi_wp2_with fail
          refine ⟨trivial, ?_⟩; refine (callsIn_wide.2 (Ki.allF q _)).mono ?_; rintro e w5 ⟨⟨Bx, rfl, hcB⟩, hb⟩
          have W5 : Hid (Below wr.heap.size wr w5) := Lib.hid (b_next WA.out hb)
          have BX5 : Hid (Boxed w5 wr.heap.size 22 (.slice none 0 0)) := Lib.hid ((hb.block wr.heap.size (by simp)).trans BXA.out)
          have hsz5 : wr.heap.size < w5.heap.size := by have := hb.size; simp at this; omega
          clear hb WA BXA
          have QW := Lib.hid (Ki.qs_keep W5.out QS1.out)
          obtain ⟨vq, hQb, hOw, hKv⟩ := QW.out
          obtain ⟨Z, hZ⟩ : ∃ Z : Nat → Int, ∀ k, k < n → (pops n f k 0).v = .int .i64 (Z k) := by
            have := fun k (hk : k < n) => Ki.pops_all (P := fun x => Ki.KV x.v) (n := n) (f := f) hKv k 0 (by omega)
            classical
            exact ⟨fun k => if h : k < n then Classical.choose (this k h) else 0, fun k hk => by simp only [dif_pos hk]; exact Classical.choose_spec (this k hk)⟩
          obtain ⟨B8, hB8⟩ : ∃ B8, B8 = wr.heap.size := ⟨_, rfl⟩
          rw [← hB8] at BX5 hsz5
          have HB8 := Lib.hid hB8
          gi_wp2_with fail
          rw [← hB8]
          clear hB8
          refine Ki.range_q (d := 5) (by decide) Bx q n (q + 1) f vq (by omega) hcB hQb.c0 hOw hKv rfl rfl
            (fun N1 pre W' => Below wr.heap.size wr W' ∧ ∃ v, Boxed W' B8 22 v ∧ OwnG W' N1 3 1 v (2 * pre.length) (Ki.sq n f))
            ?hI ?h0 ?a1 ?assign ?body ?done
          case hI =>
            rintro N1 s X Y ⟨hb, v, h1, h2⟩ hq
            exact ⟨hb.trans (hq.b.mono (by have := HB8.out; omega)), v, (hq.b.block B8 hsz5).trans h1, Ki.ownG_kq hq.k h2⟩
          case h0 =>
            intro X hX
            exact ⟨W5.out.trans (hX.mono (by have := HB8.out; omega)), _, (hX.block B8 hsz5).trans BX5.out, ownG_nil _ _ _ _ _⟩
          case assign =>
            intro l x W' K hK
            have hxe : Ki.encH n f x = #[.int .i64 (pops n f x.val 0).p, .int .i64 (Z x.val)] := by unfold Ki.encH; rw [hZ x.val x.isLt]
            rw [hxe]
            gi_wp2
            exact hK
          case body =>
            rintro l N1 pre x W' hord hx ⟨hB, v, hbox, hown⟩ h1 h2
            have hpl : pre.length < 40 := by have := x.isLt; omega
            have SQ := Lib.hid (Ki.sq_two n f x.val)
            rw [hZ x.val x.isLt, hx] at SQ
            rw [hx]
            obtain ⟨i0, hi, hz0, hz1, hz2⟩ := info_parts info_int
            generalize (pops n f pre.length 0).p = a at *
            generalize Z pre.length = b at *
            have OA := ownG_keep (b_alloc (Below.refl W'.heap.size W') (.cells #[.int .i64 a, .int .i64 b] 3)) hown
            have BA : Boxed (W'.alloc (.cells #[.int .i64 a, .int .i64 b] 3)) B8 22 v := (Below.heap_alloc W' _ B8 hbox.lt).trans hbox
            have x8 := hbox.cell
            have HO := Lib.hid hown; have HX := Lib.hid hbox
            have hsz : W'.heap.size < (W'.alloc (.cells #[.int .i64 a, .int .i64 b] 3)).heap.size := by simp
            have hge := ownG_ge hown
            clear hown hbox
            gi_wp2_with (gi_at_builtin; refine wpListIn_append_own _ rfl _ _ 22 rfl N1 3 i0 (.int .i64 0) 1 8 Try.underlying22 hi hz0 hz1 hz2 rfl (by decide) v (2 * pre.length) _ rfl OA ⟨W'.heap.size, 0, none⟩ 2 2 [.int .i64 a, .int .i64 b] rfl rfl (two_cells W' _ _ _) (by intro u hu; simp at hu; rcases hu with rfl | rfl <;> rfl) (by unfold maxLen; omega) (by omega) (by omega) ?_; intro v1 w6 hown6 hg6 hnil6; have hown7 : OwnG w6 N1 3 1 v1 (2 * (pre.length + 1)) (Ki.sq n f) := (by have := hown6; rw [SQ.out] at this; exact this); obtain ⟨g6, c6, rfl, hg1, hg2, -, -, -⟩ := ownG_row hown7 (by omega); have BX6 : Boxed w6 B8 22 v := (hg6.block B8 (by have := BA.lt; omega) (fun e => by have := hge B8 e.symm; omega)).trans BA; have x9 := BX6.cell; have x10 := BX6.frozen; clear hown6 hnil6)
            have hlen : (pre ++ [x]).length = pre.length + 1 := by rw [List.length_append]; rfl
            have hs6 := hg6.size
            refine ⟨⟨?_, ?_⟩, ?_, .slice (some ⟨g6, 0, none⟩) (2 * pre.length + 2) c6, ?_, ?_⟩
            · simp; omega
            · intro k k1 k2
              refine (Below.heap_setCell w6 _ _ k (by show k ≠ B8; omega)).trans ((hg6.block k (by omega) (fun e => by have := hge k e.symm; omega)).trans (Below.heap_alloc W' _ k (by omega)))
            · refine b_set' ((b_next hB (b_alloc (Below.refl W'.heap.size W') _)).grown hg6 ?_ (fun k e => by have := hge k e; have := HB8.out; omega)) (by show wr.heap.size ≤ B8; have := HB8.out; omega) _
              have := HB8.out; omega
            · exact BX6.set _
            · rw [hlen]; exact ownG_far hown7 _ (by show B8 < N1; omega) _
          case done =>
            rintro D N1 xs W' hD hN1 - hlen ⟨hB, v, hbox, hown⟩ hKd
            rw [hlen] at hown
            have hB' := hB
            have QX := Lib.hid (Ki.qs_keep hB QS1.out)
            have B6 := Lib.hid (WR.out.trans (hB.mono WR.out.size))
            obtain ⟨m2, hm2⟩ : ∃ m2, m2 = 2 * n := ⟨_, rfl⟩
            rw [← hm2] at hown
            obtain ⟨A9, c9, rfl, hc9⟩ := ownG_slice hown
            have C8 := Lib.hid hbox.cell
            have OW := Lib.hid hown
            have LN := Lib.hid fun (w1 : World) (hb : Below W'.heap.size W' w1) => (Ki.len_q q n f nx w1 (by omega) (Ki.qs_keep hb QX.out)).mono (fun e w' h => (⟨h.1, by rw [← h.2]; exact Below.refl _ _⟩ : e = .returned (.int .i64 n) ∧ Below w1.heap.size w1 w'))
            have hq8 : q < B8 := by rw [HB8.out]; exact Ki.qs_lt QS1.out
            have hqw := Ki.qs_lt QX.out
            have hB8 : B8 < W'.heap.size := hbox.lt
            have hDw : D < W'.heap.size := (Array.getElem?_eq_some_iff.1 hKd).1
            have hmul : IntKind.i64.wrap (2 * (n : Int)) = (m2 : Int) := by rw [IntWalk.i64_in _ (by omega)]; omega
            have hne : ((m2 : Int) != (m2 : Int)) = false := by simp
            have KD := Lib.hid hKd
            clear hown hbox hB hKd
            gi_wp2_with fail
            refine wpIn_wide.2 ?_
            refine d_region (by kernel_rfl) (by kernel_rfl) ?_
            repeat
              first
                | (refine d_plain (by with_reducible rfl) ?_; apply Exists.intro; refine ⟨fun wq hc hq => ?_, ?_⟩)
                | (refine d_on (by with_reducible rfl) (by rfl) (by with_reducible rfl) ?_; apply Exists.intro; refine ⟨fun wq hc hq => ?_, ?_⟩)
                | (refine d_off (by with_reducible rfl) (by rfl) (by rfl) ?_)
                | (refine d_void (by with_reducible rfl) (by rfl) ?_)
              try any_goals
                (have x0 := keep (cls hq) C8.out; clear hc
                 go_simp
                 first
                   | rfl
                   | (go_at_call 9; with_reducible exact call_below hq (LN.out _ (cls hq))))
              simp only [Act.put, List.setIfInBounds_toArray, List.set_cons_zero, List.set_cons_succ]
            refine d_nil ?_
            intro w9 hb9
            have W9 := Lib.hid (b_next B6.out hb9)
            have Q9 := Lib.hid (Ki.qs_keep hb9 QX.out)
            have Y8 := Lib.hid (keep hb9 C8.out)
            have O9 := Lib.hid (ownG_keep hb9 OW.out)
            have D9 : Hid (w9.heap[D]? = some (.deferred (some []))) := Lib.hid ((hb9.block D hDw).trans KD.out)
            have hs9 := hb9.size
            have K89 := hB'.trans (hb9.mono hB'.size)
            have hzD := W5.out.size
            clear hb9 C8 OW KD LN QX B6
            have GG : ∃ g cap', (0 < n → q < g ∧ Ki.QG w9 q q g cap' n f nx) ∧ g < B8 := by
              by_cases h0 : 0 < n
              · obtain ⟨g, c', h1, h2, h3⟩ := Ki.qg_of_qs QS1.out h0
                exact ⟨g, c', fun _ => ⟨h1, Ki.qg_same (K89.block q (Ki.qs_lt QS1.out)) (K89.block g h2) h3⟩, by rw [HB8.out]; exact h2⟩
              · exact ⟨0, 0, fun h => absurd h h0, by omega⟩
            obtain ⟨g, cap', hGG, hg8⟩ := GG
            have SE : Hid (0 < n → ∃ g9, A9 = some ⟨g9, 0, none⟩ ∧ N1 ≤ g9 ∧ g9 < w9.heap.size ∧ m2 ≤ c9 ∧ ∀ j, j < m2 → w9.cell? ⟨g9, j, none⟩ = some (Ki.sq n f j 0)) := Lib.hid fun h0 => by
              obtain ⟨g9, c', e, k1, k2, k3, k4, k5⟩ := ownG_row O9.out (by omega)
              injection e with e1 _ e3
              refine ⟨g9, e1, k1, k2, by omega, fun j hj => ?_⟩
              have := k5.cell j hj 0 Nat.one_pos
              simpa using this
            have hwB : W.heap.size ≤ q := HB.out
            clear K89 hB'
            gi_wp2_with fail
            gi_loopw [11] (fun s wv => ∃ k : Nat, k ≤ n ∧ s = .int .i64 ((2 * k : Nat) : Int) ∧ QI wv q (n - k) (pops n f k) nx ∧ (0 < n → Ki.QG wv q q g cap' (n - k) (pops n f k) nx) ∧ w9.heap.size ≤ wv.heap.size ∧ Below W.heap.size W wv ∧ ∀ j, j < w9.heap.size → j ≠ q → j ≠ g → wv.heap[j]? = w9.heap[j]?) (fun s _ => m2 - (intOf s).toNat)
            case atStart => exact ⟨0, Nat.zero_le _, rfl, Q9.out, fun h => (hGG h).2, Nat.le_refl _, W9.out, fun _ _ _ _ => rfl⟩
            case round =>
              obtain ⟨k, hk, rfl, hqs, hqg, hsz, hbl, hkk⟩ := hrel
              obtain ⟨K2, hK2⟩ : ∃ K2, K2 = 2 * k := ⟨_, rfl⟩
              rw [← hK2]
              have y8 := (World.cell?_of_block (hkk B8 (by omega) (by omega) (by omega))).trans Y8.out
              by_cases hlt : k < n
              · have h0 : 0 < n := by omega
                obtain ⟨hgq, -⟩ := hGG h0
                obtain ⟨g9, rfl, g91, g92, g93, hce⟩ := SE.out h0
                obtain ⟨mm, hmm⟩ : ∃ mm, n - k = mm + 1 := ⟨n - k - 1, by omega⟩
                have hqg := hqg h0
                rw [hmm] at hqg hqs
                have hl : (K2 : Int) < (m2 : Int) := by omega
                have hl2 : (K2 : Int) + 1 < (m2 : Int) := by omega
                have hc9' : (c9 : Int) ≤ 9223372036854775807 := by have : c9 ≤ 9223372036854775807 := Nat.le_trans hc9 (by decide); omega
                have PK := Lib.hid (Ki.peekC hqs (by omega))
                have PO := Lib.hid fun (w1 : World) (hb : Below wr.heap.size wr w1) => Ki.popG (Ki.qg_same (hb.block q (by omega)) (hb.block g (by omega)) hqg) (Nat.le_refl q) (by omega) (by omega)
                have CE : Hid (∀ w1 : World, (∀ j, j < w9.heap.size → j ≠ q → j ≠ g → w1.heap[j]? = w9.heap[j]?) → w1.cell? ⟨B8, 0, none⟩ = some (.slice (some ⟨g9, 0, none⟩) m2 c9) ∧ w1.cell? ⟨g9, K2, none⟩ = some (.int .i64 (pops n f k 0).p) ∧ w1.cell? ⟨g9, K2 + 1, none⟩ = some (.int .i64 (Z k))) := Lib.hid fun w1 h1 => by
                  refine ⟨(World.cell?_of_block (h1 B8 (by omega) (by omega) (by omega))).trans Y8.out, ?_, ?_⟩
                  · have e := hce K2 (by omega)
                    rw [hK2, Ki.sq_even] at e
                    rw [hK2]
                    exact (World.cell?_of_block (h1 g9 (by omega) (by omega) (by omega))).trans e
                  · have e := hce (K2 + 1) (by omega)
                    rw [hK2, Ki.sq_odd, hZ k hlt] at e
                    rw [hK2]
                    exact (World.cell?_of_block (h1 g9 (by omega) (by omega) (by omega))).trans e
                rw [hZ k hlt] at PK PO
                have NX : Hid (popF (mm + 1) (pops n f k) = pops n f (k + 1)) := Lib.hid (by rw [← hmm]; rfl)
                have KK := Lib.hid hkk; have WV := Lib.hid hbl
                clear hce hqg hqs hkk hbl
                have HK2 := Lib.hid hK2; clear hK2 hm2
                generalize (pops n f k 0).p = pp at *
                generalize Z k = zz at *
                gi_wp2_with fail
                refine ⟨trivial, ?_⟩; refine (callsIn_wide.2 PK.out).mono ?_; rintro e w10 ⟨rfl, hb⟩
                have PO10 := Lib.hid (PO.out w10 hb)
                have K10 : Hid (∀ j, j < w9.heap.size → j ≠ q → j ≠ g → w10.heap[j]? = w9.heap[j]?) := Lib.hid fun j h1 h2 h3 => (hb.block j (by omega)).trans (KK.out j h1 h2 h3)
                have W10 := Lib.hid (b_next WV.out hb)
                have hs10 : w9.heap.size ≤ w10.heap.size := Nat.le_trans hsz hb.size
                clear PK PO hb
                gi_wp2_with fail
                refine ⟨trivial, ?_⟩; refine (callsIn_wide.2 PO10.out).mono ?_; rintro e w11 ⟨rfl, hqg, hb⟩
                have K11 : Hid (∀ j, j < w9.heap.size → j ≠ q → j ≠ g → w11.heap[j]? = w9.heap[j]?) := Lib.hid fun j h1 h2 h3 => (hb.k j (by omega) h2 h3).trans (K10.out j h1 h2 h3)
                have W11 := Lib.hid (W10.out.trans (hb.b.mono hwB))
                have hs11 : w9.heap.size ≤ w11.heap.size := Nat.le_trans hs10 hb.b.size
                have QG11 := Lib.hid hqg
                obtain ⟨z8, z9, z10⟩ := CE.out w11 K11.out
                have ba : ((pp : Int) != pp) = false := by simp
                have bb : ((zz : Int) != zz) = false := by simp
                clear hb hqg PO10
                gi_wp2_with fail
                go_roundw
                case rel =>
                  refine ⟨k + 1, by omega, ?_, ?_, ?_, hs11, W11.out, K11.out⟩
                  · have := HK2.out; congr 1; omega
                  · rw [show n - (k + 1) = mm by omega, ← NX.out]; exact Ki.qs_of_qg QG11.out hgq
                  · intro _; rw [show n - (k + 1) = mm by omega, ← NX.out]; exact QG11.out
                case measure => simp [intOf]; omega
              · obtain rfl : n = k := by omega
                have hl : ¬ (K2 : Int) < (m2 : Int) := by omega
                rw [Nat.sub_self] at hqs
                have LN := Lib.hid (Ki.len_q q 0 _ nx _ (by omega) hqs)
                have WV := Lib.hid hbl
                have KDv := Lib.hid ((hkk D (by omega) (by omega) (by omega)).trans D9.out)
                clear hqs hqg hbl hkk
                gi_wp2_with fail
                refine ⟨trivial, ?_⟩; refine (callsIn_wide.2 LN.out).mono ?_; rintro e w10 ⟨rfl, rfl⟩
                gi_wp2_with fail
                have hKv := KDv.out
                refine ⟨by simp, .inl ⟨_, _, rfl, run_takeDeferred hKv, ?_⟩⟩
                refine ⟨.bool true, ?_, rfl, WV.out.trans (Ki.b_put (by omega) _)⟩
                simp [results, Try.f3, go_sem]


theorem walk (l : Value) (pops : Int) (W : World) (h_l : Frame.Okc W (.sl [.int]) l) (_h_pops : -9223372036854775808 ≤ pops ∧ pops ≤ 9223372036854775807) :
    Calls Try.prog 3 #[l, .int .i64 pops] W fun e w' => e = .returned (.bool true) ∧ Below W.heap.size W w' := by
  obtain ⟨n, L, h⟩ := iv_of h_l
  have key : ∀ (A : Option Addr) (m cap : Nat), m ≤ cap → cap ≤ maxLen → (∃ b off, (0 < m → A = some ⟨b, off, none⟩) ∧ ∀ k, k < m → W.cell? ⟨b, off + k, none⟩ = some (.int .i64 (L k))) → Calls Try.prog 3 #[.slice A m cap, .int .i64 pops] W fun e w' => e = .returned (.bool true) ∧ Below W.heap.size W w' := fun A m cap h1 h2 h3 => by
    have h2' : cap ≤ 9223372036854775807 := Nat.le_trans h2 (by decide)
    rcases Nat.lt_or_ge 40 m with hl | hl
    · exact coreL A m cap pops L W hl h1 h2' (Lib.hid h3)
    · exact coreS A m cap pops L W hl h1 h2' (Lib.hid h3)
  rcases h with ⟨rfl, rfl | ⟨a, cap, rfl, hc⟩⟩ | ⟨h0, b, off, cap, rfl, h1, h2, h3⟩
  · exact key none 0 0 (Nat.le_refl _) (Nat.zero_le _) ⟨0, 0, fun h => absurd h (Nat.lt_irrefl 0), fun k hk => absurd hk (Nat.not_lt_zero k)⟩
  · exact key (some a) 0 cap (Nat.zero_le _) hc ⟨0, 0, fun h => absurd h (Nat.lt_irrefl 0), fun k hk => absurd hk (Nat.not_lt_zero k)⟩
  · exact key (some ⟨b, off, none⟩) n cap h1 h2 ⟨b, off, fun _ => rfl, h3⟩
-- FRAME --

set_option maxRecDepth 100000 in
theorem lifted (os : Os) (started : os.Started) (H : Type) (enc : TypeId × Value → H) :
    ReturnsInHanded {} Try.checked os 3 .any (Rows.heapqAllSpec.pre6 enc Try.prog Try.f3 Rows.heapqAllRow.domain false) (Rows.heapqAllSpec.post enc Try.prog Try.f3 false true false false) :=
  Frame.lifted (C := Try.checked) 3 Try.f3 Try.own started (by kernel_rfl) Try.func3 Try.laidOut rfl (by kernel_rfl) 4 rfl Try.underlying4
      (fun ds h => by match ds, h with | [_, _], _ => rfl)
      (ChangeSpec.witness6 (enc := enc) (C := Try.checked) false ⟨#[], #[.slice none 0 0, .int .i64 0], []⟩ 8 (by kernel_rfl) (by kernel_rfl) (by kernel_rfl) (by kernel_rfl))
      (fun W base args ds ps hval0 hA _ => by
        have hval : ∀ (j : Nat) t v, Try.f3.params[j]? = some t → args[j]? = some v → Value.okWide Try.prog W .any base t v := hval0
        have hA' : DataW.TrodAll enc Try.prog W 0 (fun _ => true) true Try.f3.params.toList args.toList ds ps := hA
        clear hval0 hA
        have hA := hA'
        clear hA'
        rw [Try.params3] at hA hval
        obtain ⟨v0, vs0, d0, ds0, p0, q0, ea, rfl, rfl, tr0, rest0⟩ := trodAll_cons hA
        obtain ⟨v1, vs1, d1, ds1, p1, q1, rfl, rfl, rfl, tr1, rest1⟩ := trodAll_cons rest0
        obtain ⟨rfl, rfl, rfl⟩ := trodAll_nil rest1
        obtain rfl : args = #[v0, v1] := by cases args; simp_all
        clear ea
        have sl_l : Frame.Okc W (.sl [.int]) v0 := by obtain ⟨a, l, c, e⟩ := okWide_slice Try.underlying22 (hval 0 _ v0 rfl rfl); exact Frame.arg_cell (k := 8) (by kernel_rfl) (by have e2 : v0 = .slice a l c := e; rw [e2]; rfl) tr0
        obtain ⟨pops, rfl, w_pops⟩ := Frame.arg_int Try.underlying3 (hval 1 _ v1 rfl rfl)
        exact walk v0 pops W sl_l (Frame.bd w_pops))

/-- The statement. -/
theorem proved : Rows.HeapqAllSaid :=
  OpenClaim.holds_of_wide 3 Try.f3 rfl rfl rfl rfl rfl rfl rfl ⟨rfl, rfl, rfl, rfl, rfl⟩ rfl rfl rfl rfl rfl (by kernel_rfl) Try.func3 (by kernel_rfl)
    (of_decide_eq_true (by kernel_rfl)) (by unfold Func.isWrapper; first | (rw [if_pos (by decide +kernel)]; kernel_rfl) | (rw [if_neg (by decide +kernel)]; exact ⟨rfl, rfl⟩))
    (fun os started H enc _ => lifted os started H enc)
#print axioms proved
end HeapqAll
end Go.Proofs.Ytjmfopihfnpcpaa

