/- Joined texts: NetL, ClB. -/
import Derived.Test.YtmkglhoahdlogaaGreatDoorS3
import Derived.Test.YtmkglhoahdlogaaGreatDoorJ27
import Derived.Lib.SliceRun
namespace Go.Proofs.YtmkglhoahdlogaaGreatDoor
open Go.RowKit
namespace Net
open Kit Chart Heap
theorem keepN {N : Nat} {W w1 : World} (hb : Below N W w1) {a : Addr} {v : Value} (hlt : a.block < N) (h : W.cell? a = some v) : w1.cell? a = some v := (hb.cell (p := a) hlt).trans h
/-- A row of numbers that may be turned. -/
def OR (w : World) (g N : Nat) (o : Nat → Int) : Prop := ∀ k, k < N → w.cell? ⟨g, k, none⟩ = some (.int .i64 (o k)) ∧ w.frozen? ⟨g, k, none⟩ = false
theorem or_keepN {n N g : Nat} {W w1 : World} {o : Nat → Int} (hb : Below n W w1) (hlt : g < n) (_hle : n ≤ W.heap.size) (h : OR W g N o) : OR w1 g N o := fun k hk => ⟨keepN hb hlt (h k hk).1, by
  have e := hb.block g hlt
  have := (h k hk).2
  unfold World.frozen? at this ⊢
  rw [e]; exact this⟩
theorem or_set {w : World} {g N : Nat} {o : Nat → Int} (h : OR w g N o) {k : Nat} (hk : k < N) (x : Int) : OR (w.setCell ⟨g, k, none⟩ (.int .i64 x)) g N (Short.upd o k x) := fun j hj => by
  refine ⟨?_, by rw [World.frozen?_setCell]; exact (h j hj).2⟩
  by_cases e : j = k
  · subst e; rw [Short.upd_same]; exact cset _ (h j hj).1
  · rw [Short.upd_ne e]; exact cfar _ (fun q => e (by injection q with _ q; exact q.symm)) (h j hj).1
theorem or_iv {w : World} {g N : Nat} {o : Nat → Int} (h : OR w g N o) (h0 : 0 < N) (hm : N ≤ maxLen) : IV w (.slice (some ⟨g, 0, none⟩) N N) N o := Or.inr ⟨h0, g, 0, N, rfl, Nat.le_refl _, hm, fun k hk => by rw [Nat.zero_add]; exact (h k hk).1⟩
theorem or_row {w : World} {g N : Nat} {v : Int} (h : Cpy.Row0 w g N N v) : OR w g N (fun _ => v) := fun k hk => ⟨Cpy.row0_cell h hk, by simp [World.frozen?, h]⟩
theorem own_far {w : World} {g : Nat} {base : Nat} {E : TypeId} {C n : Nat} {v : Value} {f : Nat → Nat → Value} (hg : g < base) (a : Addr) (ha : a.block = g) (u : Value) (h : OwnG w base E C v n f) : OwnG (w.setCell a u) base E C v n f := by
  refine ⟨h.1, ?_⟩
  rcases h.2 with hh | ⟨g', cap, cur, hv, h1, hgg, h2⟩
  · exact Or.inl hh
  · refine Or.inr ⟨g', cap, cur, hv, h1, ?_, h2⟩
    have hne : a.block ≠ g' := by omega
    simp [World.setCell, Array.getElem?_modify, hne, hgg]
theorem qs_far {q n : Nat} {f : Hp} {nx : Int} {w : World} (h : QS 176 Ki.KV w q n f nx) (a : Addr) (ha : a.block < q) (u : Value) : QS 176 Ki.KV (w.setCell a u) q n f nx := by
  obtain ⟨v, ⟨c0, c1, c2, c3⟩, ho, hk⟩ := h
  refine ⟨v, ⟨cfar _ (fun e => ?_) c0, cfar _ (fun e => ?_) c1, by rw [World.frozen?_setCell]; exact c2, by rw [World.frozen?_setCell]; exact c3⟩, own_far (show a.block < q + 1 by omega) a rfl u ho, hk⟩
  · rw [e] at ha; exact absurd ha (Nat.lt_irrefl _)
  · rw [e] at ha; exact absurd ha (Nat.lt_irrefl _)
set_option maxRecDepth 100000 in
set_option maxHeartbeats 8000000 in
theorem lengths_w (A : Option Addr) (ca bb ob cb bc oc cc bv ov cv tgt : Nat) (G : Short.Gr) (B : Int) (cl : Nat → Bool) (w : World) (hG : G.Ok B) (hB : B ≤ 10000000) (hto : tgt < G.N) (_hcb : G.N ≤ cb ∧ cb ≤ 9223372036854775807) (_hcc : G.N ≤ cc ∧ cc ≤ 9223372036854775807) (_hcv : G.N ≤ cv ∧ cv ≤ 9223372036854775807)
    (HL : Hid (∀ k, k < G.N → ∃ u, w.cell? ⟨bb, ob + k, none⟩ = some u ∧ IV w u (G.deg k) (fun i => (G.lk k i : Int))))
    (HD : Hid (∀ k, k < G.N → ∃ u, w.cell? ⟨bc, oc + k, none⟩ = some u ∧ IV w u (G.deg k) (fun i => G.d k (G.lk k i))))
    (HC : Hid (∀ k, k < G.N → w.cell? ⟨bv, ov + k, none⟩ = some (.bool (cl k)))) :
    Calls Tryz.prog 54 #[.agg #[.slice A G.N ca, .slice (some ⟨bb, ob, none⟩) G.N cb, .slice (some ⟨bc, oc, none⟩) G.N cc], .int .i64 tgt, .slice (some ⟨bv, ov, none⟩) G.N cv] w fun e w' => (∃ v o, e = .returned v ∧ IV w' v G.N o ∧ Short.Fin G tgt cl o ∧ ∀ k, k < G.N → o k ≤ 640000000) ∧ Below w.heap.size w w' := by
  have hN := hG.n64
  have h0 : 0 < G.N := by omega
  have HGK := Lib.hid hG
  obtain ⟨N, hNe⟩ : ∃ N, N = G.N := ⟨_, rfl⟩
  have B0 := Lib.hid (b_alloc (b_alloc (Below.refl w.heap.size w) (.cells #[.slice A G.N ca, .slice (some ⟨bb, ob, none⟩) G.N cb, .slice (some ⟨bc, oc, none⟩) G.N cc] 80)) (.cells #[.int .i64 (-1)] 3))
  have REP : Hid (Calls Tryz.prog 85 #[.slice (some ⟨w.heap.size + 1, 0, none⟩) 1 1, .int .i64 G.N] ((w.alloc (.cells #[.slice A G.N ca, .slice (some ⟨bb, ob, none⟩) G.N cb, .slice (some ⟨bc, oc, none⟩) G.N cc] 80)).alloc (.cells #[.int .i64 (-1)] 3)) _) := Lib.hid (Cpy.repeatC (w.heap.size + 1) (-1) G.N _ (by omega) (by simp))
  go_enter Tryz.func54, Tryz.ntmps54
  go_wp2_with fail
  (with_reducible refine REP.out.mono ?_); rintro e w1 ⟨⟨g, rfl, hg, hrow⟩, hb⟩
  have B1 := Lib.hid (b_next B0.out hb); have R1 := Lib.hid hrow; have HG1 := Lib.hid hg
  have C1 := Lib.hid (keep hb (show ((w.alloc (.cells #[.slice A G.N ca, .slice (some ⟨bb, ob, none⟩) G.N cb, .slice (some ⟨bc, oc, none⟩) G.N cc] 80)).alloc (.cells #[.int .i64 (-1)] 3)).cell? ⟨w.heap.size, 1, none⟩ = some (.slice (some ⟨bb, ob, none⟩) G.N cb) by simp))
  have C2 := Lib.hid (keep hb (show ((w.alloc (.cells #[.slice A G.N ca, .slice (some ⟨bb, ob, none⟩) G.N cb, .slice (some ⟨bc, oc, none⟩) G.N cc] 80)).alloc (.cells #[.int .i64 (-1)] 3)).cell? ⟨w.heap.size, 2, none⟩ = some (.slice (some ⟨bc, oc, none⟩) G.N cc) by simp))
  clear hb hrow hg
  go_wp2_with fail
  (with_reducible refine (Ki.new_q _).mono ?_); rintro e w2 ⟨⟨q, rfl, hq1, hq2, hqs⟩, hb⟩
  have HQ : Hid (g < q ∧ w.heap.size < q) := Lib.hid (by
    have h1 : g < w1.heap.size := (Array.getElem?_eq_some_iff.1 R1.out).1
    have h2 := HG1.out
    simp only [World.size_alloc] at h2
    omega)
  have B2 := Lib.hid (b_next B1.out hb)
  have O2 := Lib.hid (or_keepN hb (show g < w1.heap.size from (Array.getElem?_eq_some_iff.1 R1.out).1) (Nat.le_refl _) (or_row R1.out))
  have C1' := Lib.hid (keep hb C1.out); have C2' := Lib.hid (keep hb C2.out)
  have Q2 := Lib.hid (hqs fun _ => ⟨0, 0, .int .i64 0⟩); clear hb hqs hq1 hq2
  go_wp2_with fail
  (with_reducible refine (Ki.pushC Q2.out (by omega) (by omega) 0 tgt).mono ?_); rintro e w3 ⟨rfl, hs, hb⟩
  have B3 := Lib.hid (B2.out.trans (hb.mono (Nat.le_of_lt HQ.out.2))); have Q3 := Lib.hid hs
  have O3 := Lib.hid (or_keepN hb HQ.out.1 (Nat.le_of_lt (Ki.qs_lt Q2.out)) O2.out)
  have K1 := Lib.hid (keepN hb (show (⟨w.heap.size, 1, none⟩ : Addr).block < q from HQ.out.2) C1'.out); have K2 := Lib.hid (keepN hb (show (⟨w.heap.size, 2, none⟩ : Addr).block < q from HQ.out.2) C2'.out)
  clear hb hs
  have D3 := Lib.hid (Short.DI.start (G := G) (B := B) (cl := cl) hto (fun _ => ⟨0, 0, .int .i64 0⟩) 0)
  clear C1 C2 C1' C2' Q2 O2 B2 R1 REP
  go_wp2_with fail
  go_loopg [10] (G.N * 40 + 1) (fun gk _ wr => ∃ (o : Nat → Int) (n : Nat) (f : Hp) (nx : Int), Short.DI G B tgt cl G.N 0 o n f ∧ QS 176 Ki.KV wr q n f nx ∧ OR wr g G.N o ∧ 0 ≤ nx ∧ nx ≤ 1 + 32 * (Short.cnt o G.N : Int) ∧ (n : Int) ≤ nx ∧ Below w.heap.size w wr ∧ wr.cell? ⟨w.heap.size, 1, none⟩ = some (.slice (some ⟨bb, ob, none⟩) G.N cb) ∧ wr.cell? ⟨w.heap.size, 2, none⟩ = some (.slice (some ⟨bc, oc, none⟩) G.N cc) ∧ gk = (G.N - Short.cnt o G.N) * 40 + n)
  case atStart => exact ⟨_, 1, _, 1, D3.out, Q3.out, O3.out, by omega, by rw [Short.cnt_neg (N := G.N)]; omega, by omega, B3.out, K1.out, K2.out, by rw [Short.cnt_neg (N := G.N)]; omega⟩
  case round =>
    obtain ⟨o, n, f, nx, hd, hqs, ho, hx0, hx1, hnx, hbl, hc1, hc2, hgk⟩ := hrel
    have DI := Lib.hid hd; have QQ := Lib.hid hqs; have OO := Lib.hid ho; have BB := Lib.hid hbl; have CC1 := Lib.hid hc1; have CC2 := Lib.hid hc2; have GK := Lib.hid hgk
    have hcl := Short.cnt_le o G.N
    have hn := show n ≤ 100000 by omega
    have HNX := Lib.hid (And.intro hx0 (And.intro hx1 hnx))
    clear hd hqs ho hbl hc1 hc2 hgk hx0 hx1 hnx hcl
    go_wp2_with fail
    (with_reducible refine (Ki.len_q q n f nx wr hn QQ.out).mono ?_); rintro e w4 ⟨rfl, rfl⟩
    by_cases hn0 : n = 0
    · subst hn0
      go_wp2_with fail
      go_ret
      refine ⟨⟨_, o, rfl, or_iv OO.out h0 (by unfold maxLen; omega), Short.DI.fin DI.out, fun k hk => ?_⟩, BB.out⟩
      by_cases h1 : 0 ≤ o k
      · have h2 := (DI.out.set k hk h1).2
        have h3 : (Short.cnt o G.N : Int) * B ≤ 64 * 10000000 := Int.mul_le_mul (by have := Short.cnt_le o G.N; omega) hB (by have := hG.b0; omega) (by omega)
        have h4 := hG.b0
        omega
      · omega
    · have hl : (0 : Int) < (n : Int) := by omega
      have hl' : 0 < n := by omega
      go_wp2_with fail
      (with_reducible refine (Ki.popC QQ.out hl' hn).mono ?_); rintro e w4 ⟨rfl, hs, hb⟩
      have Q4 := Lib.hid hs; have B4 := Lib.hid (BB.out.trans (hb.mono (Nat.le_of_lt HQ.out.2))); have O4 := Lib.hid (or_keepN hb HQ.out.1 (Nat.le_of_lt (Ki.qs_lt QQ.out)) OO.out)
      have K1 := Lib.hid (keepN hb (show (⟨w.heap.size, 1, none⟩ : Addr).block < q from HQ.out.2) CC1.out); have K2 := Lib.hid (keepN hb (show (⟨w.heap.size, 2, none⟩ : Addr).block < q from HQ.out.2) CC2.out)
      clear hs hb
      obtain ⟨m, hv, hm, -⟩ := DI.out.vals 0 hl'
      rw [hv]
      have HV := Lib.hid hv; clear hv
      have hmi : (m : Int) < (G.N : Int) := by omega
      have om := (O4.out m hm).1; have of := (O4.out m hm).2
      by_cases hs : 0 ≤ o m
      · have DS := Lib.hid (Short.DI.skip DI.out HV.out hm hl' hs)
        go_wp2_with fail
        go_roundg ((G.N - Short.cnt o G.N) * 40 + (n - 1))
        case measure => rw [GK.out]; omega
        case rel => exact ⟨o, n - 1, _, nx, DS.out, Q4.out, O4.out, HNX.out.1, HNX.out.2.1, by have := HNX.out.2.2; omega, B4.out, K1.out, K2.out, rfl⟩
      · have hs' : o m < 0 := by omega
        obtain ⟨hdt, hmx⟩ := Short.DI.take DI.out (by have := hG.b0; omega) HV.out hm hl' hs'
        have DT := Lib.hid hdt; have MX := Lib.hid hmx; clear hdt hmx
        have CU := Lib.hid (Short.cnt_upd (o := o) (k := m) (v := (f 0).p) hs' (by have := (DI.out.vals 0 hl').choose_spec.2.2.2.1; exact this) G.N)
        have CL := Lib.hid (Short.cnt_le (Short.upd o m (f 0).p) G.N)
        have BD := Lib.hid fun (hk : 0 ≤ Short.upd o m (f 0).p m) => (DT.out.set m hm hk).2
        have PP : Hid (Short.upd o m (f 0).p m = (f 0).p ∧ 0 ≤ (f 0).p) := Lib.hid ⟨Short.upd_same o m _, (DI.out.vals 0 hl').choose_spec.2.2.2.1⟩
        have SP := Lib.hid (or_set O4.out hm (f 0).p)
        have SQ := Lib.hid (qs_far Q4.out ⟨g, m, none⟩ HQ.out.1 (.int .i64 (f 0).p))
        have SB := Lib.hid (b_set (p := ⟨g, m, none⟩) B4.out (show w.heap.size ≤ g by have := HG1.out; simp only [World.size_alloc] at this; omega) (.int .i64 (f 0).p))
        have S1 : Hid ((w4.setCell ⟨g, m, none⟩ (.int .i64 (f 0).p)).cell? ⟨w.heap.size, 1, none⟩ = some (.slice (some ⟨bb, ob, none⟩) G.N cb)) := Lib.hid (cfar _ (fun e => by injection e with e _; have := HG1.out; simp only [World.size_alloc] at this; omega) K1.out)
        have S2 : Hid ((w4.setCell ⟨g, m, none⟩ (.int .i64 (f 0).p)).cell? ⟨w.heap.size, 2, none⟩ = some (.slice (some ⟨bc, oc, none⟩) G.N cc)) := Lib.hid (cfar _ (fun e => by injection e with e _; have := HG1.out; simp only [World.size_alloc] at this; omega) K2.out)
        obtain ⟨u, hu, hiv⟩ := HL.out m hm
        have hu := keep SB.out hu
        have s1 := S1.out
        obtain ⟨Au, cu, rfl⟩ := iv_slice hiv
        have IVL := Lib.hid hiv; clear hiv
        generalize hf' : popF n f = f' at *
        generalize hp : (f 0).p = p at *
        generalize ho' : Short.upd o m p = o' at *
        clear hf' hp ho' Q4 O4 B4 DI QQ OO BB CC1 CC2 K1 K2
        go_wp2_with fail
        generalize w4.setCell ⟨g, m, none⟩ (.int .i64 p) = w5 at *
        clear hu s1 om of hmi hs hs' hl hl' hn0
        have hdeg := hG.deg32 m hm
        go_loopw [47] (fun s wr => ∃ (i n2 : Nat) (f2 : Hp) (nx2 : Int), i ≤ G.deg m ∧ s = .int .i64 i ∧ Short.DI G B tgt cl m i o' n2 f2 ∧ QS 176 Ki.KV wr q n2 f2 nx2 ∧ OR wr g G.N o' ∧ 0 ≤ nx2 ∧ nx2 ≤ nx + i ∧ (n2 : Int) ≤ nx2 ∧ n2 ≤ n - 1 + i ∧ Below w.heap.size w wr ∧ wr.cell? ⟨w.heap.size, 1, none⟩ = some (.slice (some ⟨bb, ob, none⟩) G.N cb) ∧ wr.cell? ⟨w.heap.size, 2, none⟩ = some (.slice (some ⟨bc, oc, none⟩) G.N cc)) (fun s _ => G.deg m - (intOf s).toNat)
        case atStart => exact ⟨0, n - 1, f', nx, Nat.zero_le _, rfl, DT.out, SQ.out, SP.out, HNX.out.1, by omega, by have := HNX.out.2.2; omega, by omega, SB.out, S1.out, S2.out⟩
        case round =>
          obtain ⟨i, n2, f2, nx2, hi, rfl, hd2, hq2, ho2, hy0, hy1, hy2, hy3, hbl, hc1, hc2⟩ := hrel
          have D2 := Lib.hid hd2; have Q2 := Lib.hid hq2; have O2 := Lib.hid ho2; have BB := Lib.hid hbl; have CC1 := Lib.hid hc1; have CC2 := Lib.hid hc2
          have HY := Lib.hid (And.intro hy0 (And.intro hy1 (And.intro hy2 hy3)))
          clear hd2 hq2 ho2 hbl hc1 hc2 hy0 hy1 hy2 hy3
          by_cases hlt : i < G.deg m
          · have hl : (i : Int) < (G.deg m : Int) := by omega
            have hk := hG.lt m hm i hlt
            have hki : (G.lk m i : Int) < (G.N : Int) := by omega
            obtain ⟨b2, f2', c2', e2, hce, hcm, hcl2⟩ := iv_at IVL.out (show 0 < G.deg m by omega)
            injection e2 with e2 _ e3
            subst e2 e3
            have x0 := keep BB.out (hcl2 i hlt)
            have x1 := (O2.out _ hk).1
            have x2 := keep BB.out (HC.out _ hk)
            have ps := hG.pos m hm _ ⟨i, hlt, rfl⟩
            have MXo : Hid (∀ a, a < G.N → o' a ≤ o' m) := Lib.hid fun a ha => by rw [PP.out.1]; exact MX.out a ha
            have hom : 0 ≤ o' m := by rw [PP.out.1]; exact PP.out.2
            clear hcl2
            by_cases hneg : o' (G.lk m i) < 0
            · cases hcl : cl (G.lk m i) with
              | true =>
                have DP := Lib.hid (Short.DI.past D2.out MXo.out hk (by omega) (Or.inr hcl))
                rw [hcl] at x2
                clear hcl hom
                go_wp2_with fail
                go_roundw
                case rel => exact ⟨i + 1, n2, f2, nx2, by omega, by go_num, DP.out, Q2.out, O2.out, HY.out.1, by have := HY.out.2.1; omega, HY.out.2.2.1, by have := HY.out.2.2.2; omega, BB.out, CC1.out, CC2.out⟩
                case measure => simp [intOf]; omega
              | false =>
                have DP := Lib.hid (Short.DI.push D2.out hm MXo.out hom hlt hk ⟨by omega, ps.2⟩ hcl nx2)
                rw [hcl] at x2
                obtain ⟨u2, hu2, hv2⟩ := HD.out m hm
                obtain ⟨A3, c3, rfl⟩ := iv_slice hv2
                obtain ⟨b3, f3, c3', e4, hce3, hcm3, hcl3⟩ := iv_at hv2 (show 0 < G.deg m by omega)
                injection e4 with e4 _ e5
                subst e4 e5
                have y1 := CC2.out
                have y2 := keep BB.out hu2
                have y3 := keep BB.out (hcl3 i hlt)
                have bd : o' m + B ≤ 640000000 := by
                  have h1 := BD.out hom
                  have h2 := CL.out
                  have h3 : (Short.cnt o' G.N : Int) * B ≤ 64 * 10000000 := Int.mul_le_mul (by omega) hB (by have := hG.b0; omega) (by omega)
                  omega
                have PS := Lib.hid ps
                have u9 : IntKind.i64.wrap (p + G.d m (G.lk m i)) = p + G.d m (G.lk m i) := IntWalk.i64_in _ (by have := PP.out.1; have := PP.out.2; have := hG.b0; omega)
                have PC := Lib.hid (Ki.pushC Q2.out (by have h1 := HY.out.2.2.2; have h2 := HNX.out.2.1; have h3 := HNX.out.2.2; have h4 := Short.cnt_le o G.N; omega) (by have h0 := HY.out.1; have h1 := HY.out.2.1; have h2 := HNX.out.2.1; have h3 := Short.cnt_le o G.N; omega) (p + G.d m (G.lk m i)) (G.lk m i : Int))
                rw [PP.out.1] at DP
                clear hcl hom bd ps hcl3
                go_wp2_with fail
                (with_reducible refine PC.out.mono ?_); rintro e w6 ⟨rfl, hs, hb⟩
                have Q6 := Lib.hid hs; have B6 := Lib.hid (BB.out.trans (hb.mono (Nat.le_of_lt HQ.out.2))); have O6 := Lib.hid (or_keepN hb HQ.out.1 (Nat.le_of_lt (Ki.qs_lt Q2.out)) O2.out)
                have K1 := Lib.hid (keepN hb (show (⟨w.heap.size, 1, none⟩ : Addr).block < q from HQ.out.2) CC1.out); have K2 := Lib.hid (keepN hb (show (⟨w.heap.size, 2, none⟩ : Addr).block < q from HQ.out.2) CC2.out)
                clear hs hb
                go_wp2_with fail
                go_roundw
                case rel => exact ⟨i + 1, n2 + 1, _, nx2 + 1, by omega, by go_num, DP.out, Q6.out, O6.out, by have := HY.out.1; omega, by have := HY.out.2.1; omega, by have := HY.out.2.2.1; omega, by have := HY.out.2.2.2; omega, B6.out, K1.out, K2.out⟩
                case measure => simp [intOf]; omega
            · have DP := Lib.hid (Short.DI.past D2.out MXo.out hk (by omega) (Or.inl (by omega)))
              clear hom
              go_wp2_with fail
              go_roundw
              case rel => exact ⟨i + 1, n2, f2, nx2, by omega, by go_num, DP.out, Q2.out, O2.out, HY.out.1, by have := HY.out.2.1; omega, HY.out.2.2.1, by have := HY.out.2.2.2; omega, BB.out, CC1.out, CC2.out⟩
              case measure => simp [intOf]; omega
          · obtain rfl : i = G.deg m := by omega
            have hl : ¬ (G.deg m : Int) < (G.deg m : Int) := by omega
            have DN := Lib.hid (Short.DI.next D2.out rfl)
            go_wp2_with fail
            go_roundg ((G.N - Short.cnt o' G.N) * 40 + n2)
            case measure => rw [GK.out]; have h1 := CU.out; have h2 := CL.out; have h3 := HY.out.2.2.2; rw [if_pos hm] at h1; omega
            case rel => exact ⟨o', n2, f2, nx2, DN.out, Q2.out, O2.out, HY.out.1, by have h1 := HY.out.2.1; have h2 := HNX.out.2.1; have h3 := CU.out; rw [if_pos hm] at h3; omega, HY.out.2.2.1, BB.out, CC1.out, CC2.out, rfl⟩
end Net
end Go.Proofs.YtmkglhoahdlogaaGreatDoor
namespace Go.Proofs.YtmkglhoahdlogaaGreatDoor
open Go.RowKit
namespace Net
open Kit Chart
/-- Marks that may be turned. -/
def OB (w : World) (g N : Nat) (f : Nat → Bool) : Prop := ∀ k, k < N → w.cell? ⟨g, k, none⟩ = some (.bool (f k)) ∧ w.frozen? ⟨g, k, none⟩ = false
theorem ob_bv {w : World} {g N c : Nat} {f : Nat → Bool} (h : OB w g N f) (h0 : 0 < N) (hc : N ≤ c) (hm : c ≤ maxLen) : BV w (.slice (some ⟨g, 0, none⟩) N c) N f := Or.inr ⟨h0, g, 0, c, rfl, hc, hm, fun k hk => by rw [Nat.zero_add]; exact (h k hk).1⟩
theorem ob_set {w : World} {g N : Nat} {f : Nat → Bool} (h : OB w g N f) (k : Nat) : OB (w.setCell ⟨g, k, none⟩ (.bool true)) g N (Short.shut f k) := fun j hj => by
  refine ⟨?_, by rw [World.frozen?_setCell]; exact (h j hj).2⟩
  by_cases e : j = k
  · subst e; rw [Short.shut_same]; exact cset _ (h j hj).1
  · rw [Short.shut_ne e]; exact cfar _ (fun q => e (by injection q with _ q; exact q.symm)) (h j hj).1
theorem info_bool : (Tryz.prog.info? 4).map (fun i => (i.zero, i.size, i.bytes)) = some (some (.bool false), 1, 1) := by kernel_rfl
set_option maxRecDepth 100000 in
set_option maxHeartbeats 1000000 in
theorem cloneB (n cap b off : Nat) (f : Nat → Bool) (w : World) (h0 : 0 < n) (hn : n ≤ 1000) (_hc : n ≤ cap) (HV : Hid (∀ i, i < n → w.cell? ⟨b, off + i, none⟩ = some (.bool (f i)))) :
    Calls Tryz.prog 53 #[.slice (some ⟨b, off, none⟩) n cap] w fun e w' => (∃ g c, e = .returned (.slice (some ⟨g, 0, none⟩) n c) ∧ w.heap.size ≤ g ∧ n ≤ c ∧ c ≤ maxLen ∧ OB w' g n f) ∧ Below w.heap.size w w' := by
  obtain ⟨i0, hi, hz0, hz1, hz2⟩ := info_parts info_bool
  have hnil := fun W : World => Lib.run_eql_slice_nil (P := Tryz.prog) W 86 4 (some ⟨b, off, none⟩) n cap 0 0 Tryz.underlying86
  go_enter Tryz.func53, Tryz.ntmps53
  have hb0 := b_alloc (Below.refl w.heap.size w) (.cells #[] 4)
  have HS := Lib.hid (src_G (C := 1) (f := fun i _ => Value.bool (f i)) (w := w.alloc (.cells #[] 4)) (b := b) (off := off) (n := n) fun i hi j hj => by
    rw [show off + i * 1 + j = off + i from by omega]; exact keep hb0 (HV.out i hi))
  have HB := Lib.hid hb0; clear hb0
  have HL := Lib.hid (rowG_len 1 (fun i _ => Value.bool (f i)) n)
  have H1 := Lib.hid (rowG_one (C := 1) (n := n) (f := fun i _ => Value.bool (f i)) fun _ _ => rfl)
  go_wp2_with (at_builtin; refine wpList_append_own_at _ rfl (.tmp 5) (.tmp 6) 86 rfl w.heap.size 4 i0 _ 1 1 Tryz.underlying86 hi hz0 hz1 hz2 rfl (by decide) (.slice (some ⟨w.heap.size, 0, none⟩) 0 0) 0 [] rfl (World.ownsRow_made w #[] 0 (Nat.le_refl _) (by decide) rfl) ⟨b, off, none⟩ n cap (rowG 1 (fun i _ => Value.bool (f i)) n) rfl HL.out HS.out H1.out (by unfold maxLen; omega) (by omega) (by simp) ?_; intro v1 w1 hown1 hg1 hnil1 hat1)
  go_ret
  have hown2 : OwnG w1 w.heap.size 4 1 v1 n (fun i _ => Value.bool (f i)) := by
    have := hown1; rw [Nat.zero_add, List.nil_append] at this; exact this
  obtain ⟨g, c, rfl, h1, h2, h3, h4, h5⟩ := ownG_row hown2 h0
  refine ⟨⟨g, c, rfl, h1, h3, h4, fun k hk => ⟨?_, h5.free k⟩⟩, ?_⟩
  · have := h5.cell k hk 0 (by decide)
    rw [show k * 1 + 0 = k from by omega] at this; exact this
  · exact HB.out.grown hg1 HB.out.size (fun k hk => by simp [Value.ownBlock] at hk; omega)
end Net
end Go.Proofs.YtmkglhoahdlogaaGreatDoor
