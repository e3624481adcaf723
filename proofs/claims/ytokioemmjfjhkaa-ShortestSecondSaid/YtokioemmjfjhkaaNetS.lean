/- shortest.Second, walked over what its callees answer. -/
import Derived.Test.YtokioemmjfjhkaaNetY
import Derived.Test.YtokioemmjfjhkaaIntC
namespace Go.Proofs.Ytokioemmjfjhkaa
open Go.RowKit
namespace Net
open Kit Chart Short Route
abbrev SeC (c : Value) (s t : ByteArray) (w : World) (post : Ending → World → Prop) : Prop := Calls Try.prog 22 #[c, .string s, .string t] w fun e w' => post e w' ∧ Below w.heap.size w w'
/-- Marks in cells that may be written. -/
def CR (w : World) (g N : Nat) (cl : Nat → Bool) : Prop := ∀ k, k < N → w.cell? ⟨g, k, none⟩ = some (.bool (cl k)) ∧ w.frozen? ⟨g, k, none⟩ = false
theorem cr_made (w : World) (n : Nat) : CR (w.alloc (.cells (madeCells #[Value.bool false] n) 4)) w.heap.size n noc := fun k hk => by
  have h := heap_alloc_new w (.cells (madeCells #[Value.bool false] n) 4)
  rw [made_bw] at *
  refine ⟨?_, by unfold World.frozen?; rw [h]; simp⟩
  rw [cell_of_row _ w.heap.size k _ _ _ h, List.getElem?_toArray, List.getElem?_replicate, if_pos hk]; rfl
theorem cr_keep {w w1 : World} (hb : Below w.heap.size w w1) {g N : Nat} {cl : Nat → Bool} (h : CR w g N cl) : CR w1 g N cl := fun k hk => ⟨keep hb (h k hk).1, keepF hb (h k hk).1 (h k hk).2⟩
theorem cr_set {w : World} {g N : Nat} {cl : Nat → Bool} (h : CR w g N cl) {p : Nat} (hp : p < N) : CR (w.setCell ⟨g, p, none⟩ (.bool true)) g N (fun x => if x = p then true else cl x) := fun k hk => by
  by_cases e : k = p
  · subst e
    exact ⟨by show _ = some (Value.bool (if k = k then true else cl k)); rw [if_pos rfl]; exact cset _ (h k hk).1, (World.frozen?_setCell _ _ _ _).trans (h k hk).2⟩
  · exact ⟨by show _ = some (Value.bool (if k = p then true else cl k)); rw [if_neg e]; exact cfar _ (fun q => e (by injection q with _ q2; exact q2.symm)) (h k hk).1, (World.frozen?_setCell _ _ _ _).trans (h k hk).2⟩
theorem cr_bv {w : World} {g N : Nat} {cl : Nat → Bool} (h : CR w g N cl) (h0 : 0 < N) (hN : N ≤ maxLen) : BV w (.slice (some ⟨g, 0, none⟩) N N) N cl := Or.inr ⟨h0, g, 0, N, rfl, Nat.le_refl _, hN, fun k hk => by rw [Nat.zero_add]; exact (h k hk).1⟩
theorem own_base {w : World} {b c : Nat} {E : TypeId} {C n : Nat} {v : Value} {xs : List Value} (h : w.ownsRow b E C v n xs) (hc : c ≤ b) : w.ownsRow c E C v n xs := by
  refine ⟨h.1, ?_⟩
  rcases h.2 with hh | ⟨g, cap, cur, hv, h1, hg⟩
  · exact Or.inl hh
  · exact Or.inr ⟨g, cap, cur, hv, Nat.le_trans hc h1, hg⟩
/-- The best other way so far. -/
structure Has (w : World) (G : Gr) (a b : Nat) (z : List Nat) (g : Nat) (v : Value) (n : Int) (q : List Nat) : Prop where
  own : w.ownsRow (g + 1) 3 1 v (a :: q).length (vsN (a :: q))
  alt : Alt G a b z q n
def BQ (w : World) (G : Gr) (a b : Nat) (z : List Nat) (g : Nat) (v : Value) (n : Int) : Prop := v = .slice none 0 0 ∨ ∃ q, Has w G a b z g v n q
theorem has_keep {w w1 : World} (hb : Below w.heap.size w w1) {G : Gr} {a b : Nat} {z : List Nat} {g : Nat} {v : Value} {n : Int} {q : List Nat} (h : Has w G a b z g v n q) : Has w1 G a b z g v n q := ⟨Own0.own_below hb h.own, h.alt⟩
theorem bq_keep {w w1 : World} (hb : Below w.heap.size w w1) {G : Gr} {a b : Nat} {z : List Nat} {g : Nat} {v : Value} {n : Int} (h : BQ w G a b z g v n) : BQ w1 G a b z g v n := h.imp id fun ⟨q, hq⟩ => ⟨q, has_keep hb hq⟩
theorem bq_set {w : World} {G : Gr} {a b : Nat} {z : List Nat} {g : Nat} {v : Value} {n : Int} (h : BQ w G a b z g v n) (p : Nat) (y : Value) : BQ (w.setCell ⟨g, p, none⟩ y) G a b z g v n := h.imp id fun ⟨q, hq⟩ => ⟨q, owns_far hq.own _ (Nat.lt_succ_self g) y, hq.alt⟩
theorem has_slice {w : World} {G : Gr} {a b : Nat} {z : List Nat} {g : Nat} {v : Value} {n : Int} {q : List Nat} (h : Has w G a b z g v n q) : ∃ A c, v = .slice (some A) (q.length + 1) c ∧ q.length + 1 ≤ c ∧ c ≤ 9223372036854775807 := by
  rcases h.own.2 with ⟨-, h1⟩ | ⟨g', cap, cur, hv, -, -, h2, h3, -⟩
  · simp at h1
  · exact ⟨_, cap, hv, h2, Nat.le_trans h3 (by decide)⟩
theorem bq_has {w : World} {G : Gr} {a b : Nat} {z : List Nat} {g : Nat} {v : Value} {n : Int} {q : List Nat} (h : Has w G a b z g v n q) : BQ w G a b z g v n := Or.inr ⟨q, h⟩
/-- What Second answers. -/
def SecR (G : Gr) (S : Nat → ByteArray) (a b : Nat) (e : Ending) (w' : World) : Prop :=
  (∃ u n q z k, e = .returned (.tuple #[u, .int .i64 n, .int .i64 0]) ∧ SL w' u (nms S (fun i => (a :: q).getD i 0) (q.length + 1)) ∧ BestO G a b noc (-1) z k ∧ Alt G a b z q n) ∨ e = .returned (.tuple #[.slice none 0 0, .int .i64 0, .int .i64 8])
set_option maxRecDepth 100000 in
set_option maxHeartbeats 2000000 in
theorem second_bad (fx aw : Value) (s t : ByteArray) (E : Int) (w : World) (_hE1 : (E == 0) = false) (hE2 : (E != 0) = true) (EN : Hid (∀ w1, Below w.heap.size w w1 → EnC (.agg #[fx, aw]) s t w1 fun e _ => e = .returned (.tuple #[net0, .int .i64 0, .int .i64 0, .int .i64 E]))) :
    SeC (.agg #[fx, aw]) s t w fun e _ => e = .returned (.tuple #[.slice none 0 0, .int .i64 0, .int .i64 E]) := by
  have W0 := Lib.hid (b_alloc (Below.refl w.heap.size w) (.cells #[fx, aw] 37))
  have BX := Lib.hid (p2v_new w 37 fx aw)
  obtain ⟨x0, x1⟩ := BX.out
  go_enter Try.func22, Try.ntmps22
  go_wp2_with fail
  (with_reducible refine (EN.out _ W0.out).mono ?_); rintro e w1 ⟨rfl, hb⟩
  have W1 := Lib.hid (b_next W0.out hb); clear hb x0 x1
  go_wp2_with fail
  go_ret3
  exact ⟨rfl, b_alloc W1.out _⟩
set_option maxRecDepth 100000 in
set_option maxHeartbeats 16000000 in
theorem second_w (fx aw : Value) (s t : ByteArray) (a b : Nat) (G : Gr) (S : Nat → ByteArray) (w : World) (hG : G.Ok 10000000) (ha : a < G.N) (hb : b < G.N) (EN : Hid (∀ w1, Below w.heap.size w w1 → EnC (.agg #[fx, aw]) s t w1 fun e w' => ∃ v, e = .returned (.tuple #[v, .int .i64 (a : Nat), .int .i64 (b : Nat), .int .i64 0]) ∧ NV w' v G S)) :
    SeC (.agg #[fx, aw]) s t w (SecR G S a b) := by
  have W0 := Lib.hid (b_alloc (Below.refl w.heap.size w) (.cells #[fx, aw] 37))
  have BX := Lib.hid (p2v_new w 37 fx aw)
  have hN := hG.n64
  have GO := Lib.hid hG
  obtain ⟨x0, x1⟩ := BX.out
  go_enter Try.func22, Try.ntmps22
  go_wp2_with fail
  (with_reducible refine (EN.out _ W0.out).mono ?_); rintro e w1 ⟨⟨v, rfl, hv⟩, hb1⟩
  have W1 := Lib.hid (b_next W0.out hb1); have NV1 := Lib.hid hv; clear hb1 x0 x1
  obtain ⟨ba, oa, ca, bb, ob, cb, bc, oc, cc, rfl, h1, h2, h3, -, k5, k6⟩ := nv_parts hv (by omega)
  have K5 := Lib.hid k5; have K6 := Lib.hid k6
  clear hv k5 k6
  have N2 := Lib.hid (bx_new w1 83 (.slice (some ⟨ba, oa, none⟩) G.N ca) (.slice (some ⟨bb, ob, none⟩) G.N cb) (.slice (some ⟨bc, oc, none⟩) G.N cc))
  have B12 := Lib.hid (b_alloc (Below.refl w1.heap.size w1) (.cells #[.slice (some ⟨ba, oa, none⟩) G.N ca, .slice (some ⟨bb, ob, none⟩) G.N cb, .slice (some ⟨bc, oc, none⟩) G.N cc] 83))
  go_wp2_with fail
  obtain ⟨b2, hb2⟩ : ∃ b, b = w1.heap.size := ⟨_, rfl⟩
  obtain ⟨w2, hw2⟩ : ∃ x, x = w1.alloc (.cells #[.slice (some ⟨ba, oa, none⟩) G.N ca, .slice (some ⟨bb, ob, none⟩) G.N cb, .slice (some ⟨bc, oc, none⟩) G.N cc] 83) := ⟨_, rfl⟩
  rw [← hw2, ← hb2]
  rw [← hw2] at B12 N2; rw [← hb2] at N2
  clear hw2 hb2
  have W2 := Lib.hid (b_next W1.out B12.out); have NV2 := Lib.hid (nv_keep B12.out NV1.out)
  have KP : Hid (∀ w', Below w2.heap.size w2 w' → w'.cell? ⟨b2, 0, none⟩ = some (.slice (some ⟨ba, oa, none⟩) G.N ca) ∧ w'.cell? ⟨b2, 1, none⟩ = some (.slice (some ⟨bb, ob, none⟩) G.N cb) ∧ w'.cell? ⟨b2, 2, none⟩ = some (.slice (some ⟨bc, oc, none⟩) G.N cc) ∧ Below w2.heap.size w2 w') := Lib.hid fun w' hb => ⟨keep hb N2.out.c0, keep hb N2.out.c1, keep hb N2.out.c2, hb⟩
  have hN0 : 0 < G.N := by omega
  have WY := Lib.hid fun (w' : World) (cv : Value) (h : Below w2.heap.size w2 w') (hc : BV w' cv G.N noc) => wayC (-1) (nv_keep h NV2.out) GO.out ha hb (fun _ => rfl) hc
  have hmk := run_make_row' (P := Try.prog) 87 4 (.bool false) 1 Try.underlying87 bool_info rfl .i64 .i64 G.N (by omega) (by omega)
  have BA := Lib.hid (b_drew (b_alloc (Below.refl w2.heap.size w2) (.cells (madeCells #[Value.bool false] G.N) 4)))
  have BM := Lib.hid (bv_keep (b_drew (Below.refl (w2.alloc (.cells (madeCells #[Value.bool false] G.N) 4)).heap.size _)) (bv_made w2 G.N hN0 (by unfold maxLen; omega) 4))
  by_cases hI : ∀ l, ¬ Is G a b noc (-1) l
  · have WN := Lib.hid fun (w' : World) (cv : Value) (h : Below w2.heap.size w2 w') (hc : BV w' cv G.N noc) => show Calls _ _ _ w' (fun e w'' => e = .returned (.tuple #[.slice none 0 0, .int .i64 0, .bool false]) ∧ Below w'.heap.size w' w'') from (WY.out w' cv h hc).mono (by
      rintro e w'' ⟨hr, hb⟩
      rcases hr with ⟨v, l, n, -, -, hB⟩ | ⟨-, rfl⟩
      · exact absurd hB.is (hI l)
      · exact ⟨rfl, hb⟩)
    clear WY hI
    go_region_held3 (fun w' => w'.cell? ⟨b2, 0, none⟩ = some (.slice (some ⟨ba, oa, none⟩) G.N ca) ∧ w'.cell? ⟨b2, 1, none⟩ = some (.slice (some ⟨bb, ob, none⟩) G.N cb) ∧ w'.cell? ⟨b2, 2, none⟩ = some (.slice (some ⟨bc, oc, none⟩) G.N cc) ∧ Below w2.heap.size w2 w')
      (first
        | exact KP.out _ (by first | ((repeat (first | exact hb9 | exact Below.refl _ _ | refine b_drew ?_ | refine b_alloc ?_ _)); done) | fail)
        | assumption)
      ((first
        | (go_at_call 44; (with_reducible refine (WN.out _ _ BA.out BM.out).mono ?_); rintro e w9 ⟨rfl, hb9'⟩; have hb9 := b_next BA.out hb9'; clear hb9')))

    go_wp2_with fail
    go_ret3
    exact ⟨Or.inr rfl, b_next W2.out hb9⟩
  · have WN := Lib.hid fun (w' : World) (cv : Value) (h : Below w2.heap.size w2 w') (hc : BV w' cv G.N noc) => show Calls _ _ _ w' (fun e w'' => (∃ v l n, e = .returned (.tuple #[v, .int .i64 n, .bool true]) ∧ IV w'' v (l.length + 1) (fun i => ((a :: l).getD i 0 : Int)) ∧ BestO G a b noc (-1) l n) ∧ Below w'.heap.size w' w'') from (WY.out w' cv h hc).mono (by
      rintro e w'' ⟨hr, hb⟩
      rcases hr with ⟨v, l, n, h1, h2, hB⟩ | ⟨h1, -⟩
      · exact ⟨⟨v, l, n, h1, h2, hB⟩, hb⟩
      · exact absurd h1 hI)
    clear WY hI
    go_region_held3 (fun w' => w'.cell? ⟨b2, 0, none⟩ = some (.slice (some ⟨ba, oa, none⟩) G.N ca) ∧ w'.cell? ⟨b2, 1, none⟩ = some (.slice (some ⟨bb, ob, none⟩) G.N cb) ∧ w'.cell? ⟨b2, 2, none⟩ = some (.slice (some ⟨bc, oc, none⟩) G.N cc) ∧ Below w2.heap.size w2 w')
      (first
        | exact KP.out _ (by first | ((repeat (first | exact hb9 | exact Below.refl _ _ | refine b_drew ?_ | refine b_alloc ?_ _)); done) | fail)
        | assumption)
      ((first
        | (go_at_call 44; (with_reducible refine (WN.out _ _ BA.out BM.out).mono ?_); rintro e w9 ⟨⟨v, z, kz, rfl, hiv, hbe⟩, hb9'⟩; have hb9 := b_next BA.out hb9'; clear hb9')))

    have HB := Lib.hid hbe
    have hz := nodup_le GO.out ha hbe.is.chn hbe.is.nodup
    have HLT := Lib.hid (chn_lt GO.out z a ha hbe.is.chn)
    have W9 := Lib.hid (b_next W2.out hb9)
    have N9 := Lib.hid (bx_keep hb9 N2.out); have NV9 := Lib.hid (nv_keep hb9 NV2.out); have B19 := Lib.hid (b_next B12.out hb9)
    obtain ⟨fb, fo, fc, rfl, hf1, hf2, hf3⟩ := iv_at hiv (Nat.succ_pos _)
    have hfc : fc ≤ 9223372036854775807 := Nat.le_trans hf2 (by decide)
    have F9 : Hid (∀ k, k ≤ z.length → w9.cell? ⟨fb, fo + k, none⟩ = some (.int .i64 (at' a z k : Nat))) := Lib.hid fun k hk => hf3 k (Nat.lt_succ_of_le hk)
    have HIV := Lib.hid hiv
    clear hbe hiv hf3 WN KP BA BM hb9 NV2 N2 B12 NV1
    obtain ⟨m0, m1, m2, -, -, -⟩ := N9.out
    obtain ⟨g0, hg0⟩ : ∃ g0, g0 = w9.heap.size := ⟨_, rfl⟩
    have C9 := Lib.hid (cr_made w9 G.N)
    have B9 := Lib.hid (b_alloc (Below.refl w9.heap.size w9) (.cells (madeCells #[Value.bool false] G.N) 4))
    have SZ9 : Hid (g0 < (w9.alloc (.cells (madeCells #[Value.bool false] G.N) 4)).heap.size) := Lib.hid (by rw [hg0, World.size_alloc]; omega)
    rw [← hg0] at C9
    have HG0 := Lib.hid hg0
    clear hg0
    go_wp2_with fail
    obtain ⟨w10, hw10⟩ : ∃ x, x = w9.alloc (.cells (madeCells #[Value.bool false] G.N) 4) := ⟨_, rfl⟩
    rw [← HG0.out, ← hw10]
    rw [← hw10] at C9 B9 SZ9
    clear hw10 m0 m1 m2
    obtain ⟨R, hR⟩ : ∃ R, R = z.length + 1 := ⟨_, rfl⟩
    rw [← hR]
    have HRR := Lib.hid hR
    have hR64 : R ≤ 64 := by omega
    have hRf : R ≤ fc := by omega
    clear hR
    go_loopw [16, 17, 19, 20] (fun bv ls sm s wr => ∃ (i : Nat) (least : Int), i ≤ z.length ∧ s = .int .i64 i ∧ sm = .int .i64 (len G.d a (z.take i)) ∧ ls = .int .i64 least ∧ BQ wr G a b z g0 bv least ∧ CR wr g0 G.N (shutB a z i) ∧ Below w9.heap.size w9 wr ∧ g0 < wr.heap.size) (fun _ _ _ s _ => z.length - (intOf s).toNat)
    case atStart => exact ⟨0, 0, Nat.zero_le _, rfl, rfl, rfl, Or.inl rfl, by rw [shutB_zero]; exact C9.out, B9.out, SZ9.out⟩
    case round =>
      obtain ⟨i, least, hi, rfl, rfl, rfl, hbq, hcr, hbl, hsz⟩ := hrel
      have BQR := Lib.hid hbq; have CRR := Lib.hid hcr; have BR := Lib.hid hbl; have SZR := Lib.hid hsz; have HI := Lib.hid hi
      clear hbq hcr hbl hsz
      by_cases hlt : i < z.length
      · obtain ⟨J, hJ⟩ : ∃ J, J = i + 1 := ⟨_, rfl⟩
        have HJ : Hid (i < J ∧ J ≤ z.length) := Lib.hid (by omega)
        have u3 : (i : Int) + 1 = (J : Int) := by omega
        have u1 : IntKind.i64.wrap (J : Int) = (J : Int) := IntWalk.i64_in _ (by omega)
        have hJR : (J : Int) < (R : Int) := by have := HRR.out; omega
        have hiR : (i : Int) < (R : Int) := by have := HRR.out; omega
        have hifc : i ≤ fc := by have := HRR.out; omega
        have HM := fun k (hk : k ≤ z.length) => show at' a z k < G.N from by
          rcases List.mem_cons.1 (at_mem (a := a) hk) with e | e
          · rw [e]; exact ha
          · exact HLT.out _ e
        have hp := HM i hi
        have hpJ := HM J HJ.out.2
        have hpi : ((at' a z i : Nat) : Int) < (G.N : Int) := by omega
        have x0 := keep BR.out (F9.out i hi)
        have CF9 := Lib.hid (F9.out J HJ.out.2)
        have hbz : shutB a z i b = false := by rw [← HB.out.is.fin, fin_at]; exact at_not HB.out.is.nodup hi (Nat.le_refl _)
        have WYR := Lib.hid fun (w' : World) (h : Below wr.heap.size wr w') => wayC (cl := shutB a z i) ((at' a z J : Nat) : Int) (nv_keep (b_next BR.out h) NV9.out) GO.out hp hb (fun _ => hbz) (bv_keep h (cr_bv CRR.out hN0 (by unfold maxLen; omega)))
        obtain ⟨ul, hul, hil⟩ := K5.out _ hp
        obtain ⟨ud, hud, hid⟩ := K6.out _ hp
        have hadj := adj_at HB.out.is.chn hlt
        rw [← hJ] at hadj
        obtain ⟨i1, hi1, hlk⟩ := hadj
        have hfx : 0 ≤ ifx (fun i' => (G.lk (at' a z i) i' : Int)) ((at' a z J : Nat) : Int) (G.deg (at' a z i)) := by
          rcases Int.lt_or_le (ifx (fun i' => (G.lk (at' a z i) i' : Int)) ((at' a z J : Nat) : Int) (G.deg (at' a z i))) 0 with q | q
          · have := fnd_neg q i1 hi1
            rw [decide_eq_false_iff_not] at this
            exact absurd (by show ((G.lk _ i1 : Nat) : Int) = _; rw [hlk]) this
          · exact q
        obtain ⟨j, hj, hje, hjl, -⟩ := fnd_pos hfx
        have hje : ifx (fun i' => (G.lk (at' a z i) i' : Int)) ((at' a z J : Nat) : Int) (G.deg (at' a z i)) = (j : Int) := hje
        have hjl : G.lk (at' a z i) j = at' a z J := by have := of_decide_eq_true hjl; exact Int.ofNat.inj this
        have hdeg := GO.out.deg32 _ hp
        have IX9 := Lib.hid fun (w1 : World) (h : Below w9.heap.size w9 w1) => show Calls Try.prog 48 #[ul, .int .i64 (at' a z J : Nat)] w1 (fun e w' => e = .returned (.int .i64 (j : Nat)) ∧ Below w1.heap.size w1 w') from by
          have q := iidxC (iv_keep h (iv_keep B19.out hil)) ((at' a z J : Nat) : Int)
          rw [hje] at q
          exact q
        have CL9 := Lib.hid (keep B19.out hul); have CD9 := Lib.hid (keep B19.out hud)
        obtain ⟨bd, od, cd, rfl, hd1, hd2, hd3⟩ := iv_at hid (by omega)
        have hcd : cd ≤ 9223372036854775807 := Nat.le_trans hd2 (by decide)
        have hjd : (j : Int) < (G.deg (at' a z i) : Int) := by omega
        have ce := hd3 j hj
        rw [hjl] at ce
        have CE9 := Lib.hid (keep B19.out ce)
        obtain ⟨Al, cl', rfl⟩ := iv_slice hil
        have hln := len_next (G := G) (a := a) hlt
        rw [← hJ] at hln
        have HSH : Hid ((fun x => if x = at' a z i then true else shutB a z i x) = shutB a z J) := Lib.hid (by rw [hJ]; exact (shutB_next hi).symm)
        have ha0 : a < G.N := ha
        have s0 := len_nn GO.out (z.take i) a ha0 (chn_take HB.out.is.chn i)
        have s1 := len_bd GO.out (z.take i) a ha0 (chn_take HB.out.is.chn i)
        have s2 : (z.take i).length ≤ z.length := by rw [List.length_take]; omega
        have d0 := GO.out.pos _ hp _ ⟨i1, hi1, hlk⟩
        have ALT := Lib.hid fun (l : List Nat) (n : Int) (h : Is G (at' a z i) b (shutB a z i) ((at' a z J : Nat) : Int) l) (hl : len G.d (at' a z i) l = n) => alt_of hlt HB.out.is.chn HB.out.is.nodup (by rw [← hJ]; exact h) hl
        have TA := Lib.hid fun (l : List Nat) => take_at i a z l hi
        have FI : Hid (IV wr (.slice (some ⟨fb, fo, none⟩) i fc) ((a :: z).take i).length (fun k => ((((a :: z).take i).getD k 0 : Nat) : Int))) := Lib.hid (by
          have e : ((a :: z).take i).length = i := by rw [List.length_take, List.length_cons]; omega
          rw [e]
          rcases Nat.eq_zero_or_pos i with h0 | h0
          · subst h0; exact Or.inl ⟨rfl, Or.inr ⟨_, _, rfl, hf2⟩⟩
          · refine Or.inr ⟨h0, fb, fo, fc, rfl, hifc, hf2, fun k hk => ?_⟩
            have := keep BR.out (F9.out k (by omega))
            rw [this]
            unfold at'
            simp only [List.getD_eq_getElem?_getD, List.getElem?_take_of_lt hk])
        obtain ⟨SM, hSM⟩ : ∃ x, x = len G.d a (z.take i) := ⟨_, rfl⟩
        rw [← hSM] at hln s0 s1 ALT ⊢
        obtain ⟨SJ, hSJ⟩ : ∃ x, x = len G.d a (z.take J) := ⟨_, rfl⟩
        rw [← hSJ] at hln
        have HS2 : Hid (Value.int .i64 SJ = .int .i64 (len G.d a (z.take J))) := Lib.hid (by rw [hSJ])
        obtain ⟨DD, hDD⟩ : ∃ x, x = G.d (at' a z i) (at' a z J) := ⟨_, rfl⟩
        rw [← hDD] at hln d0 CE9
        have s3 : SM ≤ 640000000 := by omega
        have u9 : IntKind.i64.wrap (SM + DD) = SJ := by rw [hln]; exact IntWalk.i64_in _ (by omega)
        obtain ⟨LJ, hLJ⟩ : ∃ x, x = G.deg (at' a z i) := ⟨_, rfl⟩
        obtain ⟨SH, hSH⟩ : ∃ x, x = shutB a z i := ⟨_, rfl⟩
        rw [← hSH] at CRR WYR ALT HSH
        rw [← hLJ] at hjd hdeg CL9 IX9
        clear hJ hSM hSJ hDD hLJ hSH hln s1 s2 hjl hje hul hud hil hid ce hd3 hi1 hlk hfx HM hbz d0
        generalize at' a z i = p at *
        generalize at' a z J = pJ at *
        have KR : Hid (∀ w', Below wr.heap.size wr w' → w'.cell? ⟨b2, 0, none⟩ = some (.slice (some ⟨ba, oa, none⟩) G.N ca) ∧ w'.cell? ⟨b2, 1, none⟩ = some (.slice (some ⟨bb, ob, none⟩) G.N cb) ∧ w'.cell? ⟨b2, 2, none⟩ = some (.slice (some ⟨bc, oc, none⟩) G.N cc) ∧ w'.cell? ⟨fb, fo + J, none⟩ = some (.int .i64 (pJ : Nat)) ∧ Below wr.heap.size wr w') := Lib.hid fun w' hb => ⟨keep (b_next BR.out hb) N9.out.c0, keep (b_next BR.out hb) N9.out.c1, keep (b_next BR.out hb) N9.out.c2, keep (b_next BR.out hb) CF9.out, hb⟩
        by_cases hI2 : ∀ l, ¬ Is G p b SH (pJ : Nat) l
        · have WR2 := Lib.hid fun (w' : World) (h : Below wr.heap.size wr w') => show Calls _ _ _ w' (fun e w'' => e = .returned (.tuple #[.slice none 0 0, .int .i64 0, .bool false]) ∧ Below w'.heap.size w' w'') from (WYR.out w' h).mono (by
            rintro e w'' ⟨hr, hb⟩
            rcases hr with ⟨v, l, n, -, -, hB⟩ | ⟨-, rfl⟩
            · exact absurd hB.is (hI2 l)
            · exact ⟨rfl, hb⟩)
          clear WYR hI2
          go_wp2_with fail
          go_region_held3 (fun w' => w'.cell? ⟨b2, 0, none⟩ = some (.slice (some ⟨ba, oa, none⟩) G.N ca) ∧ w'.cell? ⟨b2, 1, none⟩ = some (.slice (some ⟨bb, ob, none⟩) G.N cb) ∧ w'.cell? ⟨b2, 2, none⟩ = some (.slice (some ⟨bc, oc, none⟩) G.N cc) ∧ w'.cell? ⟨fb, fo + J, none⟩ = some (.int .i64 (pJ : Nat)) ∧ Below wr.heap.size wr w')
            (first
              | exact KR.out _ (by first | ((repeat (first | exact hb11 | exact Below.refl _ _ | refine b_drew ?_ | refine b_alloc ?_ _)); done) | fail)
              | assumption)
            ((first
              | (go_at_call 44; (with_reducible refine (WR2.out _ (b_drew (Below.refl _ _))).mono ?_); rintro e w11 ⟨rfl, hb11'⟩; have hb11 := b_next (b_drew (Below.refl wr.heap.size wr)) hb11'; clear hb11')))

          have BX := Lib.hid hb11
          clear hb11 x0
          have CX := Lib.hid (cr_keep BX.out CRR.out); have BQX := Lib.hid (bq_keep BX.out BQR.out)
          have WX := Lib.hid (b_next BR.out BX.out)
          obtain ⟨k0, k1⟩ := CX.out p hp
          have BY : Hid (Below w9.heap.size w9 (w11.setCell ⟨g0, p, none⟩ (.bool true))) := Lib.hid (WX.out.setCell (p := ⟨g0, p, none⟩) (by rw [← HG0.out]; exact Nat.le_refl _) _)
          have CY := Lib.hid (cr_set CX.out hp); have BQY := Lib.hid (bq_set BQX.out p (.bool true))
          have SY : Hid (g0 < (w11.setCell ⟨g0, p, none⟩ (.bool true)).heap.size) := Lib.hid (by rw [World.size_setCell]; exact Nat.lt_of_lt_of_le SZR.out BX.out.size)
          go_wp2_with fail
          clear k0 k1
          obtain ⟨wy, hwy⟩ : ∃ x, x = w11.setCell ⟨g0, p, none⟩ (.bool true) := ⟨_, rfl⟩
          rw [← hwy] at BY CY BQY SY ⊢
          clear hwy
          have NY := Lib.hid (bx_keep BY.out N9.out); have CL := Lib.hid (keep BY.out CL9.out); have CD := Lib.hid (keep BY.out CD9.out); have CE := Lib.hid (keep BY.out CE9.out); have CF := Lib.hid (keep BY.out CF9.out)
          have IX := Lib.hid fun (w1 : World) (h : Below wy.heap.size wy w1) => IX9.out w1 (b_next BY.out h)
          refine d_region (by kernel_rfl) (by kernel_rfl) ?_
          repeat
            first
              | (refine d_plain (by with_reducible rfl) ?_; apply Exists.intro; refine ⟨fun wq hc hq => ?_, ?_⟩)
              | (refine d_on (by with_reducible rfl) (by rfl) (by with_reducible rfl) ?_; apply Exists.intro; refine ⟨fun wq hc hq => ?_, ?_⟩)
              | (refine d_off (by with_reducible rfl) (by rfl) (by rfl) ?_)
              | (refine d_void (by with_reducible rfl) (by rfl) ?_)
            try any_goals
              (obtain ⟨m0, m1, m2, -, -, -⟩ := bx_keep (cls hq) NY.out; have t0 := keep (cls hq) CL.out; have t1 := keep (cls hq) CD.out; have t2 := keep (cls hq) CE.out; have t3 := keep (cls hq) CF.out; clear hc
               go_simp
               first
                 | rfl
                 | (go_at_call 48; with_reducible exact call_below hq (IX.out _ (cls hq))))
            simp only [Act.put, List.setIfInBounds_toArray, List.set_cons_zero, List.set_cons_succ]
          refine d_nil ?_
          intro w20 hb20
          have B20 := Lib.hid (b_next BY.out hb20); have C20 := Lib.hid (cr_keep hb20 CY.out); have Q20 := Lib.hid (bq_keep hb20 BQY.out); have S20 := Lib.hid (Nat.lt_of_lt_of_le SY.out hb20.size)
          clear hb20 NY CL CD CE CF IX
          go_wp2_with fail
          go_roundw
          case rel => exact ⟨J, least, HJ.out.2, by go_num, HS2.out, rfl, Q20.out, by have q := C20.out; rw [HSH.out] at q; exact q, B20.out, S20.out⟩
          case measure => have := HJ.out; simp [intOf]; omega
        · have WR2 := Lib.hid fun (w' : World) (h : Below wr.heap.size wr w') => show Calls _ _ _ w' (fun e w'' => (∃ v l n, e = .returned (.tuple #[v, .int .i64 n, .bool true]) ∧ IV w'' v (l.length + 1) (fun i => ((p :: l).getD i 0 : Int)) ∧ BestO G p b SH (pJ : Nat) l n) ∧ Below w'.heap.size w' w'') from (WYR.out w' h).mono (by
            rintro e w'' ⟨hr, hb⟩
            rcases hr with ⟨v, l, n, h1, h2, hB⟩ | ⟨h1, -⟩
            · exact ⟨⟨v, l, n, h1, h2, hB⟩, hb⟩
            · exact absurd h1 hI2)
          clear WYR hI2
          go_wp2_with fail
          go_region_held3 (fun w' => w'.cell? ⟨b2, 0, none⟩ = some (.slice (some ⟨ba, oa, none⟩) G.N ca) ∧ w'.cell? ⟨b2, 1, none⟩ = some (.slice (some ⟨bb, ob, none⟩) G.N cb) ∧ w'.cell? ⟨b2, 2, none⟩ = some (.slice (some ⟨bc, oc, none⟩) G.N cc) ∧ w'.cell? ⟨fb, fo + J, none⟩ = some (.int .i64 (pJ : Nat)) ∧ Below wr.heap.size wr w')
            (first
              | exact KR.out _ (by first | ((repeat (first | exact hb11 | exact Below.refl _ _ | refine b_drew ?_ | refine b_alloc ?_ _)); done) | fail)
              | assumption)
            ((first
              | (go_at_call 44; (with_reducible refine (WR2.out _ (b_drew (Below.refl _ _))).mono ?_); rintro e w11 ⟨⟨vl, l, nl, rfl, hiv2, hbe2⟩, hb11'⟩; have hb11 := b_next (b_drew (Below.refl wr.heap.size wr)) hb11'; clear hb11')))

          have BX1 := Lib.hid hb11
          have hl0 := nodup_le GO.out hp hbe2.is.chn hbe2.is.nodup
          have n0 := len_nn GO.out l p hp hbe2.is.chn
          have n1 := len_bd GO.out l p hp hbe2.is.chn
          rw [hbe2.len] at n0 n1
          have n2 : nl ≤ 640000000 := by omega
          have ALT2 := Lib.hid (ALT.out l nl hbe2.is hbe2.len)
          have HV2 := Lib.hid hiv2
          obtain ⟨lb, lo, lc, rfl, hl1, hl2, -⟩ := iv_at hiv2 (Nat.succ_pos _)
          have hlc : lc ≤ 9223372036854775807 := Nat.le_trans hl2 (by decide)
          have TQ := Lib.hid (TA.out l)
          have FI2 := Lib.hid (iv_keep hb11 FI.out)
          have LL : ((a :: z).take i).length ≤ 100 := by rw [List.length_take, List.length_cons]; omega
          have CN : Hid (Calls Try.prog 46 #[.slice (some ⟨w11.heap.size, 0, none⟩) 2 2] (w11.alloc (.cells #[.slice (some ⟨fb, fo, none⟩) i fc, .slice (some ⟨lb, lo, none⟩) (l.length + 1) lc] 22)) fun e w' => (∃ v, e = .returned v ∧ w'.ownsRow (w11.alloc (.cells #[.slice (some ⟨fb, fo, none⟩) i fc, .slice (some ⟨lb, lo, none⟩) (l.length + 1) lc] 22)).heap.size 3 1 v (a :: (z.take i ++ l)).length (vsN (a :: (z.take i ++ l)))) ∧ Below (w11.alloc (.cells #[.slice (some ⟨fb, fo, none⟩) i fc, .slice (some ⟨lb, lo, none⟩) (l.length + 1) lc] 22)).heap.size (w11.alloc (.cells #[.slice (some ⟨fb, fo, none⟩) i fc, .slice (some ⟨lb, lo, none⟩) (l.length + 1) lc] 22)) w') := Lib.hid (by
            have ba := b_alloc (Below.refl w11.heap.size w11) (.cells #[.slice (some ⟨fb, fo, none⟩) i fc, .slice (some ⟨lb, lo, none⟩) (l.length + 1) lc] 22)
            have e : preN (fun k => if k = 0 then (a :: z).take i else if k = 1 then p :: l else []) 2 = a :: (z.take i ++ l) := by
              show ([] ++ (a :: z).take i) ++ (p :: l) = _
              rw [List.nil_append]; exact TQ.out
            have q := concat_w w11.heap.size (fun k => if k = 0 then .slice (some ⟨fb, fo, none⟩) i fc else .slice (some ⟨lb, lo, none⟩) (l.length + 1) lc) (fun k => if k = 0 then (a :: z).take i else if k = 1 then p :: l else []) (w11.alloc (.cells #[.slice (some ⟨fb, fo, none⟩) i fc, .slice (some ⟨lb, lo, none⟩) (l.length + 1) lc] 22))
              (Lib.hid fun k hk => by
                match k, hk with
                | 0, _ => simp
                | 1, _ => simp)
              (Lib.hid fun k hk => by
                match k, hk with
                | 0, _ => exact iv_keep ba FI2.out
                | 1, _ => exact iv_keep ba HV2.out)
              (Lib.hid fun k => by
                match k with
                | 0 => exact Nat.le_trans LL (by decide)
                | 1 => show l.length + 1 ≤ 1000; omega
                | k + 2 => exact Nat.zero_le _) (by rw [e]; exact Nat.succ_pos _)
            rw [e] at q
            exact q)
          have BA2 := Lib.hid (b_alloc (Below.refl w11.heap.size w11) (.cells #[.slice (some ⟨fb, fo, none⟩) i fc, .slice (some ⟨lb, lo, none⟩) (l.length + 1) lc] 22))
          have SZ11 : Hid (g0 + 1 ≤ (w11.alloc (.cells #[.slice (some ⟨fb, fo, none⟩) i fc, .slice (some ⟨lb, lo, none⟩) (l.length + 1) lc] 22)).heap.size) := Lib.hid (by have := hb11.size; have := SZR.out; rw [World.size_alloc]; omega)
          obtain ⟨Q, hQ⟩ : ∃ Q, Q = z.take i ++ l := ⟨_, rfl⟩
          rw [← hQ] at ALT2 CN
          clear hb11 hiv2 hbe2 n1 hl1 FI TA ALT FI2 TQ hQ x0
          go_wp2_with fail
          (with_reducible refine CN.out.mono ?_); rintro e w13 ⟨⟨v2, rfl, hown⟩, hb13⟩
          have B13 := Lib.hid (b_next BX1.out (b_next BA2.out hb13))
          have HNEW : Hid (Has w13 G a b z g0 v2 (SM + nl) Q) := Lib.hid ⟨own_base hown SZ11.out, ALT2.out⟩
          have BQ13 := bq_keep B13.out BQR.out
          obtain ⟨Av, cv, rfl, hv1, hv2⟩ := has_slice HNEW.out
          clear hown hb13 BA2 BX1 BQR
          rcases BQ13 with hnil | ⟨q0, h0⟩
          · subst hnil
            have hnl := fun W : World => Lib.run_eql_slice_nil (P := Try.prog) W 22 3 none 0 0 0 0 Try.underlying22
            have BX := Lib.hid B13.out
            have CX := Lib.hid (cr_keep BX.out CRR.out); have BQX := Lib.hid (bq_has HNEW.out)
            have WX := Lib.hid (b_next BR.out BX.out)
            obtain ⟨k0, k1⟩ := CX.out p hp
            have BY : Hid (Below w9.heap.size w9 (w13.setCell ⟨g0, p, none⟩ (.bool true))) := Lib.hid (WX.out.setCell (p := ⟨g0, p, none⟩) (by rw [← HG0.out]; exact Nat.le_refl _) _)
            have CY := Lib.hid (cr_set CX.out hp); have BQY := Lib.hid (bq_set BQX.out p (.bool true))
            have SY : Hid (g0 < (w13.setCell ⟨g0, p, none⟩ (.bool true)).heap.size) := Lib.hid (by rw [World.size_setCell]; exact Nat.lt_of_lt_of_le SZR.out BX.out.size)
            go_wp2_with fail
            clear k0 k1
            obtain ⟨wy, hwy⟩ : ∃ x, x = w13.setCell ⟨g0, p, none⟩ (.bool true) := ⟨_, rfl⟩
            rw [← hwy] at BY CY BQY SY ⊢
            clear hwy
            have NY := Lib.hid (bx_keep BY.out N9.out); have CL := Lib.hid (keep BY.out CL9.out); have CD := Lib.hid (keep BY.out CD9.out); have CE := Lib.hid (keep BY.out CE9.out); have CF := Lib.hid (keep BY.out CF9.out)
            have IX := Lib.hid fun (w1 : World) (h : Below wy.heap.size wy w1) => IX9.out w1 (b_next BY.out h)
            refine d_region (by kernel_rfl) (by kernel_rfl) ?_
            repeat
              first
                | (refine d_plain (by with_reducible rfl) ?_; apply Exists.intro; refine ⟨fun wq hc hq => ?_, ?_⟩)
                | (refine d_on (by with_reducible rfl) (by rfl) (by with_reducible rfl) ?_; apply Exists.intro; refine ⟨fun wq hc hq => ?_, ?_⟩)
                | (refine d_off (by with_reducible rfl) (by rfl) (by rfl) ?_)
                | (refine d_void (by with_reducible rfl) (by rfl) ?_)
              try any_goals
                (obtain ⟨m0, m1, m2, -, -, -⟩ := bx_keep (cls hq) NY.out; have t0 := keep (cls hq) CL.out; have t1 := keep (cls hq) CD.out; have t2 := keep (cls hq) CE.out; have t3 := keep (cls hq) CF.out; clear hc
                 go_simp
                 first
                   | rfl
                   | (go_at_call 48; with_reducible exact call_below hq (IX.out _ (cls hq))))
              simp only [Act.put, List.setIfInBounds_toArray, List.set_cons_zero, List.set_cons_succ]
            refine d_nil ?_
            intro w20 hb20
            have B20 := Lib.hid (b_next BY.out hb20); have C20 := Lib.hid (cr_keep hb20 CY.out); have Q20 := Lib.hid (bq_keep hb20 BQY.out); have S20 := Lib.hid (Nat.lt_of_lt_of_le SY.out hb20.size)
            clear hb20 NY CL CD CE CF IX
            go_wp2_with fail
            go_roundw
            case rel => exact ⟨J, SM + nl, HJ.out.2, by go_num, HS2.out, rfl, Q20.out, by have q := C20.out; rw [HSH.out] at q; exact q, B20.out, S20.out⟩
            case measure => have := HJ.out; simp [intOf]; omega
          · have H0 := Lib.hid h0
            obtain ⟨A0, c0, rfl, hc1, hc2⟩ := has_slice h0
            clear h0
            have hnl := fun W : World => Lib.run_eql_slice_nil (P := Try.prog) W 22 3 (some A0) (q0.length + 1) c0 0 0 Try.underlying22
            by_cases q1 : SM + nl < least
            · have BX := Lib.hid B13.out
              have CX := Lib.hid (cr_keep BX.out CRR.out); have BQX := Lib.hid (bq_has HNEW.out)
              have WX := Lib.hid (b_next BR.out BX.out)
              obtain ⟨k0, k1⟩ := CX.out p hp
              have BY : Hid (Below w9.heap.size w9 (w13.setCell ⟨g0, p, none⟩ (.bool true))) := Lib.hid (WX.out.setCell (p := ⟨g0, p, none⟩) (by rw [← HG0.out]; exact Nat.le_refl _) _)
              have CY := Lib.hid (cr_set CX.out hp); have BQY := Lib.hid (bq_set BQX.out p (.bool true))
              have SY : Hid (g0 < (w13.setCell ⟨g0, p, none⟩ (.bool true)).heap.size) := Lib.hid (by rw [World.size_setCell]; exact Nat.lt_of_lt_of_le SZR.out BX.out.size)
              go_wp2_with fail
              clear k0 k1
              obtain ⟨wy, hwy⟩ : ∃ x, x = w13.setCell ⟨g0, p, none⟩ (.bool true) := ⟨_, rfl⟩
              rw [← hwy] at BY CY BQY SY ⊢
              clear hwy
              have NY := Lib.hid (bx_keep BY.out N9.out); have CL := Lib.hid (keep BY.out CL9.out); have CD := Lib.hid (keep BY.out CD9.out); have CE := Lib.hid (keep BY.out CE9.out); have CF := Lib.hid (keep BY.out CF9.out)
              have IX := Lib.hid fun (w1 : World) (h : Below wy.heap.size wy w1) => IX9.out w1 (b_next BY.out h)
              refine d_region (by kernel_rfl) (by kernel_rfl) ?_
              repeat
                first
                  | (refine d_plain (by with_reducible rfl) ?_; apply Exists.intro; refine ⟨fun wq hc hq => ?_, ?_⟩)
                  | (refine d_on (by with_reducible rfl) (by rfl) (by with_reducible rfl) ?_; apply Exists.intro; refine ⟨fun wq hc hq => ?_, ?_⟩)
                  | (refine d_off (by with_reducible rfl) (by rfl) (by rfl) ?_)
                  | (refine d_void (by with_reducible rfl) (by rfl) ?_)
                try any_goals
                  (obtain ⟨m0, m1, m2, -, -, -⟩ := bx_keep (cls hq) NY.out; have t0 := keep (cls hq) CL.out; have t1 := keep (cls hq) CD.out; have t2 := keep (cls hq) CE.out; have t3 := keep (cls hq) CF.out; clear hc
                   go_simp
                   first
                     | rfl
                     | (go_at_call 48; with_reducible exact call_below hq (IX.out _ (cls hq))))
                simp only [Act.put, List.setIfInBounds_toArray, List.set_cons_zero, List.set_cons_succ]
              refine d_nil ?_
              intro w20 hb20
              have B20 := Lib.hid (b_next BY.out hb20); have C20 := Lib.hid (cr_keep hb20 CY.out); have Q20 := Lib.hid (bq_keep hb20 BQY.out); have S20 := Lib.hid (Nat.lt_of_lt_of_le SY.out hb20.size)
              clear hb20 NY CL CD CE CF IX
              go_wp2_with fail
              go_roundw
              case rel => exact ⟨J, SM + nl, HJ.out.2, by go_num, HS2.out, rfl, Q20.out, by have q := C20.out; rw [HSH.out] at q; exact q, B20.out, S20.out⟩
              case measure => have := HJ.out; simp [intOf]; omega
            · by_cases q2 : SM + nl = least
              · have q2b : (SM + nl == least) = true := by simpa using q2
                have CMP := Lib.hid (compare_w (some Av) (some A0) (Q.length + 1) cv (q0.length + 1) c0 _ _ w13 ⟨hv1, hv2⟩ ⟨hc1, hc2⟩ (Lib.hid (nl_own HNEW.out.own)) (Lib.hid (nl_own H0.out.own)))
                clear q2
                go_wp2_with fail
                (with_reducible refine CMP.out.mono ?_); rintro e w14 ⟨⟨r, rfl⟩, hb14⟩
                have H14 := Lib.hid (has_keep hb14 H0.out); have N14 := Lib.hid (has_keep hb14 HNEW.out)
                have BX := Lib.hid (b_next B13.out hb14)
                clear hb14
                by_cases q3 : r < 0
                ·
                  have CX := Lib.hid (cr_keep BX.out CRR.out); have BQX := Lib.hid (bq_has N14.out)
                  have WX := Lib.hid (b_next BR.out BX.out)
                  obtain ⟨k0, k1⟩ := CX.out p hp
                  have BY : Hid (Below w9.heap.size w9 (w14.setCell ⟨g0, p, none⟩ (.bool true))) := Lib.hid (WX.out.setCell (p := ⟨g0, p, none⟩) (by rw [← HG0.out]; exact Nat.le_refl _) _)
                  have CY := Lib.hid (cr_set CX.out hp); have BQY := Lib.hid (bq_set BQX.out p (.bool true))
                  have SY : Hid (g0 < (w14.setCell ⟨g0, p, none⟩ (.bool true)).heap.size) := Lib.hid (by rw [World.size_setCell]; exact Nat.lt_of_lt_of_le SZR.out BX.out.size)
                  go_wp2_with fail
                  clear k0 k1
                  obtain ⟨wy, hwy⟩ : ∃ x, x = w14.setCell ⟨g0, p, none⟩ (.bool true) := ⟨_, rfl⟩
                  rw [← hwy] at BY CY BQY SY ⊢
                  clear hwy
                  have NY := Lib.hid (bx_keep BY.out N9.out); have CL := Lib.hid (keep BY.out CL9.out); have CD := Lib.hid (keep BY.out CD9.out); have CE := Lib.hid (keep BY.out CE9.out); have CF := Lib.hid (keep BY.out CF9.out)
                  have IX := Lib.hid fun (w1 : World) (h : Below wy.heap.size wy w1) => IX9.out w1 (b_next BY.out h)
                  refine d_region (by kernel_rfl) (by kernel_rfl) ?_
                  repeat
                    first
                      | (refine d_plain (by with_reducible rfl) ?_; apply Exists.intro; refine ⟨fun wq hc hq => ?_, ?_⟩)
                      | (refine d_on (by with_reducible rfl) (by rfl) (by with_reducible rfl) ?_; apply Exists.intro; refine ⟨fun wq hc hq => ?_, ?_⟩)
                      | (refine d_off (by with_reducible rfl) (by rfl) (by rfl) ?_)
                      | (refine d_void (by with_reducible rfl) (by rfl) ?_)
                    try any_goals
                      (obtain ⟨m0, m1, m2, -, -, -⟩ := bx_keep (cls hq) NY.out; have t0 := keep (cls hq) CL.out; have t1 := keep (cls hq) CD.out; have t2 := keep (cls hq) CE.out; have t3 := keep (cls hq) CF.out; clear hc
                       go_simp
                       first
                         | rfl
                         | (go_at_call 48; with_reducible exact call_below hq (IX.out _ (cls hq))))
                    simp only [Act.put, List.setIfInBounds_toArray, List.set_cons_zero, List.set_cons_succ]
                  refine d_nil ?_
                  intro w20 hb20
                  have B20 := Lib.hid (b_next BY.out hb20); have C20 := Lib.hid (cr_keep hb20 CY.out); have Q20 := Lib.hid (bq_keep hb20 BQY.out); have S20 := Lib.hid (Nat.lt_of_lt_of_le SY.out hb20.size)
                  clear hb20 NY CL CD CE CF IX
                  go_wp2_with fail
                  go_roundw
                  case rel => exact ⟨J, SM + nl, HJ.out.2, by go_num, HS2.out, rfl, Q20.out, by have q := C20.out; rw [HSH.out] at q; exact q, B20.out, S20.out⟩
                  case measure => have := HJ.out; simp [intOf]; omega
                ·
                  have CX := Lib.hid (cr_keep BX.out CRR.out); have BQX := Lib.hid (bq_has H14.out)
                  have WX := Lib.hid (b_next BR.out BX.out)
                  obtain ⟨k0, k1⟩ := CX.out p hp
                  have BY : Hid (Below w9.heap.size w9 (w14.setCell ⟨g0, p, none⟩ (.bool true))) := Lib.hid (WX.out.setCell (p := ⟨g0, p, none⟩) (by rw [← HG0.out]; exact Nat.le_refl _) _)
                  have CY := Lib.hid (cr_set CX.out hp); have BQY := Lib.hid (bq_set BQX.out p (.bool true))
                  have SY : Hid (g0 < (w14.setCell ⟨g0, p, none⟩ (.bool true)).heap.size) := Lib.hid (by rw [World.size_setCell]; exact Nat.lt_of_lt_of_le SZR.out BX.out.size)
                  go_wp2_with fail
                  clear k0 k1
                  obtain ⟨wy, hwy⟩ : ∃ x, x = w14.setCell ⟨g0, p, none⟩ (.bool true) := ⟨_, rfl⟩
                  rw [← hwy] at BY CY BQY SY ⊢
                  clear hwy
                  have NY := Lib.hid (bx_keep BY.out N9.out); have CL := Lib.hid (keep BY.out CL9.out); have CD := Lib.hid (keep BY.out CD9.out); have CE := Lib.hid (keep BY.out CE9.out); have CF := Lib.hid (keep BY.out CF9.out)
                  have IX := Lib.hid fun (w1 : World) (h : Below wy.heap.size wy w1) => IX9.out w1 (b_next BY.out h)
                  refine d_region (by kernel_rfl) (by kernel_rfl) ?_
                  repeat
                    first
                      | (refine d_plain (by with_reducible rfl) ?_; apply Exists.intro; refine ⟨fun wq hc hq => ?_, ?_⟩)
                      | (refine d_on (by with_reducible rfl) (by rfl) (by with_reducible rfl) ?_; apply Exists.intro; refine ⟨fun wq hc hq => ?_, ?_⟩)
                      | (refine d_off (by with_reducible rfl) (by rfl) (by rfl) ?_)
                      | (refine d_void (by with_reducible rfl) (by rfl) ?_)
                    try any_goals
                      (obtain ⟨m0, m1, m2, -, -, -⟩ := bx_keep (cls hq) NY.out; have t0 := keep (cls hq) CL.out; have t1 := keep (cls hq) CD.out; have t2 := keep (cls hq) CE.out; have t3 := keep (cls hq) CF.out; clear hc
                       go_simp
                       first
                         | rfl
                         | (go_at_call 48; with_reducible exact call_below hq (IX.out _ (cls hq))))
                    simp only [Act.put, List.setIfInBounds_toArray, List.set_cons_zero, List.set_cons_succ]
                  refine d_nil ?_
                  intro w20 hb20
                  have B20 := Lib.hid (b_next BY.out hb20); have C20 := Lib.hid (cr_keep hb20 CY.out); have Q20 := Lib.hid (bq_keep hb20 BQY.out); have S20 := Lib.hid (Nat.lt_of_lt_of_le SY.out hb20.size)
                  clear hb20 NY CL CD CE CF IX
                  go_wp2_with fail
                  go_roundw
                  case rel => exact ⟨J, least, HJ.out.2, by go_num, HS2.out, rfl, Q20.out, by have q := C20.out; rw [HSH.out] at q; exact q, B20.out, S20.out⟩
                  case measure => have := HJ.out; simp [intOf]; omega
              · have q2b : (SM + nl == least) = false := by simpa using q2
                have BX := Lib.hid B13.out
                have CX := Lib.hid (cr_keep BX.out CRR.out); have BQX := Lib.hid (bq_has H0.out)
                have WX := Lib.hid (b_next BR.out BX.out)
                obtain ⟨k0, k1⟩ := CX.out p hp
                have BY : Hid (Below w9.heap.size w9 (w13.setCell ⟨g0, p, none⟩ (.bool true))) := Lib.hid (WX.out.setCell (p := ⟨g0, p, none⟩) (by rw [← HG0.out]; exact Nat.le_refl _) _)
                have CY := Lib.hid (cr_set CX.out hp); have BQY := Lib.hid (bq_set BQX.out p (.bool true))
                have SY : Hid (g0 < (w13.setCell ⟨g0, p, none⟩ (.bool true)).heap.size) := Lib.hid (by rw [World.size_setCell]; exact Nat.lt_of_lt_of_le SZR.out BX.out.size)
                go_wp2_with fail
                clear k0 k1
                obtain ⟨wy, hwy⟩ : ∃ x, x = w13.setCell ⟨g0, p, none⟩ (.bool true) := ⟨_, rfl⟩
                rw [← hwy] at BY CY BQY SY ⊢
                clear hwy
                have NY := Lib.hid (bx_keep BY.out N9.out); have CL := Lib.hid (keep BY.out CL9.out); have CD := Lib.hid (keep BY.out CD9.out); have CE := Lib.hid (keep BY.out CE9.out); have CF := Lib.hid (keep BY.out CF9.out)
                have IX := Lib.hid fun (w1 : World) (h : Below wy.heap.size wy w1) => IX9.out w1 (b_next BY.out h)
                refine d_region (by kernel_rfl) (by kernel_rfl) ?_
                repeat
                  first
                    | (refine d_plain (by with_reducible rfl) ?_; apply Exists.intro; refine ⟨fun wq hc hq => ?_, ?_⟩)
                    | (refine d_on (by with_reducible rfl) (by rfl) (by with_reducible rfl) ?_; apply Exists.intro; refine ⟨fun wq hc hq => ?_, ?_⟩)
                    | (refine d_off (by with_reducible rfl) (by rfl) (by rfl) ?_)
                    | (refine d_void (by with_reducible rfl) (by rfl) ?_)
                  try any_goals
                    (obtain ⟨m0, m1, m2, -, -, -⟩ := bx_keep (cls hq) NY.out; have t0 := keep (cls hq) CL.out; have t1 := keep (cls hq) CD.out; have t2 := keep (cls hq) CE.out; have t3 := keep (cls hq) CF.out; clear hc
                     go_simp
                     first
                       | rfl
                       | (go_at_call 48; with_reducible exact call_below hq (IX.out _ (cls hq))))
                  simp only [Act.put, List.setIfInBounds_toArray, List.set_cons_zero, List.set_cons_succ]
                refine d_nil ?_
                intro w20 hb20
                have B20 := Lib.hid (b_next BY.out hb20); have C20 := Lib.hid (cr_keep hb20 CY.out); have Q20 := Lib.hid (bq_keep hb20 BQY.out); have S20 := Lib.hid (Nat.lt_of_lt_of_le SY.out hb20.size)
                clear hb20 NY CL CD CE CF IX
                go_wp2_with fail
                go_roundw
                case rel => exact ⟨J, least, HJ.out.2, by go_num, HS2.out, rfl, Q20.out, by have q := C20.out; rw [HSH.out] at q; exact q, B20.out, S20.out⟩
                case measure => have := HJ.out; simp [intOf]; omega
      · obtain rfl : i = z.length := by omega
        have hzR : ¬ (z.length : Int) + 1 < (R : Int) := by have := HRR.out; omega
        have NR := Lib.hid (bx_keep BR.out N9.out); have NVR := Lib.hid (nv_keep BR.out NV9.out); have WR := Lib.hid (b_next W9.out BR.out)
        obtain ⟨ZL, hZL⟩ : ∃ x, x = len G.d a (z.take z.length) := ⟨_, rfl⟩
        rw [← hZL]
        clear hZL
        rcases BQR.out with hnil | ⟨q0, h0⟩
        · subst hnil
          have hnl := fun W : World => Lib.run_eql_slice_nil (P := Try.prog) W 22 3 none 0 0 0 0 Try.underlying22
          clear BQR
          go_wp2_with fail
          go_ret3
          exact ⟨Or.inr rfl, WR.out⟩
        · have H0 := Lib.hid h0
          obtain ⟨A0, c0, rfl, hc1, hc2⟩ := has_slice h0
          have hl := nodup_le GO.out ha h0.alt.chn h0.alt.nodup
          have hlt2 := chn_lt GO.out q0 a ha h0.alt.chn
          have TX := Lib.hid (textC NVR.out GO.out.n64 hN0 (n := q0.length + 1) (g := fun i => (a :: q0).getD i 0) (by omega) (nl_own H0.out.own) (fun k hk => by
            rcases Nat.eq_zero_or_pos k with h0 | h0
            · subst h0; exact ha
            · obtain ⟨j, rfl⟩ : ∃ j, k = j + 1 := ⟨k - 1, by omega⟩
              show q0.getD j 0 < G.N
              rw [List.getD_eq_getElem?_getD, List.getElem?_eq_getElem (show j < q0.length by omega)]
              exact hlt2 _ (List.getElem_mem _)))
          have hnl := fun W : World => Lib.run_eql_slice_nil (P := Try.prog) W 22 3 (some A0) (q0.length + 1) c0 0 0 Try.underlying22
          obtain ⟨m0, m1, m2, -, -, -⟩ := NR.out
          clear h0 hl hlt2 BQR
          go_wp2_with fail
          (with_reducible refine TX.out.mono ?_); rintro e w15 ⟨⟨x, rfl, hx⟩, hb⟩
          have W15 := Lib.hid (b_next WR.out hb); have HX := Lib.hid hx
          clear hb hx
          go_wp2_with fail
          go_ret3
          exact ⟨Or.inl ⟨x, least, q0, z, kz, rfl, HX.out, HB.out, H0.out.alt⟩, W15.out⟩
end Net
end Go.Proofs.Ytokioemmjfjhkaa
