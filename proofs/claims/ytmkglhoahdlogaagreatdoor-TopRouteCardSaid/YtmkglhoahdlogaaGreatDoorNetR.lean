/- NetR. -/
import Derived.Test.YtmkglhoahdlogaaGreatDoorS7
import Derived.Deep.RegionHeld3
import Derived.Test.YtmkglhoahdlogaaGreatDoorNetO
namespace Go.Proofs.YtmkglhoahdlogaaGreatDoor
open Go.RowKit
namespace Net
open Kit Chart Short Route
abbrev PaC (c : Value) (s t : ByteArray) (w : World) (post : Ending → World → Prop) : Prop := Calls Tryz.prog 8 #[c, .string s, .string t] w fun e w' => post e w' ∧ Below w.heap.size w w'
theorem bool_info : (Tryz.prog.info? 4).map (fun i => (i.zero, i.size, i.bytes)) = some (some (.bool false), 1, 1) := by kernel_rfl
theorem made_bw (n : Nat) : (madeCells #[Value.bool false] n) = (List.replicate n (Value.bool false)).toArray := by
  apply Array.toList_inj.1
  rw [toList_madeCells_one]
theorem bv_made (w : World) (n : Nat) (h0 : 0 < n) (hn : n ≤ maxLen) (t : TypeId) : BV (w.alloc (.cells (madeCells #[Value.bool false] n) t)) (.slice (some ⟨w.heap.size, 0, none⟩) n n) n noc :=
  Or.inr ⟨h0, w.heap.size, 0, n, rfl, Nat.le_refl _, hn, fun k hk => by
    rw [made_bw, Nat.zero_add, cell_of_row (w.alloc _) w.heap.size k _ _ _ (heap_alloc_new w _), List.getElem?_toArray, List.getElem?_replicate, if_pos hk]; rfl⟩
set_option maxRecDepth 100000 in
set_option maxHeartbeats 2000000 in
theorem path_bad (fx aw : Value) (s t : ByteArray) (E : Int) (w : World) (_hE1 : (E == 0) = false) (hE2 : (E != 0) = true) (EN : Hid (∀ w1, Below w.heap.size w w1 → EnC (.agg #[fx, aw]) s t w1 fun e _ => e = .returned (.tuple #[net0, .int .i64 0, .int .i64 0, .int .i64 E]))) :
    PaC (.agg #[fx, aw]) s t w fun e _ => e = .returned (.tuple #[.slice none 0 0, .int .i64 0, .int .i64 E]) := by
  have W0 := Lib.hid (b_alloc (Below.refl w.heap.size w) (.cells #[fx, aw] 28))
  have BX := Lib.hid (p2v_new w 28 fx aw)
  obtain ⟨x0, x1⟩ := BX.out
  go_enter Tryz.func8, Tryz.ntmps8
  go_wp2_with fail
  (with_reducible refine (EN.out _ W0.out).mono ?_); rintro e w1 ⟨rfl, hb⟩
  have W1 := Lib.hid (b_next W0.out hb); clear hb x0 x1
  go_wp2_with fail
  go_ret3
  exact ⟨rfl, b_alloc W1.out _⟩
set_option maxRecDepth 100000 in
set_option maxHeartbeats 4000000 in
theorem path_w (fx aw : Value) (s t : ByteArray) (a b : Nat) (G : Gr) (S : Nat → ByteArray) (w : World) (hG : G.Ok 10000000) (ha : a < G.N) (hb : b < G.N) (EN : Hid (∀ w1, Below w.heap.size w w1 → EnC (.agg #[fx, aw]) s t w1 fun e w' => ∃ v, e = .returned (.tuple #[v, .int .i64 (a : Nat), .int .i64 (b : Nat), .int .i64 0]) ∧ NV w' v G S)) :
    PaC (.agg #[fx, aw]) s t w fun e w' => (∃ u l n, e = .returned (.tuple #[u, .int .i64 n, .int .i64 0]) ∧ SL w' u (nms S (fun i => (a :: l).getD i 0) (l.length + 1)) ∧ BestO G a b noc (-1) l n) ∨ ((∀ l, ¬ Is G a b noc (-1) l) ∧ e = .returned (.tuple #[.slice none 0 0, .int .i64 0, .int .i64 8])) := by
  have W0 := Lib.hid (b_alloc (Below.refl w.heap.size w) (.cells #[fx, aw] 28))
  have BX := Lib.hid (p2v_new w 28 fx aw)
  have hN := hG.n64
  have GO := Lib.hid hG
  obtain ⟨x0, x1⟩ := BX.out
  go_enter Tryz.func8, Tryz.ntmps8
  go_wp2_with fail
  (with_reducible refine (EN.out _ W0.out).mono ?_); rintro e w1 ⟨⟨v, rfl, hv⟩, hb1⟩
  have W1 := Lib.hid (b_next W0.out hb1); have NV1 := Lib.hid hv; clear hb1 x0 x1
  obtain ⟨ba, oa, ca, bb, ob, cb, bc, oc, cc, rfl, h1, -, -, -, -, -⟩ := nv_parts hv (by omega)
  clear hv
  have N2 := Lib.hid (bx_new w1 80 (.slice (some ⟨ba, oa, none⟩) G.N ca) (.slice (some ⟨bb, ob, none⟩) G.N cb) (.slice (some ⟨bc, oc, none⟩) G.N cc))
  have NV2 := Lib.hid (nv_keep (b_alloc (Below.refl w1.heap.size w1) (.cells #[.slice (some ⟨ba, oa, none⟩) G.N ca, .slice (some ⟨bb, ob, none⟩) G.N cb, .slice (some ⟨bc, oc, none⟩) G.N cc] 80)) NV1.out)
  have W2 := Lib.hid (b_next W1.out (b_alloc (Below.refl w1.heap.size w1) (.cells #[.slice (some ⟨ba, oa, none⟩) G.N ca, .slice (some ⟨bb, ob, none⟩) G.N cb, .slice (some ⟨bc, oc, none⟩) G.N cc] 80)))
  go_wp2_with fail
  obtain ⟨b2, hb2⟩ : ∃ b, b = w1.heap.size := ⟨_, rfl⟩
  obtain ⟨w2, hw2⟩ : ∃ x, x = w1.alloc (.cells #[.slice (some ⟨ba, oa, none⟩) G.N ca, .slice (some ⟨bb, ob, none⟩) G.N cb, .slice (some ⟨bc, oc, none⟩) G.N cc] 80) := ⟨_, rfl⟩
  rw [← hw2, ← hb2]
  rw [← hw2] at NV2 W2 N2; rw [← hb2] at N2
  clear hw2 hb2 NV1
  have KP : Hid (∀ w', Below w2.heap.size w2 w' → w'.cell? ⟨b2, 0, none⟩ = some (.slice (some ⟨ba, oa, none⟩) G.N ca) ∧ w'.cell? ⟨b2, 1, none⟩ = some (.slice (some ⟨bb, ob, none⟩) G.N cb) ∧ w'.cell? ⟨b2, 2, none⟩ = some (.slice (some ⟨bc, oc, none⟩) G.N cc) ∧ Below w2.heap.size w2 w') := Lib.hid fun w' hb => ⟨keep hb N2.out.c0, keep hb N2.out.c1, keep hb N2.out.c2, hb⟩
  have hN0 : 0 < G.N := by omega
  have WY := Lib.hid fun (w' : World) (cv : Value) (h : Below w2.heap.size w2 w') (hc : BV w' cv G.N noc) => wayC (-1) (nv_keep h NV2.out) GO.out ha hb (fun _ => rfl) hc
  have hmk := run_make_row' (P := Tryz.prog) 86 4 (.bool false) 1 Tryz.underlying86 bool_info rfl .i64 .i64 G.N (by omega) (by omega)
  have BA := Lib.hid (b_drew (b_alloc (Below.refl w2.heap.size w2) (.cells (madeCells #[Value.bool false] G.N) 4)))
  have BM := Lib.hid (bv_keep (b_drew (Below.refl (w2.alloc (.cells (madeCells #[Value.bool false] G.N) 4)).heap.size _)) (bv_made w2 G.N hN0 (by unfold maxLen; omega) 4))
  by_cases hI : ∀ l, ¬ Is G a b noc (-1) l
  · have WN := Lib.hid fun (w' : World) (cv : Value) (h : Below w2.heap.size w2 w') (hc : BV w' cv G.N noc) => show Calls _ _ _ w' (fun e w'' => e = .returned (.tuple #[.slice none 0 0, .int .i64 0, .bool false]) ∧ Below w'.heap.size w' w'') from (WY.out w' cv h hc).mono (by
      rintro e w'' ⟨hr, hb⟩
      rcases hr with ⟨v, l, n, -, -, hB⟩ | ⟨-, rfl⟩
      · exact absurd hB.is (hI l)
      · exact ⟨rfl, hb⟩)
    have HI := Lib.hid hI
    clear WY hI
    go_region_held3 (fun w' => w'.cell? ⟨b2, 0, none⟩ = some (.slice (some ⟨ba, oa, none⟩) G.N ca) ∧ w'.cell? ⟨b2, 1, none⟩ = some (.slice (some ⟨bb, ob, none⟩) G.N cb) ∧ w'.cell? ⟨b2, 2, none⟩ = some (.slice (some ⟨bc, oc, none⟩) G.N cc) ∧ Below w2.heap.size w2 w')
      (first
        | exact KP.out _ (by first | ((repeat (first | exact hb9 | exact Below.refl _ _ | refine b_drew ?_ | refine b_alloc ?_ _)); done) | fail)
        | assumption)
      ((first
        | (go_at_call 28; (with_reducible refine (WN.out _ _ BA.out BM.out).mono ?_); rintro e w9 ⟨rfl, hb9'⟩; have hb9 := b_next BA.out hb9'; clear hb9')))
    go_wp2_with fail
    go_ret3
    exact ⟨Or.inr ⟨HI.out, rfl⟩, b_next W2.out hb9⟩
  · have WN := Lib.hid fun (w' : World) (cv : Value) (h : Below w2.heap.size w2 w') (hc : BV w' cv G.N noc) => show Calls _ _ _ w' (fun e w'' => (∃ v l n, e = .returned (.tuple #[v, .int .i64 n, .bool true]) ∧ IV w'' v (l.length + 1) (fun i => ((a :: l).getD i 0 : Int)) ∧ BestO G a b noc (-1) l n) ∧ Below w'.heap.size w' w'') from (WY.out w' cv h hc).mono (by
      rintro e w'' ⟨hr, hb⟩
      rcases hr with ⟨v, l, n, h1, h2, hB⟩ | ⟨h1, -⟩
      · exact ⟨⟨v, l, n, h1, h2, hB⟩, hb⟩
      · exact absurd h1 hI)
    clear WY hI
    go_region_held3 (fun w' => w'.cell? ⟨b2, 0, none⟩ = some (.slice (some ⟨ba, oa, none⟩) G.N ca) ∧ w'.cell? ⟨b2, 1, none⟩ = some (.slice (some ⟨bb, ob, none⟩) G.N cb) ∧ w'.cell? ⟨b2, 2, none⟩ = some (.slice (some ⟨bc, oc, none⟩) G.N cc) ∧ Below w2.heap.size w2 w')
      (first
        | exact KP.out _ (by first | ((repeat (first | exact hb9 | exact Below.refl _ _ | refine b_drew ?_ | refine b_alloc ?_ _)); done) | fail)
        | assumption)
      ((first
        | (go_at_call 28; (with_reducible refine (WN.out _ _ BA.out BM.out).mono ?_); rintro e w9 ⟨⟨v, l, n, rfl, hiv, hbe⟩, hb9'⟩; have hb9 := b_next BA.out hb9'; clear hb9')))
    have HB := Lib.hid hbe
    have hl := nodup_le GO.out ha hbe.is.chn hbe.is.nodup
    have hlt := chn_lt GO.out l a ha hbe.is.chn
    have TX := Lib.hid (textC (nv_keep hb9 NV2.out) GO.out.n64 hN0 (n := l.length + 1) (g := fun i => (a :: l).getD i 0) (by omega) hiv (fun k hk => by
      rcases Nat.eq_zero_or_pos k with h0 | h0
      · subst h0; exact ha
      · obtain ⟨j, rfl⟩ : ∃ j, k = j + 1 := ⟨k - 1, by omega⟩
        show l.getD j 0 < G.N
        rw [List.getD_eq_getElem?_getD, List.getElem?_eq_getElem (show j < l.length by omega)]
        exact hlt _ (List.getElem_mem _)))
    have W9 := Lib.hid (b_next W2.out hb9)
    obtain ⟨c0, c1, c2, -⟩ := KP.out _ hb9
    clear hbe hl hlt hiv
    go_wp2_with fail
    (with_reducible refine TX.out.mono ?_); rintro e w10 ⟨⟨x, rfl, hx⟩, hb⟩
    have W10 := Lib.hid (b_next W9.out hb); have HX := Lib.hid hx
    clear hb hx
    go_wp2_with fail
    go_ret3
    exact ⟨Or.inl ⟨x, l, n, rfl, HX.out, HB.out⟩, W10.out⟩
end Net
end Go.Proofs.YtmkglhoahdlogaaGreatDoor
namespace Go.Proofs.YtmkglhoahdlogaaGreatDoor
open Go.RowKit
namespace Net
open Kit Chart Short Route
end Net
end Go.Proofs.YtmkglhoahdlogaaGreatDoor
namespace Go.Proofs.YtmkglhoahdlogaaGreatDoor
open Go.RowKit
namespace Net
open Kit Chart Short Route Lnk Plane
theorem lv_congr {w : World} {v : Value} {n : Nat} {d : Nat → Nat} {f g : Nat → Nat → Int} (e : ∀ k, k < n → ∀ i, i < d k → f k i = g k i) (h : LV w v n d f) : LV w v n d g := by
  rcases h with h | ⟨h0, b, off, cap, hv, h1, h2, h3⟩
  · exact Or.inl h
  · refine Or.inr ⟨h0, b, off, cap, hv, h1, h2, fun k hk => ?_⟩
    obtain ⟨u, h4, h5⟩ := h3 k hk
    refine ⟨u, h4, ?_⟩
    rcases h5 with h | ⟨g0, b', off', cap', hv', g1, g2, g3⟩
    · exact Or.inl h
    · exact Or.inr ⟨g0, b', off', cap', hv', g1, g2, fun i hi => by rw [g3 i hi, e k hk i hi]⟩
section
variable {n : Nat} {N : Nat → ByteArray} {X Y : Nat → Int} {m : Nat} {M : Nat → ByteArray} {l : Nat → Nat} {S : Nat → Nat → ByteArray}
theorem two_len (_h : cerr n N X Y m M l S = 0) {s t : ByteArray} (hs : 0 ≤ fix N s n) (ht : 0 ≤ fix N t n) (E : Int) (hE : E = 0) : (lenR E n N X Y 2 (fun k => [s, t].getD k ⟨#[]⟩)).1 = dst n N X Y s t := by
  subst hE
  unfold lenR
  have f : ferr (lerr n N (fun k => [s, t].getD k ⟨#[]⟩)) 2 = 0 := ferr_zero fun j hj => by
    unfold lerr
    match j, hj with
    | 0, _ => exact if_neg (by show ¬ fix N s n < 0; omega)
    | 1, _ => exact if_neg (by show ¬ fix N t n < 0; omega)
  rw [if_neg (by simp), if_neg (by decide), if_neg (fun q => q f)]
  show (if (1 : Nat) = 0 then (0 : Int) else (if (0 : Nat) = 0 then 0 else _) + stp n N X Y (fun k => [s, t].getD k ⟨#[]⟩) 1) = _
  rw [if_neg (by decide), if_pos rfl, Int.zero_add]
  rfl
theorem fix_gS {k : Nat} (hk : k < n) : 0 ≤ fix N (gS n N k) n := by
  obtain ⟨j, hj, e⟩ := gS_mem (N := N) hk
  exact has_fix ⟨j, hj, e.symm⟩
theorem ofC {c : Value} {w : World} (hv : CV w c n N X Y m M l S) (h : cerr n N X Y m M l S = 0) :
    Calls Tryz.prog 51 #[c] w fun e w' => (∃ A1 n1 c1 A2 n2 c2 A3 n3 c3, e = .returned (.agg #[.slice A1 n1 c1, .slice A2 n2 c2, .slice A3 n3 c3]) ∧ ∀ W, Kg w.heap.size w' W → NV W (.agg #[.slice A1 n1 c1, .slice A2 n2 c2, .slice A3 n3 c3]) (gr n N X Y m l S) (gS n N)) ∧ Below w.heap.size w w' := by
  obtain ⟨fx, aw, rfl, h1, h2⟩ := hv.ex
  obtain ⟨A1, c1, rfl⟩ := fv_slice h1
  obtain ⟨A2, c2, rfl⟩ := av_slice h2
  have hm := (cerr_ok h).2.1
  refine (of_w A1 A2 n c1 m c2 N X Y (gS n N) (fun i => links l S (gS n N i) m) (gr n N X Y m l S).lk (fun i j => dst n N X Y (gS n N i) ((links l S (gS n N i) m).getD j ⟨#[]⟩)) w (cerr_ok h).1 rfl (Lib.hid fun i _ => ?_) (Lib.hid h1) (Lib.hid fun i hi w1 hb => ?_) (Lib.hid fun i hi j hj w1 v hsv => ?_) (Lib.hid fun i hi j hj w1 v hb hsl => ?_)).mono ?_
  · have := links_len (l := l) (S := S) (s' := gS n N i) (m := m)
    omega
  · refine (linksC (cv_keep hb hv) (gS n N i)).mono ?_
    rintro e w' ⟨hr, hb⟩
    refine ⟨?_, hb⟩
    rcases hr with ⟨E, -, -, -, q⟩ | ⟨-, -, v, e1, e2⟩
    · have := q h; have := fix_gS (N := N) hi; omega
    · exact ⟨v, 0, e1, e2⟩
  · refine (searchC hsv (gS_srt (once h)) (by have := (cerr_ok h).1; omega) _).mono ?_
    rintro e w' ⟨hr, hb⟩
    refine ⟨?_, hb⟩
    have q := gr_lk h (a := i) (i := j) hj
    rcases hr with ⟨k, hk, e1, rfl⟩ | ⟨hno, -⟩
    · rw [srt_inj (gS_srt (once h)) hk q.1 (e1.trans q.2.symm)]
    · exact absurd q.2 (hno _ q.1)
  · refine (lengthC (cv_keep hb hv) hsl).mono ?_
    rintro e w' ⟨rfl, hb⟩
    have e := two_len h (fix_gS (N := N) hi) (links_fix h (link_at hj)) (cerr n N X Y m M l S) h
    exact ⟨⟨(lenR (cerr n N X Y m M l S) n N X Y 2 (fun k => [gS n N i, (links l S (gS n N i) m).getD j ⟨#[]⟩].getD k ⟨#[]⟩)).2, by rw [← e]; rfl⟩, hb⟩
  · rintro e w' ⟨⟨o, ob, oc, rfl, hW⟩, hb⟩
    refine ⟨?_, hb⟩
    obtain ⟨q1, q2, q3⟩ := hW w' (kg_refl _ _)
    obtain ⟨B1, d1, rfl⟩ := sv_slice q1
    obtain ⟨B2, d2, rfl⟩ := lv_slice q2
    obtain ⟨B3, d3, rfl⟩ := lv_slice q3
    refine ⟨B1, n, d1, B2, n, d2, B3, n, d3, rfl, fun W hk => ?_⟩
    obtain ⟨q1, q2, q3⟩ := hW W hk
    refine ⟨_, _, _, rfl, q1, q2, lv_congr (fun k hk i hi => ?_) q3⟩
    show dst n N X Y (gS n N k) _ = dst n N X Y (gS n N k) _
    rw [(gr_lk h hi).2]
/-- What ends answers. -/
def EndR (n : Nat) (N : Nat → ByteArray) (X Y : Nat → Int) (m : Nat) (M : Nat → ByteArray) (l : Nat → Nat) (S : Nat → Nat → ByteArray) (s t : ByteArray) (e : Ending) (w' : World) : Prop :=
  (∃ E : Int, E ≠ 0 ∧ e = .returned (.tuple #[net0, .int .i64 0, .int .i64 0, .int .i64 E]) ∧ E = (if cerr n N X Y m M l S ≠ 0 then cerr n N X Y m M l S else 6) ∧ (cerr n N X Y m M l S = 0 → fix (gS n N) s n < 0 ∨ fix (gS n N) t n < 0)) ∨
  (cerr n N X Y m M l S = 0 ∧ ∃ v a b, a < n ∧ b < n ∧ gS n N a = s ∧ gS n N b = t ∧ e = .returned (.tuple #[v, .int .i64 (a : Nat), .int .i64 (b : Nat), .int .i64 0]) ∧ NV w' v (gr n N X Y m l S) (gS n N))
theorem endsC {c : Value} {w : World} (hv : CV w c n N X Y m M l S) (s t : ByteArray) : EnC c s t w (EndR n N X Y m M l S s t) := by
  have hC : CcC c (cerr n N X Y m M l S) w := fun w1 hb => checkC (cv_keep hb hv)
  obtain ⟨fx, aw, rfl, h1, h2⟩ := hv.ex
  by_cases h : cerr n N X Y m M l S = 0
  · have hn := (cerr_ok h).1
    rw [h] at hC
    refine (ends_w fx aw s t (fix (gS n N) s n) (fix (gS n N) t n) (fun W o ob oc => NV W (.agg #[o, ob, oc]) (gr n N X Y m l S) (gS n N)) w (Lib.hid fun W w1 o ob oc q hb => nv_keep hb q) (Lib.hid hC) (Lib.hid fun w1 hb => ofC (cv_keep hb hv) h)
      (Lib.hid fun w1 o ob oc q => find_fix q (gS_srt (once h)) (by show n ≤ _; omega) s) (Lib.hid fun w1 o ob oc q => find_fix q (gS_srt (once h)) (by show n ≤ _; omega) t)).mono ?_
    rintro e w' ⟨hp, hb⟩
    refine ⟨?_, hb⟩
    split at hp
    · rename_i hf
      exact Or.inl ⟨6, by decide, hp, by rw [if_neg (fun q => q h)], fun _ => hf⟩
    · rename_i hf
      obtain ⟨o, ob, oc, rfl, hnv⟩ := hp
      have p1 : fix (gS n N) s n = ((pos n (gS n N) s : Nat) : Int) := by unfold pos; omega
      have p2 : fix (gS n N) t n = ((pos n (gS n N) t : Nat) : Int) := by unfold pos; omega
      have g1 := pos_of (fix_has (T := gS n N) (t := s) (n := n) (by omega))
      have g2 := pos_of (fix_has (T := gS n N) (t := t) (n := n) (by omega))
      exact Or.inr ⟨h, _, _, _, g1.1, g2.1, g1.2, g2.2, by rw [p1, p2], hnv⟩
  · refine (ends_bad fx aw s t _ w (Lib.hid hC) (by simpa using h) (by simpa using h)).mono ?_
    rintro e w' ⟨rfl, hb⟩
    exact ⟨Or.inl ⟨_, h, rfl, by rw [if_pos h], fun q => absurd q h⟩, hb⟩
end
end Net
end Go.Proofs.YtmkglhoahdlogaaGreatDoor
namespace Go.Proofs.YtmkglhoahdlogaaGreatDoor
open Go.RowKit
namespace Net
open Kit Chart Short Route Lnk Plane
theorem best_ex {G : Gr} {B : Int} {a b : Nat} {cl : Nat → Bool} {bar : Int} (hG : G.Ok B) (ha : a < G.N) {z : List Nat} (h : Is G a b cl bar z) : ∃ z n, Best G a b cl bar z n := by
  have key : ∀ k z, Is G a b cl bar z → (len G.d a z).toNat ≤ k → ∃ z n, Best G a b cl bar z n := by
    intro k
    induction k with
    | zero =>
      intro z hz hk
      refine ⟨z, _, hz, rfl, fun m hm => ?_⟩
      have h1 := len_nn hG z a ha hz.chn
      have h2 := len_nn hG m a ha hm.chn
      omega
    | succ k ih =>
      intro z hz hk
      by_cases q : ∃ m, Is G a b cl bar m ∧ len G.d a m < len G.d a z
      · obtain ⟨m, h1, h2⟩ := q
        have h3 := len_nn hG m a ha h1.chn
        exact ih m h1 (by omega)
      · refine ⟨z, _, hz, rfl, fun m hm => ?_⟩
        rcases Int.lt_or_le (len G.d a m) (len G.d a z) with g | g
        · exact absurd ⟨m, hm, g⟩ q
        · exact g
  exact key _ z h (Nat.le_refl _)
section
variable {n : Nat} {N : Nat → ByteArray} {X Y : Nat → Int} {m : Nat} {M : Nat → ByteArray} {l : Nat → Nat} {S : Nat → Nat → ByteArray}
/-- The error at names that are no fixes, or at a chart that is none. -/
def bad (n : Nat) (N : Nat → ByteArray) (X Y : Nat → Int) (m : Nat) (M : Nat → ByteArray) (l : Nat → Nat) (S : Nat → Nat → ByteArray) (s t : ByteArray) : Int := if cerr n N X Y m M l S ≠ 0 then cerr n N X Y m M l S else if fix N s n < 0 ∨ fix N t n < 0 then 6 else 0
theorem fix_gs (s : ByteArray) : fix (gS n N) s n < 0 ↔ fix N s n < 0 := by
  constructor
  · intro h
    rcases Int.lt_or_le (fix N s n) 0 with q | q
    · exact q
    · obtain ⟨j, hj, e⟩ := fix_has q
      obtain ⟨k, hk, e2⟩ := gS_has (N := N) hj
      have := has_fix (T := gS n N) ⟨k, hk, e2.trans e⟩
      omega
  · intro h
    rcases Int.lt_or_le (fix (gS n N) s n) 0 with q | q
    · exact q
    · obtain ⟨k, hk, e⟩ := fix_has q
      obtain ⟨j, hj, e2⟩ := gS_mem (N := N) hk
      have := has_fix (T := N) ⟨j, hj, e2.symm.trans e⟩
      omega
/-- Both are fixes of a chart. -/
structure Both (n : Nat) (N : Nat → ByteArray) (X Y : Nat → Int) (m : Nat) (M : Nat → ByteArray) (l : Nat → Nat) (S : Nat → Nat → ByteArray) (s t : ByteArray) (a b : Nat) : Prop where
  chart : cerr n N X Y m M l S = 0
  la : a < n
  lb : b < n
  ea : gS n N a = s
  eb : gS n N b = t
theorem both_of {s t : ByteArray} (h : bad n N X Y m M l S s t = 0) : ∃ a b, Both n N X Y m M l S s t a b := by
  unfold bad at h
  split at h
  · rename_i q; exact absurd h q
  · rename_i q
    split at h
    · exact absurd h (by decide)
    · rename_i g
      have q := Classical.not_not.1 q
      have f1 : ¬ fix (gS n N) s n < 0 := fun e => g (Or.inl ((fix_gs s).1 e))
      have f2 : ¬ fix (gS n N) t n < 0 := fun e => g (Or.inr ((fix_gs t).1 e))
      have g1 := pos_of (fix_has (T := gS n N) (t := s) (n := n) (by omega))
      have g2 := pos_of (fix_has (T := gS n N) (t := t) (n := n) (by omega))
      exact ⟨_, _, q, g1.1, g2.1, g1.2, g2.2⟩
theorem Both.same {s t : ByteArray} {a b a' b' : Nat} (h : Both n N X Y m M l S s t a b) (h' : Both n N X Y m M l S s t a' b') : a = a' ∧ b = b' :=
  ⟨srt_inj (gS_srt (once h.chart)) h.la h'.la (h.ea.trans h'.ea.symm), srt_inj (gS_srt (once h.chart)) h.lb h'.lb (h.eb.trans h'.eb.symm)⟩
theorem ends_cases {c : Value} {w : World} (hv : CV w c n N X Y m M l S) (s t : ByteArray) :
    (bad n N X Y m M l S s t ≠ 0 ∧ ∀ w1, Below w.heap.size w w1 → EnC c s t w1 fun e _ => e = .returned (.tuple #[net0, .int .i64 0, .int .i64 0, .int .i64 (bad n N X Y m M l S s t)])) ∨
    (bad n N X Y m M l S s t = 0 ∧ ∃ a b, Both n N X Y m M l S s t a b ∧ ∀ w1, Below w.heap.size w w1 → EnC c s t w1 fun e w' => ∃ v, e = .returned (.tuple #[v, .int .i64 (a : Nat), .int .i64 (b : Nat), .int .i64 0]) ∧ NV w' v (gr n N X Y m l S) (gS n N)) := by
  by_cases h : bad n N X Y m M l S s t = 0
  · obtain ⟨a, b, hB⟩ := both_of h
    refine Or.inr ⟨h, a, b, hB, fun w1 hb => (endsC (cv_keep hb hv) s t).mono ?_⟩
    rintro e w' ⟨hr, hb⟩
    refine ⟨?_, hb⟩
    rcases hr with ⟨E, -, -, -, hf⟩ | ⟨-, v, a', b', h1, h2, h3, h4, rfl, hnv⟩
    · have f1 := has_fix (T := gS n N) ⟨a, hB.la, hB.ea⟩
      have f2 := has_fix (T := gS n N) ⟨b, hB.lb, hB.eb⟩
      have := hf hB.chart
      omega
    · obtain ⟨rfl, rfl⟩ := hB.same ⟨hB.chart, h1, h2, h3, h4⟩
      exact ⟨v, rfl, hnv⟩
  · refine Or.inl ⟨h, fun w1 hb => (endsC (cv_keep hb hv) s t).mono ?_⟩
    rintro e w' ⟨hr, hb⟩
    refine ⟨?_, hb⟩
    rcases hr with ⟨E, -, rfl, hE, hf⟩ | ⟨h0, v, a', b', h1, h2, h3, h4, -, -⟩
    · have e : E = bad n N X Y m M l S s t := by
        rw [hE]
        unfold bad
        split
        · rfl
        · rename_i q
          rw [if_pos]
          rcases hf (Classical.not_not.1 q) with g | g
          · exact Or.inl ((fix_gs s).1 g)
          · exact Or.inr ((fix_gs t).1 g)
      rw [← e]
    · exfalso
      apply h
      unfold bad
      rw [if_neg (fun q => q h0), if_neg]
      rintro (g | g)
      · have f1 := has_fix (T := gS n N) ⟨a', h1, h3⟩
        have := (fix_gs s).2 g
        omega
      · have f1 := has_fix (T := gS n N) ⟨b', h2, h4⟩
        have := (fix_gs t).2 g
        omega
theorem pathC {c : Value} {w : World} (hv : CV w c n N X Y m M l S) (s t : ByteArray) :
    (bad n N X Y m M l S s t ≠ 0 ∧ ∀ w1, Below w.heap.size w w1 → PaC c s t w1 fun e _ => e = .returned (.tuple #[.slice none 0 0, .int .i64 0, .int .i64 (bad n N X Y m M l S s t)])) ∨
    (bad n N X Y m M l S s t = 0 ∧ ∃ a b, Both n N X Y m M l S s t a b ∧
      ((∃ z k, Best (gr n N X Y m l S) a b noc (-1) z k ∧ ∀ w1, Below w.heap.size w w1 → PaC c s t w1 fun e w' => ∃ u z k, e = .returned (.tuple #[u, .int .i64 k, .int .i64 0]) ∧ SL w' u (nms (gS n N) (fun i => (a :: z).getD i 0) (z.length + 1)) ∧ BestO (gr n N X Y m l S) a b noc (-1) z k) ∨
       ((∀ z, ¬ Is (gr n N X Y m l S) a b noc (-1) z) ∧ ∀ w1, Below w.heap.size w w1 → PaC c s t w1 fun e _ => e = .returned (.tuple #[.slice none 0 0, .int .i64 0, .int .i64 8])))) := by
  have hv0 := hv
  obtain ⟨fx, aw, rfl, h1, h2⟩ := hv.ex
  rcases ends_cases hv s t with ⟨h, hE⟩ | ⟨h, a, b, hB, hE⟩
  · refine Or.inl ⟨h, fun w1 hb => path_bad fx aw s t _ w1 (by simpa using h) (by simpa using h) (Lib.hid fun w2 hb2 => hE w2 (b_next hb hb2))⟩
  · refine Or.inr ⟨h, a, b, hB, ?_⟩
    have P := fun w1 (hb : Below w.heap.size w w1) => path_w fx aw s t a b (gr n N X Y m l S) (gS n N) w1 (gr_ok hB.chart) hB.la hB.lb (Lib.hid fun w2 hb2 => hE w2 (b_next hb hb2))
    by_cases hI : ∀ z, ¬ Is (gr n N X Y m l S) a b noc (-1) z
    · refine Or.inr ⟨hI, fun w1 hb => (P w1 hb).mono ?_⟩
      rintro e w' ⟨hr, hb⟩
      refine ⟨?_, hb⟩
      rcases hr with ⟨u, z, k, -, -, hb⟩ | ⟨-, rfl⟩
      · exact absurd hb.is (hI z)
      · rfl
    · obtain ⟨z, k, hbe⟩ : ∃ z k, Best (gr n N X Y m l S) a b noc (-1) z k := by
        apply Classical.byContradiction
        intro hno
        apply hI
        intro z hz
        obtain ⟨z', h1⟩ := best_ex (gr_ok hB.chart) hB.la hz
        exact hno ⟨z', h1⟩
      refine Or.inl ⟨z, k, hbe, fun w1 hb => (P w1 hb).mono ?_⟩
      rintro e w' ⟨hr, hb⟩
      refine ⟨?_, hb⟩
      rcases hr with h | ⟨h, -⟩
      · exact h
      · exact absurd h hI
end
end Net
end Go.Proofs.YtmkglhoahdlogaaGreatDoor
