/- The sample's graph: a line of four fixes; its ways. shortest.Second and shortest.Way at a chart; the fixed example of chapter 10. -/
import Derived.Test.YtokioemmjfjhkaaNetC
import Derived.Test.YtokioemmjfjhkaaIntC
import Derived.Test.YtokioemmjfjhkaaChW
import Derived.Test.YtokioemmjfjhkaaNetS
namespace Go.Proofs.Ytokioemmjfjhkaa
namespace Net
open Kit Plane Chart Lnk Short
/-- Names that ascend are their own order. -/
theorem gS_same {n : Nat} {N : Nat → ByteArray} (h : Srt N n) : ∀ k, k < n → gS n N k = N k := by
  have inj : ∀ i j, i < n → j < n → N i = N j → i = j := fun i j hi hj e => srt_inj h hi hj e
  have g := gS_srt inj
  intro k
  induction k using Nat.strongRecOn with
  | ind k ih =>
    intro hk
    obtain ⟨j, hj, e⟩ := gS_mem (N := N) hk
    rcases Nat.lt_trichotomy j k with q | q | q
    · have e2 := ih j q hj
      have := srt_inj g hk hj (e.trans e2.symm)
      omega
    · rw [e, q]
    · exfalso
      obtain ⟨i, hi, e2⟩ := gS_has (N := N) hk
      rcases Nat.lt_trichotomy i k with r | r | r
      · have := inj _ _ hi hk ((ih i r hi).symm.trans e2)
        omega
      · subst r
        have := inj _ _ hj hk (e.symm.trans e2)
        omega
      · have h1 := g k i r hi
        have h2 := h k j q hj
        rw [e, e2] at h1
        rw [bl_asym h1] at h2
        cases h2
theorem sm_srt : Srt smN 4 := by
  intro i j hij hj
  have h : ∀ j, j < 4 → ∀ i, i < j → Op.bytesLess (smN i).toList (smN j).toList = true := by decide +kernel
  exact h j hj i hij
theorem sm_inj {i j : Nat} (hi : i < 4) (hj : j < 4) (e : smN i = smN j) : i = j := srt_inj sm_srt hi hj e
abbrev smG : Gr := gr 4 smN smX smY 1 smL smS
theorem sm_gok : smG.Ok 10000000 := gr_ok sm_ok
theorem sm_adj {a b : Nat} (ha : a < 4) (h : smG.adj a b) : b < 4 ∧ (b = a + 1 ∨ a = b + 1) := by
  obtain ⟨hb, hm⟩ := (gr_adj sm_ok).1 h
  rw [gS_same sm_srt a ha, gS_same sm_srt b hb, links_mem sm_ok] at hm
  obtain ⟨c, -, i, hi, hs⟩ := hm
  have hi4 : i + 1 < 4 := hi
  refine ⟨hb, ?_⟩
  rcases hs with ⟨e1, e2⟩ | ⟨e1, e2⟩
  · have h1 : i = a := sm_inj (by omega) ha e1
    have h2 : i + 1 = b := sm_inj hi4 hb e2
    omega
  · have h1 : i = b := sm_inj (by omega) hb e1
    have h2 : i + 1 = a := sm_inj hi4 ha e2
    omega
theorem sm_up {a : Nat} (h : a + 1 < 4) : smG.adj a (a + 1) := by
  refine (gr_adj sm_ok).2 ⟨h, ?_⟩
  rw [gS_same sm_srt a (by omega), gS_same sm_srt (a + 1) h, links_mem sm_ok]
  exact ⟨0, by decide, a, h, Or.inl ⟨rfl, rfl⟩⟩
theorem sm_down {a : Nat} (h : a + 1 < 4) : smG.adj (a + 1) a := sm_gok.sym a (show a < 4 by omega) (a + 1) (sm_up h)
theorem way_up {q : List Nat} (hc : chn smG 0 q) (hf : fin 0 q = 3) (hn : (0 :: q).Nodup) : q = [1, 2, 3] := by
  match q, hc, hf, hn with
  | [], _, hf, _ => exact absurd hf (by decide)
  | x :: q1, hc, hf, hn =>
    have h1 := sm_adj (by decide) hc.1
    obtain rfl : x = 1 := by omega
    match q1, hc.2, hf, hn with
    | [], _, hf, _ => exact absurd hf (by decide)
    | y :: q2, hc, hf, hn =>
      have h2 := sm_adj (by decide) hc.1
      have n0 : y ≠ 0 := fun e => by subst e; simp at hn
      obtain rfl : y = 2 := by omega
      match q2, hc.2, hf, hn with
      | [], _, hf, _ => exact absurd hf (by decide)
      | u :: q3, hc, hf, hn =>
        have h3 := sm_adj (by decide) hc.1
        have n1 : u ≠ 1 := fun e => by subst e; simp at hn
        obtain rfl : u = 3 := by omega
        match q3, hc.2, hn with
        | [], _, _ => rfl
        | v :: q4, hc, hn =>
          have h4 := sm_adj (by decide) hc.1
          have n2 : v ≠ 2 := fun e => by subst e; simp at hn
          omega
theorem way_down {q : List Nat} (hc : chn smG 3 q) (hf : fin 3 q = 0) (hn : (3 :: q).Nodup) : q = [2, 1, 0] := by
  match q, hc, hf, hn with
  | [], _, hf, _ => exact absurd hf (by decide)
  | x :: q1, hc, hf, hn =>
    have h1 := sm_adj (by decide) hc.1
    obtain rfl : x = 2 := by omega
    match q1, hc.2, hf, hn with
    | [], _, hf, _ => exact absurd hf (by decide)
    | y :: q2, hc, hf, hn =>
      have h2 := sm_adj (by decide) hc.1
      have n0 : y ≠ 3 := fun e => by subst e; simp at hn
      obtain rfl : y = 1 := by omega
      match q2, hc.2, hf, hn with
      | [], _, hf, _ => exact absurd hf (by decide)
      | u :: q3, hc, hf, hn =>
        have h3 := sm_adj (by decide) hc.1
        have n1 : u ≠ 2 := fun e => by subst e; simp at hn
        obtain rfl : u = 0 := by omega
        match q3, hc.2, hn with
        | [], _, _ => rfl
        | v :: q4, hc, hn =>
          have h4 := sm_adj (by decide) hc.1
          have n2 : v ≠ 1 := fun e => by subst e; simp at hn
          omega
theorem sm_way : Is smG 3 0 noc (-1) [2, 1, 0] :=
  is_noc ⟨sm_down (a := 2) (by decide), sm_down (a := 1) (by decide), sm_down (a := 0) (by decide), True.intro⟩ rfl (by decide)
theorem sm_way2 : Is smG 0 3 noc (-1) [1, 2, 3] :=
  is_noc ⟨sm_up (a := 0) (by decide), sm_up (a := 1) (by decide), sm_up (a := 2) (by decide), True.intro⟩ rfl (by decide)
theorem sm_d (a b : Nat) (ha : a < 4) (hb : b < 4) : smG.d a b = dup (sqr (smX a) (smY a) (smX b) (smY b)) := by
  show dst 4 smN smX smY (gS 4 smN a) (gS 4 smN b) = _
  rw [gS_same sm_srt a ha, gS_same sm_srt b hb]
  unfold dst
  rw [pos_at sm_srt ha, pos_at sm_srt hb]
theorem sm_long : len smG.d 3 [2, 1, 0] = 11000 := by
  show smG.d 3 2 + (smG.d 2 1 + (smG.d 1 0 + 0)) = 11000
  rw [sm_d 3 2 (by decide) (by decide), sm_d 2 1 (by decide) (by decide), sm_d 1 0 (by decide) (by decide)]
  have r1 : root (sqr (smX 3) (smY 3) (smX 2) (smY 2)) = 1000 := root_unique (by decide) (by decide) (by decide)
  have r2 : root (sqr (smX 2) (smY 2) (smX 1) (smY 1)) = 5000 := root_unique (by decide) (by decide) (by decide)
  have r3 : root (sqr (smX 1) (smY 1) (smX 0) (smY 0)) = 5000 := root_unique (by decide) (by decide) (by decide)
  unfold dup
  rw [r1, r2, r3]
  decide
end Net
end Go.Proofs.Ytokioemmjfjhkaa
namespace Go.Proofs.Ytokioemmjfjhkaa
open Go.RowKit
namespace Net
open Kit Chart Short Route Lnk Plane
section
variable {n : Nat} {N : Nat → ByteArray} {X Y : Nat → Int} {m : Nat} {M : Nat → ByteArray} {l : Nat → Nat} {S : Nat → Nat → ByteArray}
theorem secondC {c : Value} {w : World} (hv : CV w c n N X Y m M l S) (s t : ByteArray) :
    (bad n N X Y m M l S s t ≠ 0 ∧ ∀ w1, Below w.heap.size w w1 → SeC c s t w1 fun e _ => e = .returned (.tuple #[.slice none 0 0, .int .i64 0, .int .i64 (bad n N X Y m M l S s t)])) ∨
    (bad n N X Y m M l S s t = 0 ∧ ∃ a b, Both n N X Y m M l S s t a b ∧ ∀ w1, Below w.heap.size w w1 → SeC c s t w1 (SecR (gr n N X Y m l S) (gS n N) a b)) := by
  have hv0 := hv
  obtain ⟨fx, aw, rfl, h1, h2⟩ := hv.ex
  rcases ends_cases hv s t with ⟨h, hE⟩ | ⟨h, a, b, hB, hE⟩
  · exact Or.inl ⟨h, fun w1 hb => second_bad fx aw s t _ w1 (by simpa using h) (by simpa using h) (Lib.hid fun w2 hb2 => hE w2 (b_next hb hb2))⟩
  · exact Or.inr ⟨h, a, b, hB, fun w1 hb => second_w fx aw s t a b (gr n N X Y m l S) (gS n N) w1 (gr_ok hB.chart) hB.la hB.lb (Lib.hid fun w2 hb2 => hE w2 (b_next hb hb2))⟩
theorem nms_at (T : Nat → ByteArray) (g : Nat → Nat) {n k : Nat} (hk : k < n) : (nms T g n).getD k ⟨#[]⟩ = T (g k) := by
  unfold nms
  rw [List.getD_eq_getElem?_getD, List.getElem?_map, List.getElem?_range hk]
  rfl
theorem wayK {c v : Value} {w : World} (hv : CV w c n N X Y m M l S) (h : cerr n N X Y m M l S = 0) {a : Nat} {z : List Nat} (ha : a < n) (hc : chn (gr n N X Y m l S) a z) (hn : (a :: z).Nodup) (hs : SL w v (nms (gS n N) (fun i => (a :: z).getD i 0) (z.length + 1))) :
    Calls Try.prog 23 #[c, v] w fun e w' => e = .returned (.tuple #[.bool true, .int .i64 0]) ∧ Below w.heap.size w w' := by
  have hC : CcC c (cerr n N X Y m M l S) w := fun w1 hb => checkC (cv_keep hb hv)
  rw [h] at hC
  have hv0 := hv
  obtain ⟨fx, aw, rfl, h1, h2⟩ := hv.ex
  have hz := nodup_le (gr_ok h) ha hc hn
  have h64 := (cerr_ok h).1
  have hz : z.length + 1 ≤ n := hz
  unfold SL at hs
  rw [nms_len] at hs
  obtain ⟨A, cr, rfl⟩ := sv_slice hs
  have mem : ∀ k, k ≤ z.length → at' a z k < n := fun k hk => by
    rcases List.mem_cons.1 (at_mem (a := a) hk) with e | e
    · rw [e]; exact ha
    · exact chn_lt (gr_ok h) z a ha hc _ e
  have nm : ∀ k, k < z.length + 1 → (nms (gS n N) (fun i => (a :: z).getD i 0) (z.length + 1)).getD k ⟨#[]⟩ = gS n N (at' a z k) := fun k hk => nms_at _ _ hk
  have sr := gS_srt (once h)
  refine wayg_w fx aw A (z.length + 1) cr _ (at' a z) (gr n N X Y m l S) (gS n N) w (gr_ok h) (Nat.succ_pos _) (by omega) (Lib.hid hC) (Lib.hid fun w1 hb => ofC (cv_keep hb hv0) h) (Lib.hid hs) (Lib.hid fun k hk => mem k (by omega)) (Lib.hid fun j k hj hk e => ?_) (Lib.hid fun k hk => adj_at hc (by omega)) (Lib.hid fun k hk w1 u hu => ?_)
  · rw [nm j (by omega), nm k hk] at e
    have e2 := srt_inj sr (mem j (by omega)) (mem k (by omega)) e
    have := at_inj hn (by omega) (by omega) e2
    omega
  · rw [nm k hk]
    refine (find_fix hu sr (by show n ≤ _; omega) _).mono ?_
    rintro e w' ⟨rfl, hb⟩
    refine ⟨?_, hb⟩
    have f := has_fix (T := gS n N) ⟨at' a z k, mem k (by omega), rfl⟩
    have p := pos_at sr (mem k (by omega))
    have e : fix (gS n N) (gS n N (at' a z k)) n = ((at' a z k : Nat) : Int) := by unfold pos at p; omega
    show Ending.returned (.int .i64 (fix (gS n N) (gS n N (at' a z k)) n)) = _
    rw [e]
end
/-- The sample's way back. -/
def smR (k : Nat) : ByteArray := if k = 0 then ⟨#[68]⟩ else if k = 1 then ⟨#[67]⟩ else if k = 2 then ⟨#[66]⟩ else ⟨#[65]⟩
theorem sm_both {s t : ByteArray} {a b a' b' : Nat} (h : Both 4 smN smX smY 1 smM smL smS s t a b) (ha : a' < 4) (hb : b' < 4) (es : smN a' = s) (et : smN b' = t) : a = a' ∧ b = b' := by
  have e1 := (gS_same sm_srt a h.la).symm.trans h.ea
  have e2 := (gS_same sm_srt b h.lb).symm.trans h.eb
  exact ⟨sm_inj h.la ha (e1.trans es.symm), sm_inj h.lb hb (e2.trans et.symm)⟩
theorem sm_path {c : Value} {w : World} (hv : CV w c 4 smN smX smY 1 smM smL smS) : PaC c ⟨#[68]⟩ ⟨#[65]⟩ w fun e w' => ∃ u, e = .returned (.tuple #[u, .int .i64 11000, .int .i64 0]) ∧ SV w' u 4 smR := by
  rcases pathC hv ⟨#[68]⟩ ⟨#[65]⟩ with ⟨h, -⟩ | ⟨-, a, b, hB, h⟩
  · exact absurd (by decide +kernel) h
  · obtain ⟨rfl, rfl⟩ := sm_both (a' := 3) (b' := 0) hB (by decide) (by decide) rfl rfl
    rcases h with ⟨-, -, -, h⟩ | ⟨h, -⟩
    · refine (h w (Below.refl _ _)).mono ?_
      rintro e w' ⟨⟨u, z, k, rfl, hs, hbe⟩, hb⟩
      refine ⟨?_, hb⟩
      obtain rfl := way_down hbe.is.chn hbe.is.fin hbe.is.nodup
      have e : k = 11000 := hbe.len.symm.trans sm_long
      subst e
      refine ⟨u, rfl, ?_⟩
      unfold SL at hs
      rw [nms_len] at hs
      have e4 : ∀ k, k < 4 → (nms (gS 4 smN) (fun i => [3, 2, 1, 0].getD i 0) 4).getD k ⟨#[]⟩ = smR k := fun k hk => by
        rw [nms_at _ _ hk]
        match k, hk with
        | 0, _ => exact gS_same sm_srt 3 (by decide)
        | 1, _ => exact gS_same sm_srt 2 (by decide)
        | 2, _ => exact gS_same sm_srt 1 (by decide)
        | 3, _ => exact gS_same sm_srt 0 (by decide)
      rcases hs with ⟨h0, -⟩ | ⟨h0, b, off, cap, hv, q1, q2, q3⟩
      · exact absurd h0 (by decide)
      · exact Or.inr ⟨h0, b, off, cap, hv, q1, q2, fun k hk => by rw [q3 k hk]; exact congrArg (fun x => some (Value.string x)) (e4 k hk)⟩
    · exact absurd sm_way (h _)
theorem sm_second {c : Value} {w : World} (hv : CV w c 4 smN smX smY 1 smM smL smS) : SeC c ⟨#[65]⟩ ⟨#[68]⟩ w fun e _ => e = .returned (.tuple #[.slice none 0 0, .int .i64 0, .int .i64 8]) := by
  rcases secondC hv ⟨#[65]⟩ ⟨#[68]⟩ with ⟨h, -⟩ | ⟨-, a, b, hB, h⟩
  · exact absurd (by decide +kernel) h
  · obtain ⟨rfl, rfl⟩ := sm_both (a' := 0) (b' := 3) hB (by decide) (by decide) rfl rfl
    refine (h w (Below.refl _ _)).mono ?_
    rintro e w' ⟨hr, hb⟩
    refine ⟨?_, hb⟩
    rcases hr with ⟨u, k, q, z, kz, -, -, hbe, halt⟩ | hr
    · have e1 := way_up hbe.is.chn hbe.is.fin hbe.is.nodup
      have e2 := way_up halt.chn halt.fin halt.nodup
      exact absurd (e2.trans e1.symm) halt.other
    · exact hr
theorem r4_sv (w : World) (t : TypeId) : SV (w.alloc (.cells #[.string ⟨#[68]⟩, .string ⟨#[67]⟩, .string ⟨#[66]⟩, .string ⟨#[65]⟩] t)) (.slice (some ⟨w.heap.size, 0, none⟩) 4 4) 4 smR := by
  refine Or.inr ⟨by omega, w.heap.size, 0, 4, rfl, Nat.le_refl _, by decide, fun k hk => ?_⟩
  rcases (show k = 0 ∨ k = 1 ∨ k = 2 ∨ k = 3 from by omega) with rfl | rfl | rfl | rfl <;> simp [smR]
set_option maxRecDepth 100000 in
set_option maxHeartbeats 4000000 in
theorem works (w : World) : Calls Try.prog 18 #[] w fun e w' => e = .returned (.bool true) ∧ Below w.heap.size w w' := by
  go_enter Try.func18, Try.ntmps18
  go_wp2_with fail
  (with_reducible refine (sampleC _).mono ?_); rintro e w1 ⟨⟨c1, rfl, hc1⟩, hb⟩
  have W1 := Lib.hid hb; have P1 := Lib.hid (sm_path hc1); clear hb hc1
  go_wp2_with fail
  (with_reducible refine P1.out.mono ?_); rintro e w2 ⟨⟨u, rfl, hs⟩, hb⟩
  have W2 := Lib.hid (b_next W1.out hb); have V2 := Lib.hid hs; clear hb hs
  go_wp2_with fail
  (with_reducible refine (sampleC _).mono ?_); rintro e w3 ⟨⟨c2, rfl, hc2⟩, hb⟩
  have W3 := Lib.hid (b_next W2.out hb); have V3 := Lib.hid (sv_keep hb V2.out); have P3 := Lib.hid (sm_second hc2); clear hb hc2
  go_wp2_with fail
  (with_reducible refine P3.out.mono ?_); rintro e w4 ⟨rfl, hb⟩
  have W4 := Lib.hid (b_next W3.out hb); have V4 := Lib.hid (sv_keep hb V3.out); clear hb
  have hal := b_alloc (Below.refl w4.heap.size w4) (.cells #[.string ⟨#[68]⟩, .string ⟨#[67]⟩, .string ⟨#[66]⟩, .string ⟨#[65]⟩] 9)
  have s5 := sameC (sv_keep hal V4.out) (r4_sv w4 9)
  rw [show sameB 4 smR 4 smR = true from by decide +kernel] at s5
  have S5 := Lib.hid s5; have W5 := Lib.hid (b_next W4.out hal); clear hal s5
  go_wp2_with fail
  (with_reducible refine S5.out.mono ?_); rintro e w6 ⟨rfl, hb⟩
  have W6 := Lib.hid (b_next W5.out hb); clear hb
  go_wp2_with fail
  all_goals (go_ret; exact ⟨by first | rfl | exact retb rfl, W6.out⟩)
end Net
end Go.Proofs.Ytokioemmjfjhkaa
