/- strconv's ftoa64 at format 'f' with 1100 digits. -/
import Derived.Test.YtoafljgcmloilaaDoorFtoS
import Derived.Test.YtoafljgcmloilaaDoorDecA
import Derived.Test.YtoafljgcmloilaaDoorFmt
import Derived.Test.YtoafljgcmloilaaDoorFbit
import Derived.Laws.BitsLemmas
import Derived.Deep.RegionHeld3
namespace Go.Proofs.YtoafljgcmloilaaDoor
open Go.RowKit
namespace Dec
open Kit
theorem zc_dig : (List.range 800).all (fun k => match Tryd.zeroCells88[k]? with | some (.int .u8 0) => true | _ => false) = true := by kernel_rfl
theorem zc_n : Tryd.zeroCells88[800]? = some (.int .i64 0) := by kernel_rfl
theorem zc_p : Tryd.zeroCells88[801]? = some (.int .i64 0) := by kernel_rfl
theorem heap_new (w : World) (o : Obj) : (w.alloc o).heap[w.heap.size]? = some o := by
  show (w.heap.push o)[w.heap.size]? = some o
  exact Array.getElem?_push_size
theorem dv_new (w : World) : DV (w.alloc (.cells Tryd.zeroCells88 88)) w.heap.size (fun _ => 0) 0 0 := by
  have hb := heap_new w (.cells Tryd.zeroCells88 88)
  refine ⟨fun k hk => ?_, ?_, ?_, fun k => by simp only [World.frozen?, hb]; simp⟩
  · have q := List.all_eq_true.1 zc_dig k (List.mem_range.2 hk)
    simp only [World.cell?, hb]
    revert q
    split
    · rename_i e; intro _; exact e
    · intro q; cases q
  · simp only [World.cell?, hb]; exact zc_n
  · simp only [World.cell?, hb]; exact zc_p
theorem own_keepb {W w1 : World} {base b : Nat} {E : TypeId} {C n : Nat} {v : Value} {xs : List Value} (h : W.ownsRow base E C v n xs) (ho : ∀ z, v.ownBlock = some z → z < b) (hb : Below b W w1) (_hz : b < W.heap.size) : w1.ownsRow base E C v n xs := by
  refine ⟨h.1, ?_⟩
  rcases h.2 with hh | ⟨g, cap, cur, hv, h1, hg, h2⟩
  · exact Or.inl hh
  · exact Or.inr ⟨g, cap, cur, hv, h1, (hb.block g (ho g (by rw [hv]; rfl))).trans hg, h2⟩
/-- The text of v / 2^k. -/
def FtL (v k : Nat) (L : List Nat) : Prop := ∃ N r W, Nd v N ∧ Sh k (dgd v N N) (trimN (dgd v N N) N) r W ∧ (N ≤ 20 ∧ r ≤ 20 ∧ W ≤ 81) ∧ L = fmtL (quo k (dgd v N N) (trimN (dgd v N N) N) r W) (trimN (quo k (dgd v N N) (trimN (dgd v N N) N) r W) W) (pnt (trimN (quo k (dgd v N N) (trimN (dgd v N N) N) r W) W) (pnt (trimN (dgd v N N) N) (N : Nat) - ((r : Int) - 1)))
theorem FtL.same {v k : Nat} {L L' : List Nat} (h : FtL v k L) (h' : FtL v k L') : L = L' := by
  obtain ⟨N, r, W, h1, h2, -, rfl⟩ := h
  obtain ⟨N', r', W', g1, g2, -, rfl⟩ := h'
  obtain rfl := h1.same g1
  obtain ⟨rfl, rfl⟩ := h2.same g2
  rfl
theorem quo_pos {k n r W : Nat} {d : Nat → Nat} (h : Sh k d n r W) : 1 ≤ trimN (quo k d n r W) W := by
  have h0 : rem k d n r 0 ≠ 0 := by
    have := h.top; have := Nat.two_pow_pos k
    show pre d n r ≠ 0
    omega
  have hW : 1 ≤ W := by
    rcases Nat.eq_zero_or_pos W with e | e
    · subst e; exact absurd h.zero h0
    · exact e
  refine trimN_pos ?_ W hW
  have := Nat.div_pos (show 2 ^ k ≤ rem k d n r 0 from h.top) (Nat.two_pow_pos k)
  unfold quo
  rw [if_pos (by omega)]
  omega
theorem and11 {E : Nat} (h : E < 2048) : bits .and .i64 ((E : Nat) : Int) 2047 = (E : Int) := by
  have q := bits_mask .i64 63 (by decide) (fun n h0 h1 => by rw [IntKind.wrap_i64]; omega) 11 (by decide) ((E : Nat) : Int) (by omega) (by omega)
  have e : ((2 : Int) ^ 11 - 1) = 2047 := by decide
  have e2 : ((2 : Int) ^ 11) = 2048 := by decide
  rw [e, e2] at q
  rw [q]; omega
theorem and52 {B M : Nat} (hB : B < 18446744073709551616) (h : B % 4503599627370496 = M) : bits .and .u64 ((B : Nat) : Int) 4503599627370495 = (M : Int) := by
  have q := bits_and_u64_nat B 4503599627370495 hB (by decide)
  have e : (4503599627370495 : Nat) = 2 ^ 52 - 1 := by decide
  rw [e, Nat.and_two_pow_sub_one_eq_mod, ← e] at q
  rw [show (((4503599627370495 : Nat) : Int)) = 4503599627370495 from rfl] at q
  rw [q, show (2 : Nat) ^ 52 = 4503599627370496 by decide, h]
theorem or52 {M : Nat} (h : M < 4503599627370496) : bits .or .u64 ((M : Nat) : Int) 4503599627370496 = ((4503599627370496 + M : Nat) : Int) := by
  have q := bits_or_u64_nat M 4503599627370496 (by omega) (by decide)
  have e : (4503599627370496 : Nat) = 2 ^ 52 := by decide
  have o : M ||| 4503599627370496 = 4503599627370496 + M := by
    rw [Nat.or_comm]
    have := Nat.two_pow_add_eq_or_of_lt (i := 52) (b := M) (by rw [← e]; exact h) 1
    rw [Nat.mul_one, ← e] at this
    exact this.symm
  rw [o] at q
  exact q
set_option maxRecDepth 100000 in
set_option maxHeartbeats 8000000 in
theorem ft_w (B N E M : Nat) (w : World) (v : Value) (hB : B = E * 4503599627370496 + M) (hM : M < 4503599627370496) (hE1 : 1015 ≤ E) (hE2 : E ≤ 1074) (ho : w.cell? ⟨2, 0, none⟩ = some (.bool true)) (hN : N ≤ w.heap.size) (hv : w.ownsRow N 5 1 v 0 []) :
    Calls Tryd.prog 40 #[v, .float .f64 B, .int .u8 102, .int .i64 1100] w fun e w' => (∃ v' L, e = .returned v' ∧ FtL (4503599627370496 + M) (1075 - E) L ∧ w'.ownsRow N 5 1 v' L.length (bys L)) ∧ Below N w w' := by
  have h63 : (B : Int) / 9223372036854775808 = 0 := by omega
  have h52 : (B : Int) / 4503599627370496 = (E : Int) := by omega
  have hand : bits .and .i64 ((E : Nat) : Int) 2047 = (E : Int) := and11 (by omega)
  have hand2 : bits .and .u64 ((B : Nat) : Int) 4503599627370495 = (M : Int) := and52 (by omega) (by omega)
  have hor : bits .or .u64 ((M : Nat) : Int) 4503599627370496 = ((4503599627370496 + M : Nat) : Int) := or52 hM
  have sb := s_bits B
  have hdr : bits .and .i64 (IntKind.i64.wrap (E : Int)) (IntKind.i64.wrap (IntKind.i64.wrap 2048 - 1)) = (E : Int) := by rw [show IntKind.i64.wrap 2048 = 2048 by decide, show IntKind.i64.wrap (2048 - 1) = 2047 by decide, IntWalk.i64_in _ (by omega)]; exact hand
  have he1 : ((E : Int) == 2047) = false := by simp; omega
  have he0 : ((E : Int) == 0) = false := by simp; omega
  clear hB hand
  go_enter Tryd.func40, Tryd.ntmps40
  go_wp2_with fail
  refine d_region (by kernel_rfl) (by kernel_rfl) ?_
  repeat
    first
      | (refine d_plain (by with_reducible rfl) ?_; apply Exists.intro; refine ⟨fun wq hc hq => ?_, ?_⟩)
      | (refine d_on (by with_reducible rfl) (by rfl) (by with_reducible rfl) ?_; apply Exists.intro; refine ⟨fun wq hc hq => ?_, ?_⟩)
      | (refine d_off (by with_reducible rfl) (by rfl) (by rfl) ?_)
      | (refine d_void (by with_reducible rfl) (by rfl) ?_)
    try any_goals
      (skip; clear hc
       go_simp
       first
         | rfl)
    simp only [Act.put, List.setIfInBounds_toArray, List.set_cons_zero, List.set_cons_succ]
  refine d_nil ?_
  intro w1 hb1
  have BL1 := Lib.hid hb1
  have go1 := keep hb1 ho
  clear hdr ho
  have hE3 : (E : Int) ≤ 1074 := by omega
  have hE4 : (1015 : Int) ≤ E := by omega
  by_cases hc : 1023 ≤ E
  · go_wp2_with fail
    rw [show 1 + ((E : Int) + -1023) = ((E - 1022 : Nat) : Int) by omega]
    (with_reducible refine (lg_w (E - 1022) (by omega) w1).mono ?_); rintro e w2 ⟨rfl, rfl⟩
    have hq0 : 0 ≤ ((E - 1022 : Nat) : Int) * 78913 / 262144 := by omega
    have hq1 : ((E - 1022 : Nat) : Int) * 78913 / 262144 ≤ 2000 := by omega
    generalize ((E - 1022 : Nat) : Int) * 78913 / 262144 = q at *
    go_wp2_with fail
    rw [show 4503599627370496 + (M : Int) = ((4503599627370496 + M : Nat) : Int) by omega]
    have hsw := BL1.out.size
    have DN := Lib.hid (dv_new w1)
    have BA := Lib.hid (b_next BL1.out (b_alloc (Below.refl w1.heap.size w1) (.cells Tryd.zeroCells88 88)))
    have OA := Lib.hid (own_below (b_alloc (Below.refl w1.heap.size w1) (.cells Tryd.zeroCells88 88)) (own_below BL1.out hv))
    have OB : Hid (∀ z, v.ownBlock = some z → z < w1.heap.size) := Lib.hid (own_lt (own_below BL1.out hv))
    obtain ⟨b, hb⟩ : ∃ b, b = w1.heap.size := ⟨_, rfl⟩
    rw [← hb] at DN OB ⊢
    have hbN : N ≤ b := by omega
    have HB := Lib.hid hb
    generalize w1.alloc (.cells Tryd.zeroCells88 88) = w3 at *
    have hb3 := Lib.hid DN.out.lt
    clear hb
    (with_reducible refine (as_w b (4503599627370496 + M) w3 (by omega) (by omega) DN).mono ?_); rintro e w4 ⟨rfl, ⟨ND, hnd, hdv⟩, hb⟩
    have GN := dgs_of (show 4503599627370496 + M < 18446744073709551616 by omega) (by omega) hnd
    have B4 := Lib.hid (BA.out.trans (hb.mono (show w.heap.size ≤ b by have := HB.out; omega)))
    have O4 := Lib.hid (own_keepb (b := b) OA.out (fun z hz => by have := OB.out z hz; omega) hb hb3.out)
    have HND := Lib.hid hnd
    have V4 := Lib.hid hdv
    have hp1 : -1000 ≤ pnt (trimN (dgd (4503599627370496 + M) ND ND) ND) (ND : Nat) ∧ pnt (trimN (dgd (4503599627370496 + M) ND ND) ND) (ND : Nat) ≤ 1000 := by unfold pnt; split <;> omega
    have hp2 : 0 ≤ pnt (trimN (dgd (4503599627370496 + M) ND ND) ND) (ND : Nat) ∧ pnt (trimN (dgd (4503599627370496 + M) ND ND) ND) (ND : Nat) ≤ 20 := by unfold pnt; split <;> omega
    have GD := Lib.hid GN.1
    have g1 := GN.1.pos
    have g2 := GN.1.most
    have g3 := GN.2.2
    clear hnd hdv hb GN DN BA OA
    go_wp2_with fail
    rw [show (E : Int) + -1023 - 52 = -((1075 - E : Nat) : Int) by omega]
    (with_reducible refine (sh_w b (1075 - E) _ _ _ w4 GD g1 g2 (by omega) (by omega) hp1 V4).mono ?_); rintro e w5 ⟨rfl, ⟨r, W, hsh, hr, hW, hdv⟩, hb⟩
    have B5 := Lib.hid (B4.out.trans (hb.mono (show w.heap.size ≤ b by have := HB.out; omega)))
    have O5 := Lib.hid (own_keepb (b := b) O4.out (fun z hz => by have := OB.out z hz; omega) hb V4.out.lt)
    have HL : Hid (FtL (4503599627370496 + M) (1075 - E) (fmtL (quo (1075 - E) (dgd (4503599627370496 + M) ND ND) (trimN (dgd (4503599627370496 + M) ND ND) ND) r W) (trimN (quo (1075 - E) (dgd (4503599627370496 + M) ND ND) (trimN (dgd (4503599627370496 + M) ND ND) ND) r W) W) (pnt (trimN (quo (1075 - E) (dgd (4503599627370496 + M) ND ND) (trimN (dgd (4503599627370496 + M) ND ND) ND) r W) W) (pnt (trimN (dgd (4503599627370496 + M) ND ND) ND) (ND : Nat) - ((r : Int) - 1))))) := Lib.hid ⟨ND, r, W, HND.out, hsh, ⟨g3, hr, hW⟩, rfl⟩
    have V5 := Lib.hid hdv
    have tp := quo_pos hsh
    have tl := trimN_le (quo (1075 - E) (dgd (4503599627370496 + M) ND ND) (trimN (dgd (4503599627370496 + M) ND ND) ND) r W) W
    have pb : -100 ≤ pnt (trimN (quo (1075 - E) (dgd (4503599627370496 + M) ND ND) (trimN (dgd (4503599627370496 + M) ND ND) ND) r W) W) (pnt (trimN (dgd (4503599627370496 + M) ND ND) ND) (ND : Nat) - ((r : Int) - 1)) ∧ pnt (trimN (quo (1075 - E) (dgd (4503599627370496 + M) ND ND) (trimN (dgd (4503599627370496 + M) ND ND) ND) r W) W) (pnt (trimN (dgd (4503599627370496 + M) ND ND) ND) (ND : Nat) - ((r : Int) - 1)) ≤ 100 := by
      generalize pnt (trimN (dgd (4503599627370496 + M) ND ND) ND) (ND : Nat) = p0 at *
      unfold pnt; split <;> omega
    clear hsh hdv hb V4 GD HND hp1 hp2 O4 B4
    generalize pnt (trimN (quo (1075 - E) (dgd (4503599627370496 + M) ND ND) (trimN (dgd (4503599627370496 + M) ND ND) ND) r W) W) (pnt (trimN (dgd (4503599627370496 + M) ND ND) ND) (ND : Nat) - ((r : Int) - 1)) = p at *
    generalize trimN (quo (1075 - E) (dgd (4503599627370496 + M) ND ND) (trimN (dgd (4503599627370496 + M) ND ND) ND) r W) W = n at *
    generalize quo (1075 - E) (dgd (4503599627370496 + M) ND ND) (trimN (dgd (4503599627370496 + M) ND ND) ND) r W = d at *
    obtain ⟨pb1, pb2⟩ := pb
    have a1 := V5.out.cp; have a2 := V5.out.cn
    have RO := Lib.hid (ro_w b d n p (p + 1100) w5 (by omega) (by omega) V5)
    go_wp2_with fail
    (with_reducible refine RO.out.mono ?_); rintro e w6 ⟨rfl, rfl⟩
    clear RO
    go_wp2_with fail
    have FMC : Hid (∀ w', Below w5.heap.size w5 w' → Calls Tryd.prog 53 #[v, .bool false, .slice (some ⟨b, 0, none⟩) 800 800, .int .i64 p, .int .i64 (n : Nat), .int .i64 1100, .int .u8 102, .bool false] w' fun e w'' => (∃ v', e = .returned v' ∧ Row8 w'' N b v' (fmtL d n p) ∧ DV w'' b d n p) ∧ Below N w' w'') := Lib.hid fun w' hb' => fmC b N d n p w' v pb1 pb2 tp (by omega) (Lib.hid ⟨own_below hb' O5.out, fun z hz => by have := OB.out z hz; omega, by simp, by have := V5.out.lt; have := hb'.size; omega, by have := V5.out.lt; have := hb'.size; omega⟩) (Lib.hid (dv_keep hb' V5.out))
    have KP : Hid (∀ w', Below w5.heap.size w5 w' → w'.cell? ⟨b, 800, none⟩ = some (.int .i64 (n : Nat)) ∧ w'.cell? ⟨b, 801, none⟩ = some (.int .i64 p) ∧ Below w5.heap.size w5 w') := Lib.hid fun w' hb => ⟨keep hb a2, keep hb a1, hb⟩
    have LE5 : Hid (N ≤ w5.heap.size) := Lib.hid (by have := V5.out.lt; omega)
    clear OB a1 a2 tp tl
    go_region_held3 (fun w' => w'.cell? ⟨b, 800, none⟩ = some (.int .i64 (n : Nat)) ∧ w'.cell? ⟨b, 801, none⟩ = some (.int .i64 p) ∧ Below N w5 w')
      (first
        | exact ⟨(KP.out _ (b_drew (Below.refl _ _))).1, (KP.out _ (b_drew (Below.refl _ _))).2.1, (KP.out _ (b_drew (Below.refl _ _))).2.2.mono LE5.out⟩
        | exact ⟨hc8, hp8, hb9⟩
        | assumption)
      ((first
        | (go_at_call 53; (with_reducible refine (FMC.out _ (b_drew (Below.refl _ _))).mono ?_); rintro e w9 ⟨⟨v', rfl, hrow, hdv9⟩, hb9'⟩; have hb9 : Below N w5 w9 := ((b_drew (Below.refl w5.heap.size w5)).mono LE5.out).trans hb9'; have hc8 := hdv9.cn; have hp8 := hdv9.cp)))
    go_wp2_with fail
    go_ret
    exact ⟨⟨v', _, rfl, HL.out, hrow.own⟩, B5.out.mono hN |>.trans hb9⟩
  · go_wp2_with fail
    rw [show -((E : Int) + -1023) = ((1023 - E : Nat) : Int) by omega]
    (with_reducible refine (lg_w (1023 - E) (by omega) w1).mono ?_); rintro e w2 ⟨rfl, rfl⟩
    have hq0 : 0 ≤ ((1023 - E : Nat) : Int) * 78913 / 262144 := by omega
    have hq1 : ((1023 - E : Nat) : Int) * 78913 / 262144 ≤ 100 := by omega
    generalize ((1023 - E : Nat) : Int) * 78913 / 262144 = q at *
    go_wp2_with fail
    rw [show 4503599627370496 + (M : Int) = ((4503599627370496 + M : Nat) : Int) by omega]
    have hsw := BL1.out.size
    have DN := Lib.hid (dv_new w1)
    have BA := Lib.hid (b_next BL1.out (b_alloc (Below.refl w1.heap.size w1) (.cells Tryd.zeroCells88 88)))
    have OA := Lib.hid (own_below (b_alloc (Below.refl w1.heap.size w1) (.cells Tryd.zeroCells88 88)) (own_below BL1.out hv))
    have OB : Hid (∀ z, v.ownBlock = some z → z < w1.heap.size) := Lib.hid (own_lt (own_below BL1.out hv))
    obtain ⟨b, hb⟩ : ∃ b, b = w1.heap.size := ⟨_, rfl⟩
    rw [← hb] at DN OB ⊢
    have hbN : N ≤ b := by omega
    have HB := Lib.hid hb
    generalize w1.alloc (.cells Tryd.zeroCells88 88) = w3 at *
    have hb3 := Lib.hid DN.out.lt
    clear hb
    (with_reducible refine (as_w b (4503599627370496 + M) w3 (by omega) (by omega) DN).mono ?_); rintro e w4 ⟨rfl, ⟨ND, hnd, hdv⟩, hb⟩
    have GN := dgs_of (show 4503599627370496 + M < 18446744073709551616 by omega) (by omega) hnd
    have B4 := Lib.hid (BA.out.trans (hb.mono (show w.heap.size ≤ b by have := HB.out; omega)))
    have O4 := Lib.hid (own_keepb (b := b) OA.out (fun z hz => by have := OB.out z hz; omega) hb hb3.out)
    have HND := Lib.hid hnd
    have V4 := Lib.hid hdv
    have hp1 : -1000 ≤ pnt (trimN (dgd (4503599627370496 + M) ND ND) ND) (ND : Nat) ∧ pnt (trimN (dgd (4503599627370496 + M) ND ND) ND) (ND : Nat) ≤ 1000 := by unfold pnt; split <;> omega
    have hp2 : 0 ≤ pnt (trimN (dgd (4503599627370496 + M) ND ND) ND) (ND : Nat) ∧ pnt (trimN (dgd (4503599627370496 + M) ND ND) ND) (ND : Nat) ≤ 20 := by unfold pnt; split <;> omega
    have GD := Lib.hid GN.1
    have g1 := GN.1.pos
    have g2 := GN.1.most
    have g3 := GN.2.2
    clear hnd hdv hb GN DN BA OA
    go_wp2_with fail
    rw [show (E : Int) + -1023 - 52 = -((1075 - E : Nat) : Int) by omega]
    (with_reducible refine (sh_w b (1075 - E) _ _ _ w4 GD g1 g2 (by omega) (by omega) hp1 V4).mono ?_); rintro e w5 ⟨rfl, ⟨r, W, hsh, hr, hW, hdv⟩, hb⟩
    have B5 := Lib.hid (B4.out.trans (hb.mono (show w.heap.size ≤ b by have := HB.out; omega)))
    have O5 := Lib.hid (own_keepb (b := b) O4.out (fun z hz => by have := OB.out z hz; omega) hb V4.out.lt)
    have HL : Hid (FtL (4503599627370496 + M) (1075 - E) (fmtL (quo (1075 - E) (dgd (4503599627370496 + M) ND ND) (trimN (dgd (4503599627370496 + M) ND ND) ND) r W) (trimN (quo (1075 - E) (dgd (4503599627370496 + M) ND ND) (trimN (dgd (4503599627370496 + M) ND ND) ND) r W) W) (pnt (trimN (quo (1075 - E) (dgd (4503599627370496 + M) ND ND) (trimN (dgd (4503599627370496 + M) ND ND) ND) r W) W) (pnt (trimN (dgd (4503599627370496 + M) ND ND) ND) (ND : Nat) - ((r : Int) - 1))))) := Lib.hid ⟨ND, r, W, HND.out, hsh, ⟨g3, hr, hW⟩, rfl⟩
    have V5 := Lib.hid hdv
    have tp := quo_pos hsh
    have tl := trimN_le (quo (1075 - E) (dgd (4503599627370496 + M) ND ND) (trimN (dgd (4503599627370496 + M) ND ND) ND) r W) W
    have pb : -100 ≤ pnt (trimN (quo (1075 - E) (dgd (4503599627370496 + M) ND ND) (trimN (dgd (4503599627370496 + M) ND ND) ND) r W) W) (pnt (trimN (dgd (4503599627370496 + M) ND ND) ND) (ND : Nat) - ((r : Int) - 1)) ∧ pnt (trimN (quo (1075 - E) (dgd (4503599627370496 + M) ND ND) (trimN (dgd (4503599627370496 + M) ND ND) ND) r W) W) (pnt (trimN (dgd (4503599627370496 + M) ND ND) ND) (ND : Nat) - ((r : Int) - 1)) ≤ 100 := by
      generalize pnt (trimN (dgd (4503599627370496 + M) ND ND) ND) (ND : Nat) = p0 at *
      unfold pnt; split <;> omega
    clear hsh hdv hb V4 GD HND hp1 hp2 O4 B4
    generalize pnt (trimN (quo (1075 - E) (dgd (4503599627370496 + M) ND ND) (trimN (dgd (4503599627370496 + M) ND ND) ND) r W) W) (pnt (trimN (dgd (4503599627370496 + M) ND ND) ND) (ND : Nat) - ((r : Int) - 1)) = p at *
    generalize trimN (quo (1075 - E) (dgd (4503599627370496 + M) ND ND) (trimN (dgd (4503599627370496 + M) ND ND) ND) r W) W = n at *
    generalize quo (1075 - E) (dgd (4503599627370496 + M) ND ND) (trimN (dgd (4503599627370496 + M) ND ND) ND) r W = d at *
    obtain ⟨pb1, pb2⟩ := pb
    have a1 := V5.out.cp; have a2 := V5.out.cn
    have RO := Lib.hid (ro_w b d n p (p + 1100) w5 (by omega) (by omega) V5)
    go_wp2_with fail
    (with_reducible refine RO.out.mono ?_); rintro e w6 ⟨rfl, rfl⟩
    clear RO
    go_wp2_with fail
    have FMC : Hid (∀ w', Below w5.heap.size w5 w' → Calls Tryd.prog 53 #[v, .bool false, .slice (some ⟨b, 0, none⟩) 800 800, .int .i64 p, .int .i64 (n : Nat), .int .i64 1100, .int .u8 102, .bool false] w' fun e w'' => (∃ v', e = .returned v' ∧ Row8 w'' N b v' (fmtL d n p) ∧ DV w'' b d n p) ∧ Below N w' w'') := Lib.hid fun w' hb' => fmC b N d n p w' v pb1 pb2 tp (by omega) (Lib.hid ⟨own_below hb' O5.out, fun z hz => by have := OB.out z hz; omega, by simp, by have := V5.out.lt; have := hb'.size; omega, by have := V5.out.lt; have := hb'.size; omega⟩) (Lib.hid (dv_keep hb' V5.out))
    have KP : Hid (∀ w', Below w5.heap.size w5 w' → w'.cell? ⟨b, 800, none⟩ = some (.int .i64 (n : Nat)) ∧ w'.cell? ⟨b, 801, none⟩ = some (.int .i64 p) ∧ Below w5.heap.size w5 w') := Lib.hid fun w' hb => ⟨keep hb a2, keep hb a1, hb⟩
    have LE5 : Hid (N ≤ w5.heap.size) := Lib.hid (by have := V5.out.lt; omega)
    clear OB a1 a2 tp tl
    go_region_held3 (fun w' => w'.cell? ⟨b, 800, none⟩ = some (.int .i64 (n : Nat)) ∧ w'.cell? ⟨b, 801, none⟩ = some (.int .i64 p) ∧ Below N w5 w')
      (first
        | exact ⟨(KP.out _ (b_drew (Below.refl _ _))).1, (KP.out _ (b_drew (Below.refl _ _))).2.1, (KP.out _ (b_drew (Below.refl _ _))).2.2.mono LE5.out⟩
        | exact ⟨hc8, hp8, hb9⟩
        | assumption)
      ((first
        | (go_at_call 53; (with_reducible refine (FMC.out _ (b_drew (Below.refl _ _))).mono ?_); rintro e w9 ⟨⟨v', rfl, hrow, hdv9⟩, hb9'⟩; have hb9 : Below N w5 w9 := ((b_drew (Below.refl w5.heap.size w5)).mono LE5.out).trans hb9'; have hc8 := hdv9.cn; have hp8 := hdv9.cp)))
    go_wp2_with fail
    go_ret
    exact ⟨⟨v', _, rfl, HL.out, hrow.own⟩, B5.out.mono hN |>.trans hb9⟩
end Dec
end Go.Proofs.YtoafljgcmloilaaDoor
