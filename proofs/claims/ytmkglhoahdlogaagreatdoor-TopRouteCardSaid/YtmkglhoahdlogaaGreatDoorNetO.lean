/- NetO. -/
import Derived.Test.YtmkglhoahdlogaaGreatDoorS7
namespace Go.Proofs.YtmkglhoahdlogaaGreatDoor
open Go.RowKit
namespace Net
open Kit Chart Route
set_option maxRecDepth 100000 in
set_option maxHeartbeats 8000000 in
theorem of_w (A1 A2 : Option Addr) (n c1 m c2 : Nat) (N : Nat → ByteArray) (X Y : Nat → Int) (S : Nat → ByteArray) (Ls : Nat → List ByteArray) (lk : Nat → Nat → Nat) (dd : Nat → Nat → Int) (w : World) (hn : n ≤ 64) (hS : S = Lnk.nth (Lnk.srt (nms N (fun i => i) n))) (hLs : Hid (∀ i, i < n → (Ls i).length ≤ 100)) (HF : Hid (FV w (.slice A1 n c1) n N X Y))
    (HLK : Hid (∀ i, i < n → ∀ w1, Below w.heap.size w w1 → Calls Tryz.prog 6 #[.agg #[.slice A1 n c1, .slice A2 m c2], .string (S i)] w1 fun e w' => (∃ v E, e = .returned (.tuple #[v, .int .i64 E]) ∧ SL w' v (Ls i)) ∧ Below w1.heap.size w1 w'))
    (HBS : Hid (∀ i, i < n → ∀ j, j < (Ls i).length → ∀ w1 v, SV w1 v n S → Calls Tryz.prog 83 #[v, .string ((Ls i).getD j ⟨#[]⟩)] w1 fun e w' => e = .returned (.tuple #[.int .i64 (lk i j : Int), .bool true]) ∧ Below w1.heap.size w1 w'))
    (HLN : Hid (∀ i, i < n → ∀ j, j < (Ls i).length → ∀ w1 v, Below w.heap.size w w1 → SL w1 v [S i, (Ls i).getD j ⟨#[]⟩] → Calls Tryz.prog 84 #[.agg #[.slice A1 n c1, .slice A2 m c2], v] w1 fun e w' => (∃ E, e = .returned (.tuple #[.int .i64 (dd i j), .int .i64 E])) ∧ Below w1.heap.size w1 w')) :
    Calls Tryz.prog 51 #[.agg #[.slice A1 n c1, .slice A2 m c2]] w fun e w' => (∃ o ob oc, e = .returned (.agg #[o, ob, oc]) ∧ ∀ W, Kg w.heap.size w' W → SV W o n S ∧ LV W ob n (fun i => (Ls i).length) (fun i j => (lk i j : Int)) ∧ LV W oc n (fun i => (Ls i).length) dd) ∧ Below w.heap.size w w' := by
  obtain ⟨i0, hi0, hz0, hz1, hz2⟩ := info_parts str_info
  have IF := Lib.hid (And.intro hi0 (And.intro hz0 (And.intro hz1 hz2))); clear hi0 hz0 hz1 hz2
  obtain ⟨i1, hi0, hz0, hz1, hz2⟩ := info_parts Cpy.int_info
  have IG := Lib.hid (And.intro hi0 (And.intro hz0 (And.intro hz1 hz2))); clear hi0 hz0 hz1 hz2
  obtain ⟨i2, hi0, hz0, hz1, hz2⟩ := info_parts ints_info
  have IH := Lib.hid (And.intro hi0 (And.intro hz0 (And.intro hz1 hz2))); clear hi0 hz0 hz1 hz2
  have p2 := p2v_new w 28 (.slice A1 n c1) (.slice A2 m c2)
  have P0 : Hid (P2V (((w.alloc (.cells #[.slice A1 n c1, .slice A2 m c2] 28)).alloc (.cells #[.slice none 0 0, .slice none 0 0, .slice none 0 0] 80)).alloc (.cells #[.slice none 0 0, .slice none 0 0, .slice none 0 0] 80)) w.heap.size (.slice A1 n c1) (.slice A2 m c2)) := Lib.hid (p2v_keep (b_alloc (b_alloc (Below.refl _ _) _) _) p2)
  have bx := bx_new ((w.alloc (.cells #[.slice A1 n c1, .slice A2 m c2] 28)).alloc (.cells #[.slice none 0 0, .slice none 0 0, .slice none 0 0] 80)) 80 (.slice none 0 0) (.slice none 0 0) (.slice none 0 0)
  simp only [World.size_alloc] at bx
  have X0 : Hid (Bx (((w.alloc (.cells #[.slice A1 n c1, .slice A2 m c2] 28)).alloc (.cells #[.slice none 0 0, .slice none 0 0, .slice none 0 0] 80)).alloc (.cells #[.slice none 0 0, .slice none 0 0, .slice none 0 0] 80)) (w.heap.size + 2) (.slice none 0 0) (.slice none 0 0) (.slice none 0 0)) := Lib.hid bx
  have B0 : Hid (Below w.heap.size w (((w.alloc (.cells #[.slice A1 n c1, .slice A2 m c2] 28)).alloc (.cells #[.slice none 0 0, .slice none 0 0, .slice none 0 0] 80)).alloc (.cells #[.slice none 0 0, .slice none 0 0, .slice none 0 0] 80))) := Lib.hid (b_alloc (b_alloc (b_alloc (Below.refl w.heap.size w) _) _) _)
  have Z0 : Hid ((((w.alloc (.cells #[.slice A1 n c1, .slice A2 m c2] 28)).alloc (.cells #[.slice none 0 0, .slice none 0 0, .slice none 0 0] 80)).alloc (.cells #[.slice none 0 0, .slice none 0 0, .slice none 0 0] 80)).heap.size = w.heap.size + 2 + 1) := Lib.hid (by simp only [World.size_alloc])
  have bx1 := bx_keep (b_alloc (Below.refl _ _) (.cells #[.slice none 0 0, .slice none 0 0, .slice none 0 0] 80)) (bx_new (w.alloc (.cells #[.slice A1 n c1, .slice A2 m c2] 28)) 80 (.slice none 0 0) (.slice none 0 0) (.slice none 0 0))
  simp only [World.size_alloc] at bx1
  have X1 : Hid (Bx (((w.alloc (.cells #[.slice A1 n c1, .slice A2 m c2] 28)).alloc (.cells #[.slice none 0 0, .slice none 0 0, .slice none 0 0] 80)).alloc (.cells #[.slice none 0 0, .slice none 0 0, .slice none 0 0] 80)) (w.heap.size + 1) (.slice none 0 0) (.slice none 0 0) (.slice none 0 0)) := Lib.hid bx1
  clear p2 bx bx1
  obtain ⟨p0, p1⟩ := P0.out
  go_enter Tryz.func51, Tryz.ntmps51
  go_wp2_with fail
  clear p0 p1
  generalize hw0 : ((w.alloc (.cells #[.slice A1 n c1, .slice A2 m c2] 28)).alloc (.cells #[.slice none 0 0, .slice none 0 0, .slice none 0 0] 80)).alloc (.cells #[.slice none 0 0, .slice none 0 0, .slice none 0 0] 80) = w0 at *
  have Q0 : Hid (w.heap.size + 2 < w0.heap.size) := Lib.hid (by rw [Z0.out]; omega)
  clear hw0
  generalize hq : w.heap.size + 2 = q at *
  go_loopw [21] (fun s wr => ∃ (k : Nat) (o : Value), k ≤ n ∧ s = .int .i64 k ∧ wr.ownsRow (q + 1) 9 1 o k (vs (nms N (fun i => i) k)) ∧ Bx wr q o (.slice none 0 0) (.slice none 0 0) ∧ Below q w0 wr) (fun s _ => n - (intOf s).toNat)
  case atStart => exact ⟨0, .slice none 0 0, Nat.zero_le _, rfl, ownS_nil _ _ _, X0.out, Below.refl _ _⟩
  case round =>
    obtain ⟨k, o, hk, rfl, hown, hbx, hbl⟩ := hrel
    have OW := Lib.hid hown; have BR := Lib.hid hbl; have BX := Lib.hid hbx; clear hown hbx
    by_cases hlt : k < n
    · have hl : (k : Int) < (n : Int) := by omega
      have HLT := Lib.hid hlt
      have FR : Hid (FV wr (.slice A1 n c1) n N X Y) := Lib.hid (fv_keep (B0.out.trans (hbl.mono (by omega))) HF.out)
      obtain ⟨fb, fo, fc, e, hc1, hc2, HE3⟩ := fv_at FR.out (by omega)
      injection e with e1 _ e3
      subst e1 e3
      have hc3 : c1 ≤ 9223372036854775807 := Nat.le_trans hc2 (by decide)
      obtain ⟨x0, x1, x2⟩ := HE3 k hlt
      clear HE3
      have NXT := Lib.hid (nms_next N (fun i => i) k)
      have al := b_alloc (Below.refl wr.heap.size wr) (.cells #[.string (N k), .int .i64 (X k), .int .i64 (Y k)] 38)
      have S3 := s3_new wr 38 (N k) (X k) (Y k)
      generalize N k = nk at *
      generalize X k = xk at *
      generalize Y k = yk at *
      have BX1 := Lib.hid (bx_keep al BX.out)
      obtain ⟨y0, y1, y2, y3, y4, y5⟩ := BX1.out
      obtain ⟨z0, z1, z2⟩ := S3
      have NS := Lib.hid (new1 (wr.alloc (.cells #[.string nk, .int .i64 xk, .int .i64 yk] 38)) 9 (.string nk))
      have al2 := b_alloc al (.cells #[.string nk] 9)
      have OS := Lib.hid (Own0.own_below al2 OW.out)
      have BX2 := Lib.hid (bx_keep al2 BX.out)
      have QW := Lib.hid (lt_of_cell BX.out.c0)
      have SZ : Hid (q + 1 ≤ ((wr.alloc (.cells #[.string nk, .int .i64 xk, .int .i64 yk] 38)).alloc (.cells #[.string nk] 9)).heap.size) := Lib.hid (by have := QW.out; simp only [World.size_alloc]; show q + 1 ≤ _; have : q < wr.heap.size := QW.out; omega)
      have B2 : Hid (Below q w0 ((wr.alloc (.cells #[.string nk, .int .i64 xk, .int .i64 yk] 38)).alloc (.cells #[.string nk] 9))) := Lib.hid (hbl.trans (al2.mono (Nat.le_of_lt QW.out)))
      clear al al2 hbl
      go_wp2_with (at_builtin; refine wpList_append_own _ rfl (.tmp 26) (.tmp 29) 22 rfl (q + 1) 9 i0 _ 1 16 Tryz.underlying22 IF.out.1 IF.out.2.1 IF.out.2.2.1 IF.out.2.2.2 rfl (by decide) _ k _ rfl OS.out ⟨wr.heap.size + 1, 0, none⟩ 1 1 [.string nk] rfl rfl (by have q := NS.out; simp only [World.size_alloc] at q; exact q) (by simp [Value.oneCell']) (by unfold maxLen; omega) (by omega) SZ.out ?_; intro v2 w6 ao' ag' an; have ao := Lib.hid ao'; have ag := Lib.hid ag'; clear an ao' ag'; refine Hid.out ?_)
      obtain ⟨Av, cv, rfl⟩ := Own0.own_slice0 ao.out
      have BX6 := Lib.hid (bx_grow ag.out (fun e => by have := Own0.own_ge0 OS.out q e.symm; omega) BX2.out)
      have BX7 := Lib.hid (bx_set0 BX6.out (.slice Av (k + 1) cv))
      have OW7 := Lib.hid (owns_far ao.out ⟨q, 0, none⟩ (Nat.lt_succ_self q) (.slice Av (k + 1) cv))
      have B7 := Lib.hid ((Own0.grow_b B2.out OS.out ag.out (Nat.le_succ q) (Nat.le_of_succ_le SZ.out)).setCell (p := ⟨q, 0, none⟩) (Nat.le_refl _) (.slice Av (k + 1) cv))
      clear ao ag y0 y1 y2 y3 y4 y5 z0 z1 z2 x0 x1 x2
      obtain ⟨y0, y1, y2, y3, y4, y5⟩ := BX6.out
      refine Lib.hid ?_
      go_wp2_with fail
      clear y0 y1 y2 y3 y4 y5
      go_roundw
      case rel => exact ⟨k + 1, .slice Av (k + 1) cv, HLT.out, by go_num, by have q := OW7.out; rw [NXT.out] at q; exact q, BX7.out, B7.out⟩
      case measure => have := HLT.out; simp [intOf]; omega
    · obtain rfl : k = n := by omega
      have hl : ¬ (k : Int) < (k : Int) := by omega
      have hnn := nms_len N (fun i => i) k
      obtain ⟨Ao, co, rfl⟩ := Own0.own_slice0 OW.out
      have SRT := Lib.hid (Lnk.sortC (by rw [hnn]; exact OW.out) (by rw [hnn]; omega) (L := nms N (fun i => i) k))
      have QW := Lib.hid (lt_of_cell BX.out.c0)
      obtain ⟨y0, y1, y2, y3, y4, y5⟩ := BX.out
      clear hbl
      go_wp2_with fail
      (with_reducible refine (SRT.out).mono ?_); rintro e w2 ⟨rfl, hrow, hsz, hb2⟩
      have HSV := Lib.hid (sorted_sv hnn OW.out hrow)
      have BX2 := Lib.hid (bx_keepN (hb2 (q + 1) wr (Nat.le_refl _) QW.out (Below.refl _ _)) (Nat.lt_succ_self q) BX.out)
      have B2 := Lib.hid (hb2 q w0 (Nat.le_succ q) (Nat.le_of_lt Q0.out) BR.out)
      clear hrow hsz hb2 y0 y1 y2 y3 y4 y5
      obtain ⟨y0, y1, y2, y3, y4, y5⟩ := BX2.out
      rw [← hS] at HSV
      clear hS
      go_wp2_with fail
      clear y0 y1 y2 y3 y4 y5
      go_loopw [39] (fun s wr => ∃ (i : Nat) (ob oc : Value) (RB RC : Nat → Value), i ≤ k ∧ s = .int .i64 i ∧ Bx wr q (.slice Ao k co) ob oc ∧ OwnG wr w2.heap.size 83 1 ob i (fun k _ => RB k) ∧ OwnG wr w2.heap.size 83 1 oc i (fun k _ => RC k) ∧ (∀ g, ob.ownBlock = some g → oc.ownBlock ≠ some g) ∧ (∀ k, k < i → Ap q wr ob oc (RB k) (Ls k).length (fun j => (lk k j : Int))) ∧ (∀ k, k < i → Ap q wr ob oc (RC k) (Ls k).length (dd k)) ∧ Kq q w2 wr ∧ w2.heap.size ≤ wr.heap.size ∧ Below q w0 wr) (fun s _ => k - (intOf s).toNat)
      case atStart => exact ⟨0, .slice none 0 0, .slice none 0 0, fun _ => .slice none 0 0, fun _ => .slice none 0 0, Nat.zero_le _, rfl, BX2.out, ownG_nil _ _ _ _ _, ownG_nil _ _ _ _ _, fun g h => by simp [Value.ownBlock] at h, fun _ h => absurd h (Nat.not_lt_zero _), fun _ h => absurd h (Nat.not_lt_zero _), kq_refl _ _, Nat.le_refl _, B2.out⟩
      case round =>
        obtain ⟨i, ob, oc, RB, RC, hi, rfl, hbx, hob, hoc, hdj, hRB, hRC, hkq, hsz, hbl⟩ := hrel
        have OB := Lib.hid hob; have OC := Lib.hid hoc; have DJ := Lib.hid hdj; have AB := Lib.hid hRB; have AC := Lib.hid hRC; have KQ := Lib.hid hkq; have SZR := Lib.hid hsz; have BR := Lib.hid hbl; have BX := Lib.hid hbx
        have BW : Hid (Below w.heap.size w wr) := Lib.hid (B0.out.trans (hbl.mono (by omega)))
        have PW : Hid (P2V wr w.heap.size (.slice A1 k c1) (.slice A2 m c2)) := Lib.hid ⟨keepN hbl (by show w.heap.size < q; omega) P0.out.1, keepN hbl (by show w.heap.size < q; omega) P0.out.2⟩
        clear hob hoc hdj hRB hRC hkq hsz hbl hbx
        by_cases hlt : i < k
        · have hl : (i : Int) < (k : Int) := by omega
          have HLT := Lib.hid hlt
          obtain ⟨gb, gf, gc, e, h1, h2, hcl⟩ := sv_at0 (HSV.out wr KQ.out) (by omega)
          injection e with e1 _ e3
          subst e1 e3
          have x0 := hcl i hlt
          obtain ⟨p0, p1⟩ := PW.out
          have LKi := Lib.hid (HLK.out i hlt); have BSi := Lib.hid (HBS.out i hlt); have LNi := Lib.hid (HLN.out i hlt); have LLi := Lib.hid (hLs.out i hlt)
          have hcc : co ≤ 9223372036854775807 := Nat.le_trans h2 (by decide)
          clear hcl
          obtain ⟨Li, hLi⟩ : ∃ L, L = Ls i := ⟨_, rfl⟩
          obtain ⟨si, hsi⟩ : ∃ s, s = S i := ⟨_, rfl⟩
          obtain ⟨ki, hki⟩ : ∃ s, s = lk i := ⟨_, rfl⟩
          obtain ⟨di, hdi⟩ : ∃ s, s = dd i := ⟨_, rfl⟩
          rw [← hLi] at BSi LNi LLi; rw [← hsi] at LKi LNi x0; rw [← hki] at BSi; rw [← hdi] at LNi
          simp only [← hLi] at LKi
          have EQ := Lib.hid (And.intro hLi (And.intro hki hdi))
          clear hLi hsi hki hdi
          go_wp2_with fail
          (with_reducible refine (LKi.out _ BW.out).mono ?_); rintro e w4 ⟨⟨v, E4, rfl, hv⟩, hb⟩
          obtain ⟨Al, cl, rfl⟩ := sl_slice hv
          have V4 := Lib.hid hv; have HB4 := Lib.hid hb
          clear hb hv x0 p0 p1
          go_wp2_with fail
          obtain ⟨wo, hwo⟩ : ∃ x, x = wr := ⟨_, rfl⟩
          subst hwo
          go_loopw [10, 11, 51] (fun o1 o2 s wq => ∃ j : Nat, j ≤ Li.length ∧ s = .int .i64 j ∧ Own wq w4.heap.size 3 1 o1 j (fun i _ => (ki i : Int)) ∧ Own wq w4.heap.size 3 1 o2 j (fun i _ => di i) ∧ (∀ g, o1.ownBlock = some g → o2.ownBlock ≠ some g) ∧ Below w4.heap.size w4 wq) (fun _ _ s _ => Li.length - (intOf s).toNat)
          case atStart => exact ⟨0, Nat.zero_le _, rfl, own_nil _ _ _ _ _, own_nil _ _ _ _ _, fun g h => by simp [Value.ownBlock] at h, Below.refl _ _⟩
          case round =>
            obtain ⟨j, hj, rfl, ho1, ho2, hd12, hbq⟩ := hrel
            have O1 := Lib.hid ho1; have O2 := Lib.hid ho2; have D12 := Lib.hid hd12; have BQ := Lib.hid hbq
            have HW : Hid (Below wo.heap.size wo wr) := Lib.hid (b_next HB4.out hbq)
            clear ho1 ho2 hd12
            by_cases hjl : j < Li.length
            · have hl2 : (j : Int) < (Li.length : Int) := by omega
              have HJL := Lib.hid hjl
              have hLL := LLi.out
              obtain ⟨lb, lf, lc, e, g1, g2, hcl⟩ := sv_at0 (sl_keep hbq V4.out) (by omega)
              injection e with e1 _ e3
              subst e1 e3
              have y0 := hcl j hjl
              have hlc : cl ≤ 9223372036854775807 := Nat.le_trans g2 (by decide)
              have BSj := Lib.hid (BSi.out j hjl wr (.slice (some ⟨gb, gf, none⟩) k co) (HSV.out wr (kq_below HW.out KQ.out)))
              have LNj := Lib.hid (LNi.out j hjl)
              have NX1 := Lib.hid (int_next (fun i => (ki i : Int)) j); have NX2 := Lib.hid (int_next (fun i => di i) j)
              have BXj := Lib.hid (bx_keep HW.out BX.out)
              have PWj := Lib.hid (p2v_keep HW.out PW.out)
              have BWj := Lib.hid (b_next BW.out HW.out)
              clear hcl hbq
              generalize Li.getD j ⟨#[]⟩ = tj at *
              obtain ⟨kj, hkj⟩ : ∃ s, s = ki j := ⟨_, rfl⟩
              obtain ⟨dj, hdj⟩ : ∃ s, s = di j := ⟨_, rfl⟩
              rw [← hkj] at BSj; simp only [← hkj] at NX1; rw [← hdj] at LNj; simp only [← hdj] at NX2
              clear hkj hdj
              obtain ⟨z0, z1, z2, z3, z4, z5⟩ := BXj.out
              go_wp2_with fail
              (with_reducible refine BSj.out.mono ?_); rintro e w5 ⟨rfl, hb⟩
              have W5 := Lib.hid hb; have P5 := Lib.hid (p2v_keep hb PWj.out); have BW5 := Lib.hid (b_next BWj.out hb)
              clear hb y0 z0 z1 z2 z3 z4 z5
              obtain ⟨p0, p1⟩ := P5.out
              have W6 := Lib.hid (b_alloc (Below.refl w5.heap.size w5) (.cells #[.string si, .string tj] 9))
              have TWO := Lib.hid (sl_two w5 9 si tj)
              go_wp2_with fail
              (with_reducible refine (LNj.out _ _ (b_next BW5.out W6.out) TWO.out).mono ?_); rintro e w7 ⟨⟨E7, rfl⟩, hb⟩
              have W7 := Lib.hid (b_next W5.out (b_next W6.out hb))
              clear hb p0 p1
              have W8 := b_alloc (Below.refl w7.heap.size w7) (.cells #[.int .i64 (kj : Int)] 3)
              have BQ8 := Lib.hid (b_next BQ.out (b_next W7.out W8))
              have O18 := Lib.hid (Own0.own_below W8 (Own0.own_below W7.out O1.out)); have O28 := Lib.hid (Own0.own_below W8 (Own0.own_below W7.out O2.out))
              have NS := Lib.hid (new1 w7 3 (.int .i64 (kj : Int)))
              have SZ := Lib.hid BQ8.out.size
              clear W8
              go_wp2_with (at_builtin; refine wpList_append_own_at _ rfl (.tmp 70) (.tmp 72) 83 rfl w4.heap.size 3 i1 _ 1 8 Tryz.underlying83 IG.out.1 IG.out.2.1 IG.out.2.2.1 IG.out.2.2.2 rfl (by decide) _ j _ rfl O18.out ⟨w7.heap.size, 0, none⟩ 1 1 [.int .i64 (kj : Int)] rfl rfl NS.out (by simp [Value.oneCell']) (by unfold maxLen; omega) (by omega) SZ.out ?_; intro v8 w8 ao' ag' an at'; have ao := Lib.hid ao'; have ag := Lib.hid ag'; have aa := Lib.hid at'; clear an ao' ag' at'; refine Hid.out ?_)
              have O1n : Hid (Own w8 w4.heap.size 3 1 v8 (j + 1) (fun i _ => (ki i : Int))) := Lib.hid (by have q := ao.out; rw [NX1.out] at q; exact q)
              have O2n := Lib.hid (own_apart O28.out ag.out (fun g hg e => D12.out g e hg))
              have D8 := Lib.hid (dj_left aa.out D12.out (Own0.own_lt O28.out))
              have BQ9 := Lib.hid (Own0.grow_b BQ8.out O18.out ag.out (Nat.le_refl _) SZ.out)
              clear ao ag aa
              have W9 := b_alloc (Below.refl w8.heap.size w8) (.cells #[.int .i64 dj] 3)
              have BQ10 := Lib.hid (b_next BQ9.out W9)
              have O110 := Lib.hid (Own0.own_below W9 O1n.out); have O210 := Lib.hid (Own0.own_below W9 O2n.out)
              have NS2 := Lib.hid (new1 w8 3 (.int .i64 dj))
              have SZ2 := Lib.hid BQ10.out.size
              clear W9
              refine Lib.hid ?_
              go_wp2_with (at_builtin; refine wpList_append_own_at _ rfl (.tmp 74) (.tmp 76) 83 rfl w4.heap.size 3 i1 _ 1 8 Tryz.underlying83 IG.out.1 IG.out.2.1 IG.out.2.2.1 IG.out.2.2.2 rfl (by decide) _ j _ rfl O210.out ⟨w8.heap.size, 0, none⟩ 1 1 [.int .i64 dj] rfl rfl NS2.out (by simp [Value.oneCell']) (by unfold maxLen; omega) (by omega) SZ2.out ?_; intro v9 w9 ao' ag' an at'; have ao := Lib.hid ao'; have ag := Lib.hid ag'; have aa := Lib.hid at'; clear an ao' ag' at'; refine Hid.out ?_)
              have O2f : Hid (Own w9 w4.heap.size 3 1 v9 (j + 1) (fun i _ => di i)) := Lib.hid (by have q := ao.out; rw [NX2.out] at q; exact q)
              have O1f := Lib.hid (own_apart O110.out ag.out (fun g hg e => D8.out g hg e))
              have D9 := Lib.hid (dj_right aa.out D8.out (Own0.own_lt O110.out))
              have BQf := Lib.hid (Own0.grow_b BQ10.out O210.out ag.out (Nat.le_refl _) SZ2.out)
              clear ao ag aa
              refine Lib.hid ?_
              go_wp2_with fail
              go_roundw
              case rel => exact ⟨j + 1, HJL.out, by go_num, O1f.out, O2f.out, D9.out, BQf.out⟩
              case measure => have := HJL.out; simp [intOf]; omega
            · obtain rfl : j = Li.length := by omega
              have hl2 : ¬ (Li.length : Int) < (Li.length : Int) := by omega
              have BQ0 := Lib.hid hbq
              clear hbq
              go_wp2_with fail
              have OBr := Lib.hid (Own0.own_below HW.out OB.out); have OCr := Lib.hid (Own0.own_below HW.out OC.out); have BXr := Lib.hid (bx_keep HW.out BX.out)
              have SZr : Hid (w2.heap.size ≤ wr.heap.size) := Lib.hid (Nat.le_trans SZR.out HW.out.size)
              obtain ⟨A8, c8, rfl⟩ := Own0.own_slice0 O1.out
              obtain ⟨A9, c9, rfl⟩ := Own0.own_slice0 O2.out
              obtain ⟨z0, z1, z2, z3, z4, z5⟩ := BXr.out
              have ob4 := Own0.own_lt OB.out; have oc4 := Own0.own_lt OC.out; have s4 := HB4.out.size
              have qs4 : q < w4.heap.size := Nat.lt_of_lt_of_le (lt_of_cell BX.out.c0) s4
              have XB : Hid (Ap q wr ob oc (.slice A8 Li.length c8) (Ls i).length (fun j => (lk i j : Int))) := Lib.hid (by rw [← EQ.out.1, ← EQ.out.2.1]; exact ap_own O1.out qs4 (fun g hg => Nat.lt_of_lt_of_le (ob4 g hg) s4) (fun g hg => Nat.lt_of_lt_of_le (oc4 g hg) s4))
              have XC : Hid (Ap q wr ob oc (.slice A9 Li.length c9) (Ls i).length (dd i)) := Lib.hid (by rw [← EQ.out.1, ← EQ.out.2.2]; exact ap_own O2.out qs4 (fun g hg => Nat.lt_of_lt_of_le (ob4 g hg) s4) (fun g hg => Nat.lt_of_lt_of_le (oc4 g hg) s4))
              clear ob4 oc4 s4 qs4
              have QS : Hid (q < w2.heap.size) := Lib.hid (lt_of_cell BX2.out.c0)
              have qlt : q < wr.heap.size := lt_of_cell BXr.out.c0
              have n1 : ¬ q = wr.heap.size := Nat.ne_of_lt qlt
              have n2 : ¬ wr.heap.size = q := fun e => n1 e.symm
              have n3 : ¬ q = wr.heap.size + 1 := by omega
              have n4 : ¬ wr.heap.size + 1 = q := fun e => n3 e.symm
              have l1 : q < wr.heap.size + 1 := by omega
              clear HLK HBS HLN HF hLs P0 X0 X1 B0 Z0 Q0 IF IG LKi BSi LNi PW BW V4 HB4 EQ HSV LLi D12 BQ0 O1 O2
              refine Kit.cut_region (fun a a' w' => ∃ (x1 x2 : Value) (g1 k1 g2 k2 : Nat), a' = Kit.puts a [(79, .pointer (some ⟨q, 1, none⟩)), (80, ob), (81, .slice A8 Li.length c8), (82, x1), (83, .slice (some ⟨g1, 0, none⟩) (i + 1) k1), (84, .pointer (some ⟨q, 2, none⟩)), (85, oc), (86, .slice A9 Li.length c9), (87, x2), (88, .slice (some ⟨g2, 0, none⟩) (i + 1) k2), (89, .pointer (some ⟨q, 1, none⟩)), (90, .pointer (some ⟨q, 2, none⟩))] ∧
                ∃ RB' RC' : Nat → Value, Bx w' q (.slice (some ⟨gb, gf, none⟩) k co) (.slice (some ⟨g1, 0, none⟩) (i + 1) k1) (.slice (some ⟨g2, 0, none⟩) (i + 1) k2) ∧ OwnG w' w2.heap.size 83 1 (.slice (some ⟨g1, 0, none⟩) (i + 1) k1) (i + 1) (fun k _ => RB' k) ∧ OwnG w' w2.heap.size 83 1 (.slice (some ⟨g2, 0, none⟩) (i + 1) k2) (i + 1) (fun k _ => RC' k) ∧ (∀ g, (Value.slice (some ⟨g1, 0, none⟩) (i + 1) k1).ownBlock = some g → (Value.slice (some ⟨g2, 0, none⟩) (i + 1) k2).ownBlock ≠ some g) ∧
                (∀ k, k < i + 1 → Ap q w' (.slice (some ⟨g1, 0, none⟩) (i + 1) k1) (.slice (some ⟨g2, 0, none⟩) (i + 1) k2) (RB' k) (Ls k).length (fun j => (lk k j : Int))) ∧ (∀ k, k < i + 1 → Ap q w' (.slice (some ⟨g1, 0, none⟩) (i + 1) k1) (.slice (some ⟨g2, 0, none⟩) (i + 1) k2) (RC' k) (Ls k).length (dd k)) ∧ Kq q w2 w' ∧ w2.heap.size ≤ w'.heap.size ∧ Below q w0 w') ?_ ?_
              rotate_left
              · rintro a' w11 ⟨x1, x2, g1, k1, g2, k2, rfl, RB', RC', e1, e2, e3, e4, e5, e6, e7, e8, e9⟩
                have F1 := Lib.hid e1; have F2 := Lib.hid e2; have F3 := Lib.hid e3; have F4 := Lib.hid e4; have F5 := Lib.hid e5; have F6 := Lib.hid e6; have F7 := Lib.hid e7; have F8 := Lib.hid e8; have F9 := Lib.hid e9
                clear e1 e2 e3 e4 e5 e6 e7 e8 e9 z0 z1 z2 z3 z4 z5
                simp only [Kit.puts, Act.put, List.setIfInBounds_toArray, List.set_cons_zero, List.set_cons_succ]
                go_wp2_with fail
                go_roundw
                case rel => exact ⟨i + 1, .slice (some ⟨g1, 0, none⟩) (i + 1) k1, .slice (some ⟨g2, 0, none⟩) (i + 1) k2, RB', RC', HLT.out, by go_num, F1.out, F2.out, F3.out, F4.out, F5.out, F6.out, F7.out, F8.out, F9.out⟩
                case measure => have := HLT.out; simp [intOf]; omega
              refine Late.region (fun w' => w'.cell? ⟨q, 1, none⟩ = some ob ∧ w'.cell? ⟨q, 2, none⟩ = some oc) 11 (by kernel_rfl) ?_
              refine Late.take0 (i := 0) (v := ?_) rfl (by kernel_rfl) (fun _ _ _ h => h) (Or.inl ⟨by rfl, ?_⟩) ⟨keep (by first | ((repeat (first | exact Below.refl _ _ | refine b_drew ?_ | refine b_alloc ?_ _)); done) | fail) z1, keep (by first | ((repeat (first | exact Below.refl _ _ | refine b_drew ?_ | refine b_alloc ?_ _)); done) | fail) z2⟩ ?_
              rotate_left
              · (intro wq hSw; clear hSw; go_simp <;> with_reducible rfl)
              simp only [Act.put, List.setIfInBounds_toArray]
              refine Late.take (i := 1) (v := ?_) rfl (by kernel_rfl) (fun _ _ _ h => h) (Or.inl ⟨by rfl, ?_⟩) ⟨keep (by first | ((repeat (first | exact Below.refl _ _ | refine b_drew ?_ | refine b_alloc ?_ _)); done) | fail) z1, keep (by first | ((repeat (first | exact Below.refl _ _ | refine b_drew ?_ | refine b_alloc ?_ _)); done) | fail) z2⟩ ?_
              rotate_left
              · (intro wq hSw; obtain ⟨h1, h2⟩ := hSw; go_simp <;> with_reducible rfl)
              simp only [Act.put]
              refine Late.take0 (i := 2) (v := ?_) rfl (by kernel_rfl) (fun _ _ _ h => h) (Or.inl ⟨by rfl, ?_⟩) ⟨keep (by first | ((repeat (first | exact Below.refl _ _ | refine b_drew ?_ | refine b_alloc ?_ _)); done) | fail) z1, keep (by first | ((repeat (first | exact Below.refl _ _ | refine b_drew ?_ | refine b_alloc ?_ _)); done) | fail) z2⟩ ?_
              rotate_left
              · (intro wq hSw; clear hSw; go_simp <;> with_reducible rfl)
              simp only [Act.put]
              refine Late.take0 (i := 5) (v := ?_) rfl (by kernel_rfl) (fun _ _ _ h => h) (Or.inl ⟨by rfl, ?_⟩) ⟨keep (by first | ((repeat (first | exact Below.refl _ _ | refine b_drew ?_ | refine b_alloc ?_ _)); done) | fail) z1, keep (by first | ((repeat (first | exact Below.refl _ _ | refine b_drew ?_ | refine b_alloc ?_ _)); done) | fail) z2⟩ ?_
              rotate_left
              · (intro wq hSw; clear hSw; go_simp <;> with_reducible rfl)
              simp only [Act.put]
              refine Late.take (i := 6) (v := ?_) rfl (by kernel_rfl) (fun _ _ _ h => h) (Or.inl ⟨by rfl, ?_⟩) ⟨keep (by first | ((repeat (first | exact Below.refl _ _ | refine b_drew ?_ | refine b_alloc ?_ _)); done) | fail) z1, keep (by first | ((repeat (first | exact Below.refl _ _ | refine b_drew ?_ | refine b_alloc ?_ _)); done) | fail) z2⟩ ?_
              rotate_left
              · (intro wq hSw; obtain ⟨h1, h2⟩ := hSw; go_simp <;> with_reducible rfl)
              simp only [Act.put]
              refine Late.take0 (i := 7) (v := ?_) rfl (by kernel_rfl) (fun _ _ _ h => h) (Or.inl ⟨by rfl, ?_⟩) ⟨keep (by first | ((repeat (first | exact Below.refl _ _ | refine b_drew ?_ | refine b_alloc ?_ _)); done) | fail) z1, keep (by first | ((repeat (first | exact Below.refl _ _ | refine b_drew ?_ | refine b_alloc ?_ _)); done) | fail) z2⟩ ?_
              rotate_left
              · (intro wq hSw; clear hSw; go_simp <;> with_reducible rfl)
              simp only [Act.put]
              refine Late.ready (rs := [3, 8]) (by kernel_rfl) (by simp) (Late.each_cons rfl (fun K hK => ?_) (Late.each_cons rfl (fun K hK => ?_) Late.each_nil))
              · go_simp
                refine hK.out _ _ (fun _ => ⟨keep (by first | ((repeat (first | exact Below.refl _ _ | refine b_drew ?_ | refine b_alloc ?_ _)); done) | fail) z1, keep (by first | ((repeat (first | exact Below.refl _ _ | refine b_drew ?_ | refine b_alloc ?_ _)); done) | fail) z2⟩) ?_
                clear hK K
                refine Late.ready (rs := [4, 8]) (by kernel_rfl) (by simp) (Late.each_cons rfl (fun K hK => ?_) (Late.each_cons rfl (fun K hK => ?_) Late.each_nil))
                · refine step_append_lies _ (by rfl) (.tmp 80) (.tmp 82) 78 (by rfl) w2.heap.size 83 i2 _ 1 24 Tryz.underlying78 IH.out.1 IH.out.2.1 IH.out.2.2.1 IH.out.2.2.2 rfl (by omega) ob i (rowG 1 (fun k _ => RB k) i) (by first | rfl | (simp [Act.eval]; done) | fail) (Own0.own_below (by first | ((repeat (first | exact Below.refl _ _ | refine b_drew ?_ | refine b_alloc ?_ _)); done) | fail) OBr.out) _ 1 1 [.slice A8 Li.length c8] (by first | rfl | (simp [Act.eval]; done) | fail) (by rfl) (by first | exact World.news_of_block (cs := #[.slice A8 Li.length c8]) (t := 83) (fr := (0, 0)) (blk_keep (heap_alloc_new wr (.cells #[.slice A8 Li.length c8] 83)) (by first | ((repeat (first | exact Below.refl _ _ | refine b_drew ?_ | refine b_alloc ?_ _)); done) | fail)) | exact World.news_of_block (cs := #[.slice A8 Li.length c8]) (t := 83) (fr := (0, 0)) (blk_keep (heap_second wr (.cells #[.slice A9 Li.length c9] 83) (.cells #[.slice A8 Li.length c8] 83)) (by first | ((repeat (first | exact Below.refl _ _ | refine b_drew ?_ | refine b_alloc ?_ _)); done) | fail)) | fail) (by simp [Value.oneCell']) (by omega) (by unfold maxLen; omega) (by omega) (sz_le SZr.out (by first | ((repeat (first | exact Below.refl _ _ | refine b_drew ?_ | refine b_alloc ?_ _)); done) | fail)) _ rfl ?_
                  intro g1 k1 w9 ho1' hg1' ha1' hl1'
                  have ho1 := Lib.hid ho1'; have hg1 := Lib.hid hg1'; have ha1 := Lib.hid ha1'
                  have hA1 : Hid (Below wr.heap.size wr _) := Lib.hid (bel_of hg1' (by first | ((repeat (first | exact Below.refl _ _ | refine b_drew ?_ | refine b_alloc ?_ _)); done) | fail))
                  have bx9 := Lib.hid (bx_grow hg1' (fun e => by have := Own0.own_ge0 OBr.out _ e.symm; have := QS.out; omega) (bx_keep hA1.out BXr.out))
                  have oc9 := Lib.hid (own_apart (Own0.own_below hA1.out OCr.out) hg1' (fun g hg e => DJ.out g e hg))
                  clear ho1' hg1' ha1' hl1'
                  try go_simp
                  refine hK.out _ _ (fun _ => ⟨keep (by first | ((repeat (first | exact Below.refl _ _ | refine b_drew ?_ | refine b_alloc ?_ _)); done) | fail) bx9.out.c1, keep (by first | ((repeat (first | exact Below.refl _ _ | refine b_drew ?_ | refine b_alloc ?_ _)); done) | fail) bx9.out.c2⟩) ?_
                  clear hK K
                  refine Late.take0 (i := 10) (v := ?_) rfl (by kernel_rfl) (fun _ _ _ h => h) (Or.inl ⟨by rfl, ?_⟩) ⟨keep (by first | ((repeat (first | exact Below.refl _ _ | refine b_drew ?_ | refine b_alloc ?_ _)); done) | fail) bx9.out.c1, keep (by first | ((repeat (first | exact Below.refl _ _ | refine b_drew ?_ | refine b_alloc ?_ _)); done) | fail) bx9.out.c2⟩ ?_
                  rotate_left
                  · (intro wq hSw; clear hSw; go_simp <;> with_reducible rfl)
                  simp only [Act.put, List.setIfInBounds_toArray]
                  refine Late.ready (rs := [8]) (by kernel_rfl) (by simp) (Late.each_cons rfl (fun K hK => ?_) Late.each_nil)
                  go_simp
                  refine hK.out _ _ (fun _ => ⟨keep (by first | ((repeat (first | exact Below.refl _ _ | refine b_drew ?_ | refine b_alloc ?_ _)); done) | fail) bx9.out.c1, keep (by first | ((repeat (first | exact Below.refl _ _ | refine b_drew ?_ | refine b_alloc ?_ _)); done) | fail) bx9.out.c2⟩) ?_
                  clear hK K
                  refine Late.ready (rs := [9]) (by kernel_rfl) (by simp) (Late.each_cons rfl (fun K hK => ?_) Late.each_nil)
                  refine step_append_lies _ (by rfl) (.tmp 85) (.tmp 87) 78 (by rfl) w2.heap.size 83 i2 _ 1 24 Tryz.underlying78 IH.out.1 IH.out.2.1 IH.out.2.2.1 IH.out.2.2.2 rfl (by omega) oc i (rowG 1 (fun k _ => RC k) i) (by first | rfl | (simp [Act.eval]; done) | fail) (Own0.own_below (by first | ((repeat (first | exact Below.refl _ _ | refine b_drew ?_ | refine b_alloc ?_ _)); done) | fail) oc9.out) _ 1 1 [.slice A9 Li.length c9] (by first | rfl | (simp [Act.eval]; done) | fail) (by rfl) (by first | exact World.news_of_block (cs := #[.slice A9 Li.length c9]) (t := 83) (fr := (0, 0)) (blk_keep (heap_alloc_new w9 (.cells #[.slice A9 Li.length c9] 83)) (by first | ((repeat (first | exact Below.refl _ _ | refine b_drew ?_ | refine b_alloc ?_ _)); done) | fail)) | exact World.news_of_block (cs := #[.slice A9 Li.length c9]) (t := 83) (fr := (0, 0)) ((hg1.out.block (wr.heap.size + 1) (by first | (simp; done) | (simp; omega) | fail) (fun e => by have := Own0.own_lt OBr.out _ e.symm; omega)).trans (blk_keep (heap_second wr (.cells #[.slice A8 Li.length c8] 83) (.cells #[.slice A9 Li.length c9] 83)) (by first | ((repeat (first | exact Below.refl _ _ | refine b_drew ?_ | refine b_alloc ?_ _)); done) | fail))) | exact World.news_of_block (cs := #[.slice A9 Li.length c9]) (t := 83) (fr := (0, 0)) ((hg1.out.block wr.heap.size (by first | (simp; done) | (simp; omega) | fail) (fun e => by have := Own0.own_lt OBr.out _ e.symm; omega)).trans (blk_keep (heap_alloc_new wr (.cells #[.slice A9 Li.length c9] 83)) (by first | ((repeat (first | exact Below.refl _ _ | refine b_drew ?_ | refine b_alloc ?_ _)); done) | fail))) | fail) (by simp [Value.oneCell']) (by omega) (by unfold maxLen; omega) (by omega) (sz_le (Nat.le_trans SZr.out (Nat.le_trans hA1.out.size hg1.out.size)) (by first | ((repeat (first | exact Below.refl _ _ | refine b_drew ?_ | refine b_alloc ?_ _)); done) | fail)) _ rfl ?_
                  intro g2 k2 w10 ho2' hg2' ha2' hl2'
                  have ho2 := Lib.hid ho2'; have hg2 := Lib.hid hg2'; have ha2 := Lib.hid ha2'
                  have hA2 : Hid (Below w9.heap.size w9 _) := Lib.hid (bel_of hg2' (by first | ((repeat (first | exact Below.refl _ _ | refine b_drew ?_ | refine b_alloc ?_ _)); done) | fail))
                  have bx10 := Lib.hid (bx_grow hg2' (fun e => by have := Own0.own_ge0 oc9.out _ e.symm; have := QS.out; omega) (bx_keep hA2.out bx9.out))
                  obtain ⟨r0, r1, r2, r3, r4, r5⟩ := bx10.out
                  clear ho2' hg2' ha2' hl2' r0
                  try go_simp
                  refine hK.out _ _ (fun _ => ⟨bx10.out.c1, bx10.out.c2⟩) ?_
                  clear hK K
                  refine Late.ready (rs := [11]) (by kernel_rfl) (by simp) (Late.each_cons rfl (fun K hK => ?_) Late.each_nil)
                  go_simp
                  refine hK.out _ _ (fun h => absurd h (by decide)) ?_
                  clear hK K
                  refine Late.ready (rs := [12]) (by kernel_rfl) (by simp) (Late.each_cons rfl (fun K hK => ?_) Late.each_nil)
                  go_simp
                  refine hK.out _ _ (fun h => absurd h (by decide)) ?_
                  clear hK K
                  refine Late.ready (rs := [13]) (by kernel_rfl) (by simp) (Late.each_cons rfl (fun K hK => ?_) Late.each_nil)
                  go_simp
                  refine hK.out _ _ (fun h => absurd h (by decide)) ?_
                  clear hK K
                  refine Late.done (by kernel_rfl) ?_ _
                  have RE := round_end (d := fun i => (Ls i).length) (lk := fun i j => (lk i j : Int)) (dd := dd) QS.out SZr.out BXr.out OBr.out OCr.out DJ.out (fun k hk => ap_keep HW.out (AB.out k hk)) (fun k hk => ap_keep HW.out (AC.out k hk)) XB.out XC.out (kq_below HW.out KQ.out) (BR.out.trans (HW.out.mono (Nat.le_of_lt (lt_of_cell BX.out.c0)))) hA1.out hg1.out ha1.out ho1.out hA2.out hg2.out ha2.out ho2.out
                  refine ⟨?_, ?_, g1, k1, g2, k2, ?_, RE⟩
                  rotate_left 2
                  (simp only [Kit.puts, Act.put, List.setIfInBounds_toArray, List.set_cons_zero, List.set_cons_succ] <;> rfl)
                · go_simp
                  refine hK.out _ _ (fun _ => ⟨keep (by first | ((repeat (first | exact Below.refl _ _ | refine b_drew ?_ | refine b_alloc ?_ _)); done) | fail) z1, keep (by first | ((repeat (first | exact Below.refl _ _ | refine b_drew ?_ | refine b_alloc ?_ _)); done) | fail) z2⟩) ?_
                  clear hK K
                  refine Late.ready (rs := [4]) (by kernel_rfl) (by simp) (Late.each_cons rfl (fun K hK => ?_) Late.each_nil)
                  refine step_append_lies _ (by rfl) (.tmp 80) (.tmp 82) 78 (by rfl) w2.heap.size 83 i2 _ 1 24 Tryz.underlying78 IH.out.1 IH.out.2.1 IH.out.2.2.1 IH.out.2.2.2 rfl (by omega) ob i (rowG 1 (fun k _ => RB k) i) (by first | rfl | (simp [Act.eval]; done) | fail) (Own0.own_below (by first | ((repeat (first | exact Below.refl _ _ | refine b_drew ?_ | refine b_alloc ?_ _)); done) | fail) OBr.out) _ 1 1 [.slice A8 Li.length c8] (by first | rfl | (simp [Act.eval]; done) | fail) (by rfl) (by first | exact World.news_of_block (cs := #[.slice A8 Li.length c8]) (t := 83) (fr := (0, 0)) (blk_keep (heap_alloc_new wr (.cells #[.slice A8 Li.length c8] 83)) (by first | ((repeat (first | exact Below.refl _ _ | refine b_drew ?_ | refine b_alloc ?_ _)); done) | fail)) | exact World.news_of_block (cs := #[.slice A8 Li.length c8]) (t := 83) (fr := (0, 0)) (blk_keep (heap_second wr (.cells #[.slice A9 Li.length c9] 83) (.cells #[.slice A8 Li.length c8] 83)) (by first | ((repeat (first | exact Below.refl _ _ | refine b_drew ?_ | refine b_alloc ?_ _)); done) | fail)) | fail) (by simp [Value.oneCell']) (by omega) (by unfold maxLen; omega) (by omega) (sz_le SZr.out (by first | ((repeat (first | exact Below.refl _ _ | refine b_drew ?_ | refine b_alloc ?_ _)); done) | fail)) _ rfl ?_
                  intro g1 k1 w9 ho1' hg1' ha1' hl1'
                  have ho1 := Lib.hid ho1'; have hg1 := Lib.hid hg1'; have ha1 := Lib.hid ha1'
                  have hA1 : Hid (Below wr.heap.size wr _) := Lib.hid (bel_of hg1' (by first | ((repeat (first | exact Below.refl _ _ | refine b_drew ?_ | refine b_alloc ?_ _)); done) | fail))
                  have bx9 := Lib.hid (bx_grow hg1' (fun e => by have := Own0.own_ge0 OBr.out _ e.symm; have := QS.out; omega) (bx_keep hA1.out BXr.out))
                  have oc9 := Lib.hid (own_apart (Own0.own_below hA1.out OCr.out) hg1' (fun g hg e => DJ.out g e hg))
                  clear ho1' hg1' ha1' hl1'
                  try go_simp
                  refine hK.out _ _ (fun _ => ⟨keep (by first | ((repeat (first | exact Below.refl _ _ | refine b_drew ?_ | refine b_alloc ?_ _)); done) | fail) bx9.out.c1, keep (by first | ((repeat (first | exact Below.refl _ _ | refine b_drew ?_ | refine b_alloc ?_ _)); done) | fail) bx9.out.c2⟩) ?_
                  clear hK K
                  refine Late.take0 (i := 10) (v := ?_) rfl (by kernel_rfl) (fun _ _ _ h => h) (Or.inl ⟨by rfl, ?_⟩) ⟨keep (by first | ((repeat (first | exact Below.refl _ _ | refine b_drew ?_ | refine b_alloc ?_ _)); done) | fail) bx9.out.c1, keep (by first | ((repeat (first | exact Below.refl _ _ | refine b_drew ?_ | refine b_alloc ?_ _)); done) | fail) bx9.out.c2⟩ ?_
                  rotate_left
                  · (intro wq hSw; clear hSw; go_simp <;> with_reducible rfl)
                  simp only [Act.put, List.setIfInBounds_toArray]
                  refine Late.ready (rs := [9]) (by kernel_rfl) (by simp) (Late.each_cons rfl (fun K hK => ?_) Late.each_nil)
                  refine step_append_lies _ (by rfl) (.tmp 85) (.tmp 87) 78 (by rfl) w2.heap.size 83 i2 _ 1 24 Tryz.underlying78 IH.out.1 IH.out.2.1 IH.out.2.2.1 IH.out.2.2.2 rfl (by omega) oc i (rowG 1 (fun k _ => RC k) i) (by first | rfl | (simp [Act.eval]; done) | fail) (Own0.own_below (by first | ((repeat (first | exact Below.refl _ _ | refine b_drew ?_ | refine b_alloc ?_ _)); done) | fail) oc9.out) _ 1 1 [.slice A9 Li.length c9] (by first | rfl | (simp [Act.eval]; done) | fail) (by rfl) (by first | exact World.news_of_block (cs := #[.slice A9 Li.length c9]) (t := 83) (fr := (0, 0)) (blk_keep (heap_alloc_new w9 (.cells #[.slice A9 Li.length c9] 83)) (by first | ((repeat (first | exact Below.refl _ _ | refine b_drew ?_ | refine b_alloc ?_ _)); done) | fail)) | exact World.news_of_block (cs := #[.slice A9 Li.length c9]) (t := 83) (fr := (0, 0)) ((hg1.out.block (wr.heap.size + 1) (by first | (simp; done) | (simp; omega) | fail) (fun e => by have := Own0.own_lt OBr.out _ e.symm; omega)).trans (blk_keep (heap_second wr (.cells #[.slice A8 Li.length c8] 83) (.cells #[.slice A9 Li.length c9] 83)) (by first | ((repeat (first | exact Below.refl _ _ | refine b_drew ?_ | refine b_alloc ?_ _)); done) | fail))) | exact World.news_of_block (cs := #[.slice A9 Li.length c9]) (t := 83) (fr := (0, 0)) ((hg1.out.block wr.heap.size (by first | (simp; done) | (simp; omega) | fail) (fun e => by have := Own0.own_lt OBr.out _ e.symm; omega)).trans (blk_keep (heap_alloc_new wr (.cells #[.slice A9 Li.length c9] 83)) (by first | ((repeat (first | exact Below.refl _ _ | refine b_drew ?_ | refine b_alloc ?_ _)); done) | fail))) | fail) (by simp [Value.oneCell']) (by omega) (by unfold maxLen; omega) (by omega) (sz_le (Nat.le_trans SZr.out (Nat.le_trans hA1.out.size hg1.out.size)) (by first | ((repeat (first | exact Below.refl _ _ | refine b_drew ?_ | refine b_alloc ?_ _)); done) | fail)) _ rfl ?_
                  intro g2 k2 w10 ho2' hg2' ha2' hl2'
                  have ho2 := Lib.hid ho2'; have hg2 := Lib.hid hg2'; have ha2 := Lib.hid ha2'
                  have hA2 : Hid (Below w9.heap.size w9 _) := Lib.hid (bel_of hg2' (by first | ((repeat (first | exact Below.refl _ _ | refine b_drew ?_ | refine b_alloc ?_ _)); done) | fail))
                  have bx10 := Lib.hid (bx_grow hg2' (fun e => by have := Own0.own_ge0 oc9.out _ e.symm; have := QS.out; omega) (bx_keep hA2.out bx9.out))
                  obtain ⟨r0, r1, r2, r3, r4, r5⟩ := bx10.out
                  clear ho2' hg2' ha2' hl2' r0
                  try go_simp
                  refine hK.out _ _ (fun _ => ⟨bx10.out.c1, bx10.out.c2⟩) ?_
                  clear hK K
                  refine Late.ready (rs := [11]) (by kernel_rfl) (by simp) (Late.each_cons rfl (fun K hK => ?_) Late.each_nil)
                  go_simp
                  refine hK.out _ _ (fun h => absurd h (by decide)) ?_
                  clear hK K
                  refine Late.ready (rs := [12]) (by kernel_rfl) (by simp) (Late.each_cons rfl (fun K hK => ?_) Late.each_nil)
                  go_simp
                  refine hK.out _ _ (fun h => absurd h (by decide)) ?_
                  clear hK K
                  refine Late.ready (rs := [13]) (by kernel_rfl) (by simp) (Late.each_cons rfl (fun K hK => ?_) Late.each_nil)
                  go_simp
                  refine hK.out _ _ (fun h => absurd h (by decide)) ?_
                  clear hK K
                  refine Late.done (by kernel_rfl) ?_ _
                  have RE := round_end (d := fun i => (Ls i).length) (lk := fun i j => (lk i j : Int)) (dd := dd) QS.out SZr.out BXr.out OBr.out OCr.out DJ.out (fun k hk => ap_keep HW.out (AB.out k hk)) (fun k hk => ap_keep HW.out (AC.out k hk)) XB.out XC.out (kq_below HW.out KQ.out) (BR.out.trans (HW.out.mono (Nat.le_of_lt (lt_of_cell BX.out.c0)))) hA1.out hg1.out ha1.out ho1.out hA2.out hg2.out ha2.out ho2.out
                  refine ⟨?_, ?_, g1, k1, g2, k2, ?_, RE⟩
                  rotate_left 2
                  (simp only [Kit.puts, Act.put, List.setIfInBounds_toArray, List.set_cons_zero, List.set_cons_succ] <;> rfl)
              · go_simp
                refine hK.out _ _ (fun _ => ⟨keep (by first | ((repeat (first | exact Below.refl _ _ | refine b_drew ?_ | refine b_alloc ?_ _)); done) | fail) z1, keep (by first | ((repeat (first | exact Below.refl _ _ | refine b_drew ?_ | refine b_alloc ?_ _)); done) | fail) z2⟩) ?_
                clear hK K
                refine Late.ready (rs := [3]) (by kernel_rfl) (by simp) (Late.each_cons rfl (fun K hK => ?_) Late.each_nil)
                go_simp
                refine hK.out _ _ (fun _ => ⟨keep (by first | ((repeat (first | exact Below.refl _ _ | refine b_drew ?_ | refine b_alloc ?_ _)); done) | fail) z1, keep (by first | ((repeat (first | exact Below.refl _ _ | refine b_drew ?_ | refine b_alloc ?_ _)); done) | fail) z2⟩) ?_
                clear hK K
                refine Late.ready (rs := [4]) (by kernel_rfl) (by simp) (Late.each_cons rfl (fun K hK => ?_) Late.each_nil)
                refine step_append_lies _ (by rfl) (.tmp 80) (.tmp 82) 78 (by rfl) w2.heap.size 83 i2 _ 1 24 Tryz.underlying78 IH.out.1 IH.out.2.1 IH.out.2.2.1 IH.out.2.2.2 rfl (by omega) ob i (rowG 1 (fun k _ => RB k) i) (by first | rfl | (simp [Act.eval]; done) | fail) (Own0.own_below (by first | ((repeat (first | exact Below.refl _ _ | refine b_drew ?_ | refine b_alloc ?_ _)); done) | fail) OBr.out) _ 1 1 [.slice A8 Li.length c8] (by first | rfl | (simp [Act.eval]; done) | fail) (by rfl) (by first | exact World.news_of_block (cs := #[.slice A8 Li.length c8]) (t := 83) (fr := (0, 0)) (blk_keep (heap_alloc_new wr (.cells #[.slice A8 Li.length c8] 83)) (by first | ((repeat (first | exact Below.refl _ _ | refine b_drew ?_ | refine b_alloc ?_ _)); done) | fail)) | exact World.news_of_block (cs := #[.slice A8 Li.length c8]) (t := 83) (fr := (0, 0)) (blk_keep (heap_second wr (.cells #[.slice A9 Li.length c9] 83) (.cells #[.slice A8 Li.length c8] 83)) (by first | ((repeat (first | exact Below.refl _ _ | refine b_drew ?_ | refine b_alloc ?_ _)); done) | fail)) | fail) (by simp [Value.oneCell']) (by omega) (by unfold maxLen; omega) (by omega) (sz_le SZr.out (by first | ((repeat (first | exact Below.refl _ _ | refine b_drew ?_ | refine b_alloc ?_ _)); done) | fail)) _ rfl ?_
                intro g1 k1 w9 ho1' hg1' ha1' hl1'
                have ho1 := Lib.hid ho1'; have hg1 := Lib.hid hg1'; have ha1 := Lib.hid ha1'
                have hA1 : Hid (Below wr.heap.size wr _) := Lib.hid (bel_of hg1' (by first | ((repeat (first | exact Below.refl _ _ | refine b_drew ?_ | refine b_alloc ?_ _)); done) | fail))
                have bx9 := Lib.hid (bx_grow hg1' (fun e => by have := Own0.own_ge0 OBr.out _ e.symm; have := QS.out; omega) (bx_keep hA1.out BXr.out))
                have oc9 := Lib.hid (own_apart (Own0.own_below hA1.out OCr.out) hg1' (fun g hg e => DJ.out g e hg))
                clear ho1' hg1' ha1' hl1'
                try go_simp
                refine hK.out _ _ (fun _ => ⟨keep (by first | ((repeat (first | exact Below.refl _ _ | refine b_drew ?_ | refine b_alloc ?_ _)); done) | fail) bx9.out.c1, keep (by first | ((repeat (first | exact Below.refl _ _ | refine b_drew ?_ | refine b_alloc ?_ _)); done) | fail) bx9.out.c2⟩) ?_
                clear hK K
                refine Late.take0 (i := 10) (v := ?_) rfl (by kernel_rfl) (fun _ _ _ h => h) (Or.inl ⟨by rfl, ?_⟩) ⟨keep (by first | ((repeat (first | exact Below.refl _ _ | refine b_drew ?_ | refine b_alloc ?_ _)); done) | fail) bx9.out.c1, keep (by first | ((repeat (first | exact Below.refl _ _ | refine b_drew ?_ | refine b_alloc ?_ _)); done) | fail) bx9.out.c2⟩ ?_
                rotate_left
                · (intro wq hSw; clear hSw; go_simp <;> with_reducible rfl)
                simp only [Act.put, List.setIfInBounds_toArray]
                refine Late.ready (rs := [9]) (by kernel_rfl) (by simp) (Late.each_cons rfl (fun K hK => ?_) Late.each_nil)
                refine step_append_lies _ (by rfl) (.tmp 85) (.tmp 87) 78 (by rfl) w2.heap.size 83 i2 _ 1 24 Tryz.underlying78 IH.out.1 IH.out.2.1 IH.out.2.2.1 IH.out.2.2.2 rfl (by omega) oc i (rowG 1 (fun k _ => RC k) i) (by first | rfl | (simp [Act.eval]; done) | fail) (Own0.own_below (by first | ((repeat (first | exact Below.refl _ _ | refine b_drew ?_ | refine b_alloc ?_ _)); done) | fail) oc9.out) _ 1 1 [.slice A9 Li.length c9] (by first | rfl | (simp [Act.eval]; done) | fail) (by rfl) (by first | exact World.news_of_block (cs := #[.slice A9 Li.length c9]) (t := 83) (fr := (0, 0)) (blk_keep (heap_alloc_new w9 (.cells #[.slice A9 Li.length c9] 83)) (by first | ((repeat (first | exact Below.refl _ _ | refine b_drew ?_ | refine b_alloc ?_ _)); done) | fail)) | exact World.news_of_block (cs := #[.slice A9 Li.length c9]) (t := 83) (fr := (0, 0)) ((hg1.out.block (wr.heap.size + 1) (by first | (simp; done) | (simp; omega) | fail) (fun e => by have := Own0.own_lt OBr.out _ e.symm; omega)).trans (blk_keep (heap_second wr (.cells #[.slice A8 Li.length c8] 83) (.cells #[.slice A9 Li.length c9] 83)) (by first | ((repeat (first | exact Below.refl _ _ | refine b_drew ?_ | refine b_alloc ?_ _)); done) | fail))) | exact World.news_of_block (cs := #[.slice A9 Li.length c9]) (t := 83) (fr := (0, 0)) ((hg1.out.block wr.heap.size (by first | (simp; done) | (simp; omega) | fail) (fun e => by have := Own0.own_lt OBr.out _ e.symm; omega)).trans (blk_keep (heap_alloc_new wr (.cells #[.slice A9 Li.length c9] 83)) (by first | ((repeat (first | exact Below.refl _ _ | refine b_drew ?_ | refine b_alloc ?_ _)); done) | fail))) | fail) (by simp [Value.oneCell']) (by omega) (by unfold maxLen; omega) (by omega) (sz_le (Nat.le_trans SZr.out (Nat.le_trans hA1.out.size hg1.out.size)) (by first | ((repeat (first | exact Below.refl _ _ | refine b_drew ?_ | refine b_alloc ?_ _)); done) | fail)) _ rfl ?_
                intro g2 k2 w10 ho2' hg2' ha2' hl2'
                have ho2 := Lib.hid ho2'; have hg2 := Lib.hid hg2'; have ha2 := Lib.hid ha2'
                have hA2 : Hid (Below w9.heap.size w9 _) := Lib.hid (bel_of hg2' (by first | ((repeat (first | exact Below.refl _ _ | refine b_drew ?_ | refine b_alloc ?_ _)); done) | fail))
                have bx10 := Lib.hid (bx_grow hg2' (fun e => by have := Own0.own_ge0 oc9.out _ e.symm; have := QS.out; omega) (bx_keep hA2.out bx9.out))
                obtain ⟨r0, r1, r2, r3, r4, r5⟩ := bx10.out
                clear ho2' hg2' ha2' hl2' r0
                try go_simp
                refine hK.out _ _ (fun _ => ⟨bx10.out.c1, bx10.out.c2⟩) ?_
                clear hK K
                refine Late.ready (rs := [11]) (by kernel_rfl) (by simp) (Late.each_cons rfl (fun K hK => ?_) Late.each_nil)
                go_simp
                refine hK.out _ _ (fun h => absurd h (by decide)) ?_
                clear hK K
                refine Late.ready (rs := [12]) (by kernel_rfl) (by simp) (Late.each_cons rfl (fun K hK => ?_) Late.each_nil)
                go_simp
                refine hK.out _ _ (fun h => absurd h (by decide)) ?_
                clear hK K
                refine Late.ready (rs := [13]) (by kernel_rfl) (by simp) (Late.each_cons rfl (fun K hK => ?_) Late.each_nil)
                go_simp
                refine hK.out _ _ (fun h => absurd h (by decide)) ?_
                clear hK K
                refine Late.done (by kernel_rfl) ?_ _
                have RE := round_end (d := fun i => (Ls i).length) (lk := fun i j => (lk i j : Int)) (dd := dd) QS.out SZr.out BXr.out OBr.out OCr.out DJ.out (fun k hk => ap_keep HW.out (AB.out k hk)) (fun k hk => ap_keep HW.out (AC.out k hk)) XB.out XC.out (kq_below HW.out KQ.out) (BR.out.trans (HW.out.mono (Nat.le_of_lt (lt_of_cell BX.out.c0)))) hA1.out hg1.out ha1.out ho1.out hA2.out hg2.out ha2.out ho2.out
                refine ⟨?_, ?_, g1, k1, g2, k2, ?_, RE⟩
                rotate_left 2
                (simp only [Kit.puts, Act.put, List.setIfInBounds_toArray, List.set_cons_zero, List.set_cons_succ] <;> rfl)
        · obtain rfl : i = k := by omega
          have hl : ¬ (i : Int) < (i : Int) := by omega
          have BXr := BX.out
          have W1 : Hid (Bx wr (w.heap.size + 1) (.slice none 0 0) (.slice none 0 0) (.slice none 0 0)) := Lib.hid (bx_keepN BR.out (by omega) X1.out)
          have E1 := Lib.hid (lv_end OB.out (lt_of_cell BX2.out.c0) AB.out); have E2 := Lib.hid (lv_end OC.out (lt_of_cell BX2.out.c0) AC.out)
          obtain ⟨Ab, cb, rfl⟩ := Own0.own_slice0 OB.out
          obtain ⟨Ac, cc, rfl⟩ := Own0.own_slice0 OC.out
          obtain ⟨y0, y1, y2, y3, y4, y5⟩ := BX.out
          obtain ⟨z0, z1, z2, z3, z4, z5⟩ := W1.out
          go_wp2_with fail
          have R3 := bx_set2 (bx_set1 (bx_set0 W1.out (.slice Ao i co)) (.slice Ab i cb)) (.slice Ac i cc)
          refine bodyPost_ret (v := .agg #[.slice Ao i co, .slice Ab i cb, .slice Ac i cc]) (by simp [results, Tryz.results51, go_sem, R3.c0, R3.c1, R3.c2]) rfl ⟨⟨_, _, _, rfl, fun W hW => ?_⟩, ?_⟩
          · have hk : Kq q wr W := fun a u ha hc => hW a u (by omega) (kq_set (kq_set (kq_set (kq_refl q wr) ⟨w.heap.size + 1, 0, none⟩ (by show w.heap.size + 1 ≤ q; omega) (.slice Ao i co)) ⟨w.heap.size + 1, 1, none⟩ (by show w.heap.size + 1 ≤ q; omega) (.slice Ab i cb)) ⟨w.heap.size + 1, 2, none⟩ (by show w.heap.size + 1 ≤ q; omega) (.slice Ac i cc) a u ha hc)
            exact ⟨HSV.out W (kq_trans KQ.out hk), E1.out W hk, E2.out W hk⟩
          · exact ((BW.out.setCell (p := ⟨w.heap.size + 1, 0, none⟩) (by show w.heap.size ≤ w.heap.size + 1; omega) _).setCell (p := ⟨w.heap.size + 1, 1, none⟩) (by show w.heap.size ≤ w.heap.size + 1; omega) _).setCell (p := ⟨w.heap.size + 1, 2, none⟩) (by show w.heap.size ≤ w.heap.size + 1; omega) _
end Net
end Go.Proofs.YtmkglhoahdlogaaGreatDoor
