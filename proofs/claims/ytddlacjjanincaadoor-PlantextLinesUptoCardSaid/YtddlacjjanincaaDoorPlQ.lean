/- plantext.ParseAll: its contract. -/
import Derived.Test.YtddlacjjanincaaDoorPlP
import Derived.Test.YtddlacjjanincaaDoorPlS
import Derived.Test.YtddlacjjanincaaDoorPtU
namespace Go.Proofs.YtddlacjjanincaaDoor
open Go.RowKit
namespace Pt
open Kit Chart Route Plan Name
/-- The cells of a plan in a row. -/
def rowP (P : Nat → Pl) (R : Nat → Value) (i j : Nat) : Value :=
  if j = 0 then .string (P i).c else if j = 1 then .string (P i).k else if j = 2 then .string (P i).f else if j = 3 then .string (P i).t else if j = 4 then .int .i64 (P i).x else if j = 5 then .int .i64 (P i).y else if j = 6 then .int .i64 (P i).z else R i
theorem pv_own {w : World} {base : Nat} {E : TypeId} {v : Value} {n : Nat} {P : Nat → Pl} {R : Nat → Value} (h : OwnG w base E 8 v n (rowP P R)) (hR : ∀ i, i < n → SL w (R i) (P i).r) : PV w v n P := by
  rcases Nat.eq_zero_or_pos n with rfl | h0
  · rcases h.2 with ⟨rfl, -⟩ | ⟨g, cap, cur, rfl, -, -, -, hc, -⟩
    · exact Or.inl ⟨rfl, Or.inl rfl⟩
    · exact Or.inl ⟨rfl, Or.inr ⟨_, cap, rfl, hc⟩⟩
  · obtain ⟨g, cap, rfl, -, -, h1, h2, hg⟩ := ownG_row h h0
    refine Or.inr ⟨h0, g, 0, cap, rfl, h1, h2, fun k hk => ?_⟩
    have q := fun j hj => hg.cell k hk j hj
    refine ⟨?_, ?_, ?_, ?_, ?_, ?_, ?_, R k, ?_, hR k hk⟩
    all_goals rw [Nat.zero_add]
    · exact q 0 (by decide)
    · exact q 1 (by decide)
    · exact q 2 (by decide)
    · exact q 3 (by decide)
    · exact q 4 (by decide)
    · exact q 5 (by decide)
    · exact q 6 (by decide)
    · exact q 7 (by decide)
theorem rowP_next (P : Nat → Pl) (R : Nat → Value) (k : Nat) (p : Pl) (v : Value) : rowG 8 (rowP P R) k ++ [.string p.c, .string p.k, .string p.f, .string p.t, .int .i64 p.x, .int .i64 p.y, .int .i64 p.z, v] = rowG 8 (rowP (fun i => if i = k then p else P i) (fun i => if i = k then v else R i)) (k + 1) := by
  have e : rowG 8 (rowP (fun i => if i = k then p else P i) (fun i => if i = k then v else R i)) k = rowG 8 (rowP P R) k := rowG_congr fun i hi j _ => by
    unfold rowP
    dsimp only
    rw [if_neg (show ¬ i = k by omega), if_neg (show ¬ i = k by omega)]
  rw [rowG, e]
  congr 1
  simp [rowP, List.range, List.range.loop]
theorem new8 (w : World) (ty : TypeId) (a b c d e f g h : Value) : ∀ j u, ([a, b, c, d, e, f, g, h] : List Value)[j]? = some u → (w.alloc (.cells #[a, b, c, d, e, f, g, h] ty)).cell? ((⟨w.heap.size, 0, none⟩ : Addr).add j) = some u := fun j u hu => by
  rw [Go.WideShapes.add_plain]
  have hj : j < 8 := (List.getElem?_eq_some_iff.1 hu).1
  rcases (show j = 0 ∨ j = 1 ∨ j = 2 ∨ j = 3 ∨ j = 4 ∨ j = 5 ∨ j = 6 ∨ j = 7 by omega) with rfl | rfl | rfl | rfl | rfl | rfl | rfl | rfl <;> simpa using hu
theorem fits_plan : (Tryd.prog.info? 39).map (fun i => (i.zero, i.size, i.bytes)) = some (some zp, 8, 112) := by kernel_rfl
/-- A list that lies apart from an own slice. -/
def Apt (w : World) (o v : Value) (L : List ByteArray) : Prop := ∀ W : World, (∀ a u, o.ownBlock ≠ some a.block → w.cell? a = some u → W.cell? a = some u) → SL W v L
theorem apt_sl {w : World} {o v : Value} {L : List ByteArray} (h : Apt w o v L) : SL w v L := h w fun _ _ _ h => h
theorem apt_keep {w w1 : World} (hb : Below w.heap.size w w1) {o v : Value} {L : List ByteArray} (h : Apt w o v L) : Apt w1 o v L := fun W hW => h W fun a u ha hc => hW a u ha (keep hb hc)
theorem apt_grow {w w1 : World} {o o1 v : Value} {L : List ByteArray} (hg : w.grownBy w1 o.ownBlock) (ho : o1.ownBlock = o.ownBlock ∨ o1.ownBlock = some w.heap.size) (h : Apt w o v L) : Apt w1 o1 v L := fun W hW => h W fun a u ha hc => by
  refine hW a u ?_ (hg.cell hc fun e => ha e.symm)
  rcases ho with e | e
  · rw [e]; exact ha
  · rw [e]; intro e2; injection e2 with e2; have := lt_of_cell hc; omega
theorem apt_new {w w3 w4 : World} {base : Nat} {E : TypeId} {C n : Nat} {o v : Value} {f : Nat → Nat → Value} {L : List ByteArray} (hb : Below w.heap.size w w3) (ho : OwnG w base E C o n f) (h : ∀ W : World, (∀ a u, w3.heap.size ≤ a.block → w4.cell? a = some u → W.cell? a = some u) → SL W v L) : Apt w4 o v L := fun W hW => h W fun a u ha hc => by
  refine hW a u (fun e => ?_) hc
  have h1 := Own0.own_lt ho _ e
  have h2 := hb.size
  omega
/-- What was read of k lines. -/
structure Red (Q : Nat → ByteArray) (P : Nat → Pl) (k : Nat) : Prop where
  fits : Fits P k
  text : ∀ i, i < k → (P i).txt = Q i
/-- What ParseAll answers. -/
inductive PaA (s : ByteArray) (m : Nat) (Q : Nat → ByteArray) (z : ByteArray) (e : Ending) (w' : World) : Prop
  | long : (¬ (s.size ≤ 8192 ∧ m ≤ 24 ∧ (z ≠ ⟨#[]⟩ → m + 1 ≤ 24))) → e = .returned (.tuple #[.slice none 0 0, .int .i64 0, .int .i64 2]) → PaA s m Q z e w'
  | form : z ≠ ⟨#[]⟩ → e = .returned (.tuple #[.slice none 0 0, .int .i64 ((m : Int) + 1), .int .i64 5]) → PaA s m Q z e w'
  | bad (k : Nat) (P : Nat → Pl) (E : Int) : z = ⟨#[]⟩ → k < m → Red Q P k → E ≠ 0 → (¬ Good (Q k) ∨ ∃ p : Pl, p.ok ∧ p.txt = Q k ∧ hasC P k p.c = true) → e = .returned (.tuple #[.slice none 0 0, .int .i64 ((k : Int) + 1), .int .i64 E]) → PaA s m Q z e w'
  | ok (P : Nat → Pl) (v : Value) : z = ⟨#[]⟩ → m ≤ 24 → Red Q P m → PV w' v m P → e = .returned (.tuple #[v, .int .i64 0, .int .i64 0]) → PaA s m Q z e w'
theorem paA_next {s : ByteArray} {m : Nat} {Q : Nat → ByteArray} {z : ByteArray} {e : Ending} {w w' : World} (h : PaA s m Q z e w) (hb : Below w.heap.size w w') : PaA s m Q z e w' := by
  cases h with
  | long h1 h2 => exact .long h1 h2
  | form h1 h2 => exact .form h1 h2
  | bad k P E h1 h2 h3 h4 h5 h6 => exact .bad k P E h1 h2 h3 h4 h5 h6
  | ok P v h1 h2 h3 h4 h5 => exact .ok P v h1 h2 h3 (pv_keep hb h4) h5
abbrev SaC (s : ByteArray) (m : Nat) (L : Nat → ByteArray) (z : ByteArray) (w : World) : Prop := ∀ w1, Below w.heap.size w w1 → Calls Tryd.prog 38 #[.string s, .string nl] w1 fun e w' => (∃ g, e = .returned (.slice (some ⟨g, 0, none⟩) (m + 1) (m + 1)) ∧ (∀ k, k < m → w'.cell? ⟨g, k, none⟩ = some (.string (L k))) ∧ w'.cell? ⟨g, m, none⟩ = some (.string z)) ∧ Below w1.heap.size w1 w'
abbrev HsC (s : ByteArray) (h : Bool) (w : World) : Prop := ∀ w1, Below w.heap.size w w1 → Calls Tryd.prog 39 #[.string s, .string nl] w1 fun e w' => e = .returned (.bool h) ∧ Below w1.heap.size w1 w'
set_option maxRecDepth 100000 in
set_option maxHeartbeats 4000000 in
/-- A rest behind the last end. -/
theorem paall_rest (s : ByteArray) (m : Nat) (L : Nat → ByteArray) (Q : Nat → ByteArray) (z : ByteArray) (w : World) (hm : m ≤ 2000000) (hz : (z.toList == ([] : List UInt8)) = false) (hzn : z ≠ ⟨#[]⟩) (_hs1 : ¬ s.toList = []) (hs2 : s.toList.isEmpty = false)
    (SA : Hid (SaC s m L z w)) (HS : Hid (HsC s false w)) : Calls Tryd.prog 21 #[.string s] w fun e w' => PaA s m Q z e w' ∧ Below w.heap.size w w' := by
  have u1 : IntKind.i64.wrap (((m + 1 : Nat) : Int) - 1) = (m : Int) := by rw [IntWalk.i64_in _ (by omega)]; omega
  have u2 : (m : Int) < ((m + 1 : Nat) : Int) := by omega
  have ZN := Lib.hid hzn; clear hzn
  go_enter Tryd.func21, Tryd.ntmps21
  go_wp2_with fail
  (with_reducible refine (SA.out _ (Below.refl _ _)).mono ?_); rintro e w1 ⟨⟨g, rfl, hc, c1⟩, hb⟩
  have B1 := Lib.hid hb; clear hb hc
  by_cases a1 : (8192 : Int) < (s.size : Int)
  · go_wp2_with fail
    go_ret3
    exact ⟨.long (fun q => by omega) rfl, B1.out⟩
  · by_cases a2 : (24 : Int) < ((m + 1 : Nat) : Int)
    · go_wp2_with fail
      go_ret3
      exact ⟨.long (fun q => by have := q.2.2 ZN.out; omega) rfl, B1.out⟩
    · go_wp2_with fail
      (with_reducible refine (HS.out _ B1.out).mono ?_); rintro e w2 ⟨rfl, hb⟩
      have B2 := Lib.hid (b_next B1.out hb); clear hb
      go_wp2_with fail
      go_ret3
      exact ⟨.form ZN.out rfl, B2.out⟩
set_option maxRecDepth 100000 in
set_option maxHeartbeats 8000000 in
/-- All lines have their ends. -/
theorem paall_lines (s : ByteArray) (m : Nat) (L : Nat → ByteArray) (Q : Nat → ByteArray) (w : World) (hm : m ≤ 2000000)
    (SA : Hid (SaC s m L ⟨#[]⟩ w)) (HS : Hid ((s.toList = [] ∧ s.toList.isEmpty = true) ∨ (¬ s.toList = [] ∧ s.toList.isEmpty = false ∧ HsC s true w)))
    (TR : Hid (∀ w1 k, k < m → Calls Tryd.prog 40 #[.string (L k), .string nl] w1 fun e w' => e = .returned (.string (Q k)) ∧ Below w1.heap.size w1 w'))
    (PC : Hid (∀ w1 k, Below w.heap.size w w1 → k < m → Calls Tryd.prog 18 #[.string (Q k)] w1 fun e w' => ParR w1.heap.size (Q k) e w' ∧ Below w1.heap.size w1 w'))
    (KW : Hid (∀ w1 v n P s, PV w1 v n P → Calls Tryd.prog 37 #[v, .string s] w1 fun e w' => e = .returned (.bool (hasC P n s)) ∧ Below w1.heap.size w1 w')) : Calls Tryd.prog 21 #[.string s] w fun e w' => PaA s m Q ⟨#[]⟩ e w' ∧ Below w.heap.size w w' := by
  have u1 : IntKind.i64.wrap (((m + 1 : Nat) : Int) - 1) = (m : Int) := by rw [IntWalk.i64_in _ (by omega)]; omega
  have u2 : (m : Int) < ((m + 1 : Nat) : Int) := by omega
  obtain ⟨i0, hi, hz0, hz1, hz2⟩ := info_parts fits_plan
  have IF := Lib.hid (And.intro hi (And.intro hz0 (And.intro hz1 hz2))); clear hi hz0 hz1 hz2
  go_enter Tryd.func21, Tryd.ntmps21
  go_wp2_with fail
  (with_reducible refine (SA.out _ (Below.refl _ _)).mono ?_); rintro e w1 ⟨⟨g, rfl, hc, c1⟩, hb⟩
  have B1 := Lib.hid hb; have LC := Lib.hid hc; clear hb hc
  by_cases a1 : (8192 : Int) < (s.size : Int)
  · go_wp2_with fail
    go_ret3
    exact ⟨.long (fun q => by omega) rfl, B1.out⟩
  · by_cases a2 : (24 : Int) < (m : Int)
    · go_wp2_with fail
      go_ret3
      exact ⟨.long (fun q => by omega) rfl, B1.out⟩
    · have hm24 : m ≤ 24 := by omega
      rcases HS.out with ⟨h5, h6⟩ | ⟨h5, h6, HSC⟩
      · go_wp2_with fail
        obtain ⟨w2, hw2⟩ : ∃ w2, w2 = w1 := ⟨_, rfl⟩
        subst hw2
        have B2 := B1; have L2 := LC
        clear HS SA h5 h6 c1
        go_loopw [6, 44] (fun o s wr => ∃ (k : Nat) (P : Nat → Pl) (R : Nat → Value), k ≤ m ∧ s = .int .i64 k ∧ OwnG wr w2.heap.size 39 8 o k (rowP P R) ∧ (∀ i, i < k → Apt wr o (R i) (P i).r) ∧ Red Q P k ∧ Below w2.heap.size w2 wr) (fun _ s _ => m - (intOf s).toNat)
        case atStart => exact ⟨0, fun _ => ⟨⟨#[]⟩, ⟨#[]⟩, ⟨#[]⟩, ⟨#[]⟩, 0, 0, 0, []⟩, fun _ => .slice none 0 0, Nat.zero_le _, rfl, ownG_nil _ _ _ _ _, fun i hi => absurd hi (Nat.not_lt_zero i), ⟨⟨fun i hi => absurd hi (Nat.not_lt_zero i), fun i hi => absurd hi (Nat.not_lt_zero i)⟩, fun i hi => absurd hi (Nat.not_lt_zero i)⟩, Below.refl _ _⟩
        case round =>
          obtain ⟨k, P, R, hk, rfl, hown, hR, hred, hbl⟩ := hrel
          have OW := Lib.hid hown; have HR := Lib.hid hR; have RD := Lib.hid hred; have BR := Lib.hid hbl; have BW := Lib.hid (b_next B2.out hbl)
          clear hown hR hred
          by_cases hlt : k < m
          · have hl : (k : Int) < (m : Int) := by omega
            have c0 := keep hbl (L2.out k hlt)
            have TK := Lib.hid fun w1 => TR.out w1 k hlt
            have PK := Lib.hid fun w1 (hb : Below w.heap.size w w1) => PC.out w1 k hb hlt
            have ND : Hid (∀ p : Pl, p.ok → p.txt = Q k → hasC P k p.c = false → Red Q (fun i => if i = k then p else P i) (k + 1)) := Lib.hid fun p h1 h2 h3 => by
              have e : ∀ i, i < k → (if i = k then p else P i) = P i := fun i hi => if_neg (by omega)
              have e0 : (if k = k then p else P k) = p := if_pos rfl
              refine ⟨⟨fun i hi => ?_, fun i hi j hj => ?_⟩, fun i hi => ?_⟩
              · rcases Nat.lt_or_ge i k with hl | hl
                · show Pl.ok (if i = k then p else P i); rw [e i hl]; exact RD.out.fits.ok i hl
                · obtain rfl : i = k := by omega
                  show Pl.ok (if i = i then p else P i); rw [if_pos rfl]; exact h1
              · rcases Nat.lt_or_ge i k with hl | hl
                · show (if j = k then p else P j).c ≠ (if i = k then p else P i).c; rw [e i hl, e j (by omega)]; exact RD.out.fits.one i hl j hj
                · obtain rfl : i = k := by omega
                  show (if j = i then p else P j).c ≠ (if i = i then p else P i).c; rw [if_pos rfl, e j hj]
                  intro q
                  have := hasC_iff.2 ⟨j, hj, q⟩
                  rw [h3] at this; cases this
              · rcases Nat.lt_or_ge i k with hl | hl
                · show Pl.txt (if i = k then p else P i) = _; rw [e i hl]; exact RD.out.text i hl
                · obtain rfl : i = k := by omega
                  show Pl.txt (if i = i then p else P i) = _; rw [if_pos rfl]; exact h2
            have u3 : IntKind.i64.wrap ((k : Int) + 1) = (k : Int) + 1 := IntWalk.i64_in _ (by omega)
            clear hbl
            go_wp2_with fail
            (with_reducible refine (TK.out _).mono ?_); rintro e w3 ⟨rfl, hb⟩
            have B3 := Lib.hid (b_next BW.out hb); have D3 := Lib.hid hb; clear hb
            go_wp2_with fail
            (with_reducible refine (PK.out _ B3.out).mono ?_); rintro e w4 ⟨hp, hb⟩
            have B4 := Lib.hid (b_next B3.out hb); have D4 := Lib.hid (b_next D3.out hb); clear hb
            rcases hp with ⟨E, hE, rfl, hbad⟩ | ⟨pc, pk, pf, pt, px, py, pz, pr, v, ok, ht, rfl, hvF⟩
            · have h3 : (E == 0) = false := by simpa using hE
              have h4 : (E != 0) = true := by simpa using hE
              have HE := Lib.hid hE; have HBAD := Lib.hid hbad
              clear hE hbad
              go_wp2_with fail
              go_ret3
              exact ⟨.bad k P E rfl hlt RD.out HE.out (Or.inl HBAD.out) rfl, b_alloc B4.out _⟩
            · have OKP := Lib.hid (show Pl.ok ⟨pc, pk, pf, pt, px, py, pz, pr⟩ from ok); have HTP := Lib.hid (show Pl.txt ⟨pc, pk, pf, pt, px, py, pz, pr⟩ = Q k from ht)
              clear ok ht
              have hv := hvF w4 fun _ _ _ h => h
              have AP4 := Lib.hid (apt_new D3.out OW.out hvF); clear hvF
              obtain ⟨A', ca, rfl⟩ := sl_slice hv
              generalize hnr : pr.length = nr at *
              have W5 := b_alloc (Below.refl w4.heap.size w4) (.cells #[.string pc, .string pk, .string pf, .string pt, .int .i64 px, .int .i64 py, .int .i64 pz, .slice A' nr ca] 39)
              have B5 := Lib.hid (b_next B4.out W5); have D5 := Lib.hid (b_next D4.out W5); have V5 := Lib.hid (sl_keep W5 hv)
              have N5 := Lib.hid (n8_new w4 39 pc pk pf pt px py pz (.slice A' nr ca))
              clear W5 hv hnr
              have PVN := Lib.hid (pv_own (ownG_keep D5.out OW.out) fun i hi => sl_keep D5.out (apt_sl (HR.out i hi)))
              have KN := Lib.hid (KW.out _ _ _ _ pc PVN.out)
              have NDp := Lib.hid (ND.out _ OKP.out HTP.out)
              have BADp : Hid (hasC P k pc = true → ∃ p : Pl, p.ok ∧ p.txt = Q k ∧ hasC P k p.c = true) := Lib.hid fun h => ⟨_, OKP.out, HTP.out, h⟩
              clear ND
              generalize hasC P k pc = kn at *
              cases kn with
              | true =>
                go_wp2_with fail
                (with_reducible refine KN.out.mono ?_); rintro e w6 ⟨rfl, hb⟩
                have B6 := Lib.hid (b_next B5.out hb); clear hb
                go_wp2_with fail
                go_ret3
                exact ⟨.bad k P 7 rfl hlt RD.out (by decide) (Or.inr (by first | exact BADp.out rfl | exact BADp.out trivial)) rfl, B6.out⟩
              | false =>
                go_wp2_with fail
                (with_reducible refine KN.out.mono ?_); rintro e w6 ⟨rfl, hb⟩
                have B6 := Lib.hid (b_next B5.out hb); have D6 := Lib.hid (b_next D5.out hb); have E6 := Lib.hid hb; have V6 := Lib.hid (sl_keep hb V5.out); have N6 := Lib.hid (n8_keep hb N5.out); clear hb
                obtain ⟨y0, y1, y2, y3, y4, y5, y6, y7⟩ := N6.out
                have W7 := b_alloc (Below.refl w6.heap.size w6) (.cells #[.string pc, .string pk, .string pf, .string pt, .int .i64 px, .int .i64 py, .int .i64 pz, .slice A' nr ca] 39)
                have D7 := Lib.hid (b_next D6.out W7); have D47 := Lib.hid (b_next (b_next (b_alloc (Below.refl w4.heap.size w4) (.cells #[.string pc, .string pk, .string pf, .string pt, .int .i64 px, .int .i64 py, .int .i64 pz, .slice A' nr ca] 39)) E6.out) W7)
                have OS := Lib.hid (ownG_keep D7.out OW.out)
                have NS := Lib.hid (new8 w6 39 (.string pc) (.string pk) (.string pf) (.string pt) (.int .i64 px) (.int .i64 py) (.int .i64 pz) (.slice A' nr ca))
                have NB := Lib.hid (Nat.le_trans BR.out.size (D7.out.size))
                clear W7
                go_wp2_with (at_builtin; refine wpList_append_own_at _ rfl (.tmp 68) (.tmp 70) 47 rfl w2.heap.size 39 i0 _ 8 112 Tryd.underlying47 IF.out.1 IF.out.2.1 IF.out.2.2.1 IF.out.2.2.2 rfl (by decide) _ k _ rfl OS.out ⟨w6.heap.size, 0, none⟩ 1 1 [.string pc, .string pk, .string pf, .string pt, .int .i64 px, .int .i64 py, .int .i64 pz, .slice A' nr ca] rfl rfl NS.out (by simp [Value.oneCell']) (by unfold maxLen; omega) (by omega) NB.out ?_; intro v2 w8 hown1' hg1' hnil1 hat1'; have hown1 := Lib.hid hown1'; have hg1 := Lib.hid hg1'; have hat1 := Lib.hid hat1'; clear hnil1 hown1' hg1' hat1')
                have D8 := Lib.hid (growG_below (b_next BR.out D7.out) OS.out hg1.out (Nat.le_refl _) NB.out)
                have V8 : Hid (∀ i, i < k + 1 → Apt w8 v2 ((fun i => if i = k then (.slice A' nr ca) else R i) i) ((fun i => if i = k then (⟨pc, pk, pf, pt, px, py, pz, pr⟩ : Pl) else P i) i).r) := Lib.hid fun i hi => by
                  dsimp only
                  by_cases e : i = k
                  · rw [if_pos e, if_pos e]; exact apt_grow hg1.out hat1.out (apt_keep D47.out AP4.out)
                  · rw [if_neg e, if_neg e]; exact apt_grow hg1.out hat1.out (apt_keep D7.out (HR.out i (by omega)))
                go_wp2_with fail
                go_roundw
                case rel => exact ⟨k + 1, _, _, by omega, by go_num, (by have q := hown1.out; rw [rowP_next P R k ⟨pc, pk, pf, pt, px, py, pz, pr⟩] at q; exact q), V8.out, (by first | exact NDp.out rfl | exact NDp.out trivial), D8.out⟩
                case measure => simp [intOf]; omega
          · obtain rfl : k = m := by omega
            have hl : ¬ (k : Int) < (k : Int) := by omega
            have PVN := Lib.hid (pv_own OW.out fun i hi => apt_sl (HR.out i hi))
            clear hbl
            go_wp2_with fail
            go_ret3
            exact ⟨.ok P _ rfl hm24 RD.out PVN.out rfl, BW.out⟩
      · have HSH := Lib.hid HSC; clear HSC
        go_wp2_with fail
        (with_reducible refine (HSH.out _ B1.out).mono ?_); rintro e w2 ⟨rfl, hb⟩
        have B2 := Lib.hid (b_next B1.out hb); have L2 := Lib.hid fun k hk => keep hb (LC.out k hk); clear hb
        clear HS SA h5 h6 c1 HSH LC B1
        go_wp2_with fail
        go_loopw [6, 44] (fun o s wr => ∃ (k : Nat) (P : Nat → Pl) (R : Nat → Value), k ≤ m ∧ s = .int .i64 k ∧ OwnG wr w2.heap.size 39 8 o k (rowP P R) ∧ (∀ i, i < k → Apt wr o (R i) (P i).r) ∧ Red Q P k ∧ Below w2.heap.size w2 wr) (fun _ s _ => m - (intOf s).toNat)
        case atStart => exact ⟨0, fun _ => ⟨⟨#[]⟩, ⟨#[]⟩, ⟨#[]⟩, ⟨#[]⟩, 0, 0, 0, []⟩, fun _ => .slice none 0 0, Nat.zero_le _, rfl, ownG_nil _ _ _ _ _, fun i hi => absurd hi (Nat.not_lt_zero i), ⟨⟨fun i hi => absurd hi (Nat.not_lt_zero i), fun i hi => absurd hi (Nat.not_lt_zero i)⟩, fun i hi => absurd hi (Nat.not_lt_zero i)⟩, Below.refl _ _⟩
        case round =>
          obtain ⟨k, P, R, hk, rfl, hown, hR, hred, hbl⟩ := hrel
          have OW := Lib.hid hown; have HR := Lib.hid hR; have RD := Lib.hid hred; have BR := Lib.hid hbl; have BW := Lib.hid (b_next B2.out hbl)
          clear hown hR hred
          by_cases hlt : k < m
          · have hl : (k : Int) < (m : Int) := by omega
            have c0 := keep hbl (L2.out k hlt)
            have TK := Lib.hid fun w1 => TR.out w1 k hlt
            have PK := Lib.hid fun w1 (hb : Below w.heap.size w w1) => PC.out w1 k hb hlt
            have ND : Hid (∀ p : Pl, p.ok → p.txt = Q k → hasC P k p.c = false → Red Q (fun i => if i = k then p else P i) (k + 1)) := Lib.hid fun p h1 h2 h3 => by
              have e : ∀ i, i < k → (if i = k then p else P i) = P i := fun i hi => if_neg (by omega)
              have e0 : (if k = k then p else P k) = p := if_pos rfl
              refine ⟨⟨fun i hi => ?_, fun i hi j hj => ?_⟩, fun i hi => ?_⟩
              · rcases Nat.lt_or_ge i k with hl | hl
                · show Pl.ok (if i = k then p else P i); rw [e i hl]; exact RD.out.fits.ok i hl
                · obtain rfl : i = k := by omega
                  show Pl.ok (if i = i then p else P i); rw [if_pos rfl]; exact h1
              · rcases Nat.lt_or_ge i k with hl | hl
                · show (if j = k then p else P j).c ≠ (if i = k then p else P i).c; rw [e i hl, e j (by omega)]; exact RD.out.fits.one i hl j hj
                · obtain rfl : i = k := by omega
                  show (if j = i then p else P j).c ≠ (if i = i then p else P i).c; rw [if_pos rfl, e j hj]
                  intro q
                  have := hasC_iff.2 ⟨j, hj, q⟩
                  rw [h3] at this; cases this
              · rcases Nat.lt_or_ge i k with hl | hl
                · show Pl.txt (if i = k then p else P i) = _; rw [e i hl]; exact RD.out.text i hl
                · obtain rfl : i = k := by omega
                  show Pl.txt (if i = i then p else P i) = _; rw [if_pos rfl]; exact h2
            have u3 : IntKind.i64.wrap ((k : Int) + 1) = (k : Int) + 1 := IntWalk.i64_in _ (by omega)
            clear hbl
            go_wp2_with fail
            (with_reducible refine (TK.out _).mono ?_); rintro e w3 ⟨rfl, hb⟩
            have B3 := Lib.hid (b_next BW.out hb); have D3 := Lib.hid hb; clear hb
            go_wp2_with fail
            (with_reducible refine (PK.out _ B3.out).mono ?_); rintro e w4 ⟨hp, hb⟩
            have B4 := Lib.hid (b_next B3.out hb); have D4 := Lib.hid (b_next D3.out hb); clear hb
            rcases hp with ⟨E, hE, rfl, hbad⟩ | ⟨pc, pk, pf, pt, px, py, pz, pr, v, ok, ht, rfl, hvF⟩
            · have h3 : (E == 0) = false := by simpa using hE
              have h4 : (E != 0) = true := by simpa using hE
              have HE := Lib.hid hE; have HBAD := Lib.hid hbad
              clear hE hbad
              go_wp2_with fail
              go_ret3
              exact ⟨.bad k P E rfl hlt RD.out HE.out (Or.inl HBAD.out) rfl, b_alloc B4.out _⟩
            · have OKP := Lib.hid (show Pl.ok ⟨pc, pk, pf, pt, px, py, pz, pr⟩ from ok); have HTP := Lib.hid (show Pl.txt ⟨pc, pk, pf, pt, px, py, pz, pr⟩ = Q k from ht)
              clear ok ht
              have hv := hvF w4 fun _ _ _ h => h
              have AP4 := Lib.hid (apt_new D3.out OW.out hvF); clear hvF
              obtain ⟨A', ca, rfl⟩ := sl_slice hv
              generalize hnr : pr.length = nr at *
              have W5 := b_alloc (Below.refl w4.heap.size w4) (.cells #[.string pc, .string pk, .string pf, .string pt, .int .i64 px, .int .i64 py, .int .i64 pz, .slice A' nr ca] 39)
              have B5 := Lib.hid (b_next B4.out W5); have D5 := Lib.hid (b_next D4.out W5); have V5 := Lib.hid (sl_keep W5 hv)
              have N5 := Lib.hid (n8_new w4 39 pc pk pf pt px py pz (.slice A' nr ca))
              clear W5 hv hnr
              have PVN := Lib.hid (pv_own (ownG_keep D5.out OW.out) fun i hi => sl_keep D5.out (apt_sl (HR.out i hi)))
              have KN := Lib.hid (KW.out _ _ _ _ pc PVN.out)
              have NDp := Lib.hid (ND.out _ OKP.out HTP.out)
              have BADp : Hid (hasC P k pc = true → ∃ p : Pl, p.ok ∧ p.txt = Q k ∧ hasC P k p.c = true) := Lib.hid fun h => ⟨_, OKP.out, HTP.out, h⟩
              clear ND
              generalize hasC P k pc = kn at *
              cases kn with
              | true =>
                go_wp2_with fail
                (with_reducible refine KN.out.mono ?_); rintro e w6 ⟨rfl, hb⟩
                have B6 := Lib.hid (b_next B5.out hb); clear hb
                go_wp2_with fail
                go_ret3
                exact ⟨.bad k P 7 rfl hlt RD.out (by decide) (Or.inr (by first | exact BADp.out rfl | exact BADp.out trivial)) rfl, B6.out⟩
              | false =>
                go_wp2_with fail
                (with_reducible refine KN.out.mono ?_); rintro e w6 ⟨rfl, hb⟩
                have B6 := Lib.hid (b_next B5.out hb); have D6 := Lib.hid (b_next D5.out hb); have E6 := Lib.hid hb; have V6 := Lib.hid (sl_keep hb V5.out); have N6 := Lib.hid (n8_keep hb N5.out); clear hb
                obtain ⟨y0, y1, y2, y3, y4, y5, y6, y7⟩ := N6.out
                have W7 := b_alloc (Below.refl w6.heap.size w6) (.cells #[.string pc, .string pk, .string pf, .string pt, .int .i64 px, .int .i64 py, .int .i64 pz, .slice A' nr ca] 39)
                have D7 := Lib.hid (b_next D6.out W7); have D47 := Lib.hid (b_next (b_next (b_alloc (Below.refl w4.heap.size w4) (.cells #[.string pc, .string pk, .string pf, .string pt, .int .i64 px, .int .i64 py, .int .i64 pz, .slice A' nr ca] 39)) E6.out) W7)
                have OS := Lib.hid (ownG_keep D7.out OW.out)
                have NS := Lib.hid (new8 w6 39 (.string pc) (.string pk) (.string pf) (.string pt) (.int .i64 px) (.int .i64 py) (.int .i64 pz) (.slice A' nr ca))
                have NB := Lib.hid (Nat.le_trans BR.out.size (D7.out.size))
                clear W7
                go_wp2_with (at_builtin; refine wpList_append_own_at _ rfl (.tmp 68) (.tmp 70) 47 rfl w2.heap.size 39 i0 _ 8 112 Tryd.underlying47 IF.out.1 IF.out.2.1 IF.out.2.2.1 IF.out.2.2.2 rfl (by decide) _ k _ rfl OS.out ⟨w6.heap.size, 0, none⟩ 1 1 [.string pc, .string pk, .string pf, .string pt, .int .i64 px, .int .i64 py, .int .i64 pz, .slice A' nr ca] rfl rfl NS.out (by simp [Value.oneCell']) (by unfold maxLen; omega) (by omega) NB.out ?_; intro v2 w8 hown1' hg1' hnil1 hat1'; have hown1 := Lib.hid hown1'; have hg1 := Lib.hid hg1'; have hat1 := Lib.hid hat1'; clear hnil1 hown1' hg1' hat1')
                have D8 := Lib.hid (growG_below (b_next BR.out D7.out) OS.out hg1.out (Nat.le_refl _) NB.out)
                have V8 : Hid (∀ i, i < k + 1 → Apt w8 v2 ((fun i => if i = k then (.slice A' nr ca) else R i) i) ((fun i => if i = k then (⟨pc, pk, pf, pt, px, py, pz, pr⟩ : Pl) else P i) i).r) := Lib.hid fun i hi => by
                  dsimp only
                  by_cases e : i = k
                  · rw [if_pos e, if_pos e]; exact apt_grow hg1.out hat1.out (apt_keep D47.out AP4.out)
                  · rw [if_neg e, if_neg e]; exact apt_grow hg1.out hat1.out (apt_keep D7.out (HR.out i (by omega)))
                go_wp2_with fail
                go_roundw
                case rel => exact ⟨k + 1, _, _, by omega, by go_num, (by have q := hown1.out; rw [rowP_next P R k ⟨pc, pk, pf, pt, px, py, pz, pr⟩] at q; exact q), V8.out, (by first | exact NDp.out rfl | exact NDp.out trivial), D8.out⟩
                case measure => simp [intOf]; omega
          · obtain rfl : k = m := by omega
            have hl : ¬ (k : Int) < (k : Int) := by omega
            have PVN := Lib.hid (pv_own OW.out fun i hi => apt_sl (HR.out i hi))
            clear hbl
            go_wp2_with fail
            go_ret3
            exact ⟨.ok P _ rfl hm24 RD.out PVN.out rfl, BW.out⟩
theorem parseAllC {w : World} (V : Vars w) (s : ByteArray) (hs : s.size ≤ 2000000) {m : Nat} {Q : Nat → ByteArray} {z : ByteArray} (h : Lin s m (fun k => Q k ++ nl) Q z)
    (hF : ∀ F : List ByteArray, raw F = Spl.aft 10 (Spl.sp 10 s.data.toList) → F.length = m + 1 ∧ (∀ k, k < m → F.getD k ⟨#[]⟩ = Q k ++ nl) ∧ F.getD m ⟨#[]⟩ = z) :
    Calls Tryd.prog 21 #[.string s] w fun e w' => PaA s m Q z e w' ∧ Below w.heap.size w w' := by
  have hm : m ≤ 2000000 := Nat.le_trans h.cnt hs
  have SA : Hid (SaC s m (fun k => Q k ++ nl) z w) := Lib.hid fun w1 hb => (saC (vars_keep hb V) s hs).mono (by
    rintro e w' ⟨⟨F, h1, h2, g, rfl, h3⟩, hb'⟩
    obtain ⟨q1, q2, q3⟩ := hF F h1
    rw [q1] at h3 ⊢
    refine ⟨⟨g, rfl, fun k hk => ?_, ?_⟩, hb'⟩
    · rw [h3 k (by omega), q2 k hk]
    · rw [h3 m (by omega), q3])
  have hsz : s.size ≤ 9223372036854775807 := by omega
  have tl : ∀ x : ByteArray, x.toList = [] ↔ x = ⟨#[]⟩ := fun x => by rw [ByteArray.toList_eq]; exact ba_nil.symm
  by_cases hz : z = ⟨#[]⟩
  · subst hz
    refine paall_lines s m _ Q w hm SA ?_ (Lib.hid fun w1 k hk => ?_) (Lib.hid fun w1 k hb _ => parseC (vars_keep hb V) (Q k)) (Lib.hid fun w1 v n P s hv => knownC hv s)
    · rcases h.ends.1 rfl with e | e
      · exact Lib.hid (Or.inl ⟨(tl s).2 e, by rw [(tl s).2 e]; rfl⟩)
      · by_cases e0 : s.toList = []
        · exact Lib.hid (Or.inl ⟨e0, by rw [e0]; rfl⟩)
        · refine Lib.hid (Or.inr ⟨e0, by simpa using e0, fun w1 _ => ?_⟩)
          have := hsC s w1 hsz
          rw [e] at this; exact this
    · have := tsC (Q k ++ nl) w1 (by have := h.size k hk; omega)
      rw [h.trim k hk] at this; exact this
  · have hn : ¬ (s = ⟨#[]⟩ ∨ Lib.hasSuffix s.data.toList [10] = true) := fun q => hz (h.ends.2 q)
    have e0 : ¬ s.toList = [] := fun e => hn (Or.inl ((tl s).1 e))
    refine paall_rest s m _ Q z w hm ?_ hz e0 (by simpa using e0) SA (Lib.hid fun w1 _ => ?_)
    · have : ¬ z.toList = [] := fun e => hz ((tl z).1 e)
      simpa using this
    · have := hsC s w1 hsz
      rw [show Lib.hasSuffix s.data.toList [10] = false from by
        cases q : Lib.hasSuffix s.data.toList [10] with
        | false => rfl
        | true => exact absurd (Or.inr q) hn] at this
      exact this
end Pt
end Go.Proofs.YtddlacjjanincaaDoor
