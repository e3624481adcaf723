/- P148: plans are printed line by line, and read again. -/
import Derived.Test.YtddlacjjanincaaDoorPlQ
import Derived.Test.YtddlacjjanincaaDoorPlO
import Derived.Test.YtddlacjjanincaaDoorPtZ
import Derived.Test.YtddlacjjanincaaDoorDoorP
import Derived.Test.YtddlacjjanincaaDoorFrameE
import Derived.Test.YtddlacjjanincaaDoorCards
namespace Go.Proofs.YtddlacjjanincaaDoor
open Go.RowKit Go.ChangeShapes Go.WideShapes
namespace PlantextAll
open Kit Chart Route Plan Name Pt
theorem fld_free10 {p : Pl} (e : p.ok) : ∀ x ∈ raw (fld p.c p.k p.f p.t p.x p.y p.z p.r), (10 : UInt8) ∉ x := by
  intro x hx h10
  have nm : ∀ {s : ByteArray}, nameB s = true → (10 : UInt8) ∉ s.data.toList := fun h q => by have := (name_byte h _ q).1; exact absurd this (by decide)
  have tx : ∀ {n : Int}, 0 ≤ n → (10 : UInt8) ∉ (txt n).data.toList := fun {n} h q => by
    obtain ⟨u, rfl⟩ : ∃ u : Nat, n = u := ⟨n.toNat, by omega⟩
    have := (txt_byte u _ q).1; exact absurd this (by decide)
  obtain ⟨s, hs, rfl⟩ := List.mem_map.1 hx
  revert h10
  have a1 := e.off; have a2 := e.sp; have a3 := e.h
  rcases List.mem_append.1 hs with q | q
  · simp only [List.mem_cons, List.not_mem_nil, or_false] at q
    rcases q with rfl | rfl | rfl | rfl | rfl | rfl | rfl
    · exact nm e.nm.1
    · exact nm e.nm.2.1
    · exact nm e.nm.2.2.1
    · exact nm e.nm.2.2.2
    · exact tx a1.1
    · exact tx (by omega)
    · exact tx (by omega)
  · exact nm (e.rt s q)
/-- The lines of a printed list. -/
theorem txt_free10 {p : Pl} (h : p.ok) : (10 : UInt8) ∉ p.txt.data.toList := by
  intro hm
  have hm : (10 : UInt8) ∈ Spl.jn 32 (raw (fld p.c p.k p.f p.t p.x p.y p.z p.r)) := hm
  have key : ∀ L : List (List UInt8), (10 : UInt8) ∈ Spl.jn 32 L → ∃ x ∈ L, (10 : UInt8) ∈ x := by
    intro L
    induction L with
    | nil => intro h; exact absurd h List.not_mem_nil
    | cons a t ih =>
      intro h
      cases t with
      | nil => rw [Spl.jn_one] at h; exact ⟨a, List.mem_cons_self, h⟩
      | cons b t =>
        rw [Spl.jn_cons] at h
        rcases List.mem_append.1 h with h | h
        · exact ⟨a, List.mem_cons_self, h⟩
        · rcases List.mem_cons.1 h with h | h
          · exact absurd h (by decide)
          · obtain ⟨x, hx, hy⟩ := ih h
            exact ⟨x, List.mem_cons_of_mem _ hx, hy⟩
  obtain ⟨x, hx, hy⟩ := key _ hm
  have e := fld_free10 h x hx
  exact e hy
theorem tA_flat (P : Nat → Pl) : ∀ n, (tA P n).data.toList = Spl.flat 10 ((List.range n).map fun k => (P k).txt.data.toList)
  | 0 => rfl
  | n + 1 => by
    show (tA P n ++ ((P n).txt ++ ⟨#[10]⟩)).data.toList = _
    rw [ByteArray.data_append, ByteArray.data_append, Array.toList_append, Array.toList_append, tA_flat P n, List.range_succ, List.map_append, Spl.flat_app, List.map_cons, List.map_nil, Spl.flat_cons, Spl.flat_nil]
theorem tA_lines {P : Nat → Pl} {n m : Nat} {L Q : Nat → ByteArray} {z : ByteArray} (hP : ∀ k, k < n → (P k).ok) (h : Lin (tA P n) m L Q z) : m = n ∧ z = ⟨#[]⟩ ∧ ∀ k, k < n → Q k = (P k).txt := by
  have a : Spl.Lns 10 (tA P n).data.toList ((List.range n).map fun k => (P k).txt.data.toList) [] := ⟨by rw [tA_flat, List.append_nil], fun x hx => by
    obtain ⟨k, hk, rfl⟩ := List.mem_map.1 hx
    exact txt_free10 (hP k (List.mem_range.1 hk)), List.not_mem_nil⟩
  have b : Spl.Lns 10 (tA P n).data.toList ((List.range m).map fun k => (Q k).data.toList) z.data.toList := ⟨h.text, fun x hx => by
    obtain ⟨k, hk, rfl⟩ := List.mem_map.1 hx
    exact h.free k (List.mem_range.1 hk), h.rest⟩
  obtain ⟨e1, e2⟩ := b.inj a
  have hmn : m = n := by simpa using congrArg List.length e1
  subst hmn
  refine ⟨rfl, ba_eq e2, fun k hk => ba_eq ?_⟩
  have := congrArg (fun l => l[k]?) e1
  simpa [hk] using this
theorem red_same {P P' : Nat → Pl} {Q : Nat → ByteArray} {n k : Nat} (hP : ∀ k, k < n → (P k).ok) (hQ : ∀ k, k < n → Q k = (P k).txt) (hk : k ≤ n) (h : Red Q P' k) : ∀ i, i < k → P' i = P i := fun i hi => by
  have e : (P' i).txt = (P i).txt := (h.text i hi).trans (hQ i (by omega))
  have q := text_inj (h.fits.ok i hi) (hP i (by omega)) e
  revert q
  cases P' i; cases P i
  rintro ⟨rfl, rfl, rfl, rfl, rfl, rfl, rfl, rfl⟩
  rfl
/-- What ParseAll answers to a printed list. -/
theorem all_back {P : Nat → Pl} {n m : Nat} {L Q : Nat → ByteArray} {z : ByteArray} {e : Ending} {w : World} (hn : n ≤ 8) (hF : Fits P n) (h : Lin (tA P n) m L Q z) (hp : PaA (tA P n) m Q z e w) : ∃ v, e = .returned (.tuple #[v, .int .i64 0, .int .i64 0]) ∧ PV w v n P := by
  obtain ⟨rfl, rfl, hQ⟩ := tA_lines hF.ok h
  cases hp with
  | long h1 h2 =>
    have := tA_size hF
    exact absurd ⟨by omega, by omega, fun q => absurd rfl q⟩ h1
  | form h1 h2 => exact absurd rfl h1
  | bad k P' E h1 h2 h3 h4 h5 h6 =>
    exfalso
    have hs := red_same hF.ok hQ (Nat.le_of_lt h2) h3
    rcases h5 with h5 | ⟨p, hp1, hp2, hp3⟩
    · exact h5 ⟨_, _, _, _, _, _, _, _, hF.ok k h2, (hQ k h2).symm⟩
    · obtain ⟨j, hj, e⟩ := hasC_iff.1 hp3
      rw [hs j hj] at e
      have q := text_inj hp1 (hF.ok k h2) (hp2.trans (hQ k h2))
      exact hF.one k h2 j hj (e.trans q.1)
  | ok P' v h1 h2 h3 h4 h5 => exact ⟨v, h5, pv_congr h4 (red_same hF.ok hQ (Nat.le_refl _) h3)⟩
abbrev Res (A : Option Addr) (n0 c : Nat) (w : World) : Prop := Calls Tryd.prog 7 #[.slice A n0 c] w fun e w' => e = .returned (.bool true) ∧ Below w.heap.size w w'
set_option maxRecDepth 100000 in
set_option maxHeartbeats 4000000 in
theorem core_bad (A : Option Addr) (n0 n c : Nat) (w : World) (hnc : n0 ≤ c) (_hcm : c ≤ 9223372036854775807) (hN : Hid ((min (n0 : Int) 8).toNat = n))
    (WK : Hid (∀ w1, Below w.heap.size w w1 → Calls Tryd.prog 15 #[] w1 fun e w' => e = .returned (.bool true) ∧ Below w1.heap.size w1 w'))
    (PR : Hid (∀ w1, Below w.heap.size w w1 → Calls Tryd.prog 20 #[.slice A n c] w1 fun e w' => (∃ E : Int, E ≠ 0 ∧ e = .returned (.tuple #[.string ⟨#[]⟩, .int .i64 E])) ∧ Below w1.heap.size w1 w')) : Res A n0 c w := by
  have hm0 : (0 : Int) ≤ (n0 : Int) := Int.natCast_nonneg _
  go_enter Tryd.func7, Tryd.ntmps7
  go_wp2_with fail
  all_goals try (exfalso; omega)
  rw [hN.out]
  (with_reducible refine (WK.out _ (Below.refl _ _)).mono ?_); rintro e w1 ⟨rfl, hb⟩
  have B1 := Lib.hid hb; clear hb
  go_wp2_with fail
  (with_reducible refine (PR.out _ B1.out).mono ?_); rintro e w2 ⟨⟨E, hE, rfl⟩, hb⟩
  have B2 := Lib.hid (b_next B1.out hb); clear hb
  have h2 : (E != 0) = true := by simpa using hE
  go_wp2_with fail
  go_ret
  exact ⟨rfl, B2.out⟩
set_option maxRecDepth 100000 in
set_option maxHeartbeats 8000000 in
theorem core_ok (A : Option Addr) (n0 n c : Nat) (P : Nat → Pl) (w : World) (hn8 : n ≤ 8) (hnc : n0 ≤ c) (_hcm : c ≤ 9223372036854775807) (hN : Hid ((min (n0 : Int) 8).toNat = n)) (HV : Hid (PV w (.slice A n c) n P))
    (WK : Hid (∀ w1, Below w.heap.size w w1 → Calls Tryd.prog 15 #[] w1 fun e w' => e = .returned (.bool true) ∧ Below w1.heap.size w1 w')) (S : ByteArray)
    (PR : Hid (∀ w1, Below w.heap.size w w1 → Calls Tryd.prog 20 #[.slice A n c] w1 fun e w' => e = .returned (.tuple #[.string S, .int .i64 0]) ∧ Below w1.heap.size w1 w'))
    (PA : Hid (∀ w1, Below w.heap.size w w1 → Calls Tryd.prog 21 #[.string S] w1 fun e w' => (∃ v, e = .returned (.tuple #[v, .int .i64 0, .int .i64 0]) ∧ PV w' v n P) ∧ Below w1.heap.size w1 w'))
    (SA : Hid (∀ w1 (p : Pl) v v', SL w1 v p.r → SL w1 v' p.r → Calls Tryd.prog 19 #[p.val v, p.val v'] w1 fun e w' => e = .returned (.bool true) ∧ Below w1.heap.size w1 w')) : Res A n0 c w := by
  have hm0 : (0 : Int) ≤ (n0 : Int) := Int.natCast_nonneg _
  go_enter Tryd.func7, Tryd.ntmps7
  go_wp2_with fail
  all_goals try (exfalso; omega)
  rw [hN.out]
  (with_reducible refine (WK.out _ (Below.refl _ _)).mono ?_); rintro e w1 ⟨rfl, hb⟩
  have B1 := Lib.hid hb; clear hb
  go_wp2_with fail
  (with_reducible refine (PR.out _ B1.out).mono ?_); rintro e w2 ⟨rfl, hb⟩
  have B2 := Lib.hid (b_next B1.out hb); clear hb
  go_wp2_with fail
  (with_reducible refine (PA.out _ B2.out).mono ?_); rintro e w3 ⟨⟨v, rfl, hv⟩, hb⟩
  have B3 := Lib.hid (b_next B2.out hb)
  obtain ⟨A', c', rfl, hc1, hc2⟩ := pv_slice hv
  have V3 := Lib.hid hv; have U3 := Lib.hid (pv_keep B3.out HV.out)
  clear hb hv hc2
  go_wp2_with fail
  go_loopw [54] (fun s wr => ∃ k : Nat, k ≤ n ∧ s = .int .i64 k ∧ Below w3.heap.size w3 wr) (fun s _ => n - (intOf s).toNat)
  case atStart => exact ⟨0, Nat.zero_le _, rfl, Below.refl _ _⟩
  case round =>
    obtain ⟨k, hk, rfl, hbl⟩ := hrel
    by_cases hlt : k < n
    · have hl : (k : Int) < (n : Int) := by omega
      have hr : ∃ b off, A = some ⟨b, off, none⟩ ∧ P8 wr b off k (P k) := by
        rcases U3.out with ⟨h, -⟩ | ⟨-, b, off, cap, he, -, -, h3⟩
        · omega
        · injection he with h4; exact ⟨b, off, h4, p8_keep hbl (h3 k hlt)⟩
      have hr' : ∃ b off, A' = some ⟨b, off, none⟩ ∧ P8 wr b off k (P k) := by
        rcases V3.out with ⟨h, -⟩ | ⟨-, b, off, cap, he, -, -, h3⟩
        · omega
        · injection he with h4; exact ⟨b, off, h4, p8_keep hbl (h3 k hlt)⟩
      obtain ⟨b, off, rfl, c0, c1, c2, c3, c4, c5, c6, v, c7, hsv⟩ := hr
      obtain ⟨b', off', rfl, e0, e1, e2, e3, e4, e5, e6, v', e7, hsv'⟩ := hr'
      have SP := Lib.hid fun w1 v v' => SA.out w1 (P k) v v'
      have B4 := Lib.hid hbl; have B5 := Lib.hid (b_next B3.out hbl)
      clear hbl
      generalize hP : P k = p at *
      clear hP
      obtain ⟨pc, pk, pf, pt, px, py, pz, pr⟩ := p
      dsimp only at *
      obtain ⟨A1, a1, rfl⟩ := sl_slice hsv
      obtain ⟨A2, a2, rfl⟩ := sl_slice hsv'
      generalize pr.length = nr at *
      have W6 := b_alloc (Below.refl wr.heap.size wr) (.cells #[.string pc, .string pk, .string pf, .string pt, .int .i64 px, .int .i64 py, .int .i64 pz, .slice A1 nr a1] 39)
      have NN := Lib.hid (n8_new wr 39 pc pk pf pt px py pz (.slice A1 nr a1))
      have B6 := Lib.hid (b_next B4.out W6); have B7 := Lib.hid (b_next B5.out W6)
      have E0 := Lib.hid (keep W6 e0); have E1 := Lib.hid (keep W6 e1); have E2 := Lib.hid (keep W6 e2); have E3 := Lib.hid (keep W6 e3); have E4 := Lib.hid (keep W6 e4); have E5 := Lib.hid (keep W6 e5); have E6 := Lib.hid (keep W6 e6); have E7 := Lib.hid (keep W6 e7)
      have S1 := Lib.hid (sl_keep W6 hsv); have S2 := Lib.hid (sl_keep W6 hsv')
      have SN := Lib.hid fun w1 (hb : Below (wr.alloc (.cells #[.string pc, .string pk, .string pf, .string pt, .int .i64 px, .int .i64 py, .int .i64 pz, .slice A1 nr a1] 39)).heap.size (wr.alloc (.cells #[.string pc, .string pk, .string pf, .string pt, .int .i64 px, .int .i64 py, .int .i64 pz, .slice A1 nr a1] 39)) w1) => SP.out w1 _ _ (sl_keep hb S1.out) (sl_keep hb S2.out)
      clear W6 hsv hsv' e0 e1 e2 e3 e4 e5 e6 e7 S1 S2 SP
      go_wp2_with fail
      refine d_region (by kernel_rfl) (by kernel_rfl) ?_
      repeat
        first
          | (refine d_plain (by with_reducible rfl) ?_; apply Exists.intro; refine ⟨fun wq hc hq => ?_, ?_⟩)
          | (refine d_on (by with_reducible rfl) (by rfl) (by with_reducible rfl) ?_; apply Exists.intro; refine ⟨fun wq hc hq => ?_, ?_⟩)
          | (refine d_off (by with_reducible rfl) (by rfl) (by rfl) ?_)
          | (refine d_void (by with_reducible rfl) (by rfl) ?_)
        try any_goals
          (obtain ⟨y0, y1, y2, y3, y4, y5, y6, y7⟩ := n8_keep (cls hq) NN.out; have d0 := keep (cls hq) E0.out; have d1 := keep (cls hq) E1.out; have d2 := keep (cls hq) E2.out; have d3 := keep (cls hq) E3.out; have d4 := keep (cls hq) E4.out; have d5 := keep (cls hq) E5.out; have d6 := keep (cls hq) E6.out; have d7 := keep (cls hq) E7.out; clear hc
           go_simp
           first
             | rfl
             | (go_at_call 19; with_reducible exact call_below hq (SN.out _ (cls hq))))
        simp only [Act.put, List.setIfInBounds_toArray, List.set_cons_zero, List.set_cons_succ]
      refine d_nil ?_
      intro w8 hb8
      have B8 := Lib.hid (b_next B6.out hb8); clear hb8
      go_wp2_with fail
      go_roundw
      case rel => exact ⟨k + 1, by omega, by go_num, B8.out⟩
      case measure => simp [intOf]; omega
    · have hl : ¬ (k : Int) < (n : Int) := by omega
      have BW := Lib.hid (b_next B3.out hbl); clear hbl
      go_wp2_with fail
      go_ret
      exact ⟨rfl, BW.out⟩
theorem walk (l : Value) (W : World) (hL : laidMetH Tryd.prog DoorP.laid W ∧ W.ShapedOpen Tryd.prog) (h_l : Frame.Okc W (.sl [.str, .str, .str, .str, .int, .int, .int, .sl [.str]]) l) : Calls Tryd.prog 7 #[l] W fun e w' => e = .returned (.bool true) ∧ Below W.heap.size W w' := by
  have V := DoorP.vars_of hL
  obtain ⟨n0, P, hv⟩ := pv_okc h_l
  obtain ⟨A, c, rfl, h1, h2⟩ := pv_slice hv
  have hmin : min n0 8 ≤ n0 := Nat.min_le_left _ _
  have h8 : min n0 8 ≤ 8 := Nat.min_le_right _ _
  have hN : Hid ((min (n0 : Int) 8).toNat = min n0 8) := Lib.hid (by omega)
  have hv' := pv_take hv hmin
  generalize min n0 8 = n at *
  have hcm : c ≤ 9223372036854775807 := Nat.le_trans h2 (by decide)
  have WK := Lib.hid fun w1 (hb : Below W.heap.size W w1) => worksC (vars_keep hb V)
  have PR := fun w1 (hb : Below W.heap.size W w1) => pra_w A n c P w1 (by omega) (by omega) hcm (Lib.hid (pv_keep hb hv')) (Lib.hid fun w2 k v hb2 hs => printC (vars_keep (b_next hb hb2) V) hs (P k).c (P k).k (P k).f (P k).t (P k).x (P k).y (P k).z) (Lib.hid fun w2 k s hk hb2 => knownC (pv_take (pv_keep (b_next hb hb2) hv') hk) s)
  by_cases hF : Fits P n
  · refine core_ok A n0 n c P W h8 h1 hcm hN (Lib.hid hv') WK (tA P n) (Lib.hid fun w1 hb => (PR w1 hb).mono ?_) (Lib.hid fun w1 hb => ?_) (Lib.hid fun w1 p v v' hs hs' => (samePlanC p.c p.k p.f p.t p.c p.k p.f p.t p.x p.y p.z p.x p.y p.z hs hs').mono ?_)
    · rintro e w' ⟨hp, hb'⟩
      rcases hp with ⟨E, -, -, hn⟩ | ⟨-, -, he⟩
      · exact absurd ⟨by omega, hF⟩ hn
      · exact ⟨he, hb'⟩
    · obtain ⟨m, Q, z, hlin, hpc⟩ := lines_of (tA P n)
      refine (parseAllC (vars_keep hb V) (tA P n) (by have := tA_size hF; omega) hlin hpc).mono ?_
      rintro e w' ⟨hp, hb'⟩
      exact ⟨all_back h8 hF hlin hp, hb'⟩
    · rintro e w' ⟨⟨b, rfl, hq⟩, hb'⟩
      refine ⟨?_, hb'⟩
      have : b = true := hq.2 ⟨⟨rfl, rfl, rfl, rfl, rfl, rfl, rfl⟩, same_lists.2 rfl⟩
      rw [this]
  · refine core_bad A n0 n c W h1 hcm hN WK (Lib.hid fun w1 hb => (PR w1 hb).mono ?_)
    rintro e w' ⟨hp, hb'⟩
    rcases hp with ⟨E, hE, he, -⟩ | ⟨-, hf, -⟩
    · exact ⟨⟨E, hE, he⟩, hb'⟩
    · exact absurd hf hF
-- FRAME --

set_option maxRecDepth 100000 in
theorem lifted (os : Os) (started : os.Started) (H : Type) (enc : TypeId × Value → H) :
    ReturnsInHanded {} Tryd.checked os 7 .any (fun w args => (Rows.plantextAllSpec.pre enc Tryd.prog Tryd.f7 [] false w args ∧ laidMetH Tryd.prog DoorP.laid w) ∧ sizedMet enc Tryd.prog Tryd.f7 (OpenSpec.ofChange Rows.plantextAllSpec) false w args) (Rows.plantextAllSpec.post enc Tryd.prog Tryd.f7 false true false false) :=
  Frame.lifted_open (C := Tryd.checked) 7 Tryd.f7 Tryd.own started (by kernel_rfl) Tryd.func7 Tryd.laidOut rfl (by kernel_rfl) 4 rfl Tryd.underlying4
      (fun ds h => by match ds, h with | [_], _ => rfl)
      (ChangeSpec.witness_at (enc := enc) (C := Tryd.checked) (os := os) (X := fun w _ => laidMetH Tryd.prog DoorP.laid w) false (DoorP.laidWorld os) #[.slice none 0 0] 8 rfl (by kernel_rfl) (by kernel_rfl) (by kernel_rfl) (by kernel_rfl) (by kernel_rfl) (DoorP.laidWorld_met os _))
      (fun W base args ds ps hval0 hA _ hL => by
        have hval : ∀ (j : Nat) t v, Tryd.f7.params[j]? = some t → args[j]? = some v → Value.okWide Tryd.prog W .any base t v := hval0
        have hA' : DataW.TrodAll enc Tryd.prog W 0 (fun _ => true) true Tryd.f7.params.toList args.toList ds ps := hA
        clear hval0 hA
        have hA := hA'
        clear hA'
        rw [Tryd.params7] at hA hval
        obtain ⟨v0, vs0, d0, ds0, p0, q0, ea, rfl, rfl, tr0, rest0⟩ := trodAll_cons hA
        obtain ⟨rfl, rfl, rfl⟩ := trodAll_nil rest0
        obtain rfl : args = #[v0] := by cases args; simp_all
        clear ea
        have sl_l : Frame.Okc W (.sl [.str, .str, .str, .str, .int, .int, .int, .sl [.str]]) v0 := by obtain ⟨a, l, c, e⟩ := okWide_slice Tryd.underlying47 (hval 0 _ v0 rfl rfl); exact Frame.arg_cell (k := 8) (by kernel_rfl) (by have e2 : v0 = .slice a l c := e; rw [e2]; rfl) tr0
        exact walk v0 W hL sl_l)

/-- The statement. -/
theorem row_holds : Rows.PlantextAllSaid :=
  OpenClaim.holds_of_wide 7 Tryd.f7 rfl rfl rfl rfl rfl rfl rfl ⟨rfl, rfl, rfl, rfl, rfl⟩ rfl rfl rfl rfl rfl (by kernel_rfl) Tryd.func7 (by kernel_rfl)
    (of_decide_eq_true (by kernel_rfl)) (by unfold Func.isWrapper; first | (rw [if_pos (by decide +kernel)]; kernel_rfl) | (rw [if_neg (by decide +kernel)]; exact ⟨rfl, rfl⟩))
    (fun os started H enc _ => lifted os started H enc)
/-- The tied card. -/
theorem proved : Rows.PlantextAllCardSaid :=
  Claim7.holds_tied_plain_at .later [] [.data, .data, .data, .data, .sentinel, .sentinel, .pinned] true (true, "5dce5dcba98ba92a6afee90f47916aa614be58de195b30479e8bf067400b1cbf") true
    row_holds (fun _ h => by cases h) (by kernel_rfl) (fun _ h => by cases h) plantextAll_row_tie rfl ⟨rfl, rfl⟩ (by kernel_rfl) rfl
    (fun f fn hf hfn => by
      obtain rfl : f = 7 := Option.some.inj ((show Tryd.prog.funcNamed "skyway/skywaykeep1.PlantextAll" = some 7 by kernel_rfl).symm.trans hf) |>.symm
      obtain rfl : fn = Tryd.f7 := (Option.some.inj (Tryd.func7.symm.trans hfn)).symm
      exact ⟨by kernel_rfl, fun j t ht => by
        rw [Tryd.params7] at ht
        have hall : ∀ t ∈ [47], Tryd.prog.wantsStandIn t = false := by
          intro t ht
          simp only [List.mem_cons, List.not_mem_nil, or_false] at ht
          rcases ht with rfl <;> kernel_rfl
        exact hall t (List.mem_iff_getElem?.2 ⟨j, by simpa using ht⟩)⟩)
    (by kernel_rfl)
#print axioms proved
end PlantextAll
end Go.Proofs.YtddlacjjanincaaDoor

