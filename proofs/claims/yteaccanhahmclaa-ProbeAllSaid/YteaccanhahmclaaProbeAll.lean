/- ProbeAll: the clashes of all tubes are those of all pairs, in order. For every input, with no condition. -/
import Derived.Test.YteaccanhahmclaaPrA
import Derived.Test.YteaccanhahmclaaShapes
namespace Go.Proofs.Yteaccanhahmclaa
open Go.RowKit Go.ChangeShapes Go.WideShapes
namespace ProbeAll
open Kit Plane Tube Probe
/-- Sums over pairs, the greater one outside. -/
def ra (g : Nat → Nat → Nat) (b : Nat) : Nat → Nat
  | 0 => 0
  | a + 1 => ra g b a + g a b
def rt (g : Nat → Nat → Nat) : Nat → Nat
  | 0 => 0
  | b + 1 => rt g b + ra g b b
/-- The lesser one outside. -/
def sb (g : Nat → Nat → Nat) (a : Nat) : Nat → Nat
  | 0 => 0
  | k + 1 => sb g a k + if a < k then g a k else 0
def sa (g : Nat → Nat → Nat) (m : Nat) : Nat → Nat
  | 0 => 0
  | k + 1 => sa g m k + sb g k m
theorem sb_zero (g : Nat → Nat → Nat) (a : Nat) : ∀ k, k ≤ a + 1 → sb g a k = 0
  | 0, _ => rfl
  | k + 1, h => by
    unfold sb
    rw [sb_zero g a k (by omega), if_neg (by omega)]
theorem sa_next (g : Nat → Nat → Nat) (m : Nat) : ∀ k, k ≤ m → sa g (m + 1) k = sa g m k + ra g m k
  | 0, _ => rfl
  | k + 1, h => by
    have ih := sa_next g m k (by omega)
    show sa g (m + 1) k + (sb g k m + if k < m then g k m else 0) = sa g m k + sb g k m + (ra g m k + g k m)
    rw [if_pos (by omega)]; omega
theorem sa_rt (g : Nat → Nat → Nat) : ∀ m, sa g m m = rt g m
  | 0 => rfl
  | m + 1 => by
    have e : sa g (m + 1) (m + 1) = sa g (m + 1) m + sb g m (m + 1) := rfl
    rw [e, sa_next g m m (Nat.le_refl _), sa_rt g m, sb_zero g m (m + 1) (Nat.le_refl _)]
    rfl
theorem ra_le {g : Nat → Nat → Nat} {N b : Nat} : ∀ a, (∀ a', a' < a → g a' b ≤ N) → ra g b a ≤ a * N
  | 0, _ => Nat.zero_le _
  | a + 1, h => by
    have ih := ra_le a fun a' ha => h a' (by omega)
    have q := h a (by omega)
    unfold ra
    rw [Nat.succ_mul]; omega
theorem rt_le {g : Nat → Nat → Nat} {N : Nat} : ∀ m, m ≤ 5 → (∀ a b, a < b → b < m → g a b ≤ N) → rt g m ≤ m * (5 * N)
  | 0, _, _ => Nat.zero_le _
  | m + 1, h5, h => by
    have ih := rt_le m (by omega) fun a b h1 h2 => h a b h1 (by omega)
    have q := ra_le (g := g) (N := N) (b := m) m fun a ha => h a m ha (by omega)
    have q2 : m * N ≤ 5 * N := Nat.mul_le_mul_right N (by omega)
    unfold rt
    rw [Nat.succ_mul]; omega
section
variable {D : Nat → Td} {lat ver : Int}
theorem clb_sb (a : Nat) : ∀ k, (clb D lat ver a k).length = sb (fun a b => (spq D lat ver a b).1) a k
  | 0 => rfl
  | k + 1 => by
    unfold clb sb
    rw [List.length_append, clb_sb a k]
    split
    · rw [clp_len]
    · rfl
theorem cla_sa (m : Nat) : ∀ k, (cla D lat ver m k).length = sa (fun a b => (spq D lat ver a b).1) m k
  | 0 => rfl
  | k + 1 => by
    unfold cla sa
    rw [List.length_append, cla_sa m k, clb_sb]
theorem cla_rt (m : Nat) : (cla D lat ver m m).length = rt (fun a b => (spq D lat ver a b).1) m := by rw [cla_sa, sa_rt]
theorem clb_mem {a b i : Nat} (h : a < b) (hi : i < (spq D lat ver a b).1) : ∀ k, b < k → (⟨a, b, (spq D lat ver a b).2 i 0, (spq D lat ver a b).2 i 1 - 1⟩ : Ck) ∈ clb D lat ver a k
  | 0, hk => absurd hk (Nat.not_lt_zero b)
  | k + 1, hk => by
    unfold clb
    rw [List.mem_append]
    rcases Nat.lt_or_ge b k with hl | hl
    · exact Or.inl (clb_mem h hi k hl)
    · have e : k = b := by omega
      subst e
      rw [if_pos h]
      exact Or.inr (List.mem_map.2 ⟨i, List.mem_range.2 hi, rfl⟩)
theorem cla_mem {m a b i : Nat} (h : a < b) (hb : b < m) (hi : i < (spq D lat ver a b).1) : ∀ k, a < k → (⟨a, b, (spq D lat ver a b).2 i 0, (spq D lat ver a b).2 i 1 - 1⟩ : Ck) ∈ cla D lat ver m k
  | 0, hk => absurd hk (Nat.not_lt_zero a)
  | k + 1, hk => by
    unfold cla
    rw [List.mem_append]
    rcases Nat.lt_or_ge a k with hl | hl
    · exact Or.inl (cla_mem h hb hi k hl)
    · have e : k = a := by omega
      subst e
      exact Or.inr (clb_mem h hi m hb)
end
/-- Whether c is among the first i. -/
def fdB (L : List Ck) (c : Ck) (i : Nat) : Bool := decide (c ∈ L.take i)
theorem fd_step {L : List Ck} {c : Ck} {i : Nat} (h : i < L.length) : fdB L c (i + 1) = (fdB L c i || decide (L[i] = c)) := by
  unfold fdB
  rw [List.take_add_one, List.getElem?_eq_getElem h]
  by_cases h1 : c ∈ L.take i
  · rw [decide_eq_true h1, Bool.true_or]
    exact decide_eq_true (List.mem_append.2 (Or.inl h1))
  · rw [decide_eq_false h1, Bool.false_or]
    apply decide_eq_decide.2
    rw [List.mem_append]
    constructor
    · rintro (q | q)
      · exact absurd q h1
      · simpa [eq_comm] using q
    · intro q; exact Or.inr (by simp [q])
theorem fd_end {L : List Ck} {c : Ck} (h : c ∈ L) : fdB L c L.length = true := by
  unfold fdB; rw [List.take_length]; exact decide_eq_true h
theorem clv_slice {w : World} {v : Value} {L : List Ck} (h : CLV w v L) : ∃ A cap, v = .slice A L.length cap ∧ L.length ≤ cap ∧ cap ≤ maxLen := by
  rcases h with ⟨rfl, rfl | ⟨a, cap, rfl, hm⟩⟩ | ⟨h0, b, cap, rfl, h1, h2, h3⟩
  · exact ⟨_, _, rfl, Nat.le_refl _, Nat.zero_le _⟩
  · exact ⟨_, _, rfl, Nat.zero_le _, hm⟩
  · exact ⟨_, _, rfl, h1, h2⟩
theorem clv_at {w : World} {A : Option Addr} {cap : Nat} {L : List Ck} (h : CLV w (.slice A L.length cap) L) (h0 : 0 < L.length) : ∃ b, A = some ⟨b, 0, none⟩ ∧ ∀ k (h : k < L.length),
    w.cell? ⟨b, k * 4, none⟩ = some (.int .i64 L[k].A) ∧ w.cell? ⟨b, k * 4 + 1, none⟩ = some (.int .i64 L[k].B) ∧ w.cell? ⟨b, k * 4 + 2, none⟩ = some (.int .i64 L[k].F) ∧ w.cell? ⟨b, k * 4 + 3, none⟩ = some (.int .i64 L[k].T) := by
  rcases h with ⟨rfl, -⟩ | ⟨-, b, cap', e, -, -, h3⟩
  · exact absurd h0 (Nat.not_lt_zero 0)
  · injection e with e1
    exact ⟨b, e1, h3⟩

set_option maxRecDepth 100000 in
set_option maxHeartbeats 8000000 in
theorem core (A : Option Addr) (m M c : Nat) (D : Nat → Td) (lat ver : Int) (w : World) (hM5 : M ≤ 5) (hM : (min (m : Int) 5).toNat = M) (_hMm : M ≤ m) (hmc : m ≤ c) (hcm : c ≤ maxLen) (HV : Hid (TsV w (.slice A M c) M D)) :
    Calls Try.prog 11 #[.slice A m c, .agg #[.int .i64 lat, .int .i64 ver]] w fun e w' => e = .returned (.bool true) ∧ Below w.heap.size w w' := by
  have hc9 : c ≤ 9223372036854775807 := Nat.le_trans hcm (by decide)
  have hm9 : (m : Int) ≤ 9223372036854775807 := by omega
  have hm0 : (0 : Int) ≤ (m : Int) := Int.natCast_nonneg _
  have HM := Lib.hid hM; clear hM
  clear hcm
  have HP := Lib.hid (p2_new w 95 lat ver)
  have HW := Lib.hid (b_alloc (Below.refl w.heap.size w) (.cells #[.int .i64 lat, .int .i64 ver] 95))
  obtain ⟨n0, hn0⟩ : ∃ n0, n0 = w.heap.size := ⟨_, rfl⟩
  have LG := Lib.hid fun (w1 : World) (hb : Below w.heap.size w w1) => longC (ts_keep hb HV.out)
  have AC := Lib.hid fun (w1 : World) (hb : Below w.heap.size w w1) => allC (ts_keep hb HV.out) lat ver
  go_enter Try.func11, Try.ntmps11
  go_wp2_with fail
  all_goals try (exfalso; omega)
  rw [HM.out]
  (with_reducible refine (probeWorks _).mono ?_); rintro e w1 ⟨rfl, hb⟩
  have W1 := Lib.hid (b_next HW.out hb); have P1 := Lib.hid (p2_keep hb HP.out); clear hb
  rw [← hn0] at P1 ⊢
  clear hn0
  go_wp2_with fail
  (with_reducible refine (LG.out _ W1.out).mono ?_); rintro e w2 ⟨⟨r, rfl⟩, hb⟩
  have W2 := Lib.hid (b_next W1.out hb); have P2' := Lib.hid (p2_keep hb P1.out); clear hb
  cases r with
  | true =>
    go_wp2_with fail
    go_ret
    exact ⟨by first | rfl | exact retb rfl, W2.out⟩
  | false =>
  obtain ⟨p0, p1⟩ := P2'.out
  go_wp2_with fail
  (with_reducible refine (AC.out _ W2.out).mono ?_); rintro e w3 ⟨har, hb⟩
  have W3 := Lib.hid (b_next W2.out hb); have P3 := Lib.hid (p2_keep hb P2'.out); clear hb p0 p1
  rcases har with ⟨E, hE0, rfl, -, -⟩ | ⟨hE, -, v, L, rfl, hp, hs, hcl⟩
  · have hE1 : (E != 0) = true := by simpa using hE0
    have hE2 : (E == 0) = false := by simpa using hE0
    clear hE0
    go_wp2_with fail
    go_ret
    exact ⟨by first | rfl | exact retb rfl, W3.out⟩
  have hE' := hE
  unfold allE at hE'
  split at hE'
  · rename_i q; exact absurd hE' q
  rename_i hsep0
  have hsep := Classical.not_not.1 hsep0
  split at hE'
  · cases hE'
  have HT := Lib.hid (toks_of hE')
  have HSEP := Lib.hid hsep
  have HMEM : Hid (∀ c, c ∈ cla D lat ver M M → c ∈ L) := Lib.hid fun c hc => hp.mem_iff.2 hc
  have HLEN : Hid (L.length = rt (fun a b => (spq D lat ver a b).1) M) := Lib.hid (by rw [← cla_rt]; exact hp.length_eq)
  have HS := Lib.hid hs
  obtain ⟨Av, cv, rfl, hv1, hv2⟩ := clv_slice hcl
  have hv9 : cv ≤ 9223372036854775807 := Nat.le_trans hv2 (by decide)
  have CL3 := Lib.hid hcl
  have RL : Hid (∀ k, k ≤ M → rt (fun a b => (spq D lat ver a b).1) k ≤ 5000025) := Lib.hid fun k hk => by
    have q := rt_le (g := fun a b => (spq D lat ver a b).1) (N := 200001) k (by omega) fun a b h1 h2 => (spq_ok (HT.out a (by omega)) (HT.out b (by omega))).1
    omega
  have RA : Hid (∀ b, b < M → ∀ a, a ≤ b → ra (fun a b => (spq D lat ver a b).1) b a ≤ 1000005) := Lib.hid fun b hb a ha => by
    have q := ra_le (g := fun a b => (spq D lat ver a b).1) (N := 200001) (b := b) a fun a' h1 => (spq_ok (HT.out a' (by omega)) (HT.out b (by omega))).1
    omega
  clear hE hE' hsep0 hsep hp hs hcl hv2
  generalize hG : (fun a b => (spq D lat ver a b).1) = G at *
  have HG : Hid (∀ a b, (spq D lat ver a b).1 = G a b) := Lib.hid fun a b => by rw [← hG]
  clear hG
  go_wp2_with fail
  go_loopw [7, 40] (fun v s wr => ∃ b : Nat, b ≤ M ∧ s = .int .i64 b ∧ v = .int .i64 (rt G b) ∧ Below w3.heap.size w3 wr) (fun _ s _ => M - (intOf s).toNat)
  case atStart => exact ⟨0, Nat.zero_le _, rfl, rfl, Below.refl _ _⟩
  case round =>
    obtain ⟨b, hb5, rfl, rfl, hbl⟩ := hrel
    have BL := Lib.hid hbl; clear hbl
    by_cases hlt : b < M
    · have hl : (b : Int) < (M : Int) := by omega
      have RB : Hid (rt G (b + 1) = rt G b + ra G b b) := Lib.hid rfl
      have RLb := RL.out b hb5
      obtain ⟨R, hR⟩ : ∃ R, R = rt G b := ⟨_, rfl⟩
      rw [← hR] at RB RLb ⊢
      clear hR
      go_wp2_with fail
      go_loopw [7, 44] (fun v s wr => ∃ a : Nat, a ≤ b ∧ s = .int .i64 a ∧ v = .int .i64 (R + ra G b a : Nat) ∧ Below w3.heap.size w3 wr) (fun _ s _ => b - (intOf s).toNat)
      case atStart => exact ⟨0, Nat.zero_le _, rfl, rfl, BL.out⟩
      case round =>
        obtain ⟨a, hab, rfl, rfl, hbl⟩ := hrel
        have BA := Lib.hid hbl; have WA := Lib.hid (b_next W3.out hbl); have PA := Lib.hid (p2_keep hbl P3.out); clear hbl
        by_cases hla : a < b
        · have hla' : (a : Int) < (b : Int) := by omega
          have haM : (a : Int) < (M : Int) := by omega
          obtain ⟨vb, vo, c', e, hc1, hc2, h3⟩ := ts_at (ts_keep WA.out HV.out) (by omega)
          injection e with e1 _ e3
          subst e1 e3
          obtain ⟨ua, ca, ta⟩ := h3 a (by omega)
          obtain ⟨ub, cb, tb⟩ := h3 b hlt
          have PC : Hid (∀ w1, Below wr.heap.size wr w1 → Calls Try.prog 45 #[ua, ub, .agg #[.int .i64 lat, .int .i64 ver]] w1 fun e w' => (∃ q, e = .returned (.tuple #[q, .int .i64 0]) ∧ Own w' w1.heap.size 102 2 q (spq D lat ver a b).1 (spq D lat ver a b).2) ∧ Below w1.heap.size w1 w') := Lib.hid fun w1 hb => pairC_ok (tv_keep hb ta) (tv_keep hb tb) (HT.out a (by omega)) (HT.out b hlt) HSEP.out
          have SQ := Lib.hid (spq_ok (lat := lat) (ver := ver) (HT.out a (by omega)) (HT.out b hlt))
          have RAa := RA.out b hlt a hab
          have RA1 : Hid (R + ra G b (a + 1) = R + ra G b a + (spq D lat ver a b).1) := Lib.hid (by rw [HG.out]; exact (Nat.add_assoc _ _ _).symm)
          have MEM : Hid (∀ i, i < (spq D lat ver a b).1 → (⟨a, b, (spq D lat ver a b).2 i 0, (spq D lat ver a b).2 i 1 - 1⟩ : Ck) ∈ L) := Lib.hid fun i hi => HMEM.out _ (cla_mem hla hlt hi M (by omega))
          obtain ⟨S, hS⟩ : ∃ S, S = R + ra G b a := ⟨_, rfl⟩
          have hS9 : S ≤ 6000030 := by omega
          rw [← hS] at RA1 ⊢
          clear hS RAa
          generalize spq D lat ver a b = sq at *
          obtain ⟨A1, ca1, rfl, -, -⟩ := tv_slice ta
          obtain ⟨A2, ca2, rfl, -, -⟩ := tv_slice tb
          have CA := Lib.hid ca; have CB := Lib.hid cb
          clear h3 ta tb ca cb
          go_wp2_with fail
          go_region_held3 (fun w' => w'.cell? ⟨vb, vo + a, none⟩ = some (.slice A1 (D a).n ca1) ∧ w'.cell? ⟨vb, vo + b, none⟩ = some (.slice A2 (D b).n ca2) ∧ w'.cell? ⟨n0, 0, none⟩ = some (.int .i64 lat) ∧ w'.cell? ⟨n0, 1, none⟩ = some (.int .i64 ver) ∧ Below wr.heap.size wr w')
            (first
              | exact ⟨CA.out, CB.out, PA.out.1, PA.out.2, (Below.refl _ _).drew⟩
              | exact ⟨keep hb9 CA.out, keep hb9 CB.out, keep hb9 PA.out.1, keep hb9 PA.out.2, hb9⟩
              | assumption)
            ((first
              | (go_at_call 45; refine (PC.out _ (b_drew (Below.refl _ _))).mono ?_; rintro e w9 ⟨⟨q, rfl, hq9⟩, hb9'⟩; have hb9 := b_next (b_drew (Below.refl wr.heap.size wr)) hb9'; clear hb9'; obtain ⟨Aq, cq, rfl, hq1, hq2⟩ := own_slice hq9)))
          have B9 := Lib.hid (b_next BA.out hb9)
          obtain ⟨g, hA, -, hg2⟩ := rc_of hq9
          have HA := Lib.hid hA; have R9 := Lib.hid hg2
          have hcq9 : cq ≤ 9223372036854775807 := Nat.le_trans hq2 (by decide)
          have SQ1 := SQ.out.1
          clear hA hg2 hq9 hq2 CA CB PA hb9 PC
          go_wp2_with fail
          go_loopw [68] (fun s wr => ∃ i : Nat, i ≤ sq.1 ∧ s = .int .i64 i ∧ Below w9.heap.size w9 wr) (fun s _ => sq.1 - (intOf s).toNat)
          case atStart => exact ⟨0, Nat.zero_le _, rfl, Below.refl _ _⟩
          case round =>
            obtain ⟨i, hi, rfl, hbl⟩ := hrel
            have BI := Lib.hid hbl; clear hbl
            by_cases hlti : i < sq.1
            · have hli : (i : Int) < (sq.1 : Int) := by omega
              have e := HA.out (by omega)
              subst e
              obtain ⟨f0, f1⟩ := R9.out i hlti
              have f0 := keep BI.out f0; have f1 := keep BI.out f1
              have nn := new_ne f0
              obtain ⟨sb1, sb2, sb3⟩ := SQ.out.2 i hlti
              have MI := Lib.hid (MEM.out i hlti)
              generalize sq.2 i 0 = s0 at *
              generalize sq.2 i 1 = s1 at *
              obtain ⟨cc, hcc⟩ : ∃ cc : Ck, cc = ⟨a, b, s0, s1 - 1⟩ := ⟨_, rfl⟩
              rw [← hcc] at MI
              have HCC := Lib.hid hcc; clear hcc
              have CLi := Lib.hid (clv_keep (b_next B9.out BI.out) CL3.out)
              have BC := Lib.hid (p2_new wr 102 s0 s1)
              have W5 := Lib.hid (b_alloc (Below.refl wr.heap.size wr) (.cells #[.int .i64 s0, .int .i64 s1] 102))
              obtain ⟨bn, hbn⟩ : ∃ bn, bn = wr.heap.size := ⟨_, rfl⟩
              go_wp2_with fail
              rw [← hbn] at BC ⊢
              clear f0 f1 nn hbn
              have CL5 := Lib.hid (clv_keep W5.out CLi.out); clear CLi
              have B5 := Lib.hid (b_next BI.out W5.out)
              clear W5
              generalize wr.alloc (.cells #[.int .i64 s0, .int .i64 s1] 102) = wa at *
              go_loopw [14, 74] (fun v s wr => ∃ q : Nat, q ≤ L.length ∧ s = .int .i64 q ∧ v = .bool (fdB L cc q) ∧ Below wa.heap.size wa wr) (fun _ s _ => L.length - (intOf s).toNat)
              case atStart => exact ⟨0, Nat.zero_le _, rfl, rfl, Below.refl _ _⟩
              case round =>
                obtain ⟨q, hq, rfl, rfl, hbl⟩ := hrel
                have BQ := Lib.hid hbl; clear hbl
                by_cases hltq : q < L.length
                · have hlq : (q : Int) < (L.length : Int) := by omega
                  obtain ⟨gb, e, hcells⟩ := clv_at CL5.out (by omega)
                  subst e
                  obtain ⟨x0, x1, x2, x3⟩ := hcells q hltq
                  have x0 := keep BQ.out x0; have x1 := keep BQ.out x1; have x2 := keep BQ.out x2; have x3 := keep BQ.out x3
                  have nn := new_ne x0
                  obtain ⟨z0, z1⟩ := p2_keep BQ.out BC.out
                  have nn2 := new_ne z0
                  have FS := fd_step (c := cc) hltq
                  have FQ : Hid (fdB L cc (q + 1) = (fdB L cc q || decide ((⟨L[q].A, L[q].B, L[q].F, L[q].T⟩ : Ck) = ⟨a, b, s0, s1 - 1⟩))) := Lib.hid (by rw [FS, HCC.out])
                  have BQ1 := Lib.hid (b_next BQ.out (b_alloc (Below.refl wr.heap.size wr) (.cells #[.int .i64 L[q].A, .int .i64 L[q].B, .int .i64 L[q].F, .int .i64 L[q].T] 104)))
                  clear hcells FS
                  generalize L[q].A = y0 at *
                  generalize L[q].B = y1 at *
                  generalize L[q].F = y2 at *
                  generalize L[q].T = y3 at *
                  generalize fdB L cc q = fq at *
                  cases fq with
                  | true =>
                    have FT : Hid (Value.bool true = Value.bool (fdB L cc (q + 1))) := Lib.hid (by rw [FQ.out, Bool.true_or])
                    go_wp2_with fail
                    go_roundw
                    case rel => exact ⟨q + 1, by omega, by go_num, FT.out, BQ1.out⟩
                    case measure => simp [intOf]; omega
                  | false =>
                    by_cases e0 : y0 = a
                    · subst e0
                      by_cases e1 : y1 = b
                      · subst e1
                        by_cases e2 : y2 = s0
                        · subst e2
                          by_cases e3 : y3 = s1 - 1
                          · subst e3
                            have FT : Hid (Value.bool true = Value.bool (fdB L cc (q + 1))) := Lib.hid (by rw [FQ.out, decide_eq_true rfl]; rfl)
                            go_wp2_with fail
                            go_roundw
                            case rel => exact ⟨q + 1, by omega, by go_num, FT.out, BQ1.out⟩
                            case measure => simp [intOf]; omega
                          · have NE : Hid ((⟨a, b, y2, y3⟩ : Ck) ≠ ⟨a, b, y2, s1 - 1⟩) := Lib.hid (fun e => by injection e with h1 h2 h3 h4; first | exact e3 h1 | exact e3 h2 | exact e3 h3 | exact e3 h4)
                            have FT : Hid (Value.bool false = Value.bool (fdB L cc (q + 1))) := Lib.hid (by rw [FQ.out, decide_eq_false NE.out]; rfl)
                            go_wp2_with fail
                            all_goals first
                              | (exfalso; omega)
                              | (go_roundw
                                 case rel => exact ⟨q + 1, by omega, by go_num, FT.out, BQ1.out⟩
                                 case measure => simp [intOf]; omega)
                        · have NE : Hid ((⟨a, b, y2, y3⟩ : Ck) ≠ ⟨a, b, s0, s1 - 1⟩) := Lib.hid (fun e => by injection e with h1 h2 h3 h4; first | exact e2 h1 | exact e2 h2 | exact e2 h3 | exact e2 h4)
                          have FT : Hid (Value.bool false = Value.bool (fdB L cc (q + 1))) := Lib.hid (by rw [FQ.out, decide_eq_false NE.out]; rfl)
                          go_wp2_with fail
                          all_goals first
                            | (exfalso; omega)
                            | (go_roundw
                               case rel => exact ⟨q + 1, by omega, by go_num, FT.out, BQ1.out⟩
                               case measure => simp [intOf]; omega)
                      · have NE : Hid ((⟨a, y1, y2, y3⟩ : Ck) ≠ ⟨a, b, s0, s1 - 1⟩) := Lib.hid (fun e => by injection e with h1 h2 h3 h4; first | exact e1 h1 | exact e1 h2 | exact e1 h3 | exact e1 h4)
                        have FT : Hid (Value.bool false = Value.bool (fdB L cc (q + 1))) := Lib.hid (by rw [FQ.out, decide_eq_false NE.out]; rfl)
                        go_wp2_with fail
                        all_goals first
                          | (exfalso; omega)
                          | (go_roundw
                             case rel => exact ⟨q + 1, by omega, by go_num, FT.out, BQ1.out⟩
                             case measure => simp [intOf]; omega)
                    · have NE : Hid ((⟨y0, y1, y2, y3⟩ : Ck) ≠ ⟨a, b, s0, s1 - 1⟩) := Lib.hid (fun e => by injection e with h1 h2 h3 h4; first | exact e0 h1 | exact e0 h2 | exact e0 h3 | exact e0 h4)
                      have FT : Hid (Value.bool false = Value.bool (fdB L cc (q + 1))) := Lib.hid (by rw [FQ.out, decide_eq_false NE.out]; rfl)
                      go_wp2_with fail
                      all_goals first
                        | (exfalso; omega)
                        | (go_roundw
                           case rel => exact ⟨q + 1, by omega, by go_num, FT.out, BQ1.out⟩
                           case measure => simp [intOf]; omega)
                · have hqL : q = L.length := by omega
                  subst hqL
                  have hlq : ¬ (L.length : Int) < (L.length : Int) := by omega
                  rw [fd_end MI.out]
                  have BN := Lib.hid (b_next B5.out BQ.out)
                  go_wp2_with fail
                  go_roundw
                  case rel => exact ⟨i + 1, by omega, by go_num, BN.out⟩
                  case measure => simp [intOf]; omega
            · have hin : i = sq.1 := by omega
              subst hin
              have hli : ¬ (sq.1 : Int) < (sq.1 : Int) := by omega
              have BN := Lib.hid (b_next B9.out BI.out)
              have RN : Hid (Value.int .i64 ((S : Int) + (sq.1 : Int)) = Value.int .i64 ((R + ra G b (a + 1) : Nat) : Int)) := Lib.hid (by rw [RA1.out]; rfl)
              go_wp2_with fail
              go_roundw
              case rel => exact ⟨a + 1, by omega, by go_num, RN.out, BN.out⟩
              case measure => simp [intOf]; omega
        · have hab' : a = b := by omega
          subst hab'
          have hla' : ¬ (a : Int) < (a : Int) := by omega
          have RN : Hid (Value.int .i64 ((R + ra G a a : Nat) : Int) = Value.int .i64 ((rt G (a + 1) : Nat) : Int)) := Lib.hid (by rw [RB.out])
          go_wp2_with fail
          go_roundw
          case rel => exact ⟨a + 1, by omega, by go_num, RN.out, BA.out⟩
          case measure => simp [intOf]; omega
    · have hbm : b = M := by omega
      have hl : ¬ (b : Int) < (M : Int) := by omega
      rw [hbm, ← HLEN.out]
      clear hbm
      have CLr := Lib.hid (clv_keep BL.out CL3.out)
      have WR := Lib.hid (b_next W3.out BL.out)
      obtain ⟨wq, hwq⟩ : ∃ wq, wq = wr := ⟨_, rfl⟩
      rw [← hwq] at CLr WR BL ⊢
      clear hwq
      go_wp2_with fail
      go_loopw [17] (fun s wr => ∃ k : Nat, 1 ≤ k ∧ s = .int .i64 k ∧ Below wq.heap.size wq wr) (fun s _ => L.length - (intOf s).toNat)
      case atStart => exact ⟨1, Nat.le_refl _, rfl, Below.refl _ _⟩
      case round =>
        obtain ⟨k, hk, rfl, hbl⟩ := hrel
        have BK := Lib.hid hbl; clear hbl
        by_cases hltk : k < L.length
        · have hlk : (k : Int) < (L.length : Int) := by omega
          obtain ⟨gb, e, hcells⟩ := clv_at CLr.out (by omega)
          subst e
          obtain ⟨P, hP⟩ : ∃ P, P = k - 1 := ⟨_, rfl⟩
          have hPk : P < L.length := by omega
          obtain ⟨-, -, x2, -⟩ := hcells k hltk
          obtain ⟨-, -, z2, -⟩ := hcells P hPk
          have x2 := keep BK.out x2; have z2 := keep BK.out z2
          have NL := Lib.hid (HS.out P k hPk hltk (by omega))
          have hFF : ¬ L[k].F < L[P].F := fun h => NL.out (Or.inl h)
          have hPl : (P : Int) < (L.length : Int) := by omega
          have u1 : IntKind.i64.wrap ((k : Int) - 1) = (P : Int) := by rw [IntWalk.i64_in _ (by omega)]; omega
          have u2 : ((k - 1 : Nat) : Int) = (P : Int) := by omega
          have u3 : IntKind.i64.wrap (P : Int) = (P : Int) := IntWalk.i64_in _ (by omega)
          clear hcells hP NL
          generalize L[k].F = y0 at *
          generalize L[P].F = y1 at *
          have hFF' := decide_eq_false hFF
          go_wp2_with fail
          refine d_region (by kernel_rfl) (by kernel_rfl) ?_
          repeat
            first
              | (refine d_plain (by with_reducible rfl) ?_; apply Exists.intro; refine ⟨fun wq hc hq => ?_, ?_⟩)
              | (refine d_on (by with_reducible rfl) (by rfl) (by with_reducible rfl) ?_; apply Exists.intro; refine ⟨fun wq hc hq => ?_, ?_⟩)
              | (refine d_off (by with_reducible rfl) (by rfl) (by rfl) ?_)
              | (refine d_void (by with_reducible rfl) (by rfl) ?_)
            try any_goals
              (have l0 := keep hq x2; have l1 := keep hq z2; clear hc
               go_simp
               first
                 | rfl)
            simp only [Act.put, List.setIfInBounds_toArray, List.set_cons_zero, List.set_cons_succ]
          refine d_nil ?_
          intro w2 hb2
          have B2 := Lib.hid (b_next BK.out hb2); clear hb2
          go_wp2_with fail
          go_roundw
          case rel => exact ⟨k + 1, by omega, by go_num, B2.out⟩
          case measure => simp [intOf]; omega
        · have hlk : ¬ (k : Int) < (L.length : Int) := by omega
          go_wp2_with fail
          go_ret
          exact ⟨by first | rfl | exact retb rfl, b_next WR.out BK.out⟩
theorem walk (l : Value) (s_lat : Int) (s_vert : Int) (W : World) (h_l : Frame.Okc W (.sl [.sl [.int, .int, .int, .int, .int, .int]]) l) (_h_s_lat : -9223372036854775808 ≤ s_lat ∧ s_lat ≤ 9223372036854775807) (_h_s_vert : -9223372036854775808 ≤ s_vert ∧ s_vert ≤ 9223372036854775807) :
    Calls Try.prog 11 #[l, .agg #[.int .i64 s_lat, .int .i64 s_vert]] W fun e w' => e = .returned (.bool true) ∧ Below W.heap.size W w' := by
  obtain ⟨m, D, hv⟩ := ts_of h_l
  have hv' := hv
  obtain ⟨A, c, rfl, h1, h2⟩ := ts_slice hv
  have hmin : min m 5 ≤ m := Nat.min_le_left _ _
  have hV : TsV W (.slice A (min m 5) c) (min m 5) D := by
    rcases Nat.eq_zero_or_pos m with rfl | h0
    · exact hv'
    · exact ts_take hv' hmin h2 h0
  exact core A m (min m 5) c D s_lat s_vert W (Nat.min_le_right _ _) (by omega) hmin h1 h2 (Lib.hid hV)
-- FRAME --

set_option maxRecDepth 100000 in
theorem lifted (os : Os) (started : os.Started) (H : Type) (enc : TypeId × Value → H) :
    ReturnsInHanded {} Try.checked os 11 .any (Rows.probeAllSpec.pre6 enc Try.prog Try.f11 Rows.probeAllRow.domain false) (Rows.probeAllSpec.post enc Try.prog Try.f11 false true false false) :=
  Frame.lifted (C := Try.checked) 11 Try.f11 Try.own started (by kernel_rfl) Try.func11 Try.laidOut rfl (by kernel_rfl) 4 rfl Try.underlying4
      (fun ds h => by match ds, h with | [_, _], _ => rfl)
      (ChangeSpec.witness6 (enc := enc) (C := Try.checked) false ⟨#[], #[.slice none 0 0, .agg #[.int .i64 0, .int .i64 0]], []⟩ 8 (by kernel_rfl) (by kernel_rfl) (by kernel_rfl) (by kernel_rfl))
      (fun W base args ds ps hval0 hA _ => by
        have hval : ∀ (j : Nat) t v, Try.f11.params[j]? = some t → args[j]? = some v → Value.okWide Try.prog W .any base t v := hval0
        have hA' : DataW.TrodAll enc Try.prog W 0 (fun _ => true) true Try.f11.params.toList args.toList ds ps := hA
        clear hval0 hA
        have hA := hA'
        clear hA'
        rw [Try.params11] at hA hval
        obtain ⟨v0, vs0, d0, ds0, p0, q0, ea, rfl, rfl, tr0, rest0⟩ := trodAll_cons hA
        obtain ⟨v1, vs1, d1, ds1, p1, q1, rfl, rfl, rfl, tr1, rest1⟩ := trodAll_cons rest0
        obtain ⟨rfl, rfl, rfl⟩ := trodAll_nil rest1
        obtain rfl : args = #[v0, v1] := by cases args; simp_all
        clear ea
        have sl_l : Frame.Okc W (.sl [.sl [.int, .int, .int, .int, .int, .int]]) v0 := by obtain ⟨a, l, c, e⟩ := okWide_slice Try.underlying93 (hval 0 _ v0 rfl rfl); exact Frame.arg_cell (k := 8) (by kernel_rfl) (by have e2 : v0 = .slice a l c := e; rw [e2]; rfl) tr0
        obtain ⟨cs_s, e_s, hl_s, hc_s⟩ := Frame.arg_agg Try.underlying95 (k := 8) (ks := [.int, .int]) (by kernel_rfl) (hval 1 _ v1 rfl rfl) tr1
        subst e_s
        obtain ⟨c_s_lat, c_s_vert, rfl⟩ : ∃ c_s_lat c_s_vert, cs_s = [c_s_lat, c_s_vert] := by match cs_s, hl_s with | [x0, x1], _ => exact ⟨x0, x1, rfl⟩
        have o_s_lat : Frame.Okc W (.int) c_s_lat := hc_s 0 (by decide) (by simp)
        obtain ⟨s_lat, e_s_lat, w_s_lat⟩ := o_s_lat.int_inv; subst e_s_lat
        have o_s_vert : Frame.Okc W (.int) c_s_vert := hc_s 1 (by decide) (by simp)
        obtain ⟨s_vert, e_s_vert, w_s_vert⟩ := o_s_vert.int_inv; subst e_s_vert
        exact walk v0 s_lat s_vert W sl_l w_s_lat w_s_vert)

/-- The statement. -/
theorem proved : Rows.ProbeAllSaid :=
  OpenClaim.holds_of_wide 11 Try.f11 rfl rfl rfl rfl rfl rfl rfl ⟨rfl, rfl, rfl, rfl, rfl⟩ rfl rfl rfl rfl rfl (by kernel_rfl) Try.func11 (by kernel_rfl)
    (of_decide_eq_true (by kernel_rfl)) (by unfold Func.isWrapper; first | (rw [if_pos (by decide +kernel)]; kernel_rfl) | (rw [if_neg (by decide +kernel)]; exact ⟨rfl, rfl⟩))
    (fun os started H enc _ => lifted os started H enc)
#print axioms proved
end ProbeAll
end Go.Proofs.Yteaccanhahmclaa

