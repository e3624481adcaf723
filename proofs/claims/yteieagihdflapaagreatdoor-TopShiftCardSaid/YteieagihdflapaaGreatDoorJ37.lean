/- Joined texts: PrA, TwP, TubeD, Climb, FlyWorks. -/
import Derived.Test.YteieagihdflapaaGreatDoorJ36
import Derived.Deep.RegionHeld3
import Derived.Test.YteieagihdflapaaGreatDoorJ34
import Derived.Test.YteieagihdflapaaGreatDoorJ08
import Derived.Test.YteieagihdflapaaGreatDoorJ11
import Derived.Test.YteieagihdflapaaGreatDoorJ02
import Derived.Test.YteieagihdflapaaGreatDoorJ05
namespace Go.Proofs.YteieagihdflapaaGreatDoor
open Go.RowKit
namespace Probe
open Kit Plane Tube
/-- The spans of a pair without separation. -/
def spq (D : Nat → Td) (lat ver : Int) (a b : Nat) : Nat × (Nat → Nat → Int) :=
  spanN (cfT (D a).T (D a).X (D a).Y (D a).H (D a).R (D a).B (D a).n (D b).T (D b).X (D b).Y (D b).H (D b).R (D b).B (D b).n lat ver) (max ((D a).T 0) ((D b).T 0)) (min ((D a).T ((D a).n - 1)) ((D b).T ((D b).n - 1)) + 1 - max ((D a).T 0) ((D b).T 0)).toNat
/-- The clashes of a pair. -/
def clp (D : Nat → Td) (lat ver : Int) (a b : Nat) : List Ck := (List.range (spq D lat ver a b).1).map fun i => ⟨a, b, (spq D lat ver a b).2 i 0, (spq D lat ver a b).2 i 1 - 1⟩
/-- The clashes of a with those after it, up to k. -/
def clb (D : Nat → Td) (lat ver : Int) (a : Nat) : Nat → List Ck
  | 0 => []
  | k + 1 => clb D lat ver a k ++ if a < k then clp D lat ver a k else []
/-- The clashes of the first ones. -/
def cla (D : Nat → Td) (lat ver : Int) (m : Nat) : Nat → List Ck
  | 0 => []
  | k + 1 => cla D lat ver m k ++ clb D lat ver k m
section
variable {D : Nat → Td} {lat ver : Int}
theorem clb_none (a : Nat) : ∀ k, k ≤ a + 1 → clb D lat ver a k = []
  | 0, _ => rfl
  | k + 1, h => by
    unfold clb
    rw [clb_none a k (by omega), if_neg (by omega)]; rfl
theorem clp_len (a b : Nat) : (clp D lat ver a b).length = (spq D lat ver a b).1 := by unfold clp; simp
theorem clp_get (a b : Nat) {i : Nat} (h : i < (clp D lat ver a b).length) : (clp D lat ver a b)[i] = ⟨a, b, (spq D lat ver a b).2 i 0, (spq D lat ver a b).2 i 1 - 1⟩ := by simp only [clp, List.getElem_map, List.getElem_range]
theorem clp_take (a b : Nat) {i : Nat} (h : i < (spq D lat ver a b).1) : (clp D lat ver a b).take (i + 1) = (clp D lat ver a b).take i ++ [⟨a, b, (spq D lat ver a b).2 i 0, (spq D lat ver a b).2 i 1 - 1⟩] := by
  have h2 : i < (clp D lat ver a b).length := by rw [clp_len]; exact h
  rw [List.take_add_one, List.getElem?_eq_getElem h2, clp_get]; rfl
theorem spq_ok {a b : Nat} (ha : tok (D a).T (D a).X (D a).Y (D a).H (D a).R (D a).B (D a).n) (hb : tok (D b).T (D b).X (D b).Y (D b).H (D b).R (D b).B (D b).n) : (spq D lat ver a b).1 ≤ 200001 ∧ ∀ i, i < (spq D lat ver a b).1 → 0 ≤ (spq D lat ver a b).2 i 0 ∧ (spq D lat ver a b).2 i 0 < (spq D lat ver a b).2 i 1 ∧ (spq D lat ver a b).2 i 1 ≤ 200001 := by
  have t0 := ha.time 0 ha.pos
  have t0' := hb.time 0 hb.pos
  have tn := ha.time ((D a).n - 1) (by have := ha.pos; omega)
  have tn' := hb.time ((D b).n - 1) (by have := hb.pos; omega)
  have q := spanN_ok (cfT (D a).T (D a).X (D a).Y (D a).H (D a).R (D a).B (D a).n (D b).T (D b).X (D b).Y (D b).H (D b).R (D b).B (D b).n lat ver) (max ((D a).T 0) ((D b).T 0)) (min ((D a).T ((D a).n - 1)) ((D b).T ((D b).n - 1)) + 1 - max ((D a).T 0) ((D b).T 0)).toNat
  refine ⟨?_, fun i hi => ?_⟩
  · have := q.few
    show (spanN _ _ _).1 ≤ _
    omega
  · have h := q.le i hi
    have f := q.few
    have e : ((min ((D a).T ((D a).n - 1)) ((D b).T ((D b).n - 1)) + 1 - max ((D a).T 0) ((D b).T 0)).toNat : Int) ≤ 200001 := by omega
    have hpos : 0 < (min ((D a).T ((D a).n - 1)) ((D b).T ((D b).n - 1)) + 1 - max ((D a).T 0) ((D b).T 0)).toNat := by
      rcases Nat.eq_zero_or_pos (min ((D a).T ((D a).n - 1)) ((D b).T ((D b).n - 1)) + 1 - max ((D a).T 0) ((D b).T 0)).toNat with hz | hz
      · rw [hz] at f
        have hi' : i < (spq D lat ver a b).1 := hi
        have f' : (spq D lat ver a b).1 ≤ 0 := by unfold spq; rw [hz]; exact f
        omega
      · exact hz
    have h' : max ((D a).T 0) ((D b).T 0) ≤ (spq D lat ver a b).2 i 0 ∧ (spq D lat ver a b).2 i 0 < (spq D lat ver a b).2 i 1 ∧ (spq D lat ver a b).2 i 1 ≤ max ((D a).T 0) ((D b).T 0) + ((min ((D a).T ((D a).n - 1)) ((D b).T ((D b).n - 1)) + 1 - max ((D a).T 0) ((D b).T 0)).toNat : Int) := h
    omega
/-- All tubes pass. -/
def toks (D : Nat → Td) (m : Nat) : Prop := ∀ k, k < m → tok (D k).T (D k).X (D k).Y (D k).H (D k).R (D k).B (D k).n
theorem toks_of {m : Nat} (h : firstE (tse D) m = 0) : toks D m := fun k hk => by
  have e : tse D k = 0 := by
    rcases Classical.em (tse D k = 0) with q | q
    · exact q
    · exfalso
      have h0 : firstE (tse D) k = 0 := by
        rcases Classical.em (firstE (tse D) k = 0) with q2 | q2
        · exact q2
        · have := first_stays q2 m (by omega)
          exact absurd (this.symm.trans h) q2
      exact q ((first_stop h0 hk q).symm.trans h)
  exact (tck_zero _).1 e
theorem clb_len {m : Nat} (ht : toks D m) {a : Nat} (ha : a < m) : ∀ k, k ≤ m → (clb D lat ver a k).length ≤ k * 200001
  | 0, _ => by simp [clb]
  | k + 1, h => by
    have ih := clb_len ht ha k (by omega)
    unfold clb
    rw [List.length_append]
    split
    · rw [clp_len]
      have := (spq_ok (lat := lat) (ver := ver) (ht a ha) (ht k (by omega))).1
      omega
    · exact Nat.le_trans (by simpa using ih) (Nat.mul_le_mul_right 200001 (Nat.le_succ k))
theorem cla_len {m : Nat} (ht : toks D m) (hm : m ≤ 24) : ∀ k, k ≤ m → (cla D lat ver m k).length ≤ k * 4800024
  | 0, _ => by simp [cla]
  | k + 1, h => by
    have ih := cla_len ht hm k (by omega)
    have q := clb_len (lat := lat) (ver := ver) ht (show k < m by omega) m (Nat.le_refl _)
    unfold cla
    rw [List.length_append]
    omega
theorem clp_ok {m : Nat} (ht : toks D m) (hm : m ≤ 24) {a b : Nat} (ha : a < m) (hb : b < m) : ∀ c ∈ clp D lat ver a b, ckOk c := by
  intro c hc
  obtain ⟨i, hi, rfl⟩ := List.mem_iff_getElem.1 hc
  rw [clp_get]
  rw [clp_len] at hi
  have q := (spq_ok (lat := lat) (ver := ver) (ht a ha) (ht b hb)).2 i hi
  unfold ckOk
  simp only
  omega
theorem clb_ok {m : Nat} (ht : toks D m) (hm : m ≤ 24) {a : Nat} (ha : a < m) : ∀ k, k ≤ m → ∀ c ∈ clb D lat ver a k, ckOk c
  | 0, _ => fun c hc => absurd hc (List.not_mem_nil)
  | k + 1, h => fun c hc => by
    unfold clb at hc
    rw [List.mem_append] at hc
    rcases hc with hc | hc
    · exact clb_ok ht hm ha k (by omega) c hc
    · split at hc
      · exact clp_ok ht hm ha (by omega) c hc
      · exact absurd hc List.not_mem_nil
theorem cla_ok {m : Nat} (ht : toks D m) (hm : m ≤ 24) : ∀ k, k ≤ m → ∀ c ∈ cla D lat ver m k, ckOk c
  | 0, _ => fun c hc => absurd hc (List.not_mem_nil)
  | k + 1, h => fun c hc => by
    unfold cla at hc
    rw [List.mem_append] at hc
    rcases hc with hc | hc
    · exact cla_ok ht hm k (by omega) c hc
    · exact clb_ok ht hm (by omega) m (Nat.le_refl _) c hc
end
theorem ckf_app (L : List Ck) (c : Ck) : rowL 4 (ckf L) L.length ++ [Value.int .i64 c.A, .int .i64 c.B, .int .i64 c.F, .int .i64 c.T] = rowL 4 (ckf (L ++ [c])) (L ++ [c]).length := by
  have h : rowL 4 (ckf (L ++ [c])) (L ++ [c]).length = rowL 4 (ckf (L ++ [c])) L.length ++ [Value.int .i64 c.A, .int .i64 c.B, .int .i64 c.F, .int .i64 c.T] := by
    rw [List.length_append]
    show rowL 4 (ckf (L ++ [c])) (L.length + 1) = _
    have e : (L ++ [c]).getD L.length ⟨0, 0, 0, 0⟩ = c := by simp
    show rowL 4 (ckf (L ++ [c])) L.length ++ [Value.int .i64 (ckf (L ++ [c]) L.length 0), .int .i64 (ckf (L ++ [c]) L.length 1), .int .i64 (ckf (L ++ [c]) L.length 2), .int .i64 (ckf (L ++ [c]) L.length 3)] = _
    unfold ckf
    rw [e]; rfl
  rw [h]
  congr 1
  refine rowL_congr fun i hi j hj => ?_
  have e : (L ++ [c]).getD i ⟨0, 0, 0, 0⟩ = L.getD i ⟨0, 0, 0, 0⟩ := by
    rw [List.getD_eq_getElem?_getD, List.getD_eq_getElem?_getD, List.getElem?_append_left hi]
  unfold ckf
  rw [e]
/-- probe.spans at two tubes that pass. -/
theorem spansC {w : World} {D : Nat → Td} {a b : Nat} {u v : Value} (hu : TD w u (D a)) (hv : TD w v (D b)) (hp : tok (D a).T (D a).X (D a).Y (D a).H (D a).R (D a).B (D a).n) (hp' : tok (D b).T (D b).X (D b).Y (D b).H (D b).R (D b).B (D b).n) (lat ver : Int) : ∀ w1, Below w.heap.size w w1 →
    Calls Tryz.prog 37 #[u, v, .agg #[.int .i64 lat, .int .i64 ver]] w1 fun e w' => (∃ q, e = .returned q ∧ Own w' w1.heap.size 35 2 q (spq D lat ver a b).1 (spq D lat ver a b).2) ∧ Below w1.heap.size w1 w' := fun w1 hb => by
  have t0 := hp.time 0 hp.pos
  have t0' := hp'.time 0 hp'.pos
  have tn := hp.time ((D a).n - 1) (by have := hp.pos; omega)
  have tn' := hp'.time ((D b).n - 1) (by have := hp'.pos; omega)
  have h1 : (D a).T 0 ≤ max ((D a).T 0) ((D b).T 0) := by omega
  have h2 : (D b).T 0 ≤ max ((D a).T 0) ((D b).T 0) := by omega
  have h3 : min ((D a).T ((D a).n - 1)) ((D b).T ((D b).n - 1)) ≤ (D a).T ((D a).n - 1) := by omega
  have h4 : min ((D a).T ((D a).n - 1)) ((D b).T ((D b).n - 1)) ≤ (D b).T ((D b).n - 1) := by omega
  exact spans_walk u v (max ((D a).T 0) ((D b).T 0)) (min ((D a).T ((D a).n - 1)) ((D b).T ((D b).n - 1))) lat ver _ _ _ _ _ _ _ _ _ _ (cfT (D a).T (D a).X (D a).Y (D a).H (D a).R (D a).B (D a).n (D b).T (D b).X (D b).Y (D b).H (D b).R (D b).B (D b).n lat ver) (Lib.hid fun t => rfl) w1 (Lib.hid (commonC (tv_keep hb hu) (tv_keep hb hv) hp hp')) (by omega)
    (Lib.hid (at_of (tv_keep hb hu) hp h1 h3)) (Lib.hid (at_of (tv_keep hb hv) hp' h2 h4)) (Lib.hid (nd_bds hp h1 h3)) (Lib.hid (nd_bds hp' h2 h4))
/-- probe.All's error, before the clashes are counted. -/
def allE (m : Nat) (D : Nat → Td) (lat ver : Int) : Int := if sepE lat ver ≠ 0 then sepE lat ver else if 24 < m then 2 else firstE (tse D) m
/-- What probe.All answers. -/
def AllR (m : Nat) (D : Nat → Td) (lat ver : Int) (e : Ending) (w' : World) : Prop :=
  (∃ E : Int, E ≠ 0 ∧ e = .returned (.tuple #[.slice none 0 0, .int .i64 E]) ∧ (allE m D lat ver ≠ 0 → E = allE m D lat ver) ∧ (allE m D lat ver = 0 → E = 2 ∧ 256 < (cla D lat ver m m).length)) ∨
  (allE m D lat ver = 0 ∧ (cla D lat ver m m).length ≤ 256 ∧ ∃ v L, e = .returned (.tuple #[v, .int .i64 0]) ∧ L.Perm (cla D lat ver m m) ∧ srt L ∧ CLV w' v L)
theorem p2_keepN {N : Nat} {W w1 : World} (hb : Below N W w1) {b : Nat} (hlt : b < N) {x y : Int} (h : P2 W b x y) : P2 w1 b x y := ⟨(hb.cell (p := ⟨b, 0, none⟩) hlt).trans h.1, (hb.cell (p := ⟨b, 1, none⟩) hlt).trans h.2⟩
/-- The cells of spans. -/
def RC (w : World) (g n : Nat) (f : Nat → Nat → Int) : Prop := ∀ i, i < n → w.cell? ⟨g, i * 2, none⟩ = some (.int .i64 (f i 0)) ∧ w.cell? ⟨g, i * 2 + 1, none⟩ = some (.int .i64 (f i 1))
theorem own_blk_lt {w : World} {base : Nat} {E : TypeId} {C n : Nat} {v : Value} {f : Nat → Nat → Int} (h : Own w base E C v n f) : ∀ b, v.ownBlock = some b → b < w.heap.size := by
  intro b hb
  rcases h.2 with ⟨rfl, -⟩ | ⟨g, cap, cur, rfl, -, hg, -⟩
  · cases hb
  · cases hb; exact (Array.getElem?_eq_some_iff.1 hg).1
theorem rc_of {w : World} {base : Nat} {E : TypeId} {n : Nat} {A : Option Addr} {cap : Nat} {f : Nat → Nat → Int} (h : Own w base E 2 (.slice A n cap) n f) : ∃ g, (0 < n → A = some ⟨g, 0, none⟩) ∧ base ≤ g ∧ RC w g n f := by
  rcases Nat.eq_zero_or_pos n with h0 | h0
  · exact ⟨base, fun h => absurd h (by omega), Nat.le_refl _, fun i hi => absurd hi (by omega)⟩
  · obtain ⟨g, c, e, hb, -, -, -, hr⟩ := own_row h h0
    injection e with e1
    exact ⟨g, fun _ => e1, hb, fun i hi => ⟨hr.cell i hi 0 (by decide), hr.cell i hi 1 (by decide)⟩⟩
theorem fits_clash : (Tryz.prog.info? 78).map (fun i => (i.zero, i.size, i.bytes)) = some (some (.agg #[.int .i64 0, .int .i64 0, .int .i64 0, .int .i64 0]), 4, 32) := by kernel_rfl
theorem new4 (w : World) (ty : TypeId) (a b c d : Value) : ∀ j u, ([a, b, c, d] : List Value)[j]? = some u → (w.alloc (.cells #[a, b, c, d] ty)).cell? ((⟨w.heap.size, 0, none⟩ : Addr).add j) = some u := fun j u hu => by
  rw [Go.WideShapes.add_plain]
  have hj : j < 4 := (List.getElem?_eq_some_iff.1 hu).1
  rcases (show j = 0 ∨ j = 1 ∨ j = 2 ∨ j = 3 by omega) with rfl | rfl | rfl | rfl <;> simpa using hu
set_option maxRecDepth 100000 in
set_option maxHeartbeats 8000000 in
theorem all_bad (v : Value) (lat ver E : Int) (w : World) (hE : sepE lat ver = E) (h0 : E ≠ 0) :
    Calls Tryz.prog 18 #[v, .agg #[.int .i64 lat, .int .i64 ver]] w fun e w' => e = .returned (.tuple #[.slice none 0 0, .int .i64 E]) ∧ Below w.heap.size w w' := by
  have HW := Lib.hid (b_alloc (Below.refl w.heap.size w) (.cells #[.int .i64 lat, .int .i64 ver] 25))
  have CS := Lib.hid (fun w => checkSep lat ver w)
  rw [hE] at CS
  clear hE
  have h1 : (E == 0) = false := by simpa using h0
  have h2 : (E != 0) = true := by simpa using h0
  clear h0
  go_enter Tryz.func18, Tryz.ntmps18
  go_wp2_with fail
  (with_reducible refine (CS.out _).mono ?_); rintro e w1 ⟨rfl, h⟩
  have W1 := Lib.hid (b_next HW.out h); clear h
  go_wp2_with fail
  refine bodyPost_ret (v := .tuple #[.slice none 0 0, .int .i64 E]) (by simp [results, Tryz.results18, go_sem]) rfl ⟨rfl, W1.out⟩
set_option maxRecDepth 100000 in
set_option maxHeartbeats 8000000 in
theorem all_big (A : Option Addr) (m c : Nat) (lat ver : Int) (w : World) (hE : sepE lat ver = 0) (hm : 24 < m) :
    Calls Tryz.prog 18 #[.slice A m c, .agg #[.int .i64 lat, .int .i64 ver]] w fun e w' => e = .returned (.tuple #[.slice none 0 0, .int .i64 2]) ∧ Below w.heap.size w w' := by
  have HW := Lib.hid (b_alloc (Below.refl w.heap.size w) (.cells #[.int .i64 lat, .int .i64 ver] 25))
  have CS := Lib.hid (fun w => checkSep lat ver w)
  rw [hE] at CS
  clear hE
  have hm' : (24 : Int) < (m : Int) := by omega
  go_enter Tryz.func18, Tryz.ntmps18
  go_wp2_with fail
  (with_reducible refine (CS.out _).mono ?_); rintro e w1 ⟨rfl, h⟩
  have W1 := Lib.hid (b_next HW.out h); clear h
  go_wp2_with fail
  refine bodyPost_ret (v := .tuple #[.slice none 0 0, .int .i64 2]) (by simp [results, Tryz.results18, go_sem]) rfl ⟨rfl, W1.out⟩
set_option maxRecDepth 100000 in
set_option maxHeartbeats 8000000 in
theorem all_chk (A : Option Addr) (m c : Nat) (lat ver E : Int) (w : World) (hE : sepE lat ver = 0) (hm : m ≤ 24) (h0 : E ≠ 0)
    (CK : Hid (∀ w1, Below w.heap.size w w1 → Calls Tryz.prog 36 #[.agg #[.int .i64 lat, .int .i64 ver], .slice A m c] w1 fun e w' => e = .returned (.int .i64 E) ∧ Below w1.heap.size w1 w')) :
    Calls Tryz.prog 18 #[.slice A m c, .agg #[.int .i64 lat, .int .i64 ver]] w fun e w' => e = .returned (.tuple #[.slice none 0 0, .int .i64 E]) ∧ Below w.heap.size w w' := by
  have HP := Lib.hid (p2_new w 25 lat ver)
  have HW := Lib.hid (b_alloc (Below.refl w.heap.size w) (.cells #[.int .i64 lat, .int .i64 ver] 25))
  have CS := Lib.hid (fun w => checkSep lat ver w)
  rw [hE] at CS
  clear hE
  have h1 : (E == 0) = false := by simpa using h0
  have h2 : (E != 0) = true := by simpa using h0
  clear h0
  have hm' : ¬ (24 : Int) < (m : Int) := by omega
  go_enter Tryz.func18, Tryz.ntmps18
  go_wp2_with fail
  (with_reducible refine (CS.out _).mono ?_); rintro e w1 ⟨rfl, h⟩
  have W1 := Lib.hid (b_next HW.out h); have P1 := p2_keep h HP.out; clear h
  obtain ⟨p0, p1⟩ := P1
  go_wp2_with fail
  (with_reducible refine (CK.out _ W1.out).mono ?_); rintro e w2 ⟨rfl, h⟩
  have W2 := Lib.hid (b_next W1.out h); clear h
  go_wp2_with fail
  refine bodyPost_ret (v := .tuple #[.slice none 0 0, .int .i64 E]) (by simp [results, Tryz.results18, go_sem]) rfl ⟨rfl, W2.out⟩
set_option maxRecDepth 100000 in
set_option maxHeartbeats 8000000 in
theorem all_w (A : Option Addr) (m c : Nat) (D : Nat → Td) (lat ver : Int) (w : World) (hE : sepE lat ver = 0) (hm : m ≤ 24) (hcm : c ≤ 9223372036854775807) (hmc : m ≤ c) (HV : Hid (TsV w (.slice A m c) m D)) (HT : Hid (toks D m))
    (CK : Hid (∀ w1, Below w.heap.size w w1 → Calls Tryz.prog 36 #[.agg #[.int .i64 lat, .int .i64 ver], .slice A m c] w1 fun e w' => e = .returned (.int .i64 0) ∧ Below w1.heap.size w1 w')) :
    Calls Tryz.prog 18 #[.slice A m c, .agg #[.int .i64 lat, .int .i64 ver]] w fun e w' =>
      ((256 < (cla D lat ver m m).length ∧ e = .returned (.tuple #[.slice none 0 0, .int .i64 2])) ∨ ((cla D lat ver m m).length ≤ 256 ∧ ∃ v L, e = .returned (.tuple #[v, .int .i64 0]) ∧ L.Perm (cla D lat ver m m) ∧ srt L ∧ CLV w' v L)) ∧ Below w.heap.size w w' := by
  have HP := Lib.hid (p2_new w 25 lat ver)
  have HW := Lib.hid (b_alloc (Below.refl w.heap.size w) (.cells #[.int .i64 lat, .int .i64 ver] 25))
  have CS := Lib.hid (fun w => checkSep lat ver w)
  rw [hE] at CS
  clear hE
  have hm' : ¬ (24 : Int) < (m : Int) := by omega
  obtain ⟨i0, hi, hz0, hz1, hz2⟩ := info_parts fits_clash
  have IF := Lib.hid (And.intro hi (And.intro hz0 (And.intro hz1 hz2))); clear hi hz0 hz1 hz2
  obtain ⟨n0, hn0⟩ : ∃ n0, n0 = w.heap.size := ⟨_, rfl⟩
  go_enter Tryz.func18, Tryz.ntmps18
  go_wp2_with fail
  (with_reducible refine (CS.out _).mono ?_); rintro e w1 ⟨rfl, h⟩
  have W1 := Lib.hid (b_next HW.out h); have P1 := Lib.hid (p2_keep h HP.out); clear h
  rw [← hn0] at P1 ⊢
  have HN0 := Lib.hid hn0; clear hn0
  obtain ⟨p0, p1⟩ := P1.out
  go_wp2_with fail
  (with_reducible refine (CK.out _ W1.out).mono ?_); rintro e w2 ⟨rfl, h⟩
  have W2 := Lib.hid (b_next W1.out h); have P2 := Lib.hid (p2_keep h P1.out); clear h p0 p1
  go_wp2_with fail
  obtain ⟨N1, hN1⟩ : ∃ N1, N1 = w.heap.size + 1 := ⟨_, rfl⟩
  have HN1 : Hid (w.heap.size ≤ N1 ∧ n0 < N1 ∧ N1 ≤ w2.heap.size) := Lib.hid ⟨by omega, by have := HN0.out; omega, by have := (show n0 < w2.heap.size from lt_of_cell P2.out.1); have := HN0.out; omega⟩
  clear hN1
  go_loopw [8, 29] (fun v s wr => ∃ k : Nat, k ≤ m ∧ s = .int .i64 k ∧ Own wr N1 78 4 v (cla D lat ver m k).length (ckf (cla D lat ver m k)) ∧ Below N1 w2 wr) (fun _ s _ => m - (intOf s).toNat)
  case atStart => exact ⟨0, Nat.zero_le _, rfl, own_nil _ _ _ _ _, Below.refl _ _⟩
  case round =>
    obtain ⟨k, hk, rfl, hown, hbl⟩ := hrel
    have OW := Lib.hid hown; have WR := Lib.hid (W2.out.trans (hbl.mono HN1.out.1)); have BL := Lib.hid hbl; clear hown hbl
    by_cases hlt : k < m
    · have hl : (k : Int) < (m : Int) := by omega
      have LB0 := Lib.hid (cla_len (lat := lat) (ver := ver) HT.out hm k hk)
      have CLA : Hid (cla D lat ver m (k + 1) = cla D lat ver m k ++ clb D lat ver k m) := Lib.hid rfl
      obtain ⟨L1, hL1⟩ : ∃ L1, L1 = cla D lat ver m k := ⟨_, rfl⟩
      rw [← hL1] at OW LB0 CLA
      clear hL1
      go_wp2_with fail
      go_loopw [8, 10] (fun v s wr => ∃ j : Nat, k + 1 ≤ j ∧ j ≤ m ∧ s = .int .i64 j ∧ Own wr N1 78 4 v (L1 ++ clb D lat ver k j).length (ckf (L1 ++ clb D lat ver k j)) ∧ Below N1 w2 wr) (fun _ s _ => m - (intOf s).toNat)
      case atStart => exact ⟨k + 1, Nat.le_refl _, by omega, by go_num, by rw [clb_none k (k + 1) (Nat.le_refl _), List.append_nil]; exact OW.out, BL.out⟩
      case round =>
        obtain ⟨j, hj1, hj2, rfl, hown, hbl⟩ := hrel
        have OJ := Lib.hid hown; have WJ := Lib.hid (W2.out.trans (hbl.mono HN1.out.1)); have PJ := Lib.hid (p2_keepN hbl HN1.out.2.1 P2.out); have BJ := Lib.hid hbl; clear hown hbl
        by_cases hltj : j < m
        · have hlj : (j : Int) < (m : Int) := by omega
          obtain ⟨vb, vo, c', e, hv1, hv2, h3⟩ := ts_at (ts_keep WJ.out HV.out) (by omega)
          injection e with e1 _ e3
          subst e1 e3
          obtain ⟨ua, ca, ta⟩ := h3 k hlt
          obtain ⟨ub, cb, tb⟩ := h3 j hltj
          have SC := Lib.hid (spansC ta tb (HT.out k hlt) (HT.out j hltj) lat ver)
          have SQ := Lib.hid (spq_ok (lat := lat) (ver := ver) (HT.out k hlt) (HT.out j hltj))
          have LB1 := Lib.hid (clb_len (lat := lat) (ver := ver) HT.out hlt j hj2)
          have TK : Hid (∀ i, i < (spq D lat ver k j).1 → (clp D lat ver k j).take (i + 1) = (clp D lat ver k j).take i ++ [⟨k, j, (spq D lat ver k j).2 i 0, (spq D lat ver k j).2 i 1 - 1⟩]) := Lib.hid fun i hi => clp_take k j hi
          have TE : Hid (L1 ++ clb D lat ver k j ++ (clp D lat ver k j).take (spq D lat ver k j).1 = L1 ++ clb D lat ver k (j + 1)) := Lib.hid (by
            rw [← clp_len, List.take_length, List.append_assoc]
            show _ = L1 ++ (clb D lat ver k j ++ if k < j then clp D lat ver k j else [])
            rw [if_pos (by omega)])
          have TZ : Hid (∀ i, ((clp D lat ver k j).take i).length ≤ i) := Lib.hid fun i => by rw [List.length_take]; exact Nat.min_le_left _ _
          obtain ⟨L2, hL2⟩ : ∃ L2, L2 = L1 ++ clb D lat ver k j := ⟨_, rfl⟩
          have LB2 : Hid (L2.length ≤ 300000000) := Lib.hid (by
            have q0 := LB0.out; have q1 := LB1.out
            rw [hL2, List.length_append]
            omega)
          rw [← hL2] at OJ TE
          clear hL2 LB1
          generalize spq D lat ver k j = sq at *
          generalize clp D lat ver k j = cl at *
          obtain ⟨A1, ca1, rfl, -, -⟩ := tv_slice ta
          obtain ⟨A2, ca2, rfl, -, -⟩ := tv_slice tb
          have CA := Lib.hid ca; have CB := Lib.hid cb
          clear h3 ta tb ca cb
          go_wp2_with fail
          go_region_held3 (fun w' => w'.cell? ⟨vb, vo + k, none⟩ = some (.slice A1 (D k).n ca1) ∧ w'.cell? ⟨vb, vo + j, none⟩ = some (.slice A2 (D j).n ca2) ∧ w'.cell? ⟨n0, 0, none⟩ = some (.int .i64 lat) ∧ w'.cell? ⟨n0, 1, none⟩ = some (.int .i64 ver) ∧ Below wr.heap.size wr w')
            (first
              | exact ⟨CA.out, CB.out, PJ.out.1, PJ.out.2, (Below.refl _ _).drew⟩
              | exact ⟨keep hb9 CA.out, keep hb9 CB.out, keep hb9 PJ.out.1, keep hb9 PJ.out.2, hb9⟩
              | assumption)
            ((first
              | (go_at_call 37; refine (SC.out _ (b_drew (Below.refl _ _))).mono ?_; rintro e w9 ⟨⟨q, rfl, hq9⟩, hb9'⟩; have hb9 := b_next (b_drew (Below.refl wr.heap.size wr)) hb9'; clear hb9'; obtain ⟨Aq, cq, rfl, hq1, hq2⟩ := own_slice hq9)))
          have O9 := Lib.hid (own_keep hb9 OJ.out); have B9 := Lib.hid (BJ.out.trans (hb9.mono (Nat.le_trans HN1.out.2.2 BJ.out.size)))
          obtain ⟨g, hA, hg1, hg2⟩ := rc_of hq9
          have NE9 : Hid (u8.ownBlock ≠ some g) := Lib.hid fun e => by
            have := own_blk_lt OJ.out g e
            have e2 : wr.drew.heap.size = wr.heap.size := rfl
            omega
          have HA := Lib.hid hA; have R9 := Lib.hid hg2
          have HC9 : Hid (cq ≤ 9223372036854775807) := Lib.hid (Nat.le_trans hq2 (by decide))
          clear hA hg1 hg2 hq9 hq2 SC CA CB PJ hb9 OJ
          have cq1 := hq1; have cq2 := HC9.out
          go_wp2_with fail
          go_loopw [8, 51] (fun v s wr => ∃ i : Nat, i ≤ sq.1 ∧ s = .int .i64 i ∧ Own wr N1 78 4 v (L2 ++ cl.take i).length (ckf (L2 ++ cl.take i)) ∧ v.ownBlock ≠ some g ∧ RC wr g sq.1 sq.2 ∧ Below N1 w2 wr) (fun _ s _ => sq.1 - (intOf s).toNat)
          case atStart => exact ⟨0, Nat.zero_le _, rfl, by rw [List.take_zero, List.append_nil]; exact O9.out, NE9.out, R9.out, B9.out⟩
          case round =>
            obtain ⟨i, hi, rfl, hown, hne, hrc, hbl⟩ := hrel
            have OI := Lib.hid hown; have NE := Lib.hid hne; have RR := Lib.hid hrc; have BI := Lib.hid hbl; clear hown hne hrc hbl
            by_cases hlti : i < sq.1
            · have hli : (i : Int) < (sq.1 : Int) := by omega
              have e := HA.out (by omega)
              subst e
              obtain ⟨f0, f1⟩ := RR.out i hlti
              have sb := SQ.out.2 i hlti
              have sb1 := sb.1; have sb2 := sb.2.1; have sb3 := sb.2.2
              clear sb
              have NX : Hid (rowL 4 (ckf (L2 ++ cl.take i)) (L2 ++ cl.take i).length ++ [.int .i64 k, .int .i64 j, .int .i64 (sq.2 i 0), .int .i64 (sq.2 i 1 - 1)] = rowL 4 (ckf (L2 ++ cl.take (i + 1))) ((L2 ++ cl.take i).length + 1) ∧ (L2 ++ cl.take (i + 1)).length = (L2 ++ cl.take i).length + 1) := Lib.hid (by
                have e := ckf_app (L2 ++ cl.take i) ⟨k, j, sq.2 i 0, sq.2 i 1 - 1⟩
                have e2 : L2 ++ cl.take i ++ [⟨k, j, sq.2 i 0, sq.2 i 1 - 1⟩] = L2 ++ cl.take (i + 1) := by rw [TK.out i hlti, List.append_assoc]
                have e3 : (L2 ++ cl.take (i + 1)).length = (L2 ++ cl.take i).length + 1 := by rw [← e2]; exact List.length_append
                rw [e2, e3] at e
                exact ⟨e, e3⟩)
              obtain ⟨K, hK⟩ : ∃ K, K = (L2 ++ cl.take i).length := ⟨_, rfl⟩
              have hK9 : K ≤ 300200001 := by
                have q1 := TZ.out i; have q2 := LB2.out; have q3 := SQ.out.1
                rw [hK, List.length_append]; omega
              have NX2 := NX.out
              rw [← hK] at OI NX2
              have NX3 := Lib.hid NX2
              clear hK NX NX2
              generalize sq.2 i 0 = s0 at *
              generalize sq.2 i 1 = s1 at *
              have WI := Lib.hid (W2.out.trans (BI.out.mono HN1.out.1))
              have A1' := b_alloc (Below.refl wr.heap.size wr) (.cells #[.int .i64 s0, .int .i64 s1] 35)
              have A2' := b_alloc A1' (.cells #[.int .i64 k, .int .i64 j, .int .i64 s0, .int .i64 (s1 - 1)] 78)
              have OS := Lib.hid (own_keep A2' OI.out)
              have WS := Lib.hid (b_alloc (b_alloc WI.out (.cells #[.int .i64 s0, .int .i64 s1] 35)) (.cells #[.int .i64 k, .int .i64 j, .int .i64 s0, .int .i64 (s1 - 1)] 78))
              have BS := Lib.hid (BI.out.trans (A2'.mono (Nat.le_trans HN1.out.2.2 BI.out.size)))
              have NS : Hid (∀ q u, [Value.int .i64 k, .int .i64 j, .int .i64 s0, .int .i64 (s1 - 1)][q]? = some u → ((wr.alloc (.cells #[.int .i64 s0, .int .i64 s1] 35)).alloc (.cells #[.int .i64 k, .int .i64 j, .int .i64 s0, .int .i64 (s1 - 1)] 78)).cell? ((⟨wr.heap.size + 1, 0, none⟩ : Addr).add q) = some u) := Lib.hid (by
                have q := new4 (wr.alloc (.cells #[.int .i64 s0, .int .i64 s1] 35)) 78 (.int .i64 k) (.int .i64 j) (.int .i64 s0) (.int .i64 (s1 - 1))
                rw [World.size_alloc] at q; exact q)
              have NB : Hid (N1 ≤ ((wr.alloc (.cells #[.int .i64 s0, .int .i64 s1] 35)).alloc (.cells #[.int .i64 k, .int .i64 j, .int .i64 s0, .int .i64 (s1 - 1)] 78)).heap.size) := Lib.hid (Nat.le_trans HN1.out.2.2 BS.out.size)
              have RS : Hid (RC ((wr.alloc (.cells #[.int .i64 s0, .int .i64 s1] 35)).alloc (.cells #[.int .i64 k, .int .i64 j, .int .i64 s0, .int .i64 (s1 - 1)] 78)) g sq.1 sq.2) := Lib.hid fun q hq => ⟨keep A2' (RR.out q hq).1, keep A2' (RR.out q hq).2⟩
              have GL : Hid (g < ((wr.alloc (.cells #[.int .i64 s0, .int .i64 s1] 35)).alloc (.cells #[.int .i64 k, .int .i64 j, .int .i64 s0, .int .i64 (s1 - 1)] 78)).heap.size) := Lib.hid (lt_of_cell (RS.out i hlti).1)
              have nn := new_ne f0
              clear A1' A2'
              go_wp2_with (at_builtin; refine wpList_append_own_at _ rfl (.tmp 55) (.tmp 64) 70 rfl N1 78 i0 _ 4 32 Tryz.underlying70 IF.out.1 IF.out.2.1 IF.out.2.2.1 IF.out.2.2.2 rfl (by decide) _ K _ rfl OS.out ⟨wr.heap.size + 1, 0, none⟩ 1 1 [.int .i64 k, .int .i64 j, .int .i64 s0, .int .i64 (s1 - 1)] rfl rfl NS.out (by simp [Value.oneCell']) (by unfold maxLen; omega) (by omega) NB.out ?_; intro v2 w6 hown1' hg1' hnil1 hat1'; have hown1 := Lib.hid hown1'; have hg1 := Lib.hid hg1'; have hat1 := Lib.hid hat1'; clear hnil1 hown1' hg1' hat1')
              have O6 : Hid (Own w6 N1 78 4 v2 (L2 ++ cl.take (i + 1)).length (ckf (L2 ++ cl.take (i + 1)))) := Lib.hid (by have q := hown1.out; rw [NX3.out.1] at q; rw [NX3.out.2]; exact q)
              have B6 := Lib.hid (grow_below BS.out OS.out hg1.out (Nat.le_refl _) NB.out)
              have R6 : Hid (RC w6 g sq.1 sq.2) := Lib.hid fun q hq => ⟨hg1.out.cell (RS.out q hq).1 fun e => NE.out e.symm, hg1.out.cell (RS.out q hq).2 fun e => NE.out e.symm⟩
              have NE6 : Hid (v2.ownBlock ≠ some g) := Lib.hid (by
                rcases hat1.out with e | e
                · rw [e]; exact NE.out
                · rw [e]; intro e2; injection e2 with e2; have := GL.out; omega)
              clear hown1 hg1 hat1 f0 f1 nn
              go_wp2_with fail
              go_roundw
              case rel => exact ⟨i + 1, by omega, by go_num, O6.out, NE6.out, R6.out, B6.out⟩
              case measure => simp [intOf]; omega
            · have hin : i = sq.1 := by omega
              subst hin
              have hl0 : ¬ (sq.1 : Int) < (sq.1 : Int) := by omega
              have O6 : Hid (Own wr N1 78 4 u8 (L1 ++ clb D lat ver k (j + 1)).length (ckf (L1 ++ clb D lat ver k (j + 1)))) := Lib.hid (by rw [← TE.out]; exact OI.out)
              go_wp2_with fail
              go_roundw
              case rel => exact ⟨j + 1, by omega, by omega, by go_num, O6.out, BI.out⟩
              case measure => simp [intOf]; omega
        · have hjm : j = m := by omega
          subst hjm
          have hl0 : ¬ (j : Int) < (j : Int) := by omega
          have O6 : Hid (Own wr N1 78 4 u8 (cla D lat ver j (k + 1)).length (ckf (cla D lat ver j (k + 1)))) := Lib.hid (by rw [CLA.out]; exact OJ.out)
          go_wp2_with fail
          go_roundw
          case rel => exact ⟨k + 1, by omega, by go_num, O6.out, BJ.out⟩
          case measure => simp [intOf]; omega
    · have hkm : k = m := by omega
      subst hkm
      have hl0 : ¬ (k : Int) < (k : Int) := by omega
      have OKL := Lib.hid (cla_ok (lat := lat) (ver := ver) HT.out hm k (Nat.le_refl _))
      obtain ⟨L, hL⟩ : ∃ L, L = cla D lat ver k k := ⟨_, rfl⟩
      rw [← hL] at OW OKL
      have HL := Lib.hid hL; clear hL
      obtain ⟨Av, cv, e, hv1, hv2⟩ := own_slice OW.out
      subst e
      by_cases h256 : 256 < L.length
      · have h' : (256 : Int) < (L.length : Int) := by omega
        go_wp2_with fail
        refine bodyPost_ret (v := .tuple #[.slice none 0 0, .int .i64 2]) (by simp [results, Tryz.results18, go_sem]) rfl ⟨?_, WR.out⟩
        rw [← HL.out]; exact Or.inl ⟨h256, rfl⟩
      · have h' : ¬ (256 : Int) < (L.length : Int) := by omega
        have SO := Lib.hid (sortC OW.out OKL.out (by omega))
        go_wp2_with fail
        (with_reducible refine SO.out.mono ?_); rintro e w6 ⟨rfl, ⟨L', hp, hs, hc⟩, hb⟩
        have B6 := Lib.hid (hb N1 w2 (Nat.le_refl _) HN1.out.2.2 BL.out)
        have FIN := Lib.hid (And.intro hp (And.intro hs hc)); clear hp hs hc hb
        go_wp2_with fail
        refine bodyPost_ret (v := .tuple #[.slice Av L.length cv, .int .i64 0]) (by simp [results, Tryz.results18, go_sem]) rfl ⟨?_, W2.out.trans (B6.out.mono HN1.out.1)⟩
        rw [← HL.out]; exact Or.inr ⟨by omega, _, L', rfl, FIN.out⟩
/-- probe.All. -/
theorem allC {w : World} {v : Value} {m : Nat} {D : Nat → Td} (hv : TsV w v m D) (lat ver : Int) :
    Calls Tryz.prog 18 #[v, .agg #[.int .i64 lat, .int .i64 ver]] w fun e w' => AllR m D lat ver e w' ∧ Below w.heap.size w w' := by
  by_cases hs : sepE lat ver = 0
  · have CK := fun w1 (hb : Below w.heap.size w w1) => checkTs (ts_keep hb hv) hs
    have hv' := hv
    obtain ⟨A, c, rfl, h1, h2⟩ := ts_slice hv
    by_cases hm : 24 < m
    · refine (all_big A m c lat ver w hs hm).mono ?_
      rintro e w' ⟨rfl, hb⟩
      have e2 : allE m D lat ver = 2 := by unfold allE; rw [if_neg (fun q => q hs), if_pos hm]
      exact ⟨Or.inl ⟨2, by decide, rfl, fun _ => e2.symm, fun h => absurd (e2.symm.trans h) (by decide)⟩, hb⟩
    · have e2 : allE m D lat ver = firstE (tse D) m := by unfold allE; rw [if_neg (fun q => q hs), if_neg hm]
      by_cases hE : firstE (tse D) m = 0
      · have ht := toks_of hE
        refine (all_w A m c D lat ver w hs (by omega) (Nat.le_trans h2 (by decide)) h1 (Lib.hid hv') (Lib.hid ht) (Lib.hid fun w1 hb => by have q := CK w1 hb; rw [hE] at q; exact q)).mono ?_
        rintro e w' ⟨h, hb⟩
        refine ⟨?_, hb⟩
        rcases h with ⟨h256, rfl⟩ | h
        · exact Or.inl ⟨2, by decide, rfl, fun h => absurd (e2.trans hE) h, fun _ => ⟨rfl, h256⟩⟩
        · exact Or.inr ⟨e2.trans hE, h⟩
      · refine (all_chk A m c lat ver _ w hs (by omega) hE (Lib.hid CK)).mono ?_
        rintro e w' ⟨rfl, hb⟩
        exact ⟨Or.inl ⟨_, hE, rfl, fun _ => e2.symm, fun h => absurd (e2.symm.trans h) hE⟩, hb⟩
  · refine (all_bad v lat ver _ w rfl hs).mono ?_
    rintro e w' ⟨rfl, hb⟩
    have e2 : allE m D lat ver = sepE lat ver := by unfold allE; rw [if_pos hs]
    exact ⟨Or.inl ⟨_, hs, rfl, fun _ => e2.symm, fun h => absurd (e2.symm.trans h) hs⟩, hb⟩
end Probe
end Go.Proofs.YteieagihdflapaaGreatDoor
namespace Go.Proofs.YteieagihdflapaaGreatDoor
open Go.RowKit
namespace Probe
open Kit Plane Tube
theorem dot_le {px py qx qy u v : Int} (hu : 0 ≤ u) (hv : 0 ≤ v) (h1 : px * px + py * py ≤ u * u) (h2 : qx * qx + qy * qy ≤ v * v) : px * qx + py * qy ≤ u * v := by
  have hid : (px * qx + py * qy) * (px * qx + py * qy) + (px * qy - py * qx) * (px * qy - py * qx) = (px * px + py * py) * (qx * qx + qy * qy) := by grind
  have hs := sq_nonneg (px * qy - py * qx)
  have hq0 : 0 ≤ qx * qx + qy * qy := by have := sq_nonneg qx; have := sq_nonneg qy; omega
  have hm : (px * px + py * py) * (qx * qx + qy * qy) ≤ (u * u) * (v * v) := Int.mul_le_mul h1 h2 hq0 (sq_nonneg u)
  have he : (u * u) * (v * v) = (u * v) * (u * v) := by grind
  refine le_of_sq (Int.mul_nonneg hu hv) ?_
  generalize (px * qx + py * qy) * (px * qx + py * qy) = a at *
  generalize (px * qy - py * qx) * (px * qy - py * qx) = b at *
  omega
/-- The distance, rounded down, from the nearer point and the way between, rounded up. -/
theorem root_tri {ax ay wx wy qx qy : Int} : root (sqr wx wy qx qy) ≤ dup (sqr ax ay wx wy) + root (sqr ax ay qx qy) := by
  have s1 := sqr_nonneg ax ay wx wy
  have s2 := sqr_nonneg ax ay qx qy
  have s3 := sqr_nonneg wx wy qx qy
  have d1 := dup_spec s1
  have r2 := root_spec s2
  have r3 := root_spec s3
  obtain ⟨c, hc⟩ : ∃ c, c = dup (sqr ax ay wx wy) := ⟨_, rfl⟩
  obtain ⟨p, hp⟩ : ∃ p, p = root (sqr ax ay qx qy) := ⟨_, rfl⟩
  obtain ⟨m, hm⟩ : ∃ m, m = root (sqr wx wy qx qy) := ⟨_, rfl⟩
  rw [← hc] at d1 ⊢
  rw [← hp] at r2 ⊢
  rw [← hm] at r3 ⊢
  rcases Int.lt_or_le (c + p) m with hl | hl
  · exfalso
    have h1 : (wx - ax) * (wx - ax) + (wy - ay) * (wy - ay) ≤ c * c := by
      have := d1.2.1; unfold sqr at this
      rw [show wx - ax = -(ax - wx) from by omega, show wy - ay = -(ay - wy) from by omega, Int.neg_mul_neg, Int.neg_mul_neg]; exact this
    have h2 : (ax - qx) * (ax - qx) + (ay - qy) * (ay - qy) < (p + 1) * (p + 1) := by have := r2.2.2; unfold sqr at this; exact this
    have dt := dot_le (u := c) (v := p + 1) d1.1 (by omega) h1 (Int.le_of_lt h2)
    have e1 : sqr wx wy qx qy = ((wx - ax) * (wx - ax) + (wy - ay) * (wy - ay)) + ((ax - qx) * (ax - qx) + (ay - qy) * (ay - qy)) + 2 * ((wx - ax) * (ax - qx) + (wy - ay) * (ay - qy)) := by unfold sqr; grind
    have e2 : (c + (p + 1)) * (c + (p + 1)) = c * c + (p + 1) * (p + 1) + 2 * (c * (p + 1)) := by grind
    have e3 : (c + (p + 1)) * (c + (p + 1)) ≤ m * m := Int.mul_le_mul (by omega) (by omega) (by omega) (by omega)
    have e4 := r3.2.1
    rw [e1] at e4
    generalize (wx - ax) * (wx - ax) + (wy - ay) * (wy - ay) = A at *
    generalize (ax - qx) * (ax - qx) + (ay - qy) * (ay - qy) = B at *
    generalize (wx - ax) * (ax - qx) + (wy - ay) * (ay - qy) = C at *
    generalize c * (p + 1) = E at *
    generalize m * m = M at *
    generalize (p + 1) * (p + 1) = F at *
    generalize c * c = G at *
    omega
  · exact hl
/-- The spans of more times at which more is not separated contain those of fewer. -/
theorem span_sub {cf cf' : Int → Bool} {a a' : Int} {k k' : Nat} (ha : a' ≤ a) (hk : a + k ≤ a' + k') (h : ∀ t, a ≤ t → t < a + k → cf t = true → cf' t = true) {i : Nat} (hi : i < (spanN cf a k).1) : ∃ j, j < (spanN cf' a' k').1 ∧ (spanN cf' a' k').2 j 0 ≤ (spanN cf a k).2 i 0 ∧ (spanN cf a k).2 i 1 ≤ (spanN cf' a' k').2 j 1 := by
  have ok := spanN_ok cf a k
  have ok' := spanN_ok cf' a' k'
  have l := ok.le i hi
  have hit : ∀ t, (spanN cf a k).2 i 0 ≤ t → t < (spanN cf a k).2 i 1 → cf' t = true := fun t h1 h2 => h t (by omega) (by omega) (ok.hit i hi t h1 h2)
  obtain ⟨j, hj, j1, j2⟩ := ok'.all ((spanN cf a k).2 i 0) (by omega) (by omega) (hit _ (Int.le_refl _) (by omega))
  refine ⟨j, hj, j1, ?_⟩
  have lj := ok'.le j hj
  rcases Int.lt_or_le ((spanN cf' a' k').2 j 1) ((spanN cf a k).2 i 1) with hl | hl
  · exfalso
    obtain ⟨q, hq, q1, q2⟩ := ok'.all ((spanN cf' a' k').2 j 1) (by omega) (by omega) (hit _ (by omega) hl)
    have step : ∀ p r, p < r → r < (spanN cf' a' k').1 → (spanN cf' a' k').2 p 1 < (spanN cf' a' k').2 r 0 := by
      intro p r
      induction r with
      | zero => intro h; omega
      | succ r ih =>
        intro hpr hrm
        have g := ok'.gap r hrm
        rcases Nat.lt_or_ge p r with h' | h'
        · have := ih h' (by omega); have := ok'.le r (by omega); omega
        · rw [show p = r from by omega]; exact g
    rcases Nat.lt_trichotomy j q with h' | h' | h'
    · have := step j q h' hq; omega
    · subst h'; omega
    · have := step q j h' hj; omega
  · exact hl
end Probe
end Go.Proofs.YteieagihdflapaaGreatDoor
namespace Go.Proofs.YteieagihdflapaaGreatDoor
open Go.RowKit
namespace Tube
open Kit Plane
theorem info_tube : (Tryz.prog.info? 74).map (fun i => (i.zero, i.size, i.bytes)) = some (some (.agg #[.int .i64 0, .int .i64 0, .int .i64 0, .int .i64 0, .int .i64 0, .int .i64 0]), 6, 48) := by kernel_rfl
set_option maxRecDepth 100000 in
set_option maxHeartbeats 1000000 in
theorem clone_tube (n cap b off : Nat) (f : Nat → Nat → Int) (w : World) (h0 : 0 < n) (hn : n ≤ 1000) (_hc : n ≤ cap) (HV : Hid (∀ i, i < n → ∀ j, j < 6 → w.cell? ⟨b, off + i * 6 + j, none⟩ = some (.int .i64 (f i j)))) :
    Calls Tryz.prog 68 #[.slice (some ⟨b, off, none⟩) n cap] w fun e w' => ∃ v, e = .returned v ∧ Own w' w.heap.size 74 6 v n f ∧ Below w.heap.size w w' := by
  obtain ⟨i0, hi, hz0, hz1, hz2⟩ := info_parts info_tube
  have hnil := fun W : World => Lib.run_eql_slice_nil (P := Tryz.prog) W 23 74 (some ⟨b, off, none⟩) n cap 0 0 Tryz.underlying23
  go_enter Tryz.func68, Tryz.ntmps68
  have hs := src_rows HV.out
  have hb0 := b_alloc (Below.refl w.heap.size w) (.cells #[] 74)
  have hs' : ∀ j u, (rowL 6 f n)[j]? = some u → (w.alloc (.cells #[] 74)).cell? ((⟨b, off, none⟩ : Addr).add j) = some u := fun j u h => keep hb0 (hs j u h)
  have HS := Lib.hid hs'; have HB := Lib.hid hb0; clear hs hs' hb0
  have hlen := rowL_len 6 f n
  have HL := Lib.hid hlen; clear hlen
  go_wp2_with (at_builtin; refine wpList_append_own_at _ rfl (.tmp 5) (.tmp 6) 23 rfl w.heap.size 74 i0 _ 6 48 Tryz.underlying23 hi hz0 hz1 hz2 rfl (by decide) (.slice (some ⟨w.heap.size, 0, none⟩) 0 0) 0 [] rfl (World.ownsRow_made w #[] 0 (Nat.le_refl _) (by decide) rfl) ⟨b, off, none⟩ n cap (rowL 6 f n) rfl HL.out HS.out rowL_one (by unfold maxLen; omega) (by omega) (by simp) ?_; intro v1 w1 hown1 hg1 hnil1 hat1)
  go_ret
  refine ⟨v1, rfl, ?_, ?_⟩
  · have := hown1; rw [Nat.zero_add, List.nil_append] at this; exact this
  · exact HB.out.grown hg1 HB.out.size (fun k hk => by simp [Value.ownBlock] at hk; omega)
/-- The numbers of a tube, by places. -/
def tf (T X Y H R B : Nat → Int) : Nat → Nat → Int := fun i j => if j = 0 then T i else if j = 1 then X i else if j = 2 then Y i else if j = 3 then H i else if j = 4 then R i else B i
theorem tf_src {w : World} {n b off : Nat} {T X Y H R B : Nat → Int} (h : ∀ k, k < n → S6 w b (off + k * 6) (T k) (X k) (Y k) (H k) (R k) (B k)) : ∀ i, i < n → ∀ j, j < 6 → w.cell? ⟨b, off + i * 6 + j, none⟩ = some (.int .i64 (tf T X Y H R B i j)) := by
  intro i hi j hj
  have hh := h i hi
  rcases (show j = 0 ∨ j = 1 ∨ j = 2 ∨ j = 3 ∨ j = 4 ∨ j = 5 from by omega) with rfl | rfl | rfl | rfl | rfl | rfl
  · exact hh.1.1
  · exact hh.1.2.1
  · exact hh.1.2.2
  · exact hh.2.1
  · exact hh.2.2.1
  · exact hh.2.2.2
theorem tf_tv {w : World} {g n cap : Nat} {T X Y H R B : Nat → Int} (h0 : 0 < n) (hc : n ≤ cap) (hm : cap ≤ maxLen) (h : RowAt w g n 6 (tf T X Y H R B)) : TV w (.slice (some ⟨g, 0, none⟩) n cap) n T X Y H R B := by
  refine Or.inr ⟨h0, g, 0, cap, rfl, hc, hm, fun k hk => ?_⟩
  have c0 := h.cell k hk 0 (by omega); have c1 := h.cell k hk 1 (by omega); have c2 := h.cell k hk 2 (by omega); have c3 := h.cell k hk 3 (by omega); have c4 := h.cell k hk 4 (by omega); have c5 := h.cell k hk 5 (by omega)
  rw [Nat.add_zero] at c0
  unfold S6
  simp only [Nat.zero_add]
  exact ⟨⟨c0, c1, c2⟩, c3, c4, c5⟩
/-- The first i rows are those of f', the others those of f. -/
def mix (f f' : Nat → Nat → Int) (i : Nat) : Nat → Nat → Int := fun a b => if a < i then f' a b else f a b
theorem mix_zero (f f' : Nat → Nat → Int) : mix f f' 0 = f := by funext a b; unfold mix; rw [if_neg (by omega)]
theorem mix_at (f f' : Nat → Nat → Int) (i j : Nat) : mix f f' i i j = f i j := by unfold mix; rw [if_neg (by omega)]
theorem row_congr {w : World} {g n C : Nat} {f f' : Nat → Nat → Int} (h : RowAt w g n C f) (e : ∀ i, i < n → ∀ j, j < C → f i j = f' i j) : RowAt w g n C f' := ⟨fun i hi j hj => by rw [← e i hi j hj]; exact h.cell i hi j hj, h.free⟩
theorem mix_full {w : World} {g n C : Nat} {f f' : Nat → Nat → Int} (h : RowAt w g n C (mix f f' n)) : RowAt w g n C f' := row_congr h fun i hi j _ => by unfold mix; rw [if_pos hi]
/-- Row i of the others becomes one of the first. -/
theorem mix_step {w : World} {g n C : Nat} {f f' h : Nat → Nat → Int} {i : Nat} (hr : RowAt w g n C h) (e1 : ∀ a, a ≠ i → ∀ b, h a b = mix f f' i a b) (e2 : ∀ b, b < C → h i b = f' i b) : RowAt w g n C (mix f f' (i + 1)) := by
  refine row_congr hr fun a _ b hb => ?_
  by_cases ha : a = i
  · subst ha; rw [e2 b hb]; unfold mix; rw [if_pos (by omega)]
  · rw [e1 a ha b]; unfold mix
    by_cases hl : a < i
    · rw [if_pos hl, if_pos (by omega)]
    · rw [if_neg hl, if_neg (by omega)]
theorem upd_ne (f : Nat → Nat → Int) {i j a b : Nat} (x : Int) (h : a ≠ i ∨ b ≠ j) : upd f i j x a b = f a b := if_neg (by omega)
theorem upd_eq (f : Nat → Nat → Int) (i j : Nat) (x : Int) : upd f i j x i j = x := if_pos ⟨rfl, rfl⟩
theorem p2_farb {w : World} {b g : Nat} {x y : Int} (o : Nat) (u : Value) (hne : g ≠ b) (h : P2 w b x y) : P2 (w.setCell ⟨g, o, none⟩ u) b x y := p2_far _ _ hne h
-- SHIFT
set_option maxHeartbeats 1000000 in
theorem shift_bad (v : Value) (bx by' later E : Int) (w : World) (C : Hid (CkC v E w)) (_hE1 : (E == 0) = false) (hE2 : (E != 0) = true) :
    Calls Tryz.prog 21 #[v, .agg #[.int .i64 bx, .int .i64 by'], .int .i64 later] w fun e w' => e = .returned (.tuple #[.slice none 0 0, .int .i64 E]) ∧ Below w.heap.size w w' := by
  have HW := Lib.hid (b_alloc (Below.refl w.heap.size w) (.cells #[.int .i64 bx, .int .i64 by'] 54))
  go_enter Tryz.func21, Tryz.ntmps21
  go_wp2_with fail
  (with_reducible refine (C.out _ HW.out).mono ?_); rintro e w1 ⟨rfl, h⟩
  have hw := b_next HW.out h; clear h
  go_wp2_with fail
  go_ret2
  exact ⟨rfl, hw⟩
/-- By how much a tube can be moved. -/
def shOk (bx by' later : Int) : Prop := -2000000 ≤ bx ∧ bx ≤ 2000000 ∧ -2000000 ≤ by' ∧ by' ≤ 2000000 ∧ -200000 ≤ later ∧ later ≤ 200000
set_option maxHeartbeats 2000000 in
theorem shift_no (v : Value) (bx by' later : Int) (w : World) (C : Hid (CkC v 0 w)) (hx : ¬ shOk bx by' later) :
    Calls Tryz.prog 21 #[v, .agg #[.int .i64 bx, .int .i64 by'], .int .i64 later] w fun e w' => e = .returned (.tuple #[.slice none 0 0, .int .i64 4]) ∧ Below w.heap.size w w' := by
  unfold shOk at hx
  have HP := Lib.hid (p2_new w 54 bx by')
  have HW := Lib.hid (b_alloc (Below.refl w.heap.size w) (.cells #[.int .i64 bx, .int .i64 by'] 54))
  go_enter Tryz.func21, Tryz.ntmps21
  go_wp2_with fail
  (with_reducible refine (C.out _ HW.out).mono ?_); rintro e w1 ⟨rfl, h⟩
  have hw := b_next HW.out h; obtain ⟨p0, p1⟩ := p2_keep h HP.out; clear h
  go_wp2_with fail
  all_goals first | (exfalso; omega) | (go_ret2; exact ⟨rfl, hw⟩)
set_option maxRecDepth 100000 in
set_option maxHeartbeats 4000000 in
theorem shift_walk (n cap b off : Nat) (T X Y H R B : Nat → Int) (bx by' later E : Int) (w : World) (h0 : 0 < n) (hn : n ≤ 64) (hc : n ≤ cap) (hm : cap ≤ 9223372036854775807) (HV : Hid (∀ k, k < n → S6 w b (off + k * 6) (T k) (X k) (Y k) (H k) (R k) (B k))) (C : Hid (CkC (.slice (some ⟨b, off, none⟩) n cap) 0 w))
    (C2 : Hid (∀ w1 v, TV w1 v n (fun k => T k + later) (fun k => X k + bx) (fun k => Y k + by') H R B → Calls Tryz.prog 32 #[v] w1 fun e w' => e = .returned (.int .i64 E) ∧ Below w1.heap.size w1 w'))
    (HT : Hid (∀ k, k < n → (0 ≤ T k ∧ T k ≤ 200000) ∧ good (X k) (Y k))) (hx : shOk bx by' later) (hE : (E = 0 ∧ (E == 0) = true ∧ (E != 0) = false) ∨ (E ≠ 0 ∧ (E == 0) = false ∧ (E != 0) = true)) :
    Calls Tryz.prog 21 #[.slice (some ⟨b, off, none⟩) n cap, .agg #[.int .i64 bx, .int .i64 by'], .int .i64 later] w fun e w' =>
      ((E ≠ 0 ∧ e = .returned (.tuple #[.slice none 0 0, .int .i64 E])) ∨ (E = 0 ∧ ∃ g cap', e = .returned (.tuple #[.slice (some ⟨g, 0, none⟩) n cap', .int .i64 0]) ∧ w.heap.size < g ∧ n ≤ cap' ∧ cap' ≤ maxLen ∧ RowAt w' g n 6 (tf (fun k => T k + later) (fun k => X k + bx) (fun k => Y k + by') H R B))) ∧ Below w.heap.size w w' := by
  obtain ⟨x1, x2, x3, x4, x5, x6⟩ := hx
  have HP := Lib.hid (p2_new w 54 bx by')
  have HW := Lib.hid (b_alloc (Below.refl w.heap.size w) (.cells #[.int .i64 bx, .int .i64 by'] 54))
  go_enter Tryz.func21, Tryz.ntmps21
  go_wp2_with fail
  (with_reducible refine (C.out _ HW.out).mono ?_); rintro e w1 ⟨rfl, h⟩
  have hw := b_next HW.out h; obtain ⟨p0, p1⟩ := p2_keep h HP.out; clear h
  go_wp2_with fail
  have hcl := clone_tube n cap b off (tf T X Y H R B) w1 h0 (by omega) hc (Lib.hid (tf_src fun k hk => s6_keep hw (HV.out k hk)))
  refine hcl.mono ?_
  rintro e w2 ⟨v, rfl, hown, hb⟩
  obtain ⟨g, cap', rfl, hg1, hg2, hnc, hcm, hrow⟩ := own_row hown h0
  have hw2 := b_next hw hb
  have hp2 := p2_keep hb ⟨p0, p1⟩
  have hgw : w.heap.size < g := Nat.lt_of_lt_of_le (lt_of_cell p0) hg1
  clear hb hown p0 p1 hw
  have hgw' : w.heap.size ≤ g := by omega
  have hgne : g ≠ w.heap.size := by omega
  have hcm' : cap' ≤ 9223372036854775807 := Nat.le_trans hcm (by decide)
  have HR := Lib.hid hrow; have HC := Lib.hid hcm; have HP2 := Lib.hid hp2; clear hrow hcm hp2
  obtain ⟨wb, rfl⟩ : ∃ wb : World, wb = w2 := ⟨_, rfl⟩
  obtain ⟨K, hK⟩ : ∃ K, K = w.heap.size := ⟨_, rfl⟩
  have HK := Lib.hid hK; clear hK
  go_wp2_with fail
  go_loopw [47] (fun s wr => ∃ i : Nat, i ≤ n ∧ s = .int .i64 i ∧ RowAt wr g n 6 (mix (tf T X Y H R B) (tf (fun k => T k + later) (fun k => X k + bx) (fun k => Y k + by') H R B) i) ∧ P2 wr w.heap.size bx by' ∧ Below w.heap.size w wr) (fun s _ => n - (intOf s).toNat)
  case atStart => exact ⟨0, Nat.zero_le _, rfl, by rw [mix_zero]; exact HR.out, HP2.out, hw2⟩
  case round =>
    obtain ⟨i, hi, rfl, hr, hp, hbl⟩ := hrel
    have HRR := Lib.hid hr; have HPP := Lib.hid hp; have HB := Lib.hid hbl; clear hr hp hbl hw2
    by_cases hlt : i < n
    · have hl : (i : Int) < (n : Int) := by omega
      have ht := HT.out i hlt
      unfold good at ht
      have k1 : wr.cell? ⟨g, i * 6 + 1, none⟩ = some (.int .i64 (X i)) := by rw [HRR.out.cell i hlt 1 (by omega), mix_at]; rfl
      have k2 : wr.cell? ⟨g, i * 6 + 2, none⟩ = some (.int .i64 (Y i)) := by rw [HRR.out.cell i hlt 2 (by omega), mix_at]; rfl
      have K1 := Lib.hid (And.intro k1 k2); clear k1 k2
      have ADD : Hid (∀ w : World, Calls Tryz.prog 69 #[.agg #[.int .i64 (X i), .int .i64 (Y i)], .agg #[.int .i64 bx, .int .i64 by']] w fun e w' => e = .returned (.agg #[.int .i64 (X i + bx), .int .i64 (Y i + by')]) ∧ Below w.heap.size w w') := Lib.hid fun w => by
        have := add (X i) (Y i) bx by' w
        rw [show wrap64 (X i + bx) = X i + bx from IntWalk.wrap64_in _ (by omega), show wrap64 (Y i + by') = Y i + by' from IntWalk.wrap64_in _ (by omega)] at this
        exact this
      go_wp2_with fail
      refine Tail.tail_region (by kernel_rfl) (by kernel_rfl) ?_
      apply Tail.Gq.p
      · intro wq
        (go_simp; first | exact Tail.pv_value | exact Tail.pv_skip)
      simp only [Act.put, List.setIfInBounds_toArray, List.set_cons_zero, List.set_cons_succ]
      apply Tail.Gq.p
      · intro wq
        (go_simp; first | exact Tail.pv_value | exact Tail.pv_skip)
      simp only [Act.put, List.setIfInBounds_toArray, List.set_cons_zero, List.set_cons_succ]
      apply Tail.Gq.p
      · intro wq
        (go_simp; first | exact Tail.pv_value | exact Tail.pv_skip)
      simp only [Act.put, List.setIfInBounds_toArray, List.set_cons_zero, List.set_cons_succ]
      apply Tail.Gq.p
      · intro wq
        (go_simp; first | exact Tail.pv_value | exact Tail.pv_skip)
      simp only [Act.put, List.setIfInBounds_toArray, List.set_cons_zero, List.set_cons_succ]
      apply Tail.Gq.p
      · intro wq
        (go_simp; first | exact Tail.pv_value | exact Tail.pv_skip)
      simp only [Act.put, List.setIfInBounds_toArray, List.set_cons_zero, List.set_cons_succ]
      apply Tail.Gq.p
      · intro wq
        (go_simp; first | exact Tail.pv_value | exact Tail.pv_skip)
      simp only [Act.put, List.setIfInBounds_toArray, List.set_cons_zero, List.set_cons_succ]
      apply Tail.Gq.p
      · intro wq
        (go_simp; first | exact Tail.pv_value | exact Tail.pv_skip)
      simp only [Act.put, List.setIfInBounds_toArray, List.set_cons_zero, List.set_cons_succ]
      apply Tail.Gq.r
      · intro wq hc hq
        (have q0 : wq.cell? ⟨g, i * 6 + 1, none⟩ = some (.int .i64 (X i)) := keep (cls hq) K1.out.1; have q1 : wq.cell? ⟨g, i * 6 + 2, none⟩ = some (.int .i64 (Y i)) := keep (cls hq) K1.out.2; obtain ⟨q2, q3⟩ := p2_keep (cls hq) HPP.out; clear hc; go_simp; first | exact q2_value | exact q2_skip | (apply q2_enter; go_at_call 69; with_reducible exact ADD.out _))
      simp only [Act.put, List.setIfInBounds_toArray, List.set_cons_zero, List.set_cons_succ]
      apply Tail.Gq.r
      · intro wq hc hq
        (have q0 : wq.cell? ⟨g, i * 6 + 1, none⟩ = some (.int .i64 (X i)) := keep (cls hq) K1.out.1; have q1 : wq.cell? ⟨g, i * 6 + 2, none⟩ = some (.int .i64 (Y i)) := keep (cls hq) K1.out.2; obtain ⟨q2, q3⟩ := p2_keep (cls hq) HPP.out; clear hc; go_simp; first | exact q2_value | exact q2_skip | (apply q2_enter; go_at_call 69; with_reducible exact ADD.out _))
      simp only [Act.put, List.setIfInBounds_toArray, List.set_cons_zero, List.set_cons_succ]
      apply Tail.Gq.r
      · intro wq hc hq
        (have q0 : wq.cell? ⟨g, i * 6 + 1, none⟩ = some (.int .i64 (X i)) := keep (cls hq) K1.out.1; have q1 : wq.cell? ⟨g, i * 6 + 2, none⟩ = some (.int .i64 (Y i)) := keep (cls hq) K1.out.2; obtain ⟨q2, q3⟩ := p2_keep (cls hq) HPP.out; clear hc; go_simp; first | exact q2_value | exact q2_skip | (apply q2_enter; go_at_call 69; with_reducible exact ADD.out _))
      simp only [Act.put, List.setIfInBounds_toArray, List.set_cons_zero, List.set_cons_succ]
      apply Tail.Gq.p
      · intro wq
        (go_simp; first | exact Tail.pv_value | exact Tail.pv_skip)
      simp only [Act.put, List.setIfInBounds_toArray, List.set_cons_zero, List.set_cons_succ]
      apply Tail.Gq.p
      · intro wq
        (go_simp; first | exact Tail.pv_value | exact Tail.pv_skip)
      simp only [Act.put, List.setIfInBounds_toArray, List.set_cons_zero, List.set_cons_succ]
      apply Tail.Gq.p
      · intro wq
        (go_simp; first | exact Tail.pv_value | exact Tail.pv_skip)
      simp only [Act.put, List.setIfInBounds_toArray, List.set_cons_zero, List.set_cons_succ]
      apply Tail.Gq.t
      refine Tail.Gq.nil ⟨by kernel_rfl, fun w1' hb1 => ?_⟩
      simp only [List.reverse_cons, List.reverse_nil, List.nil_append]
      have hr1 : RowAt w1' g n 6 _ := row_keep hb1 (show g < _ from lt_of_cell K1.out.1) HRR.out
      have hp1 := p2_keep hb1 HPP.out
      have hbl1 := b_next HB.out hb1
      clear hb1
      have k0 : w1'.cell? ⟨g, i * 6, none⟩ = some (.int .i64 (T i)) := by
        have := hr1.cell i hlt 0 (by omega)
        rw [Nat.add_zero] at this
        rw [this, mix_at]; rfl
      have k1 : w1'.cell? ⟨g, i * 6 + 1, none⟩ = some (.int .i64 (X i)) := by rw [hr1.cell i hlt 1 (by omega), mix_at]; rfl
      have k2 : w1'.cell? ⟨g, i * 6 + 2, none⟩ = some (.int .i64 (Y i)) := by rw [hr1.cell i hlt 2 (by omega), mix_at]; rfl
      have f0 := hr1.free (i * 6); have f1 := hr1.free (i * 6 + 1); have f2 := hr1.free (i * 6 + 2)
      have R1 := Lib.hid hr1; have P1 := Lib.hid hp1; have B1 := Lib.hid hbl1; clear hr1 hp1 hbl1
      go_wp2_with fail
      simp only [Kit.Ends]
      have s0 : ((w1'.setCell ⟨g, i * 6 + 1, none⟩ (.int .i64 (X i + bx))).setCell ⟨g, i * 6 + 1 + 1, none⟩ (.int .i64 (Y i + by'))).cell? ⟨g, i * 6, none⟩ = some (.int .i64 (T i)) := cfar _ (by simp) (cfar _ (by simp) k0)
      have sr := row_set (row_set R1.out hlt (show 1 < 6 by omega) (X i + bx)) hlt (show 2 < 6 by omega) (Y i + by')
      have sp := p2_farb (i * 6 + 2) (.int .i64 (Y i + by')) hgne (p2_farb (i * 6 + 1) (.int .i64 (X i + bx)) hgne P1.out)
      have sb := b_set (b_set B1.out (p := ⟨g, i * 6 + 1, none⟩) hgw' (.int .i64 (X i + bx))) (p := ⟨g, i * 6 + 2, none⟩) hgw' (.int .i64 (Y i + by'))
      generalize hW : (w1'.setCell ⟨g, i * 6 + 1, none⟩ (.int .i64 (X i + bx))).setCell ⟨g, i * 6 + 1 + 1, none⟩ (.int .i64 (Y i + by')) = w2' at *
      have f0' := sr.free (i * 6)
      have S0 := Lib.hid s0; have SR := Lib.hid sr; have SP := Lib.hid sp; have SB := Lib.hid sb; clear sr sp sb k0 k1 k2 f0 f1 f2 hW
      go_wp2_with fail
      go_roundw
      case rel =>
        have hset := row_set SR.out hlt (show 0 < 6 by omega) (T i + later)
        rw [Nat.add_zero] at hset
        refine ⟨i + 1, by omega, by go_num, mix_step hset (fun a ha b => ?_) (fun b hb => ?_), p2_farb _ _ hgne SP.out, b_set SB.out hgw' _⟩
        · rw [upd_ne _ _ (Or.inl ha), upd_ne _ _ (Or.inl ha), upd_ne _ _ (Or.inl ha)]
        · unfold upd tf mix
          rcases (show b = 0 ∨ b = 1 ∨ b = 2 ∨ b = 3 ∨ b = 4 ∨ b = 5 from by omega) with rfl | rfl | rfl | rfl | rfl | rfl <;> simp
      case measure => simp [intOf]; omega
    · have he : i = n := by omega
      have HE := Lib.hid he; clear he
      have hl : ¬ (i : Int) < (n : Int) := by omega
      have C3 := Lib.hid (C2.out wr _ (tf_tv h0 hnc HC.out (mix_full (by have := HRR.out; rw [HE.out] at this; exact this))))
      go_wp2_with fail
      (with_reducible refine C3.out.mono ?_); rintro e w3 ⟨rfl, hb⟩
      have hw3 := b_next HB.out hb
      have hr3 : RowAt w3 g n 6 _ := row_keep hb (show g < _ from lt_of_cell (HRR.out.cell 0 h0 0 (by omega))) (mix_full (by have := HRR.out; rw [HE.out] at this; exact this))
      have HR3 := Lib.hid hr3; clear hr3 hb
      rcases hE with ⟨hE0, e1, e2⟩ | ⟨hE0, e1, e2⟩
      · have HE0 := Lib.hid hE0
        go_wp2_with fail
        go_ret2
        exact ⟨Or.inr ⟨HE0.out, g, cap', rfl, hgw, hnc, HC.out, HR3.out⟩, hw3⟩
      · have HE0 := Lib.hid hE0
        go_wp2_with fail
        go_ret2
        exact ⟨Or.inl ⟨HE0.out, rfl⟩, hw3⟩
-- WIDEN
/-- By how much a tube can be widened. -/
def wdOk (r d : Int) : Prop := 0 ≤ r ∧ r ≤ 1000000 ∧ 0 ≤ d ∧ d ≤ 60000
end Tube
end Go.Proofs.YteieagihdflapaaGreatDoor
namespace Go.Proofs.YteieagihdflapaaGreatDoor
open Go.RowKit
namespace Kind
open Kit Name Num
/-- aircraft.Climb's answer for a type that Check accepts. -/
def climbK (ceil climb desc a b : Int) : Int × Int :=
  if a < 0 ∨ 60000 < a ∨ b < 0 ∨ 60000 < b then (0, 4) else if ceil < a ∨ ceil < b then (0, 20) else if a ≤ b then (du (b - a) climb, dde (b - a) climb) else (du (a - b) desc, dde (a - b) desc)
end Kind
end Go.Proofs.YteieagihdflapaaGreatDoor
namespace Go.Proofs.YteieagihdflapaaGreatDoor
open Go.RowKit
namespace Path
open Kit Plane
def wT (k : Nat) : Int := if k = 0 then 10 else 14
def wX (k : Nat) : Int := if k = 0 then 0 else -3
def wY (_ : Nat) : Int := 0
def wH (k : Nat) : Int := if k = 0 then 100 else 97
theorem works_at (w : World) (b : Nat) (h0 : N4 w b 0 0 10 0 0 100) (h1 : N4 w b 0 1 14 (-3) 0 97) :
    Calls Tryz.prog 16 #[.slice (some ⟨b, 0, none⟩) 2 2, .int .i64 11] w fun e w' => e = .returned (.tuple #[.agg #[.int .i64 11, .int .i64 (-1), .int .i64 0, .int .i64 99], .int .i64 0]) ∧ Below w.heap.size w w' := by
  have hv : PV w (.slice (some ⟨b, 0, none⟩) 2 2) 2 wT wX wY wH := Or.inr ⟨by omega, b, 0, 2, rfl, by omega, by decide, fun k hk => by
    rcases (show k = 0 ∨ k = 1 from by omega) with rfl | rfl
    · exact h0
    · exact h1⟩
  have c := fly_At_ok hv (t := 11) (i := 0) (by decide) ⟨by decide, by decide, by decide⟩
  have e1 : atx wT wX 0 11 = -1 := by decide
  have e2 : atx wT wY 0 11 = 0 := by decide
  have e3 : ath wT wH 0 11 = 99 := by decide
  rw [e1, e2, e3] at c
  exact c
end Path
namespace Kind
open Kit Name
def a320 : ByteArray := ⟨#[65, 51, 50, 48]⟩
theorem jet_kchk : kchk a320 1 39000 40 50 70 250 = 0 := by decide
theorem works_profile (w : World) : Calls Tryz.prog 53 #[.agg #[.string a320, .int .i64 1, .int .i64 39000, .int .i64 40, .int .i64 50, .int .i64 70, .int .i64 250], .int .i64 1000, .int .i64 100, .int .i64 2] w fun e w' => e = .returned (.tuple #[.int .i64 80, .int .i64 0]) ∧ Below w.heap.size w w' := by
  have c := profC a320 1 39000 40 50 70 250 1000 100 2 w
  unfold profE at c
  rw [if_pos jet_kchk] at c
  exact c
end Kind
namespace Path
open Kit Plane
end Path
end Go.Proofs.YteieagihdflapaaGreatDoor
