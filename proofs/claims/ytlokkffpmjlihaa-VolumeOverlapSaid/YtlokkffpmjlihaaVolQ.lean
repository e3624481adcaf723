/- Intervals of time: their rows, and slices.Clone at them. -/
import Derived.Test.YtlokkffpmjlihaaVolP
import Derived.Test.YtlokkffpmjlihaaRowS
namespace Go.Proofs.Ytlokkffpmjlihaa
open Go.RowKit
namespace Vol
open Kit Plane Poly
theorem info_spans : (Try.prog.info? 66).map (fun i => (i.zero, i.size, i.bytes)) = some (some (.agg #[.int .i64 0, .int .i64 0]), 2, 16) := by kernel_rfl
set_option maxRecDepth 100000 in
set_option maxHeartbeats 1000000 in
theorem clone_spans (n cap b off : Nat) (f : Nat → Nat → Int) (w : World) (h0 : 0 < n) (hn : n ≤ 1000) (_hc : n ≤ cap) (HV : Hid (∀ i, i < n → ∀ j, j < 2 → w.cell? ⟨b, off + i * 2 + j, none⟩ = some (.int .i64 (f i j)))) :
    Calls Try.prog 62 #[.slice (some ⟨b, off, none⟩) n cap] w fun e w' => ∃ v, e = .returned v ∧ Own w' w.heap.size 66 2 v n f ∧ Below w.heap.size w w' := by
  obtain ⟨i0, hi, hz0, hz1, hz2⟩ := info_parts info_spans
  have hnil := fun W : World => Lib.run_eql_slice_nil (P := Try.prog) W 49 66 (some ⟨b, off, none⟩) n cap 0 0 Try.underlying49
  go_enter Try.func62, Try.ntmps62
  have hs := src_rows HV.out
  have hb0 := b_alloc (Below.refl w.heap.size w) (.cells #[] 66)
  have hs' : ∀ j u, (rowL 2 f n)[j]? = some u → (w.alloc (.cells #[] 66)).cell? ((⟨b, off, none⟩ : Addr).add j) = some u := fun j u h => keep hb0 (hs j u h)
  have HS := Lib.hid hs'; have HB := Lib.hid hb0; clear hs hs' hb0
  have hlen := rowL_len 2 f n
  have HL := Lib.hid hlen; clear hlen
  go_wp2_with (at_builtin; refine wpList_append_own_at _ rfl (.tmp 5) (.tmp 6) 49 rfl w.heap.size 66 i0 _ 2 16 Try.underlying49 hi hz0 hz1 hz2 rfl (by decide) (.slice (some ⟨w.heap.size, 0, none⟩) 0 0) 0 [] rfl (World.ownsRow_made w #[] 0 (Nat.le_refl _) (by decide) rfl) ⟨b, off, none⟩ n cap (rowL 2 f n) rfl HL.out HS.out rowL_one (by unfold maxLen; omega) (by omega) (by simp) ?_; intro v1 w1 hown1 hg1 hnil1 hat1)
  go_ret
  refine ⟨v1, rfl, ?_, ?_⟩
  · have := hown1; rw [Nat.zero_add, List.nil_append] at this; exact this
  · exact HB.out.grown hg1 HB.out.size (fun k hk => by simp [Value.ownBlock] at hk; omega)

/-- A permitted interval. -/
structure Sp where
  fr : Int
  to : Int
  ok : okS fr to
theorem okS_one : okS 0 1 := by unfold okS; omega
instance : Inhabited Sp := ⟨⟨0, 1, okS_one⟩⟩
def toSp (f t : Int) : Sp := if h : okS f t then ⟨f, t, h⟩ else default
theorem toSp_fr {f t : Int} (h : okS f t) : (toSp f t).fr = f := by unfold toSp; rw [dif_pos h]
theorem toSp_to {f t : Int} (h : okS f t) : (toSp f t).to = t := by unfold toSp; rw [dif_pos h]
/-- The rows of an array of intervals. -/
def rowsD (d : Array Sp) : Nat → Nat → Int := fun i j => if j = 0 then d[i]!.fr else d[i]!.to
/-- The rows of a list of intervals. -/
def rowsL (L : List (Int × Int)) : Nat → Nat → Int := fun i j => if j = 0 then (L.getD i (0, 0)).1 else (L.getD i (0, 0)).2
theorem rowsL_lt {L M : List (Int × Int)} {i : Nat} (h : i < L.length) (j : Nat) : rowsL (L ++ M) i j = rowsL L i j := by
  unfold rowsL
  rw [List.getD_eq_getElem?_getD, List.getD_eq_getElem?_getD, List.getElem?_append_left h]
theorem rowsL_last (L : List (Int × Int)) (p : Int × Int) (j : Nat) : rowsL (L ++ [p]) L.length j = if j = 0 then p.1 else p.2 := by
  unfold rowsL
  rw [List.getD_eq_getElem?_getD, List.getElem?_append_right (Nat.le_refl _), Nat.sub_self]
  rfl
/-- One more row. -/
theorem own_more {w : World} {base : Nat} {E : TypeId} {v : Value} {L : List (Int × Int)} {s : Int × Int} (h : w.ownsRow base E 2 v (L.length + 1) (rowL 2 (rowsL L) L.length ++ [.int .i64 s.1, .int .i64 s.2])) : Own w base E 2 v (L ++ [s]).length (rowsL (L ++ [s])) := by
  have e : rowL 2 (rowsL (L ++ [s])) (L.length + 1) = rowL 2 (rowsL L) L.length ++ [.int .i64 s.1, .int .i64 s.2] := by
    rw [rowL, rowL_congr (fun i hi j _ => rowsL_lt hi j)]
    congr 1
    rw [show List.range 2 = [0, 1] from rfl]
    simp only [List.map_cons, List.map_nil, rowsL_last]
    rfl
  rw [← e] at h
  rw [List.length_append]
  exact h
/-- The last interval made longer. -/
theorem own_last {w : World} {base g cap : Nat} {E : TypeId} {L : List (Int × Int)} {p : Int × Int} {x : Int} (h : Own w base E 2 (.slice (some ⟨g, 0, none⟩) (L.length + 1) cap) (L.length + 1) (rowsL (L ++ [p]))) : Own (w.setCell ⟨g, L.length * 2 + 1, none⟩ (.int .i64 x)) base E 2 (.slice (some ⟨g, 0, none⟩) (L.length + 1) cap) (L ++ [(p.1, x)]).length (rowsL (L ++ [(p.1, x)])) := by
  rw [List.length_append]
  refine own_congr (own_set h (i := L.length) (j := 1) (by omega) (by omega) x) fun i hi j hj => ?_
  unfold upd
  by_cases e : i = L.length ∧ j = 1
  · rw [if_pos e, e.1, e.2, rowsL_last]; rfl
  · rw [if_neg e]
    rcases Nat.lt_or_ge i L.length with hl | hl
    · rw [rowsL_lt hl, rowsL_lt hl]
    · have hi' : i = L.length := by rw [List.length_singleton] at hi; omega
      have hj' : j = 0 := by omega
      rw [hi', hj', rowsL_last, rowsL_last]; rfl
/-- The first k intervals. -/
def upTo (X Y : Nat → Int) (k : Nat) : List (Int × Int) := (List.range k).map fun i => (X i, Y i)
theorem join_next (X Y : Nat → Int) (k : Nat) : joinL (upTo X Y (k + 1)) = step (joinL (upTo X Y k)) (X k, Y k) := by
  unfold joinL upTo
  rw [List.range_succ, List.map_append, List.foldl_append]
  rfl
end Vol
end Go.Proofs.Ytlokkffpmjlihaa
