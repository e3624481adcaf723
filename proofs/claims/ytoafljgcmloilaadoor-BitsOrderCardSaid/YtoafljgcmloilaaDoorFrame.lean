/- The frame of a law: from a walk that answers true and changes nothing below the heap to the row, and the opening of arguments whose cells are all integers. -/
import Derived.Test.YtoafljgcmloilaaDoorRows
import Derived.WalkKit
import Derived.ProofKit
import Derived.OpenShut
import Derived.Deep.QuietTactic
namespace Go.Proofs.YtoafljgcmloilaaDoor
open Go.ChangeShapes Go.WideShapes Go.ChangeAt Go.RowKit

theorem Tryd.own : ownKnob Tryd.prog.godebug = none := by kernel_rfl
theorem Tryd.laidOut : laidOutB Tryd.prog = true := by kernel_rfl

namespace Frame
section
variable {H : Type} {enc : TypeId × Value → H} {P : Program}

theorem trodAll_below (hl : laidOutB P = true) {W W' : World} (hb : Below W.heap.size W W') :
    ∀ {ts : List TypeId} {vs : List Value} {ds : List (DataW H)} {ps : List MemPlace}, (ts.all fun t => P.readableRec t && decide (t < P.types.size)) = true →
      DataW.TrodAll enc P W 0 (fun _ => true) true ts vs ds ps → (∀ x ∈ ps, x.block < W.heap.size) →
      DataW.TrodAll enc P W' 0 (fun b => decide (b < W.heap.size)) true ts vs ds ps
  | [], _, _, _, _, h, _ => by
    obtain ⟨rfl, rfl, rfl⟩ := trodAll_nil h
    exact trodAll_mk0
  | t :: ts, _, _, _, hr, h, hlt => by
    obtain ⟨v, vs, d, ds, a, b, rfl, rfl, rfl, h1, h2⟩ := trodAll_cons h
    simp only [List.all_cons, Bool.and_eq_true, decide_eq_true_eq] at hr
    exact trodAll_cons_mk (Below.trod hl hr.1.1 hr.1.2 h1 hb (fun x hx => hlt x (List.mem_append_left _ hx)))
      (trodAll_below hl hb hr.2 h2 (fun x hx => hlt x (List.mem_append_right _ hx)))

/-- The lifted contract of a law: from its walk. -/
theorem lifted {C : Checked} {os : Os} {s : ChangeSpec} (f : FuncId) (fn : Func)
    (own : ownKnob C.prog.godebug = none) (started : os.Started) (noInit : C.prog.inits.idxOf? f = none) (hfn : C.prog.funcs[f]? = some fn)
    (hl : laidOutB C.prog = true) (hvars : s.vars = [])
    (hparams : (fn.params.toList.all fun t => C.prog.readableRec t && decide (t < C.prog.types.size)) = true)
    (tb : TypeId) (hres : fn.resultTypes = #[tb]) (hb : C.prog.underlying tb = some .bool)
    (hspec : ∀ ds : List (DataW H), ds.length = fn.params.size → s.fn H (ds ++ []) = { results := [.lit (.bool true)], args := ds })
    (witness : ∃ (w : World) (tape : Tape) (i : Input), w.os = os ∧ (w.forCall tape i).Shaped C.prog ∧ i.vars = [] ∧ Input.okWide C.prog (w.forCall tape i) .any w.heap.size f i ∧
      s.pre6 enc C.prog fn [] false (w.forCall tape i).memory i.args ∧ ({} : Assume).holds C.prog (lone (Frame.enter C.prog f i.args .normal) [] (w.forCall tape i)))
    (walk : ∀ (W : World) (base : Nat) (args : Array Value) (ds : List (DataW H)) (ps : List MemPlace),
      (∀ (j : Nat) t v, fn.params[j]? = some t → args[j]? = some v → Value.okWide C.prog W .any base t v) →
      DataW.TrodAll enc C.prog W 0 (fun _ => true) true fn.params.toList args.toList ds ps → (∀ x ∈ ps, x.block < W.heap.size) →
      Calls C.prog f args W fun e W' => e = .returned (.bool true) ∧ Below W.heap.size W W') :
    ReturnsInHanded {} C os f .any (s.pre6 enc C.prog fn [] false) (s.post enc C.prog fn false true false false) := by
  refine returnsInHanded_of_change own started noInit hfn witness ?_
  intro W base args ds gs before hval hW _ _
  have hWk := hW
  obtain ⟨p, q, hA, hV, rfl, _, _⟩ := hW
  rw [hvars] at hV
  obtain ⟨rfl, rfl⟩ := trodVars_none hV
  have hlt : ∀ x ∈ p ++ [], x.block < W.heap.size := fun x hx => hWk.lt x hx
  have hlen : ds.length = fn.params.size := by
    have h : ∀ {ts : List TypeId} {vs : List Value} {ds : List (DataW H)} {ps : List MemPlace}, DataW.TrodAll enc C.prog W 0 (fun _ => true) true ts vs ds ps → ds.length = ts.length := by
      intro ts
      induction ts with
      | nil => intro vs ds ps h; obtain ⟨_, rfl, _⟩ := trodAll_nil h; rfl
      | cons t ts ih => intro vs ds ps h; obtain ⟨_, _, _, _, _, _, _, rfl, _, _, h2⟩ := trodAll_cons h; simp [ih h2]
    simpa using h hA
  refine (walk W base args ds p hval hA (fun x hx => hlt x (by simpa using hx))).mono fun e W' ⟨he, hbl⟩ => ?_
  subst he
  have hp : p ++ [] = p := List.append_nil p
  refine ⟨_, rfl, ds, [], p ++ [], [], p, [], hWk, ?_, ?_, ?_, World.keptBut_mono (fun x hx => ⟨hx, Or.inr (Or.inl (by rw [← hp]; exact hx))⟩) (hbl.frame (· ∈ p ++ [])), fun h => by cases h⟩
  · rw [hspec ds hlen, hres]
    exact trodAll_cons_mk (shut_bool hb _) trodAll_mk0
  · rw [hspec ds hlen]
    exact trodAll_below hl hbl hparams hA (fun x hx => hlt x (by rw [hp]; exact hx))
  · rw [hspec ds hlen, hvars]
    exact rfl

/-- A cell of an integer type. -/
theorem cell_int {W : World} {base : Nat} {t : TypeId} {v : Value} {k : IntKind} (ht : P.underlying t = some (.int k)) (h : Cell.okWide P W .any base t v) : ∃ n : Int, v = .int k n ∧ (Lit.int k n).wf = true := by
  unfold Cell.okWide Cell.ok at h
  rw [ht] at h
  cases v <;> simp_all [Lit.wf, IntKind.has]

/-- An integer argument. -/
theorem arg_int {W : World} {base : Nat} {t : TypeId} {v : Value} {k : IntKind} (ht : P.underlying t = some (.int k)) (h : Value.okWide P W .any base t v) : ∃ n : Int, v = .int k n ∧ (Lit.int k n).wf = true := by
  unfold Value.okWide at h
  rw [ht] at h
  exact cell_int ht h

/-- A struct or array argument all of whose cells are int. -/
theorem arg_flat {W : World} {base : Nat} {t : TypeId} {v : Value} {ts : List TypeId} (fs : Array Field) (hs : P.underlying t = some (.struct fs)) (hts : P.cellTypes P.depth t = some ts) (hn : P.cellsOf t = ts.length)
    (hall : ∀ u ∈ ts, P.underlying u = some (.int .i64)) (h : Value.okWide P W .any base t v) :
    ∃ ns : List Int, v = .agg (ns.map (Value.int .i64)).toArray ∧ ns.length = ts.length ∧ ∀ n ∈ ns, (Lit.int .i64 n).wf = true := by
  unfold Value.okWide at h
  rw [hs] at h
  obtain ⟨cs, rfl, hsz, ts', hts', _, hc⟩ := h
  rw [hts] at hts'
  obtain rfl := Option.some.inj hts'
  obtain ⟨l⟩ := cs
  simp only [List.size_toArray] at hsz
  have hl : l.length = ts.length := by omega
  have hcell : ∀ i (hi : i < l.length), ∃ n : Int, l[i] = .int .i64 n ∧ (Lit.int .i64 n).wf = true := by
    intro i hi
    obtain ⟨u, hu, hok⟩ := hc i l[i] (by simp [hi])
    exact cell_int (hall u (List.mem_of_getElem? hu)) hok
  refine ⟨l.map fun v => match v with | .int _ n => n | _ => 0, ?_, by simpa using hl, ?_⟩
  · congr 1
    apply Array.ext
    · simp
    · intro i h1 h2
      obtain ⟨n, hn', _⟩ := hcell i (by simpa using h1)
      simp [hn']
  · intro n hn'
    obtain ⟨v, hv, rfl⟩ := List.mem_map.1 hn'
    obtain ⟨i, hi, rfl⟩ := List.mem_iff_getElem.1 hv
    obtain ⟨m, hm, hw⟩ := hcell i hi
    rw [hm]; exact hw

/-- A cell of a string type. -/
theorem cell_str {W : World} {base : Nat} {t : TypeId} {v : Value} (ht : P.underlying t = some .string) (h : Cell.okWide P W .any base t v) : ∃ s : ByteArray, v = .string s := by
  unfold Cell.okWide Cell.ok at h
  rw [ht] at h
  cases v <;> simp_all
/-- A struct argument: a string, then integers. -/
theorem arg_named {W : World} {base : Nat} {t : TypeId} {v : Value} {u0 : TypeId} {ts : List TypeId} (fs : Array Field) (hs : P.underlying t = some (.struct fs)) (hts : P.cellTypes P.depth t = some (u0 :: ts)) (hn : P.cellsOf t = (u0 :: ts).length)
    (h0 : P.underlying u0 = some .string) (hall : ∀ u ∈ ts, P.underlying u = some (.int .i64)) (h : Value.okWide P W .any base t v) :
    ∃ (s : ByteArray) (ns : List Int), v = .agg (.string s :: ns.map (Value.int .i64)).toArray ∧ ns.length = ts.length ∧ ∀ n ∈ ns, (Lit.int .i64 n).wf = true := by
  unfold Value.okWide at h
  rw [hs] at h
  obtain ⟨cs, rfl, hsz, ts', hts', _, hc⟩ := h
  rw [hts] at hts'
  obtain rfl := Option.some.inj hts'
  obtain ⟨l⟩ := cs
  simp only [List.size_toArray] at hsz
  match l, hsz, hc with
  | [], hsz, _ => rw [hn] at hsz; simp at hsz
  | c0 :: l, hsz, hc =>
    have hl : l.length = ts.length := by rw [hn] at hsz; simpa using hsz
    obtain ⟨u, hu, hok⟩ := hc 0 c0 (by simp)
    obtain rfl : u0 = u := by simpa using hu
    obtain ⟨s, rfl⟩ := cell_str h0 hok
    have hcell : ∀ i (hi : i < l.length), ∃ n : Int, l[i] = .int .i64 n ∧ (Lit.int .i64 n).wf = true := by
      intro i hi
      obtain ⟨u, hu, hok⟩ := hc (i + 1) l[i] (by simp [hi])
      have hmod : (i + 1) % (ts.length + 1) = i + 1 := Nat.mod_eq_of_lt (by omega)
      have hu' : ts[i]? = some u := by simpa [hmod] using hu
      exact cell_int (hall u (List.mem_of_getElem? hu')) hok
    refine ⟨s, l.map fun v => match v with | .int _ n => n | _ => 0, ?_, by simpa using hl, ?_⟩
    · congr 1
      apply Array.ext
      · simp
      · intro i h1 h2
        rcases i with _ | i
        · simp
        · obtain ⟨n, hn', _⟩ := hcell i (by simpa using h1)
          simp [hn']
    · intro n hn'
      obtain ⟨v, hv, rfl⟩ := List.mem_map.1 hn'
      obtain ⟨i, hi, rfl⟩ := List.mem_iff_getElem.1 hv
      obtain ⟨m, hm, hw⟩ := hcell i hi
      rw [hm]; exact hw

theorem list2 {α : Type} {l : List α} {ts : List TypeId} {u : TypeId} (h : l.length = (u :: ts).length) (ht : ts.length = 1 := by rfl) : ∃ a0 a1, l = [a0, a1] := by
  match l, h.trans (by simp [ht] : _ = 2) with
  | [a0, a1], _ => exact ⟨a0, a1, rfl⟩
theorem list3 {α : Type} {l : List α} {ts : List TypeId} {u : TypeId} (h : l.length = (u :: ts).length) (ht : ts.length = 2 := by rfl) : ∃ a0 a1 a2, l = [a0, a1, a2] := by
  match l, h.trans (by simp [ht] : _ = 3) with
  | [a0, a1, a2], _ => exact ⟨a0, a1, a2, rfl⟩
theorem list4 {α : Type} {l : List α} {ts : List TypeId} {u : TypeId} (h : l.length = (u :: ts).length) (ht : ts.length = 3 := by rfl) : ∃ a0 a1 a2 a3, l = [a0, a1, a2, a3] := by
  match l, h.trans (by simp [ht] : _ = 4) with
  | [a0, a1, a2, a3], _ => exact ⟨a0, a1, a2, a3, rfl⟩
theorem list5 {α : Type} {l : List α} {ts : List TypeId} {u : TypeId} (h : l.length = (u :: ts).length) (ht : ts.length = 4 := by rfl) : ∃ a0 a1 a2 a3 a4, l = [a0, a1, a2, a3, a4] := by
  match l, h.trans (by simp [ht] : _ = 5) with
  | [a0, a1, a2, a3, a4], _ => exact ⟨a0, a1, a2, a3, a4, rfl⟩
theorem list6 {α : Type} {l : List α} {ts : List TypeId} {u : TypeId} (h : l.length = (u :: ts).length) (ht : ts.length = 5 := by rfl) : ∃ a0 a1 a2 a3 a4 a5, l = [a0, a1, a2, a3, a4, a5] := by
  match l, h.trans (by simp [ht] : _ = 6) with
  | [a0, a1, a2, a3, a4, a5], _ => exact ⟨a0, a1, a2, a3, a4, a5, rfl⟩
theorem list7 {α : Type} {l : List α} {ts : List TypeId} {u : TypeId} (h : l.length = (u :: ts).length) (ht : ts.length = 6 := by rfl) : ∃ a0 a1 a2 a3 a4 a5 a6, l = [a0, a1, a2, a3, a4, a5, a6] := by
  match l, h.trans (by simp [ht] : _ = 7) with
  | [a0, a1, a2, a3, a4, a5, a6], _ => exact ⟨a0, a1, a2, a3, a4, a5, a6, rfl⟩
theorem list8 {α : Type} {l : List α} {ts : List TypeId} {u : TypeId} (h : l.length = (u :: ts).length) (ht : ts.length = 7 := by rfl) : ∃ a0 a1 a2 a3 a4 a5 a6 a7, l = [a0, a1, a2, a3, a4, a5, a6, a7] := by
  match l, h.trans (by simp [ht] : _ = 8) with
  | [a0, a1, a2, a3, a4, a5, a6, a7], _ => exact ⟨a0, a1, a2, a3, a4, a5, a6, a7, rfl⟩
theorem bd {n : Int} (h : (Lit.int .i64 n).wf = true) : -9223372036854775808 ≤ n ∧ n ≤ 9223372036854775807 := by
  simp only [Lit.wf, Bool.and_eq_true, decide_eq_true_eq] at h
  simpa [IntKind.min, IntKind.max, IntKind.signed, IntKind.bits] using h
theorem below_drewN {B : Nat} {a w : World} (h : Below B a w) (n : Nat) : Below B a (w.drewN n) := ⟨h.os, h.tape, h.output, h.size, h.block⟩
end
end Frame
end Go.Proofs.YtoafljgcmloilaaDoor
