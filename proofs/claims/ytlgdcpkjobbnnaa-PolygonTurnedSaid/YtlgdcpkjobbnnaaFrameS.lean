/- The frame of a law whose walk uses that its arguments have a size: what a slice's capacity is at most. -/
import Derived.Test.YtlgdcpkjobbnnaaFrame
import Derived.SizedLaws
namespace Go.Proofs.Ytlgdcpkjobbnnaa
open Go.ChangeShapes Go.WideShapes Go.ChangeAt Go.RowKit
namespace Frame
section
variable {H : Type} {enc : TypeId × Value → H} {P : Program}
/-- The lifted contract of a law: from its walk. -/
theorem lifted_sized {C : Checked} {os : Os} {s : ChangeSpec} (f : FuncId) (fn : Func)
    (own : ownKnob C.prog.godebug = none) (started : os.Started) (noInit : C.prog.inits.idxOf? f = none) (hfn : C.prog.funcs[f]? = some fn)
    (hl : laidOutB C.prog = true) (hvars : s.vars = [])
    (hparams : (fn.params.toList.all fun t => C.prog.readableRec t && decide (t < C.prog.types.size)) = true)
    (tb : TypeId) (hres : fn.resultTypes = #[tb]) (hb : C.prog.underlying tb = some .bool)
    (hspec : ∀ ds : List (DataW H), ds.length = fn.params.size → s.fn H (ds ++ []) = { results := [.lit (.bool true)], args := ds })
    (witness : ∃ (w : World) (tape : Tape) (i : Input), w.os = os ∧ (w.forCall tape i).Shaped C.prog ∧ i.vars = [] ∧ Input.okWide C.prog (w.forCall tape i) .any w.heap.size f i ∧
      s.pre6 enc C.prog fn [] false (w.forCall tape i).memory i.args ∧ ({} : Assume).holds C.prog (lone (Frame.enter C.prog f i.args .normal) [] (w.forCall tape i)))
    (walk : ∀ (W : World) (base : Nat) (args : Array Value) (ds : List (DataW H)) (ps : List MemPlace),
      (∀ (j : Nat) t v, fn.params[j]? = some t → args[j]? = some v → Value.okWide C.prog W .any base t v) →
      DataW.TrodAll enc C.prog W 0 (fun _ => true) true fn.params.toList args.toList ds ps → (∀ x ∈ ps, x.block < W.heap.size) → (∃ vt gs, (DataW.weightsEach C.prog (fn.params.toList ++ vt) (ds ++ gs)).all (· ≤ reachBytes) = true) →
      Calls C.prog f args W fun e W' => e = .returned (.bool true) ∧ Below W.heap.size W W') :
    ReturnsInHanded {} C os f .any (s.pre6 enc C.prog fn [] false) (s.post enc C.prog fn false true false false) := by
  refine returnsInHanded_of_change_sized own started noInit hfn witness ?_
  intro W base args ds gs before hval hW _ hsz _
  have hWk := hW
  obtain ⟨p, q, hA, hV, rfl, _, _⟩ := hW
  rw [hvars] at hV
  obtain ⟨rfl, rfl⟩ := trodVars_none hV
  have hlt : ∀ x ∈ p ++ [], x.block < W.heap.size := fun x hx => hWk.lt x hx
  have hlen : ds.length = fn.params.size := by
    have h : ∀ {ts : List TypeId} {vs : List Value} {ds : List (DataW H)} {ps : List MemPlace}, DataW.TrodAll enc C.prog W 0 (fun _ => true) true ts vs ds ps → ds.length = ts.length := by
      intro ts
      induction ts with
      | nil => intro vs ds ps h; obtain ⟨_, rfl, _⟩ := trodAll_nil h; rfl
      | cons t ts ih => intro vs ds ps h; obtain ⟨_, _, _, _, _, _, _, rfl, _, _, h2⟩ := trodAll_cons h; simp [ih h2]
    simpa using h hA
  refine (walk W base args ds p hval hA (fun x hx => hlt x (by simpa using hx)) ⟨_, _, hsz⟩).mono fun e W' ⟨he, hbl⟩ => ?_
  subst he
  have hp : p ++ [] = p := List.append_nil p
  refine ⟨_, rfl, ds, [], p ++ [], [], p, [], hWk, ?_, ?_, ?_, World.keptBut_mono (fun x hx => ⟨hx, Or.inr (Or.inl (by rw [← hp]; exact hx))⟩) (hbl.frame (· ∈ p ++ [])), fun h => by cases h⟩
  · rw [hspec ds hlen, hres]
    exact trodAll_cons_mk (shut_bool hb _) trodAll_mk0
  · rw [hspec ds hlen]
    exact trodAll_below hl hbl hparams hA (fun x hx => hlt x (by rw [hp]; exact hx))
  · rw [hspec ds hlen, hvars]
    exact rfl

theorem slice_cap {w : World} {base : Nat} {held : Bool} {t e : TypeId} {a : Addr} {len cap : Nat} {d : DataW H} {ps : List MemPlace} (ht : P.underlying t = some (.slice e)) (h : DataW.Trod enc P w base (fun _ => true) held t (.slice (some a) len cap) d ps) : ∃ elems spare, d = .slice elems spare ∧ elems.length + spare.length = cap := by
  obtain ⟨fuel, hf⟩ := h
  rcases DataW.trod_slice ht hf with ⟨h1, -⟩ | ⟨a', len', cap', elems, rest, n, -, h1, h2, -, hlc, -, hl, -, hr, -⟩
  · simp [Value.cells] at h1
  · have h1' : Value.slice (some a) len cap = .slice (some a') len' cap' := by simpa [Value.cells] using h1
    injection h1' with e1 e2 e3
    subst e2 e3
    injection h2 with h2 _
    refine ⟨_, _, h2, ?_⟩
    simp only [List.length_map]
    rw [hl, (hr rfl).1]; omega
end
end Frame
end Go.Proofs.Ytlgdcpkjobbnnaa
