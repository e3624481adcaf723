/- The frame of the second form ('Upto') of a law whose row lists variables. -/
import Derived.Test.YtddlacjjanincaaDoorFrameE
import Derived.Test.YtddlacjjanincaaDoorRows
import Derived.Deep.DeepHandedRow
import Derived.ChangeMaps5
namespace Go.Proofs.YtddlacjjanincaaDoor
open Go.ChangeShapes Go.WideShapes Go.ChangeAt Go.RowKit
namespace Frame
section
variable {H : Type} {enc : TypeId × Value → H}
theorem small_part {s : List UInt8} {ds : List (DataW H)} (hk : Rows.uptoSmall H ds = true) (hm : DataW.lit (.string s) ∈ ds) : s.length ≤ 1048576 := by
  have h : Rows.uptoBulkAll ds ≤ 1048576 := of_decide_eq_true hk
  have key : ∀ l : List (DataW H), DataW.lit (.string s) ∈ l → s.length + 1 ≤ Rows.uptoBulkAll l := by
    intro l
    induction l with
    | nil => intro h; cases h
    | cons x r ih =>
      intro hm
      rw [Rows.uptoBulkAll]
      rcases List.mem_cons.1 hm with e | e
      · rw [← e, Rows.uptoBulk]; omega
      · have := ih e; omega
  have := key ds hm
  omega
/-- What the bound says of a string among the arguments. -/
theorem small_str {P : Program} {w : World} {r : Reach} {b0 : Nat} {t : TypeId} {s : ByteArray} {d : DataW H} {ps : List MemPlace} {base : Nat} {sp : Nat → Bool} {held : Bool} {ds : List (DataW H)} (ht : P.underlying t = some .string) (hval : Value.okWide P w r b0 t (.string s)) (hd : DataW.Trod enc P w base sp held t (.string s) d ps)
    (hk : Rows.uptoSmall H ds = true) (hm : d ∈ ds) : s.size ≤ 1048576 := by
  obtain ⟨s', e, rfl, -, -⟩ := Go.ChangeMaps.open_string ht hval hd
  obtain rfl : s = s' := by injection e
  have := small_part hk hm
  rwa [Array.length_toList] at this
/-- The lifted contract of a law whose row lists variables: from its walk, which is handed the world's shape. -/
theorem lifted_upto {C : Checked} {os : Os} {s : ChangeSpec} {F : Stop.Interp} {laid : List (String × DataW Unit)} (f : FuncId) (fn : Func)
    (own : ownKnob C.prog.godebug = none) (started : os.Started) (noInit : C.prog.inits.idxOf? f = none) (hfn : C.prog.funcs[f]? = some fn)
    (hl : laidOutB C.prog = true) (hvars : s.vars = [])
    (hparams : (fn.params.toList.all fun t => C.prog.readableRec t && decide (t < C.prog.types.size)) = true)
    (tb : TypeId) (hres : fn.resultTypes = #[tb]) (hb : C.prog.underlying tb = some .bool)
    (hspec : ∀ ds : List (DataW H), ds.length = fn.params.size → s.fn H (ds ++ []) = { results := [.lit (.bool true)], args := ds })
    (witness : ∃ (w : World) (tape : Tape) (i : Input), w.os = os ∧ (w.forCall tape i).Shaped C.prog ∧ i.vars = [] ∧ Input.okWide C.prog (w.forCall tape i) .any w.heap.size f i ∧
      (Rows.OpenSpec.upto s).preRow enc C.prog fn [] false laid (w.forCall tape i).memory i.args ∧ ({} : Assume).holds C.prog (lone (Frame.enter C.prog f i.args .normal) [] (w.forCall tape i)))
    (walk : ∀ (W : World) (base : Nat) (args : Array Value) (ds : List (DataW H)) (ps : List MemPlace),
      (∀ (j : Nat) t v, fn.params[j]? = some t → args[j]? = some v → Value.okWide C.prog W .any base t v) →
      DataW.TrodAll enc C.prog W 0 (fun _ => true) true fn.params.toList args.toList ds ps → (∀ x ∈ ps, x.block < W.heap.size) → laidMetH C.prog laid W ∧ W.ShapedOpen C.prog → Rows.uptoSmall H ds = true →
      Calls C.prog f args W fun e W' => e = .returned (.bool true) ∧ Below W.heap.size W W') :
    ReturnsInHanded {} C os f .any ((Rows.OpenSpec.upto s).preRow enc C.prog fn [] false laid) (((Rows.OpenSpec.upto s).at F).post enc C.prog fn false true false false) := by
  refine returnsInHanded_of_row own started noInit hfn witness ?_
  intro W base args ds gs before hval hW _ hcond _ hL hSh _
  have hW : DataW.Whole enc C.prog fn.params.toList s.vars false W args.toList ds gs before := hW
  have hcond : Rows.uptoSmall H (ds ++ gs) = true := hcond _ rfl
  have hWk := hW
  obtain ⟨p, q, hA, hV, rfl, _, _⟩ := hW
  rw [hvars] at hV
  obtain ⟨rfl, rfl⟩ := trodVars_none hV
  have hlt : ∀ x ∈ p ++ [], x.block < W.heap.size := fun x hx => hWk.lt x hx
  have hlen : ds.length = fn.params.size := by
    have h : ∀ {ts : List TypeId} {vs : List Value} {ds : List (DataW H)} {ps : List MemPlace}, DataW.TrodAll enc C.prog W 0 (fun _ => true) true ts vs ds ps → ds.length = ts.length := by
      intro ts
      induction ts with
      | nil => intro vs ds ps h; obtain ⟨_, rfl, _⟩ := trodAll_nil h; rfl
      | cons t ts ih => intro vs ds ps h; obtain ⟨_, _, _, _, _, _, _, rfl, _, _, h2⟩ := trodAll_cons h; simp [ih h2]
    simpa using h hA
  refine (walk W base args ds p hval hA (fun x hx => hlt x (by simpa using hx)) ⟨hL, hSh⟩ (by simpa using hcond)).mono fun e W' ⟨he, hbl⟩ => ?_
  show ∃ v, e = .returned v ∧ s.post enc C.prog fn false true false false W args v W'
  subst he
  have hp : p ++ [] = p := List.append_nil p
  refine ⟨_, rfl, ds, [], p ++ [], [], p, [], hWk, ?_, ?_, ?_, World.keptBut_mono (fun x hx => ⟨hx, Or.inr (Or.inl (by rw [← hp]; exact hx))⟩) (hbl.frame (· ∈ p ++ [])), fun h => by cases h⟩
  · rw [hspec ds hlen, hres]
    exact trodAll_cons_mk (shut_bool hb _) trodAll_mk0
  · rw [hspec ds hlen]
    exact trodAll_below hl hbl hparams hA (fun x hx => hlt x (by rw [hp]; exact hx))
  · rw [hspec ds hlen, hvars]
    exact rfl
end
end Frame
end Go.Proofs.YtddlacjjanincaaDoor
