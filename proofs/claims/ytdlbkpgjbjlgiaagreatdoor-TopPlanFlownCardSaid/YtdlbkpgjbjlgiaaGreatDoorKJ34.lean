/- Joined texts: PtQ, PtR, PtU, FrameE. -/
import Derived.Test.YtdlbkpgjbjlgiaaGreatDoorKJ33
import Derived.Deep.RegionHeld3
import Derived.Shelf.Slices.Clone
import Derived.Ground.Names2Prog
import Derived.Test.YtdlbkpgjbjlgiaaGreatDoorJ14
namespace Go.Proofs.YtdlbkpgjbjlgiaaGreatDoor
open Go.RowKit
namespace Pt
open Kit Chart Route Plan Name
theorem parse_main (s : ByteArray) (w : World) (h : ¬ 8192 < s.size) (F : List ByteArray) (r : Nat) (hr : F.length = 7 + r) (hF8 : F.length ≤ 10000) (L : List ByteArray) (hL : L.length = r) (sl : Nat → Value) (hsl : Hid (∀ g, sl g = .slice (some ⟨g, if r = 0 then 0 else 7, none⟩) r r)) (hsz : Hid (∀ k, (F.getD k ⟨#[]⟩).size ≤ 2000000))
    (SP : Hid (∀ w1, Below w.heap.size w w1 → Calls Tryz.prog 38 #[.string s, .string ⟨#[32]⟩] w1 fun e w' => (∃ g, e = .returned (.slice (some ⟨g, 0, none⟩) F.length F.length) ∧ ∀ k, k < F.length → w'.cell? ⟨g, k, none⟩ = some (.string (F.getD k ⟨#[]⟩))) ∧ Below w1.heap.size w1 w'))
    (CL : Hid (∀ w1 g, (∀ k, k < F.length → w1.cell? ⟨g, k, none⟩ = some (.string (F.getD k ⟨#[]⟩))) → Calls Tryz.prog 39 #[sl g] w1 fun e w' => (∃ Av cv, e = .returned (.slice Av r cv) ∧ ∀ W : World, (∀ a u, w1.heap.size ≤ a.block → w'.cell? a = some u → W.cell? a = some u) → SL W (.slice Av r cv) L) ∧ Below w1.heap.size w1 w'))
    (NC : Hid (∀ u : ByteArray, u.size ≤ 2000000 → ∀ w', Below w.heap.size w w' → Calls Tryz.prog 40 #[.string u] w' fun e w'' => NumR u e ∧ Below w'.heap.size w' w'')) :
    Calls Tryz.prog 12 #[.string s] w fun e w' => PaR w.heap.size (F.getD 0 ⟨#[]⟩) (F.getD 1 ⟨#[]⟩) (F.getD 2 ⟨#[]⟩) (F.getD 3 ⟨#[]⟩) (F.getD 4 ⟨#[]⟩) (F.getD 5 ⟨#[]⟩) (F.getD 6 ⟨#[]⟩) L e w' ∧ Below w.heap.size w w' := by
  by_cases hr0 : r = 0
  · exact parse_z s w h F r hr0 hr hF8 L hL sl hsl hsz SP CL NC
  · exact parse_r s w h F r hr0 hr hF8 L hL sl hsl hsz SP CL NC
end Pt
end Go.Proofs.YtdlbkpgjbjlgiaaGreatDoor
namespace Go.Proofs.YtdlbkpgjbjlgiaaGreatDoor
open Go.RowKit Go.Shelf
shelf_lay Lays2.n16 Nm2 16 at Tryz as cloneLays
namespace Pt
open Kit Chart Route Plan Name
/-- What Clone gives hangs on its own cells alone. -/
def ClR (r : Nat) (L : List ByteArray) (h0 : Nat) (e : Ending) (w' : World) : Prop := ∃ Av cv, e = .returned (.slice Av r cv) ∧ ∀ W : World, (∀ a u, h0 ≤ a.block → w'.cell? a = some u → W.cell? a = some u) → SL W (.slice Av r cv) L
theorem clr_own {w' : World} {h0 : Nat} {E : TypeId} {v : Value} {L : List ByteArray} (h : w'.ownsRow h0 E 1 v L.length (vs L)) : ∃ Av cv, v = .slice Av L.length cv ∧ ∀ W : World, (∀ a u, h0 ≤ a.block → w'.cell? a = some u → W.cell? a = some u) → SL W (.slice Av L.length cv) L := by
  have hh := h
  rcases h.2 with ⟨hv, h0⟩ | ⟨g, cap, cur, hv, hb, hg, hnc, hcm, -⟩
  · refine ⟨none, 0, by rw [hv, h0], fun W _ => Or.inl ⟨h0, by rw [h0]; exact Or.inl rfl⟩⟩
  · refine ⟨_, _, hv, fun W hW => ?_⟩
    rcases Nat.eq_zero_or_pos L.length with h0 | h0
    · exact Or.inl ⟨h0, Or.inr ⟨⟨g, 0, none⟩, cap, by rw [h0], hcm⟩⟩
    · refine Or.inr ⟨h0, g, 0, cap, rfl, hnc, hcm, fun k hk => hW _ _ hb ?_⟩
      subst hv
      have hc := hh.cellAt k (by omega)
      rw [Nat.zero_add, hc, List.getElem?_map, List.getElem?_eq_getElem hk]
      show some (Value.string L[k]) = some (.string (L.getD k ⟨#[]⟩))
      rw [List.getD_eq_getElem?_getD, List.getElem?_eq_getElem hk]
      rfl
theorem cloneC (L : List ByteArray) (b off c : Nat) (w : World) (hn : L.length ≤ 1000000) (hc : ∀ j, j < L.length → w.cell? ⟨b, off + j, none⟩ = some (.string (L.getD j ⟨#[]⟩))) :
    Calls Tryz.prog 39 #[.slice (some ⟨b, off, none⟩) L.length c] w fun e w' => ClR L.length L w.heap.size e w' ∧ Below w.heap.size w w' := by
  have q := Any.slices_Clone_string cloneLays b off L.length c L w (Nat.le_refl _) (by omega) hc
  change Calls Tryz.prog 39 _ _ _ at q
  refine q.mono ?_
  rintro e w' ⟨v, rfl, ho, -, hb⟩
  rw [List.take_of_length_le (Nat.le_refl _)] at ho
  obtain ⟨Av, cv, hv, hk⟩ := clr_own ho
  exact ⟨⟨Av, cv, by rw [hv], hk⟩, hb⟩
theorem sp_len (c : UInt8) : ∀ s : List UInt8, (Spl.sp c s).length ≤ s.length + 1 ∧ ∀ x ∈ Spl.sp c s, x.length ≤ s.length
  | [] => by
    refine ⟨by simp [Spl.sp], fun x hx => ?_⟩
    simp [Spl.sp] at hx
    simp [hx]
  | b :: l => by
    obtain ⟨h1, h2⟩ := sp_len c l
    by_cases e : b = c
    · subst e
      rw [Spl.sp_hit]
      refine ⟨by simpa using h1, fun x hx => ?_⟩
      rcases List.mem_cons.1 hx with rfl | hx
      · simp
      · have := h2 x hx; simp only [List.length_cons]; omega
    · obtain ⟨h, t, ht⟩ := Spl.sp_ne c l
      rw [Spl.sp_miss e ht]
      rw [ht] at h1 h2
      refine ⟨by simp only [List.length_cons] at h1 ⊢; omega, fun x hx => ?_⟩
      rcases List.mem_cons.1 hx with rfl | hx
      · have := h2 h (by simp); simp only [List.length_cons]; omega
      · have := h2 x (by simp [hx]); simp only [List.length_cons]; omega
theorem parts (s : ByteArray) : ∃ F : List ByteArray, raw F = Spl.sp 32 s.data.toList ∧ F.length ≤ s.size + 1 ∧ ∀ k, (F.getD k ⟨#[]⟩).size ≤ s.size := by
  refine ⟨(Spl.sp 32 s.data.toList).map fun l => ⟨l.toArray⟩, ?_, ?_, fun k => ?_⟩
  · show List.map _ (List.map _ _) = _
    rw [List.map_map]
    exact (List.map_congr_left (g := id) fun l _ => rfl).trans (List.map_id _)
  · rw [List.length_map]
    exact (sp_len 32 _).1
  · rw [List.getD_eq_getElem?_getD, List.getElem?_map]
    cases q : (Spl.sp 32 s.data.toList)[k]? with
    | none => exact Nat.zero_le _
    | some l =>
      obtain ⟨h, e⟩ := List.getElem?_eq_some_iff.1 q
      exact (sp_len 32 _).2 l (e ▸ List.getElem_mem h)
end Pt
end Go.Proofs.YtdlbkpgjbjlgiaaGreatDoor
namespace Go.Proofs.YtdlbkpgjbjlgiaaGreatDoor
open Go.RowKit
namespace Pt
open Kit Chart Route Plan Name
/-- What Parse answers: the plan whose text it is, or an error where there is none. -/
def ParR (h0 : Nat) (s : ByteArray) (e : Ending) (w' : World) : Prop :=
  (∃ E : Int, E ≠ 0 ∧ e = .returned (.tuple #[zp, .int .i64 E]) ∧ ¬ Good s) ∨
  (∃ c k f t x y z R v, PlOk c k f t x y z R ∧ ptext c k f t x y z R = s ∧ e = .returned (.tuple #[plan c k f t x y z v, .int .i64 0]) ∧ ∀ W : World, (∀ a u, h0 ≤ a.block → w'.cell? a = some u → W.cell? a = some u) → SL W v R)
theorem splitF {w : World} (V : Vars w) (s : ByteArray) (hs : s.size ≤ 2000000) (F : List ByteArray) (hF : raw F = Spl.sp 32 s.data.toList) : Calls Tryz.prog 38 #[.string s, .string ⟨#[32]⟩] w fun e w' => (∃ g, e = .returned (.slice (some ⟨g, 0, none⟩) F.length F.length) ∧ ∀ k, k < F.length → w'.cell? ⟨g, k, none⟩ = some (.string (F.getD k ⟨#[]⟩))) ∧ Below w.heap.size w w' := by
  refine (splitC V s hs).mono ?_
  rintro e w' ⟨⟨F', hF', -, g, he, -, hc⟩, hb⟩
  obtain rfl := raw_inj (hF'.trans hF.symm)
  exact ⟨⟨g, he, hc⟩, hb⟩
theorem parse_short {w : World} (V : Vars w) (s : ByteArray) (h : ¬ 8192 < s.size) : Calls Tryz.prog 12 #[.string s] w fun e w' => ParR w.heap.size s e w' ∧ Below w.heap.size w w' := by
  obtain ⟨F, hF, hlen, hsz⟩ := parts s
  by_cases h7 : F.length < 7
  · refine (parse_few s w h F h7 (Lib.hid fun w1 hb => (splitF (vars_keep hb V) s (by omega) F hF).mono ?_)).mono ?_
    · rintro e w' ⟨⟨g, he, -⟩, hb'⟩
      exact ⟨⟨g, he⟩, hb'⟩
    · rintro e w' ⟨he, hb⟩
      exact ⟨Or.inl ⟨5, by decide, he, bad_few hF h7⟩, hb⟩
  · have hL : (F.drop 7).length = F.length - 7 := List.length_drop ..
    have CL : Hid (∀ w1 g, (∀ k, k < F.length → w1.cell? ⟨g, k, none⟩ = some (.string (F.getD k ⟨#[]⟩))) → Calls Tryz.prog 39 #[(.slice (some ⟨g, if F.length - 7 = 0 then 0 else 7, none⟩) (F.length - 7) (F.length - 7))] w1 fun e w' => (∃ Av cv, e = .returned (.slice Av (F.length - 7) cv) ∧ ∀ W : World, (∀ a u, w1.heap.size ≤ a.block → w'.cell? a = some u → W.cell? a = some u) → SL W (.slice Av (F.length - 7) cv) (F.drop 7)) ∧ Below w1.heap.size w1 w') := Lib.hid fun w1 g hc => by
      have q := cloneC (F.drop 7) g (if F.length - 7 = 0 then 0 else 7) (F.length - 7) w1 (by omega) fun j hj => by
        rw [if_neg (by omega), hc (7 + j) (by omega)]
        simp [List.getD_eq_getElem?_getD, List.getElem?_drop]
      rw [hL] at q
      exact q
    refine (parse_main s w h F (F.length - 7) (by omega) (by omega) (F.drop 7) hL (fun g => .slice (some ⟨g, if F.length - 7 = 0 then 0 else 7, none⟩) (F.length - 7) (F.length - 7)) (Lib.hid fun _ => rfl) (Lib.hid fun k => Nat.le_trans (hsz k) (by omega)) (Lib.hid fun w1 hb => splitF (vars_keep hb V) s (by omega) F hF) CL (Lib.hid fun u hu w' hb => numberC (vars_keep hb V) u hu)).mono ?_
    rintro e w' ⟨hp, hb⟩
    refine ⟨?_, hb⟩
    rcases hp with ⟨E, hE, he, hbad⟩ | ⟨x, y, z, v, hx, hy, hz, hE, he, hv⟩
    · refine Or.inl ⟨E, hE, he, ?_⟩
      cases hx : NumT.numB (F.getD 4 ⟨#[]⟩).data.toList with
      | none => exact bad_num hF (i := 0) (by decide) hx
      | some x =>
        cases hy : NumT.numB (F.getD 5 ⟨#[]⟩).data.toList with
        | none => exact bad_num hF (i := 1) (by decide) hy
        | some y =>
          cases hz : NumT.numB (F.getD 6 ⟨#[]⟩).data.toList with
          | none => exact bad_num hF (i := 2) (by decide) hz
          | some z =>
            have e := fields (by omega) hx hy hz
            rw [e] at hF
            exact bad_plan hF ⟨(NumT.numB_some hx).1, (NumT.numB_some hy).1, (NumT.numB_some hz).1⟩ (hbad x y z hx hy hz)
    · have e := fields (by omega) hx hy hz
      rw [e] at hF
      exact Or.inr ⟨_, _, _, _, x, y, z, _, v, plan_ok hE, fld_text hF, he, hv⟩
theorem parseC {w : World} (V : Vars w) (s : ByteArray) : Calls Tryz.prog 12 #[.string s] w fun e w' => ParR w.heap.size s e w' ∧ Below w.heap.size w w' := by
  by_cases h : 8192 < s.size
  · refine (parse_long s w h).mono ?_
    rintro e w' ⟨he, hb⟩
    refine ⟨Or.inl ⟨2, by decide, he, fun g => ?_⟩, hb⟩
    obtain ⟨c, k, f, t, x, y, z, R, e, rfl⟩ := g
    have q := text_len e
    have q2 : (ptext c k f t x y z R).size = (Spl.jn 32 (raw (fld c k f t x y z R))).length := rfl
    omega
  · exact parse_short V s h
end Pt
end Go.Proofs.YtdlbkpgjbjlgiaaGreatDoor
namespace Go.Proofs.YtdlbkpgjbjlgiaaGreatDoor
open Go.ChangeShapes Go.WideShapes Go.ChangeAt Go.RowKit
namespace Frame
section
variable {H : Type} {enc : TypeId × Value → H} {P : Program}
theorem returns_open {a : Assume} {C : Checked} {os : Os} {f : FuncId} {fn : Func} {s : ChangeSpec} {conds : List PathCond} {apart fresh handsOn again : Bool} {X : World → Array Value → Prop}
    (hX : ∀ (w w' : World) (args : Array Value), w.heap = w'.heap → X w args → X w' args)
    (own : ownKnob C.prog.godebug = none) (started : os.Started) (noInit : C.prog.inits.idxOf? f = none) (hfn : C.prog.funcs[f]? = some fn)
    (witness : ∃ (w : World) (tape : Tape) (i : Input), w.os = os ∧ (w.forCall tape i).Shaped C.prog ∧ i.vars = [] ∧ Input.okWide C.prog (w.forCall tape i) .any w.heap.size f i ∧
      ((s.pre enc C.prog fn conds apart (w.forCall tape i).memory i.args ∧ X (w.forCall tape i).memory i.args) ∧ sizedMet enc C.prog fn (OpenSpec.ofChange s) apart (w.forCall tape i).memory i.args) ∧ a.holds C.prog (lone (Frame.enter C.prog f i.args .normal) [] (w.forCall tape i)))
    (contract : ∀ (W : World) (base : Nat) (args : Array Value) (ds gs : List (DataW H)) (before : List MemPlace),
      (∀ (j : Nat) t v, fn.params[j]? = some t → args[j]? = some v → Value.okWide C.prog W .any base t v) →
      DataW.Whole enc C.prog fn.params.toList s.vars apart W args.toList ds gs before → X W args → W.ShapedOpen C.prog →
      Calls C.prog f args W fun e W' => ∃ v, e = .returned v ∧ s.post enc C.prog fn apart fresh handsOn again W args v W') :
    ReturnsInHanded a C os f .any (fun w args => (s.pre enc C.prog fn conds apart w args ∧ X w args) ∧ sizedMet enc C.prog fn (OpenSpec.ofChange s) apart w args) (s.post enc C.prog fn apart fresh handsOn again) := by
  refine returnsInHanded_of_calls own started noInit witness ?_
  intro w tape i _ hsh _ hok hpre hholds
  obtain ⟨_, _, _, fn', hfn', _, _, _, _, hval⟩ := hok
  have e : fn' = fn := Option.some.inj (hfn'.symm.trans hfn)
  subst e
  obtain ⟨⟨⟨ds, gs, before, hw, hc⟩, hx⟩, hz⟩ := hpre
  have hw' := DataW.Whole.of_heap (w' := w.forCall tape i) (by rfl) hw
  refine (contract (w.forCall tape i) w.heap.size i.args ds gs before hval hw' (hX _ _ _ (by rfl) hx) hsh).mono fun e W' ⟨v, he, hp⟩ => ?_
  subst he
  exact ChangeSpec.post_blind hp
/-- The lifted contract of a law whose row lists variables: from its walk, which is handed the world's shape. -/
theorem lifted_open {C : Checked} {os : Os} {s : ChangeSpec} {laid : List (String × DataW Unit)} (f : FuncId) (fn : Func)
    (own : ownKnob C.prog.godebug = none) (started : os.Started) (noInit : C.prog.inits.idxOf? f = none) (hfn : C.prog.funcs[f]? = some fn)
    (hl : laidOutB C.prog = true) (hvars : s.vars = [])
    (hparams : (fn.params.toList.all fun t => C.prog.readableRec t && decide (t < C.prog.types.size)) = true)
    (tb : TypeId) (hres : fn.resultTypes = #[tb]) (hb : C.prog.underlying tb = some .bool)
    (hspec : ∀ ds : List (DataW H), ds.length = fn.params.size → s.fn H (ds ++ []) = { results := [.lit (.bool true)], args := ds })
    (witness : ∃ (w : World) (tape : Tape) (i : Input), w.os = os ∧ (w.forCall tape i).Shaped C.prog ∧ i.vars = [] ∧ Input.okWide C.prog (w.forCall tape i) .any w.heap.size f i ∧
      ((s.pre enc C.prog fn [] false (w.forCall tape i).memory i.args ∧ laidMetH C.prog laid (w.forCall tape i).memory) ∧ sizedMet enc C.prog fn (OpenSpec.ofChange s) false (w.forCall tape i).memory i.args) ∧ ({} : Assume).holds C.prog (lone (Frame.enter C.prog f i.args .normal) [] (w.forCall tape i)))
    (walk : ∀ (W : World) (base : Nat) (args : Array Value) (ds : List (DataW H)) (ps : List MemPlace),
      (∀ (j : Nat) t v, fn.params[j]? = some t → args[j]? = some v → Value.okWide C.prog W .any base t v) →
      DataW.TrodAll enc C.prog W 0 (fun _ => true) true fn.params.toList args.toList ds ps → (∀ x ∈ ps, x.block < W.heap.size) → laidMetH C.prog laid W ∧ W.ShapedOpen C.prog →
      Calls C.prog f args W fun e W' => e = .returned (.bool true) ∧ Below W.heap.size W W') :
    ReturnsInHanded {} C os f .any (fun w args => (s.pre enc C.prog fn [] false w args ∧ laidMetH C.prog laid w) ∧ sizedMet enc C.prog fn (OpenSpec.ofChange s) false w args) (s.post enc C.prog fn false true false false) := by
  refine returns_open (X := fun w _ => laidMetH C.prog laid w) (fun _ _ _ hh h => h.of_heap hh) own started noInit hfn witness ?_
  intro W base args ds gs before hval hW hL hSh
  have hWk := hW
  obtain ⟨p, q, hA, hV, rfl, _, _⟩ := hW
  rw [hvars] at hV
  obtain ⟨rfl, rfl⟩ := trodVars_none hV
  have hlt : ∀ x ∈ p ++ [], x.block < W.heap.size := fun x hx => hWk.lt x hx
  have hlen : ds.length = fn.params.size := by
    have h : ∀ {ts : List TypeId} {vs : List Value} {ds : List (DataW H)} {ps : List MemPlace}, DataW.TrodAll enc C.prog W 0 (fun _ => true) true ts vs ds ps → ds.length = ts.length := by
      intro ts
      induction ts with
      | nil => intro vs ds ps h; obtain ⟨_, rfl, _⟩ := trodAll_nil h; rfl
      | cons t ts ih => intro vs ds ps h; obtain ⟨_, _, _, _, _, _, _, rfl, _, _, h2⟩ := trodAll_cons h; simp [ih h2]
    simpa using h hA
  refine (walk W base args ds p hval hA (fun x hx => hlt x (by simpa using hx)) ⟨hL, hSh⟩).mono fun e W' ⟨he, hbl⟩ => ?_
  subst he
  have hp : p ++ [] = p := List.append_nil p
  refine ⟨_, rfl, ds, [], p ++ [], [], p, [], hWk, ?_, ?_, ?_, World.keptBut_mono (fun x hx => ⟨hx, Or.inr (Or.inl (by rw [← hp]; exact hx))⟩) (hbl.frame (· ∈ p ++ [])), fun h => by cases h⟩
  · rw [hspec ds hlen, hres]
    exact trodAll_cons_mk (shut_bool hb _) trodAll_mk0
  · rw [hspec ds hlen]
    exact trodAll_below hl hbl hparams hA (fun x hx => hlt x (by rw [hp]; exact hx))
  · rw [hspec ds hlen, hvars]
    exact rfl
end
end Frame
end Go.Proofs.YtdlbkpgjbjlgiaaGreatDoor
