/- plantext.Parse: its contract. -/
import Derived.Test.YtddlacjjanincaaDoorPtQ
import Derived.Test.YtddlacjjanincaaDoorPtR
namespace Go.Proofs.YtddlacjjanincaaDoor
open Go.RowKit
namespace Pt
open Kit Chart Route Plan Name
/-- What Parse answers: the plan whose text it is, or an error where there is none. -/
def ParR (h0 : Nat) (s : ByteArray) (e : Ending) (w' : World) : Prop :=
  (∃ E : Int, E ≠ 0 ∧ e = .returned (.tuple #[zp, .int .i64 E]) ∧ ¬ Good s) ∨
  (∃ c k f t x y z R v, PlOk c k f t x y z R ∧ ptext c k f t x y z R = s ∧ e = .returned (.tuple #[plan c k f t x y z v, .int .i64 0]) ∧ ∀ W : World, (∀ a u, h0 ≤ a.block → w'.cell? a = some u → W.cell? a = some u) → SL W v R)
theorem splitF {w : World} (V : Vars w) (s : ByteArray) (hs : s.size ≤ 2000000) (F : List ByteArray) (hF : raw F = Spl.sp 32 s.data.toList) : Calls Tryd.prog 25 #[.string s, .string ⟨#[32]⟩] w fun e w' => (∃ g, e = .returned (.slice (some ⟨g, 0, none⟩) F.length F.length) ∧ ∀ k, k < F.length → w'.cell? ⟨g, k, none⟩ = some (.string (F.getD k ⟨#[]⟩))) ∧ Below w.heap.size w w' := by
  refine (splitC V s hs).mono ?_
  rintro e w' ⟨⟨F', hF', -, g, he, -, hc⟩, hb⟩
  obtain rfl := raw_inj (hF'.trans hF.symm)
  exact ⟨⟨g, he, hc⟩, hb⟩
theorem parse_short {w : World} (V : Vars w) (s : ByteArray) (h : ¬ 8192 < s.size) : Calls Tryd.prog 18 #[.string s] w fun e w' => ParR w.heap.size s e w' ∧ Below w.heap.size w w' := by
  obtain ⟨F, hF, hlen, hsz⟩ := parts s
  by_cases h7 : F.length < 7
  · refine (parse_few s w h F h7 (Lib.hid fun w1 hb => (splitF (vars_keep hb V) s (by omega) F hF).mono ?_)).mono ?_
    · rintro e w' ⟨⟨g, he, -⟩, hb'⟩
      exact ⟨⟨g, he⟩, hb'⟩
    · rintro e w' ⟨he, hb⟩
      exact ⟨Or.inl ⟨5, by decide, he, bad_few hF h7⟩, hb⟩
  · have hL : (F.drop 7).length = F.length - 7 := List.length_drop ..
    have CL : Hid (∀ w1 g, (∀ k, k < F.length → w1.cell? ⟨g, k, none⟩ = some (.string (F.getD k ⟨#[]⟩))) → Calls Tryd.prog 34 #[(.slice (some ⟨g, if F.length - 7 = 0 then 0 else 7, none⟩) (F.length - 7) (F.length - 7))] w1 fun e w' => (∃ Av cv, e = .returned (.slice Av (F.length - 7) cv) ∧ ∀ W : World, (∀ a u, w1.heap.size ≤ a.block → w'.cell? a = some u → W.cell? a = some u) → SL W (.slice Av (F.length - 7) cv) (F.drop 7)) ∧ Below w1.heap.size w1 w') := Lib.hid fun w1 g hc => by
      have q := cloneC (F.drop 7) g (if F.length - 7 = 0 then 0 else 7) (F.length - 7) w1 (by omega) fun j hj => by
        rw [if_neg (by omega), hc (7 + j) (by omega)]
        simp [List.getD_eq_getElem?_getD, List.getElem?_drop]
      rw [hL] at q
      exact q
    refine (parse_main s w h F (F.length - 7) (by omega) (by omega) (F.drop 7) hL (fun g => .slice (some ⟨g, if F.length - 7 = 0 then 0 else 7, none⟩) (F.length - 7) (F.length - 7)) (Lib.hid fun _ => rfl) (Lib.hid fun k => Nat.le_trans (hsz k) (by omega)) (Lib.hid fun w1 hb => splitF (vars_keep hb V) s (by omega) F hF) CL (Lib.hid fun u hu w' hb => numberC (vars_keep hb V) u hu)).mono ?_
    rintro e w' ⟨hp, hb⟩
    refine ⟨?_, hb⟩
    rcases hp with ⟨E, hE, he, hbad⟩ | ⟨x, y, z, v, hx, hy, hz, hE, he, hv⟩
    · refine Or.inl ⟨E, hE, he, ?_⟩
      cases hx : NumT.numB (F.getD 4 ⟨#[]⟩).data.toList with
      | none => exact bad_num hF (i := 0) (by decide) hx
      | some x =>
        cases hy : NumT.numB (F.getD 5 ⟨#[]⟩).data.toList with
        | none => exact bad_num hF (i := 1) (by decide) hy
        | some y =>
          cases hz : NumT.numB (F.getD 6 ⟨#[]⟩).data.toList with
          | none => exact bad_num hF (i := 2) (by decide) hz
          | some z =>
            have e := fields (by omega) hx hy hz
            rw [e] at hF
            exact bad_plan hF ⟨(NumT.numB_some hx).1, (NumT.numB_some hy).1, (NumT.numB_some hz).1⟩ (hbad x y z hx hy hz)
    · have e := fields (by omega) hx hy hz
      rw [e] at hF
      exact Or.inr ⟨_, _, _, _, x, y, z, _, v, plan_ok hE, fld_text hF, he, hv⟩
theorem parseC {w : World} (V : Vars w) (s : ByteArray) : Calls Tryd.prog 18 #[.string s] w fun e w' => ParR w.heap.size s e w' ∧ Below w.heap.size w w' := by
  by_cases h : 8192 < s.size
  · refine (parse_long s w h).mono ?_
    rintro e w' ⟨he, hb⟩
    refine ⟨Or.inl ⟨2, by decide, he, fun g => ?_⟩, hb⟩
    obtain ⟨c, k, f, t, x, y, z, R, e, rfl⟩ := g
    have q := text_len e
    have q2 : (ptext c k f t x y z R).size = (Spl.jn 32 (raw (fld c k f t x y z R))).length := rfl
    omega
  · exact parse_short V s h
end Pt
end Go.Proofs.YtddlacjjanincaaDoor
