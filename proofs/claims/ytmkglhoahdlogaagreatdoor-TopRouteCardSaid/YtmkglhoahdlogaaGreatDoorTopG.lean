/- skywaytop.h05Tube, walked over what its callees answer. -/
import Derived.Test.YtmkglhoahdlogaaGreatDoorJ09
import Derived.Test.YtmkglhoahdlogaaGreatDoorKind
import Derived.Test.YtmkglhoahdlogaaGreatDoorJ08
import Derived.Test.YtmkglhoahdlogaaGreatDoorPath
namespace Go.Proofs.YtmkglhoahdlogaaGreatDoor
open Go.RowKit
namespace Top
open Kit Plane Chart
set_option maxRecDepth 100000 in
set_option maxHeartbeats 8000000 in
theorem tube_go (cl kd f t ks : ByteArray) (off sp h kw ceil climb desc slow fast ra gr ba : Int) (A1 A2 A3 A4 : Option Addr) (n k1 m k2 nr k3 nw k4 : Nat) (E : Int) (q M : Nat) (NN : Nat → ByteArray) (X Y T' X' Y' H' : Nat → Int) (G : World → Value → Prop) (w : World)
    (EX : Hid (∀ w1, Below w.heap.size w w1 → Calls Tryz.prog 5 #[Plan.plan cl kd f t off sp h (.slice A3 nr k3), .agg #[.slice A1 n k1, .slice A2 m k2]] w1 fun e w' => (∃ v, e = .returned (.tuple #[v, .int .i64 0]) ∧ FV w' v q NN X Y) ∧ Below w1.heap.size w1 w'))
    (PT : Hid (∀ w1 v, Below w.heap.size w w1 → FV w1 v q NN X Y → Calls Tryz.prog 30 #[v, Plan.plan cl kd f t off sp h (.slice A3 nr k3), .agg #[.string ks, .int .i64 kw, .int .i64 ceil, .int .i64 climb, .int .i64 desc, .int .i64 slow, .int .i64 fast], .slice A4 nw k4] w1 fun e w' => (∃ v, e = .returned (.tuple #[v, .int .i64 0]) ∧ Path.PV w' v M T' X' Y' H') ∧ Below w1.heap.size w1 w'))
    (OF : Hid (∀ w1 v, Below w.heap.size w w1 → Path.PV w1 v M T' X' Y' H' → Calls Tryz.prog 31 #[v, .int .i64 ra, .int .i64 gr, .int .i64 ba] w1 fun e w' => (∃ v, e = .returned (.tuple #[v, .int .i64 E]) ∧ G w' v) ∧ Below w1.heap.size w1 w')) :
    Calls Tryz.prog 9 #[Plan.plan cl kd f t off sp h (.slice A3 nr k3), .agg #[.slice A1 n k1, .slice A2 m k2], .agg #[.string ks, .int .i64 kw, .int .i64 ceil, .int .i64 climb, .int .i64 desc, .int .i64 slow, .int .i64 fast], .slice A4 nw k4, .int .i64 ra, .int .i64 gr, .int .i64 ba] w fun e w' => (∃ v1 v2, e = .returned (.tuple #[v1, v2, .int .i64 E]) ∧ Path.PV w' v1 M T' X' Y' H' ∧ G w' v2) ∧ Below w.heap.size w w' := by
  have n8 := Plan.n8_new w 24 cl kd f t off sp h (.slice A3 nr k3)
  have N0 : Hid (Plan.N8 (((w.alloc (.cells #[.string cl, .string kd, .string f, .string t, .int .i64 off, .int .i64 sp, .int .i64 h, .slice A3 nr k3] 24)).alloc (.cells #[.slice A1 n k1, .slice A2 m k2] 28)).alloc (.cells #[.string ks, .int .i64 kw, .int .i64 ceil, .int .i64 climb, .int .i64 desc, .int .i64 slow, .int .i64 fast] 52)) w.heap.size cl kd f t off sp h (.slice A3 nr k3)) := Lib.hid (Plan.n8_keep (b_alloc (b_alloc (Below.refl _ _) _) _) n8)
  have p2 := p2v_new (w.alloc (.cells #[.string cl, .string kd, .string f, .string t, .int .i64 off, .int .i64 sp, .int .i64 h, .slice A3 nr k3] 24)) 28 (.slice A1 n k1) (.slice A2 m k2)
  rw [World.size_alloc] at p2
  have C0 : Hid (P2V (((w.alloc (.cells #[.string cl, .string kd, .string f, .string t, .int .i64 off, .int .i64 sp, .int .i64 h, .slice A3 nr k3] 24)).alloc (.cells #[.slice A1 n k1, .slice A2 m k2] 28)).alloc (.cells #[.string ks, .int .i64 kw, .int .i64 ceil, .int .i64 climb, .int .i64 desc, .int .i64 slow, .int .i64 fast] 52)) (w.heap.size + 1) (.slice A1 n k1) (.slice A2 m k2)) := Lib.hid (p2v_keep (b_alloc (Below.refl _ _) _) p2)
  have k7 := Kind.k7_new ((w.alloc (.cells #[.string cl, .string kd, .string f, .string t, .int .i64 off, .int .i64 sp, .int .i64 h, .slice A3 nr k3] 24)).alloc (.cells #[.slice A1 n k1, .slice A2 m k2] 28)) 52 ks kw ceil climb desc slow fast
  rw [World.size_alloc, World.size_alloc] at k7
  have K0 := Lib.hid k7
  have W0 := Lib.hid (b_alloc (b_alloc (b_alloc (Below.refl w.heap.size w) (.cells #[.string cl, .string kd, .string f, .string t, .int .i64 off, .int .i64 sp, .int .i64 h, .slice A3 nr k3] 24)) (.cells #[.slice A1 n k1, .slice A2 m k2] 28)) (.cells #[.string ks, .int .i64 kw, .int .i64 ceil, .int .i64 climb, .int .i64 desc, .int .i64 slow, .int .i64 fast] 52))
  clear n8 p2 k7
  go_enter Tryz.func9, Tryz.ntmps9
  obtain ⟨x0, x1, x2, x3, x4, x5, x6, x7⟩ := N0.out
  obtain ⟨y0, y1⟩ := C0.out
  go_wp2_with fail
  (with_reducible refine (EX.out _ W0.out).mono ?_); rintro e w1 ⟨⟨v, rfl, hfv⟩, hb⟩
  have W1 := Lib.hid (b_next W0.out hb); have N1 := Lib.hid (Plan.n8_keep hb N0.out); have K1 := Lib.hid (Kind.k7_keep hb K0.out)
  clear hb x0 x1 x2 x3 x4 x5 x6 x7 y0 y1
  have FV1 := Lib.hid hfv
  obtain ⟨Av, cv, rfl⟩ := fv_slice hfv
  clear hfv
  obtain ⟨x0, x1, x2, x3, x4, x5, x6, x7⟩ := N1.out
  obtain ⟨y0, y1, y2, y3, y4, y5, y6⟩ := K1.out
  go_wp2_with fail
  (with_reducible refine (PT.out _ _ W1.out FV1.out).mono ?_); rintro e w2 ⟨⟨v2, rfl, hpv⟩, hb⟩
  have W2 := Lib.hid (b_next W1.out hb); have PV2 := Lib.hid hpv; clear hpv hb x0 x1 x2 x3 x4 x5 x6 x7 y0 y1 y2 y3 y4 y5 y6
  have hsl : ∃ A c, v2 = .slice A M c := by
    rcases PV2.out with ⟨rfl, rfl | ⟨a, cap, rfl, -⟩⟩ | ⟨-, b, off, cap, rfl, -⟩
    · exact ⟨_, _, rfl⟩
    · exact ⟨_, _, rfl⟩
    · exact ⟨_, _, rfl⟩
  obtain ⟨Ap, cp, rfl⟩ := hsl
  go_wp2_with fail
  (with_reducible refine (OF.out _ _ W2.out PV2.out).mono ?_); rintro e w3 ⟨⟨v3, rfl, hg⟩, hb⟩
  have W3 := Lib.hid (b_next W2.out hb); have PV3 := Lib.hid (Path.pv_keep hb PV2.out); have HG := Lib.hid hg; clear hg hb
  go_wp2_with fail
  refine bodyPost_ret (v := .tuple #[.slice Ap M cp, v3, .int .i64 E]) (by simp [results, Tryz.results9, go_sem]) rfl ⟨⟨_, _, rfl, PV3.out, HG.out⟩, W3.out⟩
end Top
end Go.Proofs.YtmkglhoahdlogaaGreatDoor
