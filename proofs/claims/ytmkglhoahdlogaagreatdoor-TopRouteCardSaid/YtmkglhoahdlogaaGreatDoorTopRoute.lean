/- TopRoute: no route over airways is shorter than the shortest way between its ends. For every input, where math's tables read as Go's library lays them. -/
import Derived.Test.YtmkglhoahdlogaaGreatDoorTopR
import Derived.Test.YtmkglhoahdlogaaGreatDoorTopH
import Derived.Test.YtmkglhoahdlogaaGreatDoorNetR
import Derived.Test.YtmkglhoahdlogaaGreatDoorS6
import Derived.Test.YtmkglhoahdlogaaGreatDoorJ09
import Derived.Test.YtmkglhoahdlogaaGreatDoorDoorA
import Derived.Test.YtmkglhoahdlogaaGreatDoorJ07
import Derived.Test.YtmkglhoahdlogaaGreatDoorCards
namespace Go.Proofs.YtmkglhoahdlogaaGreatDoor
open Go.RowKit Go.ChangeShapes Go.WideShapes
namespace TopRoute
open Kit Chart Route Net Short Lnk
/-- The way over the first fixes. -/
def way (p : Nat → Nat) : Nat → List Nat
  | 0 => []
  | c + 1 => way p c ++ [p (c + 1)]
theorem way_ok {G : Gr} {p : Nat → Nat} {D : Nat → Int} {k : Nat} (h1 : ∀ j, j + 1 < k → G.adj (p j) (p (j + 1))) (h2 : ∀ j, j + 1 < k → G.d (p j) (p (j + 1)) = D (j + 1)) : ∀ c, c < k → chn G (p 0) (way p c) ∧ fin (p 0) (way p c) = p c ∧ len G.d (p 0) (way p c) = lsum D (c + 1)
  | 0, _ => ⟨True.intro, rfl, rfl⟩
  | c + 1, h => by
    obtain ⟨a1, a2, a3⟩ := way_ok h1 h2 c (by omega)
    refine ⟨(chn_append _ _ _).2 ⟨a1, ?_⟩, by unfold way; rw [fin_append]; rfl, ?_⟩
    · rw [a2]; exact ⟨h1 c h, True.intro⟩
    · show len G.d (p 0) (way p c ++ [p (c + 1)]) = (if c + 1 = 0 then 0 else lsum D (c + 1) + D (c + 1))
      rw [if_neg (Nat.succ_ne_zero c), len_append, a2, a3, ← h2 c h]
      show _ + (G.d (p c) (p (c + 1)) + 0) = _
      omega
theorem walk (cl kd f t : ByteArray) (off sp h : Int) (p_route c_fixes c_airways : Value) (W : World) (hL : laidMetH Tryz.prog Door.laid W) (_h0 : cl.size ≤ maxLen) (_h1 : kd.size ≤ maxLen) (_h2 : f.size ≤ maxLen) (_h3 : t.size ≤ maxLen) (_h4 : -9223372036854775808 ≤ off ∧ off ≤ 9223372036854775807) (_h5 : -9223372036854775808 ≤ sp ∧ sp ≤ 9223372036854775807) (_h6 : -9223372036854775808 ≤ h ∧ h ≤ 9223372036854775807) (h_p_route : Frame.Okc W (.sl [.str]) p_route) (h_c_fixes : Frame.Okc W (.sl [.str, .int, .int]) c_fixes) (h_c_airways : Frame.Okc W (.sl [.str, .sl [.str]]) c_airways) :
    Calls Tryz.prog 3 #[.agg #[.string cl, .string kd, .string f, .string t, .int .i64 off, .int .i64 sp, .int .i64 h, p_route], .agg #[c_fixes, c_airways]] W fun e w' => e = .returned (.bool true) ∧ Below W.heap.size W w' := by
  have TB := Door.tabs_of hL
  have WK := fun w1 (hb : Below W.heap.size W w1) => Top.h05Works (Ang.tabs_keep hb TB)
  obtain ⟨nr, RT, hr⟩ := sv_of h_p_route
  obtain ⟨n, N, X, Y, m, M, l, S, hc⟩ := cv_of h_c_fixes h_c_airways
  have E := fun w1 (hb : Below W.heap.size W w1) => expandC (cl := cl) (kd := kd) (f := f) (t := t) (off := off) (sp := sp) (h := h) (sv_keep hb hr) (cv_keep hb hc)
  have LC0 := fun w1 (s : ByteArray) (hb : Below W.heap.size W w1) => linksC (cv_keep hb hc) s
  have PA0 := pathC hc f t
  obtain ⟨fx', a', e, hf, ha⟩ := hc.ex
  injection e with e
  obtain ⟨rfl, rfl⟩ : c_fixes = fx' ∧ c_airways = a' := by simpa using e
  clear e
  obtain ⟨A3, c3, rfl⟩ := sv_slice hr
  obtain ⟨A1, c1, rfl⟩ := fv_slice hf
  obtain ⟨A2, c2, rfl⟩ := av_slice ha
  by_cases hE : rtE n N X Y m M l S cl kd f t off sp h nr RT = 0
  · have o := (rt_ok hE).2
    obtain ⟨T, hT⟩ : ∃ T, T = rts m M l S f t (lst nr RT) := ⟨_, rfl⟩
    have h1 := rts_len o; have h62 := o.most; have hfst := rts_first (m := m) (M := M) (l := l) (S := S) (f := f) (t := t) (lst nr RT); have hlst := rts_last o; have hfn := rts_fnd o
    rw [← hT] at h1 h62 hfst hlst hfn
    obtain ⟨FX, hFX⟩ : ∃ FX : Nat → Int, FX = fun j => X (pos n N (nth T j)) := ⟨_, rfl⟩
    obtain ⟨FY, hFY⟩ : ∃ FY : Nat → Int, FY = fun j => Y (pos n N (nth T j)) := ⟨_, rfl⟩
    have EX : ∀ w1, Below W.heap.size W w1 → Calls Tryz.prog 5 #[Plan.plan cl kd f t off sp h (.slice A3 nr c3), .agg #[.slice A1 n c1, .slice A2 m c2]] w1 fun e w' => (∃ v, e = .returned (.tuple #[v, .int .i64 0]) ∧ FV w' v T.length (nth T) FX FY) ∧ Below w1.heap.size w1 w' := fun w1 hb => (E w1 hb).mono fun e w' ⟨hp, hb'⟩ => by
      rcases hp with ⟨h0, -⟩ | ⟨-, v, he, hv⟩
      · exact absurd hE h0
      · rw [← hT] at hv; rw [hFX, hFY]; exact ⟨⟨v, he, hv⟩, hb'⟩
    have hfx : ∀ j, j < T.length → 0 ≤ fix N (nth T j) n := fun j hj => by have := hfn _ (nth_mem hj); omega
    have hps : ∀ j, j < T.length → pos n (gS n N) (nth T j) < n ∧ gS n N (pos n (gS n N) (nth T j)) = nth T j := fun j hj => by
      obtain ⟨i, hi, e⟩ := fix_has (hfx j hj)
      obtain ⟨k, hk, e2⟩ := gS_has (N := N) hi
      exact pos_of ⟨k, hk, e2.trans e⟩
    have hgd : ∀ j, j < T.length → Plane.good (FX j) (FY j) := fun j hj => by
      rw [hFX, hFY]; exact (fe_ok ((cerr_ok o.chart).2.2.1 _ (fix_some (by have := hfx j hj; omega)).1)).2.2
    have hck := rck_of (n := T.length) (X := FX) (Y := FY) (by omega) hgd
    have RL : ∀ w1 v, FV w1 v T.length (nth T) FX FY → Calls Tryz.prog 7 #[v] w1 fun e w' => e = .returned (.tuple #[.int .i64 (lsum (rstp FX FY) T.length), .int .i64 0]) ∧ Below w1.heap.size w1 w' := fun w1 v hv => by
      have c := rlenC hv w1 (Below.refl _ _)
      unfold rlen at c
      rw [if_neg (fun e => e hck)] at c
      exact c
    have LC : ∀ w1 j, Below W.heap.size W w1 → j < T.length → Calls Tryz.prog 6 #[.agg #[.slice A1 n c1, .slice A2 m c2], .string (nth T j)] w1 fun e w' => (∃ v, e = .returned (.tuple #[v, .int .i64 0]) ∧ SL w' v (links l S (nth T j) m)) ∧ Below w1.heap.size w1 w' := fun w1 j hb hj => (LC0 w1 (nth T j) hb).mono fun e w' ⟨hp, hb'⟩ => by
      rcases hp with ⟨E, -, -, -, h2⟩ | ⟨-, -, hp⟩
      · have := h2 o.chart; have := hfx j hj; omega
      · exact ⟨hp, hb'⟩
    have PA : (∀ j, j + 1 < T.length → nth T (j + 1) ∈ links l S (nth T j) m) → ∀ w1, Below W.heap.size W w1 → Calls Tryz.prog 8 #[.agg #[.slice A1 n c1, .slice A2 m c2], .string f, .string t] w1 fun e w' => (∃ u q, e = .returned (.tuple #[u, .int .i64 q, .int .i64 0]) ∧ q ≤ lsum (rstp FX FY) T.length) ∧ Below w1.heap.size w1 w' := fun hlk => by
      have hG := gr_ok o.chart
      have q := way_ok (G := gr n N X Y m l S) (p := fun j => pos n (gS n N) (nth T j)) (D := rstp FX FY) (k := T.length)
        (fun j hj => (gr_adj o.chart).2 ⟨(hps (j + 1) hj).1, by rw [(hps (j + 1) hj).2, (hps j (by omega)).2]; exact hlk j hj⟩)
        (fun j hj => by
          show dst n N X Y (gS n N (pos n (gS n N) (nth T j))) (gS n N (pos n (gS n N) (nth T (j + 1)))) = _
          rw [(hps (j + 1) hj).2, (hps j (by omega)).2, hFX, hFY]; rfl)
        (T.length - 1) (by omega)
      have h0 := hps 0 (by omega)
      have h9 := hps (T.length - 1) (by omega)
      rw [hfst] at h0
      rw [hlst] at h9
      rw [show T.length - 1 + 1 = T.length by omega] at q
      rcases PA0 with ⟨hb, -⟩ | ⟨-, a, b, hB, hP⟩
      · exfalso
        apply hb
        unfold bad
        have f0 := hfx 0 (by omega)
        have f9 := hfx (T.length - 1) (by omega)
        rw [hfst] at f0
        rw [hlst] at f9
        rw [if_neg (fun q => q o.chart), if_neg (by omega)]
      · obtain ⟨ea, eb⟩ := hB.same ⟨o.chart, h0.1, h9.1, h0.2, h9.2⟩
        have qa : pos n (gS n N) (nth T 0) = a := by show pos n (gS n N) (nth T 0) = a; rw [hfst, ea]
        have qb : pos n (gS n N) (nth T (T.length - 1)) = b := by show pos n (gS n N) (nth T (T.length - 1)) = b; rw [hlst, eb]
        rw [qa, qb] at q
        obtain ⟨q1, q2, q3⟩ := q
        rcases hP with ⟨-, -, -, hP⟩ | ⟨hno, -⟩
        · exact fun w1 hb => (hP w1 hb).mono fun e w' ⟨⟨u, z, k, he, _, hbe⟩, hb'⟩ => ⟨⟨u, k, he, by rw [← q3]; exact best_le hG hB.la hbe.1 q1 q2⟩, hb'⟩
        · obtain ⟨z, hz, -⟩ := is_of hG hB.la q1 q2
          exact absurd hz (hno z)
    exact core cl kd f t off sp h A1 A2 A3 n c1 m c2 nr c3 T.length (nth T) FX FY (fun j => links l S (nth T j) m) _ W h1 h62 (Lib.hid fun j _ => Nat.le_trans links_len (by have := (cerr_ok o.chart).2.1; omega)) (Lib.hid WK) (Lib.hid EX) (Lib.hid LC) (Lib.hid RL) (Lib.hid PA)
  · have EX := fun w1 (hb : Below W.heap.size W w1) => (E w1 hb).mono fun e w' (hep : ExpPost n N X Y _ _ e w' ∧ Below w1.heap.size w1 w') => (by
      obtain ⟨⟨-, he⟩ | ⟨h0, -⟩, hb'⟩ := hep
      · exact ⟨he, hb'⟩
      · exact absurd h0 hE : e = .returned (.tuple #[.slice none 0 0, .int .i64 (rtE n N X Y m M l S cl kd f t off sp h nr RT)]) ∧ Below w1.heap.size w1 w')
    exact core_bad cl kd f t off sp h A1 A2 A3 n c1 m c2 nr c3 _ W (by simpa using hE) (Lib.hid WK) (Lib.hid EX)
-- FRAME --

set_option maxRecDepth 100000 in
theorem lifted (os : Os) (started : os.Started) (H : Type) (enc : TypeId × Value → H) :
    ReturnsInHanded {} Tryz.checked os 3 .any (fun w args => (Rows.topRouteSpec.pre enc Tryz.prog Tryz.f3 [] false w args ∧ laidMetH Tryz.prog Door.laid w) ∧ sizedMet enc Tryz.prog Tryz.f3 (OpenSpec.ofChange Rows.topRouteSpec) false w args) (Rows.topRouteSpec.post enc Tryz.prog Tryz.f3 false true false false) :=
  Frame.lifted_laid (C := Tryz.checked) 3 Tryz.f3 Tryz.own started (by kernel_rfl) Tryz.func3 Tryz.laidOut rfl (by kernel_rfl) 4 rfl Tryz.underlying4
      (fun ds h => by match ds, h with | [_, _], _ => rfl)
      (ChangeSpec.witness_at (enc := enc) (C := Tryz.checked) (os := os) (X := fun w _ => laidMetH Tryz.prog Door.laid w) false (Door.laidWorld os) #[.agg #[.string ⟨#[]⟩, .string ⟨#[]⟩, .string ⟨#[]⟩, .string ⟨#[]⟩, .int .i64 0, .int .i64 0, .int .i64 0, .slice none 0 0], .agg #[.slice none 0 0, .slice none 0 0]] 8 rfl (by kernel_rfl) (by kernel_rfl) (by kernel_rfl) (by kernel_rfl) (by kernel_rfl) (Door.laidWorld_met os _))
      (fun W base args ds ps hval0 hA _ hL => by
        have hval : ∀ (j : Nat) t v, Tryz.f3.params[j]? = some t → args[j]? = some v → Value.okWide Tryz.prog W .any base t v := hval0
        have hA' : DataW.TrodAll enc Tryz.prog W 0 (fun _ => true) true Tryz.f3.params.toList args.toList ds ps := hA
        clear hval0 hA
        have hA := hA'
        clear hA'
        rw [Tryz.params3] at hA hval
        obtain ⟨v0, vs0, d0, ds0, p0, q0, ea, rfl, rfl, tr0, rest0⟩ := trodAll_cons hA
        obtain ⟨v1, vs1, d1, ds1, p1, q1, rfl, rfl, rfl, tr1, rest1⟩ := trodAll_cons rest0
        obtain ⟨rfl, rfl, rfl⟩ := trodAll_nil rest1
        obtain rfl : args = #[v0, v1] := by cases args; simp_all
        clear ea
        obtain ⟨cs_p, e_p, hl_p, hc_p⟩ := Frame.arg_agg Tryz.underlying24 (k := 8) (ks := [.str, .str, .str, .str, .int, .int, .int, .sl [.str]]) (by kernel_rfl) (hval 0 _ v0 rfl rfl) tr0
        subst e_p
        obtain ⟨c_p_call, c_p_kind, c_p_from, c_p_to, c_p_off, c_p_speed, c_p_height, c_p_route, rfl⟩ : ∃ c_p_call c_p_kind c_p_from c_p_to c_p_off c_p_speed c_p_height c_p_route, cs_p = [c_p_call, c_p_kind, c_p_from, c_p_to, c_p_off, c_p_speed, c_p_height, c_p_route] := by match cs_p, hl_p with | [x0, x1, x2, x3, x4, x5, x6, x7], _ => exact ⟨x0, x1, x2, x3, x4, x5, x6, x7, rfl⟩
        have o_p_call : Frame.Okc W (.str) c_p_call := hc_p 0 (by decide) (by simp)
        obtain ⟨p_call, e_p_call, w_p_call⟩ := o_p_call.str_inv; subst e_p_call
        have o_p_kind : Frame.Okc W (.str) c_p_kind := hc_p 1 (by decide) (by simp)
        obtain ⟨p_kind, e_p_kind, w_p_kind⟩ := o_p_kind.str_inv; subst e_p_kind
        have o_p_from : Frame.Okc W (.str) c_p_from := hc_p 2 (by decide) (by simp)
        obtain ⟨p_from, e_p_from, w_p_from⟩ := o_p_from.str_inv; subst e_p_from
        have o_p_to : Frame.Okc W (.str) c_p_to := hc_p 3 (by decide) (by simp)
        obtain ⟨p_to, e_p_to, w_p_to⟩ := o_p_to.str_inv; subst e_p_to
        have o_p_off : Frame.Okc W (.int) c_p_off := hc_p 4 (by decide) (by simp)
        obtain ⟨p_off, e_p_off, w_p_off⟩ := o_p_off.int_inv; subst e_p_off
        have o_p_speed : Frame.Okc W (.int) c_p_speed := hc_p 5 (by decide) (by simp)
        obtain ⟨p_speed, e_p_speed, w_p_speed⟩ := o_p_speed.int_inv; subst e_p_speed
        have o_p_height : Frame.Okc W (.int) c_p_height := hc_p 6 (by decide) (by simp)
        obtain ⟨p_height, e_p_height, w_p_height⟩ := o_p_height.int_inv; subst e_p_height
        have o_p_route : Frame.Okc W (.sl [.str]) c_p_route := hc_p 7 (by decide) (by simp)
        obtain ⟨cs_c, e_c, hl_c, hc_c⟩ := Frame.arg_agg Tryz.underlying28 (k := 8) (ks := [.sl [.str, .int, .int], .sl [.str, .sl [.str]]]) (by kernel_rfl) (hval 1 _ v1 rfl rfl) tr1
        subst e_c
        obtain ⟨c_c_fixes, c_c_airways, rfl⟩ : ∃ c_c_fixes c_c_airways, cs_c = [c_c_fixes, c_c_airways] := by match cs_c, hl_c with | [x0, x1], _ => exact ⟨x0, x1, rfl⟩
        have o_c_fixes : Frame.Okc W (.sl [.str, .int, .int]) c_c_fixes := hc_c 0 (by decide) (by simp)
        have o_c_airways : Frame.Okc W (.sl [.str, .sl [.str]]) c_c_airways := hc_c 1 (by decide) (by simp)
        exact walk p_call p_kind p_from p_to p_off p_speed p_height c_p_route c_c_fixes c_c_airways W hL w_p_call w_p_kind w_p_from w_p_to w_p_off w_p_speed w_p_height o_p_route o_c_fixes o_c_airways)

/-- The statement. -/
theorem row_holds : Rows.TopRouteSaid :=
  OpenClaim.holds_of_wide 3 Tryz.f3 rfl rfl rfl rfl rfl rfl rfl ⟨rfl, rfl, rfl, rfl, rfl⟩ rfl rfl rfl rfl rfl (by kernel_rfl) Tryz.func3 (by kernel_rfl)
    (of_decide_eq_true (by kernel_rfl)) (by unfold Func.isWrapper; first | (rw [if_pos (by decide +kernel)]; kernel_rfl) | (rw [if_neg (by decide +kernel)]; exact ⟨rfl, rfl⟩))
    (fun os started H enc _ => lifted os started H enc)
/-- The tied card. -/
theorem proved : Rows.TopRouteCardSaid :=
  Claim7.holds_tied_plain_at .later [] [.data, .data, .data] true (true, "d25a08a228b9c42783eb56dddd3b10595877f051f823b1cacb3780a8de87e6ac") false
    row_holds (fun _ h => by cases h) (by kernel_rfl) (fun _ h => by cases h) topRoute_row_tie rfl ⟨rfl, rfl⟩ (by kernel_rfl) rfl
    (fun f fn hf hfn => by
      obtain rfl : f = 3 := Option.some.inj ((show Tryz.prog.funcNamed "skyway/skywaytop.TopRoute" = some 3 by kernel_rfl).symm.trans hf) |>.symm
      obtain rfl : fn = Tryz.f3 := (Option.some.inj (Tryz.func3.symm.trans hfn)).symm
      exact ⟨by kernel_rfl, fun j t ht => by
        rw [Tryz.params3] at ht
        have hall : ∀ t ∈ [24, 28], Tryz.prog.wantsStandIn t = false := by
          intro t ht
          simp only [List.mem_cons, List.not_mem_nil, or_false] at ht
          rcases ht with rfl | rfl <;> kernel_rfl
        exact hall t (List.mem_iff_getElem?.2 ⟨j, by simpa using ht⟩)⟩)
    (by kernel_rfl)
#print axioms proved
end TopRoute
end Go.Proofs.YtmkglhoahdlogaaGreatDoor

