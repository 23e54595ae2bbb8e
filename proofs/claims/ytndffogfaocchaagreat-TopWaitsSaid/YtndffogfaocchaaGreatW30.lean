/-
  TopWaits answers true whatever it is given, and its arguments read afterwards as they read before. Conditions: none.
-/
import Derived.Test.YtndffogfaocchaaGreatW29
set_option linter.unusedVariables false
set_option linter.unusedSimpArgs false
set_option linter.unusedSectionVars false
namespace Go.Proofs.YtndffogfaocchaaGreat
open Go.ChangeShapes Go.WideShapes Go.ChangeAt Go.RowKit Go.Proofs.VL
theorem Tryz.own : ownKnob Tryz.prog.godebug = none := by kernel_rfl
theorem Tryz.laidOut : laidOutB Tryz.prog = true := by kernel_rfl
theorem Tryz.cells110 : Tryz.prog.cellsOf 110 = 4 := by kernel_rfl
theorem Tryz.cells119 : Tryz.prog.cellsOf 119 = 6 := by kernel_rfl
theorem Tryz.bytes110 : Tryz.prog.bytesOf 110 = 4 := by kernel_rfl
theorem Tryz.bytes119 : Tryz.prog.bytesOf 119 = 6 := by kernel_rfl
set_option maxRecDepth 100000 in
theorem topWaits_lifted (os : Os) (started : os.Started) (H : Type) (enc : TypeId × Value → H) :
    ReturnsInHanded {} Tryz.checked os 3 .any (Rows.topWaitsSpec.pre6 enc Tryz.prog Tryz.f3 Rows.topWaitsRow.domain false) (Rows.topWaitsSpec.post enc Tryz.prog Tryz.f3 false true false false) := by
  refine returnsInHanded_of_change_sized (C := Tryz.checked) Tryz.own started (by kernel_rfl) Tryz.func3
    (ChangeSpec.witness6 (enc := enc) (C := Tryz.checked) false ⟨#[], #[.slice none 0 0, .int .u32 0, .slice none 0 0, .int .u8 0, .int .u8 0], []⟩ 8 (by kernel_rfl) (by kernel_rfl) (by kernel_rfl) (by kernel_rfl)) ?_
  intro W base args ds gs before hval0 hW _ hsz0 _
  have hsz : (DataW.weightsEach Tryz.prog (Tryz.f3.params.toList ++ Rows.topWaitsSpec.plain.varTypes Tryz.prog) (ds ++ gs)).all (· ≤ reachBytes) = true := hsz0
  clear hsz0
  have hval : ∀ (j : Nat) t v, Tryz.f3.params[j]? = some t → args[j]? = some v → Value.okWide Tryz.prog W .any base t v := hval0
  have hW' := hW
  obtain ⟨p, q, hA0, hV, rfl, hfz, hnd⟩ := hW
  have hA : DataW.TrodAll enc Tryz.prog W 0 (fun _ => true) true Tryz.f3.params.toList args.toList ds p := hA0
  rw [Tryz.params3] at hA hval hsz
  obtain ⟨v0, vs0, d0, ds0, p0, q0, hargs, rfl, rfl, h0, r0⟩ := trodAll_cons hA
  obtain ⟨v1, vs1, d1, ds1, p1, q1, rfl, rfl, rfl, h1, r1⟩ := trodAll_cons r0
  obtain ⟨v2, vs2, d2, ds2, p2, q2, rfl, rfl, rfl, h2, r2⟩ := trodAll_cons r1
  obtain ⟨v3, vs3, d3, ds3, p3, q3, rfl, rfl, rfl, h3, r3⟩ := trodAll_cons r2
  obtain ⟨v4, vs4, d4, ds4, p4, q4, rfl, rfl, rfl, h4, r4⟩ := trodAll_cons r3
  obtain ⟨rfl, rfl, rfl⟩ := trodAll_nil r4
  obtain rfl : args = #[v0, v1, v2, v3, v4] := by cases args; simp_all
  obtain ⟨rfl, rfl⟩ := trodVars_none hV
  obtain ⟨a0, len0, cap0, rfl⟩ := okWide_slice Tryz.underlying22 (hval 0 22 v0 rfl rfl)
  obtain ⟨a2, len2, cap2, rfl⟩ := okWide_slice Tryz.underlying24 (hval 2 24 v2 rfl rfl)
  have k0 := h0
  have k2 := h2
  have lt0 : ∀ x ∈ p0, x.block < W.heap.size := by obtain ⟨m, hm⟩ := k0; exact DataW.trod_lt m _ _ _ hm
  have lt2 : ∀ x ∈ p2, x.block < W.heap.size := by obtain ⟨m, hm⟩ := k2; exact DataW.trod_lt m _ _ _ hm
  obtain ⟨a1, rfl, rfl, rfl, w1⟩ := open_int Tryz.underlying23 (hval 1 23 v1 rfl rfl) h1
  obtain ⟨a3, rfl, rfl, rfl, w3⟩ := open_int Tryz.underlying5 (hval 3 5 v3 rfl rfl) h3
  obtain ⟨a4, rfl, rfl, rfl, w4⟩ := open_int Tryz.underlying5 (hval 4 5 v4 rfl rfl) h4
  clear hA0 hval0
  obtain ⟨l, hl⟩ : ∃ l : List VL.Place, RepD W (oldC W) (.sl (l.map VL.Place.enc)) (.slice a0 len0 cap0) := by
    obtain ⟨fuel, hf⟩ := h0
    refine rep_slice VL.Place.enc 4 Tryz.underlying22 Tryz.cells110 (by decide) place_of (by simpa [Value.cells] using hf) (fun els sp he => ?_)
    simp only at he
    subst he
    have := sized_slice hsz (j := 0) (t := 22) (e := 110) rfl rfl Tryz.underlying22
    rw [Tryz.bytes110] at this
    simp only [reachBytes] at this
    simp only [lim]
    omega
  obtain ⟨l2, hl2⟩ : ∃ l : List VL.Item, RepD W (oldC W) (.sl (l.map VL.Item.enc)) (.slice a2 len2 cap2) := by
    obtain ⟨fuel, hf⟩ := h2
    refine rep_slice VL.Item.enc 6 Tryz.underlying24 Tryz.cells119 (by decide) item_of (by simpa [Value.cells] using hf) (fun els sp he => ?_)
    simp only at he
    subst he
    have := sized_slice hsz (j := 2) (t := 24) (e := 119) rfl rfl Tryz.underlying24
    rw [Tryz.bytes119] at this
    simp only [reachBytes] at this
    simp only [lim]
    omega
  have b3 := bounds_u8 w3
  have b4 := bounds_u8 w4
  obtain ⟨n3, rfl⟩ : ∃ n : Nat, a3 = n := ⟨a3.toNat, by omega⟩
  obtain ⟨n4, rfl⟩ : ∃ n : Nat, a4 = n := ⟨a4.toNat, by omega⟩
  have c3 := VL.f3 Wide.wide rfl l a1 l2 n3 n4 (by omega) (by omega)
  have walk := c3.bool (w := W) (vals := #[.slice a0 len0 cap0, .int .u32 a1, .slice a2 len2 cap2, .int .u8 n3, .int .u8 n4]) rfl (fun i v hv => by
    match i, hv with
    | 0, hv => cases hv; exact ⟨_, rfl, hl⟩
    | 1, hv => cases hv; exact ⟨_, rfl, .sc _ rfl⟩
    | 2, hv => cases hv; exact ⟨_, rfl, hl2⟩
    | 3, hv => cases hv; exact ⟨_, rfl, .sc _ rfl⟩
    | 4, hv => cases hv; exact ⟨_, rfl, .sc _ rfl⟩)
  refine walk.mono fun e W' ⟨he, bel⟩ => ?_
  subst he
  exact ⟨_, rfl, _, _, _, [], _, [], hW', trodAll_mk1 (shut_bool Tryz.underlying4 _), (trodAll_cons_mk (Below.trod Tryz.laidOut (by kernel_rfl) (of_decide_eq_true (by kernel_rfl)) k0 bel lt0) (trodAll_cons_mk (shut_int Tryz.underlying23 w1) (trodAll_cons_mk (Below.trod Tryz.laidOut (by kernel_rfl) (of_decide_eq_true (by kernel_rfl)) k2 bel lt2) (trodAll_cons_mk (shut_int Tryz.underlying5 w3) (trodAll_cons_mk (shut_int Tryz.underlying5 w4) trodAll_mk0))))), rfl, bel.frame _, fun h => by cases h⟩
theorem topWaits_holds : Rows.TopWaitsSaid :=
  OpenClaim.holds_of_wide 3 Tryz.f3 rfl rfl rfl rfl rfl rfl rfl ⟨rfl, rfl, rfl, rfl, rfl⟩ rfl rfl rfl rfl rfl (by kernel_rfl) Tryz.func3 (by kernel_rfl)
    (of_decide_eq_true (by kernel_rfl)) (by unfold Func.isWrapper; first | (rw [if_pos (by decide +kernel)]; kernel_rfl) | (rw [if_neg (by decide +kernel)]; exact ⟨rfl, rfl⟩))
    (fun os started H enc _ => topWaits_lifted os started H enc)
end Go.Proofs.YtndffogfaocchaaGreat
