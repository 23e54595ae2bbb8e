import Derived.Test.YtndffogfaocchaaGreatW08
import Derived.Test.YtndffogfaocchaaGreatW17
set_option linter.unusedVariables false
set_option linter.unusedSimpArgs false
set_option linter.unusedSectionVars false
namespace Go.Proofs.VL
open Go Go.RowKit
variable {F : Fence}
def fitsAt (s : Ship) (boxes : List Box) (l : List Stowed) (c : Column) (col : Int) : Bool :=
  decide (c.c4 ≤ 0) || (decide (heightOf boxes 1 col l ≤ c.c4) && decide (heightOf boxes 2 col l ≤ c.c4))
theorem f102 (hF : Wide F) (hro : F.round = none) (s : Ship) (boxes : List Box) (l : List Stowed) (i : Nat) (c : Column) (hb : boxes.length ≤ 1000) (hl : l.length ≤ 1000) (hc : s.cols[i]? = some c) :
    FnV Tryz.prog F 102 [Vd s.enc, Vs (boxes.map Box.enc), Vs (l.map Stowed.enc), Iv64 i] (Vb (fitsAt s boxes l c i)) := by
  refine FnV.of_AW hF hro hτ Tryz.func102 rfl (by decide) rfl (by simp [Tryz.f102]) ?_
  (repeat' first | apply Wq | refine Ws hF hτ rfl ?_ | apply Wb | apply Wl | apply Wk | apply We | apply Wc | apply Wd | refine Wt rfl rfl ?_ | refine Wf rfl rfl ?_ | refine Wi rfl rfl (fun h => ?_) (fun h => ?_) | refine Wx hF hτ rfl rfl rfl rfl rfl rfl rfl rfl (fun h => ?_) (fun h => ?_) | apply Wn)
  refine AL.opM (OpM.indexD hF rfl (hτ _ _ rfl) rfl (hτ _ _ rfl) rfl (i := i) rfl ( get_enc Column.enc hc) rfl rfl rfl) rfl rfl ?_
  refine Wv hF hτ rfl ?_
  (repeat' first | apply Wq | refine Ws hF hτ rfl ?_ | apply Wb | apply Wl | apply Wk | apply We | apply Wc | apply Wd | refine Wt rfl rfl ?_ | refine Wf rfl rfl ?_ | refine Wi rfl rfl (fun h => ?_) (fun h => ?_) | refine Wx hF hτ rfl rfl rfl rfl rfl rfl rfl rfl (fun h => ?_) (fun h => ?_) | apply Wn)
  · refine AW.ret ⟨.inr rfl, congrArg (fun z => some (Vb z)) ?_⟩
    simp [fitsAt, *]
  · refine AL.opMT (OpM.call hF rfl rfl rfl rfl (f180 hF hro boxes l i 1 hb hl) rfl rfl rfl) rfl rfl rfl rfl rfl rfl ?_
    refine Wv hF hτ rfl ?_
    (repeat' first | apply Wq | refine Ws hF hτ rfl ?_ | apply Wb | apply Wl | apply Wk | apply We | apply Wc | apply Wd | refine Wt rfl rfl ?_ | refine Wf rfl rfl ?_ | refine Wi rfl rfl (fun h => ?_) (fun h => ?_) | refine Wx hF hτ rfl rfl rfl rfl rfl rfl rfl rfl (fun h => ?_) (fun h => ?_) | apply Wn)
    · refine AL.opMT (OpM.call hF rfl rfl rfl rfl (f180 hF hro boxes l i 2 hb hl) rfl rfl rfl) rfl rfl rfl rfl rfl rfl ?_
      refine Wv hF hτ rfl ?_
      (repeat' first | apply Wq | refine Ws hF hτ rfl ?_ | apply Wb | apply Wl | apply Wk | apply We | apply Wc | apply Wd | refine Wt rfl rfl ?_ | refine Wf rfl rfl ?_ | refine Wi rfl rfl (fun h => ?_) (fun h => ?_) | refine Wx hF hτ rfl rfl rfl rfl rfl rfl rfl rfl (fun h => ?_) (fun h => ?_) | apply Wn)
      refine AW.ret ⟨.inr rfl, congrArg (fun z => some (Vb z)) ?_⟩
      simp only [fitsAt, *]; rfl
    · refine AW.ret ⟨.inr rfl, congrArg (fun z => some (Vb z)) ?_⟩
      simp only [fitsAt, *]; rfl
theorem f234 (hF : Wide F) (hro : F.round = none) (r : Int) (c : Column) : FnV Tryz.prog F 234 [Iv64 r, .rp c.enc 0] (Vb (r == c.row)) := by
  refine FnV.of_AW hF hro hτ Tryz.func234 rfl (by decide) rfl (by simp [Tryz.f234]) ?_
  (repeat' first | apply Wq | refine Ws hF hτ rfl ?_ | apply Wb | apply Wl | apply Wk | apply We | apply Wc | apply Wd | refine Wt rfl rfl ?_ | refine Wf rfl rfl ?_ | refine Wi rfl rfl (fun h => ?_) (fun h => ?_) | refine Wx hF hτ rfl rfl rfl rfl rfl rfl rfl rfl (fun h => ?_) (fun h => ?_) | apply Wn)
  refine AW.ret ⟨.inr rfl, congrArg (fun z => some (Vb z)) ?_⟩
  rfl
theorem f233 (hF : Wide F) (hro : F.round = none) (l : List Int) (p : Int → Bool) (hl : l.length ≤ 1000) :
    FnV Tryz.prog F 233 [Vs (ints l), .raw (PFn Tryz.prog F (PredS (fun n : Int => Iv64 n) p))] (.row true 3 (ints (placesOf p 0 l))) := by
  refine FnV.of_AW hF hro hτ Tryz.func233 rfl (by decide) rfl (by simp [Tryz.f233]) ?_
  (repeat' first | apply Wq | refine Ws hF hτ rfl ?_ | apply Wb | apply Wl | apply Wk | apply We | apply Wc | apply Wd | refine Wt rfl rfl ?_ | refine Wf rfl rfl ?_ | refine Wi rfl rfl (fun h => ?_) (fun h => ?_) | refine Wx hF hτ rfl rfl rfl rfl rfl rfl rfl rfl (fun h => ?_) (fun h => ?_) | apply Wn)
  refine AW.range hF rfl rfl rfl rfl rfl rfl rfl rfl rfl (ints l).length (by simp [lim, ints]; omega) (fun k => [(.s 8, Vs (ints l)), (.s 1, .raw (PFn Tryz.prog F (PredS (fun n : Int => Iv64 n) p))), (.s 5, .row true 3 (ints (placesOf p 0 (l.take k))))]) ?_ ?_ (fun k hk => ?_) ?_
  · exact fun k => rfl
  · (repeat' first | exact Sub.nil | refine Sub.put rfl ?_ | refine Sub.put ?_ ?_)
  · obtain ⟨x, hx⟩ := get_ex hk
    have hlen := placesOf_len p (l.take k) 0
    have hk' : k < l.length := by simpa [ints] using hk
    simp only [List.length_take] at hlen
    (repeat' first | apply Wq | refine Ws hF hτ rfl ?_ | apply Wb | apply Wl | apply Wk | apply We | apply Wc | apply Wd | refine Wt rfl rfl ?_ | refine Wf rfl rfl ?_ | refine Wi rfl rfl (fun h => ?_) (fun h => ?_) | refine Wx hF hτ rfl rfl rfl rfl rfl rfl rfl rfl (fun h => ?_) (fun h => ?_) | apply Wn)
    refine AL.opM (OpM.indexD hF rfl (hτ _ _ rfl) rfl (hτ _ _ rfl) rfl (i := k) rfl ( get_enc (fun n => [di n]) hx) rfl rfl rfl) rfl rfl ?_
    refine Wv hF hτ rfl ?_
    (repeat' first | apply Wq | refine Ws hF hτ rfl ?_ | apply Wb | apply Wl | apply Wk | apply We | apply Wc | apply Wd | refine Wt rfl rfl ?_ | refine Wf rfl rfl ?_ | refine Wi rfl rfl (fun h => ?_) (fun h => ?_) | refine Wx hF hτ rfl rfl rfl rfl rfl rfl rfl rfl (fun h => ?_) (fun h => ?_) | apply Wn)
    refine AL.opM (OpM.callRaw hF rfl rfl rfl rfl (⟨x, rfl, rfl⟩) rfl rfl rfl) rfl rfl ?_
    refine Wv hF hτ rfl ?_
    (repeat' first | apply Wq | refine Ws hF hτ rfl ?_ | apply Wb | apply Wl | apply Wk | apply We | apply Wc | apply Wd | refine Wt rfl rfl ?_ | refine Wf rfl rfl ?_ | refine Wi rfl rfl (fun h => ?_) (fun h => ?_) | refine Wx hF hτ rfl rfl rfl rfl rfl rfl rfl rfl (fun h => ?_) (fun h => ?_) | apply Wn)
    · refine AL.opM (OpM.buildSlice hF rfl (hτ _ _ rfl) rfl (hτ _ _ rfl) rfl rfl rfl (by decide) (by decide) rfl rfl) rfl rfl ?_
      refine AL.op rfl (OpTo.append hF rfl rfl rfl rfl (hτ _ _ rfl) rfl (hτ _ _ rfl) rfl rfl rfl rfl (by intro cs h; cases h with | head => rfl | tail _ h => cases h) (by simp [Base.xs, ints, chunks, lim]; omega) (by simp [Base.xs, ints, chunks, lim]; omega) rfl rfl rfl) ?_
      refine Wv hF hτ rfl ?_
      (repeat' first | apply Wq | refine Ws hF hτ rfl ?_ | apply Wb | apply Wl | apply Wk | apply We | apply Wc | apply Wd | refine Wt rfl rfl ?_ | refine Wf rfl rfl ?_ | refine Wi rfl rfl (fun h => ?_) (fun h => ?_) | refine Wx hF hτ rfl rfl rfl rfl rfl rfl rfl rfl (fun h => ?_) (fun h => ?_) | apply Wn)
      (repeat' first | exact Sub.nil | refine Sub.put rfl ?_ | refine Sub.put ?_ ?_)
      refine (congrArg (fun z => some (V.row true 3 z)) ?_)
      simp [take_snoc hx, placesOf_snoc, h, ints, chunks, Nat.min_eq_left (Nat.le_of_lt hk')]
    · (repeat' first | exact Sub.nil | refine Sub.put rfl ?_ | refine Sub.put ?_ ?_)
      refine (congrArg (fun z => some (V.row true 3 z)) ?_)
      simp [take_snoc hx, placesOf_snoc, h, ints]
  · (repeat' first | apply Wq | refine Ws hF hτ rfl ?_ | apply Wb | apply Wl | apply Wk | apply We | apply Wc | apply Wd | refine Wt rfl rfl ?_ | refine Wf rfl rfl ?_ | refine Wi rfl rfl (fun h => ?_) (fun h => ?_) | refine Wx hF hτ rfl rfl rfl rfl rfl rfl rfl rfl (fun h => ?_) (fun h => ?_) | apply Wn)
    refine AW.ret ⟨.inr rfl, ?_⟩
    refine (congrArg (fun z => some (V.row true 3 z)) ?_)
    simp [ints]
def Cover.covers (x : Cover) (c : Column) : Bool := x.bay == c.bay && x.rows.any (fun r => r == c.row)
theorem placesOf_any {α : Type} (p : α → Bool) : ∀ (l : List α) (k : Nat), decide (0 < (placesOf p k l).length) = l.any p := by
  intro l
  induction l with
  | nil => intro k; rfl
  | cons x l ih =>
    intro k
    simp only [placesOf, List.any_cons]
    by_cases hp : p x = true
    · simp [hp]
    · simp only [hp, Bool.false_eq_true, if_false, Bool.false_or]
      exact ih (k + 1)
theorem f183 (hF : Wide F) (hro : F.round = none) (x : Cover) (c : Column) (hl : x.rows.length ≤ 1000) : FnV Tryz.prog F 183 [Vd x.enc, Vd c.enc] (Vb (x.covers c)) := by
  refine FnV.of_AW hF hro hτ Tryz.func183 rfl (by decide) rfl (by simp [Tryz.f183]) ?_
  (repeat' first | apply Wq | refine Ws hF hτ rfl ?_ | apply Wb | apply Wl | apply Wk | apply We | apply Wc | apply Wd | refine Wt rfl rfl ?_ | refine Wf rfl rfl ?_ | refine Wi rfl rfl (fun h => ?_) (fun h => ?_) | refine Wx hF hτ rfl rfl rfl rfl rfl rfl rfl rfl (fun h => ?_) (fun h => ?_) | apply Wn)
  · refine AL.ent (Ent.frzs (ls := [.s 3]) rfl) ?_
    refine AL.opMT (OpM.call hF rfl rfl rfl rfl ((f233 hF hro x.rows (fun r => r == c.row) hl).conseq (vs' := [Vs (ints x.rows), .fn 234 [.rp c.enc 0]]) ⟨.refl _, .fn (f234 hF hro 0 c).callable rfl ?_, trivial⟩) rfl rfl rfl) rfl rfl rfl rfl rfl rfl ?_
    · rintro vs r ⟨n, rfl, rfl⟩
      exact f234 hF hro n c
    refine Wv hF hτ rfl ?_
    (repeat' first | apply Wq | refine Ws hF hτ rfl ?_ | apply Wb | apply Wl | apply Wk | apply We | apply Wc | apply Wd | refine Wt rfl rfl ?_ | refine Wf rfl rfl ?_ | refine Wi rfl rfl (fun h => ?_) (fun h => ?_) | refine Wx hF hτ rfl rfl rfl rfl rfl rfl rfl rfl (fun h => ?_) (fun h => ?_) | apply Wn)
    refine AW.ret ⟨.inr rfl, congrArg (fun z => some (Vb z)) ?_⟩
    rw [Cover.covers, h, Bool.true_and, ← placesOf_any _ x.rows 0]
    simp [ints]
  · refine AW.ret ⟨.inr rfl, congrArg (fun z => some (Vb z)) ?_⟩
    rw [Cover.covers, h, Bool.false_and]
theorem f182 (hF : Wide F) (hro : F.round = none) (s : Ship) (x : Cover) (i : Nat) (c : Column) (hc : s.cols[i]? = some c) (hl : x.rows.length ≤ 1000) : FnV Tryz.prog F 182 [Vd x.enc, .rp s.enc 0, .rp [di i] 0] (Vb (x.covers c)) := by
  refine FnV.of_AW hF hro hτ Tryz.func182 rfl (by decide) rfl (by simp [Tryz.f182]) ?_
  (repeat' first | apply Wq | refine Ws hF hτ rfl ?_ | apply Wb | apply Wl | apply Wk | apply We | apply Wn)
  refine AW.forget (.s 4) rfl ?_
  refine AW.draw hmix (AD.start [] [0, 1, 2, 3, 4, 5, 6, 7] ?_)
  refine AD.vals hF hτ rfl ?_
  refine AD.op (o := _) rfl rfl rfl (OpM.indexD hF rfl (hτ _ _ rfl) rfl (hτ _ _ rfl) rfl (i := i) rfl (get_enc Column.enc hc) rfl rfl rfl) ?_
  refine AD.vals hF hτ rfl ?_
  refine AD.op (o := _) rfl rfl rfl (OpM.call hF rfl rfl rfl rfl (f183 hF hro x c hl) rfl rfl rfl) ?_
  refine AD.vals hF hτ rfl ?_
  refine AD.fin (by kernel_rfl) rfl rfl (AA.done (by kernel_rfl) ?_)
  refine AW.ret ⟨.inr rfl, congrArg (fun z => some (Vb z)) ?_⟩
  rfl
theorem f181 (hF : Wide F) (hro : F.round = none) (l : List Cover) (p : Cover → Bool) (hl : l.length ≤ 1000) :
    FnV Tryz.prog F 181 [Vs (l.map Cover.enc), .raw (PFn Tryz.prog F (fun vs r => ∃ x ∈ l, vs = [Vd x.enc] ∧ r = Vb (p x)))] (.row true 3 (ints (placesOf p 0 l))) := by
  refine FnV.of_AW hF hro hτ Tryz.func181 rfl (by decide) rfl (by simp [Tryz.f181]) ?_
  (repeat' first | apply Wq | refine Ws hF hτ rfl ?_ | apply Wb | apply Wl | apply Wk | apply We | apply Wc | apply Wd | refine Wt rfl rfl ?_ | refine Wf rfl rfl ?_ | refine Wi rfl rfl (fun h => ?_) (fun h => ?_) | refine Wx hF hτ rfl rfl rfl rfl rfl rfl rfl rfl (fun h => ?_) (fun h => ?_) | apply Wn)
  refine AW.range hF rfl rfl rfl rfl rfl rfl rfl rfl rfl (l.map Cover.enc).length (by simp [lim]; omega) (fun k => [(.s 8, Vs (l.map Cover.enc)), (.s 1, .raw (PFn Tryz.prog F (fun vs r => ∃ x ∈ l, vs = [Vd x.enc] ∧ r = Vb (p x)))), (.s 5, .row true 3 (ints (placesOf p 0 (l.take k))))]) ?_ ?_ (fun k hk => ?_) ?_
  · exact fun k => rfl
  · (repeat' first | exact Sub.nil | refine Sub.put rfl ?_ | refine Sub.put ?_ ?_)
  · obtain ⟨x, hx⟩ := get_ex hk
    have hlen := placesOf_len p (l.take k) 0
    have hk' : k < l.length := by simpa [ints] using hk
    simp only [List.length_take] at hlen
    (repeat' first | apply Wq | refine Ws hF hτ rfl ?_ | apply Wb | apply Wl | apply Wk | apply We | apply Wc | apply Wd | refine Wt rfl rfl ?_ | refine Wf rfl rfl ?_ | refine Wi rfl rfl (fun h => ?_) (fun h => ?_) | refine Wx hF hτ rfl rfl rfl rfl rfl rfl rfl rfl (fun h => ?_) (fun h => ?_) | apply Wn)
    refine AL.opM (OpM.indexD hF rfl (hτ _ _ rfl) rfl (hτ _ _ rfl) rfl (i := k) rfl ( get_enc Cover.enc hx) rfl rfl rfl) rfl rfl ?_
    refine Wv hF hτ rfl ?_
    (repeat' first | apply Wq | refine Ws hF hτ rfl ?_ | apply Wb | apply Wl | apply Wk | apply We | apply Wc | apply Wd | refine Wt rfl rfl ?_ | refine Wf rfl rfl ?_ | refine Wi rfl rfl (fun h => ?_) (fun h => ?_) | refine Wx hF hτ rfl rfl rfl rfl rfl rfl rfl rfl (fun h => ?_) (fun h => ?_) | apply Wn)
    refine AL.opM (OpM.callRaw hF rfl rfl rfl rfl (⟨x, List.mem_of_getElem? hx, rfl, rfl⟩) rfl rfl rfl) rfl rfl ?_
    refine Wv hF hτ rfl ?_
    (repeat' first | apply Wq | refine Ws hF hτ rfl ?_ | apply Wb | apply Wl | apply Wk | apply We | apply Wc | apply Wd | refine Wt rfl rfl ?_ | refine Wf rfl rfl ?_ | refine Wi rfl rfl (fun h => ?_) (fun h => ?_) | refine Wx hF hτ rfl rfl rfl rfl rfl rfl rfl rfl (fun h => ?_) (fun h => ?_) | apply Wn)
    · refine AL.opM (OpM.buildSlice hF rfl (hτ _ _ rfl) rfl (hτ _ _ rfl) rfl rfl rfl (by decide) (by decide) rfl rfl) rfl rfl ?_
      refine AL.op rfl (OpTo.append hF rfl rfl rfl rfl (hτ _ _ rfl) rfl (hτ _ _ rfl) rfl rfl rfl rfl (by intro cs h; cases h with | head => rfl | tail _ h => cases h) (by simp [Base.xs, ints, chunks, lim]; omega) (by simp [Base.xs, ints, chunks, lim]; omega) rfl rfl rfl) ?_
      refine Wv hF hτ rfl ?_
      (repeat' first | apply Wq | refine Ws hF hτ rfl ?_ | apply Wb | apply Wl | apply Wk | apply We | apply Wc | apply Wd | refine Wt rfl rfl ?_ | refine Wf rfl rfl ?_ | refine Wi rfl rfl (fun h => ?_) (fun h => ?_) | refine Wx hF hτ rfl rfl rfl rfl rfl rfl rfl rfl (fun h => ?_) (fun h => ?_) | apply Wn)
      (repeat' first | exact Sub.nil | refine Sub.put rfl ?_ | refine Sub.put ?_ ?_)
      refine (congrArg (fun z => some (V.row true 3 z)) ?_)
      simp [take_snoc hx, placesOf_snoc, h, ints, chunks, Nat.min_eq_left (Nat.le_of_lt hk')]
    · (repeat' first | exact Sub.nil | refine Sub.put rfl ?_ | refine Sub.put ?_ ?_)
      refine (congrArg (fun z => some (V.row true 3 z)) ?_)
      simp [take_snoc hx, placesOf_snoc, h, ints]
  · (repeat' first | apply Wq | refine Ws hF hτ rfl ?_ | apply Wb | apply Wl | apply Wk | apply We | apply Wc | apply Wd | refine Wt rfl rfl ?_ | refine Wf rfl rfl ?_ | refine Wi rfl rfl (fun h => ?_) (fun h => ?_) | refine Wx hF hτ rfl rfl rfl rfl rfl rfl rfl rfl (fun h => ?_) (fun h => ?_) | apply Wn)
    refine AW.ret ⟨.inr rfl, ?_⟩
    refine (congrArg (fun z => some (V.row true 3 z)) ?_)
    simp [ints]
def coverOf (s : Ship) (c : Column) : Int := match placesOf (fun x : Cover => x.covers c) 0 s.covers with | [] => -1 | k :: _ => k
structure Ship.small (s : Ship) : Prop where
  cols : s.cols.length ≤ 1000
  covers : s.covers.length ≤ 1000
  rows : ∀ x ∈ s.covers, x.rows.length ≤ 1000
theorem f107 (hF : Wide F) (hro : F.round = none) (s : Ship) (i : Nat) (c : Column) (hc : s.cols[i]? = some c) (hs : s.small) : FnV Tryz.prog F 107 [Vd s.enc, Iv64 i] (Iv64 (coverOf s c)) := by
  have hi : i < s.cols.length := (List.getElem?_eq_some_iff.1 hc).1
  refine FnV.of_AW hF hro hτ Tryz.func107 rfl (by decide) rfl (by simp [Tryz.f107]) ?_
  (repeat' first | apply Wq | refine Ws hF hτ rfl ?_ | apply Wb | apply Wl | apply Wk | apply We | apply Wc | apply Wd | refine Wt rfl rfl ?_ | refine Wf rfl rfl ?_ | refine Wi rfl rfl (fun h => ?_) (fun h => ?_) | refine Wx hF hτ rfl rfl rfl rfl rfl rfl rfl rfl (fun h => ?_) (fun h => ?_) | apply Wn)
  · exact absurd h (by simp)
  · exfalso
    rename_i h1
    simp at h; omega
  · refine AL.ent (Ent.frzs (ls := [.s 2, .s 3]) rfl) ?_
    refine AL.opM (OpM.call hF rfl rfl rfl rfl ((f181 hF hro s.covers (fun x => x.covers c) hs.covers).conseq (vs' := [Vs (s.covers.map Cover.enc), .fn 182 [.rp s.enc 0, .rp [di i] 0]]) ⟨.refl _, .fn (f182 hF hro s ⟨0, []⟩ i c hc (by simp)).callable rfl ?_, trivial⟩) rfl rfl rfl) rfl rfl ?_
    · rintro vs r ⟨x, hx, rfl, rfl⟩
      exact f182 hF hro s x i c hc (hs.rows x hx)
    refine Wv hF hτ rfl ?_
    (repeat' first | apply Wq | refine Ws hF hτ rfl ?_ | apply Wb | apply Wl | apply Wk | apply We | apply Wc | apply Wd | refine Wt rfl rfl ?_ | refine Wf rfl rfl ?_ | refine Wi rfl rfl (fun h => ?_) (fun h => ?_) | refine Wx hF hτ rfl rfl rfl rfl rfl rfl rfl rfl (fun h => ?_) (fun h => ?_) | apply Wn)
    · refine AW.ret ⟨.inr rfl, congrArg (fun z => some (Iv64 z)) ?_⟩
      have hp : placesOf (fun x : Cover => x.covers c) 0 s.covers = [] := by simpa [ints] using h
      rw [coverOf, hp]
    · obtain ⟨k, l, hp⟩ : ∃ k l, placesOf (fun x : Cover => x.covers c) 0 s.covers = k :: l := by
        cases hp : placesOf (fun x : Cover => x.covers c) 0 s.covers with
        | nil => simp [hp, ints] at h
        | cons k l => exact ⟨k, l, rfl⟩
      refine AL.ent (Ent.frzs (ls := [.s 5]) rfl) ?_
      refine AL.opM (OpM.indexD hF rfl (hτ _ _ rfl) rfl (hτ _ _ rfl) rfl (i := 0) (cs := [di k]) rfl (by simp [hp, ints]) rfl rfl rfl) rfl rfl ?_
      refine Wv hF hτ rfl (Wn ?_)
      refine AW.ret ⟨.inr rfl, congrArg (fun z => some (Iv64 z)) ?_⟩
      rw [coverOf, hp]
end Go.Proofs.VL
namespace Go.Proofs.VL
open Go Go.RowKit
variable {F : Fence}
theorem all_drop {α : Type} (p : α → Bool) {l : List α} {k : Nat} {x : α} (hx : l[k]? = some x) : (l.drop k).all p = (p x && (l.drop (k + 1)).all p) := by
  obtain ⟨h1, e1⟩ := List.getElem?_eq_some_iff.1 hx
  rw [List.drop_eq_getElem_cons h1, e1]; rfl
theorem any_drop {α : Type} (p : α → Bool) {l : List α} {k : Nat} {x : α} (hx : l[k]? = some x) : (l.drop k).any p = (p x || (l.drop (k + 1)).any p) := by
  obtain ⟨h1, e1⟩ := List.getElem?_eq_some_iff.1 hx
  rw [List.drop_eq_getElem_cons h1, e1]; rfl
structure Span where
  n : Int
  low : Int
  high : Int
def Span.enc (x : Span) : List D := [di x.n, di x.low, di x.high]
def Span.in_ (x : Span) : Bool := !(decide (x.n < x.low) || decide (x.high < x.n))
theorem f172 (hF : Wide F) (hro : F.round = none) (l : List Span) (hl : l.length ≤ 1000) : FnV Tryz.prog F 172 [Vs (l.map Span.enc)] (Vb (l.all Span.in_)) := by
  refine FnV.of_AW hF hro hτ Tryz.func172 rfl (by decide) rfl (by simp [Tryz.f172]) ?_
  (repeat' first | apply Wq | refine Ws hF hτ rfl ?_ | apply Wb | apply Wl | apply Wk | apply We | apply Wc | apply Wd | refine Wt rfl rfl ?_ | refine Wf rfl rfl ?_ | refine Wi rfl rfl (fun h => ?_) (fun h => ?_) | refine Wx hF hτ rfl rfl rfl rfl rfl rfl rfl rfl (fun h => ?_) (fun h => ?_) | apply Wn)
  refine AW.rangeJ hF rfl rfl rfl rfl rfl rfl rfl rfl rfl (l.map Span.enc).length (by simp [lim]; omega) (fun k => [(.s 5, Vs (l.map Span.enc))]) (fun k => l.all Span.in_ = (l.drop k).all Span.in_) rfl ?_ ?_ (fun k hk hJ => ?_) (fun hJ => ?_)
  · exact fun k => rfl
  · (repeat' first | exact Sub.nil | refine Sub.put rfl ?_ | refine Sub.put ?_ ?_)
  · obtain ⟨x, hx⟩ := get_ex hk
    rw [all_drop _ hx] at hJ
    (repeat' first | apply Wq | refine Ws hF hτ rfl ?_ | apply Wb | apply Wl | apply Wk | apply We | apply Wc | apply Wd | refine Wt rfl rfl ?_ | refine Wf rfl rfl ?_ | refine Wi rfl rfl (fun h => ?_) (fun h => ?_) | refine Wx hF hτ rfl rfl rfl rfl rfl rfl rfl rfl (fun h => ?_) (fun h => ?_) | apply Wn)
    refine AL.opM (OpM.indexD hF rfl (hτ _ _ rfl) rfl (hτ _ _ rfl) rfl (i := k) rfl ( get_enc Span.enc hx) rfl rfl rfl) rfl rfl ?_
    refine Wv hF hτ rfl ?_
    (repeat' first | apply Wq | refine Ws hF hτ rfl ?_ | apply Wb | apply Wl | apply Wk | apply We | apply Wc | apply Wd | refine Wt rfl rfl ?_ | refine Wf rfl rfl ?_ | refine Wi rfl rfl (fun h => ?_) (fun h => ?_) | refine Wx hF hτ rfl rfl rfl rfl rfl rfl rfl rfl (fun h => ?_) (fun h => ?_) | apply Wn)
    · refine AW.ret ⟨.inr rfl, congrArg (fun z => some (Vb z)) ?_⟩
      rw [hJ]; simp [Span.in_, *]
    · refine AW.ret ⟨.inr rfl, congrArg (fun z => some (Vb z)) ?_⟩
      rw [hJ]; simp [Span.in_, *]
    · refine ⟨?_, by rw [hJ]; simp [Span.in_, *]⟩
      (repeat' first | exact Sub.nil | refine Sub.put rfl ?_ | refine Sub.put ?_ ?_)
  · (repeat' first | apply Wq | refine Ws hF hτ rfl ?_ | apply Wb | apply Wl | apply Wk | apply We | apply Wc | apply Wd | refine Wt rfl rfl ?_ | refine Wf rfl rfl ?_ | refine Wi rfl rfl (fun h => ?_) (fun h => ?_) | refine Wx hF hτ rfl rfl rfl rfl rfl rfl rfl rfl (fun h => ?_) (fun h => ?_) | apply Wn)
    refine AW.ret ⟨.inr rfl, congrArg (fun z => some (Vb z)) ?_⟩
    rw [hJ, List.drop_eq_nil_of_le (by simp)]
    rfl
theorem f94 (hF : Wide F) (hro : F.round = none) (l : List Stowed) (id : Int) (hl : l.length ≤ 1000) : FnV Tryz.prog F 94 [Vs (l.map Stowed.enc), Iv64 id] (Vb (l.any (fun x => x.box == id))) := by
  refine FnV.of_AW hF hro hτ Tryz.func94 rfl (by decide) rfl (by simp [Tryz.f94]) ?_
  (repeat' first | apply Wq | refine Ws hF hτ rfl ?_ | apply Wb | apply Wl | apply Wk | apply We | apply Wc | apply Wd | refine Wt rfl rfl ?_ | refine Wf rfl rfl ?_ | refine Wi rfl rfl (fun h => ?_) (fun h => ?_) | refine Wx hF hτ rfl rfl rfl rfl rfl rfl rfl rfl (fun h => ?_) (fun h => ?_) | apply Wn)
  refine AW.rangeJ hF rfl rfl rfl rfl rfl rfl rfl rfl rfl (l.map Stowed.enc).length (by simp [lim]; omega) (fun k => [(.s 7, Vs (l.map Stowed.enc)), (.s 1, Iv64 id)]) (fun k => l.any (fun x => x.box == id) = (l.drop k).any (fun x => x.box == id)) rfl ?_ ?_ (fun k hk hJ => ?_) (fun hJ => ?_)
  · exact fun k => rfl
  · (repeat' first | exact Sub.nil | refine Sub.put rfl ?_ | refine Sub.put ?_ ?_)
  · obtain ⟨x, hx⟩ := get_ex hk
    rw [any_drop _ hx] at hJ
    (repeat' first | apply Wq | refine Ws hF hτ rfl ?_ | apply Wb | apply Wl | apply Wk | apply We | apply Wc | apply Wd | refine Wt rfl rfl ?_ | refine Wf rfl rfl ?_ | refine Wi rfl rfl (fun h => ?_) (fun h => ?_) | refine Wx hF hτ rfl rfl rfl rfl rfl rfl rfl rfl (fun h => ?_) (fun h => ?_) | apply Wn)
    refine AL.opM (OpM.indexD hF rfl (hτ _ _ rfl) rfl (hτ _ _ rfl) rfl (i := k) rfl ( get_enc Stowed.enc hx) rfl rfl rfl) rfl rfl ?_
    refine Wv hF hτ rfl ?_
    (repeat' first | apply Wq | refine Ws hF hτ rfl ?_ | apply Wb | apply Wl | apply Wk | apply We | apply Wc | apply Wd | refine Wt rfl rfl ?_ | refine Wf rfl rfl ?_ | refine Wi rfl rfl (fun h => ?_) (fun h => ?_) | refine Wx hF hτ rfl rfl rfl rfl rfl rfl rfl rfl (fun h => ?_) (fun h => ?_) | apply Wn)
    · refine AW.ret ⟨.inr rfl, congrArg (fun z => some (Vb z)) ?_⟩
      rw [hJ, h]; rfl
    · refine ⟨?_, by rw [hJ, h]; rfl⟩
      (repeat' first | exact Sub.nil | refine Sub.put rfl ?_ | refine Sub.put ?_ ?_)
  · (repeat' first | apply Wq | refine Ws hF hτ rfl ?_ | apply Wb | apply Wl | apply Wk | apply We | apply Wc | apply Wd | refine Wt rfl rfl ?_ | refine Wf rfl rfl ?_ | refine Wi rfl rfl (fun h => ?_) (fun h => ?_) | refine Wx hF hτ rfl rfl rfl rfl rfl rfl rfl rfl (fun h => ?_) (fun h => ?_) | apply Wn)
    refine AW.ret ⟨.inr rfl, congrArg (fun z => some (Vb z)) ?_⟩
    rw [hJ, List.drop_eq_nil_of_le (by simp)]
    rfl
def Box.aboard (call : Int) (b : Box) : Bool := decide (b.load ≤ call) && decide (call < b.disch)
def aboard (boxes : List Box) (call : Int) : List Int := (boxes.filter (Box.aboard call)).map (·.id)
theorem f49 (hF : Wide F) (hro : F.round = none) (l : List Box) (call : Int) (hl : l.length ≤ 1000) : FnV Tryz.prog F 49 [Vs (l.map Box.enc), Iv64 call] (.row true 3 (ints (aboard l call))) := by
  refine FnV.of_AW hF hro hτ Tryz.func49 rfl (by decide) rfl (by simp [Tryz.f49]) ?_
  (repeat' first | apply Wq | refine Ws hF hτ rfl ?_ | apply Wb | apply Wl | apply Wk | apply We | apply Wc | apply Wd | refine Wt rfl rfl ?_ | refine Wf rfl rfl ?_ | refine Wi rfl rfl (fun h => ?_) (fun h => ?_) | refine Wx hF hτ rfl rfl rfl rfl rfl rfl rfl rfl (fun h => ?_) (fun h => ?_) | apply Wn)
  refine AW.range hF rfl rfl rfl rfl rfl rfl rfl rfl rfl (l.map Box.enc).length (by simp [lim]; omega) (fun k => [(.s 8, Vs (l.map Box.enc)), (.s 1, Iv64 call), (.s 5, .row true 3 (ints (aboard (l.take k) call)))]) ?_ ?_ (fun k hk => ?_) ?_
  · exact fun k => rfl
  · (repeat' first | exact Sub.nil | refine Sub.put rfl ?_ | refine Sub.put ?_ ?_)
  · obtain ⟨x, hx⟩ := get_ex hk
    have hk' : k < l.length := by simpa using hk
    have hlen : (aboard (l.take k) call).length ≤ 1000 := by
      have := List.length_filter_le (Box.aboard call) (l.take k)
      simp only [aboard, List.length_map]; simp only [List.length_take] at this; omega
    (repeat' first | apply Wq | refine Ws hF hτ rfl ?_ | apply Wb | apply Wl | apply Wk | apply We | apply Wc | apply Wd | refine Wt rfl rfl ?_ | refine Wf rfl rfl ?_ | refine Wi rfl rfl (fun h => ?_) (fun h => ?_) | refine Wx hF hτ rfl rfl rfl rfl rfl rfl rfl rfl (fun h => ?_) (fun h => ?_) | apply Wn)
    refine AL.opM (OpM.indexD hF rfl (hτ _ _ rfl) rfl (hτ _ _ rfl) rfl (i := k) rfl ( get_enc Box.enc hx) rfl rfl rfl) rfl rfl ?_
    refine Wv hF hτ rfl ?_
    (repeat' first | apply Wq | refine Ws hF hτ rfl ?_ | apply Wb | apply Wl | apply Wk | apply We | apply Wc | apply Wd | refine Wt rfl rfl ?_ | refine Wf rfl rfl ?_ | refine Wi rfl rfl (fun h => ?_) (fun h => ?_) | refine Wx hF hτ rfl rfl rfl rfl rfl rfl rfl rfl (fun h => ?_) (fun h => ?_) | apply Wn)
    · refine AL.opM (OpM.buildSlice hF rfl (hτ _ _ rfl) rfl (hτ _ _ rfl) rfl rfl rfl (by decide) (by decide) rfl rfl) rfl rfl ?_
      refine AL.op rfl (OpTo.append hF rfl rfl rfl rfl (hτ _ _ rfl) rfl (hτ _ _ rfl) rfl rfl rfl rfl (by intro cs h; cases h with | head => rfl | tail _ h => cases h) (by simp [Base.xs, ints, chunks, lim]; omega) (by simp [Base.xs, ints, chunks, lim]; omega) rfl rfl rfl) ?_
      refine Wv hF hτ rfl ?_
      (repeat' first | apply Wq | refine Ws hF hτ rfl ?_ | apply Wb | apply Wl | apply Wk | apply We | apply Wc | apply Wd | refine Wt rfl rfl ?_ | refine Wf rfl rfl ?_ | refine Wi rfl rfl (fun h => ?_) (fun h => ?_) | refine Wx hF hτ rfl rfl rfl rfl rfl rfl rfl rfl (fun h => ?_) (fun h => ?_) | apply Wn)
      (repeat' first | exact Sub.nil | refine Sub.put rfl ?_ | refine Sub.put ?_ ?_)
      refine (congrArg (fun z => some (V.row true 3 z)) ?_)
      simp [take_snoc hx, aboard, Box.aboard, ints, chunks, *]
    · (repeat' first | exact Sub.nil | refine Sub.put rfl ?_ | refine Sub.put ?_ ?_)
      refine (congrArg (fun z => some (V.row true 3 z)) ?_)
      simp [take_snoc hx, aboard, Box.aboard, ints, chunks, *]
    · (repeat' first | exact Sub.nil | refine Sub.put rfl ?_ | refine Sub.put ?_ ?_)
      refine (congrArg (fun z => some (V.row true 3 z)) ?_)
      simp [take_snoc hx, aboard, Box.aboard, ints, chunks, *]
  · (repeat' first | apply Wq | refine Ws hF hτ rfl ?_ | apply Wb | apply Wl | apply Wk | apply We | apply Wc | apply Wd | refine Wt rfl rfl ?_ | refine Wf rfl rfl ?_ | refine Wi rfl rfl (fun h => ?_) (fun h => ?_) | refine Wx hF hτ rfl rfl rfl rfl rfl rfl rfl rfl (fun h => ?_) (fun h => ?_) | apply Wn)
    refine AW.ret ⟨.inr rfl, ?_⟩
    refine (congrArg (fun z => some (V.row true 3 z)) ?_)
    simp
theorem f50 (hF : Wide F) (hro : F.round = none) (x : Stowed) (id : Int) : FnV Tryz.prog F 50 [Vd x.enc, Iv64 id] (Vb (x.box == id)) := by
  refine FnV.of_AW hF hro hτ Tryz.func50 rfl (by decide) rfl (by simp [Tryz.f50]) ?_
  (repeat' first | apply Wq | refine Ws hF hτ rfl ?_ | apply Wb | apply Wl | apply Wk | apply We | apply Wc | apply Wd | refine Wt rfl rfl ?_ | refine Wf rfl rfl ?_ | refine Wi rfl rfl (fun h => ?_) (fun h => ?_) | refine Wx hF hτ rfl rfl rfl rfl rfl rfl rfl rfl (fun h => ?_) (fun h => ?_) | apply Wn)
  refine AW.ret ⟨.inr rfl, congrArg (fun z => some (Vb z)) ?_⟩
  rfl
def eqBy {α β : Type} (p : α → β → Bool) : List α → List β → Bool
  | [], [] => true
  | x :: xs, y :: ys => p x y && eqBy p xs ys
  | _, _ => false
theorem eqBy_drop {α β : Type} (p : α → β → Bool) {a : List α} {b : List β} {k : Nat} {x : α} {y : β} (hx : a[k]? = some x) (hy : b[k]? = some y) : eqBy p (a.drop k) (b.drop k) = (p x y && eqBy p (a.drop (k + 1)) (b.drop (k + 1))) := by
  obtain ⟨h1, e1⟩ := List.getElem?_eq_some_iff.1 hx
  obtain ⟨h2, e2⟩ := List.getElem?_eq_some_iff.1 hy
  rw [List.drop_eq_getElem_cons h1, List.drop_eq_getElem_cons h2, e1, e2]
  rfl
theorem eqBy_len {α β : Type} (p : α → β → Bool) : ∀ {a : List α} {b : List β}, eqBy p a b = true → a.length = b.length
  | [], [], _ => rfl
  | x :: a, y :: b, h => by
    simp only [eqBy, Bool.and_eq_true] at h
    simp [eqBy_len p h.2]
  | [], _ :: _, h => by cases h
  | _ :: _, [], h => by cases h
theorem f48 (hF : Wide F) (hro : F.round = none) (a : List Stowed) (b : List Int) (ha : a.length ≤ 1000) (hb : b.length ≤ 1000) :
    FnV Tryz.prog F 48 [Vs (a.map Stowed.enc), Vs (ints b), .fn 50 []] (Vb (eqBy (fun x id => x.box == id) a b)) := by
  refine FnV.of_AW hF hro hτ Tryz.func48 rfl (by decide) rfl (by simp [Tryz.f48]) ?_
  (repeat' first | apply Wq | refine Ws hF hτ rfl ?_ | apply Wb | apply Wl | apply Wk | apply We | apply Wc | apply Wd | refine Wt rfl rfl ?_ | refine Wf rfl rfl ?_ | refine Wi rfl rfl (fun h => ?_) (fun h => ?_) | refine Wx hF hτ rfl rfl rfl rfl rfl rfl rfl rfl (fun h => ?_) (fun h => ?_) | apply Wn)
  · refine AW.ret ⟨.inr rfl, congrArg (fun z => some (Vb z)) ?_⟩
    have hne : a.length ≠ b.length := by
      intro e
      simp [ints, e] at h
    cases hs : eqBy (fun (x : Stowed) id => x.box == id) a b with
    | false => rfl
    | true => exact absurd (eqBy_len _ hs) hne
  have hlen : a.length = b.length := by
    simp [ints] at h
    omega
  refine AW.rangeJ hF rfl rfl rfl rfl rfl rfl rfl rfl rfl (a.map Stowed.enc).length (by simp [lim]; omega) (fun k => [(.s 15, Vs (a.map Stowed.enc)), (.s 1, Vs (ints b)), (.s 2, .fn 50 [])]) (fun k => eqBy (fun (x : Stowed) id => x.box == id) a b = eqBy (fun (x : Stowed) id => x.box == id) (a.drop k) (b.drop k)) rfl ?_ ?_ (fun k hk hJ => ?_) (fun hJ => ?_)
  · exact fun k => rfl
  · (repeat' first | exact Sub.nil | refine Sub.put rfl ?_ | refine Sub.put ?_ ?_)
  · obtain ⟨x, hx⟩ := get_ex hk
    obtain ⟨y, hy⟩ : ∃ y, b[k]? = some y := ⟨_, List.getElem?_eq_getElem (by simp at hk; omega)⟩
    rw [eqBy_drop _ hx hy] at hJ
    (repeat' first | apply Wq | refine Ws hF hτ rfl ?_ | apply Wb | apply Wl | apply Wk | apply We | apply Wc | apply Wd | refine Wt rfl rfl ?_ | refine Wf rfl rfl ?_ | refine Wi rfl rfl (fun h => ?_) (fun h => ?_) | refine Wx hF hτ rfl rfl rfl rfl rfl rfl rfl rfl (fun h => ?_) (fun h => ?_) | apply Wn)
    refine AL.opM (OpM.indexD hF rfl (hτ _ _ rfl) rfl (hτ _ _ rfl) rfl (i := k) rfl ( get_enc Stowed.enc hx) rfl rfl rfl) rfl rfl ?_
    refine Wv hF hτ rfl ?_
    (repeat' first | apply Wq | refine Ws hF hτ rfl ?_ | apply Wb | apply Wl | apply Wk | apply We | apply Wc | apply Wd | refine Wt rfl rfl ?_ | refine Wf rfl rfl ?_ | refine Wi rfl rfl (fun h => ?_) (fun h => ?_) | refine Wx hF hτ rfl rfl rfl rfl rfl rfl rfl rfl (fun h => ?_) (fun h => ?_) | apply Wn)
    refine AL.opM (OpM.indexD hF rfl (hτ _ _ rfl) rfl (hτ _ _ rfl) rfl (i := k) rfl ( get_enc (fun n => [di n]) hy) rfl rfl rfl) rfl rfl ?_
    refine Wv hF hτ rfl ?_
    (repeat' first | apply Wq | refine Ws hF hτ rfl ?_ | apply Wb | apply Wl | apply Wk | apply We | apply Wc | apply Wd | refine Wt rfl rfl ?_ | refine Wf rfl rfl ?_ | refine Wi rfl rfl (fun h => ?_) (fun h => ?_) | refine Wx hF hτ rfl rfl rfl rfl rfl rfl rfl rfl (fun h => ?_) (fun h => ?_) | apply Wn)
    refine AL.opM (OpM.call hF rfl rfl rfl rfl (f50 hF hro x y) rfl rfl rfl) rfl rfl ?_
    refine Wv hF hτ rfl ?_
    (repeat' first | apply Wq | refine Ws hF hτ rfl ?_ | apply Wb | apply Wl | apply Wk | apply We | apply Wc | apply Wd | refine Wt rfl rfl ?_ | refine Wf rfl rfl ?_ | refine Wi rfl rfl (fun h => ?_) (fun h => ?_) | refine Wx hF hτ rfl rfl rfl rfl rfl rfl rfl rfl (fun h => ?_) (fun h => ?_) | apply Wn)
    · refine AW.ret ⟨.inr rfl, congrArg (fun z => some (Vb z)) ?_⟩
      have h' : (x.box == y) = false := by simpa using h
      rw [hJ, h']; rfl
    · have h' : (x.box == y) = true := by simpa using h
      refine ⟨?_, by rw [hJ, h']; rfl⟩
      (repeat' first | exact Sub.nil | refine Sub.put rfl ?_ | refine Sub.put ?_ ?_)
  · (repeat' first | apply Wq | refine Ws hF hτ rfl ?_ | apply Wb | apply Wl | apply Wk | apply We | apply Wc | apply Wd | refine Wt rfl rfl ?_ | refine Wf rfl rfl ?_ | refine Wi rfl rfl (fun h => ?_) (fun h => ?_) | refine Wx hF hτ rfl rfl rfl rfl rfl rfl rfl rfl (fun h => ?_) (fun h => ?_) | apply Wn)
    refine AW.ret ⟨.inr rfl, congrArg (fun z => some (Vb z)) ?_⟩
    rw [hJ, List.drop_eq_nil_of_le (by simp), List.drop_eq_nil_of_le (by simp; omega)]
    rfl
def withBox (l : List Stowed) (x : Stowed) : List Stowed := l.filter (fun y => decide (y.box < x.box)) ++ x :: l.filter (fun y => decide (x.box < y.box))
theorem f93 (hF : Wide F) (hro : F.round = none) (l : List Stowed) (x : Stowed) (hl : l.length ≤ 300) : FnV Tryz.prog F 93 [Vs (l.map Stowed.enc), Vd x.enc] (.row true 90 ((withBox l x).map Stowed.enc)) := by
  refine FnV.of_AW hF hro hτ Tryz.func93 rfl (by decide) rfl (by simp [Tryz.f93]) ?_
  (repeat' first | apply Wq | refine Ws hF hτ rfl ?_ | apply Wb | apply Wl | apply Wk | apply We | apply Wc | apply Wd | refine Wt rfl rfl ?_ | refine Wf rfl rfl ?_ | refine Wi rfl rfl (fun h => ?_) (fun h => ?_) | refine Wx hF hτ rfl rfl rfl rfl rfl rfl rfl rfl (fun h => ?_) (fun h => ?_) | apply Wn)
  refine AW.range hF rfl rfl rfl rfl rfl rfl rfl rfl rfl (l.map Stowed.enc).length (by simp [lim]; omega) (fun k => [(.s 10, Vs (l.map Stowed.enc)), (.s 0, Vs (l.map Stowed.enc)), (.s 3, .bx 90 (x.enc.map .d)), (.s 5, .row true 90 (((l.take k).filter (fun y => decide (y.box < x.box))).map Stowed.enc))]) ?_ ?_ (fun k hk => ?_) ?_
  · exact fun k => rfl
  · (repeat' first | exact Sub.nil | refine Sub.put rfl ?_ | refine Sub.put ?_ ?_)
  · obtain ⟨y, hy⟩ := get_ex hk
    have hk' : k < l.length := by simpa using hk
    have hlen := List.length_filter_le (fun y : Stowed => decide (y.box < x.box)) (l.take k)
    simp only [List.length_take] at hlen
    (repeat' first | apply Wq | refine Ws hF hτ rfl ?_ | apply Wb | apply Wl | apply Wk | apply We | apply Wc | apply Wd | refine Wt rfl rfl ?_ | refine Wf rfl rfl ?_ | refine Wi rfl rfl (fun h => ?_) (fun h => ?_) | refine Wx hF hτ rfl rfl rfl rfl rfl rfl rfl rfl (fun h => ?_) (fun h => ?_) | apply Wn)
    refine AL.opM (OpM.indexD hF rfl (hτ _ _ rfl) rfl (hτ _ _ rfl) rfl (i := k) rfl ( get_enc Stowed.enc hy) rfl rfl rfl) rfl rfl ?_
    refine Wv hF hτ rfl ?_
    (repeat' first | apply Wq | refine Ws hF hτ rfl ?_ | apply Wb | apply Wl | apply Wk | apply We | apply Wc | apply Wd | refine Wt rfl rfl ?_ | refine Wf rfl rfl ?_ | refine Wi rfl rfl (fun h => ?_) (fun h => ?_) | refine Wx hF hτ rfl rfl rfl rfl rfl rfl rfl rfl (fun h => ?_) (fun h => ?_) | apply Wn)
    · refine AL.opM (OpM.buildSlice hF rfl (hτ _ _ rfl) rfl (hτ _ _ rfl) rfl rfl rfl (by decide) (by decide) rfl rfl) rfl rfl ?_
      refine AL.op rfl (OpTo.append hF rfl rfl rfl rfl (hτ _ _ rfl) rfl (hτ _ _ rfl) rfl rfl rfl rfl (by intro cs h; cases h with | head => rfl | tail _ h => cases h) (by simp [Base.xs, chunks, lim]; omega) (by simp [Base.xs, chunks, lim]; omega) rfl rfl rfl) ?_
      refine Wv hF hτ rfl ?_
      (repeat' first | apply Wq | refine Ws hF hτ rfl ?_ | apply Wb | apply Wl | apply Wk | apply We | apply Wc | apply Wd | refine Wt rfl rfl ?_ | refine Wf rfl rfl ?_ | refine Wi rfl rfl (fun h => ?_) (fun h => ?_) | refine Wx hF hτ rfl rfl rfl rfl rfl rfl rfl rfl (fun h => ?_) (fun h => ?_) | apply Wn)
      (repeat' first | exact Sub.nil | refine Sub.put rfl ?_ | refine Sub.put ?_ ?_)
      refine (congrArg (fun z => some (V.row true 90 z)) ?_)
      simp only [take_snoc hy, List.filter_append, List.filter_cons, h]
      simp [chunks]; rfl
    · (repeat' first | exact Sub.nil | refine Sub.put rfl ?_ | refine Sub.put ?_ ?_)
      refine (congrArg (fun z => some (V.row true 90 z)) ?_)
      simp [take_snoc hy, List.filter_append, h]
  · have hlen := List.length_filter_le (fun y : Stowed => decide (y.box < x.box)) l
    (repeat' first | apply Wq | refine Ws hF hτ rfl ?_ | apply Wb | apply Wl | apply Wk | apply We | apply Wc | apply Wd | refine Wt rfl rfl ?_ | refine Wf rfl rfl ?_ | refine Wi rfl rfl (fun h => ?_) (fun h => ?_) | refine Wx hF hτ rfl rfl rfl rfl rfl rfl rfl rfl (fun h => ?_) (fun h => ?_) | apply Wn)
    refine AL.opM (OpM.buildSlice hF rfl (hτ _ _ rfl) rfl (hτ _ _ rfl) rfl rfl rfl (by decide) (by decide) rfl rfl) rfl rfl ?_
    refine AL.op rfl (OpTo.append hF rfl rfl rfl rfl (hτ _ _ rfl) rfl (hτ _ _ rfl) rfl rfl rfl rfl (by intro cs h; cases h with | head => rfl | tail _ h => cases h) (by simp [Base.xs, chunks, lim]; omega) (by simp [Base.xs, chunks, lim]; omega) rfl rfl rfl) ?_
    refine Wv hF hτ rfl ?_
    (repeat' first | apply Wq | refine Ws hF hτ rfl ?_ | apply Wb | apply Wl | apply Wk | apply We | apply Wc | apply Wd | refine Wt rfl rfl ?_ | refine Wf rfl rfl ?_ | refine Wi rfl rfl (fun h => ?_) (fun h => ?_) | refine Wx hF hτ rfl rfl rfl rfl rfl rfl rfl rfl (fun h => ?_) (fun h => ?_) | apply Wn)
    refine AW.range hF rfl rfl rfl rfl rfl rfl rfl rfl rfl (l.map Stowed.enc).length (by simp [lim]; omega) (fun k => [(.s 30, Vs (l.map Stowed.enc)), (.s 3, .bx 90 (x.enc.map .d)), (.s 5, .row true 90 ((l.filter (fun y => decide (y.box < x.box)) ++ x :: (l.take k).filter (fun y => decide (x.box < y.box))).map Stowed.enc))]) ?_ ?_ (fun k hk => ?_) ?_
    · exact fun k => rfl
    · (repeat' first | exact Sub.nil | refine Sub.put rfl ?_ | refine Sub.put ?_ ?_)
      refine (congrArg (fun z => some (V.row true 90 z)) ?_)
      simp [chunks]; rfl
    · obtain ⟨y, hy⟩ := get_ex hk
      have hk' : k < l.length := by simpa using hk
      have hlen2 := List.length_filter_le (fun y : Stowed => decide (x.box < y.box)) (l.take k)
      simp only [List.length_take] at hlen2
      (repeat' first | apply Wq | refine Ws hF hτ rfl ?_ | apply Wb | apply Wl | apply Wk | apply We | apply Wc | apply Wd | refine Wt rfl rfl ?_ | refine Wf rfl rfl ?_ | refine Wi rfl rfl (fun h => ?_) (fun h => ?_) | refine Wx hF hτ rfl rfl rfl rfl rfl rfl rfl rfl (fun h => ?_) (fun h => ?_) | apply Wn)
      refine AL.opM (OpM.indexD hF rfl (hτ _ _ rfl) rfl (hτ _ _ rfl) rfl (i := k) rfl ( get_enc Stowed.enc hy) rfl rfl rfl) rfl rfl ?_
      refine Wv hF hτ rfl ?_
      (repeat' first | apply Wq | refine Ws hF hτ rfl ?_ | apply Wb | apply Wl | apply Wk | apply We | apply Wc | apply Wd | refine Wt rfl rfl ?_ | refine Wf rfl rfl ?_ | refine Wi rfl rfl (fun h => ?_) (fun h => ?_) | refine Wx hF hτ rfl rfl rfl rfl rfl rfl rfl rfl (fun h => ?_) (fun h => ?_) | apply Wn)
      · refine AL.opM (OpM.buildSlice hF rfl (hτ _ _ rfl) rfl (hτ _ _ rfl) rfl rfl rfl (by decide) (by decide) rfl rfl) rfl rfl ?_
        refine AL.op rfl (OpTo.append hF rfl rfl rfl rfl (hτ _ _ rfl) rfl (hτ _ _ rfl) rfl rfl rfl rfl (by intro cs h; cases h with | head => rfl | tail _ h => cases h) (by simp [Base.xs, chunks, lim]; omega) (by simp [Base.xs, chunks, lim]; omega) rfl rfl rfl) ?_
        refine Wv hF hτ rfl ?_
        (repeat' first | apply Wq | refine Ws hF hτ rfl ?_ | apply Wb | apply Wl | apply Wk | apply We | apply Wc | apply Wd | refine Wt rfl rfl ?_ | refine Wf rfl rfl ?_ | refine Wi rfl rfl (fun h => ?_) (fun h => ?_) | refine Wx hF hτ rfl rfl rfl rfl rfl rfl rfl rfl (fun h => ?_) (fun h => ?_) | apply Wn)
        (repeat' first | exact Sub.nil | refine Sub.put rfl ?_ | refine Sub.put ?_ ?_)
        refine (congrArg (fun z => some (V.row true 90 z)) ?_)
        simp only [take_snoc hy, List.filter_append, List.filter_cons, h]
        simp [chunks]; rfl
      · (repeat' first | exact Sub.nil | refine Sub.put rfl ?_ | refine Sub.put ?_ ?_)
        refine (congrArg (fun z => some (V.row true 90 z)) ?_)
        simp [take_snoc hy, List.filter_append, h]
    · (repeat' first | apply Wq | refine Ws hF hτ rfl ?_ | apply Wb | apply Wl | apply Wk | apply We | apply Wc | apply Wd | refine Wt rfl rfl ?_ | refine Wf rfl rfl ?_ | refine Wi rfl rfl (fun h => ?_) (fun h => ?_) | refine Wx hF hτ rfl rfl rfl rfl rfl rfl rfl rfl (fun h => ?_) (fun h => ?_) | apply Wn)
      refine AW.ret ⟨.inr rfl, ?_⟩
      refine (congrArg (fun z => some (V.row true 90 z)) ?_)
      simp [withBox]
end Go.Proofs.VL
namespace Go.Proofs.VL
open Go Go.RowKit
variable {F : Fence}
abbrev U64 (n : Int) : V := .d (.sc (.int .u64 n))
theorem and_mask (n : Nat) (h : n < 2 ^ 32) : IntKind.wrap .u64 ((BitVec.ofInt (IntKind.bits .u64) (n : Int) &&& BitVec.ofInt (IntKind.bits .u64) 4294967295).toNat : Int) = n := by
  have e : (BitVec.ofInt (IntKind.bits .u64) (n : Int) &&& BitVec.ofInt (IntKind.bits .u64) 4294967295).toNat = n := by
    rw [BitVec.toNat_and]
    have h1 : (BitVec.ofInt (IntKind.bits .u64) (n : Int)).toNat = n := by
      show (BitVec.ofInt 64 (n : Int)).toNat = n
      rw [BitVec.ofInt_natCast, BitVec.toNat_ofNat]
      omega
    have h2 : (BitVec.ofInt (IntKind.bits .u64) 4294967295).toNat = 2 ^ 32 - 1 := by decide
    rw [h1, h2, Nat.and_two_pow_sub_one_eq_mod]
    omega
  rw [e]
  simp [IntKind.wrap, IntKind.bits, IntKind.signed]
  omega
theorem wrap_u64 (n : Nat) (h : n < 2 ^ 32) : IntKind.wrap .u64 (n : Int) = n := by
  simp [IntKind.wrap, IntKind.bits, IntKind.signed]
  omega
theorem f251 (hF : Wide F) (hro : F.round = none) (n : Nat) (hn : n < 2 ^ 31) : FnV Tryz.prog F 251 [U64 1, U64 n] (.tu [U64 0, U64 n]) := by
  have hand := and_mask n (by omega)
  have hw := wrap_u64 n (by omega)
  have hs : ((n : Int)).fdiv (2 ^ min (32 : Int).toNat (IntKind.bits .u64)) = 0 := by
    show ((n : Int)).fdiv (2 ^ 32) = 0
    rw [Int.fdiv_eq_ediv_of_nonneg _ (by decide)]
    omega
  refine FnV.of_AW hF hro hτ Tryz.func251 rfl (by decide) rfl (by simp [Tryz.f251]) ?_
  (repeat' first | apply Wq | refine Ws hF hτ rfl ?_ | apply Wb | apply Wl | apply Wk | apply We | apply Wc | apply Wd | refine Wt rfl rfl ?_ | refine Wf rfl rfl ?_ | refine Wi rfl rfl (fun h => ?_) (fun h => ?_) | refine Wx hF hτ rfl rfl rfl rfl rfl rfl rfl rfl (fun h => ?_) (fun h => ?_) | apply Wn)
  refine AL.opM (OpM.eq (v' := U64 1) (congrArg (fun z : Int => U64 z) (and_mask 1 (by decide))) (OpM.and hF rfl rfl rfl rfl rfl)) rfl rfl ?_
  refine Wv hF hτ rfl (Wn ?_)
  (repeat' first | apply Wq | refine Ws hF hτ rfl ?_ | apply Wb | apply Wl | apply Wk | apply We | apply Wc | apply Wd | refine Wt rfl rfl ?_ | refine Wf rfl rfl ?_ | refine Wi rfl rfl (fun h => ?_) (fun h => ?_) | refine Wx hF hτ rfl rfl rfl rfl rfl rfl rfl rfl (fun h => ?_) (fun h => ?_) | apply Wn)
  refine AL.opM (OpM.shr hF rfl rfl rfl (by decide) rfl rfl) rfl rfl ?_
  refine Wv hF hτ rfl (Wn ?_)
  (repeat' first | apply Wq | refine Ws hF hτ rfl ?_ | apply Wb | apply Wl | apply Wk | apply We | apply Wc | apply Wd | refine Wt rfl rfl ?_ | refine Wf rfl rfl ?_ | refine Wi rfl rfl (fun h => ?_) (fun h => ?_) | refine Wx hF hτ rfl rfl rfl rfl rfl rfl rfl rfl (fun h => ?_) (fun h => ?_) | apply Wn)
  refine AL.opM (OpM.eq (v' := U64 n) (congrArg (fun z : Int => U64 z) hand) (OpM.and hF rfl rfl rfl rfl rfl)) rfl rfl ?_
  refine Wv hF hτ rfl (Wn ?_)
  (repeat' first | apply Wq | refine Ws hF hτ rfl ?_ | apply Wb | apply Wl | apply Wk | apply We | apply Wc | apply Wd | refine Wt rfl rfl ?_ | refine Wf rfl rfl ?_ | refine Wi rfl rfl (fun h => ?_) (fun h => ?_) | refine Wx hF hτ rfl rfl rfl rfl rfl rfl rfl rfl (fun h => ?_) (fun h => ?_) | apply Wn)
  refine AL.opM (OpM.eq (v' := U64 0) (congrArg (fun z : Int => U64 z) hs) (OpM.shr hF rfl rfl rfl (by decide) rfl rfl)) rfl rfl ?_
  refine Wv hF hτ rfl (Wn ?_)
  (repeat' first | apply Wq | refine Ws hF hτ rfl ?_ | apply Wb | apply Wl | apply Wk | apply We | apply Wc | apply Wd | refine Wt rfl rfl ?_ | refine Wf rfl rfl ?_ | refine Wi rfl rfl (fun h => ?_) (fun h => ?_) | refine Wx hF hτ rfl rfl rfl rfl rfl rfl rfl rfl (fun h => ?_) (fun h => ?_) | apply Wn)
  refine AL.opM (OpM.eq (v' := U64 0) (congrArg (fun z : Int => U64 z) (by rw [Int.one_mul, hw]; exact hs)) (OpM.shr hF rfl rfl rfl (by decide) rfl rfl)) rfl rfl ?_
  refine Wv hF hτ rfl (Wn ?_)
  (repeat' first | apply Wq | refine Ws hF hτ rfl ?_ | apply Wb | apply Wl | apply Wk | apply We | apply Wc | apply Wd | refine Wt rfl rfl ?_ | refine Wf rfl rfl ?_ | refine Wi rfl rfl (fun h => ?_) (fun h => ?_) | refine Wx hF hτ rfl rfl rfl rfl rfl rfl rfl rfl (fun h => ?_) (fun h => ?_) | apply Wn)
  refine AL.opM (OpM.eq (v' := U64 0) (congrArg (fun z : Int => U64 z) (by rw [show (1 : Int).fdiv (2 ^ min (32 : Int).toNat (IntKind.bits .u64)) = 0 by decide, Int.zero_mul]; decide)) (OpM.and hF rfl rfl rfl rfl rfl)) rfl rfl ?_
  refine Wv hF hτ rfl (Wn ?_)
  (repeat' first | apply Wq | refine Ws hF hτ rfl ?_ | apply Wb | apply Wl | apply Wk | apply We | apply Wc | apply Wd | refine Wt rfl rfl ?_ | refine Wf rfl rfl ?_ | refine Wi rfl rfl (fun h => ?_) (fun h => ?_) | refine Wx hF hτ rfl rfl rfl rfl rfl rfl rfl rfl (fun h => ?_) (fun h => ?_) | apply Wn)
  refine AL.opM (OpM.eq (v' := U64 0) (congrArg (fun z : Int => U64 z) (by rw [show (1 : Int).fdiv (2 ^ min (32 : Int).toNat (IntKind.bits .u64)) = 0 by decide, Int.zero_mul]; decide)) (OpM.shr hF rfl rfl rfl (by decide) rfl rfl)) rfl rfl ?_
  refine Wv hF hτ rfl (Wn ?_)
  (repeat' first | apply Wq | refine Ws hF hτ rfl ?_ | apply Wb | apply Wl | apply Wk | apply We | apply Wc | apply Wd | refine Wt rfl rfl ?_ | refine Wf rfl rfl ?_ | refine Wi rfl rfl (fun h => ?_) (fun h => ?_) | refine Wx hF hτ rfl rfl rfl rfl rfl rfl rfl rfl (fun h => ?_) (fun h => ?_) | apply Wn)
  refine AL.opM (OpM.eq (v' := U64 0) (congrArg (fun z : Int => U64 z) (by decide)) (OpM.shr hF rfl rfl rfl (by decide) rfl rfl)) rfl rfl ?_
  refine Wv hF hτ rfl (Wn ?_)
  (repeat' first | apply Wq | refine Ws hF hτ rfl ?_ | apply Wb | apply Wl | apply Wk | apply We | apply Wc | apply Wd | refine Wt rfl rfl ?_ | refine Wf rfl rfl ?_ | refine Wi rfl rfl (fun h => ?_) (fun h => ?_) | refine Wx hF hτ rfl rfl rfl rfl rfl rfl rfl rfl (fun h => ?_) (fun h => ?_) | apply Wn)
  refine AW.ret ⟨.inr rfl, ?_⟩
  have key : ∀ a b a' b' : Int, a = a' → b = b' → some (V.tu [U64 a, U64 b]) = some (V.tu [U64 a', U64 b']) := by rintro a b _ _ rfl rfl; rfl
  refine key _ _ _ _ ?_ ?_
  · rw [show (1 : Int).fdiv (2 ^ min (32 : Int).toNat (IntKind.bits .u64)) = 0 by decide]; decide
  · rw [Int.one_mul]; exact hw
theorem f190 (hF : Wide F) (hro : F.round = none) (n : Nat) (hn : n < 2 ^ 31) : FnV Tryz.prog F 190 [U64 1, U64 n] (.tu [U64 0, U64 n]) := by
  refine FnV.of_AW hF hro hτ Tryz.func190 rfl (by decide) rfl (by simp [Tryz.f190]) ?_
  (repeat' first | apply Wq | refine Ws hF hτ rfl ?_ | apply Wb | apply Wl | apply Wk | apply We | apply Wc | apply Wd | refine Wt rfl rfl ?_ | refine Wf rfl rfl ?_ | refine Wi rfl rfl (fun h => ?_) (fun h => ?_) | refine Wx hF hτ rfl rfl rfl rfl rfl rfl rfl rfl (fun h => ?_) (fun h => ?_) | apply Wn)
  refine AL.opM (OpM.call hF rfl rfl rfl rfl (f251 hF hro n hn) rfl rfl rfl) rfl rfl ?_
  refine Wv hF hτ rfl ?_
  (repeat' first | apply Wq | refine Ws hF hτ rfl ?_ | apply Wb | apply Wl | apply Wk | apply We | apply Wc | apply Wd | refine Wt rfl rfl ?_ | refine Wf rfl rfl ?_ | refine Wi rfl rfl (fun h => ?_) (fun h => ?_) | refine Wx hF hτ rfl rfl rfl rfl rfl rfl rfl rfl (fun h => ?_) (fun h => ?_) | apply Wn)
  refine AW.ret ⟨.inr rfl, ?_⟩
  rfl
theorem f119 (hF : Wide F) (hro : F.round = none) (x : Int) (n : Nat) (h0 : 0 < n) (hn : n < 100000) : FnV Tryz.prog F 119 [Vs (ints [x]), Iv64 n] (.row true 3 (ints (List.replicate n x))) := by
  have hw := wrap_u64 n (by omega)
  refine FnV.of_AW hF hro hτ Tryz.func119 rfl (by decide) rfl (by simp [Tryz.f119]) ?_
  (repeat' first | apply Wq | refine Ws hF hτ rfl ?_ | apply Wb | apply Wl | apply Wk | apply We | apply Wc | apply Wd | refine Wt rfl rfl ?_ | refine Wf rfl rfl ?_ | refine Wi rfl rfl (fun h => ?_) (fun h => ?_) | refine Wx hF hτ rfl rfl rfl rfl rfl rfl rfl rfl (fun h => ?_) (fun h => ?_) | apply Wn)
  refine AL.opM (OpM.call hF rfl rfl rfl rfl (r := .tu [U64 0, U64 n]) ?_ rfl rfl rfl) rfl rfl ?_
  · show FnV Tryz.prog F 190 [U64 (IntKind.wrap .u64 ((([[di x]] : List (List D)).length : Nat) : Int)), U64 (IntKind.wrap .u64 (n : Int))] _
    rw [hw]
    exact f190 hF hro n (by omega)
  refine Wv hF hτ rfl ?_
  (repeat' first | apply Wq | refine Ws hF hτ rfl ?_ | apply Wb | apply Wl | apply Wk | apply We | apply Wc | apply Wd | refine Wt rfl rfl ?_ | refine Wf rfl rfl ?_ | refine Wi rfl rfl (fun h => ?_) (fun h => ?_) | refine Wx hF hτ rfl rfl rfl rfl rfl rfl rfl rfl (fun h => ?_) (fun h => ?_) | apply Wn)
  · cases h
  · simp at h; omega
  have hwi : IntKind.wrap .i64 (n : Int) = n := wrap_id (by omega) (by omega)
  refine AL.opM (OpM.makeSlice hF rfl (hτ _ _ rfl) rfl (hτ _ _ rfl) (kx := .i64) (ky := .i64) (m := n) ?_ ?_ (by simp [lim]; omega) (by simp; omega) rfl rfl) rfl rfl ?_
  · exact congrArg (fun z => some (IntKind.i64, z)) hwi
  · exact congrArg (fun z => some (IntKind.i64, z)) hwi
  refine Wv hF hτ rfl ?_
  (repeat' first | apply Wq | refine Ws hF hτ rfl ?_ | apply Wb | apply Wl | apply Wk | apply We | apply Wc | apply Wd | refine Wt rfl rfl ?_ | refine Wf rfl rfl ?_ | refine Wi rfl rfl (fun h => ?_) (fun h => ?_) | refine Wx hF hτ rfl rfl rfl rfl rfl rfl rfl rfl (fun h => ?_) (fun h => ?_) | apply Wn)
  refine AL.op rfl (OpTo.copy hF rfl rfl rfl rfl (hτ _ _ rfl) rfl (hτ _ _ rfl) (l := .s 7) (i0 := 0) (oo := 0) (m := n) (xs := List.replicate n [di 0]) (ys := [[di x]]) ?_ rfl rfl rfl (lens_ints [x]) rfl ?_ rfl rfl rfl) ?_
  · show some (Loc.s 7, 0, 0, (List.replicate n [di 0]).length) = _
    rw [List.length_replicate]
  · simp
  refine Wv hF hτ rfl ?_
  (repeat' first | apply Wq | refine Ws hF hτ rfl ?_ | apply Wb | apply Wl | apply Wk | apply We | apply Wc | apply Wd | refine Wt rfl rfl ?_ | refine Wf rfl rfl ?_ | refine Wi rfl rfl (fun h => ?_) (fun h => ?_) | refine Wx hF hτ rfl rfl rfl rfl rfl rfl rfl rfl (fun h => ?_) (fun h => ?_) | apply Wn)
  refine AW.loopI (X := { i : Nat // 1 ≤ i ∧ i ≤ n }) (fun i => [(.s 8, Iv64 i.1), (.s 7, .row true 3 (ints (List.replicate i.1 x ++ List.replicate (n - i.1) 0)))]) (fun i => n - i.1) (fun i => rfl) ⟨1, by omega, by omega⟩ ?_ ?_
  · (repeat' first | exact Sub.nil | refine Sub.put rfl ?_ | refine Sub.put ?_ ?_)
    · refine congrArg (fun z : Nat => some (Iv64 (z : Int))) ?_
      simp; omega
    · refine (congrArg (fun z => some (V.row true 3 z)) ?_)
      cases n with
      | zero => omega
      | succ n => simp [ints, List.replicate_succ]
  rintro ⟨i, hi1, hi2⟩
  have hlen : (ints (List.replicate i x ++ List.replicate (n - i) 0)).length = n := by simp [ints]; omega
  (repeat' first | apply Wq | refine Ws hF hτ rfl ?_ | apply Wb | apply Wl | apply Wk | apply We | apply Wc | apply Wd | refine Wt rfl rfl ?_ | refine Wf rfl rfl ?_ | refine Wi rfl rfl (fun h => ?_) (fun h => ?_) | refine Wx hF hτ rfl rfl rfl rfl rfl rfl rfl rfl (fun h => ?_) (fun h => ?_) | apply Wn)
  · have hlt : i < n := by
      have h' : decide ((i : Int) < ((ints (List.replicate i x ++ List.replicate (n - i) 0)).length : Nat)) = true := h
      have := of_decide_eq_true h'
      rw [hlen] at this; omega
    refine AW.draw hmix (AD.start [] [0, 1, 2, 3, 4, 5, 6] ?_)
    refine AD.vals hF hτ rfl ?_
    refine AD.op (o := _) rfl rfl rfl (OpM.sliceR hF rfl (hτ _ _ rfl) rfl (hτ _ _ rfl) (l0 := .s 7) (l := i) rfl (.inr ⟨_, _, rfl, rfl⟩) (.inl ⟨rfl, rfl⟩) (by rw [hlen]; exact hi2) (Nat.le_refl _) (by rw [hlen]; exact hlt) rfl rfl) ?_
    refine AD.vals hF hτ rfl ?_
    refine AD.op (o := _) rfl rfl rfl (OpM.sliceR hF rfl (hτ _ _ rfl) rfl (hτ _ _ rfl) (l0 := .s 7) (l := 0) (h := i) rfl (.inl ⟨rfl, rfl⟩) (.inr ⟨_, _, rfl, rfl⟩) (Nat.zero_le _) (by rw [hlen]; exact hi2) (by rw [hlen]; omega) rfl rfl) ?_
    refine AD.vals hF hτ rfl ?_
    have hys : (ints (List.replicate i x ++ List.replicate (n - i) 0)).take (i - 0) = ints (List.replicate i x) := by
      simp [ints]
    refine AD.finC 7 [] (fuel2 := 2) rfl rfl rfl (OpF.copy hF rfl rfl rfl rfl (hτ _ _ rfl) rfl (hτ _ _ rfl) (l := .s 7) (i0 := i) (oo := i * 1) (m := n - i) (xs := ints (List.replicate i x ++ List.replicate (n - i) 0)) (ys := ints (List.replicate i x)) ?_ rfl rfl ?_ (lens_ints _) ?_ rfl rfl rfl rfl) (by kernel_rfl) (by kernel_rfl) rfl rfl rfl (DS.ofVals hF hτ (is := [0]) rfl (newD_of (by kernel_rfl))) (by kernel_rfl) (AA.tail (fuel := 0) [8, 9] _ (by kernel_rfl) ?_) rfl
    · show some (Loc.s 7, i, i * 1, (ints (List.replicate i x ++ List.replicate (n - i) 0)).length - i) = _
      rw [hlen]
    · intro E' hs
      have h1 := hs (.s 44) (.sub (.s 7) 0 0 (i - 0)) rfl
      have h2 := hs (.s 7) (.row true 3 (ints (List.replicate i x ++ List.replicate (n - i) 0))) rfl
      refine ⟨?_, ?_⟩
      · simp only [readO, h1, h2]
        rw [hys, hlen, show Nat.ble (i - 0) n = true from Nat.ble_eq_true_of_le (by omega)]
      · simp only [readE, h1, h2]
        rfl
    · rw [hlen]; omega
    refine Wv hF hτ rfl ?_
    (repeat' first | apply Wq | refine Ws hF hτ rfl ?_ | apply Wb | apply Wl | apply Wk | apply We | apply Wc | apply Wd | refine Wt rfl rfl ?_ | refine Wf rfl rfl ?_ | refine Wi rfl rfl (fun h => ?_) (fun h => ?_) | refine Wx hF hτ rfl rfl rfl rfl rfl rfl rfl rfl (fun h => ?_) (fun h => ?_) | apply Wn)
    refine ⟨⟨i + min i (n - i), by omega, by omega⟩, by show n - (i + min i (n - i)) < n - i; omega, ?_⟩
    (repeat' first | exact Sub.nil | refine Sub.put rfl ?_ | refine Sub.put ?_ ?_)
    · refine congrArg (fun z : Int => some (Iv64 z)) ?_
      show IntKind.wrap .i64 ((i : Int) + ((min (ints (List.replicate i x)).length (n - i) : Nat) : Int)) = _
      rw [show (ints (List.replicate i x)).length = i by simp [ints], wrap_id (by omega) (by omega)]
      simp
    · refine (congrArg (fun z => some (V.row true 3 z)) ?_)
      simp only [ints, List.map_append, List.map_replicate, List.length_replicate]
      rw [List.take_append_of_le_length (by simp), List.take_of_length_le (by simp), List.take_replicate, List.drop_append, List.drop_replicate, List.drop_replicate, List.length_replicate]
      rw [show i - (i + min i (n - i)) = 0 by omega, show n - i - (i + min i (n - i) - i) = n - (i + min i (n - i)) by omega]
      rw [List.replicate_append_replicate, Nat.min_comm (n - i) i]
      simp
  · refine AW.ret ⟨.inr rfl, ?_⟩
    refine (congrArg (fun z => some (V.row true 3 z)) ?_)
    have : i = n := by
      have h' : decide ((i : Int) < ((ints (List.replicate i x ++ List.replicate (n - i) 0)).length : Nat)) = false := h
      have := of_decide_eq_false h'
      rw [hlen] at this; omega
    subst this
    simp
end Go.Proofs.VL
