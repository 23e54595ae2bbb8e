import Derived.Test.YtndffogfaocchaaGreatW21
set_option linter.unusedVariables false
set_option linter.unusedSimpArgs false
set_option linter.unusedSectionVars false
namespace Go.Proofs.VL
open Go Go.RowKit
variable {F : Fence}
set_option maxHeartbeats 1000000 in
theorem f269 (hF : Wide F) (hro : F.round = none) (l : List Stowed) (c : Stowed → Stowed → Int) (hl : l.length ≤ 12) :
    FnX Tryz.prog F 269 3 [(.s 0, .row true 90 (l.map Stowed.enc)), (.s 1, Iv64 l.length), (.s 2, .raw (PFn Tryz.prog F (CmpS (fun x : Stowed => Vd x.enc) c)))] (.tu []) [(.s 0, .row true 90 ((isort c l).map Stowed.enc))] := by
  refine FnX.of_AW hF hro hτ (K := [0]) Tryz.func269 rfl (by decide) rfl (Nat.le_of_ble_eq_true rfl) rfl rfl ?_
  (repeat' first | apply Wq | refine Ws hF hτ rfl ?_ | apply Wb | apply Wl | apply Wk | apply We | apply Wc | apply Wd | refine Wt rfl rfl ?_ | refine Wf rfl rfl ?_ | refine Wi rfl rfl (fun h => ?_) (fun h => ?_) | refine Wx hF hτ rfl rfl rfl rfl rfl rfl rfl rfl (fun h => ?_) (fun h => ?_) | apply Wn)
  refine AW.loopI (X := Unit) (fun _ => [(.s 0, .row true 90 (l.map Stowed.enc)), (.s 1, Iv64 l.length), (.s 2, .raw (PFn Tryz.prog F (CmpS (fun x : Stowed => Vd x.enc) c))), (.s 6, Iv64 20), (.s 7, Iv64 (0 : Nat)), (.s 8, Iv64 20)]) (fun _ => 0) (fun _ => rfl) () ?_ ?_
  · (repeat' first | exact Sub.nil | refine Sub.put rfl ?_ | refine Sub.put ?_ ?_)
  intro _
  (repeat' first | apply Wq | refine Ws hF hτ rfl ?_ | apply Wb | apply Wl | apply Wk | apply We | apply Wc | apply Wd | refine Wt rfl rfl ?_ | refine Wf rfl rfl ?_ | refine Wi rfl rfl (fun h => ?_) (fun h => ?_) | refine Wx hF hτ rfl rfl rfl rfl rfl rfl rfl rfl (fun h => ?_) (fun h => ?_) | apply Wn)
  · exfalso
    have := of_decide_eq_true h
    omega
  · refine AL.op rfl (OpTo.callX hF rfl rfl rfl rfl rfl rfl rfl (f149 hF hro l c (by omega)) rfl rfl rfl rfl rfl) ?_
    refine Wv hF hτ rfl ?_
    (repeat' first | apply Wq | refine Ws hF hτ rfl ?_ | apply Wb | apply Wl | apply Wk | apply We | apply Wc | apply Wd | refine Wt rfl rfl ?_ | refine Wf rfl rfl ?_ | refine Wi rfl rfl (fun h => ?_) (fun h => ?_) | refine Wx hF hτ rfl rfl rfl rfl rfl rfl rfl rfl (fun h => ?_) (fun h => ?_) | apply Wn)
    refine AW.loopI (X := Unit) (fun _ => [(.s 0, .row true 90 ((isort c l).map Stowed.enc)), (.s 1, Iv64 l.length), (.s 6, Iv64 20)]) (fun _ => 0) (fun _ => rfl) () ?_ ?_
    · (repeat' first | exact Sub.nil | refine Sub.put rfl ?_ | refine Sub.put ?_ ?_)
    intro _
    (repeat' first | apply Wq | refine Ws hF hτ rfl ?_ | apply Wb | apply Wl | apply Wk | apply We | apply Wc | apply Wd | refine Wt rfl rfl ?_ | refine Wf rfl rfl ?_ | refine Wi rfl rfl (fun h => ?_) (fun h => ?_) | refine Wx hF hτ rfl rfl rfl rfl rfl rfl rfl rfl (fun h => ?_) (fun h => ?_) | apply Wn)
    · exfalso
      have := of_decide_eq_true h
      omega
    · refine ⟨.inl rfl, rfl, ?_⟩
      (repeat' first | exact Sub.nil | refine Sub.put rfl ?_ | refine Sub.put ?_ ?_)
theorem f235 (hF : Wide F) (hro : F.round = none) (l : List Stowed) (c : Stowed → Stowed → Int) (hl : l.length ≤ 12) :
    FnX Tryz.prog F 235 2 [(.s 0, .row true 90 (l.map Stowed.enc)), (.s 1, .raw (PFn Tryz.prog F (CmpS (fun x : Stowed => Vd x.enc) c)))] (.tu []) [(.s 0, .row true 90 ((isort c l).map Stowed.enc))] := by
  refine FnX.of_AW hF hro hτ (K := [0]) Tryz.func235 rfl (by decide) rfl (Nat.le_of_ble_eq_true rfl) rfl rfl ?_
  have hq := f269 hF hro l c hl
  rw [show (l.length : Int) = ((l.map Stowed.enc).length : Nat) by simp] at hq
  (repeat' first | apply Wq | refine Ws hF hτ rfl ?_ | apply Wb | apply Wl | apply Wk | apply We | apply Wc | apply Wd | refine Wt rfl rfl ?_ | refine Wf rfl rfl ?_ | refine Wi rfl rfl (fun h => ?_) (fun h => ?_) | refine Wx hF hτ rfl rfl rfl rfl rfl rfl rfl rfl (fun h => ?_) (fun h => ?_) | apply Wn)
  refine AL.op rfl (OpTo.callX hF rfl rfl rfl rfl rfl rfl rfl (hq) rfl rfl rfl rfl rfl) ?_
  refine Wv hF hτ rfl ?_
  (repeat' first | apply Wq | refine Ws hF hτ rfl ?_ | apply Wb | apply Wl | apply Wk | apply We | apply Wc | apply Wd | refine Wt rfl rfl ?_ | refine Wf rfl rfl ?_ | refine Wi rfl rfl (fun h => ?_) (fun h => ?_) | refine Wx hF hτ rfl rfl rfl rfl rfl rfl rfl rfl (fun h => ?_) (fun h => ?_) | apply Wn)
  refine ⟨.inl rfl, rfl, ?_⟩
  (repeat' first | exact Sub.nil | refine Sub.put rfl ?_ | refine Sub.put ?_ ?_)
def aboveCmp (a b : Stowed) : Int := cmpZ b.slot.tier a.slot.tier
theorem f236 (hF : Wide F) (hro : F.round = none) (a b : Stowed) : FnV Tryz.prog F 236 [Vd a.enc, Vd b.enc] (Iv64 (aboveCmp a b)) := by
  refine FnV.of_AW hF hro hτ Tryz.func236 rfl (by decide) rfl (by simp [Tryz.f236]) ?_
  (repeat' first | apply Wq | refine Ws hF hτ rfl ?_ | apply Wb | apply Wl | apply Wk | apply We | apply Wn)
  refine AL.opM (OpM.call hF rfl rfl rfl rfl (f29 hF hro b.slot.tier a.slot.tier) rfl rfl rfl) rfl rfl ?_
  refine Wv hF hτ rfl ?_
  (repeat' first | apply Wq | refine Ws hF hτ rfl ?_ | apply Wb | apply Wl | apply Wk | apply We | apply Wc | apply Wd | refine Wt rfl rfl ?_ | refine Wf rfl rfl ?_ | refine Wi rfl rfl (fun h => ?_) (fun h => ?_) | refine Wx hF hτ rfl rfl rfl rfl rfl rfl rfl rfl (fun h => ?_) (fun h => ?_) | apply Wn)
  refine AW.ret ⟨.inr rfl, ?_⟩
  rfl
theorem f186 (hF : Wide F) (hro : F.round = none) (l : List Stowed) (hl : l.length ≤ 12) :
    FnX Tryz.prog F 186 1 [(.s 0, .row true 90 (l.map Stowed.enc))] (.row true 90 ((isort aboveCmp l).map Stowed.enc)) [] := by
  refine FnX.of_AW hF hro hτ (K := []) Tryz.func186 rfl (by decide) rfl (Nat.le_of_ble_eq_true rfl) rfl rfl ?_
  have hq2 : FnX Tryz.prog F 235 2 [(.s 0, .row true 90 (l.map Stowed.enc)), (.s 1, .fn 236 [])] (.tu []) [(.s 0, .row true 90 ((isort aboveCmp l).map Stowed.enc))] := by
    refine (f235 hF hro l aboveCmp hl).conseq ⟨rfl, .refl _, rfl, .fn (f236 hF hro ⟨0, ⟨0, 0, 0⟩⟩ ⟨0, ⟨0, 0, 0⟩⟩).callable rfl ?_, trivial⟩
    rintro vs r ⟨x, y, rfl, rfl⟩
    exact f236 hF hro x y
  (repeat' first | apply Wq | refine Ws hF hτ rfl ?_ | apply Wb | apply Wl | apply Wk | apply We | apply Wc | apply Wd | refine Wt rfl rfl ?_ | refine Wf rfl rfl ?_ | refine Wi rfl rfl (fun h => ?_) (fun h => ?_) | refine Wx hF hτ rfl rfl rfl rfl rfl rfl rfl rfl (fun h => ?_) (fun h => ?_) | apply Wn)
  refine AL.op rfl (OpTo.callX hF rfl rfl rfl rfl rfl rfl rfl (hq2) rfl rfl rfl rfl rfl) ?_
  refine Wv hF hτ rfl ?_
  (repeat' first | apply Wq | refine Ws hF hτ rfl ?_ | apply Wb | apply Wl | apply Wk | apply We | apply Wc | apply Wd | refine Wt rfl rfl ?_ | refine Wf rfl rfl ?_ | refine Wi rfl rfl (fun h => ?_) (fun h => ?_) | refine Wx hF hτ rfl rfl rfl rfl rfl rfl rfl rfl (fun h => ?_) (fun h => ?_) | apply Wn)
  refine AW.ret ⟨.inr rfl, rfl, Sub.nil⟩
theorem f238 (hF : Wide F) (hro : F.round = none) (l : List Stowed) (c : Stowed → Stowed → Int) (hl : l.length ≤ 12) :
    FnX Tryz.prog F 238 2 [(.s 0, .row true 90 (l.map Stowed.enc)), (.s 1, .raw (PFn Tryz.prog F (CmpS (fun x : Stowed => Vd x.enc) c)))] (.row true 90 ((isort c l).map Stowed.enc)) [] := by
  refine FnX.of_AW hF hro hτ (K := []) Tryz.func238 rfl (by decide) rfl (Nat.le_of_ble_eq_true rfl) rfl rfl ?_
  (repeat' first | apply Wq | refine Ws hF hτ rfl ?_ | apply Wb | apply Wl | apply Wk | apply We | apply Wc | apply Wd | refine Wt rfl rfl ?_ | refine Wf rfl rfl ?_ | refine Wi rfl rfl (fun h => ?_) (fun h => ?_) | refine Wx hF hτ rfl rfl rfl rfl rfl rfl rfl rfl (fun h => ?_) (fun h => ?_) | apply Wn)
  refine AL.op rfl (OpTo.callX hF rfl rfl rfl rfl rfl rfl rfl (f30 hF hro l c hl) rfl rfl rfl rfl rfl) ?_
  refine Wv hF hτ rfl ?_
  (repeat' first | apply Wq | refine Ws hF hτ rfl ?_ | apply Wb | apply Wl | apply Wk | apply We | apply Wc | apply Wd | refine Wt rfl rfl ?_ | refine Wf rfl rfl ?_ | refine Wi rfl rfl (fun h => ?_) (fun h => ?_) | refine Wx hF hτ rfl rfl rfl rfl rfl rfl rfl rfl (fun h => ?_) (fun h => ?_) | apply Wn)
  refine AW.ret ⟨.inr rfl, rfl, Sub.nil⟩
theorem f241 (hF : Wide F) (hro : F.round = none) (l : List Int) (c : Int → Int → Int) (hl : l.length ≤ 12) :
    FnX Tryz.prog F 241 2 [(.s 0, .row true 3 (ints l)), (.s 1, .raw (PFn Tryz.prog F (CmpS (fun x : Int => Iv64 x) c)))] (.row true 3 (ints (isort c l))) [] := by
  refine FnX.of_AW hF hro hτ (K := []) Tryz.func241 rfl (by decide) rfl (Nat.le_of_ble_eq_true rfl) rfl rfl ?_
  (repeat' first | apply Wq | refine Ws hF hτ rfl ?_ | apply Wb | apply Wl | apply Wk | apply We | apply Wc | apply Wd | refine Wt rfl rfl ?_ | refine Wf rfl rfl ?_ | refine Wi rfl rfl (fun h => ?_) (fun h => ?_) | refine Wx hF hτ rfl rfl rfl rfl rfl rfl rfl rfl (fun h => ?_) (fun h => ?_) | apply Wn)
  refine AL.op rfl (OpTo.callX hF rfl rfl rfl rfl rfl rfl rfl (f272 hF hro l c hl) rfl rfl rfl rfl rfl) ?_
  refine Wv hF hτ rfl ?_
  (repeat' first | apply Wq | refine Ws hF hτ rfl ?_ | apply Wb | apply Wl | apply Wk | apply We | apply Wc | apply Wd | refine Wt rfl rfl ?_ | refine Wf rfl rfl ?_ | refine Wi rfl rfl (fun h => ?_) (fun h => ?_) | refine Wx hF hτ rfl rfl rfl rfl rfl rfl rfl rfl (fun h => ?_) (fun h => ?_) | apply Wn)
  refine AW.ret ⟨.inr rfl, rfl, Sub.nil⟩
def noCol : Column := ⟨0, 0, false, 0, 0, 0, 0, 0, 0, 0, 0⟩
def colAt (s : Ship) (x : Stowed) : Column := s.cols.getD x.slot.col.toNat noCol
def Stowed.on (s : Ship) (x : Stowed) : Prop := ∃ k : Nat, x.slot.col = k ∧ k < s.cols.length
def inPart (s : Ship) (moved : List Int) (bay : Int) (deck : Bool) (x : Stowed) : Bool := ((colAt s x).bay == bay && (colAt s x).deck == deck) && moved.any (fun y => x.box == y)
def partOf (s : Ship) (l : List Stowed) (moved : List Int) (bay : Int) (deck : Bool) : List Stowed := isort stowedCmp (l.filter (inPart s moved bay deck))
set_option maxHeartbeats 2000000 in
theorem f187 (hF : Wide F) (hro : F.round = none) (s : Ship) (l : List Stowed) (moved : List Int) (bay : Int) (deck : Bool) (hs : s.small) (hl : l.length ≤ 12) (hm : moved.length ≤ 1000) (hon : ∀ x ∈ l, x.on s) :
    FnV Tryz.prog F 187 [Vd s.enc, Vs (l.map Stowed.enc), Vs (ints moved), Iv64 bay, Vb deck] (.row true 90 ((partOf s l moved bay deck).map Stowed.enc)) := by
  refine FnV.of_AW hF hro hτ Tryz.func187 rfl (by decide) rfl (by simp [Tryz.f187]) ?_
  (repeat' first | apply Wq | refine Ws hF hτ rfl ?_ | apply Wb | apply Wl | apply Wk | apply We | apply Wc | apply Wd | refine Wt rfl rfl ?_ | refine Wf rfl rfl ?_ | refine Wi rfl rfl (fun h => ?_) (fun h => ?_) | refine Wx hF hτ rfl rfl rfl rfl rfl rfl rfl rfl (fun h => ?_) (fun h => ?_) | apply Wn)
  refine AW.range hF rfl rfl rfl rfl rfl rfl rfl rfl rfl (l.map Stowed.enc).length (by simp [lim]; omega) (fun k => [(.s 15, Vs (l.map Stowed.enc)), (.s 5, .bx 35 (s.enc.map .d)), (.s 2, Vs (ints moved)), (.s 3, Iv64 bay), (.s 4, Vb deck), (.s 11, .row true 90 (((l.take k).filter (inPart s moved bay deck)).map Stowed.enc))]) ?_ ?_ (fun k hk => ?_) ?_
  · exact fun k => rfl
  · (repeat' first | exact Sub.nil | refine Sub.put rfl ?_ | refine Sub.put ?_ ?_)
  · obtain ⟨x, hx⟩ := get_ex hk
    obtain ⟨q, hq1, hq2⟩ := hon x (List.mem_of_getElem? hx)
    obtain ⟨c, hc⟩ : ∃ c, s.cols[q]? = some c := ⟨_, List.getElem?_eq_getElem hq2⟩
    have hcol : colAt s x = c := by rw [colAt, hq1, List.getD_eq_getElem?_getD]; show (s.cols[q]?).getD noCol = c; rw [hc]; rfl
    have hk' : k < l.length := by simpa using hk
    have hsn : (l.take (k + 1)).filter (inPart s moved bay deck) = (l.take k).filter (inPart s moved bay deck) ++ if inPart s moved bay deck x then [x] else [] := by
      rw [take_snoc hx, List.filter_append]; simp [List.filter_cons]
    have hlen : ((l.take k).filter (inPart s moved bay deck)).length ≤ 1000 := by
      have := List.length_filter_le (inPart s moved bay deck) (l.take k)
      rw [List.length_take] at this
      omega
    have hin : inPart s moved bay deck x = ((c.bay == bay && c.deck == deck) && moved.any (fun y => x.box == y)) := by rw [inPart, hcol]
    generalize (l.take k).filter (inPart s moved bay deck) = acc at hsn hlen
    (repeat' first | apply Wq | refine Ws hF hτ rfl ?_ | apply Wb | apply Wl | apply Wk | apply We | apply Wn)
    refine AL.opM (OpM.indexD hF rfl (hτ _ _ rfl) rfl (hτ _ _ rfl) rfl (i := k) rfl ( get_enc Stowed.enc hx) rfl rfl rfl) rfl rfl ?_
    refine Wv hF hτ rfl ?_
    (repeat' first | apply Wq | refine Ws hF hτ rfl ?_ | apply Wb | apply Wl | apply Wk | apply We | apply Wc | apply Wd | refine Wt rfl rfl ?_ | refine Wf rfl rfl ?_ | refine Wi rfl rfl (fun h => ?_) (fun h => ?_) | refine Wx hF hτ rfl rfl rfl rfl rfl rfl rfl rfl (fun h => ?_) (fun h => ?_) | apply Wn)
    refine AL.opM (OpM.indexD hF rfl (hτ _ _ rfl) rfl (hτ _ _ rfl) rfl (i := q) (by exact congrArg (fun z => some (IntKind.i64, z)) hq1) (get_enc Column.enc hc) rfl rfl rfl) rfl rfl ?_
    refine Wv hF hτ rfl ?_
    (repeat' first | apply Wq | refine Ws hF hτ rfl ?_ | apply Wb | apply Wl | apply Wk | apply We | apply Wc | apply Wd | refine Wt rfl rfl ?_ | refine Wf rfl rfl ?_ | refine Wi rfl rfl (fun h => ?_) (fun h => ?_) | refine Wx hF hτ rfl rfl rfl rfl rfl rfl rfl rfl (fun h => ?_) (fun h => ?_) | apply Wn)
    · refine AL.opMT (OpM.call hF rfl rfl rfl rfl (f237 hF hro moved x.box hm) rfl rfl rfl) rfl rfl rfl rfl rfl rfl ?_
      refine Wv hF hτ rfl ?_
      (repeat' first | apply Wq | refine Ws hF hτ rfl ?_ | apply Wb | apply Wl | apply Wk | apply We | apply Wc | apply Wd | refine Wt rfl rfl ?_ | refine Wf rfl rfl ?_ | refine Wi rfl rfl (fun h => ?_) (fun h => ?_) | refine Wx hF hτ rfl rfl rfl rfl rfl rfl rfl rfl (fun h => ?_) (fun h => ?_) | apply Wn)
      · refine AL.opM (OpM.buildSlice hF rfl (hτ _ _ rfl) rfl (hτ _ _ rfl) rfl rfl rfl (by decide) (by decide) rfl rfl) rfl rfl ?_
        refine AL.op rfl (OpTo.append hF rfl rfl rfl rfl (hτ _ _ rfl) rfl (hτ _ _ rfl) rfl rfl rfl rfl (by intro cs h; cases h with | head => rfl | tail _ h => cases h) (by simp [Base.xs, chunks, lim]; omega) (by simp [Base.xs, chunks, lim]; omega) rfl rfl rfl) ?_
        refine Wv hF hτ rfl ?_
        (repeat' first | apply Wq | refine Ws hF hτ rfl ?_ | apply Wb | apply Wl | apply Wk | apply We | apply Wc | apply Wd | refine Wt rfl rfl ?_ | refine Wf rfl rfl ?_ | refine Wi rfl rfl (fun h => ?_) (fun h => ?_) | refine Wx hF hτ rfl rfl rfl rfl rfl rfl rfl rfl (fun h => ?_) (fun h => ?_) | apply Wn)
        (repeat' first | exact Sub.nil | refine Sub.put rfl ?_ | refine Sub.put ?_ ?_)
        rename_i h1 h2
        refine congrArg (fun z => some (V.row true 90 z)) ?_
        rw [hsn, if_pos (by rw [hin, h1, h2]; exact h)]
        simp [chunks]
        rfl
      · (repeat' first | exact Sub.nil | refine Sub.put rfl ?_ | refine Sub.put ?_ ?_)
        rename_i h1 h2
        refine congrArg (fun z => some (V.row true 90 z)) ?_
        rw [hsn, if_neg (by rw [hin, h1, h2]; intro e; exact Bool.noConfusion (e.symm.trans h)), List.append_nil]
    · (repeat' first | exact Sub.nil | refine Sub.put rfl ?_ | refine Sub.put ?_ ?_)
      rename_i h1
      refine congrArg (fun z => some (V.row true 90 z)) ?_
      rw [hsn, if_neg (by rw [hin, h, h1]; intro e; cases e), List.append_nil]
    · (repeat' first | exact Sub.nil | refine Sub.put rfl ?_ | refine Sub.put ?_ ?_)
      refine congrArg (fun z => some (V.row true 90 z)) ?_
      rw [hsn, if_neg (by rw [hin, h]; simp), List.append_nil]
  · rw [show List.take (l.map Stowed.enc).length l = l by simp, partOf]
    have hlen : (l.filter (inPart s moved bay deck)).length ≤ 12 := Nat.le_trans (List.length_filter_le _ _) hl
    generalize l.filter (inPart s moved bay deck) = acc at hlen
    have hq2 : FnX Tryz.prog F 238 2 [(.s 0, .row true 90 (acc.map Stowed.enc)), (.s 1, .fn 239 [])] (.row true 90 ((isort stowedCmp acc).map Stowed.enc)) [] := by
      refine (f238 hF hro acc stowedCmp hlen).conseq ⟨rfl, .refl _, rfl, .fn (f239 hF hro ⟨0, ⟨0, 0, 0⟩⟩ ⟨0, ⟨0, 0, 0⟩⟩).callable rfl ?_, trivial⟩
      rintro vs r ⟨x, y, rfl, rfl⟩
      exact f239 hF hro x y
    (repeat' first | apply Wq | refine Ws hF hτ rfl ?_ | apply Wb | apply Wl | apply Wk | apply We | apply Wc | apply Wd | refine Wt rfl rfl ?_ | refine Wf rfl rfl ?_ | refine Wi rfl rfl (fun h => ?_) (fun h => ?_) | refine Wx hF hτ rfl rfl rfl rfl rfl rfl rfl rfl (fun h => ?_) (fun h => ?_) | apply Wn)
    refine AL.op rfl (OpTo.callX hF rfl rfl rfl rfl rfl rfl rfl (hq2) rfl rfl rfl rfl rfl) ?_
    refine Wv hF hτ rfl ?_
    (repeat' first | apply Wq | refine Ws hF hτ rfl ?_ | apply Wb | apply Wl | apply Wk | apply We | apply Wc | apply Wd | refine Wt rfl rfl ?_ | refine Wf rfl rfl ?_ | refine Wi rfl rfl (fun h => ?_) (fun h => ?_) | refine Wx hF hτ rfl rfl rfl rfl rfl rfl rfl rfl (fun h => ?_) (fun h => ?_) | apply Wn)
    refine AW.ret ⟨.inr rfl, ?_⟩
    rfl
end Go.Proofs.VL
namespace Go.Proofs.VL
open Go Go.RowKit
variable {F : Fence}
def addCover (s : Ship) (acc : List Int) (x : Stowed) : List Int := if decide (0 ≤ coverOf s (colAt s x)) && !(acc.any fun y => coverOf s (colAt s x) == y) then acc ++ [coverOf s (colAt s x)] else acc
def coversFor (s : Ship) (moved : List Int) (bay : Int) (acc : List Int) (l : List Stowed) : List Int := (partOf s l moved bay false).foldl (addCover s) acc
def rawNeed (s : Ship) (b a : List Stowed) (moved : List Int) (bay : Int) : List Int := [b, a].foldl (coversFor s moved bay) []
def needed (s : Ship) (b a : List Stowed) (moved : List Int) (bay : Int) : List Int := isort cmpZ (rawNeed s b a moved bay)
theorem addCover_len (s : Ship) : ∀ (l : List Stowed) (acc : List Int), (l.foldl (addCover s) acc).length ≤ acc.length + l.length
  | [], acc => by simp
  | x :: l, acc => by
    have h1 := addCover_len s l (addCover s acc x)
    have h2 : (addCover s acc x).length ≤ acc.length + 1 := by
      simp only [addCover]; split <;> simp
    simp only [List.foldl_cons, List.length_cons]
    omega
theorem partOf_len (s : Ship) (l : List Stowed) (moved : List Int) (bay : Int) (deck : Bool) : (partOf s l moved bay deck).length ≤ l.length := by
  rw [partOf, (isort_perm _ _).length_eq]
  exact List.length_filter_le _ _
theorem partOf_mem {s : Ship} {l : List Stowed} {moved : List Int} {bay : Int} {deck : Bool} {x : Stowed} (h : x ∈ partOf s l moved bay deck) : x ∈ l :=
  (List.mem_filter.1 ((isort_perm _ _).mem_iff.1 h)).1
def encS (l : List Stowed) : List D := [.sl (l.map Stowed.enc)]
set_option maxHeartbeats 2000000 in
theorem f188 (hF : Wide F) (hro : F.round = none) (s : Ship) (b a : List Stowed) (moved : List Int) (bay : Int) (hs : s.small) (hb : b.length ≤ 12) (ha : a.length ≤ 12) (hm : moved.length ≤ 1000) (hbn : ∀ x ∈ b, x.on s) (han : ∀ x ∈ a, x.on s) (hn : (rawNeed s b a moved bay).length ≤ 12) :
    FnV Tryz.prog F 188 [Vd s.enc, Vs (b.map Stowed.enc), Vs (a.map Stowed.enc), Vs (ints moved), Iv64 bay] (.row true 3 (ints (needed s b a moved bay))) := by
  refine FnV.of_AW hF hro hτ Tryz.func188 rfl (by decide) rfl (by simp [Tryz.f188]) ?_
  (repeat' first | apply Wq | refine Ws hF hτ rfl ?_ | apply Wb | apply Wl | apply Wk | apply We | apply Wc | apply Wd | refine Wt rfl rfl ?_ | refine Wf rfl rfl ?_ | refine Wi rfl rfl (fun h => ?_) (fun h => ?_) | refine Wx hF hτ rfl rfl rfl rfl rfl rfl rfl rfl (fun h => ?_) (fun h => ?_) | apply Wn)
  refine AL.opM (OpM.buildSlice hF rfl (hτ _ _ rfl) rfl (hτ _ _ rfl) rfl rfl rfl (by decide) (by decide) rfl rfl) rfl rfl ?_
  refine AL.ent (Ent.frzs (ls := [.s 19]) rfl) ?_
  refine Wv hF hτ rfl ?_
  (repeat' first | apply Wq | refine Ws hF hτ rfl ?_ | apply Wb | apply Wl | apply Wk | apply We | apply Wc | apply Wd | refine Wt rfl rfl ?_ | refine Wf rfl rfl ?_ | refine Wi rfl rfl (fun h => ?_) (fun h => ?_) | refine Wx hF hτ rfl rfl rfl rfl rfl rfl rfl rfl (fun h => ?_) (fun h => ?_) | apply Wn)
  have hlist : ∀ l ∈ [b, a], l.length ≤ 12 ∧ ∀ x ∈ l, x.on s := by
    intro l hl
    simp at hl
    rcases hl with rfl | rfl
    · exact ⟨hb, hbn⟩
    · exact ⟨ha, han⟩
  have hacc : ∀ k, (([b, a].take k).foldl (coversFor s moved bay) []).length ≤ 12 * k := by
    intro k
    have gen : ∀ (ls : List (List Stowed)) (acc : List Int), (∀ l ∈ ls, l.length ≤ 12) → (ls.foldl (coversFor s moved bay) acc).length ≤ acc.length + 12 * ls.length := by
      intro ls
      induction ls with
      | nil => intro acc _; simp
      | cons l ls ih =>
        intro acc h
        have h1 := ih (coversFor s moved bay acc l) (fun l hl => h l (.tail _ hl))
        have h2 := addCover_len s (partOf s l moved bay false) acc
        have h3 := partOf_len s l moved bay false
        have h4 := h l (.head _)
        simp only [List.foldl_cons, List.length_cons]
        unfold coversFor at h1 h2 ⊢
        omega
    have := gen ([b, a].take k) [] (fun l hl => (hlist l (List.mem_of_mem_take hl)).1)
    rw [List.length_take] at this
    simp at this
    omega
  refine AW.range hF rfl rfl rfl rfl rfl rfl rfl rfl rfl 2 (by decide) (fun k => [(.s 19, Vs ([b, a].map encS)), (.s 5, .bx 35 (s.enc.map .d)), (.s 3, Vs (ints moved)), (.s 4, Iv64 bay), (.s 11, .row true 3 (ints (([b, a].take k).foldl (coversFor s moved bay) [])))]) ?_ ?_ (fun k hk => ?_) ?_
  · exact fun k => rfl
  · (repeat' first | exact Sub.nil | refine Sub.put rfl ?_ | refine Sub.put ?_ ?_)
  · obtain ⟨l, hl⟩ : ∃ l, [b, a][k]? = some l := ⟨_, List.getElem?_eq_getElem (by simpa using hk)⟩
    obtain ⟨hll, hlo⟩ := hlist l (List.mem_of_getElem? hl)
    have hsn : ([b, a].take (k + 1)).foldl (coversFor s moved bay) [] = coversFor s moved bay (([b, a].take k).foldl (coversFor s moved bay) []) l := by
      rw [take_snoc hl, List.foldl_append]; rfl
    have hal := hacc k
    generalize ([b, a].take k).foldl (coversFor s moved bay) [] = acc at hsn hal
    (repeat' first | apply Wq | refine Ws hF hτ rfl ?_ | apply Wb | apply Wl | apply Wk | apply We | apply Wn)
    refine AL.opM (OpM.indexD hF rfl (hτ _ _ rfl) rfl (hτ _ _ rfl) rfl (i := k) rfl ( get_enc encS hl) rfl rfl rfl) rfl rfl ?_
    refine Wv hF hτ rfl ?_
    (repeat' first | apply Wq | refine Ws hF hτ rfl ?_ | apply Wb | apply Wl | apply Wk | apply We | apply Wc | apply Wd | refine Wt rfl rfl ?_ | refine Wf rfl rfl ?_ | refine Wi rfl rfl (fun h => ?_) (fun h => ?_) | refine Wx hF hτ rfl rfl rfl rfl rfl rfl rfl rfl (fun h => ?_) (fun h => ?_) | apply Wn)
    refine AL.opM (OpM.call hF rfl rfl rfl rfl (f187 hF hro s l moved bay false hs hll hm hlo) rfl rfl rfl) rfl rfl ?_
    refine AL.ent (Ent.frzs (ls := [.s 29]) rfl) ?_
    refine Wv hF hτ rfl ?_
    (repeat' first | apply Wq | refine Ws hF hτ rfl ?_ | apply Wb | apply Wl | apply Wk | apply We | apply Wc | apply Wd | refine Wt rfl rfl ?_ | refine Wf rfl rfl ?_ | refine Wi rfl rfl (fun h => ?_) (fun h => ?_) | refine Wx hF hτ rfl rfl rfl rfl rfl rfl rfl rfl (fun h => ?_) (fun h => ?_) | apply Wn)
    rw [coversFor] at hsn
    have hpl := partOf_len s l moved bay false
    have hpo : ∀ x ∈ partOf s l moved bay false, x.on s := fun x hx => hlo x (partOf_mem hx)
    generalize partOf s l moved bay false = p at hsn hpl hpo
    refine AW.range hF rfl rfl rfl rfl rfl rfl rfl rfl rfl (p.map Stowed.enc).length (by simp [lim]; omega) (fun j => [(.s 29, Vs (p.map Stowed.enc)), (.s 20, Iv64 2), (.s 21, Iv64 k), (.s 19, Vs ([b, a].map encS)), (.s 5, .bx 35 (s.enc.map .d)), (.s 3, Vs (ints moved)), (.s 4, Iv64 bay), (.s 11, .row true 3 (ints ((p.take j).foldl (addCover s) acc)))]) ?_ ?_ (fun j hj => ?_) ?_
    · exact fun k => rfl
    · (repeat' first | exact Sub.nil | refine Sub.put rfl ?_ | refine Sub.put ?_ ?_)
    · obtain ⟨x, hx⟩ := get_ex hj
      obtain ⟨q, hq1, hq2⟩ := hpo x (List.mem_of_getElem? hx)
      obtain ⟨c, hc⟩ : ∃ c, s.cols[q]? = some c := ⟨_, List.getElem?_eq_getElem hq2⟩
      have hcol : colAt s x = c := by rw [colAt, hq1, List.getD_eq_getElem?_getD]; show (s.cols[q]?).getD noCol = c; rw [hc]; rfl
      have hsn2 : (p.take (j + 1)).foldl (addCover s) acc = addCover s ((p.take j).foldl (addCover s) acc) x := by rw [take_snoc hx, List.foldl_append]; rfl
      have hal2 := addCover_len s (p.take j) acc
      have hj' : j < p.length := by simpa using hj
      rw [List.length_take] at hal2
      rw [addCover, hcol] at hsn2
      generalize (p.take j).foldl (addCover s) acc = ac2 at hsn2 hal2
      have hkk : k < 2 := hk
      have h107 := f107 hF hro s q c hc hs
      rw [← hq1] at h107
      (repeat' first | apply Wq | refine Ws hF hτ rfl ?_ | apply Wb | apply Wl | apply Wk | apply We | apply Wn)
      refine AL.opM (OpM.indexD hF rfl (hτ _ _ rfl) rfl (hτ _ _ rfl) rfl (i := j) rfl ( get_enc Stowed.enc hx) rfl rfl rfl) rfl rfl ?_
      refine Wv hF hτ rfl ?_
      (repeat' first | apply Wq | refine Ws hF hτ rfl ?_ | apply Wb | apply Wl | apply Wk | apply We | apply Wc | apply Wd | refine Wt rfl rfl ?_ | refine Wf rfl rfl ?_ | refine Wi rfl rfl (fun h => ?_) (fun h => ?_) | refine Wx hF hτ rfl rfl rfl rfl rfl rfl rfl rfl (fun h => ?_) (fun h => ?_) | apply Wn)
      refine AL.opM (OpM.call hF rfl rfl rfl rfl (h107) rfl rfl rfl) rfl rfl ?_
      refine Wv hF hτ rfl ?_
      (repeat' first | apply Wq | refine Ws hF hτ rfl ?_ | apply Wb | apply Wl | apply Wk | apply We | apply Wc | apply Wd | refine Wt rfl rfl ?_ | refine Wf rfl rfl ?_ | refine Wi rfl rfl (fun h => ?_) (fun h => ?_) | refine Wx hF hτ rfl rfl rfl rfl rfl rfl rfl rfl (fun h => ?_) (fun h => ?_) | apply Wn)
      · refine AL.opMT (OpM.callB hF rfl rfl rfl rfl ((f237 hF hro ac2 (coverOf s c) (by omega))) rfl rfl rfl rfl) rfl rfl rfl rfl rfl rfl ?_
        refine Wv hF hτ rfl ?_
        (repeat' first | apply Wq | refine Ws hF hτ rfl ?_ | apply Wb | apply Wl | apply Wk | apply We | apply Wc | apply Wd | refine Wt rfl rfl ?_ | refine Wf rfl rfl ?_ | refine Wi rfl rfl (fun h => ?_) (fun h => ?_) | refine Wx hF hτ rfl rfl rfl rfl rfl rfl rfl rfl (fun h => ?_) (fun h => ?_) | apply Wn)
        · refine AL.opM (OpM.buildSlice hF rfl (hτ _ _ rfl) rfl (hτ _ _ rfl) rfl rfl rfl (by decide) (by decide) rfl rfl) rfl rfl ?_
          refine AL.op rfl (OpTo.append hF rfl rfl rfl rfl (hτ _ _ rfl) rfl (hτ _ _ rfl) rfl rfl rfl rfl (by intro cs h; cases h with | head => rfl | tail _ h => cases h) (by simp [Base.xs, ints, chunks, lim]; omega) (by simp [Base.xs, ints, chunks, lim]; omega) rfl rfl rfl) ?_
          refine Wv hF hτ rfl ?_
          (repeat' first | apply Wq | refine Ws hF hτ rfl ?_ | apply Wb | apply Wl | apply Wk | apply We | apply Wc | apply Wd | refine Wt rfl rfl ?_ | refine Wf rfl rfl ?_ | refine Wi rfl rfl (fun h => ?_) (fun h => ?_) | refine Wx hF hτ rfl rfl rfl rfl rfl rfl rfl rfl (fun h => ?_) (fun h => ?_) | apply Wn)
          (repeat' first | exact Sub.nil | refine Sub.put rfl ?_ | refine Sub.put ?_ ?_)
          rename_i h1
          refine congrArg (fun z => some (V.row true 3 z)) ?_
          rw [hsn2, if_pos (by rw [h1]; exact h)]
          simp [ints, chunks]
        · (repeat' first | exact Sub.nil | refine Sub.put rfl ?_ | refine Sub.put ?_ ?_)
          rename_i h1
          refine congrArg (fun z => some (V.row true 3 z)) ?_
          rw [hsn2, if_neg (by rw [h1]; intro e; exact Bool.noConfusion (e.symm.trans h))]
      · (repeat' first | exact Sub.nil | refine Sub.put rfl ?_ | refine Sub.put ?_ ?_)
        refine congrArg (fun z => some (V.row true 3 z)) ?_
        rw [hsn2, if_neg (by rw [h]; intro e; cases e)]
    · (repeat' first | exact Sub.nil | refine Sub.put rfl ?_ | refine Sub.put ?_ ?_)
      refine congrArg (fun z => some (V.row true 3 z)) ?_
      rw [hsn, show List.take (p.map Stowed.enc).length p = p by simp]
  · rw [needed]
    have e : List.foldl (coversFor s moved bay) [] (List.take 2 [b, a]) = rawNeed s b a moved bay := rfl
    rw [e]
    generalize rawNeed s b a moved bay = acc at hn
    have hq2 : FnX Tryz.prog F 241 2 [(.s 0, .row true 3 (ints acc)), (.s 1, .fn 29 [])] (.row true 3 (ints (isort cmpZ acc))) [] := by
      refine (f241 hF hro acc cmpZ hn).conseq ⟨rfl, .refl _, rfl, .fn (f29 hF hro 0 0).callable rfl ?_, trivial⟩
      rintro vs r ⟨x, y, rfl, rfl⟩
      exact f29 hF hro x y
    (repeat' first | apply Wq | refine Ws hF hτ rfl ?_ | apply Wb | apply Wl | apply Wk | apply We | apply Wc | apply Wd | refine Wt rfl rfl ?_ | refine Wf rfl rfl ?_ | refine Wi rfl rfl (fun h => ?_) (fun h => ?_) | refine Wx hF hτ rfl rfl rfl rfl rfl rfl rfl rfl (fun h => ?_) (fun h => ?_) | apply Wn)
    refine AL.op rfl (OpTo.callX hF rfl rfl rfl rfl rfl rfl rfl (hq2) rfl rfl rfl rfl rfl) ?_
    refine Wv hF hτ rfl ?_
    (repeat' first | apply Wq | refine Ws hF hτ rfl ?_ | apply Wb | apply Wl | apply Wk | apply We | apply Wc | apply Wd | refine Wt rfl rfl ?_ | refine Wf rfl rfl ?_ | refine Wi rfl rfl (fun h => ?_) (fun h => ?_) | refine Wx hF hτ rfl rfl rfl rfl rfl rfl rfl rfl (fun h => ?_) (fun h => ?_) | apply Wn)
    refine AW.ret ⟨.inr rfl, ?_⟩
    rfl
end Go.Proofs.VL
namespace Go.Proofs.VL
open Go Go.RowKit
variable {F : Fence}
def slot0 : Slot := ⟨0, 0, 0⟩
def stow0 : Stowed := ⟨0, slot0⟩
def stowOf (l : List Stowed) (id : Int) : Option Stowed := l.find? (fun x => x.box == id)
def slotOf (l : List Stowed) (id : Int) : Option Slot := (stowOf l id).map (·.slot)
theorem f55 (hF : Wide F) (hro : F.round = none) (l : List Stowed) (id : Int) (hl : l.length ≤ 1000) :
    FnV Tryz.prog F 55 [Vs (l.map Stowed.enc), Iv64 id] (.tu [Vd ((slotOf l id).getD slot0).enc, Vb (slotOf l id).isSome]) := by
  refine FnV.of_AW hF hro hτ Tryz.func55 rfl (by decide) rfl (by simp [Tryz.f55]) ?_
  (repeat' first | apply Wq | refine Ws hF hτ rfl ?_ | apply Wb | apply Wl | apply Wk | apply We | apply Wn)
  refine AL.ent (Ent.frzs (ls := [.s 3]) rfl) ?_
  refine AL.opM (OpM.call hF rfl rfl rfl rfl ((f109 hF hro l (fun b => b.box == id) hl).conseq (vs' := [Vs (l.map Stowed.enc), .fn 110 [.rp [di id] 0]]) ⟨.refl _, .fn (f110 hF hro stow0 id).callable rfl ?_, trivial⟩) rfl rfl rfl) rfl rfl ?_
  · rintro vs r ⟨c, rfl, rfl⟩
    exact f110 hF hro c id
  refine Wv hF hτ rfl (Wn ?_)
  rcases idxFrom_cases (fun b : Stowed => b.box == id) l 0 with ⟨h1, h2⟩ | ⟨i, x, h1, h2, h3⟩
  · rw [h1]
    (repeat' first | apply Wq | refine Ws hF hτ rfl ?_ | apply Wb | apply Wl | apply Wk | apply We | apply Wc | apply Wd | refine Wt rfl rfl ?_ | refine Wf rfl rfl ?_ | refine Wi rfl rfl (fun h => ?_) (fun h => ?_) | refine Wx hF hτ rfl rfl rfl rfl rfl rfl rfl rfl (fun h => ?_) (fun h => ?_) | apply Wn)
    refine AW.ret ⟨.inr rfl, ?_⟩
    rw [slotOf, stowOf, h2]; rfl
  · rw [h1, Nat.zero_add]
    (repeat' first | apply Wq | refine Ws hF hτ rfl ?_ | apply Wb | apply Wl | apply Wk | apply We | apply Wc | apply Wd | refine Wt rfl rfl ?_ | refine Wf rfl rfl ?_ | refine Wi rfl rfl (fun h => ?_) (fun h => ?_) | refine Wx hF hτ rfl rfl rfl rfl rfl rfl rfl rfl (fun h => ?_) (fun h => ?_) | apply Wn)
    refine AL.opM (OpM.indexD hF rfl (hτ _ _ rfl) rfl (hτ _ _ rfl) rfl (i := i) rfl ( get_enc Stowed.enc h2) rfl rfl rfl) rfl rfl ?_
    refine Wv hF hτ rfl ?_
    refine AL.nil ?_
    refine AW.ret ⟨.inr rfl, ?_⟩
    rw [slotOf, stowOf, h3]; rfl
theorem f177 (hF : Wide F) (hro : F.round = none) (l : List Slot) (x : Slot) (h : Int) (hl : l.length ≤ 1000) (ht : 0 ≤ x.tier) (ht2 : x.tier ≤ 100000) :
    FnV Tryz.prog F 177 [.d (du h), .rp [.sl (l.map Slot.enc)] 0, .rp x.enc 0] (Vb (l.any fun y => Slot.same ⟨x.col, x.tier - 1, h⟩ y)) := by
  have hw : IntKind.wrap .i64 (x.tier - 1) = x.tier - 1 := wrap_id (by omega) (by omega)
  have hq := f178 hF hro l ⟨x.col, IntKind.wrap .i64 (x.tier - 1), h⟩ hl
  refine FnV.of_AW hF hro hτ Tryz.func177 rfl (by decide) rfl (by simp [Tryz.f177]) ?_
  (repeat' first | apply Wq | refine Ws hF hτ rfl ?_ | apply Wb | apply Wl | apply Wk | apply We | apply Wc | apply Wd | refine Wt rfl rfl ?_ | refine Wf rfl rfl ?_ | refine Wi rfl rfl (fun h => ?_) (fun h => ?_) | refine Wx hF hτ rfl rfl rfl rfl rfl rfl rfl rfl (fun h => ?_) (fun h => ?_) | apply Wn)
  refine AL.opM (OpM.call hF rfl rfl rfl rfl (hq) rfl rfl rfl) rfl rfl ?_
  refine Wv hF hτ rfl ?_
  (repeat' first | apply Wq | refine Ws hF hτ rfl ?_ | apply Wb | apply Wl | apply Wk | apply We | apply Wc | apply Wd | refine Wt rfl rfl ?_ | refine Wf rfl rfl ?_ | refine Wi rfl rfl (fun h => ?_) (fun h => ?_) | refine Wx hF hτ rfl rfl rfl rfl rfl rfl rfl rfl (fun h => ?_) (fun h => ?_) | apply Wn)
  refine AW.ret ⟨.inr rfl, congrArg (fun z => some (Vb z)) ?_⟩
  rw [hw]
theorem Imp.kt {P : Program} : Imp P .kt (Vb true) := by
  intro w N L T c S hNL h
  cases h with
  | kt => exact .d _ _ _ (.sc _ rfl)
theorem Imp.kf {P : Program} : Imp P .kf (Vb false) := by
  intro w N L T c S hNL h
  cases h with
  | kf => exact .d _ _ _ (.sc _ rfl)
def held (l : List Slot) (x : Slot) : Bool := decide (x.tier ≤ 0) || ((l.any fun y => Slot.same ⟨x.col, x.tier - 1, x.half⟩ y) || (x.half == 0 && (l.any fun y => Slot.same ⟨x.col, x.tier - 1, 1⟩ y) && (l.any fun y => Slot.same ⟨x.col, x.tier - 1, 2⟩ y)))
theorem f100 (hF : Wide F) (hro : F.round = none) (l : List Slot) (x : Slot) (hl : l.length ≤ 1000) (ht2 : x.tier ≤ 100000) :
    FnV Tryz.prog F 100 [Vd x.enc, Vs (l.map Slot.enc)] (Vb (held l x)) := by
  refine FnV.of_AW hF hro hτ Tryz.func100 rfl (by decide) rfl (by simp [Tryz.f100]) ?_
  (repeat' first | apply Wq | refine Ws hF hτ rfl ?_ | apply Wb | apply Wl | apply Wk | apply We | apply Wc | apply Wd | refine Wt rfl rfl ?_ | refine Wf rfl rfl ?_ | refine Wi rfl rfl (fun h => ?_) (fun h => ?_) | refine Wx hF hτ rfl rfl rfl rfl rfl rfl rfl rfl (fun h => ?_) (fun h => ?_) | apply Wn)
  · refine AW.ret ⟨.inr rfl, congrArg (fun z => some (Vb z)) ?_⟩
    rw [held, h, Bool.true_or]
  · have h0 : 0 ≤ x.tier := by have := of_decide_eq_false h; omega
    refine AL.ent (Ent.frzs (ls := [.s 3, .s 2]) rfl) ?_
    refine AL.opM (OpM.call hF rfl rfl rfl rfl (f177 hF hro l x x.half hl h0 ht2) rfl rfl rfl) rfl rfl ?_
    refine Wv hF hτ rfl ?_
    (repeat' first | apply Wq | refine Ws hF hτ rfl ?_ | apply Wb | apply Wl | apply Wk | apply We | apply Wc | apply Wd | refine Wt rfl rfl ?_ | refine Wf rfl rfl ?_ | refine Wi rfl rfl (fun h => ?_) (fun h => ?_) | refine Wx hF hτ rfl rfl rfl rfl rfl rfl rfl rfl (fun h => ?_) (fun h => ?_) | apply Wn)
    · refine AW.ent (Ent.imp (l := .s 4) rfl Imp.kt) ?_
      refine AW.ret ⟨.inr rfl, congrArg (fun z => some (Vb z)) ?_⟩
      rw [held, h, Bool.true_or, Bool.or_true]
    · refine AL.opMT (OpM.call hF rfl rfl rfl rfl (f177 hF hro l x 1 hl h0 ht2) rfl rfl rfl) rfl rfl rfl rfl rfl rfl ?_
      refine Wv hF hτ rfl ?_
      (repeat' first | apply Wq | refine Ws hF hτ rfl ?_ | apply Wb | apply Wl | apply Wk | apply We | apply Wc | apply Wd | refine Wt rfl rfl ?_ | refine Wf rfl rfl ?_ | refine Wi rfl rfl (fun h => ?_) (fun h => ?_) | refine Wx hF hτ rfl rfl rfl rfl rfl rfl rfl rfl (fun h => ?_) (fun h => ?_) | apply Wn)
      · refine AL.opMT (OpM.call hF rfl rfl rfl rfl (f177 hF hro l x 2 hl h0 ht2) rfl rfl rfl) rfl rfl rfl rfl rfl rfl ?_
        refine Wv hF hτ rfl ?_
        (repeat' first | apply Wq | refine Ws hF hτ rfl ?_ | apply Wb | apply Wl | apply Wk | apply We | apply Wc | apply Wd | refine Wt rfl rfl ?_ | refine Wf rfl rfl ?_ | refine Wi rfl rfl (fun h => ?_) (fun h => ?_) | refine Wx hF hτ rfl rfl rfl rfl rfl rfl rfl rfl (fun h => ?_) (fun h => ?_) | apply Wn)
        refine AW.ret ⟨.inr rfl, congrArg (fun z => some (Vb z)) ?_⟩
        rename_i h1 h2 h3
        rw [held, h1, h2, h3, h]
        simp
      · refine AW.ent (Ent.imp (l := .s 4) rfl Imp.kf) ?_
        refine AW.ret ⟨.inr rfl, congrArg (fun z => some (Vb z)) ?_⟩
        rename_i h1 h2 h3
        rw [held, h1, h2, h3, h]
        simp
    · refine AW.ent (Ent.imp (l := .s 4) rfl Imp.kf) ?_
      refine AW.ret ⟨.inr rfl, congrArg (fun z => some (Vb z)) ?_⟩
      rename_i h1 h2
      rw [held, h1, h2, h]
      simp
end Go.Proofs.VL
namespace Go.Proofs.VL
open Go Go.RowKit
variable {F : Fence}
def slotRight (s : Ship) (x : Slot) (size : Int) : Bool :=
  (((decide (0 ≤ x.col) && decide (x.col < (s.cols.length : Int))) && decide (0 ≤ x.tier)) && decide (x.tier < (s.cols.getD x.col.toNat noCol).tiers)) && (halves size).any (fun y => x.half == y)
set_option maxHeartbeats 4000000 in
theorem f99 (hF : Wide F) (hro : F.round = none) (s : Ship) (x : Slot) (size : Int) (hh : (halves size).length ≤ 1000) :
    FnV Tryz.prog F 99 [Vd s.enc, Vd x.enc, Uv size] (Vb (slotRight s x size)) := by
  refine FnV.of_AW hF hro hτ Tryz.func99 rfl (by decide) rfl (by simp [Tryz.f99]) ?_
  (repeat' first | apply Wq | refine Ws hF hτ rfl ?_ | apply Wb | apply Wl | apply Wk | apply We | apply Wc | apply Wd | refine Wt rfl rfl ?_ | refine Wf rfl rfl ?_ | refine Wi rfl rfl (fun h => ?_) (fun h => ?_) | refine Wx hF hτ rfl rfl rfl rfl rfl rfl rfl rfl (fun h => ?_) (fun h => ?_) | apply Wn)
  refine AW.forget (.s 6) rfl ?_
  have hlc : ((s.cols.map Column.enc).length : Int) = s.cols.length := by simp
  refine AW.draw hmix (AD.start [] [0, 1, 2, 3] ?_)
  refine AD.vals hF hτ rfl ?_
  refine AD.fin (by kernel_rfl) rfl rfl ?_
  refine AA.split 10 rfl rfl (fun e1 => ?_) (fun e1 => ?_)
  · refine AD.start [0, 1, 2, 3] [4, 5, 6, 7, 8, 9, 10, 11] ?_
    refine AD.vals hF hτ rfl ?_
    refine AD.fin (by kernel_rfl) rfl rfl ?_
    refine AA.split 18 rfl rfl (fun e2 => ?_) (fun e2 => ?_)
    · refine AD.start [0, 1, 2, 3, 4, 5, 6, 7, 8, 9, 10, 11] [12, 13, 14, 15, 16] ?_
      refine AD.vals hF hτ rfl ?_
      refine AD.fin (by kernel_rfl) rfl rfl ?_
      refine AA.split 23 rfl rfl (fun e3 => ?_) (fun e3 => ?_)
      · have e2' : decide (x.col < (s.cols.length : Int)) = true := by rw [← hlc]; exact e2
        obtain ⟨q, hq⟩ : ∃ q : Nat, x.col = q := ⟨x.col.toNat, by have := of_decide_eq_true e1; omega⟩
        have hql : q < s.cols.length := by have := of_decide_eq_true e2'; omega
        obtain ⟨c, hc⟩ : ∃ c, s.cols[q]? = some c := ⟨_, List.getElem?_eq_getElem hql⟩
        have hcol : s.cols.getD x.col.toNat noCol = c := by rw [hq, List.getD_eq_getElem?_getD]; show (s.cols[q]?).getD noCol = c; rw [hc]; rfl
        refine AD.start [0, 1, 2, 3, 4, 5, 6, 7, 8, 9, 10, 11, 12, 13, 14, 15, 16] [17, 18, 19, 20, 21, 22, 23, 24, 25, 26, 27, 28] ?_
        refine AD.vals hF hτ rfl ?_
        refine AD.op (o := _) rfl rfl rfl (OpM.indexD hF rfl (hτ _ _ rfl) rfl (hτ _ _ rfl) rfl (i := q) (by exact congrArg (fun z => some (IntKind.i64, z)) hq) (get_enc Column.enc hc) rfl rfl rfl) ?_
        refine AD.vals hF hτ rfl ?_
        refine AD.fin (by kernel_rfl) rfl rfl ?_
        refine AA.split 35 rfl rfl (fun e4 => ?_) (fun e4 => ?_)
        · refine AD.start [0, 1, 2, 3, 4, 5, 6, 7, 8, 9, 10, 11, 12, 13, 14, 15, 16, 17, 18, 19, 20, 21, 22, 23, 24, 25, 26, 27, 28] [29, 30, 31, 32, 33, 34, 35] ?_
          refine AD.vals hF hτ rfl ?_
          refine AD.op (o := _) rfl rfl rfl (OpM.call hF rfl rfl rfl rfl (f176 hF hro size) rfl rfl rfl) ?_
          refine AD.vals hF hτ rfl ?_
          refine AD.op (o := _) rfl rfl rfl (OpM.callB hF rfl rfl rfl rfl (f175 hF hro (halves size) x.half hh) rfl rfl rfl rfl) ?_
          refine AD.vals hF hτ rfl ?_
          refine AD.fin (by kernel_rfl) rfl rfl (AA.done (by kernel_rfl) ?_)
          (repeat' first | apply Wq | refine Ws hF hτ rfl ?_ | apply Wb | apply Wl | apply Wk | apply We | apply Wc | apply Wd | refine Wt rfl rfl ?_ | refine Wf rfl rfl ?_ | refine Wi rfl rfl (fun h => ?_) (fun h => ?_) | refine Wx hF hτ rfl rfl rfl rfl rfl rfl rfl rfl (fun h => ?_) (fun h => ?_) | apply Wn)
          refine AW.ret ⟨.inr rfl, congrArg (fun z => some (Vb z)) ?_⟩
          rw [slotRight, e1, e2', e3, hcol, e4]
          rfl
        · refine AD.start [0, 1, 2, 3, 4, 5, 6, 7, 8, 9, 10, 11, 12, 13, 14, 15, 16, 17, 18, 19, 20, 21, 22, 23, 24, 25, 26, 27, 28] [29, 30, 31, 32, 33, 34, 35] ?_
          refine AD.vals hF hτ rfl ?_
          refine AD.fin (by kernel_rfl) rfl rfl (AA.done (by kernel_rfl) ?_)
          (repeat' first | apply Wq | refine Ws hF hτ rfl ?_ | apply Wb | apply Wl | apply Wk | apply We | apply Wc | apply Wd | refine Wt rfl rfl ?_ | refine Wf rfl rfl ?_ | refine Wi rfl rfl (fun h => ?_) (fun h => ?_) | refine Wx hF hτ rfl rfl rfl rfl rfl rfl rfl rfl (fun h => ?_) (fun h => ?_) | apply Wn)
          refine AW.ret ⟨.inr rfl, congrArg (fun z => some (Vb z)) ?_⟩
          rw [slotRight, e1, e2', e3, hcol, e4]
          rfl
      · refine AD.start [0, 1, 2, 3, 4, 5, 6, 7, 8, 9, 10, 11, 12, 13, 14, 15, 16] [17, 18, 19, 20, 21, 22, 23, 24, 25, 26, 27, 28] ?_
        refine AD.vals hF hτ rfl ?_
        refine AD.fin (by kernel_rfl) rfl rfl ?_
        refine AA.split 35 rfl rfl (fun ee => absurd ee (by decide)) (fun ee => ?_)
        refine AD.start [0, 1, 2, 3, 4, 5, 6, 7, 8, 9, 10, 11, 12, 13, 14, 15, 16, 17, 18, 19, 20, 21, 22, 23, 24, 25, 26, 27, 28] [29, 30, 31, 32, 33, 34, 35] ?_
        refine AD.vals hF hτ rfl ?_
        refine AD.fin (by kernel_rfl) rfl rfl (AA.done (by kernel_rfl) ?_)
        (repeat' first | apply Wq | refine Ws hF hτ rfl ?_ | apply Wb | apply Wl | apply Wk | apply We | apply Wc | apply Wd | refine Wt rfl rfl ?_ | refine Wf rfl rfl ?_ | refine Wi rfl rfl (fun h => ?_) (fun h => ?_) | refine Wx hF hτ rfl rfl rfl rfl rfl rfl rfl rfl (fun h => ?_) (fun h => ?_) | apply Wn)
        refine AW.ret ⟨.inr rfl, congrArg (fun z => some (Vb z)) ?_⟩
        rw [slotRight, e3, Bool.and_false, Bool.false_and, Bool.false_and]
    · refine AD.start [0, 1, 2, 3, 4, 5, 6, 7, 8, 9, 10, 11] [12, 13, 14, 15, 16] ?_
      refine AD.vals hF hτ rfl ?_
      refine AD.fin (by kernel_rfl) rfl rfl ?_
      refine AA.split 23 rfl rfl (fun ee => absurd ee (by decide)) (fun ee => ?_)
      refine AD.start [0, 1, 2, 3, 4, 5, 6, 7, 8, 9, 10, 11, 12, 13, 14, 15, 16] [17, 18, 19, 20, 21, 22, 23, 24, 25, 26, 27, 28] ?_
      refine AD.vals hF hτ rfl ?_
      refine AD.fin (by kernel_rfl) rfl rfl ?_
      refine AA.split 35 rfl rfl (fun ee => absurd ee (by decide)) (fun ee => ?_)
      refine AD.start [0, 1, 2, 3, 4, 5, 6, 7, 8, 9, 10, 11, 12, 13, 14, 15, 16, 17, 18, 19, 20, 21, 22, 23, 24, 25, 26, 27, 28] [29, 30, 31, 32, 33, 34, 35] ?_
      refine AD.vals hF hτ rfl ?_
      refine AD.fin (by kernel_rfl) rfl rfl (AA.done (by kernel_rfl) ?_)
      (repeat' first | apply Wq | refine Ws hF hτ rfl ?_ | apply Wb | apply Wl | apply Wk | apply We | apply Wc | apply Wd | refine Wt rfl rfl ?_ | refine Wf rfl rfl ?_ | refine Wi rfl rfl (fun h => ?_) (fun h => ?_) | refine Wx hF hτ rfl rfl rfl rfl rfl rfl rfl rfl (fun h => ?_) (fun h => ?_) | apply Wn)
      refine AW.ret ⟨.inr rfl, congrArg (fun z => some (Vb z)) ?_⟩
      rw [slotRight, show decide (x.col < (s.cols.length : Int)) = false by rw [← hlc]; exact e2, Bool.and_false, Bool.false_and, Bool.false_and, Bool.false_and]
  · refine AD.start [0, 1, 2, 3] [4, 5, 6, 7, 8, 9, 10, 11] ?_
    refine AD.vals hF hτ rfl ?_
    refine AD.fin (by kernel_rfl) rfl rfl ?_
    refine AA.split 18 rfl rfl (fun ee => absurd ee (by decide)) (fun ee => ?_)
    refine AD.start [0, 1, 2, 3, 4, 5, 6, 7, 8, 9, 10, 11] [12, 13, 14, 15, 16] ?_
    refine AD.vals hF hτ rfl ?_
    refine AD.fin (by kernel_rfl) rfl rfl ?_
    refine AA.split 23 rfl rfl (fun ee => absurd ee (by decide)) (fun ee => ?_)
    refine AD.start [0, 1, 2, 3, 4, 5, 6, 7, 8, 9, 10, 11, 12, 13, 14, 15, 16] [17, 18, 19, 20, 21, 22, 23, 24, 25, 26, 27, 28] ?_
    refine AD.vals hF hτ rfl ?_
    refine AD.fin (by kernel_rfl) rfl rfl ?_
    refine AA.split 35 rfl rfl (fun ee => absurd ee (by decide)) (fun ee => ?_)
    refine AD.start [0, 1, 2, 3, 4, 5, 6, 7, 8, 9, 10, 11, 12, 13, 14, 15, 16, 17, 18, 19, 20, 21, 22, 23, 24, 25, 26, 27, 28] [29, 30, 31, 32, 33, 34, 35] ?_
    refine AD.vals hF hτ rfl ?_
    refine AD.fin (by kernel_rfl) rfl rfl (AA.done (by kernel_rfl) ?_)
    (repeat' first | apply Wq | refine Ws hF hτ rfl ?_ | apply Wb | apply Wl | apply Wk | apply We | apply Wc | apply Wd | refine Wt rfl rfl ?_ | refine Wf rfl rfl ?_ | refine Wi rfl rfl (fun h => ?_) (fun h => ?_) | refine Wx hF hτ rfl rfl rfl rfl rfl rfl rfl rfl (fun h => ?_) (fun h => ?_) | apply Wn)
    refine AW.ret ⟨.inr rfl, congrArg (fun z => some (Vb z)) ?_⟩
    rw [slotRight, e1, Bool.false_and, Bool.false_and, Bool.false_and, Bool.false_and]
end Go.Proofs.VL
namespace Go.Proofs.VL
open Go Go.RowKit
variable {F : Fence}
abbrev imS (l : List Int) : IMap := l.map fun n => ([n], [])
theorem look_imS (x : Int) : ∀ l : List Int, lookI [x] (imS l) = if l.any (fun y => y == x) then some [] else none
  | [] => rfl
  | y :: l => by
    simp only [imS, List.map_cons, lookI, List.any_cons]
    have ih := look_imS x l
    simp only [imS] at ih
    by_cases h : y = x
    · subst h; simp
    · rw [if_neg (by simpa using h), ih]
      simp [h]
theorem set_imS (x : Int) : ∀ l : List Int, l.any (fun y => y == x) = false → setI [x] [] (imS l) = imS (l ++ [x])
  | [], _ => rfl
  | y :: l, h => by
    simp only [List.any_cons, Bool.or_eq_false_iff] at h
    simp only [imS, List.map_cons, setI, List.cons_append]
    rw [if_neg (by simpa using h.1)]
    exact congrArg _ (set_imS x l h.2)
theorem imS_lens (l : List Int) : ∀ p ∈ imS l, p.1.length = [IntKind.i64].length := by
  intro p hp
  obtain ⟨c, _, rfl⟩ := List.mem_map.1 hp
  rfl
abbrev mpS (l : List Int) : V := .mp 2 (mkE [.i64] (imS l))
def addTo (l : List Int) (x : Int) : List Int := if l.any (fun y => y == x) then l else l ++ [x]
set_option maxHeartbeats 1000000 in
theorem f106 (hF : Wide F) (hro : F.round = none) (l : List Int) (x : Int) :
    FnX Tryz.prog F 106 2 [(.s 0, mpS l), (.s 1, Iv64 x)] (Vb (!(l.any fun y => y == x))) [(.s 0, mpS (addTo l x))] := by
  refine FnX.of_AW hF hro hτ (K := [0]) Tryz.func106 rfl (by decide) rfl (Nat.le_of_ble_eq_true rfl) rfl rfl ?_
  (repeat' first | apply Wq | refine Ws hF hτ rfl ?_ | apply Wb | apply Wl | apply Wk | apply We | apply Wc | apply Wd | refine Wt rfl rfl ?_ | refine Wf rfl rfl ?_ | refine Wi rfl rfl (fun h => ?_) (fun h => ?_) | refine Wx hF hτ rfl rfl rfl rfl rfl rfl rfl rfl (fun h => ?_) (fun h => ?_) | apply Wn)
  refine AL.opM (OpM.lookup (ok := true) hF rfl (hτ 206 _ rfl) rfl (hτ 276 _ rfl) zs276 kl3 (m := imS l) (tm := 2) rfl rfl rfl (ns := [x]) rfl rfl (imS_lens _) (ds := []) (by rw [look_imS]; split <;> rfl) rfl rfl rfl) rfl rfl ?_
  rw [look_imS]
  cases h : l.any (fun y => y == x) with
  | true =>
    refine Wv hF hτ rfl ?_
    (repeat' first | apply Wq | refine Ws hF hτ rfl ?_ | apply Wb | apply Wl | apply Wk | apply We | apply Wc | apply Wd | refine Wt rfl rfl ?_ | refine Wf rfl rfl ?_ | refine Wi rfl rfl (fun h => ?_) (fun h => ?_) | refine Wx hF hτ rfl rfl rfl rfl rfl rfl rfl rfl (fun h => ?_) (fun h => ?_) | apply Wn)
    refine AW.ret ⟨.inr rfl, rfl, ?_⟩
    (repeat' first | exact Sub.nil | refine Sub.put rfl ?_ | refine Sub.put ?_ ?_)
    rw [addTo, if_pos h]
    rfl
  | false =>
    refine Wv hF hτ rfl ?_
    (repeat' first | apply Wq | refine Ws hF hτ rfl ?_ | apply Wb | apply Wl | apply Wk | apply We | apply Wc | apply Wd | refine Wt rfl rfl ?_ | refine Wf rfl rfl ?_ | refine Wi rfl rfl (fun h => ?_) (fun h => ?_) | refine Wx hF hτ rfl rfl rfl rfl rfl rfl rfl rfl (fun h => ?_) (fun h => ?_) | apply Wn)
    refine AL.op rfl (OpTo.mapUpdate hF rfl rfl (hτ 206 _ rfl) rfl kl3 (m := imS l) (tm := 2) rfl rfl (ns := [x]) rfl rfl (imS_lens _) rfl rfl rfl rfl) ?_
    refine Wv hF hτ rfl ?_
    (repeat' first | apply Wq | refine Ws hF hτ rfl ?_ | apply Wb | apply Wl | apply Wk | apply We | apply Wc | apply Wd | refine Wt rfl rfl ?_ | refine Wf rfl rfl ?_ | refine Wi rfl rfl (fun h => ?_) (fun h => ?_) | refine Wx hF hτ rfl rfl rfl rfl rfl rfl rfl rfl (fun h => ?_) (fun h => ?_) | apply Wn)
    refine AW.ret ⟨.inr rfl, rfl, ?_⟩
    (repeat' first | exact Sub.nil | refine Sub.put rfl ?_ | refine Sub.put ?_ ?_)
    rw [addTo, if_neg (fun e => Bool.noConfusion (h.symm.trans e))]
    exact congrArg (fun z => some (V.mp 2 (mkE [.i64] z))) (set_imS x l h)
end Go.Proofs.VL
