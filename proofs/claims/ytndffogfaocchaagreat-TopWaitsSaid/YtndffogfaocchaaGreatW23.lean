import Derived.Test.YtndffogfaocchaaGreatW11
import Derived.Test.YtndffogfaocchaaGreatW22
set_option linter.unusedVariables false
set_option linter.unusedSimpArgs false
set_option linter.unusedSectionVars false
namespace Go.Proofs.VL
open Go Go.RowKit
variable {F : Fence}
def StandsRight (s : Ship) (boxes : List Box) (l : List Stowed) (k : Nat) (x : Stowed) : Prop :=
  (boxOf boxes x.box).isSome = true ∧ (∀ y, 0 < k → l[k - 1]? = some y → y.box < x.box) ∧ slotRight s x.slot ((boxOf boxes x.box).getD box0).size = true ∧ held (l.map (·.slot)) x.slot = true ∧ ∀ j y, j < k → l[j]? = some y → x.slot.meet y.slot = false
def StowRight (s : Ship) (boxes : List Box) (l : List Stowed) : Prop :=
  shipRight s = true ∧ (∀ k x, l[k]? = some x → StandsRight s boxes l k x) ∧ ∀ (k : Nat) (c : Column), s.cols[k]? = some c → fitsAt s boxes l c k = true
open Classical in
noncomputable def stowRight (s : Ship) (boxes : List Box) (l : List Stowed) : Bool := decide (StowRight s boxes l)
theorem stowRight_no {s : Ship} {boxes : List Box} {l : List Stowed} (h : ¬StowRight s boxes l) : stowRight s boxes l = false := by simp [stowRight, h]
theorem stowRight_yes {s : Ship} {boxes : List Box} {l : List Stowed} (h : StowRight s boxes l) : stowRight s boxes l = true := by simp [stowRight, h]
theorem halves_len (size : Int) : (halves size).length ≤ 1000 := by
  unfold halves
  split
  · simp
  · split <;> simp
set_option maxRecDepth 100000 in
set_option maxHeartbeats 4000000 in
theorem f47 (hF : Wide F) (hro : F.round = none) (s : Ship) (boxes : List Box) (l : List Stowed) (hs : s.small) (hb : boxes.length ≤ 1000) (hl : l.length ≤ 1000) (ht : ∀ x ∈ l, x.slot.tier ≤ 100000) :
    FnV Tryz.prog F 47 [Vd s.enc, Vs (boxes.map Box.enc), Vs (l.map Stowed.enc)] (Vb (stowRight s boxes l)) := by
  refine FnV.of_AW hF hro hτ Tryz.func47 rfl (by decide) rfl (by simp [Tryz.f47]) ?_
  (repeat' first | apply Wq | refine Ws hF hτ rfl ?_ | apply Wb | apply Wl | apply Wk | apply We | apply Wc | apply Wd | refine Wt rfl rfl ?_ | refine Wf rfl rfl ?_ | refine Wi rfl rfl (fun h => ?_) (fun h => ?_) | refine Wx hF hτ rfl rfl rfl rfl rfl rfl rfl rfl (fun h => ?_) (fun h => ?_) | apply Wn)
  refine AL.opM (OpM.call hF rfl rfl rfl rfl (f45 hF hro s hs) rfl rfl rfl) rfl rfl ?_
  refine Wv hF hτ rfl ?_
  (repeat' first | apply Wq | refine Ws hF hτ rfl ?_ | apply Wb | apply Wl | apply Wk | apply We | apply Wc | apply Wd | refine Wt rfl rfl ?_ | refine Wf rfl rfl ?_ | refine Wi rfl rfl (fun h => ?_) (fun h => ?_) | refine Wx hF hτ rfl rfl rfl rfl rfl rfl rfl rfl (fun h => ?_) (fun h => ?_) | apply Wn)
  · refine AW.ret ⟨.inr rfl, congrArg (fun z => some (Vb z)) ?_⟩
    exact (stowRight_no fun q => by have := q.1; simp_all).symm
  · have hsr : shipRight s = true := by simpa using h
    refine AL.opM (OpM.call hF rfl rfl rfl rfl (f97 hF hro l hl) rfl rfl rfl) rfl rfl ?_
    refine AL.ent (Ent.frzs (ls := [.s 19]) rfl) ?_
    refine Wv hF hτ rfl ?_
    (repeat' first | apply Wq | refine Ws hF hτ rfl ?_ | apply Wb | apply Wl | apply Wk | apply We | apply Wc | apply Wd | refine Wt rfl rfl ?_ | refine Wf rfl rfl ?_ | refine Wi rfl rfl (fun h => ?_) (fun h => ?_) | refine Wx hF hτ rfl rfl rfl rfl rfl rfl rfl rfl (fun h => ?_) (fun h => ?_) | apply Wn)
    have hts : (l.map (·.slot)).length ≤ 1000 := by simpa using hl
    refine AW.rangeJ hF rfl rfl rfl rfl rfl rfl rfl rfl rfl (l.map Stowed.enc).length (by simp [lim]; omega) (fun k => [(.s 20, Vs (l.map Stowed.enc)), (.s 3, .bx 35 (s.enc.map .d)), (.s 1, Vs (boxes.map Box.enc)), (.s 2, Vs (l.map Stowed.enc)), (.s 7, Vs ((l.map (·.slot)).map Slot.enc))]) (fun k => ∀ i x, i < k → l[i]? = some x → StandsRight s boxes l i x) (fun i c h => absurd h (Nat.not_lt_zero i)) ?_ ?_ (fun k hk hJ => ?_) (fun hJ => ?_)
    · exact fun k => rfl
    · (repeat' first | exact Sub.nil | refine Sub.put rfl ?_ | refine Sub.put ?_ ?_)
    · obtain ⟨x, hx⟩ := get_ex hk
      (repeat' first | apply Wq | refine Ws hF hτ rfl ?_ | apply Wb | apply Wl | apply Wk | apply We | apply Wn)
      refine AL.opM (OpM.indexD hF rfl (hτ _ _ rfl) rfl (hτ _ _ rfl) rfl (i := k) rfl ( get_enc Stowed.enc hx) rfl rfl rfl) rfl rfl ?_
      refine Wv hF hτ rfl ?_
      (repeat' first | apply Wq | refine Ws hF hτ rfl ?_ | apply Wb | apply Wl | apply Wk | apply We | apply Wc | apply Wd | refine Wt rfl rfl ?_ | refine Wf rfl rfl ?_ | refine Wi rfl rfl (fun h => ?_) (fun h => ?_) | refine Wx hF hτ rfl rfl rfl rfl rfl rfl rfl rfl (fun h => ?_) (fun h => ?_) | apply Wn)
      refine AL.opM (OpM.call hF rfl rfl rfl rfl (f98 hF hro boxes x.box hb) rfl rfl rfl) rfl rfl ?_
      refine Wv hF hτ rfl ?_
      refine AL.nil ?_
      refine AW.seq ?_
      refine AW.toJ (J := (boxOf boxes x.box).isSome = true ∧ (∀ y, 0 < k → l[k - 1]? = some y → y.box < x.box) ∧ slotRight s x.slot ((boxOf boxes x.box).getD box0).size = true ∧ held (l.map (·.slot)) x.slot = true) [(.s 22, Iv64 k), (.s 21, Iv64 (l.map Stowed.enc).length), (.s 20, Vs (l.map Stowed.enc)), (.s 3, .bx 35 (s.enc.map .d)), (.s 1, Vs (boxes.map Box.enc)), (.s 2, Vs (l.map Stowed.enc)), (.s 7, Vs ((l.map (·.slot)).map Slot.enc)), (.s 8, Iv64 k), (.s 9, .bx 90 (x.enc.map .d))] rfl ?_ (fun hR => ?_)
      · refine AW.seq ?_
        have hbox : ∃ b, b = (boxOf boxes x.box).getD box0 := ⟨_, rfl⟩
        obtain ⟨b, hb0⟩ := hbox
        rw [← hb0]
        refine AW.draw hmix (AD.start [] [0, 1, 2] ?_)
        refine AD.vals hF hτ rfl ?_
        refine AD.fin (by kernel_rfl) rfl rfl ?_
        refine AA.split 36 rfl rfl (fun e1 => ?_) (fun e1 => ?_)
        · refine AD.start [0, 1, 2] [3, 4, 5, 6, 7, 8, 9, 10, 11, 12, 13, 14, 15, 16, 17, 18, 19, 20, 21, 22, 23, 24, 25, 26, 27, 28, 29, 30, 31, 32] ?_
          refine AD.valsN hF hτ rfl ?_
          refine AD.fin (by kernel_rfl) rfl rfl (AA.done (by kernel_rfl) ?_)
          (repeat' first | apply Wq | refine Ws hF hτ rfl ?_ | apply Wb | apply Wl | apply Wk | apply We | apply Wc | apply Wd | refine Wt rfl rfl ?_ | refine Wf rfl rfl ?_ | refine Wi rfl rfl (fun h => ?_) (fun h => ?_) | refine Wx hF hτ rfl rfl rfl rfl rfl rfl rfl rfl (fun h => ?_) (fun h => ?_) | apply Wn)
          refine AW.ret ⟨.inr rfl, congrArg (fun z => some (Vb z)) ?_⟩
          exact (stowRight_no fun q => by have := (q.2.1 k x hx).1; rw [this] at e1; cases e1).symm
        · refine AD.start [0, 1, 2] [3, 4, 5] ?_
          refine AD.valsN hF hτ rfl ?_
          refine AD.fin (by kernel_rfl) rfl rfl ?_
          refine AA.split 39 rfl rfl (fun e2 => ?_) (fun e2 => ?_)
          · have hk0 : 0 < k := by have h' : decide ((0 : Int) < (k : Int)) = true := e2; have := of_decide_eq_true h'; omega
            obtain ⟨y, hy⟩ : ∃ y, l[k - 1]? = some y := ⟨_, List.getElem?_eq_getElem (by have : k < l.length := (by simpa using hk); omega)⟩
            have hw : IntKind.wrap .i64 ((k : Int) - 1) = ((k - 1 : Nat) : Int) := by have : k < l.length := (by simpa using hk); rw [wrap_id (by omega) (by omega)]; omega
            refine AD.start [0, 1, 2, 3, 4, 5] [6, 7, 8, 9, 10, 11, 12, 13, 14, 15, 16, 17] ?_
            refine AD.valsN hF hτ rfl ?_
            refine AD.opN hF (o := _) rfl rfl rfl (OpM.indexD hF rfl (hτ _ _ rfl) rfl (hτ _ _ rfl) rfl (i := k - 1) (by exact congrArg (fun z => some (IntKind.i64, z)) hw) (get_enc Stowed.enc hy) rfl rfl rfl) ?_
            refine AD.valsN hF hτ rfl ?_
            refine AD.fin (by kernel_rfl) rfl rfl ?_
            refine AA.split 51 rfl rfl (fun e3 => ?_) (fun e3 => ?_)
            · refine AD.start [0, 1, 2, 3, 4, 5, 6, 7, 8, 9, 10, 11, 12, 13, 14, 15, 16, 17] [18, 19, 20, 21, 22, 23, 24, 25, 26, 27, 28, 29, 30, 31, 32] ?_
              refine AD.valsN hF hτ rfl ?_
              refine AD.fin (by kernel_rfl) rfl rfl (AA.done (by kernel_rfl) ?_)
              (repeat' first | apply Wq | refine Ws hF hτ rfl ?_ | apply Wb | apply Wl | apply Wk | apply We | apply Wc | apply Wd | refine Wt rfl rfl ?_ | refine Wf rfl rfl ?_ | refine Wi rfl rfl (fun h => ?_) (fun h => ?_) | refine Wx hF hτ rfl rfl rfl rfl rfl rfl rfl rfl (fun h => ?_) (fun h => ?_) | apply Wn)
              refine AW.ret ⟨.inr rfl, congrArg (fun z => some (Vb z)) ?_⟩
              exact (stowRight_no fun q => by have := (q.2.1 k x hx).2.1 y hk0 hy; have e3 := of_decide_eq_true e3; omega).symm
            · refine AD.start [0, 1, 2, 3, 4, 5, 6, 7, 8, 9, 10, 11, 12, 13, 14, 15, 16, 17] [18, 19, 20, 21, 22, 23, 24, 25, 26] ?_
              refine AD.valsN hF hτ rfl ?_
              refine AD.opN hF (o := _) rfl rfl rfl (OpM.call hF rfl rfl rfl rfl (f99 hF hro s x.slot b.size (halves_len _)) rfl rfl rfl) ?_
              refine AD.valsN hF hτ rfl ?_
              refine AD.fin (by kernel_rfl) rfl rfl ?_
              refine AA.split 60 rfl rfl (fun e4 => ?_) (fun e4 => ?_)
              · refine AD.start [0, 1, 2, 3, 4, 5, 6, 7, 8, 9, 10, 11, 12, 13, 14, 15, 16, 17, 18, 19, 20, 21, 22, 23, 24, 25, 26] [27, 28, 29, 30, 31, 32] ?_
                refine AD.valsN hF hτ rfl ?_
                refine AD.fin (by kernel_rfl) rfl rfl (AA.done (by kernel_rfl) ?_)
                (repeat' first | apply Wq | refine Ws hF hτ rfl ?_ | apply Wb | apply Wl | apply Wk | apply We | apply Wc | apply Wd | refine Wt rfl rfl ?_ | refine Wf rfl rfl ?_ | refine Wi rfl rfl (fun h => ?_) (fun h => ?_) | refine Wx hF hτ rfl rfl rfl rfl rfl rfl rfl rfl (fun h => ?_) (fun h => ?_) | apply Wn)
                refine AW.ret ⟨.inr rfl, congrArg (fun z => some (Vb z)) ?_⟩
                exact (stowRight_no fun q => by have := (q.2.1 k x hx).2.2.1; rw [← hb0] at this; rw [this] at e4; cases e4).symm
              · refine AD.start [0, 1, 2, 3, 4, 5, 6, 7, 8, 9, 10, 11, 12, 13, 14, 15, 16, 17, 18, 19, 20, 21, 22, 23, 24, 25, 26] [27, 28, 29, 30, 31, 32] ?_
                refine AD.valsN hF hτ rfl ?_
                refine AD.opN hF (o := _) rfl rfl rfl (OpM.call hF rfl rfl rfl rfl (f100 hF hro (l.map (·.slot)) x.slot hts (ht x (List.mem_of_getElem? hx))) rfl rfl rfl) ?_
                refine AD.valsN hF hτ rfl ?_
                refine AD.fin (by kernel_rfl) rfl rfl (AA.done (by kernel_rfl) ?_)
                (repeat' first | apply Wq | refine Ws hF hτ rfl ?_ | apply Wb | apply Wl | apply Wk | apply We | apply Wc | apply Wd | refine Wt rfl rfl ?_ | refine Wf rfl rfl ?_ | refine Wi rfl rfl (fun h => ?_) (fun h => ?_) | refine Wx hF hτ rfl rfl rfl rfl rfl rfl rfl rfl (fun h => ?_) (fun h => ?_) | apply Wn)
                · refine AW.ret ⟨.inr rfl, congrArg (fun z => some (Vb z)) ?_⟩
                  exact (stowRight_no fun q => by have := (q.2.1 k x hx).2.2.2.1; rw [this] at h; cases h).symm
                · refine ⟨⟨by simpa using e1, fun z _ hz => by rw [hy] at hz; obtain rfl := Option.some.inj hz; have e3 := of_decide_eq_false e3; omega, by simpa using e4, by simpa using h⟩, ?_⟩
                  (repeat' first | exact Sub.nil | refine Sub.put rfl ?_ | refine Sub.put ?_ ?_)
          · have hk0 : k = 0 := by have h' : decide ((0 : Int) < (k : Int)) = false := e2; have := of_decide_eq_false h'; omega
            refine AD.start [0, 1, 2, 3, 4, 5] [6, 7, 8, 9, 10, 11, 12, 13, 14, 15, 16, 17] ?_
            refine AD.valsN hF hτ rfl ?_
            refine AD.fin (by kernel_rfl) rfl rfl ?_
            refine AA.split 51 rfl rfl (fun e3 => absurd e3 (by decide)) (fun e3 => ?_)
            refine AD.start [0, 1, 2, 3, 4, 5, 6, 7, 8, 9, 10, 11, 12, 13, 14, 15, 16, 17] [18, 19, 20, 21, 22, 23, 24, 25, 26] ?_
            refine AD.valsN hF hτ rfl ?_
            refine AD.opN hF (o := _) rfl rfl rfl (OpM.call hF rfl rfl rfl rfl (f99 hF hro s x.slot b.size (halves_len _)) rfl rfl rfl) ?_
            refine AD.valsN hF hτ rfl ?_
            refine AD.fin (by kernel_rfl) rfl rfl ?_
            refine AA.split 60 rfl rfl (fun e4 => ?_) (fun e4 => ?_)
            · refine AD.start [0, 1, 2, 3, 4, 5, 6, 7, 8, 9, 10, 11, 12, 13, 14, 15, 16, 17, 18, 19, 20, 21, 22, 23, 24, 25, 26] [27, 28, 29, 30, 31, 32] ?_
              refine AD.valsN hF hτ rfl ?_
              refine AD.fin (by kernel_rfl) rfl rfl (AA.done (by kernel_rfl) ?_)
              (repeat' first | apply Wq | refine Ws hF hτ rfl ?_ | apply Wb | apply Wl | apply Wk | apply We | apply Wc | apply Wd | refine Wt rfl rfl ?_ | refine Wf rfl rfl ?_ | refine Wi rfl rfl (fun h => ?_) (fun h => ?_) | refine Wx hF hτ rfl rfl rfl rfl rfl rfl rfl rfl (fun h => ?_) (fun h => ?_) | apply Wn)
              refine AW.ret ⟨.inr rfl, congrArg (fun z => some (Vb z)) ?_⟩
              exact (stowRight_no fun q => by have := (q.2.1 k x hx).2.2.1; rw [← hb0] at this; rw [this] at e4; cases e4).symm
            · refine AD.start [0, 1, 2, 3, 4, 5, 6, 7, 8, 9, 10, 11, 12, 13, 14, 15, 16, 17, 18, 19, 20, 21, 22, 23, 24, 25, 26] [27, 28, 29, 30, 31, 32] ?_
              refine AD.valsN hF hτ rfl ?_
              refine AD.opN hF (o := _) rfl rfl rfl (OpM.call hF rfl rfl rfl rfl (f100 hF hro (l.map (·.slot)) x.slot hts (ht x (List.mem_of_getElem? hx))) rfl rfl rfl) ?_
              refine AD.valsN hF hτ rfl ?_
              refine AD.fin (by kernel_rfl) rfl rfl (AA.done (by kernel_rfl) ?_)
              (repeat' first | apply Wq | refine Ws hF hτ rfl ?_ | apply Wb | apply Wl | apply Wk | apply We | apply Wc | apply Wd | refine Wt rfl rfl ?_ | refine Wf rfl rfl ?_ | refine Wi rfl rfl (fun h => ?_) (fun h => ?_) | refine Wx hF hτ rfl rfl rfl rfl rfl rfl rfl rfl (fun h => ?_) (fun h => ?_) | apply Wn)
              · refine AW.ret ⟨.inr rfl, congrArg (fun z => some (Vb z)) ?_⟩
                exact (stowRight_no fun q => by have := (q.2.1 k x hx).2.2.2.1; rw [this] at h; cases h).symm
              · refine ⟨⟨by simpa using e1, fun z hz _ => absurd hz (by omega), by simpa using e4, by simpa using h⟩, ?_⟩
                (repeat' first | exact Sub.nil | refine Sub.put rfl ?_ | refine Sub.put ?_ ?_)
      · have hkl : k < l.length := by simpa using hk
        have hls : lens 3 ((l.map (·.slot)).map Slot.enc) := by
          intro cs hcs
          obtain ⟨z, _, rfl⟩ := List.mem_map.1 hcs
          rfl
        (repeat' first | apply Wq | refine Ws hF hτ rfl ?_ | apply Wb | apply Wl | apply Wk | apply We | apply Wc | apply Wd | refine Wt rfl rfl ?_ | refine Wf rfl rfl ?_ | refine Wi rfl rfl (fun h => ?_) (fun h => ?_) | refine Wx hF hτ rfl rfl rfl rfl rfl rfl rfl rfl (fun h => ?_) (fun h => ?_) | apply Wn)
        refine AL.opM (OpM.eq (v' := Vs (((l.take k).map (·.slot)).map Slot.enc)) ?_ (OpM.sliceD hF rfl (hτ _ _ rfl) rfl (hτ _ _ rfl) rfl hls (l := 0) (h := k) (.inl ⟨rfl, rfl⟩) (.inr ⟨_, .i64, rfl, rfl⟩) (Nat.zero_le _) (by simp; omega) rfl rfl)) rfl rfl ?_
        · simp [List.map_take]
        refine Wv hF hτ rfl ?_
        (repeat' first | apply Wq | refine Ws hF hτ rfl ?_ | apply Wb | apply Wl | apply Wk | apply We | apply Wc | apply Wd | refine Wt rfl rfl ?_ | refine Wf rfl rfl ?_ | refine Wi rfl rfl (fun h => ?_) (fun h => ?_) | refine Wx hF hτ rfl rfl rfl rfl rfl rfl rfl rfl (fun h => ?_) (fun h => ?_) | apply Wn)
        refine AW.rangeJ hF rfl rfl rfl rfl rfl rfl rfl rfl rfl (((l.take k).map (·.slot)).map Slot.enc).length (by simp [lim]; omega) (fun j => [(.s 69, Vs (((l.take k).map (·.slot)).map Slot.enc)), (.s 9, .bx 90 (x.enc.map .d)), (.s 22, Iv64 k), (.s 21, Iv64 (l.map Stowed.enc).length), (.s 20, Vs (l.map Stowed.enc)), (.s 3, .bx 35 (s.enc.map .d)), (.s 1, Vs (boxes.map Box.enc)), (.s 2, Vs (l.map Stowed.enc)), (.s 7, Vs ((l.map (·.slot)).map Slot.enc))]) (fun j => ∀ i y, i < j → l[i]? = some y → x.slot.meet y.slot = false) (fun i c h => absurd h (Nat.not_lt_zero i)) ?_ ?_ (fun j hj hJ2 => ?_) (fun hJ2 => ?_)
        · exact fun k => rfl
        · (repeat' first | exact Sub.nil | refine Sub.put rfl ?_ | refine Sub.put ?_ ?_)
        · have hjk : j < k := by simp at hj; omega
          obtain ⟨y, hy⟩ : ∃ y, l[j]? = some y := ⟨_, List.getElem?_eq_getElem (by omega)⟩
          have hys : ((l.take k).map (·.slot))[j]? = some y.slot := by rw [List.getElem?_map, List.getElem?_take_of_lt hjk, hy]; rfl
          (repeat' first | apply Wq | refine Ws hF hτ rfl ?_ | apply Wb | apply Wl | apply Wk | apply We | apply Wn)
          refine AL.opM (OpM.indexD hF rfl (hτ _ _ rfl) rfl (hτ _ _ rfl) rfl (i := j) rfl ( get_enc Slot.enc hys) rfl rfl rfl) rfl rfl ?_
          refine Wv hF hτ rfl ?_
          (repeat' first | apply Wq | refine Ws hF hτ rfl ?_ | apply Wb | apply Wl | apply Wk | apply We | apply Wc | apply Wd | refine Wt rfl rfl ?_ | refine Wf rfl rfl ?_ | refine Wi rfl rfl (fun h => ?_) (fun h => ?_) | refine Wx hF hτ rfl rfl rfl rfl rfl rfl rfl rfl (fun h => ?_) (fun h => ?_) | apply Wn)
          refine AL.opM (OpM.call hF rfl rfl rfl rfl (f101 hF hro x.slot y.slot) rfl rfl rfl) rfl rfl ?_
          refine Wv hF hτ rfl ?_
          (repeat' first | apply Wq | refine Ws hF hτ rfl ?_ | apply Wb | apply Wl | apply Wk | apply We | apply Wc | apply Wd | refine Wt rfl rfl ?_ | refine Wf rfl rfl ?_ | refine Wi rfl rfl (fun h => ?_) (fun h => ?_) | refine Wx hF hτ rfl rfl rfl rfl rfl rfl rfl rfl (fun h => ?_) (fun h => ?_) | apply Wn)
          · refine AW.ret ⟨.inr rfl, congrArg (fun z => some (Vb z)) ?_⟩
            exact (stowRight_no fun q => by have := (q.2.1 k x hx).2.2.2.2 j y hjk hy; rw [this] at h; cases h).symm
          · refine ⟨?_, ?_⟩
            · (repeat' first | exact Sub.nil | refine Sub.put rfl ?_ | refine Sub.put ?_ ?_)
            · intro i z hi hz
              rcases Nat.lt_or_ge i j with h1 | h1
              · exact hJ2 i z h1 hz
              · obtain rfl : i = j := by omega
                rw [hy] at hz
                obtain rfl := Option.some.inj hz
                exact h
        · refine ⟨?_, ?_⟩
          · (repeat' first | exact Sub.nil | refine Sub.put rfl ?_ | refine Sub.put ?_ ?_)
          · intro i z hi hz
            rcases Nat.lt_or_ge i k with h1 | h1
            · exact hJ i z h1 hz
            · obtain rfl : i = k := by omega
              rw [hx] at hz
              obtain rfl := Option.some.inj hz
              exact ⟨hR.1, hR.2.1, hR.2.2.1, hR.2.2.2, fun j y hj hy => hJ2 j y (by simp; omega) hy⟩
    · have hall : ∀ k x, l[k]? = some x → StandsRight s boxes l k x := fun k x hx => hJ k x (by have := (List.getElem?_eq_some_iff.1 hx).1; simpa using this) hx
      have hcl := hs.cols
      (repeat' first | apply Wq | refine Ws hF hτ rfl ?_ | apply Wb | apply Wl | apply Wk | apply We | apply Wc | apply Wd | refine Wt rfl rfl ?_ | refine Wf rfl rfl ?_ | refine Wi rfl rfl (fun h => ?_) (fun h => ?_) | refine Wx hF hτ rfl rfl rfl rfl rfl rfl rfl rfl (fun h => ?_) (fun h => ?_) | apply Wn)
      refine AW.rangeJ hF rfl rfl rfl rfl rfl rfl rfl rfl rfl (s.cols.map Column.enc).length (by simp [lim]; omega) (fun k => [(.s 3, .bx 35 (s.enc.map .d)), (.s 1, Vs (boxes.map Box.enc)), (.s 2, Vs (l.map Stowed.enc))]) (fun k => ∀ (i : Nat) (c : Column), i < k → s.cols[i]? = some c → fitsAt s boxes l c i = true) (fun i c h => absurd h (Nat.not_lt_zero i)) ?_ ?_ (fun k hk hJ => ?_) (fun hJ => ?_)
      · exact fun k => rfl
      · (repeat' first | exact Sub.nil | refine Sub.put rfl ?_ | refine Sub.put ?_ ?_)
      · obtain ⟨c, hc⟩ := get_ex hk
        (repeat' first | apply Wq | refine Ws hF hτ rfl ?_ | apply Wb | apply Wl | apply Wk | apply We | apply Wc | apply Wd | refine Wt rfl rfl ?_ | refine Wf rfl rfl ?_ | refine Wi rfl rfl (fun h => ?_) (fun h => ?_) | refine Wx hF hτ rfl rfl rfl rfl rfl rfl rfl rfl (fun h => ?_) (fun h => ?_) | apply Wn)
        refine AL.opM (OpM.call hF rfl rfl rfl rfl (f102 hF hro s boxes l k c hb hl hc) rfl rfl rfl) rfl rfl ?_
        refine Wv hF hτ rfl ?_
        (repeat' first | apply Wq | refine Ws hF hτ rfl ?_ | apply Wb | apply Wl | apply Wk | apply We | apply Wc | apply Wd | refine Wt rfl rfl ?_ | refine Wf rfl rfl ?_ | refine Wi rfl rfl (fun h => ?_) (fun h => ?_) | refine Wx hF hτ rfl rfl rfl rfl rfl rfl rfl rfl (fun h => ?_) (fun h => ?_) | apply Wn)
        · refine AW.ret ⟨.inr rfl, congrArg (fun z => some (Vb z)) ?_⟩
          exact (stowRight_no fun q => by have := q.2.2 k c hc; rw [this] at h; cases h).symm
        · refine ⟨?_, ?_⟩
          · (repeat' first | exact Sub.nil | refine Sub.put rfl ?_ | refine Sub.put ?_ ?_)
          · intro i c' hi hc'
            rcases Nat.lt_or_ge i k with h1 | h1
            · exact hJ i c' h1 hc'
            · obtain rfl : i = k := by omega
              rw [hc] at hc'
              obtain rfl := Option.some.inj hc'
              simpa using h
      · (repeat' first | apply Wq | refine Ws hF hτ rfl ?_ | apply Wb | apply Wl | apply Wk | apply We | apply Wc | apply Wd | refine Wt rfl rfl ?_ | refine Wf rfl rfl ?_ | refine Wi rfl rfl (fun h => ?_) (fun h => ?_) | refine Wx hF hτ rfl rfl rfl rfl rfl rfl rfl rfl (fun h => ?_) (fun h => ?_) | apply Wn)
        refine AW.ret ⟨.inr rfl, congrArg (fun z => some (Vb z)) ?_⟩
        exact (stowRight_yes ⟨hsr, hall, fun k c hc => hJ k c (by have := (List.getElem?_eq_some_iff.1 hc).1; simpa using this) hc⟩).symm
end Go.Proofs.VL
namespace Go.Proofs.VL
open Go Go.RowKit
variable {F : Fence}
def moveBoxes (kind : Int) (l : List Stowed) : List Move := l.map fun x => ⟨kind, x.box, x.slot, 0⟩
def moveCovers (kind : Int) (l : List Int) : List Move := l.map fun c => ⟨kind, 0, slot0, c⟩
set_option maxHeartbeats 1000000 in
theorem f184 (hF : Wide F) (hro : F.round = none) (kind : Int) (l : List Stowed) (ms : List Move) (hl : l.length ≤ 1000) (hm : ms.length ≤ 100000) :
    FnX Tryz.prog F 184 3 [(.s 0, Uv kind), (.s 1, Vs (l.map Stowed.enc)), (.s 2, .bx 64 [.ref (.c 2 0)]), (.c 2 0, .row true 97 (ms.map Move.enc))] (.tu []) [(.s 2, .bx 64 [.ref (.c 2 0)]), (.c 2 0, .row true 97 ((ms ++ moveBoxes kind l).map Move.enc))] := by
  refine FnX.of_AW hF hro hτ (K := [2]) Tryz.func184 rfl (by decide) rfl (Nat.le_of_ble_eq_true rfl) rfl rfl ?_
  (repeat' first | apply Wq | refine Ws hF hτ rfl ?_ | apply Wb | apply Wl | apply Wk | apply We | apply Wc | apply Wd | refine Wt rfl rfl ?_ | refine Wf rfl rfl ?_ | refine Wi rfl rfl (fun h => ?_) (fun h => ?_) | refine Wx hF hτ rfl rfl rfl rfl rfl rfl rfl rfl (fun h => ?_) (fun h => ?_) | apply Wn)
  refine AW.range hF rfl rfl rfl rfl rfl rfl rfl rfl rfl (l.map Stowed.enc).length (by simp [lim]; omega) (fun k => [(.s 7, Vs (l.map Stowed.enc)), (.s 0, Uv kind), (.s 2, .bx 64 [.ref (.c 2 0)]), (.c 2 0, .row true 97 ((ms ++ moveBoxes kind (l.take k)).map Move.enc))]) ?_ ?_ (fun k hk => ?_) ?_
  · exact fun k => rfl
  · (repeat' first | exact Sub.nil | refine Sub.put rfl ?_ | refine Sub.put ?_ ?_)
    rw [List.take_zero, show moveBoxes kind [] = [] from rfl, List.append_nil]
    rfl
  · obtain ⟨x, hx⟩ := get_ex hk
    have hk' : k < l.length := by simpa using hk
    have hsn : ms ++ moveBoxes kind (l.take (k + 1)) = ms ++ moveBoxes kind (l.take k) ++ [⟨kind, x.box, x.slot, 0⟩] := by rw [take_snoc hx]; simp [moveBoxes]
    have hlen : (ms ++ moveBoxes kind (l.take k)).length ≤ 101000 := by simp [moveBoxes]; omega
    rw [hsn]
    generalize ms ++ moveBoxes kind (l.take k) = acc at hlen
    (repeat' first | apply Wq | refine Ws hF hτ rfl ?_ | apply Wb | apply Wl | apply Wk | apply We | apply Wn)
    refine AL.opM (OpM.indexD hF rfl (hτ _ _ rfl) rfl (hτ _ _ rfl) rfl (i := k) rfl ( get_enc Stowed.enc hx) rfl rfl rfl) rfl rfl ?_
    refine Wv hF hτ rfl ?_
    (repeat' first | apply Wq | refine Ws hF hτ rfl ?_ | apply Wb | apply Wl | apply Wk | apply We | apply Wc | apply Wd | refine Wt rfl rfl ?_ | refine Wf rfl rfl ?_ | refine Wi rfl rfl (fun h => ?_) (fun h => ?_) | refine Wx hF hτ rfl rfl rfl rfl rfl rfl rfl rfl (fun h => ?_) (fun h => ?_) | apply Wn)
    refine AL.opM (OpM.buildSlice hF rfl (hτ _ _ rfl) rfl (hτ _ _ rfl) rfl rfl rfl (by decide) (by decide) rfl rfl) rfl rfl ?_
    refine AL.op rfl (OpTo.append hF rfl rfl rfl rfl (hτ _ _ rfl) rfl (hτ _ _ rfl) rfl rfl rfl rfl (by intro cs h; cases h with | head => rfl | tail _ h => cases h) (by simp [Base.xs, chunks, lim]; omega) (by simp [Base.xs, chunks, lim]; omega) rfl rfl rfl) ?_
    refine Wv hF hτ rfl ?_
    (repeat' first | apply Wq | refine Ws hF hτ rfl ?_ | apply Wb | apply Wl | apply Wk | apply We | apply Wc | apply Wd | refine Wt rfl rfl ?_ | refine Wf rfl rfl ?_ | refine Wi rfl rfl (fun h => ?_) (fun h => ?_) | refine Wx hF hτ rfl rfl rfl rfl rfl rfl rfl rfl (fun h => ?_) (fun h => ?_) | apply Wn)
    (repeat' first | exact Sub.nil | refine Sub.put rfl ?_ | refine Sub.put ?_ ?_)
    refine congrArg (fun z => some (V.row true 97 z)) ?_
    simp [chunks]
    rfl
  · refine ⟨.inl rfl, rfl, ?_⟩
    (repeat' first | exact Sub.nil | refine Sub.put rfl ?_ | refine Sub.put ?_ ?_)
    rw [show List.take (l.map Stowed.enc).length l = l by simp]
    rfl
set_option maxHeartbeats 1000000 in
theorem f185 (hF : Wide F) (hro : F.round = none) (kind : Int) (l : List Int) (ms : List Move) (hl : l.length ≤ 1000) (hm : ms.length ≤ 100000) :
    FnX Tryz.prog F 185 3 [(.s 0, Uv kind), (.s 1, Vs (l.map (fun n : Int => [di n]))), (.s 2, .bx 64 [.ref (.c 2 0)]), (.c 2 0, .row true 97 (ms.map Move.enc))] (.tu []) [(.s 2, .bx 64 [.ref (.c 2 0)]), (.c 2 0, .row true 97 ((ms ++ moveCovers kind l).map Move.enc))] := by
  refine FnX.of_AW hF hro hτ (K := [2]) Tryz.func185 rfl (by decide) rfl (Nat.le_of_ble_eq_true rfl) rfl rfl ?_
  (repeat' first | apply Wq | refine Ws hF hτ rfl ?_ | apply Wb | apply Wl | apply Wk | apply We | apply Wc | apply Wd | refine Wt rfl rfl ?_ | refine Wf rfl rfl ?_ | refine Wi rfl rfl (fun h => ?_) (fun h => ?_) | refine Wx hF hτ rfl rfl rfl rfl rfl rfl rfl rfl (fun h => ?_) (fun h => ?_) | apply Wn)
  refine AW.range hF rfl rfl rfl rfl rfl rfl rfl rfl rfl (l.map (fun n : Int => [di n])).length (by simp [lim]; omega) (fun k => [(.s 7, Vs (l.map (fun n : Int => [di n]))), (.s 0, Uv kind), (.s 2, .bx 64 [.ref (.c 2 0)]), (.c 2 0, .row true 97 ((ms ++ moveCovers kind (l.take k)).map Move.enc))]) ?_ ?_ (fun k hk => ?_) ?_
  · exact fun k => rfl
  · (repeat' first | exact Sub.nil | refine Sub.put rfl ?_ | refine Sub.put ?_ ?_)
    rw [List.take_zero, show moveCovers kind [] = [] from rfl, List.append_nil]
    rfl
  · obtain ⟨x, hx⟩ := get_ex hk
    have hk' : k < l.length := by simpa using hk
    have hsn : ms ++ moveCovers kind (l.take (k + 1)) = ms ++ moveCovers kind (l.take k) ++ [⟨kind, 0, slot0, x⟩] := by rw [take_snoc hx]; simp [moveCovers]
    have hlen : (ms ++ moveCovers kind (l.take k)).length ≤ 101000 := by simp [moveCovers]; omega
    rw [hsn]
    generalize ms ++ moveCovers kind (l.take k) = acc at hlen
    (repeat' first | apply Wq | refine Ws hF hτ rfl ?_ | apply Wb | apply Wl | apply Wk | apply We | apply Wn)
    refine AL.opM (OpM.indexD hF rfl (hτ _ _ rfl) rfl (hτ _ _ rfl) rfl (i := k) rfl ( get_enc (fun n : Int => [di n]) hx) rfl rfl rfl) rfl rfl ?_
    refine Wv hF hτ rfl ?_
    (repeat' first | apply Wq | refine Ws hF hτ rfl ?_ | apply Wb | apply Wl | apply Wk | apply We | apply Wc | apply Wd | refine Wt rfl rfl ?_ | refine Wf rfl rfl ?_ | refine Wi rfl rfl (fun h => ?_) (fun h => ?_) | refine Wx hF hτ rfl rfl rfl rfl rfl rfl rfl rfl (fun h => ?_) (fun h => ?_) | apply Wn)
    refine AL.opM (OpM.buildSlice hF rfl (hτ _ _ rfl) rfl (hτ _ _ rfl) rfl rfl rfl (by decide) (by decide) rfl rfl) rfl rfl ?_
    refine AL.op rfl (OpTo.append hF rfl rfl rfl rfl (hτ _ _ rfl) rfl (hτ _ _ rfl) rfl rfl rfl rfl (by intro cs h; cases h with | head => rfl | tail _ h => cases h) (by simp [Base.xs, chunks, lim]; omega) (by simp [Base.xs, chunks, lim]; omega) rfl rfl rfl) ?_
    refine Wv hF hτ rfl ?_
    (repeat' first | apply Wq | refine Ws hF hτ rfl ?_ | apply Wb | apply Wl | apply Wk | apply We | apply Wc | apply Wd | refine Wt rfl rfl ?_ | refine Wf rfl rfl ?_ | refine Wi rfl rfl (fun h => ?_) (fun h => ?_) | refine Wx hF hτ rfl rfl rfl rfl rfl rfl rfl rfl (fun h => ?_) (fun h => ?_) | apply Wn)
    (repeat' first | exact Sub.nil | refine Sub.put rfl ?_ | refine Sub.put ?_ ?_)
    refine congrArg (fun z => some (V.row true 97 z)) ?_
    simp [chunks]
    rfl
  · refine ⟨.inl rfl, rfl, ?_⟩
    (repeat' first | exact Sub.nil | refine Sub.put rfl ?_ | refine Sub.put ?_ ?_)
    rw [show List.take (l.map (fun n : Int => [di n])).length l = l by simp]
    rfl
end Go.Proofs.VL
namespace Go.Proofs.VL
open Go Go.RowKit
variable {F : Fence}
def offBay (s : Ship) (b a : List Stowed) (moved : List Int) (bay : Int) : List Move :=
  moveBoxes 2 (isort aboveCmp (partOf s b moved bay true)) ++ moveCovers 1 (needed s b a moved bay) ++ moveBoxes 2 (isort aboveCmp (partOf s b moved bay false))
def onBay (s : Ship) (b a : List Stowed) (moved : List Int) (bay : Int) : List Move :=
  moveBoxes 3 (partOf s a moved bay false) ++ moveCovers 4 (needed s b a moved bay) ++ moveBoxes 3 (partOf s a moved bay true)
def offs (s : Ship) (b a : List Stowed) (moved : List Int) : Nat → List Move
  | 0 => []
  | k + 1 => offs s b a moved k ++ offBay s b a moved k
def ons (s : Ship) (b a : List Stowed) (moved : List Int) : Nat → List Move
  | 0 => offs s b a moved 40
  | k + 1 => ons s b a moved k ++ onBay s b a moved k
def callMoves (s : Ship) (b a : List Stowed) (moved : List Int) : List Move := ons s b a moved 40
theorem needed_len {s : Ship} {b a : List Stowed} {moved : List Int} {bay : Int} (h : (rawNeed s b a moved bay).length ≤ 12) : (needed s b a moved bay).length ≤ 12 := by
  rw [needed, (isort_perm _ _).length_eq]; exact h
theorem offBay_len {s : Ship} {b a : List Stowed} {moved : List Int} {bay : Int} (hb : b.length ≤ 12) (h : (rawNeed s b a moved bay).length ≤ 12) : (offBay s b a moved bay).length ≤ 36 := by
  have h1 := needed_len h
  have h2 := partOf_len s b moved bay true
  have h3 := partOf_len s b moved bay false
  simp only [offBay, moveBoxes, moveCovers, List.length_append, List.length_map, (isort_perm _ _).length_eq]
  omega
theorem onBay_len {s : Ship} {b a : List Stowed} {moved : List Int} {bay : Int} (ha : a.length ≤ 12) (h : (rawNeed s b a moved bay).length ≤ 12) : (onBay s b a moved bay).length ≤ 36 := by
  have h1 := needed_len h
  have h2 := partOf_len s a moved bay true
  have h3 := partOf_len s a moved bay false
  simp only [onBay, moveBoxes, moveCovers, List.length_append, List.length_map]
  omega
set_option maxHeartbeats 4000000 in
theorem f112 (hF : Wide F) (hro : F.round = none) (s : Ship) (b a : List Stowed) (moved : List Int) (hs : s.small) (hb : b.length ≤ 12) (ha : a.length ≤ 12) (hm : moved.length ≤ 1000) (hbn : ∀ x ∈ b, x.on s) (han : ∀ x ∈ a, x.on s) (hn : ∀ bay : Int, (rawNeed s b a moved bay).length ≤ 12) :
    FnV Tryz.prog F 112 [Vd s.enc, Vs (b.map Stowed.enc), Vs (a.map Stowed.enc), Vs (ints moved)] (.row true 97 ((callMoves s b a moved).map Move.enc)) := by
  have hoff : ∀ k, (offs s b a moved k).length ≤ 36 * k := by
    intro k
    induction k with
    | zero => simp [offs]
    | succ k ih =>
      have := offBay_len hb (hn (k : Int)) (s := s) (a := a) (moved := moved)
      simp only [offs, List.length_append]
      omega
  have hons : ∀ k, (ons s b a moved k).length ≤ 36 * 40 + 36 * k := by
    intro k
    induction k with
    | zero => have := hoff 40; simp only [ons]; omega
    | succ k ih =>
      have := onBay_len ha (hn (k : Int)) (s := s) (b := b) (moved := moved)
      simp only [ons, List.length_append]
      omega
  have hil : ∀ (l : List Stowed), l.length ≤ 12 → (isort aboveCmp l).length ≤ 1000 := fun l h => by rw [(isort_perm _ _).length_eq]; omega
  refine FnV.of_AW hF hro hτ Tryz.func112 rfl (by decide) rfl (by simp [Tryz.f112]) ?_
  (repeat' first | apply Wq | refine Ws hF hτ rfl ?_ | apply Wb | apply Wl | apply Wk | apply We | apply Wc | apply Wd | refine Wt rfl rfl ?_ | refine Wf rfl rfl ?_ | refine Wi rfl rfl (fun h => ?_) (fun h => ?_) | refine Wx hF hτ rfl rfl rfl rfl rfl rfl rfl rfl (fun h => ?_) (fun h => ?_) | apply Wn)
  refine AW.ent (Ent.nilRow (t := 9) (i := 0) (m := true) (e := 97) rfl) ?_
  refine AW.loopI (X := { k : Nat // k ≤ 40 }) (fun k => [(.s 4, .bx 35 (s.enc.map .d)), (.s 1, Vs (b.map Stowed.enc)), (.s 2, Vs (a.map Stowed.enc)), (.s 3, Vs (ints moved)), (.s 10, .fn 184 [.ref (.s 9)]), (.s 11, .fn 185 [.ref (.s 9)]), (.s 9, .bx 64 [.ref (.c 9 0)]), (.c 9 0, .row true 97 ((offs s b a moved k.1).map Move.enc)), (.s 16, Iv64 k.1)]) (fun k => 40 - k.1) (fun k => rfl) ⟨0, by omega⟩ ?_ ?_
  · (repeat' first | exact Sub.nil | refine Sub.put rfl ?_ | refine Sub.put ?_ ?_)
  rintro ⟨k, hk⟩
  have hal := hoff k
  have hoffs : offs s b a moved (k + 1) = offs s b a moved k ++ offBay s b a moved k := rfl
  have hpl := partOf_len s b moved k true
  have hpl2 := partOf_len s b moved k false
  have hnl := needed_len (hn k)
  (repeat' first | apply Wq | refine Ws hF hτ rfl ?_ | apply Wb | apply Wl | apply Wk | apply We | apply Wc | apply Wd | refine Wt rfl rfl ?_ | refine Wf rfl rfl ?_ | refine Wi rfl rfl (fun h => ?_) (fun h => ?_) | refine Wx hF hτ rfl rfl rfl rfl rfl rfl rfl rfl (fun h => ?_) (fun h => ?_) | apply Wn)
  · refine AL.opM (OpM.call hF rfl rfl rfl rfl (f187 hF hro s b moved k true hs hb hm hbn) rfl rfl rfl) rfl rfl ?_
    refine AL.op rfl (OpTo.callX hF rfl rfl rfl rfl rfl rfl rfl (f186 hF hro (partOf s b moved k true) (by omega)) rfl rfl rfl rfl rfl) ?_
    refine Wv hF hτ rfl ?_
    refine AL.ent (Ent.frzs (ls := [.s 25]) rfl) ?_
    have l1 : (isort aboveCmp (partOf s b moved k true)).length ≤ 1000 := hil _ (by omega)
    have l2 : (isort aboveCmp (partOf s b moved k false)).length ≤ 1000 := hil _ (by omega)
    refine AL.op rfl (OpTo.callX hF rfl rfl rfl rfl rfl rfl rfl (f184 hF hro 2 (isort aboveCmp (partOf s b moved k true)) (offs s b a moved k) l1 (by omega)) rfl rfl rfl rfl rfl) ?_
    refine Wv hF hτ rfl ?_
    (repeat' first | apply Wq | refine Ws hF hτ rfl ?_ | apply Wb | apply Wl | apply Wk | apply We | apply Wc | apply Wd | refine Wt rfl rfl ?_ | refine Wf rfl rfl ?_ | refine Wi rfl rfl (fun h => ?_) (fun h => ?_) | refine Wx hF hτ rfl rfl rfl rfl rfl rfl rfl rfl (fun h => ?_) (fun h => ?_) | apply Wn)
    refine AL.opM (OpM.call hF rfl rfl rfl rfl (f188 hF hro s b a moved k hs hb ha hm hbn han (hn k)) rfl rfl rfl) rfl rfl ?_
    refine AL.ent (Ent.frzs (ls := [.s 33]) rfl) ?_
    have l3 : (offs s b a moved k ++ moveBoxes 2 (isort aboveCmp (partOf s b moved k true))).length ≤ 3000 := by simp [moveBoxes]; rw [(isort_perm _ _).length_eq]; omega
    refine AL.op rfl (OpTo.callX hF rfl rfl rfl rfl rfl rfl rfl (f185 hF hro 1 (needed s b a moved k) (offs s b a moved k ++ moveBoxes 2 (isort aboveCmp (partOf s b moved k true))) (by omega) (by omega)) rfl rfl rfl rfl rfl) ?_
    refine Wv hF hτ rfl ?_
    (repeat' first | apply Wq | refine Ws hF hτ rfl ?_ | apply Wb | apply Wl | apply Wk | apply We | apply Wc | apply Wd | refine Wt rfl rfl ?_ | refine Wf rfl rfl ?_ | refine Wi rfl rfl (fun h => ?_) (fun h => ?_) | refine Wx hF hτ rfl rfl rfl rfl rfl rfl rfl rfl (fun h => ?_) (fun h => ?_) | apply Wn)
    refine AL.opM (OpM.call hF rfl rfl rfl rfl (f187 hF hro s b moved k false hs hb hm hbn) rfl rfl rfl) rfl rfl ?_
    refine AL.op rfl (OpTo.callX hF rfl rfl rfl rfl rfl rfl rfl (f186 hF hro (partOf s b moved k false) (by omega)) rfl rfl rfl rfl rfl) ?_
    refine Wv hF hτ rfl ?_
    refine AL.ent (Ent.frzs (ls := [.s 41]) rfl) ?_
    have l4 : (offs s b a moved k ++ moveBoxes 2 (isort aboveCmp (partOf s b moved k true)) ++ moveCovers 1 (needed s b a moved k)).length ≤ 4000 := by rw [List.length_append]; simp only [moveCovers, List.length_map]; omega
    refine AL.op rfl (OpTo.callX hF rfl rfl rfl rfl rfl rfl rfl (f184 hF hro 2 (isort aboveCmp (partOf s b moved k false)) (offs s b a moved k ++ moveBoxes 2 (isort aboveCmp (partOf s b moved k true)) ++ moveCovers 1 (needed s b a moved k)) l2 (by omega)) rfl rfl rfl rfl rfl) ?_
    refine Wv hF hτ rfl ?_
    (repeat' first | apply Wq | refine Ws hF hτ rfl ?_ | apply Wb | apply Wl | apply Wk | apply We | apply Wc | apply Wd | refine Wt rfl rfl ?_ | refine Wf rfl rfl ?_ | refine Wi rfl rfl (fun h => ?_) (fun h => ?_) | refine Wx hF hτ rfl rfl rfl rfl rfl rfl rfl rfl (fun h => ?_) (fun h => ?_) | apply Wn)
    have hk40 : k < 40 := by
      have h' : decide ((k : Int) < 40) = true := h
      have := of_decide_eq_true h'; omega
    refine ⟨⟨k + 1, hk40⟩, by show 40 - (k + 1) < 40 - k; omega, ?_⟩
    (repeat' first | exact Sub.nil | refine Sub.put rfl ?_ | refine Sub.put ?_ ?_)
    · refine congrArg (fun z : List Move => some (V.row true 97 (z.map Move.enc))) ?_
      show _ = offs s b a moved (k + 1)
      rw [hoffs, offBay]
      simp
    · exact congrArg (fun z => some (Iv64 z)) (wrap_id (x := (k : Int) + 1) (by omega) (by omega))
  · have hk40 : k = 40 := by
      have h' : decide ((k : Int) < 40) = false := h
      have := of_decide_eq_false h'; omega
    subst hk40
    clear hpl hpl2 hnl hoffs hal
    (repeat' first | apply Wq | refine Ws hF hτ rfl ?_ | apply Wb | apply Wl | apply Wk | apply We | apply Wc | apply Wd | refine Wt rfl rfl ?_ | refine Wf rfl rfl ?_ | refine Wi rfl rfl (fun h => ?_) (fun h => ?_) | refine Wx hF hτ rfl rfl rfl rfl rfl rfl rfl rfl (fun h => ?_) (fun h => ?_) | apply Wn)
    refine AW.loopI (X := { k : Nat // k ≤ 40 }) (fun k => [(.s 4, .bx 35 (s.enc.map .d)), (.s 1, Vs (b.map Stowed.enc)), (.s 2, Vs (a.map Stowed.enc)), (.s 3, Vs (ints moved)), (.s 10, .fn 184 [.ref (.s 9)]), (.s 11, .fn 185 [.ref (.s 9)]), (.s 9, .bx 64 [.ref (.c 9 0)]), (.c 9 0, .row true 97 ((ons s b a moved k.1).map Move.enc)), (.s 44, Iv64 k.1)]) (fun k => 40 - k.1) (fun k => rfl) ⟨0, by omega⟩ ?_ ?_
    · (repeat' first | exact Sub.nil | refine Sub.put rfl ?_ | refine Sub.put ?_ ?_)
    rintro ⟨k, hk⟩
    have hal := hons k
    have hoffs : ons s b a moved (k + 1) = ons s b a moved k ++ onBay s b a moved k := rfl
    have hpl := partOf_len s a moved k true
    have hpl2 := partOf_len s a moved k false
    have hnl := needed_len (hn k)
    (repeat' first | apply Wq | refine Ws hF hτ rfl ?_ | apply Wb | apply Wl | apply Wk | apply We | apply Wc | apply Wd | refine Wt rfl rfl ?_ | refine Wf rfl rfl ?_ | refine Wi rfl rfl (fun h => ?_) (fun h => ?_) | refine Wx hF hτ rfl rfl rfl rfl rfl rfl rfl rfl (fun h => ?_) (fun h => ?_) | apply Wn)
    · refine AL.opM (OpM.call hF rfl rfl rfl rfl (f187 hF hro s a moved k false hs ha hm han) rfl rfl rfl) rfl rfl ?_
      refine AL.ent (Ent.frzs (ls := [.s 52]) rfl) ?_
      refine AL.op rfl (OpTo.callX hF rfl rfl rfl rfl rfl rfl rfl (f184 hF hro 3 (partOf s a moved k false) (ons s b a moved k) (by omega) (by omega)) rfl rfl rfl rfl rfl) ?_
      refine Wv hF hτ rfl ?_
      (repeat' first | apply Wq | refine Ws hF hτ rfl ?_ | apply Wb | apply Wl | apply Wk | apply We | apply Wc | apply Wd | refine Wt rfl rfl ?_ | refine Wf rfl rfl ?_ | refine Wi rfl rfl (fun h => ?_) (fun h => ?_) | refine Wx hF hτ rfl rfl rfl rfl rfl rfl rfl rfl (fun h => ?_) (fun h => ?_) | apply Wn)
      refine AL.opM (OpM.call hF rfl rfl rfl rfl (f188 hF hro s b a moved k hs hb ha hm hbn han (hn k)) rfl rfl rfl) rfl rfl ?_
      refine AL.ent (Ent.frzs (ls := [.s 60]) rfl) ?_
      have l3 : (ons s b a moved k ++ moveBoxes 3 (partOf s a moved k false)).length ≤ 5000 := by rw [List.length_append]; simp only [moveBoxes, List.length_map]; omega
      refine AL.op rfl (OpTo.callX hF rfl rfl rfl rfl rfl rfl rfl (f185 hF hro 4 (needed s b a moved k) (ons s b a moved k ++ moveBoxes 3 (partOf s a moved k false)) (by omega) (by omega)) rfl rfl rfl rfl rfl) ?_
      refine Wv hF hτ rfl ?_
      (repeat' first | apply Wq | refine Ws hF hτ rfl ?_ | apply Wb | apply Wl | apply Wk | apply We | apply Wc | apply Wd | refine Wt rfl rfl ?_ | refine Wf rfl rfl ?_ | refine Wi rfl rfl (fun h => ?_) (fun h => ?_) | refine Wx hF hτ rfl rfl rfl rfl rfl rfl rfl rfl (fun h => ?_) (fun h => ?_) | apply Wn)
      refine AL.opM (OpM.call hF rfl rfl rfl rfl (f187 hF hro s a moved k true hs ha hm han) rfl rfl rfl) rfl rfl ?_
      refine AL.ent (Ent.frzs (ls := [.s 67]) rfl) ?_
      have l4 : (ons s b a moved k ++ moveBoxes 3 (partOf s a moved k false) ++ moveCovers 4 (needed s b a moved k)).length ≤ 6000 := by rw [List.length_append]; simp only [moveCovers, List.length_map]; omega
      refine AL.op rfl (OpTo.callX hF rfl rfl rfl rfl rfl rfl rfl (f184 hF hro 3 (partOf s a moved k true) (ons s b a moved k ++ moveBoxes 3 (partOf s a moved k false) ++ moveCovers 4 (needed s b a moved k)) (by omega) (by omega)) rfl rfl rfl rfl rfl) ?_
      refine Wv hF hτ rfl ?_
      (repeat' first | apply Wq | refine Ws hF hτ rfl ?_ | apply Wb | apply Wl | apply Wk | apply We | apply Wc | apply Wd | refine Wt rfl rfl ?_ | refine Wf rfl rfl ?_ | refine Wi rfl rfl (fun h => ?_) (fun h => ?_) | refine Wx hF hτ rfl rfl rfl rfl rfl rfl rfl rfl (fun h => ?_) (fun h => ?_) | apply Wn)
      have hk40 : k < 40 := by
        have h' : decide ((k : Int) < 40) = true := h
        have := of_decide_eq_true h'; omega
      refine ⟨⟨k + 1, hk40⟩, by show 40 - (k + 1) < 40 - k; omega, ?_⟩
      (repeat' first | exact Sub.nil | refine Sub.put rfl ?_ | refine Sub.put ?_ ?_)
      · refine congrArg (fun z : List Move => some (V.row true 97 (z.map Move.enc))) ?_
        show _ = ons s b a moved (k + 1)
        rw [hoffs, onBay]
        simp
      · exact congrArg (fun z => some (Iv64 z)) (wrap_id (x := (k : Int) + 1) (by omega) (by omega))
    · have hk40 : k = 40 := by
        have h' : decide ((k : Int) < 40) = false := h
        have := of_decide_eq_false h'; omega
      subst hk40
      (repeat' first | apply Wq | refine Ws hF hτ rfl ?_ | apply Wb | apply Wl | apply Wk | apply We | apply Wc | apply Wd | refine Wt rfl rfl ?_ | refine Wf rfl rfl ?_ | refine Wi rfl rfl (fun h => ?_) (fun h => ?_) | refine Wx hF hτ rfl rfl rfl rfl rfl rfl rfl rfl (fun h => ?_) (fun h => ?_) | apply Wn)
      refine AW.ret ⟨.inr rfl, ?_⟩
      rfl
end Go.Proofs.VL
namespace Go.Proofs.VL
open Go Go.RowKit
variable {F : Fence}
theorem cmpZ_neg (a b : Int) : cmpZ a b < 0 ↔ a < b := by
  unfold cmpZ
  split
  · simp [*]
  · split <;> simp [*]
theorem f163 (hF : Wide F) (hro : F.round = none) (a b : Int) : FnV Tryz.prog F 163 [Iv64 a, Iv64 b] (Vb (decide (a < b))) := by
  refine FnV.of_AW hF hro hτ Tryz.func163 rfl (by decide) rfl (by simp [Tryz.f163]) ?_
  (repeat' first | apply Wq | refine Ws hF hτ rfl ?_ | apply Wb | apply Wl | apply Wk | apply We | apply Wc | apply Wd | refine Wt rfl rfl ?_ | refine Wf rfl rfl ?_ | refine Wi rfl rfl (fun h => ?_) (fun h => ?_) | refine Wx hF hτ rfl rfl rfl rfl rfl rfl rfl rfl (fun h => ?_) (fun h => ?_) | apply Wn)
  refine AL.opM (OpM.call hF rfl rfl rfl rfl (f76 hF hro a) rfl rfl rfl) rfl rfl ?_
  refine Wv hF hτ rfl ?_
  (repeat' first | apply Wq | refine Ws hF hτ rfl ?_ | apply Wb | apply Wl | apply Wk | apply We | apply Wc | apply Wd | refine Wt rfl rfl ?_ | refine Wf rfl rfl ?_ | refine Wi rfl rfl (fun h => ?_) (fun h => ?_) | refine Wx hF hτ rfl rfl rfl rfl rfl rfl rfl rfl (fun h => ?_) (fun h => ?_) | apply Wn)
  · cases h
  · refine AW.ret ⟨.inr rfl, congrArg (fun z => some (Vb z)) ?_⟩
    rfl
set_option maxHeartbeats 4000000 in
theorem f157 (hF : Wide F) (hro : F.round = none) (l : List Int) (hl : l.length ≤ 1000) :
    FnX Tryz.prog F 157 3 [(.s 0, .row true 3 (l.map (fun n : Int => [di n]))), (.s 1, Iv64 (0 : Nat)), (.s 2, Iv64 l.length)] (.tu []) [(.s 0, .row true 3 ((isort cmpZ l).map (fun n : Int => [di n])))] := by
  refine FnX.of_AW hF hro hτ (K := [0]) Tryz.func157 rfl (by decide) rfl (Nat.le_of_ble_eq_true rfl) rfl rfl ?_
  (repeat' first | apply Wq | refine Ws hF hτ rfl ?_ | apply Wb | apply Wl | apply Wk | apply We | apply Wc | apply Wd | refine Wt rfl rfl ?_ | refine Wf rfl rfl ?_ | refine Wi rfl rfl (fun h => ?_) (fun h => ?_) | refine Wx hF hτ rfl rfl rfl rfl rfl rfl rfl rfl (fun h => ?_) (fun h => ?_) | apply Wn)
  refine AW.loopI (X := { i : Nat // i + 1 ≤ l.length + 1 ∧ (0 < l.length → i < l.length) }) (fun i => [(.s 6, Iv64 (i.1 + 1 : Nat)), (.s 0, .row true 3 ((insTo cmpZ l i.1).map (fun n : Int => [di n]))), (.s 1, Iv64 (0 : Nat)), (.s 2, Iv64 l.length)]) (fun i => l.length - i.1) (fun i => rfl) ⟨0, by omega, fun h => h⟩ ?_ ?_
  · (repeat' first | exact Sub.nil | refine Sub.put rfl ?_ | refine Sub.put ?_ ?_)
  rintro ⟨i, hi1, hi2⟩
  (repeat' first | apply Wq | refine Ws hF hτ rfl ?_ | apply Wb | apply Wl | apply Wk | apply We | apply Wc | apply Wd | refine Wt rfl rfl ?_ | refine Wf rfl rfl ?_ | refine Wi rfl rfl (fun h => ?_) (fun h => ?_) | refine Wx hF hτ rfl rfl rfl rfl rfl rfl rfl rfl (fun h => ?_) (fun h => ?_) | apply Wn)
  · have hil : i + 1 < l.length := by
      have h' : decide (((i + 1 : Nat) : Int) < (l.length : Nat)) = true := h
      have := of_decide_eq_true h'
      omega
    refine AW.loopI (X := { x : Nat × List Int // x.1 < l.length ∧ x.2.length = l.length ∧ insAt cmpZ x.2 x.1 = insTo cmpZ l (i + 1) }) (fun x => [(.s 7, Iv64 x.1.1), (.s 6, Iv64 (i + 1 : Nat)), (.s 0, .row true 3 (x.1.2.map (fun n : Int => [di n]))), (.s 1, Iv64 (0 : Nat)), (.s 2, Iv64 l.length)]) (fun x => x.1.1) (fun x => rfl) ⟨(i + 1, insTo cmpZ l i), hil, insTo_length cmpZ l i, rfl⟩ ?_ ?_
    · (repeat' first | exact Sub.nil | refine Sub.put rfl ?_ | refine Sub.put ?_ ?_)
    rintro ⟨⟨j, xs⟩, q1, q2, q3⟩
    simp only at q1 q2 q3
    (repeat' first | apply Wq | refine Ws hF hτ rfl ?_ | apply Wb | apply Wl | apply Wk | apply We | apply Wn)
    refine AW.draw hmix (AD.start [] [0, 1, 2, 3] ?_)
    refine AD.vals hF hτ rfl ?_
    refine AD.fin (by kernel_rfl) rfl rfl ?_
    refine AA.split 19 rfl rfl (fun h1 => ?_) (fun h1 => ?_)
    · have hj0 : 0 < j := by simpa using h1
      obtain ⟨j, rfl⟩ : ∃ k, j = k + 1 := ⟨j - 1, by omega⟩
      obtain ⟨x, hx⟩ : ∃ x, xs[j + 1]? = some x := ⟨_, List.getElem?_eq_getElem (by omega)⟩
      obtain ⟨y, hy⟩ : ∃ y, xs[j]? = some y := ⟨_, List.getElem?_eq_getElem (by omega)⟩
      have hw : IntKind.wrap .i64 (((j + 1 : Nat) : Int) - 1) = (j : Int) := by rw [wrap_id (by omega) (by omega)]; omega
      refine AD.start [0, 1, 2, 3] [4, 5, 6, 7, 8, 9, 10, 11, 12, 13, 14] ?_
      refine AD.vals hF hτ rfl ?_
      refine AD.op (o := _) rfl rfl rfl (OpM.indexR hF rfl (hτ _ _ rfl) rfl (hτ _ _ rfl) rfl (k := .i64) (i := j + 1) rfl (by simp; omega) rfl rfl) ?_
      refine AD.vals hF hτ rfl ?_
      refine AD.op (o := _) rfl rfl rfl (OpM.loadE hF rfl (hτ _ _ rfl) rfl rfl (q := 0) (get_enc (fun n : Int => [di n]) hx) rfl (Nat.le_of_ble_eq_true rfl) rfl rfl rfl) ?_
      refine AD.vals hF hτ rfl ?_
      refine AD.op (o := _) rfl rfl rfl (OpM.indexR hF rfl (hτ _ _ rfl) rfl (hτ _ _ rfl) rfl (k := .i64) (i := j) (by exact congrArg (fun z => some (IntKind.i64, z)) hw) (by simp; omega) rfl rfl) ?_
      refine AD.vals hF hτ rfl ?_
      refine AD.op (o := _) rfl rfl rfl (OpM.loadE hF rfl (hτ _ _ rfl) rfl rfl (q := 0) (get_enc (fun n : Int => [di n]) hy) rfl (Nat.le_of_ble_eq_true rfl) rfl rfl rfl) ?_
      refine AD.vals hF hτ rfl ?_
      refine AD.op (o := _) rfl rfl rfl (OpM.call hF rfl rfl rfl rfl (f163 hF hro x y) rfl rfl rfl) ?_
      refine AD.vals hF hτ rfl ?_
      refine AD.fin (by kernel_rfl) rfl rfl (AA.done (by kernel_rfl) ?_)
      (repeat' first | apply Wq | refine Ws hF hτ rfl ?_ | apply Wb | apply Wl | apply Wk | apply We | apply Wc | apply Wd | refine Wt rfl rfl ?_ | refine Wf rfl rfl ?_ | refine Wi rfl rfl (fun h => ?_) (fun h => ?_) | refine Wx hF hτ rfl rfl rfl rfl rfl rfl rfl rfl (fun h => ?_) (fun h => ?_) | apply Wn)
      · have hw0 : ((j + 1 : Nat) : Int) = ((j + 1 : Nat) : Int) := rfl
        have hins : insAt cmpZ xs (j + 1) = insAt cmpZ ((xs.set (j + 1) y).set j x) j := by
          simp only [insAt, hx, hy]
          rw [if_pos ((cmpZ_neg x y).2 (of_decide_eq_true h))]
        refine AW.forget (.s 16) rfl ?_
        (repeat' first | apply Wq | refine Ws hF hτ rfl ?_ | apply Wb | apply Wl | apply Wk | apply We | apply Wn)
        refine AW.draw hmix (AD.start [] [0, 1, 2, 3, 4, 5, 6, 7, 8, 9, 10, 11, 12, 13, 14] ?_)
        refine AD.vals hF hτ rfl ?_
        refine AD.op (o := _) rfl rfl rfl (OpM.indexR hF rfl (hτ _ _ rfl) rfl (hτ _ _ rfl) rfl (k := .i64) (i := j) (by exact congrArg (fun z => some (IntKind.i64, z)) hw) (by simp; omega) rfl rfl) ?_
        refine AD.vals hF hτ rfl ?_
        refine AD.op (o := _) rfl rfl rfl (OpM.loadE hF rfl (hτ _ _ rfl) rfl rfl (q := 0) (get_enc (fun n : Int => [di n]) hy) rfl (Nat.le_of_ble_eq_true rfl) rfl rfl rfl) ?_
        refine AD.vals hF hτ rfl ?_
        refine AD.op (o := _) rfl rfl rfl (OpM.indexR hF rfl (hτ _ _ rfl) rfl (hτ _ _ rfl) rfl (k := .i64) (i := j + 1) rfl (by simp; omega) rfl rfl) ?_
        refine AD.vals hF hτ rfl ?_
        refine AD.op (o := _) rfl rfl rfl (OpM.loadE hF rfl (hτ _ _ rfl) rfl rfl (q := 0) (get_enc (fun n : Int => [di n]) hx) rfl (Nat.le_of_ble_eq_true rfl) rfl rfl rfl) ?_
        refine AD.vals hF hτ rfl ?_
        refine AD.op (o := _) rfl rfl rfl (OpM.indexR hF rfl (hτ _ _ rfl) rfl (hτ _ _ rfl) rfl (k := .i64) (i := j + 1) rfl (by simp; omega) rfl rfl) ?_
        refine AD.vals hF hτ rfl ?_
        refine AD.finC 15 [] (fuel2 := 2) rfl rfl rfl (OpF.storeE hF rfl rfl (hτ _ _ rfl) rfl rfl (q := 0) (get_enc (fun n : Int => [di n]) hx) rfl rfl rfl (Nat.le_of_ble_eq_true rfl) rfl) (by kernel_rfl) (by kernel_rfl) rfl rfl rfl
          (DS.run (DS.run (DS.run .nil (newD_of (by kernel_rfl)) rfl rfl (OpM.val hF hτ rfl rfl rfl)) (newD_of (by kernel_rfl)) rfl rfl (OpM.val hF hτ rfl rfl rfl)) (newD_of (by kernel_rfl)) rfl rfl (OpM.val hF hτ rfl rfl rfl)) (by kernel_rfl) (AA.tail (fuel := 0) [16, 17] _ (by kernel_rfl) ?_) rfl
        refine AL.opM (OpM.indexR hF rfl (hτ _ _ rfl) rfl (hτ _ _ rfl) rfl (k := .i64) (i := j) (by exact congrArg (fun z => some (IntKind.i64, z)) hw) (by simp; omega) rfl rfl) rfl rfl ?_
        refine AL.op rfl (OpTo.storeE hF rfl rfl (hτ _ _ rfl) rfl rfl (i := j) (q := 0) (cs := (fun n : Int => [di n]) y) (by rw [List.getElem?_set_ne (by omega)]; exact get_enc (fun n : Int => [di n]) hy) rfl rfl rfl (Nat.le_of_ble_eq_true rfl)) ?_
        refine Wv hF hτ rfl ?_
        (repeat' first | apply Wq | refine Ws hF hτ rfl ?_ | apply Wb | apply Wl | apply Wk | apply We | apply Wc | apply Wd | refine Wt rfl rfl ?_ | refine Wf rfl rfl ?_ | refine Wi rfl rfl (fun h => ?_) (fun h => ?_) | refine Wx hF hτ rfl rfl rfl rfl rfl rfl rfl rfl (fun h => ?_) (fun h => ?_) | apply Wn)
        refine ⟨⟨(j, (xs.set (j + 1) y).set j x), by show j < l.length; omega, by simp [q2], by show insAt cmpZ _ j = _; rw [← hins]; exact q3⟩, by show j < j + 1; omega, ?_⟩
        (repeat' first | exact Sub.nil | refine Sub.put rfl ?_ | refine Sub.put ?_ ?_)
        · exact congrArg (fun z => some (Iv64 z)) hw
        · refine congrArg (fun z => some (V.row true 3 z)) ?_
          simp only [List.map_set]
          rfl
      · refine ⟨⟨i + 1, by omega, fun _ => hil⟩, by show l.length - (i + 1) < l.length - i; omega, ?_⟩
        (repeat' first | exact Sub.nil | refine Sub.put rfl ?_ | refine Sub.put ?_ ?_)
        · exact congrArg (fun z => some (Iv64 z)) (wrap_id (x := ((i + 1 : Nat) : Int) + 1) (by omega) (by omega))
        · refine congrArg (fun z : List Int => some (V.row true 3 (z.map (fun n : Int => [di n])))) ?_
          show xs = insTo cmpZ l (i + 1)
          rw [← q3]
          simp only [insAt, hx, hy]
          rw [if_neg (fun e => of_decide_eq_false h ((cmpZ_neg x y).1 e))]
    · refine AD.start [0, 1, 2, 3] [4, 5, 6, 7, 8, 9, 10, 11, 12, 13, 14] ?_
      refine AD.vals hF hτ rfl ?_
      refine AD.fin (by kernel_rfl) rfl rfl (AA.done (by kernel_rfl) ?_)
      (repeat' first | apply Wq | refine Ws hF hτ rfl ?_ | apply Wb | apply Wl | apply Wk | apply We | apply Wc | apply Wd | refine Wt rfl rfl ?_ | refine Wf rfl rfl ?_ | refine Wi rfl rfl (fun h => ?_) (fun h => ?_) | refine Wx hF hτ rfl rfl rfl rfl rfl rfl rfl rfl (fun h => ?_) (fun h => ?_) | apply Wn)
      refine ⟨⟨i + 1, by omega, fun _ => hil⟩, by show l.length - (i + 1) < l.length - i; omega, ?_⟩
      (repeat' first | exact Sub.nil | refine Sub.put rfl ?_ | refine Sub.put ?_ ?_)
      · exact congrArg (fun z => some (Iv64 z)) (wrap_id (x := ((i + 1 : Nat) : Int) + 1) (by omega) (by omega))
      · refine congrArg (fun z : List Int => some (V.row true 3 (z.map (fun n : Int => [di n])))) ?_
        have hj : j = 0 := by
          have h' : decide (((0 : Nat) : Int) < (j : Nat)) = false := h1
          have := of_decide_eq_false h'
          omega
        show xs = insTo cmpZ l (i + 1)
        rw [← q3, hj]
        rfl
  · have hil : i = l.length - 1 := by
      have h' : decide (((i + 1 : Nat) : Int) < (l.length : Nat)) = false := h
      have := of_decide_eq_false h'
      omega
    refine ⟨.inl rfl, rfl, ?_⟩
    (repeat' first | exact Sub.nil | refine Sub.put rfl ?_ | refine Sub.put ?_ ?_)
    rw [isort, ← hil]
    rfl
set_option maxHeartbeats 4000000 in
theorem f78 (hF : Wide F) (hro : F.round = none) (l : List Int) (hl : l.length ≤ 12) (b : Int) :
    FnX Tryz.prog F 78 4 [(.s 0, .row true 3 (l.map (fun n : Int => [di n]))), (.s 1, Iv64 (0 : Nat)), (.s 2, Iv64 l.length), (.s 3, Iv64 b)] (.tu []) [(.s 0, .row true 3 ((isort cmpZ l).map (fun n : Int => [di n])))] := by
  refine FnX.of_AW hF hro hτ (K := [0]) Tryz.func78 rfl (by decide) rfl (Nat.le_of_ble_eq_true rfl) rfl rfl ?_
  (repeat' first | apply Wq | refine Ws hF hτ rfl ?_ | apply Wb | apply Wl | apply Wk | apply We | apply Wc | apply Wd | refine Wt rfl rfl ?_ | refine Wf rfl rfl ?_ | refine Wi rfl rfl (fun h => ?_) (fun h => ?_) | refine Wx hF hτ rfl rfl rfl rfl rfl rfl rfl rfl (fun h => ?_) (fun h => ?_) | apply Wn)
  refine AW.loopI (X := Unit) (fun _ => [(.s 0, .row true 3 (l.map (fun n : Int => [di n]))), (.s 1, Iv64 (0 : Nat)), (.s 2, Iv64 l.length)]) (fun _ => 0) (fun _ => rfl) () ?_ ?_
  · (repeat' first | exact Sub.nil | refine Sub.put rfl ?_ | refine Sub.put ?_ ?_)
  intro _
  have hw : IntKind.wrap .i64 ((l.length : Int) - ((0 : Nat) : Int)) = l.length := by rw [wrap_id (by omega) (by omega)]; omega
  (repeat' first | apply Wq | refine Ws hF hτ rfl ?_ | apply Wb | apply Wl | apply Wk | apply We | apply Wc | apply Wd | refine Wt rfl rfl ?_ | refine Wf rfl rfl ?_ | refine Wi rfl rfl (fun h => ?_) (fun h => ?_) | refine Wx hF hτ rfl rfl rfl rfl rfl rfl rfl rfl (fun h => ?_) (fun h => ?_) | apply Wn)
  · refine AL.op rfl (OpTo.callX hF rfl rfl rfl rfl rfl rfl rfl (f157 hF hro l (by omega)) rfl rfl rfl rfl rfl) ?_
    refine Wv hF hτ rfl ?_
    (repeat' first | apply Wq | refine Ws hF hτ rfl ?_ | apply Wb | apply Wl | apply Wk | apply We | apply Wc | apply Wd | refine Wt rfl rfl ?_ | refine Wf rfl rfl ?_ | refine Wi rfl rfl (fun h => ?_) (fun h => ?_) | refine Wx hF hτ rfl rfl rfl rfl rfl rfl rfl rfl (fun h => ?_) (fun h => ?_) | apply Wn)
    refine AW.ret ⟨.inr rfl, rfl, ?_⟩
    (repeat' first | exact Sub.nil | refine Sub.put rfl ?_ | refine Sub.put ?_ ?_)
  · exfalso
    have h' : decide (IntKind.wrap .i64 ((l.length : Int) - ((0 : Nat) : Int)) ≤ 12) = false := h
    rw [hw] at h'
    have := of_decide_eq_false h'
    omega
theorem f32 (hF : Wide F) (hro : F.round = none) (l : List Int) (hl : l.length ≤ 12) :
    FnX Tryz.prog F 32 1 [(.s 0, .row true 3 (l.map (fun n : Int => [di n])))] (.tu []) [(.s 0, .row true 3 ((isort cmpZ l).map (fun n : Int => [di n])))] := by
  refine FnX.of_AW hF hro hτ (K := [0]) Tryz.func32 rfl (by decide) rfl (Nat.le_of_ble_eq_true rfl) rfl rfl ?_
  obtain ⟨b, hb⟩ := f75 hF hro (F := F) (l.map (fun n : Int => [di n])).length (by simp; omega)
  have hb' : FnV Tryz.prog F 75 [.d (.sc (.int .u64 (IntKind.wrap .u64 ((l.map (fun n : Int => [di n])).length : Int))))] (Iv64 b) := by
    rw [wrap_u64b _ (by simp; omega)]; exact hb
  have hq := f78 hF hro l hl b
  rw [show (l.length : Int) = ((l.map (fun n : Int => [di n])).length : Nat) by simp] at hq
  (repeat' first | apply Wq | refine Ws hF hτ rfl ?_ | apply Wb | apply Wl | apply Wk | apply We | apply Wc | apply Wd | refine Wt rfl rfl ?_ | refine Wf rfl rfl ?_ | refine Wi rfl rfl (fun h => ?_) (fun h => ?_) | refine Wx hF hτ rfl rfl rfl rfl rfl rfl rfl rfl (fun h => ?_) (fun h => ?_) | apply Wn)
  refine AL.opM (OpM.call hF rfl rfl rfl rfl (hb') rfl rfl rfl) rfl rfl ?_
  refine Wv hF hτ rfl ?_
  refine AL.op rfl (OpTo.callX hF rfl rfl rfl rfl rfl rfl rfl (hq) rfl rfl rfl rfl rfl) ?_
  refine Wv hF hτ rfl ?_
  (repeat' first | apply Wq | refine Ws hF hτ rfl ?_ | apply Wb | apply Wl | apply Wk | apply We | apply Wc | apply Wd | refine Wt rfl rfl ?_ | refine Wf rfl rfl ?_ | refine Wi rfl rfl (fun h => ?_) (fun h => ?_) | refine Wx hF hτ rfl rfl rfl rfl rfl rfl rfl rfl (fun h => ?_) (fun h => ?_) | apply Wn)
  refine ⟨.inl rfl, rfl, ?_⟩
  (repeat' first | exact Sub.nil | refine Sub.put rfl ?_ | refine Sub.put ?_ ?_)
end Go.Proofs.VL
