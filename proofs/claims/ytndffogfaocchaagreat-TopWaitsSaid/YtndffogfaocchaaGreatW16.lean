import Derived.Test.YtndffogfaocchaaGreatW10
import Derived.Test.YtndffogfaocchaaGreatW15
set_option linter.unusedVariables false
set_option linter.unusedSimpArgs false
set_option linter.unusedSectionVars false
namespace Go.Proofs.VL
open Go Go.RowKit
variable {F : Fence}
theorem idxFrom_first {α : Type} (p : α → Bool) (l : List α) : (idxFrom p 0 l = -1 ∧ l.filter (fun x => !(p x)) = l) ∨ ∃ (i : Nat) (x : α), idxFrom p 0 l = (i : Int) ∧ l[i]? = some x ∧ p x = true ∧ (l.take i).filter (fun x => !(p x)) = l.take i := by
  have key : ∀ (l : List α) (k : Nat), (idxFrom p k l = -1 ∧ l.filter (fun x => !(p x)) = l) ∨ ∃ (i : Nat) (x : α), idxFrom p k l = ((k + i : Nat) : Int) ∧ l[i]? = some x ∧ p x = true ∧ (l.take i).filter (fun x => !(p x)) = l.take i := by
    intro l
    induction l with
    | nil => intro k; exact .inl ⟨rfl, rfl⟩
    | cons y l ih =>
      intro k
      simp only [idxFrom]
      by_cases h : p y = true
      · simp only [h, if_true]
        exact .inr ⟨0, y, rfl, rfl, h, rfl⟩
      · have h' : p y = false := by simpa using h
        simp only [h', Bool.false_eq_true, if_false]
        rcases ih (k + 1) with ⟨h1, h2⟩ | ⟨i, x, h1, h2, h3, h4⟩
        · exact .inl ⟨h1, by rw [List.filter_cons]; simp [h', h2]⟩
        · exact .inr ⟨i + 1, x, by rw [h1]; congr 1; omega, by simpa using h2, h3, by rw [List.take_succ_cons, List.filter_cons]; simp [h', h4]⟩
  rcases key l 0 with h | ⟨i, x, h1, h2⟩
  · exact .inl h
  · exact .inr ⟨i, x, by rw [h1]; congr 1; omega, h2⟩
theorem f121 (hF : Wide F) (hro : F.round = none) (l : List Count) (p : Count → Bool) (hl : l.length ≤ 1000) :
    FnV Tryz.prog F 121 [Vs (l.map Count.enc), .raw (PFn Tryz.prog F (PredS (fun x : Count => Vd x.enc) p))] (Iv64 (idxFrom p 0 l)) := by
  refine FnV.of_AW hF hro hτ Tryz.func121 rfl (by decide) rfl (by simp [Tryz.f121]) ?_
  (repeat' first | apply Wq | refine Ws hF hτ rfl ?_ | apply Wb | apply Wl | apply Wk | apply We | apply Wc | apply Wd | refine Wt rfl rfl ?_ | refine Wf rfl rfl ?_ | refine Wi rfl rfl (fun h => ?_) (fun h => ?_) | refine Wx hF hτ rfl rfl rfl rfl rfl rfl rfl rfl (fun h => ?_) (fun h => ?_) | apply Wn)
  refine AW.rangeJ hF rfl rfl rfl rfl rfl rfl rfl rfl rfl (l.map Count.enc).length (by simp [lim]; omega) (fun k => [(.s 0, Vs (l.map Count.enc)), (.s 1, .raw (PFn Tryz.prog F (PredS (fun x : Count => Vd x.enc) p)))]) (fun k => idxFrom p 0 l = idxFrom p k (l.drop k)) rfl ?_ ?_ (fun k hk hJ => ?_) (fun hJ => ?_)
  · exact fun k => rfl
  · (repeat' first | exact Sub.nil | refine Sub.put rfl ?_ | refine Sub.put ?_ ?_)
  · obtain ⟨x, hx⟩ := get_ex hk
    rw [idxFrom_drop p hx] at hJ
    (repeat' first | apply Wq | refine Ws hF hτ rfl ?_ | apply Wb | apply Wl | apply Wk | apply We | apply Wc | apply Wd | refine Wt rfl rfl ?_ | refine Wf rfl rfl ?_ | refine Wi rfl rfl (fun h => ?_) (fun h => ?_) | refine Wx hF hτ rfl rfl rfl rfl rfl rfl rfl rfl (fun h => ?_) (fun h => ?_) | apply Wn)
    refine AL.opM (OpM.indexD hF rfl (hτ _ _ rfl) rfl (hτ _ _ rfl) rfl (i := k) rfl ( get_enc Count.enc hx) rfl rfl rfl) rfl rfl ?_
    refine Wv hF hτ rfl ?_
    (repeat' first | apply Wq | refine Ws hF hτ rfl ?_ | apply Wb | apply Wl | apply Wk | apply We | apply Wc | apply Wd | refine Wt rfl rfl ?_ | refine Wf rfl rfl ?_ | refine Wi rfl rfl (fun h => ?_) (fun h => ?_) | refine Wx hF hτ rfl rfl rfl rfl rfl rfl rfl rfl (fun h => ?_) (fun h => ?_) | apply Wn)
    refine AL.opM (OpM.callRaw hF rfl rfl rfl rfl (⟨x, rfl, rfl⟩) rfl rfl rfl) rfl rfl ?_
    refine Wv hF hτ rfl ?_
    (repeat' first | apply Wq | refine Ws hF hτ rfl ?_ | apply Wb | apply Wl | apply Wk | apply We | apply Wc | apply Wd | refine Wt rfl rfl ?_ | refine Wf rfl rfl ?_ | refine Wi rfl rfl (fun h => ?_) (fun h => ?_) | refine Wx hF hτ rfl rfl rfl rfl rfl rfl rfl rfl (fun h => ?_) (fun h => ?_) | apply Wn)
    · refine AW.ret ⟨.inr rfl, congrArg (fun z => some (Iv64 z)) ?_⟩
      rw [hJ, if_pos h]
    · refine ⟨?_, by rw [hJ, if_neg (by rw [h]; decide)]⟩
      (repeat' first | exact Sub.nil | refine Sub.put rfl ?_ | refine Sub.put ?_ ?_)
  · (repeat' first | apply Wq | refine Ws hF hτ rfl ?_ | apply Wb | apply Wl | apply Wk | apply We | apply Wc | apply Wd | refine Wt rfl rfl ?_ | refine Wf rfl rfl ?_ | refine Wi rfl rfl (fun h => ?_) (fun h => ?_) | refine Wx hF hτ rfl rfl rfl rfl rfl rfl rfl rfl (fun h => ?_) (fun h => ?_) | apply Wn)
    refine AW.ret ⟨.inr rfl, congrArg (fun z => some (Iv64 z)) ?_⟩
    rw [hJ, List.drop_eq_nil_of_le (by simp)]
    rfl
theorem f63 (hF : Wide F) (hro : F.round = none) (l : List Count) (p : Count → Bool) (hl : l.length ≤ 1000) :
    FnX Tryz.prog F 63 2 [(.s 0, .row true 148 (l.map Count.enc)), (.s 1, .raw (PFn Tryz.prog F (PredS (fun x : Count => Vd x.enc) p)))] (.row true 148 ((l.filter (fun x => !(p x))).map Count.enc)) [] := by
  refine FnX.of_AW hF hro hτ (K := []) Tryz.func63 rfl (by decide) rfl (by simp [Tryz.f63]) rfl rfl ?_
  (repeat' first | apply Wq | refine Ws hF hτ rfl ?_ | apply Wb | apply Wl | apply Wk | apply We | apply Wc | apply Wd | refine Wt rfl rfl ?_ | refine Wf rfl rfl ?_ | refine Wi rfl rfl (fun h => ?_) (fun h => ?_) | refine Wx hF hτ rfl rfl rfl rfl rfl rfl rfl rfl (fun h => ?_) (fun h => ?_) | apply Wn)
  refine AL.opM (OpM.callB hF rfl rfl rfl rfl (f121 hF hro l p hl) rfl rfl rfl rfl) rfl rfl ?_
  refine Wv hF hτ rfl ?_
  rcases idxFrom_first p l with ⟨h1, h2⟩ | ⟨i, x, h1, h2, h3, h4⟩
  · rw [h1]
    (repeat' first | apply Wq | refine Ws hF hτ rfl ?_ | apply Wb | apply Wl | apply Wk | apply We | apply Wc | apply Wd | refine Wt rfl rfl ?_ | refine Wf rfl rfl ?_ | refine Wi rfl rfl (fun h => ?_) (fun h => ?_) | refine Wx hF hτ rfl rfl rfl rfl rfl rfl rfl rfl (fun h => ?_) (fun h => ?_) | apply Wn)
    refine AW.ret ⟨.inr rfl, ?_, Sub.nil⟩
    refine congrArg (fun z => some (V.row true 148 z)) ?_
    rw [h2]
  · rw [h1]
    have hi := (List.getElem?_eq_some_iff.1 h2).1
    (repeat' first | apply Wq | refine Ws hF hτ rfl ?_ | apply Wb | apply Wl | apply Wk | apply We | apply Wc | apply Wd | refine Wt rfl rfl ?_ | refine Wf rfl rfl ?_ | refine Wi rfl rfl (fun h => ?_) (fun h => ?_) | refine Wx hF hτ rfl rfl rfl rfl rfl rfl rfl rfl (fun h => ?_) (fun h => ?_) | apply Wn)
    refine AW.loopI (X := { q : Nat × Nat × List Count // q.1 < q.2.1 ∧ q.2.1 ≤ l.length ∧ q.2.2.length = l.length ∧ q.2.2.take q.1 = (l.take q.2.1).filter (fun x => !(p x)) ∧ q.2.2.drop q.2.1 = l.drop q.2.1 }) (fun q => [(.s 0, .row true 148 (q.1.2.2.map Count.enc)), (.s 1, .raw (PFn Tryz.prog F (PredS (fun x : Count => Vd x.enc) p))), (.s 5, Iv64 q.1.1), (.s 6, Iv64 q.1.2.1)]) (fun q => l.length - q.1.2.1) (fun q => rfl) ⟨(i, i + 1, l), Nat.lt_succ_self i, hi, rfl, by
      show l.take i = _
      rw [take_snoc h2, List.filter_append, h4]; simp [h3], rfl⟩ ?_ ?_
    · (repeat' first | exact Sub.nil | refine Sub.put rfl ?_ | refine Sub.put ?_ ?_)
      exact congrArg (fun z => some (Iv64 z)) (wrap_id (x := (i : Int) + 1) (by omega) (by omega))
    rintro ⟨⟨i, j, xs⟩, q1, q2, q3, q4, q5⟩
    simp only at q1 q2 q3 q4 q5
    (repeat' first | apply Wq | refine Ws hF hτ rfl ?_ | apply Wb | apply Wl | apply Wk | apply We | apply Wc | apply Wd | refine Wt rfl rfl ?_ | refine Wf rfl rfl ?_ | refine Wi rfl rfl (fun h => ?_) (fun h => ?_) | refine Wx hF hτ rfl rfl rfl rfl rfl rfl rfl rfl (fun h => ?_) (fun h => ?_) | apply Wn)
    · have hj : j < l.length := by
        have h' : decide ((j : Int) < ((xs.map Count.enc).length : Nat)) = true := h
        have := of_decide_eq_true h'
        rw [List.length_map] at this; omega
      obtain ⟨y, hy⟩ : ∃ y, l[j]? = some y := ⟨_, List.getElem?_eq_getElem hj⟩
      have hxy : xs[j]? = some y := by
        have e1 : (xs.drop j)[0]? = (l.drop j)[0]? := by rw [q5]
        rw [List.getElem?_drop, List.getElem?_drop] at e1
        simpa [hy] using e1
      obtain ⟨z, hz⟩ : ∃ z, xs[i]? = some z := ⟨_, List.getElem?_eq_getElem (by omega)⟩
      have q5' : xs.drop (j + 1) = l.drop (j + 1) := by
        rw [show xs.drop (j + 1) = (xs.drop j).drop 1 by simp, show l.drop (j + 1) = (l.drop j).drop 1 by simp, q5]
      refine AL.opM (OpM.indexR hF rfl (hτ _ _ rfl) rfl (hτ _ _ rfl) rfl (k := .i64) (i := j) (by exact  rfl) ( by simp; omega) rfl rfl) rfl rfl ?_
      refine Wv hF hτ rfl ?_
      refine AL.opM (OpM.loadE hF rfl (hτ _ _ rfl) rfl rfl (q := 0) (get_enc Count.enc hxy) rfl (Nat.le_of_ble_eq_true rfl) rfl rfl rfl) rfl rfl ?_
      refine Wv hF hτ rfl ?_
      (repeat' first | apply Wq | refine Ws hF hτ rfl ?_ | apply Wb | apply Wl | apply Wk | apply We | apply Wc | apply Wd | refine Wt rfl rfl ?_ | refine Wf rfl rfl ?_ | refine Wi rfl rfl (fun h => ?_) (fun h => ?_) | refine Wx hF hτ rfl rfl rfl rfl rfl rfl rfl rfl (fun h => ?_) (fun h => ?_) | apply Wn)
      refine AL.opM (OpM.callRaw hF rfl rfl rfl rfl (⟨y, rfl, rfl⟩) rfl rfl rfl) rfl rfl ?_
      refine Wv hF hτ rfl ?_
      (repeat' first | apply Wq | refine Ws hF hτ rfl ?_ | apply Wb | apply Wl | apply Wk | apply We | apply Wc | apply Wd | refine Wt rfl rfl ?_ | refine Wf rfl rfl ?_ | refine Wi rfl rfl (fun h => ?_) (fun h => ?_) | refine Wx hF hτ rfl rfl rfl rfl rfl rfl rfl rfl (fun h => ?_) (fun h => ?_) | apply Wn)
      · refine AL.opM (OpM.indexR hF rfl (hτ _ _ rfl) rfl (hτ _ _ rfl) rfl (k := .i64) (i := i) (by exact  rfl) ( by simp; omega) rfl rfl) rfl rfl ?_
        refine Wv hF hτ rfl ?_
        refine AL.op rfl (OpTo.storeE hF rfl rfl (hτ _ _ rfl) rfl rfl (q := 0) (get_enc Count.enc hz) rfl rfl rfl (Nat.le_of_ble_eq_true rfl)) ?_
        refine Wv hF hτ rfl ?_
        (repeat' first | apply Wq | refine Ws hF hτ rfl ?_ | apply Wb | apply Wl | apply Wk | apply We | apply Wc | apply Wd | refine Wt rfl rfl ?_ | refine Wf rfl rfl ?_ | refine Wi rfl rfl (fun h => ?_) (fun h => ?_) | refine Wx hF hτ rfl rfl rfl rfl rfl rfl rfl rfl (fun h => ?_) (fun h => ?_) | apply Wn)
        refine ⟨⟨(i + 1, j + 1, xs.set i y), by show i + 1 < j + 1; omega, hj, by simp [q3], ?_, ?_⟩, by show l.length - (j + 1) < l.length - j; omega, ?_⟩
        · show (xs.set i y).take (i + 1) = _
          have hpy : p y = false := by simpa using h
          rw [take_snoc hy, List.filter_append, ← q4, List.take_add_one, List.take_set_of_le (Nat.le_refl i)]
          simp [hpy, show i < xs.length by omega]
        · show (xs.set i y).drop (j + 1) = _
          rw [List.drop_set_of_lt (by omega), q5']
        · (repeat' first | exact Sub.nil | refine Sub.put rfl ?_ | refine Sub.put ?_ ?_)
          · refine congrArg (fun z => some (V.row true 148 z)) ?_
            simp [List.map_set]
            rfl
          · exact congrArg (fun z => some (Iv64 z)) (wrap_id (x := (i : Int) + 1) (by omega) (by omega))
          · exact congrArg (fun z => some (Iv64 z)) (wrap_id (x := (j : Int) + 1) (by omega) (by omega))
      · refine ⟨⟨(i, j + 1, xs), by show i < j + 1; omega, hj, q3, ?_, q5'⟩, by show l.length - (j + 1) < l.length - j; omega, ?_⟩
        · show xs.take i = _
          have hpy : p y = true := by simpa using h
          rw [take_snoc hy, List.filter_append, ← q4]
          simp [hpy]
        · (repeat' first | exact Sub.nil | refine Sub.put rfl ?_ | refine Sub.put ?_ ?_)
          exact congrArg (fun z => some (Iv64 z)) (wrap_id (x := (j : Int) + 1) (by omega) (by omega))
    · have hj : j = l.length := by
        have h' : decide ((j : Int) < ((xs.map Count.enc).length : Nat)) = false := h
        have := of_decide_eq_false h'
        rw [List.length_map] at this; omega
      have hlen : (xs.map Count.enc).length = l.length := by simp [q3]
      refine AL.opM (OpM.sliceR hF rfl (hτ _ _ rfl) rfl (hτ _ _ rfl) (l0 := .s 0) (l := i) rfl (.inr ⟨_, _, rfl, rfl⟩) (.inl ⟨rfl, rfl⟩) (by rw [hlen]; omega) (Nat.le_refl _) (by rw [hlen]; omega) rfl rfl) rfl rfl ?_
      refine AL.op rfl (OpTo.clear hF rfl rfl rfl rfl (hτ _ _ rfl) rfl (hτ _ _ rfl) rfl rfl rfl (by rw [hlen]; omega) rfl) ?_
      refine Wv hF hτ rfl ?_
      (repeat' first | apply Wq | refine Ws hF hτ rfl ?_ | apply Wb | apply Wl | apply Wk | apply We | apply Wc | apply Wd | refine Wt rfl rfl ?_ | refine Wf rfl rfl ?_ | refine Wi rfl rfl (fun h => ?_) (fun h => ?_) | refine Wx hF hτ rfl rfl rfl rfl rfl rfl rfl rfl (fun h => ?_) (fun h => ?_) | apply Wn)
      refine AL.opM (OpM.sliceR hF rfl (hτ _ _ rfl) rfl (hτ _ _ rfl) (l0 := .s 0) (l := 0) (h := i) rfl (.inl ⟨rfl, rfl⟩) (.inr ⟨_, _, rfl, rfl⟩) (Nat.zero_le _) (by simp; omega) (by simp; omega) rfl rfl) rfl rfl ?_
      refine AL.ent (Ent.cutRow (d := .s 41) (l := .s 0) (i := i) (e := 148) (xs := (xs.map Count.enc).take i ++ List.replicate ((xs.map Count.enc).length - i) ((Count.enc) ⟨⟨0, 0⟩, 0, 0⟩) ++ (xs.map Count.enc).drop (i + ((xs.map Count.enc).length - i))) rfl rfl (by simp; omega) rfl rfl) ?_
      refine Wv hF hτ rfl ?_
      (repeat' first | apply Wq | refine Ws hF hτ rfl ?_ | apply Wb | apply Wl | apply Wk | apply We | apply Wc | apply Wd | refine Wt rfl rfl ?_ | refine Wf rfl rfl ?_ | refine Wi rfl rfl (fun h => ?_) (fun h => ?_) | refine Wx hF hτ rfl rfl rfl rfl rfl rfl rfl rfl (fun h => ?_) (fun h => ?_) | apply Wn)
      refine AW.ret ⟨.inr rfl, ?_, Sub.nil⟩
      refine congrArg (fun z => some (V.row true 148 z)) ?_
      rw [List.append_assoc, List.take_append_of_le_length (by simp; omega), List.take_take, Nat.min_self, ← List.map_take, q4, hj, List.take_length]
theorem f52 (hF : Wide F) (hro : F.round = none) (l : List Int) (p : Int → Bool) (hl : l.length ≤ 1000) :
    FnX Tryz.prog F 52 2 [(.s 0, .row true 3 (l.map (fun n : Int => [di n]))), (.s 1, .raw (PFn Tryz.prog F (PredS (fun x : Int => Iv64 x) p)))] (.row true 3 ((l.filter (fun x => !(p x))).map (fun n : Int => [di n]))) [] := by
  refine FnX.of_AW hF hro hτ (K := []) Tryz.func52 rfl (by decide) rfl (by simp [Tryz.f52]) rfl rfl ?_
  (repeat' first | apply Wq | refine Ws hF hτ rfl ?_ | apply Wb | apply Wl | apply Wk | apply We | apply Wc | apply Wd | refine Wt rfl rfl ?_ | refine Wf rfl rfl ?_ | refine Wi rfl rfl (fun h => ?_) (fun h => ?_) | refine Wx hF hτ rfl rfl rfl rfl rfl rfl rfl rfl (fun h => ?_) (fun h => ?_) | apply Wn)
  refine AL.opM (OpM.callB hF rfl rfl rfl rfl (f104 hF hro l p hl) rfl rfl rfl rfl) rfl rfl ?_
  refine Wv hF hτ rfl ?_
  rcases idxFrom_first p l with ⟨h1, h2⟩ | ⟨i, x, h1, h2, h3, h4⟩
  · rw [h1]
    (repeat' first | apply Wq | refine Ws hF hτ rfl ?_ | apply Wb | apply Wl | apply Wk | apply We | apply Wc | apply Wd | refine Wt rfl rfl ?_ | refine Wf rfl rfl ?_ | refine Wi rfl rfl (fun h => ?_) (fun h => ?_) | refine Wx hF hτ rfl rfl rfl rfl rfl rfl rfl rfl (fun h => ?_) (fun h => ?_) | apply Wn)
    refine AW.ret ⟨.inr rfl, ?_, Sub.nil⟩
    refine congrArg (fun z => some (V.row true 3 z)) ?_
    rw [h2]
  · rw [h1]
    have hi := (List.getElem?_eq_some_iff.1 h2).1
    (repeat' first | apply Wq | refine Ws hF hτ rfl ?_ | apply Wb | apply Wl | apply Wk | apply We | apply Wc | apply Wd | refine Wt rfl rfl ?_ | refine Wf rfl rfl ?_ | refine Wi rfl rfl (fun h => ?_) (fun h => ?_) | refine Wx hF hτ rfl rfl rfl rfl rfl rfl rfl rfl (fun h => ?_) (fun h => ?_) | apply Wn)
    refine AW.loopI (X := { q : Nat × Nat × List Int // q.1 < q.2.1 ∧ q.2.1 ≤ l.length ∧ q.2.2.length = l.length ∧ q.2.2.take q.1 = (l.take q.2.1).filter (fun x => !(p x)) ∧ q.2.2.drop q.2.1 = l.drop q.2.1 }) (fun q => [(.s 0, .row true 3 (q.1.2.2.map (fun n : Int => [di n]))), (.s 1, .raw (PFn Tryz.prog F (PredS (fun x : Int => Iv64 x) p))), (.s 5, Iv64 q.1.1), (.s 6, Iv64 q.1.2.1)]) (fun q => l.length - q.1.2.1) (fun q => rfl) ⟨(i, i + 1, l), Nat.lt_succ_self i, hi, rfl, by
      show l.take i = _
      rw [take_snoc h2, List.filter_append, h4]; simp [h3], rfl⟩ ?_ ?_
    · (repeat' first | exact Sub.nil | refine Sub.put rfl ?_ | refine Sub.put ?_ ?_)
      exact congrArg (fun z => some (Iv64 z)) (wrap_id (x := (i : Int) + 1) (by omega) (by omega))
    rintro ⟨⟨i, j, xs⟩, q1, q2, q3, q4, q5⟩
    simp only at q1 q2 q3 q4 q5
    (repeat' first | apply Wq | refine Ws hF hτ rfl ?_ | apply Wb | apply Wl | apply Wk | apply We | apply Wc | apply Wd | refine Wt rfl rfl ?_ | refine Wf rfl rfl ?_ | refine Wi rfl rfl (fun h => ?_) (fun h => ?_) | refine Wx hF hτ rfl rfl rfl rfl rfl rfl rfl rfl (fun h => ?_) (fun h => ?_) | apply Wn)
    · have hj : j < l.length := by
        have h' : decide ((j : Int) < ((xs.map (fun n : Int => [di n])).length : Nat)) = true := h
        have := of_decide_eq_true h'
        rw [List.length_map] at this; omega
      obtain ⟨y, hy⟩ : ∃ y, l[j]? = some y := ⟨_, List.getElem?_eq_getElem hj⟩
      have hxy : xs[j]? = some y := by
        have e1 : (xs.drop j)[0]? = (l.drop j)[0]? := by rw [q5]
        rw [List.getElem?_drop, List.getElem?_drop] at e1
        simpa [hy] using e1
      obtain ⟨z, hz⟩ : ∃ z, xs[i]? = some z := ⟨_, List.getElem?_eq_getElem (by omega)⟩
      have q5' : xs.drop (j + 1) = l.drop (j + 1) := by
        rw [show xs.drop (j + 1) = (xs.drop j).drop 1 by simp, show l.drop (j + 1) = (l.drop j).drop 1 by simp, q5]
      refine AL.opM (OpM.indexR hF rfl (hτ _ _ rfl) rfl (hτ _ _ rfl) rfl (k := .i64) (i := j) (by exact  rfl) ( by simp; omega) rfl rfl) rfl rfl ?_
      refine Wv hF hτ rfl ?_
      refine AL.opM (OpM.loadE hF rfl (hτ _ _ rfl) rfl rfl (q := 0) (get_enc (fun n : Int => [di n]) hxy) rfl (Nat.le_of_ble_eq_true rfl) rfl rfl rfl) rfl rfl ?_
      refine Wv hF hτ rfl ?_
      (repeat' first | apply Wq | refine Ws hF hτ rfl ?_ | apply Wb | apply Wl | apply Wk | apply We | apply Wc | apply Wd | refine Wt rfl rfl ?_ | refine Wf rfl rfl ?_ | refine Wi rfl rfl (fun h => ?_) (fun h => ?_) | refine Wx hF hτ rfl rfl rfl rfl rfl rfl rfl rfl (fun h => ?_) (fun h => ?_) | apply Wn)
      refine AL.opM (OpM.callRaw hF rfl rfl rfl rfl (⟨y, rfl, rfl⟩) rfl rfl rfl) rfl rfl ?_
      refine Wv hF hτ rfl ?_
      (repeat' first | apply Wq | refine Ws hF hτ rfl ?_ | apply Wb | apply Wl | apply Wk | apply We | apply Wc | apply Wd | refine Wt rfl rfl ?_ | refine Wf rfl rfl ?_ | refine Wi rfl rfl (fun h => ?_) (fun h => ?_) | refine Wx hF hτ rfl rfl rfl rfl rfl rfl rfl rfl (fun h => ?_) (fun h => ?_) | apply Wn)
      · refine AL.opM (OpM.indexR hF rfl (hτ _ _ rfl) rfl (hτ _ _ rfl) rfl (k := .i64) (i := i) (by exact  rfl) ( by simp; omega) rfl rfl) rfl rfl ?_
        refine Wv hF hτ rfl ?_
        refine AL.op rfl (OpTo.storeE hF rfl rfl (hτ _ _ rfl) rfl rfl (q := 0) (get_enc (fun n : Int => [di n]) hz) rfl rfl rfl (Nat.le_of_ble_eq_true rfl)) ?_
        refine Wv hF hτ rfl ?_
        (repeat' first | apply Wq | refine Ws hF hτ rfl ?_ | apply Wb | apply Wl | apply Wk | apply We | apply Wc | apply Wd | refine Wt rfl rfl ?_ | refine Wf rfl rfl ?_ | refine Wi rfl rfl (fun h => ?_) (fun h => ?_) | refine Wx hF hτ rfl rfl rfl rfl rfl rfl rfl rfl (fun h => ?_) (fun h => ?_) | apply Wn)
        refine ⟨⟨(i + 1, j + 1, xs.set i y), by show i + 1 < j + 1; omega, hj, by simp [q3], ?_, ?_⟩, by show l.length - (j + 1) < l.length - j; omega, ?_⟩
        · show (xs.set i y).take (i + 1) = _
          have hpy : p y = false := by simpa using h
          rw [take_snoc hy, List.filter_append, ← q4, List.take_add_one, List.take_set_of_le (Nat.le_refl i)]
          simp [hpy, show i < xs.length by omega]
        · show (xs.set i y).drop (j + 1) = _
          rw [List.drop_set_of_lt (by omega), q5']
        · (repeat' first | exact Sub.nil | refine Sub.put rfl ?_ | refine Sub.put ?_ ?_)
          · refine congrArg (fun z => some (V.row true 3 z)) ?_
            simp [List.map_set]
            
          · exact congrArg (fun z => some (Iv64 z)) (wrap_id (x := (i : Int) + 1) (by omega) (by omega))
          · exact congrArg (fun z => some (Iv64 z)) (wrap_id (x := (j : Int) + 1) (by omega) (by omega))
      · refine ⟨⟨(i, j + 1, xs), by show i < j + 1; omega, hj, q3, ?_, q5'⟩, by show l.length - (j + 1) < l.length - j; omega, ?_⟩
        · show xs.take i = _
          have hpy : p y = true := by simpa using h
          rw [take_snoc hy, List.filter_append, ← q4]
          simp [hpy]
        · (repeat' first | exact Sub.nil | refine Sub.put rfl ?_ | refine Sub.put ?_ ?_)
          exact congrArg (fun z => some (Iv64 z)) (wrap_id (x := (j : Int) + 1) (by omega) (by omega))
    · have hj : j = l.length := by
        have h' : decide ((j : Int) < ((xs.map (fun n : Int => [di n])).length : Nat)) = false := h
        have := of_decide_eq_false h'
        rw [List.length_map] at this; omega
      have hlen : (xs.map (fun n : Int => [di n])).length = l.length := by simp [q3]
      refine AL.opM (OpM.sliceR hF rfl (hτ _ _ rfl) rfl (hτ _ _ rfl) (l0 := .s 0) (l := i) rfl (.inr ⟨_, _, rfl, rfl⟩) (.inl ⟨rfl, rfl⟩) (by rw [hlen]; omega) (Nat.le_refl _) (by rw [hlen]; omega) rfl rfl) rfl rfl ?_
      refine AL.op rfl (OpTo.clear hF rfl rfl rfl rfl (hτ _ _ rfl) rfl (hτ _ _ rfl) rfl rfl rfl (by rw [hlen]; omega) rfl) ?_
      refine Wv hF hτ rfl ?_
      (repeat' first | apply Wq | refine Ws hF hτ rfl ?_ | apply Wb | apply Wl | apply Wk | apply We | apply Wc | apply Wd | refine Wt rfl rfl ?_ | refine Wf rfl rfl ?_ | refine Wi rfl rfl (fun h => ?_) (fun h => ?_) | refine Wx hF hτ rfl rfl rfl rfl rfl rfl rfl rfl (fun h => ?_) (fun h => ?_) | apply Wn)
      refine AL.opM (OpM.sliceR hF rfl (hτ _ _ rfl) rfl (hτ _ _ rfl) (l0 := .s 0) (l := 0) (h := i) rfl (.inl ⟨rfl, rfl⟩) (.inr ⟨_, _, rfl, rfl⟩) (Nat.zero_le _) (by simp; omega) (by simp; omega) rfl rfl) rfl rfl ?_
      refine AL.ent (Ent.cutRow (d := .s 41) (l := .s 0) (i := i) (e := 3) (xs := (xs.map (fun n : Int => [di n])).take i ++ List.replicate ((xs.map (fun n : Int => [di n])).length - i) (((fun n : Int => [di n])) 0) ++ (xs.map (fun n : Int => [di n])).drop (i + ((xs.map (fun n : Int => [di n])).length - i))) rfl rfl (by simp; omega) rfl rfl) ?_
      refine Wv hF hτ rfl ?_
      (repeat' first | apply Wq | refine Ws hF hτ rfl ?_ | apply Wb | apply Wl | apply Wk | apply We | apply Wc | apply Wd | refine Wt rfl rfl ?_ | refine Wf rfl rfl ?_ | refine Wi rfl rfl (fun h => ?_) (fun h => ?_) | refine Wx hF hτ rfl rfl rfl rfl rfl rfl rfl rfl (fun h => ?_) (fun h => ?_) | apply Wn)
      refine AW.ret ⟨.inr rfl, ?_, Sub.nil⟩
      refine congrArg (fun z => some (V.row true 3 z)) ?_
      rw [List.append_assoc, List.take_append_of_le_length (by simp; omega), List.take_take, Nat.min_self, ← List.map_take, q4, hj, List.take_length]
end Go.Proofs.VL
