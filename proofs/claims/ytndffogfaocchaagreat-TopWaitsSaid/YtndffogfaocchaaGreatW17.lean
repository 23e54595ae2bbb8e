import Derived.Test.YtndffogfaocchaaGreatW15
import Derived.Test.YtndffogfaocchaaGreatW16
set_option linter.unusedVariables false
set_option linter.unusedSimpArgs false
set_option linter.unusedSectionVars false
namespace Go.Proofs.VL
open Go Go.RowKit
theorem OpF.storeE {P : Program} {F : Fence} {n : Nat} {K : List Nat} {o : Oper} {E E' : Env} (hF : Wide F) {t u : Nat} {x : Operand} (ho : o.op = .store t (.tmp u) x) (hd : o.dst = none) {ti : TI} (hti : mkTI P t = some ti) {l : Loc} {y : Nat} (hu : look E (.s u) = some (.elt l y)) {e : Nat} {xs : List (List D)} (hl : look E l = some (.row true e xs))
    {i q : Nat} {cs new : List D} (hi : xs[i]? = some cs) (hxq : y = i * cs.length + q) (hx : cellsO E x = some new) (hn : new.length = ti.size) (hq : q + ti.size ≤ cs.length) (hE' : VL.upd l (.row true e (xs.set i (cs.take q ++ new ++ cs.drop (q + ti.size)))) E = E') : OpF P F n K o E E' := by
  intro X hnd hX _
  have hs := Sub.right hnd
  have h1 := OpTo.storeE (P := P) (n := n) (K := K) (E := X ++ E) hF ho hd hti (hs _ _ hu) (hs _ _ hl) hi hxq (cellsO_mono hs hx) hn hq
  rw [upd_right hnd hl, hE'] at h1
  exact h1
theorem OpM.indexS {P : Program} {F : Fence} {n : Nat} {K : List Nat} {o : Oper} {E : Env} (hF : Wide F) {t : Nat} {s : ByteArray} {y : Operand} (ho : o.op = .index t (.const (.string s)) y) (hu : P.underlying t = some .string) {k : IntKind} {i : Nat} (hy : intO E y = some (k, (i : Int))) (hi : i < s.size)
    {d : Nat} (hd : o.dst = some d) (hok : okD n K d (Iv .u8 ((s[i]?.getD 0).toNat : Int)) = true) : OpM P F n K o E d (Iv .u8 ((s[i]?.getD 0).toNat : Int)) :=
  .pure hF (by simp [ho]) hd hok fun E' hs w N L γ R tmps ds hr hn => by
    have h1 := intO_ok hr (intO_mono hs hy) ds
    have he : Act.eval ⟨tmps, ds⟩ (.const (.string s)) = .string s := rfl
    have h2 : s[i]? = some s[i] := getElem?_pos s i hi
    refine ⟨.int .u8 ((s[i]?.getD 0).toNat : Int), ?_, fun S => rep_int ..⟩
    simp [execOp, ho, h1, Instr.index, asIntOf, run_underlying hu, he, h2, Result.andThen]
theorem wrap_u64b (n : Nat) (h : n < 2 ^ 32) : IntKind.wrap .u64 (n : Int) = n := by
  simp [IntKind.wrap, IntKind.bits, IntKind.signed]
  omega
def CmpS {α : Type} (enc : α → V) (c : α → α → Int) : List V → V → Prop := fun vs r => ∃ x y, vs = [enc x, enc y] ∧ r = Iv64 (c x y)
def insAt {α : Type} (c : α → α → Int) : List α → Nat → List α
  | l, 0 => l
  | l, j + 1 => match l[j + 1]?, l[j]? with
    | some a, some b => if c a b < 0 then insAt c ((l.set (j + 1) b).set j a) j else l
    | _, _ => l
theorem insAt_length {α : Type} (c : α → α → Int) : ∀ (j : Nat) (l : List α), (insAt c l j).length = l.length
  | 0, l => rfl
  | j + 1, l => by
    simp only [insAt]
    split
    · split
      · rw [insAt_length c j]; simp
      · rfl
    · rfl
def insTo {α : Type} (c : α → α → Int) (l : List α) : Nat → List α
  | 0 => l
  | k + 1 => insAt c (insTo c l k) (k + 1)
theorem insTo_length {α : Type} (c : α → α → Int) (l : List α) : ∀ k, (insTo c l k).length = l.length
  | 0 => rfl
  | k + 1 => by rw [insTo, insAt_length, insTo_length c l k]
def isort {α : Type} (c : α → α → Int) (l : List α) : List α := insTo c l (l.length - 1)
variable {F : Fence}
set_option maxHeartbeats 4000000 in
theorem f148 (hF : Wide F) (hro : F.round = none) (n : Nat) (hn : n < 256) : ∃ b : Int, FnV Tryz.prog F 148 [.d (.sc (.int .u64 n))] (Iv64 b) := by
  apply Exists.intro
  case h =>
    refine FnV.of_AW hF hro hτ Tryz.func148 rfl (by decide) rfl (by simp [Tryz.f148]) ?_
    (repeat' first | apply Wq | refine Ws hF hτ rfl ?_ | apply Wb | apply Wl | apply Wk | apply We | apply Wn)
    refine AW.cond rfl rfl (fun h => ?_) (fun h => ?_)
    · exact absurd (of_decide_eq_true h) (by omega)
    (repeat' first | apply Wq | refine Ws hF hτ rfl ?_ | apply Wb | apply Wl | apply Wk | apply We | apply Wn)
    refine AW.cond rfl rfl (fun h => ?_) (fun h => ?_)
    · exact absurd (of_decide_eq_true h) (by omega)
    (repeat' first | apply Wq | refine Ws hF hτ rfl ?_ | apply Wb | apply Wl | apply Wk | apply We | apply Wn)
    refine AW.cond rfl rfl (fun h => ?_) (fun h => ?_)
    · exact absurd (of_decide_eq_true h) (by omega)
    (repeat' first | apply Wq | refine Ws hF hτ rfl ?_ | apply Wb | apply Wl | apply Wk | apply We | apply Wn)
    have hw : IntKind.wrap .u8 (n : Int) = n := by simp [IntKind.wrap, IntKind.bits, IntKind.signed]; omega
    refine AL.opM (OpM.indexS hF rfl (by kernel_rfl) (k := .u8) (i := n) (by exact congrArg (fun z => some (IntKind.u8, z)) hw) (Nat.lt_of_lt_of_le hn (Nat.le_of_ble_eq_true (by kernel_rfl))) rfl rfl) rfl rfl ?_
    refine Wv hF hτ rfl ?_
    (repeat' first | apply Wq | refine Ws hF hτ rfl ?_ | apply Wb | apply Wl | apply Wk | apply We | apply Wc | apply Wd | refine Wt rfl rfl ?_ | refine Wf rfl rfl ?_ | refine Wi rfl rfl (fun h => ?_) (fun h => ?_) | refine Wx hF hτ rfl rfl rfl rfl rfl rfl rfl rfl (fun h => ?_) (fun h => ?_) | apply Wn)
    exact AW.ret ⟨.inr rfl, rfl⟩
theorem f75 (hF : Wide F) (hro : F.round = none) (n : Nat) (hn : n < 256) : ∃ b : Int, FnV Tryz.prog F 75 [.d (.sc (.int .u64 n))] (Iv64 b) := by
  obtain ⟨b, hb⟩ := f148 (F := F) hF hro n hn
  refine ⟨b, ?_⟩
  refine FnV.of_AW hF hro hτ Tryz.func75 rfl (by decide) rfl (by simp [Tryz.f75]) ?_
  (repeat' first | apply Wq | refine Ws hF hτ rfl ?_ | apply Wb | apply Wl | apply Wk | apply We | apply Wc | apply Wd | refine Wt rfl rfl ?_ | refine Wf rfl rfl ?_ | refine Wi rfl rfl (fun h => ?_) (fun h => ?_) | refine Wx hF hτ rfl rfl rfl rfl rfl rfl rfl rfl (fun h => ?_) (fun h => ?_) | apply Wn)
  refine AL.opM (OpM.call hF rfl rfl rfl rfl (hb) rfl rfl rfl) rfl rfl ?_
  refine Wv hF hτ rfl ?_
  (repeat' first | apply Wq | refine Ws hF hτ rfl ?_ | apply Wb | apply Wl | apply Wk | apply We | apply Wc | apply Wd | refine Wt rfl rfl ?_ | refine Wf rfl rfl ?_ | refine Wi rfl rfl (fun h => ?_) (fun h => ?_) | refine Wx hF hτ rfl rfl rfl rfl rfl rfl rfl rfl (fun h => ?_) (fun h => ?_) | apply Wn)
  exact AW.ret ⟨.inr rfl, rfl⟩
set_option maxHeartbeats 4000000 in
theorem f242 (hF : Wide F) (hro : F.round = none) (l : List Count) (c : Count → Count → Int) (hl : l.length ≤ 1000) :
    FnX Tryz.prog F 242 4 [(.s 0, .row true 148 (l.map Count.enc)), (.s 1, Iv64 (0 : Nat)), (.s 2, Iv64 l.length), (.s 3, .raw (PFn Tryz.prog F (CmpS (fun x : Count => Vd x.enc) c)))] (.tu []) [(.s 0, .row true 148 ((isort c l).map Count.enc))] := by
  refine FnX.of_AW hF hro hτ (K := [0]) Tryz.func242 rfl (by decide) rfl (Nat.le_of_ble_eq_true rfl) rfl rfl ?_
  (repeat' first | apply Wq | refine Ws hF hτ rfl ?_ | apply Wb | apply Wl | apply Wk | apply We | apply Wc | apply Wd | refine Wt rfl rfl ?_ | refine Wf rfl rfl ?_ | refine Wi rfl rfl (fun h => ?_) (fun h => ?_) | refine Wx hF hτ rfl rfl rfl rfl rfl rfl rfl rfl (fun h => ?_) (fun h => ?_) | apply Wn)
  refine AW.loopI (X := { i : Nat // i + 1 ≤ l.length + 1 ∧ (0 < l.length → i < l.length) }) (fun i => [(.s 8, Iv64 (i.1 + 1 : Nat)), (.s 0, .row true 148 ((insTo c l i.1).map Count.enc)), (.s 1, Iv64 (0 : Nat)), (.s 2, Iv64 l.length), (.s 3, .raw (PFn Tryz.prog F (CmpS (fun x : Count => Vd x.enc) c)))]) (fun i => l.length - i.1) (fun i => rfl) ⟨0, by omega, fun h => h⟩ ?_ ?_
  · (repeat' first | exact Sub.nil | refine Sub.put rfl ?_ | refine Sub.put ?_ ?_)
  rintro ⟨i, hi1, hi2⟩
  (repeat' first | apply Wq | refine Ws hF hτ rfl ?_ | apply Wb | apply Wl | apply Wk | apply We | apply Wc | apply Wd | refine Wt rfl rfl ?_ | refine Wf rfl rfl ?_ | refine Wi rfl rfl (fun h => ?_) (fun h => ?_) | refine Wx hF hτ rfl rfl rfl rfl rfl rfl rfl rfl (fun h => ?_) (fun h => ?_) | apply Wn)
  · have hil : i + 1 < l.length := by
      have h' : decide (((i + 1 : Nat) : Int) < (l.length : Nat)) = true := h
      have := of_decide_eq_true h'
      omega
    refine AW.loopI (X := { x : Nat × List Count // x.1 < l.length ∧ x.2.length = l.length ∧ insAt c x.2 x.1 = insTo c l (i + 1) }) (fun x => [(.s 9, Iv64 x.1.1), (.s 8, Iv64 (i + 1 : Nat)), (.s 0, .row true 148 (x.1.2.map Count.enc)), (.s 1, Iv64 (0 : Nat)), (.s 2, Iv64 l.length), (.s 3, .raw (PFn Tryz.prog F (CmpS (fun x : Count => Vd x.enc) c)))]) (fun x => x.1.1) (fun x => rfl) ⟨(i + 1, insTo c l i), hil, insTo_length c l i, rfl⟩ ?_ ?_
    · (repeat' first | exact Sub.nil | refine Sub.put rfl ?_ | refine Sub.put ?_ ?_)
    rintro ⟨⟨j, xs⟩, q1, q2, q3⟩
    simp only at q1 q2 q3
    (repeat' first | apply Wq | refine Ws hF hτ rfl ?_ | apply Wb | apply Wl | apply Wk | apply We | apply Wn)
    refine AW.draw hmix (AD.start [] [0, 1, 2, 3] ?_)
    refine AD.vals hF hτ rfl ?_
    refine AD.fin (by kernel_rfl) rfl rfl ?_
    refine AA.split 21 rfl rfl (fun h1 => ?_) (fun h1 => ?_)
    · have hj0 : 0 < j := by simpa using h1
      obtain ⟨j, rfl⟩ : ∃ k, j = k + 1 := ⟨j - 1, by omega⟩
      obtain ⟨x, hx⟩ : ∃ x, xs[j + 1]? = some x := ⟨_, List.getElem?_eq_getElem (by omega)⟩
      obtain ⟨y, hy⟩ : ∃ y, xs[j]? = some y := ⟨_, List.getElem?_eq_getElem (by omega)⟩
      have hw : IntKind.wrap .i64 (((j + 1 : Nat) : Int) - 1) = (j : Int) := by rw [wrap_id (by omega) (by omega)]; omega
      refine AD.start [0, 1, 2, 3] [4, 5, 6, 7, 8, 9, 10, 11, 12, 13, 14, 15, 16] ?_
      refine AD.vals hF hτ rfl ?_
      refine AD.op (o := _) rfl rfl rfl (OpM.indexR hF rfl (hτ _ _ rfl) rfl (hτ _ _ rfl) rfl (k := .i64) (i := j + 1) rfl (by simp; omega) rfl rfl) ?_
      refine AD.vals hF hτ rfl ?_
      refine AD.op (o := _) rfl rfl rfl (OpM.loadE hF rfl (hτ _ _ rfl) rfl rfl (q := 0) (get_enc Count.enc hx) rfl (Nat.le_of_ble_eq_true rfl) rfl rfl rfl) ?_
      refine AD.vals hF hτ rfl ?_
      refine AD.op (o := _) rfl rfl rfl (OpM.indexR hF rfl (hτ _ _ rfl) rfl (hτ _ _ rfl) rfl (k := .i64) (i := j) (by exact congrArg (fun z => some (IntKind.i64, z)) hw) (by simp; omega) rfl rfl) ?_
      refine AD.vals hF hτ rfl ?_
      refine AD.op (o := _) rfl rfl rfl (OpM.loadE hF rfl (hτ _ _ rfl) rfl rfl (q := 0) (get_enc Count.enc hy) rfl (Nat.le_of_ble_eq_true rfl) rfl rfl rfl) ?_
      refine AD.vals hF hτ rfl ?_
      refine AD.op (o := _) rfl rfl rfl (OpM.callRaw hF rfl rfl rfl rfl ⟨x, y, rfl, rfl⟩ rfl rfl rfl) ?_
      refine AD.vals hF hτ rfl ?_
      refine AD.fin (by kernel_rfl) rfl rfl (AA.done (by kernel_rfl) ?_)
      (repeat' first | apply Wq | refine Ws hF hτ rfl ?_ | apply Wb | apply Wl | apply Wk | apply We | apply Wc | apply Wd | refine Wt rfl rfl ?_ | refine Wf rfl rfl ?_ | refine Wi rfl rfl (fun h => ?_) (fun h => ?_) | refine Wx hF hτ rfl rfl rfl rfl rfl rfl rfl rfl (fun h => ?_) (fun h => ?_) | apply Wn)
      · have hw0 : ((j + 1 : Nat) : Int) = ((j + 1 : Nat) : Int) := rfl
        have hins : insAt c xs (j + 1) = insAt c ((xs.set (j + 1) y).set j x) j := by
          simp only [insAt, hx, hy]
          rw [if_pos (of_decide_eq_true h)]
        refine AW.forget (.s 18) rfl ?_
        (repeat' first | apply Wq | refine Ws hF hτ rfl ?_ | apply Wb | apply Wl | apply Wk | apply We | apply Wn)
        refine AW.draw hmix (AD.start [] [0, 1, 2, 3, 4, 5, 6, 7, 8, 9, 10, 11, 12, 13, 14] ?_)
        refine AD.vals hF hτ rfl ?_
        refine AD.op (o := _) rfl rfl rfl (OpM.indexR hF rfl (hτ _ _ rfl) rfl (hτ _ _ rfl) rfl (k := .i64) (i := j) (by exact congrArg (fun z => some (IntKind.i64, z)) hw) (by simp; omega) rfl rfl) ?_
        refine AD.vals hF hτ rfl ?_
        refine AD.op (o := _) rfl rfl rfl (OpM.loadE hF rfl (hτ _ _ rfl) rfl rfl (q := 0) (get_enc Count.enc hy) rfl (Nat.le_of_ble_eq_true rfl) rfl rfl rfl) ?_
        refine AD.vals hF hτ rfl ?_
        refine AD.op (o := _) rfl rfl rfl (OpM.indexR hF rfl (hτ _ _ rfl) rfl (hτ _ _ rfl) rfl (k := .i64) (i := j + 1) rfl (by simp; omega) rfl rfl) ?_
        refine AD.vals hF hτ rfl ?_
        refine AD.op (o := _) rfl rfl rfl (OpM.loadE hF rfl (hτ _ _ rfl) rfl rfl (q := 0) (get_enc Count.enc hx) rfl (Nat.le_of_ble_eq_true rfl) rfl rfl rfl) ?_
        refine AD.vals hF hτ rfl ?_
        refine AD.op (o := _) rfl rfl rfl (OpM.indexR hF rfl (hτ _ _ rfl) rfl (hτ _ _ rfl) rfl (k := .i64) (i := j + 1) rfl (by simp; omega) rfl rfl) ?_
        refine AD.vals hF hτ rfl ?_
        refine AD.finC 15 [] (fuel2 := 2) rfl rfl rfl (OpF.storeE hF rfl rfl (hτ _ _ rfl) rfl rfl (q := 0) (get_enc Count.enc hx) rfl rfl rfl (Nat.le_of_ble_eq_true rfl) rfl) (by kernel_rfl) (by kernel_rfl) rfl rfl rfl
          (DS.run (DS.run (DS.run .nil (newD_of (by kernel_rfl)) rfl rfl (OpM.val hF hτ rfl rfl rfl)) (newD_of (by kernel_rfl)) rfl rfl (OpM.val hF hτ rfl rfl rfl)) (newD_of (by kernel_rfl)) rfl rfl (OpM.val hF hτ rfl rfl rfl)) (by kernel_rfl) (AA.tail (fuel := 0) [16, 17] _ (by kernel_rfl) ?_) rfl
        refine AL.opM (OpM.indexR hF rfl (hτ _ _ rfl) rfl (hτ _ _ rfl) rfl (k := .i64) (i := j) (by exact congrArg (fun z => some (IntKind.i64, z)) hw) (by simp; omega) rfl rfl) rfl rfl ?_
        refine AL.op rfl (OpTo.storeE hF rfl rfl (hτ _ _ rfl) rfl rfl (i := j) (q := 0) (cs := Count.enc y) (by rw [List.getElem?_set_ne (by omega)]; exact get_enc Count.enc hy) rfl rfl rfl (Nat.le_of_ble_eq_true rfl)) ?_
        refine Wv hF hτ rfl ?_
        (repeat' first | apply Wq | refine Ws hF hτ rfl ?_ | apply Wb | apply Wl | apply Wk | apply We | apply Wc | apply Wd | refine Wt rfl rfl ?_ | refine Wf rfl rfl ?_ | refine Wi rfl rfl (fun h => ?_) (fun h => ?_) | refine Wx hF hτ rfl rfl rfl rfl rfl rfl rfl rfl (fun h => ?_) (fun h => ?_) | apply Wn)
        refine ⟨⟨(j, (xs.set (j + 1) y).set j x), by show j < l.length; omega, by simp [q2], by show insAt c _ j = _; rw [← hins]; exact q3⟩, by show j < j + 1; omega, ?_⟩
        (repeat' first | exact Sub.nil | refine Sub.put rfl ?_ | refine Sub.put ?_ ?_)
        · exact congrArg (fun z => some (Iv64 z)) hw
        · refine congrArg (fun z => some (V.row true 148 z)) ?_
          simp only [List.map_set]
          rfl
      · refine ⟨⟨i + 1, by omega, fun _ => hil⟩, by show l.length - (i + 1) < l.length - i; omega, ?_⟩
        (repeat' first | exact Sub.nil | refine Sub.put rfl ?_ | refine Sub.put ?_ ?_)
        · exact congrArg (fun z => some (Iv64 z)) (wrap_id (x := ((i + 1 : Nat) : Int) + 1) (by omega) (by omega))
        · refine congrArg (fun z : List Count => some (V.row true 148 (z.map Count.enc))) ?_
          show xs = insTo c l (i + 1)
          rw [← q3]
          simp only [insAt, hx, hy]
          rw [if_neg (by simpa using h)]
    · refine AD.start [0, 1, 2, 3] [4, 5, 6, 7, 8, 9, 10, 11, 12, 13, 14, 15, 16] ?_
      refine AD.vals hF hτ rfl ?_
      refine AD.fin (by kernel_rfl) rfl rfl (AA.done (by kernel_rfl) ?_)
      (repeat' first | apply Wq | refine Ws hF hτ rfl ?_ | apply Wb | apply Wl | apply Wk | apply We | apply Wc | apply Wd | refine Wt rfl rfl ?_ | refine Wf rfl rfl ?_ | refine Wi rfl rfl (fun h => ?_) (fun h => ?_) | refine Wx hF hτ rfl rfl rfl rfl rfl rfl rfl rfl (fun h => ?_) (fun h => ?_) | apply Wn)
      refine ⟨⟨i + 1, by omega, fun _ => hil⟩, by show l.length - (i + 1) < l.length - i; omega, ?_⟩
      (repeat' first | exact Sub.nil | refine Sub.put rfl ?_ | refine Sub.put ?_ ?_)
      · exact congrArg (fun z => some (Iv64 z)) (wrap_id (x := ((i + 1 : Nat) : Int) + 1) (by omega) (by omega))
      · refine congrArg (fun z : List Count => some (V.row true 148 (z.map Count.enc))) ?_
        have hj : j = 0 := by
          have h' : decide (((0 : Nat) : Int) < (j : Nat)) = false := h1
          have := of_decide_eq_false h'
          omega
        show xs = insTo c l (i + 1)
        rw [← q3, hj]
        rfl
  · have hil : i = l.length - 1 := by
      have h' : decide (((i + 1 : Nat) : Int) < (l.length : Nat)) = false := h
      have := of_decide_eq_false h'
      omega
    refine ⟨.inl rfl, rfl, ?_⟩
    (repeat' first | exact Sub.nil | refine Sub.put rfl ?_ | refine Sub.put ?_ ?_)
    rw [isort, ← hil]
    rfl
set_option maxHeartbeats 4000000 in
theorem f189 (hF : Wide F) (hro : F.round = none) (l : List Count) (c : Count → Count → Int) (hl : l.length ≤ 12) (b : Int) :
    FnX Tryz.prog F 189 5 [(.s 0, .row true 148 (l.map Count.enc)), (.s 1, Iv64 (0 : Nat)), (.s 2, Iv64 l.length), (.s 3, Iv64 b), (.s 4, .raw (PFn Tryz.prog F (CmpS (fun x : Count => Vd x.enc) c)))] (.tu []) [(.s 0, .row true 148 ((isort c l).map Count.enc))] := by
  refine FnX.of_AW hF hro hτ (K := [0]) Tryz.func189 rfl (by decide) rfl (Nat.le_of_ble_eq_true rfl) rfl rfl ?_
  (repeat' first | apply Wq | refine Ws hF hτ rfl ?_ | apply Wb | apply Wl | apply Wk | apply We | apply Wc | apply Wd | refine Wt rfl rfl ?_ | refine Wf rfl rfl ?_ | refine Wi rfl rfl (fun h => ?_) (fun h => ?_) | refine Wx hF hτ rfl rfl rfl rfl rfl rfl rfl rfl (fun h => ?_) (fun h => ?_) | apply Wn)
  refine AW.loopI (X := Unit) (fun _ => [(.s 0, .row true 148 (l.map Count.enc)), (.s 1, Iv64 (0 : Nat)), (.s 2, Iv64 l.length), (.s 4, .raw (PFn Tryz.prog F (CmpS (fun x : Count => Vd x.enc) c)))]) (fun _ => 0) (fun _ => rfl) () ?_ ?_
  · (repeat' first | exact Sub.nil | refine Sub.put rfl ?_ | refine Sub.put ?_ ?_)
  intro _
  have hw : IntKind.wrap .i64 ((l.length : Int) - ((0 : Nat) : Int)) = l.length := by rw [wrap_id (by omega) (by omega)]; omega
  (repeat' first | apply Wq | refine Ws hF hτ rfl ?_ | apply Wb | apply Wl | apply Wk | apply We | apply Wc | apply Wd | refine Wt rfl rfl ?_ | refine Wf rfl rfl ?_ | refine Wi rfl rfl (fun h => ?_) (fun h => ?_) | refine Wx hF hτ rfl rfl rfl rfl rfl rfl rfl rfl (fun h => ?_) (fun h => ?_) | apply Wn)
  · refine AL.op rfl (OpTo.callX hF rfl rfl rfl rfl rfl rfl rfl (f242 hF hro l c (by omega)) rfl rfl rfl rfl rfl) ?_
    refine Wv hF hτ rfl ?_
    (repeat' first | apply Wq | refine Ws hF hτ rfl ?_ | apply Wb | apply Wl | apply Wk | apply We | apply Wc | apply Wd | refine Wt rfl rfl ?_ | refine Wf rfl rfl ?_ | refine Wi rfl rfl (fun h => ?_) (fun h => ?_) | refine Wx hF hτ rfl rfl rfl rfl rfl rfl rfl rfl (fun h => ?_) (fun h => ?_) | apply Wn)
    refine AW.ret ⟨.inr rfl, rfl, ?_⟩
    (repeat' first | exact Sub.nil | refine Sub.put rfl ?_ | refine Sub.put ?_ ?_)
  · exfalso
    have h' : decide (IntKind.wrap .i64 ((l.length : Int) - ((0 : Nat) : Int)) ≤ 12) = false := h
    rw [hw] at h'
    have := of_decide_eq_false h'
    omega
theorem f113 (hF : Wide F) (hro : F.round = none) (l : List Count) (c : Count → Count → Int) (hl : l.length ≤ 12) :
    FnX Tryz.prog F 113 2 [(.s 0, .row true 148 (l.map Count.enc)), (.s 1, .raw (PFn Tryz.prog F (CmpS (fun x : Count => Vd x.enc) c)))] (.tu []) [(.s 0, .row true 148 ((isort c l).map Count.enc))] := by
  refine FnX.of_AW hF hro hτ (K := [0]) Tryz.func113 rfl (by decide) rfl (Nat.le_of_ble_eq_true rfl) rfl rfl ?_
  obtain ⟨b, hb⟩ := f75 hF hro (F := F) (l.map Count.enc).length (by simp; omega)
  have hb' : FnV Tryz.prog F 75 [.d (.sc (.int .u64 (IntKind.wrap .u64 ((l.map Count.enc).length : Int))))] (Iv64 b) := by
    rw [wrap_u64b _ (by simp; omega)]; exact hb
  have hq := f189 hF hro l c hl b
  rw [show (l.length : Int) = ((l.map Count.enc).length : Nat) by simp] at hq
  (repeat' first | apply Wq | refine Ws hF hτ rfl ?_ | apply Wb | apply Wl | apply Wk | apply We | apply Wc | apply Wd | refine Wt rfl rfl ?_ | refine Wf rfl rfl ?_ | refine Wi rfl rfl (fun h => ?_) (fun h => ?_) | refine Wx hF hτ rfl rfl rfl rfl rfl rfl rfl rfl (fun h => ?_) (fun h => ?_) | apply Wn)
  refine AL.opM (OpM.call hF rfl rfl rfl rfl (hb') rfl rfl rfl) rfl rfl ?_
  refine Wv hF hτ rfl ?_
  refine AL.op rfl (OpTo.callX hF rfl rfl rfl rfl rfl rfl rfl (hq) rfl rfl rfl rfl rfl) ?_
  refine Wv hF hτ rfl ?_
  (repeat' first | apply Wq | refine Ws hF hτ rfl ?_ | apply Wb | apply Wl | apply Wk | apply We | apply Wc | apply Wd | refine Wt rfl rfl ?_ | refine Wf rfl rfl ?_ | refine Wi rfl rfl (fun h => ?_) (fun h => ?_) | refine Wx hF hτ rfl rfl rfl rfl rfl rfl rfl rfl (fun h => ?_) (fun h => ?_) | apply Wn)
  refine ⟨.inl rfl, rfl, ?_⟩
  (repeat' first | exact Sub.nil | refine Sub.put rfl ?_ | refine Sub.put ?_ ?_)
set_option maxHeartbeats 4000000 in
theorem f149 (hF : Wide F) (hro : F.round = none) (l : List Stowed) (c : Stowed → Stowed → Int) (hl : l.length ≤ 1000) :
    FnX Tryz.prog F 149 4 [(.s 0, .row true 90 (l.map Stowed.enc)), (.s 1, Iv64 (0 : Nat)), (.s 2, Iv64 l.length), (.s 3, .raw (PFn Tryz.prog F (CmpS (fun x : Stowed => Vd x.enc) c)))] (.tu []) [(.s 0, .row true 90 ((isort c l).map Stowed.enc))] := by
  refine FnX.of_AW hF hro hτ (K := [0]) Tryz.func149 rfl (by decide) rfl (Nat.le_of_ble_eq_true rfl) rfl rfl ?_
  (repeat' first | apply Wq | refine Ws hF hτ rfl ?_ | apply Wb | apply Wl | apply Wk | apply We | apply Wc | apply Wd | refine Wt rfl rfl ?_ | refine Wf rfl rfl ?_ | refine Wi rfl rfl (fun h => ?_) (fun h => ?_) | refine Wx hF hτ rfl rfl rfl rfl rfl rfl rfl rfl (fun h => ?_) (fun h => ?_) | apply Wn)
  refine AW.loopI (X := { i : Nat // i + 1 ≤ l.length + 1 ∧ (0 < l.length → i < l.length) }) (fun i => [(.s 8, Iv64 (i.1 + 1 : Nat)), (.s 0, .row true 90 ((insTo c l i.1).map Stowed.enc)), (.s 1, Iv64 (0 : Nat)), (.s 2, Iv64 l.length), (.s 3, .raw (PFn Tryz.prog F (CmpS (fun x : Stowed => Vd x.enc) c)))]) (fun i => l.length - i.1) (fun i => rfl) ⟨0, by omega, fun h => h⟩ ?_ ?_
  · (repeat' first | exact Sub.nil | refine Sub.put rfl ?_ | refine Sub.put ?_ ?_)
  rintro ⟨i, hi1, hi2⟩
  (repeat' first | apply Wq | refine Ws hF hτ rfl ?_ | apply Wb | apply Wl | apply Wk | apply We | apply Wc | apply Wd | refine Wt rfl rfl ?_ | refine Wf rfl rfl ?_ | refine Wi rfl rfl (fun h => ?_) (fun h => ?_) | refine Wx hF hτ rfl rfl rfl rfl rfl rfl rfl rfl (fun h => ?_) (fun h => ?_) | apply Wn)
  · have hil : i + 1 < l.length := by
      have h' : decide (((i + 1 : Nat) : Int) < (l.length : Nat)) = true := h
      have := of_decide_eq_true h'
      omega
    refine AW.loopI (X := { x : Nat × List Stowed // x.1 < l.length ∧ x.2.length = l.length ∧ insAt c x.2 x.1 = insTo c l (i + 1) }) (fun x => [(.s 9, Iv64 x.1.1), (.s 8, Iv64 (i + 1 : Nat)), (.s 0, .row true 90 (x.1.2.map Stowed.enc)), (.s 1, Iv64 (0 : Nat)), (.s 2, Iv64 l.length), (.s 3, .raw (PFn Tryz.prog F (CmpS (fun x : Stowed => Vd x.enc) c)))]) (fun x => x.1.1) (fun x => rfl) ⟨(i + 1, insTo c l i), hil, insTo_length c l i, rfl⟩ ?_ ?_
    · (repeat' first | exact Sub.nil | refine Sub.put rfl ?_ | refine Sub.put ?_ ?_)
    rintro ⟨⟨j, xs⟩, q1, q2, q3⟩
    simp only at q1 q2 q3
    (repeat' first | apply Wq | refine Ws hF hτ rfl ?_ | apply Wb | apply Wl | apply Wk | apply We | apply Wn)
    refine AW.draw hmix (AD.start [] [0, 1, 2, 3] ?_)
    refine AD.vals hF hτ rfl ?_
    refine AD.fin (by kernel_rfl) rfl rfl ?_
    refine AA.split 21 rfl rfl (fun h1 => ?_) (fun h1 => ?_)
    · have hj0 : 0 < j := by simpa using h1
      obtain ⟨j, rfl⟩ : ∃ k, j = k + 1 := ⟨j - 1, by omega⟩
      obtain ⟨x, hx⟩ : ∃ x, xs[j + 1]? = some x := ⟨_, List.getElem?_eq_getElem (by omega)⟩
      obtain ⟨y, hy⟩ : ∃ y, xs[j]? = some y := ⟨_, List.getElem?_eq_getElem (by omega)⟩
      have hw : IntKind.wrap .i64 (((j + 1 : Nat) : Int) - 1) = (j : Int) := by rw [wrap_id (by omega) (by omega)]; omega
      refine AD.start [0, 1, 2, 3] [4, 5, 6, 7, 8, 9, 10, 11, 12, 13, 14, 15, 16] ?_
      refine AD.vals hF hτ rfl ?_
      refine AD.op (o := _) rfl rfl rfl (OpM.indexR hF rfl (hτ _ _ rfl) rfl (hτ _ _ rfl) rfl (k := .i64) (i := j + 1) rfl (by simp; omega) rfl rfl) ?_
      refine AD.vals hF hτ rfl ?_
      refine AD.op (o := _) rfl rfl rfl (OpM.loadE hF rfl (hτ _ _ rfl) rfl rfl (q := 0) (get_enc Stowed.enc hx) rfl (Nat.le_of_ble_eq_true rfl) rfl rfl rfl) ?_
      refine AD.vals hF hτ rfl ?_
      refine AD.op (o := _) rfl rfl rfl (OpM.indexR hF rfl (hτ _ _ rfl) rfl (hτ _ _ rfl) rfl (k := .i64) (i := j) (by exact congrArg (fun z => some (IntKind.i64, z)) hw) (by simp; omega) rfl rfl) ?_
      refine AD.vals hF hτ rfl ?_
      refine AD.op (o := _) rfl rfl rfl (OpM.loadE hF rfl (hτ _ _ rfl) rfl rfl (q := 0) (get_enc Stowed.enc hy) rfl (Nat.le_of_ble_eq_true rfl) rfl rfl rfl) ?_
      refine AD.vals hF hτ rfl ?_
      refine AD.op (o := _) rfl rfl rfl (OpM.callRaw hF rfl rfl rfl rfl ⟨x, y, rfl, rfl⟩ rfl rfl rfl) ?_
      refine AD.vals hF hτ rfl ?_
      refine AD.fin (by kernel_rfl) rfl rfl (AA.done (by kernel_rfl) ?_)
      (repeat' first | apply Wq | refine Ws hF hτ rfl ?_ | apply Wb | apply Wl | apply Wk | apply We | apply Wc | apply Wd | refine Wt rfl rfl ?_ | refine Wf rfl rfl ?_ | refine Wi rfl rfl (fun h => ?_) (fun h => ?_) | refine Wx hF hτ rfl rfl rfl rfl rfl rfl rfl rfl (fun h => ?_) (fun h => ?_) | apply Wn)
      · have hw0 : ((j + 1 : Nat) : Int) = ((j + 1 : Nat) : Int) := rfl
        have hins : insAt c xs (j + 1) = insAt c ((xs.set (j + 1) y).set j x) j := by
          simp only [insAt, hx, hy]
          rw [if_pos (of_decide_eq_true h)]
        refine AW.forget (.s 18) rfl ?_
        (repeat' first | apply Wq | refine Ws hF hτ rfl ?_ | apply Wb | apply Wl | apply Wk | apply We | apply Wn)
        refine AW.draw hmix (AD.start [] [0, 1, 2, 3, 4, 5, 6, 7, 8, 9, 10, 11, 12, 13, 14] ?_)
        refine AD.vals hF hτ rfl ?_
        refine AD.op (o := _) rfl rfl rfl (OpM.indexR hF rfl (hτ _ _ rfl) rfl (hτ _ _ rfl) rfl (k := .i64) (i := j) (by exact congrArg (fun z => some (IntKind.i64, z)) hw) (by simp; omega) rfl rfl) ?_
        refine AD.vals hF hτ rfl ?_
        refine AD.op (o := _) rfl rfl rfl (OpM.loadE hF rfl (hτ _ _ rfl) rfl rfl (q := 0) (get_enc Stowed.enc hy) rfl (Nat.le_of_ble_eq_true rfl) rfl rfl rfl) ?_
        refine AD.vals hF hτ rfl ?_
        refine AD.op (o := _) rfl rfl rfl (OpM.indexR hF rfl (hτ _ _ rfl) rfl (hτ _ _ rfl) rfl (k := .i64) (i := j + 1) rfl (by simp; omega) rfl rfl) ?_
        refine AD.vals hF hτ rfl ?_
        refine AD.op (o := _) rfl rfl rfl (OpM.loadE hF rfl (hτ _ _ rfl) rfl rfl (q := 0) (get_enc Stowed.enc hx) rfl (Nat.le_of_ble_eq_true rfl) rfl rfl rfl) ?_
        refine AD.vals hF hτ rfl ?_
        refine AD.op (o := _) rfl rfl rfl (OpM.indexR hF rfl (hτ _ _ rfl) rfl (hτ _ _ rfl) rfl (k := .i64) (i := j + 1) rfl (by simp; omega) rfl rfl) ?_
        refine AD.vals hF hτ rfl ?_
        refine AD.finC 15 [] (fuel2 := 2) rfl rfl rfl (OpF.storeE hF rfl rfl (hτ _ _ rfl) rfl rfl (q := 0) (get_enc Stowed.enc hx) rfl rfl rfl (Nat.le_of_ble_eq_true rfl) rfl) (by kernel_rfl) (by kernel_rfl) rfl rfl rfl
          (DS.run (DS.run (DS.run .nil (newD_of (by kernel_rfl)) rfl rfl (OpM.val hF hτ rfl rfl rfl)) (newD_of (by kernel_rfl)) rfl rfl (OpM.val hF hτ rfl rfl rfl)) (newD_of (by kernel_rfl)) rfl rfl (OpM.val hF hτ rfl rfl rfl)) (by kernel_rfl) (AA.tail (fuel := 0) [16, 17] _ (by kernel_rfl) ?_) rfl
        refine AL.opM (OpM.indexR hF rfl (hτ _ _ rfl) rfl (hτ _ _ rfl) rfl (k := .i64) (i := j) (by exact congrArg (fun z => some (IntKind.i64, z)) hw) (by simp; omega) rfl rfl) rfl rfl ?_
        refine AL.op rfl (OpTo.storeE hF rfl rfl (hτ _ _ rfl) rfl rfl (i := j) (q := 0) (cs := Stowed.enc y) (by rw [List.getElem?_set_ne (by omega)]; exact get_enc Stowed.enc hy) rfl rfl rfl (Nat.le_of_ble_eq_true rfl)) ?_
        refine Wv hF hτ rfl ?_
        (repeat' first | apply Wq | refine Ws hF hτ rfl ?_ | apply Wb | apply Wl | apply Wk | apply We | apply Wc | apply Wd | refine Wt rfl rfl ?_ | refine Wf rfl rfl ?_ | refine Wi rfl rfl (fun h => ?_) (fun h => ?_) | refine Wx hF hτ rfl rfl rfl rfl rfl rfl rfl rfl (fun h => ?_) (fun h => ?_) | apply Wn)
        refine ⟨⟨(j, (xs.set (j + 1) y).set j x), by show j < l.length; omega, by simp [q2], by show insAt c _ j = _; rw [← hins]; exact q3⟩, by show j < j + 1; omega, ?_⟩
        (repeat' first | exact Sub.nil | refine Sub.put rfl ?_ | refine Sub.put ?_ ?_)
        · exact congrArg (fun z => some (Iv64 z)) hw
        · refine congrArg (fun z => some (V.row true 90 z)) ?_
          simp only [List.map_set]
          rfl
      · refine ⟨⟨i + 1, by omega, fun _ => hil⟩, by show l.length - (i + 1) < l.length - i; omega, ?_⟩
        (repeat' first | exact Sub.nil | refine Sub.put rfl ?_ | refine Sub.put ?_ ?_)
        · exact congrArg (fun z => some (Iv64 z)) (wrap_id (x := ((i + 1 : Nat) : Int) + 1) (by omega) (by omega))
        · refine congrArg (fun z : List Stowed => some (V.row true 90 (z.map Stowed.enc))) ?_
          show xs = insTo c l (i + 1)
          rw [← q3]
          simp only [insAt, hx, hy]
          rw [if_neg (by simpa using h)]
    · refine AD.start [0, 1, 2, 3] [4, 5, 6, 7, 8, 9, 10, 11, 12, 13, 14, 15, 16] ?_
      refine AD.vals hF hτ rfl ?_
      refine AD.fin (by kernel_rfl) rfl rfl (AA.done (by kernel_rfl) ?_)
      (repeat' first | apply Wq | refine Ws hF hτ rfl ?_ | apply Wb | apply Wl | apply Wk | apply We | apply Wc | apply Wd | refine Wt rfl rfl ?_ | refine Wf rfl rfl ?_ | refine Wi rfl rfl (fun h => ?_) (fun h => ?_) | refine Wx hF hτ rfl rfl rfl rfl rfl rfl rfl rfl (fun h => ?_) (fun h => ?_) | apply Wn)
      refine ⟨⟨i + 1, by omega, fun _ => hil⟩, by show l.length - (i + 1) < l.length - i; omega, ?_⟩
      (repeat' first | exact Sub.nil | refine Sub.put rfl ?_ | refine Sub.put ?_ ?_)
      · exact congrArg (fun z => some (Iv64 z)) (wrap_id (x := ((i + 1 : Nat) : Int) + 1) (by omega) (by omega))
      · refine congrArg (fun z : List Stowed => some (V.row true 90 (z.map Stowed.enc))) ?_
        have hj : j = 0 := by
          have h' : decide (((0 : Nat) : Int) < (j : Nat)) = false := h1
          have := of_decide_eq_false h'
          omega
        show xs = insTo c l (i + 1)
        rw [← q3, hj]
        rfl
  · have hil : i = l.length - 1 := by
      have h' : decide (((i + 1 : Nat) : Int) < (l.length : Nat)) = false := h
      have := of_decide_eq_false h'
      omega
    refine ⟨.inl rfl, rfl, ?_⟩
    (repeat' first | exact Sub.nil | refine Sub.put rfl ?_ | refine Sub.put ?_ ?_)
    rw [isort, ← hil]
    rfl
set_option maxHeartbeats 4000000 in
theorem f77 (hF : Wide F) (hro : F.round = none) (l : List Stowed) (c : Stowed → Stowed → Int) (hl : l.length ≤ 12) (b : Int) :
    FnX Tryz.prog F 77 5 [(.s 0, .row true 90 (l.map Stowed.enc)), (.s 1, Iv64 (0 : Nat)), (.s 2, Iv64 l.length), (.s 3, Iv64 b), (.s 4, .raw (PFn Tryz.prog F (CmpS (fun x : Stowed => Vd x.enc) c)))] (.tu []) [(.s 0, .row true 90 ((isort c l).map Stowed.enc))] := by
  refine FnX.of_AW hF hro hτ (K := [0]) Tryz.func77 rfl (by decide) rfl (Nat.le_of_ble_eq_true rfl) rfl rfl ?_
  (repeat' first | apply Wq | refine Ws hF hτ rfl ?_ | apply Wb | apply Wl | apply Wk | apply We | apply Wc | apply Wd | refine Wt rfl rfl ?_ | refine Wf rfl rfl ?_ | refine Wi rfl rfl (fun h => ?_) (fun h => ?_) | refine Wx hF hτ rfl rfl rfl rfl rfl rfl rfl rfl (fun h => ?_) (fun h => ?_) | apply Wn)
  refine AW.loopI (X := Unit) (fun _ => [(.s 0, .row true 90 (l.map Stowed.enc)), (.s 1, Iv64 (0 : Nat)), (.s 2, Iv64 l.length), (.s 4, .raw (PFn Tryz.prog F (CmpS (fun x : Stowed => Vd x.enc) c)))]) (fun _ => 0) (fun _ => rfl) () ?_ ?_
  · (repeat' first | exact Sub.nil | refine Sub.put rfl ?_ | refine Sub.put ?_ ?_)
  intro _
  have hw : IntKind.wrap .i64 ((l.length : Int) - ((0 : Nat) : Int)) = l.length := by rw [wrap_id (by omega) (by omega)]; omega
  (repeat' first | apply Wq | refine Ws hF hτ rfl ?_ | apply Wb | apply Wl | apply Wk | apply We | apply Wc | apply Wd | refine Wt rfl rfl ?_ | refine Wf rfl rfl ?_ | refine Wi rfl rfl (fun h => ?_) (fun h => ?_) | refine Wx hF hτ rfl rfl rfl rfl rfl rfl rfl rfl (fun h => ?_) (fun h => ?_) | apply Wn)
  · refine AL.op rfl (OpTo.callX hF rfl rfl rfl rfl rfl rfl rfl (f149 hF hro l c (by omega)) rfl rfl rfl rfl rfl) ?_
    refine Wv hF hτ rfl ?_
    (repeat' first | apply Wq | refine Ws hF hτ rfl ?_ | apply Wb | apply Wl | apply Wk | apply We | apply Wc | apply Wd | refine Wt rfl rfl ?_ | refine Wf rfl rfl ?_ | refine Wi rfl rfl (fun h => ?_) (fun h => ?_) | refine Wx hF hτ rfl rfl rfl rfl rfl rfl rfl rfl (fun h => ?_) (fun h => ?_) | apply Wn)
    refine AW.ret ⟨.inr rfl, rfl, ?_⟩
    (repeat' first | exact Sub.nil | refine Sub.put rfl ?_ | refine Sub.put ?_ ?_)
  · exfalso
    have h' : decide (IntKind.wrap .i64 ((l.length : Int) - ((0 : Nat) : Int)) ≤ 12) = false := h
    rw [hw] at h'
    have := of_decide_eq_false h'
    omega
theorem f30 (hF : Wide F) (hro : F.round = none) (l : List Stowed) (c : Stowed → Stowed → Int) (hl : l.length ≤ 12) :
    FnX Tryz.prog F 30 2 [(.s 0, .row true 90 (l.map Stowed.enc)), (.s 1, .raw (PFn Tryz.prog F (CmpS (fun x : Stowed => Vd x.enc) c)))] (.tu []) [(.s 0, .row true 90 ((isort c l).map Stowed.enc))] := by
  refine FnX.of_AW hF hro hτ (K := [0]) Tryz.func30 rfl (by decide) rfl (Nat.le_of_ble_eq_true rfl) rfl rfl ?_
  obtain ⟨b, hb⟩ := f75 hF hro (F := F) (l.map Stowed.enc).length (by simp; omega)
  have hb' : FnV Tryz.prog F 75 [.d (.sc (.int .u64 (IntKind.wrap .u64 ((l.map Stowed.enc).length : Int))))] (Iv64 b) := by
    rw [wrap_u64b _ (by simp; omega)]; exact hb
  have hq := f77 hF hro l c hl b
  rw [show (l.length : Int) = ((l.map Stowed.enc).length : Nat) by simp] at hq
  (repeat' first | apply Wq | refine Ws hF hτ rfl ?_ | apply Wb | apply Wl | apply Wk | apply We | apply Wc | apply Wd | refine Wt rfl rfl ?_ | refine Wf rfl rfl ?_ | refine Wi rfl rfl (fun h => ?_) (fun h => ?_) | refine Wx hF hτ rfl rfl rfl rfl rfl rfl rfl rfl (fun h => ?_) (fun h => ?_) | apply Wn)
  refine AL.opM (OpM.call hF rfl rfl rfl rfl (hb') rfl rfl rfl) rfl rfl ?_
  refine Wv hF hτ rfl ?_
  refine AL.op rfl (OpTo.callX hF rfl rfl rfl rfl rfl rfl rfl (hq) rfl rfl rfl rfl rfl) ?_
  refine Wv hF hτ rfl ?_
  (repeat' first | apply Wq | refine Ws hF hτ rfl ?_ | apply Wb | apply Wl | apply Wk | apply We | apply Wc | apply Wd | refine Wt rfl rfl ?_ | refine Wf rfl rfl ?_ | refine Wi rfl rfl (fun h => ?_) (fun h => ?_) | refine Wx hF hτ rfl rfl rfl rfl rfl rfl rfl rfl (fun h => ?_) (fun h => ?_) | apply Wn)
  refine ⟨.inl rfl, rfl, ?_⟩
  (repeat' first | exact Sub.nil | refine Sub.put rfl ?_ | refine Sub.put ?_ ?_)
set_option maxHeartbeats 4000000 in
theorem f285 (hF : Wide F) (hro : F.round = none) (l : List Int) (c : Int → Int → Int) (hl : l.length ≤ 1000) :
    FnX Tryz.prog F 285 4 [(.s 0, .row true 3 (l.map (fun n : Int => [di n]))), (.s 1, Iv64 (0 : Nat)), (.s 2, Iv64 l.length), (.s 3, .raw (PFn Tryz.prog F (CmpS (fun x : Int => Iv64 x) c)))] (.tu []) [(.s 0, .row true 3 ((isort c l).map (fun n : Int => [di n])))] := by
  refine FnX.of_AW hF hro hτ (K := [0]) Tryz.func285 rfl (by decide) rfl (Nat.le_of_ble_eq_true rfl) rfl rfl ?_
  (repeat' first | apply Wq | refine Ws hF hτ rfl ?_ | apply Wb | apply Wl | apply Wk | apply We | apply Wc | apply Wd | refine Wt rfl rfl ?_ | refine Wf rfl rfl ?_ | refine Wi rfl rfl (fun h => ?_) (fun h => ?_) | refine Wx hF hτ rfl rfl rfl rfl rfl rfl rfl rfl (fun h => ?_) (fun h => ?_) | apply Wn)
  refine AW.loopI (X := { i : Nat // i + 1 ≤ l.length + 1 ∧ (0 < l.length → i < l.length) }) (fun i => [(.s 8, Iv64 (i.1 + 1 : Nat)), (.s 0, .row true 3 ((insTo c l i.1).map (fun n : Int => [di n]))), (.s 1, Iv64 (0 : Nat)), (.s 2, Iv64 l.length), (.s 3, .raw (PFn Tryz.prog F (CmpS (fun x : Int => Iv64 x) c)))]) (fun i => l.length - i.1) (fun i => rfl) ⟨0, by omega, fun h => h⟩ ?_ ?_
  · (repeat' first | exact Sub.nil | refine Sub.put rfl ?_ | refine Sub.put ?_ ?_)
  rintro ⟨i, hi1, hi2⟩
  (repeat' first | apply Wq | refine Ws hF hτ rfl ?_ | apply Wb | apply Wl | apply Wk | apply We | apply Wc | apply Wd | refine Wt rfl rfl ?_ | refine Wf rfl rfl ?_ | refine Wi rfl rfl (fun h => ?_) (fun h => ?_) | refine Wx hF hτ rfl rfl rfl rfl rfl rfl rfl rfl (fun h => ?_) (fun h => ?_) | apply Wn)
  · have hil : i + 1 < l.length := by
      have h' : decide (((i + 1 : Nat) : Int) < (l.length : Nat)) = true := h
      have := of_decide_eq_true h'
      omega
    refine AW.loopI (X := { x : Nat × List Int // x.1 < l.length ∧ x.2.length = l.length ∧ insAt c x.2 x.1 = insTo c l (i + 1) }) (fun x => [(.s 9, Iv64 x.1.1), (.s 8, Iv64 (i + 1 : Nat)), (.s 0, .row true 3 (x.1.2.map (fun n : Int => [di n]))), (.s 1, Iv64 (0 : Nat)), (.s 2, Iv64 l.length), (.s 3, .raw (PFn Tryz.prog F (CmpS (fun x : Int => Iv64 x) c)))]) (fun x => x.1.1) (fun x => rfl) ⟨(i + 1, insTo c l i), hil, insTo_length c l i, rfl⟩ ?_ ?_
    · (repeat' first | exact Sub.nil | refine Sub.put rfl ?_ | refine Sub.put ?_ ?_)
    rintro ⟨⟨j, xs⟩, q1, q2, q3⟩
    simp only at q1 q2 q3
    (repeat' first | apply Wq | refine Ws hF hτ rfl ?_ | apply Wb | apply Wl | apply Wk | apply We | apply Wn)
    refine AW.draw hmix (AD.start [] [0, 1, 2, 3] ?_)
    refine AD.vals hF hτ rfl ?_
    refine AD.fin (by kernel_rfl) rfl rfl ?_
    refine AA.split 21 rfl rfl (fun h1 => ?_) (fun h1 => ?_)
    · have hj0 : 0 < j := by simpa using h1
      obtain ⟨j, rfl⟩ : ∃ k, j = k + 1 := ⟨j - 1, by omega⟩
      obtain ⟨x, hx⟩ : ∃ x, xs[j + 1]? = some x := ⟨_, List.getElem?_eq_getElem (by omega)⟩
      obtain ⟨y, hy⟩ : ∃ y, xs[j]? = some y := ⟨_, List.getElem?_eq_getElem (by omega)⟩
      have hw : IntKind.wrap .i64 (((j + 1 : Nat) : Int) - 1) = (j : Int) := by rw [wrap_id (by omega) (by omega)]; omega
      refine AD.start [0, 1, 2, 3] [4, 5, 6, 7, 8, 9, 10, 11, 12, 13, 14, 15, 16] ?_
      refine AD.vals hF hτ rfl ?_
      refine AD.op (o := _) rfl rfl rfl (OpM.indexR hF rfl (hτ _ _ rfl) rfl (hτ _ _ rfl) rfl (k := .i64) (i := j + 1) rfl (by simp; omega) rfl rfl) ?_
      refine AD.vals hF hτ rfl ?_
      refine AD.op (o := _) rfl rfl rfl (OpM.loadE hF rfl (hτ _ _ rfl) rfl rfl (q := 0) (get_enc (fun n : Int => [di n]) hx) rfl (Nat.le_of_ble_eq_true rfl) rfl rfl rfl) ?_
      refine AD.vals hF hτ rfl ?_
      refine AD.op (o := _) rfl rfl rfl (OpM.indexR hF rfl (hτ _ _ rfl) rfl (hτ _ _ rfl) rfl (k := .i64) (i := j) (by exact congrArg (fun z => some (IntKind.i64, z)) hw) (by simp; omega) rfl rfl) ?_
      refine AD.vals hF hτ rfl ?_
      refine AD.op (o := _) rfl rfl rfl (OpM.loadE hF rfl (hτ _ _ rfl) rfl rfl (q := 0) (get_enc (fun n : Int => [di n]) hy) rfl (Nat.le_of_ble_eq_true rfl) rfl rfl rfl) ?_
      refine AD.vals hF hτ rfl ?_
      refine AD.op (o := _) rfl rfl rfl (OpM.callRaw hF rfl rfl rfl rfl ⟨x, y, rfl, rfl⟩ rfl rfl rfl) ?_
      refine AD.vals hF hτ rfl ?_
      refine AD.fin (by kernel_rfl) rfl rfl (AA.done (by kernel_rfl) ?_)
      (repeat' first | apply Wq | refine Ws hF hτ rfl ?_ | apply Wb | apply Wl | apply Wk | apply We | apply Wc | apply Wd | refine Wt rfl rfl ?_ | refine Wf rfl rfl ?_ | refine Wi rfl rfl (fun h => ?_) (fun h => ?_) | refine Wx hF hτ rfl rfl rfl rfl rfl rfl rfl rfl (fun h => ?_) (fun h => ?_) | apply Wn)
      · have hw0 : ((j + 1 : Nat) : Int) = ((j + 1 : Nat) : Int) := rfl
        have hins : insAt c xs (j + 1) = insAt c ((xs.set (j + 1) y).set j x) j := by
          simp only [insAt, hx, hy]
          rw [if_pos (of_decide_eq_true h)]
        refine AW.forget (.s 18) rfl ?_
        (repeat' first | apply Wq | refine Ws hF hτ rfl ?_ | apply Wb | apply Wl | apply Wk | apply We | apply Wn)
        refine AW.draw hmix (AD.start [] [0, 1, 2, 3, 4, 5, 6, 7, 8, 9, 10, 11, 12, 13, 14] ?_)
        refine AD.vals hF hτ rfl ?_
        refine AD.op (o := _) rfl rfl rfl (OpM.indexR hF rfl (hτ _ _ rfl) rfl (hτ _ _ rfl) rfl (k := .i64) (i := j) (by exact congrArg (fun z => some (IntKind.i64, z)) hw) (by simp; omega) rfl rfl) ?_
        refine AD.vals hF hτ rfl ?_
        refine AD.op (o := _) rfl rfl rfl (OpM.loadE hF rfl (hτ _ _ rfl) rfl rfl (q := 0) (get_enc (fun n : Int => [di n]) hy) rfl (Nat.le_of_ble_eq_true rfl) rfl rfl rfl) ?_
        refine AD.vals hF hτ rfl ?_
        refine AD.op (o := _) rfl rfl rfl (OpM.indexR hF rfl (hτ _ _ rfl) rfl (hτ _ _ rfl) rfl (k := .i64) (i := j + 1) rfl (by simp; omega) rfl rfl) ?_
        refine AD.vals hF hτ rfl ?_
        refine AD.op (o := _) rfl rfl rfl (OpM.loadE hF rfl (hτ _ _ rfl) rfl rfl (q := 0) (get_enc (fun n : Int => [di n]) hx) rfl (Nat.le_of_ble_eq_true rfl) rfl rfl rfl) ?_
        refine AD.vals hF hτ rfl ?_
        refine AD.op (o := _) rfl rfl rfl (OpM.indexR hF rfl (hτ _ _ rfl) rfl (hτ _ _ rfl) rfl (k := .i64) (i := j + 1) rfl (by simp; omega) rfl rfl) ?_
        refine AD.vals hF hτ rfl ?_
        refine AD.finC 15 [] (fuel2 := 2) rfl rfl rfl (OpF.storeE hF rfl rfl (hτ _ _ rfl) rfl rfl (q := 0) (get_enc (fun n : Int => [di n]) hx) rfl rfl rfl (Nat.le_of_ble_eq_true rfl) rfl) (by kernel_rfl) (by kernel_rfl) rfl rfl rfl
          (DS.run (DS.run (DS.run .nil (newD_of (by kernel_rfl)) rfl rfl (OpM.val hF hτ rfl rfl rfl)) (newD_of (by kernel_rfl)) rfl rfl (OpM.val hF hτ rfl rfl rfl)) (newD_of (by kernel_rfl)) rfl rfl (OpM.val hF hτ rfl rfl rfl)) (by kernel_rfl) (AA.tail (fuel := 0) [16, 17] _ (by kernel_rfl) ?_) rfl
        refine AL.opM (OpM.indexR hF rfl (hτ _ _ rfl) rfl (hτ _ _ rfl) rfl (k := .i64) (i := j) (by exact congrArg (fun z => some (IntKind.i64, z)) hw) (by simp; omega) rfl rfl) rfl rfl ?_
        refine AL.op rfl (OpTo.storeE hF rfl rfl (hτ _ _ rfl) rfl rfl (i := j) (q := 0) (cs := (fun n : Int => [di n]) y) (by rw [List.getElem?_set_ne (by omega)]; exact get_enc (fun n : Int => [di n]) hy) rfl rfl rfl (Nat.le_of_ble_eq_true rfl)) ?_
        refine Wv hF hτ rfl ?_
        (repeat' first | apply Wq | refine Ws hF hτ rfl ?_ | apply Wb | apply Wl | apply Wk | apply We | apply Wc | apply Wd | refine Wt rfl rfl ?_ | refine Wf rfl rfl ?_ | refine Wi rfl rfl (fun h => ?_) (fun h => ?_) | refine Wx hF hτ rfl rfl rfl rfl rfl rfl rfl rfl (fun h => ?_) (fun h => ?_) | apply Wn)
        refine ⟨⟨(j, (xs.set (j + 1) y).set j x), by show j < l.length; omega, by simp [q2], by show insAt c _ j = _; rw [← hins]; exact q3⟩, by show j < j + 1; omega, ?_⟩
        (repeat' first | exact Sub.nil | refine Sub.put rfl ?_ | refine Sub.put ?_ ?_)
        · exact congrArg (fun z => some (Iv64 z)) hw
        · refine congrArg (fun z => some (V.row true 3 z)) ?_
          simp only [List.map_set]
          rfl
      · refine ⟨⟨i + 1, by omega, fun _ => hil⟩, by show l.length - (i + 1) < l.length - i; omega, ?_⟩
        (repeat' first | exact Sub.nil | refine Sub.put rfl ?_ | refine Sub.put ?_ ?_)
        · exact congrArg (fun z => some (Iv64 z)) (wrap_id (x := ((i + 1 : Nat) : Int) + 1) (by omega) (by omega))
        · refine congrArg (fun z : List Int => some (V.row true 3 (z.map (fun n : Int => [di n])))) ?_
          show xs = insTo c l (i + 1)
          rw [← q3]
          simp only [insAt, hx, hy]
          rw [if_neg (by simpa using h)]
    · refine AD.start [0, 1, 2, 3] [4, 5, 6, 7, 8, 9, 10, 11, 12, 13, 14, 15, 16] ?_
      refine AD.vals hF hτ rfl ?_
      refine AD.fin (by kernel_rfl) rfl rfl (AA.done (by kernel_rfl) ?_)
      (repeat' first | apply Wq | refine Ws hF hτ rfl ?_ | apply Wb | apply Wl | apply Wk | apply We | apply Wc | apply Wd | refine Wt rfl rfl ?_ | refine Wf rfl rfl ?_ | refine Wi rfl rfl (fun h => ?_) (fun h => ?_) | refine Wx hF hτ rfl rfl rfl rfl rfl rfl rfl rfl (fun h => ?_) (fun h => ?_) | apply Wn)
      refine ⟨⟨i + 1, by omega, fun _ => hil⟩, by show l.length - (i + 1) < l.length - i; omega, ?_⟩
      (repeat' first | exact Sub.nil | refine Sub.put rfl ?_ | refine Sub.put ?_ ?_)
      · exact congrArg (fun z => some (Iv64 z)) (wrap_id (x := ((i + 1 : Nat) : Int) + 1) (by omega) (by omega))
      · refine congrArg (fun z : List Int => some (V.row true 3 (z.map (fun n : Int => [di n])))) ?_
        have hj : j = 0 := by
          have h' : decide (((0 : Nat) : Int) < (j : Nat)) = false := h1
          have := of_decide_eq_false h'
          omega
        show xs = insTo c l (i + 1)
        rw [← q3, hj]
        rfl
  · have hil : i = l.length - 1 := by
      have h' : decide (((i + 1 : Nat) : Int) < (l.length : Nat)) = false := h
      have := of_decide_eq_false h'
      omega
    refine ⟨.inl rfl, rfl, ?_⟩
    (repeat' first | exact Sub.nil | refine Sub.put rfl ?_ | refine Sub.put ?_ ?_)
    rw [isort, ← hil]
    rfl
set_option maxHeartbeats 4000000 in
theorem f281 (hF : Wide F) (hro : F.round = none) (l : List Int) (c : Int → Int → Int) (hl : l.length ≤ 12) (b : Int) :
    FnX Tryz.prog F 281 5 [(.s 0, .row true 3 (l.map (fun n : Int => [di n]))), (.s 1, Iv64 (0 : Nat)), (.s 2, Iv64 l.length), (.s 3, Iv64 b), (.s 4, .raw (PFn Tryz.prog F (CmpS (fun x : Int => Iv64 x) c)))] (.tu []) [(.s 0, .row true 3 ((isort c l).map (fun n : Int => [di n])))] := by
  refine FnX.of_AW hF hro hτ (K := [0]) Tryz.func281 rfl (by decide) rfl (Nat.le_of_ble_eq_true rfl) rfl rfl ?_
  (repeat' first | apply Wq | refine Ws hF hτ rfl ?_ | apply Wb | apply Wl | apply Wk | apply We | apply Wc | apply Wd | refine Wt rfl rfl ?_ | refine Wf rfl rfl ?_ | refine Wi rfl rfl (fun h => ?_) (fun h => ?_) | refine Wx hF hτ rfl rfl rfl rfl rfl rfl rfl rfl (fun h => ?_) (fun h => ?_) | apply Wn)
  refine AW.loopI (X := Unit) (fun _ => [(.s 0, .row true 3 (l.map (fun n : Int => [di n]))), (.s 1, Iv64 (0 : Nat)), (.s 2, Iv64 l.length), (.s 4, .raw (PFn Tryz.prog F (CmpS (fun x : Int => Iv64 x) c)))]) (fun _ => 0) (fun _ => rfl) () ?_ ?_
  · (repeat' first | exact Sub.nil | refine Sub.put rfl ?_ | refine Sub.put ?_ ?_)
  intro _
  have hw : IntKind.wrap .i64 ((l.length : Int) - ((0 : Nat) : Int)) = l.length := by rw [wrap_id (by omega) (by omega)]; omega
  (repeat' first | apply Wq | refine Ws hF hτ rfl ?_ | apply Wb | apply Wl | apply Wk | apply We | apply Wc | apply Wd | refine Wt rfl rfl ?_ | refine Wf rfl rfl ?_ | refine Wi rfl rfl (fun h => ?_) (fun h => ?_) | refine Wx hF hτ rfl rfl rfl rfl rfl rfl rfl rfl (fun h => ?_) (fun h => ?_) | apply Wn)
  · refine AL.op rfl (OpTo.callX hF rfl rfl rfl rfl rfl rfl rfl (f285 hF hro l c (by omega)) rfl rfl rfl rfl rfl) ?_
    refine Wv hF hτ rfl ?_
    (repeat' first | apply Wq | refine Ws hF hτ rfl ?_ | apply Wb | apply Wl | apply Wk | apply We | apply Wc | apply Wd | refine Wt rfl rfl ?_ | refine Wf rfl rfl ?_ | refine Wi rfl rfl (fun h => ?_) (fun h => ?_) | refine Wx hF hτ rfl rfl rfl rfl rfl rfl rfl rfl (fun h => ?_) (fun h => ?_) | apply Wn)
    refine AW.ret ⟨.inr rfl, rfl, ?_⟩
    (repeat' first | exact Sub.nil | refine Sub.put rfl ?_ | refine Sub.put ?_ ?_)
  · exfalso
    have h' : decide (IntKind.wrap .i64 ((l.length : Int) - ((0 : Nat) : Int)) ≤ 12) = false := h
    rw [hw] at h'
    have := of_decide_eq_false h'
    omega
theorem f272 (hF : Wide F) (hro : F.round = none) (l : List Int) (c : Int → Int → Int) (hl : l.length ≤ 12) :
    FnX Tryz.prog F 272 2 [(.s 0, .row true 3 (l.map (fun n : Int => [di n]))), (.s 1, .raw (PFn Tryz.prog F (CmpS (fun x : Int => Iv64 x) c)))] (.tu []) [(.s 0, .row true 3 ((isort c l).map (fun n : Int => [di n])))] := by
  refine FnX.of_AW hF hro hτ (K := [0]) Tryz.func272 rfl (by decide) rfl (Nat.le_of_ble_eq_true rfl) rfl rfl ?_
  obtain ⟨b, hb⟩ := f75 hF hro (F := F) (l.map (fun n : Int => [di n])).length (by simp; omega)
  have hb' : FnV Tryz.prog F 75 [.d (.sc (.int .u64 (IntKind.wrap .u64 ((l.map (fun n : Int => [di n])).length : Int))))] (Iv64 b) := by
    rw [wrap_u64b _ (by simp; omega)]; exact hb
  have hq := f281 hF hro l c hl b
  rw [show (l.length : Int) = ((l.map (fun n : Int => [di n])).length : Nat) by simp] at hq
  (repeat' first | apply Wq | refine Ws hF hτ rfl ?_ | apply Wb | apply Wl | apply Wk | apply We | apply Wc | apply Wd | refine Wt rfl rfl ?_ | refine Wf rfl rfl ?_ | refine Wi rfl rfl (fun h => ?_) (fun h => ?_) | refine Wx hF hτ rfl rfl rfl rfl rfl rfl rfl rfl (fun h => ?_) (fun h => ?_) | apply Wn)
  refine AL.opM (OpM.call hF rfl rfl rfl rfl (hb') rfl rfl rfl) rfl rfl ?_
  refine Wv hF hτ rfl ?_
  refine AL.op rfl (OpTo.callX hF rfl rfl rfl rfl rfl rfl rfl (hq) rfl rfl rfl rfl rfl) ?_
  refine Wv hF hτ rfl ?_
  (repeat' first | apply Wq | refine Ws hF hτ rfl ?_ | apply Wb | apply Wl | apply Wk | apply We | apply Wc | apply Wd | refine Wt rfl rfl ?_ | refine Wf rfl rfl ?_ | refine Wi rfl rfl (fun h => ?_) (fun h => ?_) | refine Wx hF hτ rfl rfl rfl rfl rfl rfl rfl rfl (fun h => ?_) (fun h => ?_) | apply Wn)
  refine ⟨.inl rfl, rfl, ?_⟩
  (repeat' first | exact Sub.nil | refine Sub.put rfl ?_ | refine Sub.put ?_ ?_)
end Go.Proofs.VL
namespace Go.Proofs.VL
open Go Go.RowKit
variable {F : Fence}
theorem f97 (hF : Wide F) (hro : F.round = none) (l : List Stowed) (hl : l.length ≤ 1000) : FnV Tryz.prog F 97 [Vs (l.map Stowed.enc)] (.row true 88 ((l.map (·.slot)).map Slot.enc)) := by
  refine FnV.of_AW hF hro hτ Tryz.func97 rfl (by decide) rfl (by simp [Tryz.f97]) ?_
  (repeat' first | apply Wq | refine Ws hF hτ rfl ?_ | apply Wb | apply Wl | apply Wk | apply We | apply Wc | apply Wd | refine Wt rfl rfl ?_ | refine Wf rfl rfl ?_ | refine Wi rfl rfl (fun h => ?_) (fun h => ?_) | refine Wx hF hτ rfl rfl rfl rfl rfl rfl rfl rfl (fun h => ?_) (fun h => ?_) | apply Wn)
  refine AW.range hF rfl rfl rfl rfl rfl rfl rfl rfl rfl (l.map Stowed.enc).length (by simp [lim]; omega) (fun k => [(.s 6, Vs (l.map Stowed.enc)), (.s 3, .row true 88 (((l.take k).map (·.slot)).map Slot.enc))]) ?_ ?_ (fun k hk => ?_) ?_
  · exact fun k => rfl
  · (repeat' first | exact Sub.nil | refine Sub.put rfl ?_ | refine Sub.put ?_ ?_)
  · obtain ⟨x, hx⟩ := get_ex hk
    have hk' : k < l.length := by simpa using hk
    (repeat' first | apply Wq | refine Ws hF hτ rfl ?_ | apply Wb | apply Wl | apply Wk | apply We | apply Wc | apply Wd | refine Wt rfl rfl ?_ | refine Wf rfl rfl ?_ | refine Wi rfl rfl (fun h => ?_) (fun h => ?_) | refine Wx hF hτ rfl rfl rfl rfl rfl rfl rfl rfl (fun h => ?_) (fun h => ?_) | apply Wn)
    refine AL.opM (OpM.indexD hF rfl (hτ _ _ rfl) rfl (hτ _ _ rfl) rfl (i := k) rfl ( get_enc Stowed.enc hx) rfl rfl rfl) rfl rfl ?_
    refine Wv hF hτ rfl ?_
    (repeat' first | apply Wq | refine Ws hF hτ rfl ?_ | apply Wb | apply Wl | apply Wk | apply We | apply Wc | apply Wd | refine Wt rfl rfl ?_ | refine Wf rfl rfl ?_ | refine Wi rfl rfl (fun h => ?_) (fun h => ?_) | refine Wx hF hτ rfl rfl rfl rfl rfl rfl rfl rfl (fun h => ?_) (fun h => ?_) | apply Wn)
    refine AL.opM (OpM.buildSlice hF rfl (hτ _ _ rfl) rfl (hτ _ _ rfl) rfl rfl rfl (by decide) (by decide) rfl rfl) rfl rfl ?_
    refine AL.op rfl (OpTo.append hF rfl rfl rfl rfl (hτ _ _ rfl) rfl (hτ _ _ rfl) rfl rfl rfl rfl (by intro cs h; cases h with | head => rfl | tail _ h => cases h) (by simp [Base.xs, chunks, lim]; omega) (by simp [Base.xs, chunks, lim]; omega) rfl rfl rfl) ?_
    refine Wv hF hτ rfl ?_
    (repeat' first | apply Wq | refine Ws hF hτ rfl ?_ | apply Wb | apply Wl | apply Wk | apply We | apply Wc | apply Wd | refine Wt rfl rfl ?_ | refine Wf rfl rfl ?_ | refine Wi rfl rfl (fun h => ?_) (fun h => ?_) | refine Wx hF hτ rfl rfl rfl rfl rfl rfl rfl rfl (fun h => ?_) (fun h => ?_) | apply Wn)
    (repeat' first | exact Sub.nil | refine Sub.put rfl ?_ | refine Sub.put ?_ ?_)
    refine (congrArg (fun z => some (V.row true 88 z)) ?_)
    simp [take_snoc hx, chunks]
    rfl
  · (repeat' first | apply Wq | refine Ws hF hτ rfl ?_ | apply Wb | apply Wl | apply Wk | apply We | apply Wc | apply Wd | refine Wt rfl rfl ?_ | refine Wf rfl rfl ?_ | refine Wi rfl rfl (fun h => ?_) (fun h => ?_) | refine Wx hF hτ rfl rfl rfl rfl rfl rfl rfl rfl (fun h => ?_) (fun h => ?_) | apply Wn)
    refine AW.ret ⟨.inr rfl, ?_⟩
    refine (congrArg (fun z => some (V.row true 88 z)) ?_)
    simp
def heightOf (boxes : List Box) (half col : Int) : List Stowed → Int
  | [] => 0
  | x :: l => (if x.slot.col == col && (x.slot.half == half || x.slot.half == 0) then (match boxOf boxes x.box with | some b => b.tall | none => 0) else 0) + heightOf boxes half col l
theorem heightOf_snoc (boxes : List Box) (half col : Int) (x : Stowed) (l : List Stowed) : heightOf boxes half col (l ++ [x]) = heightOf boxes half col l + (if x.slot.col == col && (x.slot.half == half || x.slot.half == 0) then (match boxOf boxes x.box with | some b => b.tall | none => 0) else 0) := by
  induction l with
  | nil => simp [heightOf]
  | cons y l ih => simp only [List.cons_append, heightOf, ih]; omega
theorem heightOf_bd (boxes : List Box) (half col : Int) (l : List Stowed) : 0 ≤ heightOf boxes half col l ∧ heightOf boxes half col l ≤ 3000 * l.length := by
  induction l with
  | nil => simp [heightOf]
  | cons y l ih =>
    simp only [heightOf, List.length_cons]
    have : 0 ≤ (if y.slot.col == col && (y.slot.half == half || y.slot.half == 0) then (match boxOf boxes y.box with | some b => b.tall | none => 0) else 0) ∧ (if y.slot.col == col && (y.slot.half == half || y.slot.half == 0) then (match boxOf boxes y.box with | some b => b.tall | none => 0) else 0) ≤ 3000 := by
      split
      · split
        · rename_i b _; unfold Box.tall; split <;> omega
        · omega
      · omega
    omega
theorem f180 (hF : Wide F) (hro : F.round = none) (boxes : List Box) (l : List Stowed) (col half : Int) (hb : boxes.length ≤ 1000) (hl : l.length ≤ 1000) :
    FnV Tryz.prog F 180 [Vs (boxes.map Box.enc), Vs (l.map Stowed.enc), Iv64 col, Uv half] (Iv64 (heightOf boxes half col l)) := by
  refine FnV.of_AW hF hro hτ Tryz.func180 rfl (by decide) rfl (by simp [Tryz.f180]) ?_
  (repeat' first | apply Wq | refine Ws hF hτ rfl ?_ | apply Wb | apply Wl | apply Wk | apply We | apply Wc | apply Wd | refine Wt rfl rfl ?_ | refine Wf rfl rfl ?_ | refine Wi rfl rfl (fun h => ?_) (fun h => ?_) | refine Wx hF hτ rfl rfl rfl rfl rfl rfl rfl rfl (fun h => ?_) (fun h => ?_) | apply Wn)
  refine AW.range hF rfl rfl rfl rfl rfl rfl rfl rfl rfl (l.map Stowed.enc).length (by simp [lim]; omega) (fun k => [(.s 14, Vs (l.map Stowed.enc)), (.s 0, Vs (boxes.map Box.enc)), (.s 2, Iv64 col), (.s 3, Uv half), (.s 9, Iv64 (heightOf boxes half col (l.take k)))]) ?_ ?_ (fun k hk => ?_) ?_
  · exact fun k => rfl
  · (repeat' first | exact Sub.nil | refine Sub.put rfl ?_ | refine Sub.put ?_ ?_)
  · obtain ⟨x, hx⟩ := get_ex hk
    have hk' : k < l.length := by simpa using hk
    have hb1 := heightOf_bd boxes half col (l.take k)
    have hlen : (l.take k).length = k := by simp; omega
    rw [hlen] at hb1
    (repeat' first | apply Wq | refine Ws hF hτ rfl ?_ | apply Wb | apply Wl | apply Wk | apply We | apply Wc | apply Wd | refine Wt rfl rfl ?_ | refine Wf rfl rfl ?_ | refine Wi rfl rfl (fun h => ?_) (fun h => ?_) | refine Wx hF hτ rfl rfl rfl rfl rfl rfl rfl rfl (fun h => ?_) (fun h => ?_) | apply Wn)
    refine AL.opM (OpM.indexD hF rfl (hτ _ _ rfl) rfl (hτ _ _ rfl) rfl (i := k) rfl ( get_enc Stowed.enc hx) rfl rfl rfl) rfl rfl ?_
    refine Wv hF hτ rfl ?_
    have hs := heightOf_snoc boxes half col x (l.take k)
    rw [← take_snoc hx] at hs
    have hc := f98 hF hro boxes x.box hb
    obtain ⟨b, hbe⟩ : ∃ b, b = (boxOf boxes x.box).getD box0 := ⟨_, rfl⟩
    obtain ⟨ok, hok⟩ : ∃ ok, ok = (boxOf boxes x.box).isSome := ⟨_, rfl⟩
    rw [← hbe, ← hok] at hc
    have fin1 : (x.slot.col == col && (x.slot.half == half || x.slot.half == 0)) = true → ok = true → IntKind.wrap .i64 (heightOf boxes half col (l.take k) + b.tall) = heightOf boxes half col (l.take (k + 1)) := by
      intro h1 h2
      rw [hs, if_pos h1]
      have : boxOf boxes x.box = some b := by
        cases hbo : boxOf boxes x.box with
        | none => rw [hbo] at hok; subst hok; cases h2
        | some c => rw [hbo] at hbe; simp at hbe; rw [hbe]
      rw [this]
      have : 0 ≤ b.tall ∧ b.tall ≤ 3000 := by unfold Box.tall; split <;> omega
      exact wrap_id (by omega) (by omega)
    have fin2 : (x.slot.col == col && (x.slot.half == half || x.slot.half == 0)) = true → ok = false → heightOf boxes half col (l.take k) = heightOf boxes half col (l.take (k + 1)) := by
      intro h1 h2
      rw [hs, if_pos h1]
      have : boxOf boxes x.box = none := by
        cases hbo : boxOf boxes x.box with
        | none => rfl
        | some c => rw [hbo] at hok; subst hok; cases h2
      rw [this]; simp
    have fin3 : (x.slot.col == col && (x.slot.half == half || x.slot.half == 0)) = false → heightOf boxes half col (l.take k) = heightOf boxes half col (l.take (k + 1)) := by
      intro h1
      rw [hs, if_neg (by rw [h1]; decide)]; simp
    clear hs hbe hok
    (repeat' first | apply Wq | refine Ws hF hτ rfl ?_ | apply Wb | apply Wl | apply Wk | apply We | apply Wc | apply Wd | refine Wt rfl rfl ?_ | refine Wf rfl rfl ?_ | refine Wi rfl rfl (fun h => ?_) (fun h => ?_) | refine Wx hF hτ rfl rfl rfl rfl rfl rfl rfl rfl (fun h => ?_) (fun h => ?_) | apply Wn)
    · refine AL.opM (OpM.call hF rfl rfl rfl rfl (hc) rfl rfl rfl) rfl rfl ?_
      refine Wv hF hτ rfl ?_
      (repeat' first | apply Wq | refine Ws hF hτ rfl ?_ | apply Wb | apply Wl | apply Wk | apply We | apply Wc | apply Wd | refine Wt rfl rfl ?_ | refine Wf rfl rfl ?_ | refine Wi rfl rfl (fun h => ?_) (fun h => ?_) | refine Wx hF hτ rfl rfl rfl rfl rfl rfl rfl rfl (fun h => ?_) (fun h => ?_) | apply Wn)
      · refine AL.opM (OpM.call hF rfl rfl rfl rfl (f232 hF hro b) rfl rfl rfl) rfl rfl ?_
        refine Wv hF hτ rfl ?_
        (repeat' first | apply Wq | refine Ws hF hτ rfl ?_ | apply Wb | apply Wl | apply Wk | apply We | apply Wc | apply Wd | refine Wt rfl rfl ?_ | refine Wf rfl rfl ?_ | refine Wi rfl rfl (fun h => ?_) (fun h => ?_) | refine Wx hF hτ rfl rfl rfl rfl rfl rfl rfl rfl (fun h => ?_) (fun h => ?_) | apply Wn)
        (repeat' first | exact Sub.nil | refine Sub.put rfl ?_ | refine Sub.put ?_ ?_)
        exact congrArg (fun z => some (Iv64 z)) (fin1 (by simp [*]) (by assumption))
      · (repeat' first | exact Sub.nil | refine Sub.put rfl ?_ | refine Sub.put ?_ ?_)
        exact congrArg (fun z => some (Iv64 z)) (fin2 (by simp [*]) (by assumption))
    · refine AL.opM (OpM.call hF rfl rfl rfl rfl (hc) rfl rfl rfl) rfl rfl ?_
      refine Wv hF hτ rfl ?_
      (repeat' first | apply Wq | refine Ws hF hτ rfl ?_ | apply Wb | apply Wl | apply Wk | apply We | apply Wc | apply Wd | refine Wt rfl rfl ?_ | refine Wf rfl rfl ?_ | refine Wi rfl rfl (fun h => ?_) (fun h => ?_) | refine Wx hF hτ rfl rfl rfl rfl rfl rfl rfl rfl (fun h => ?_) (fun h => ?_) | apply Wn)
      · refine AL.opM (OpM.call hF rfl rfl rfl rfl (f232 hF hro b) rfl rfl rfl) rfl rfl ?_
        refine Wv hF hτ rfl ?_
        (repeat' first | apply Wq | refine Ws hF hτ rfl ?_ | apply Wb | apply Wl | apply Wk | apply We | apply Wc | apply Wd | refine Wt rfl rfl ?_ | refine Wf rfl rfl ?_ | refine Wi rfl rfl (fun h => ?_) (fun h => ?_) | refine Wx hF hτ rfl rfl rfl rfl rfl rfl rfl rfl (fun h => ?_) (fun h => ?_) | apply Wn)
        (repeat' first | exact Sub.nil | refine Sub.put rfl ?_ | refine Sub.put ?_ ?_)
        exact congrArg (fun z => some (Iv64 z)) (fin1 (by simp [*]) (by assumption))
      · (repeat' first | exact Sub.nil | refine Sub.put rfl ?_ | refine Sub.put ?_ ?_)
        exact congrArg (fun z => some (Iv64 z)) (fin2 (by simp [*]) (by assumption))
    · (repeat' first | exact Sub.nil | refine Sub.put rfl ?_ | refine Sub.put ?_ ?_)
      exact congrArg (fun z => some (Iv64 z)) (fin3 (by simp [*]))
    · (repeat' first | exact Sub.nil | refine Sub.put rfl ?_ | refine Sub.put ?_ ?_)
      exact congrArg (fun z => some (Iv64 z)) (fin3 (by simp [*]))
  · (repeat' first | apply Wq | refine Ws hF hτ rfl ?_ | apply Wb | apply Wl | apply Wk | apply We | apply Wc | apply Wd | refine Wt rfl rfl ?_ | refine Wf rfl rfl ?_ | refine Wi rfl rfl (fun h => ?_) (fun h => ?_) | refine Wx hF hτ rfl rfl rfl rfl rfl rfl rfl rfl (fun h => ?_) (fun h => ?_) | apply Wn)
    refine AW.ret ⟨.inr rfl, congrArg (fun z => some (Iv64 z)) ?_⟩
    simp
end Go.Proofs.VL
