import Derived.Test.YtndffogfaocchaaGreatW09
import Derived.Test.YtndffogfaocchaaGreatW11
import Derived.Test.YtndffogfaocchaaGreatW14
import Derived.Test.YtndffogfaocchaaGreatW18
set_option linter.unusedVariables false
set_option linter.unusedSimpArgs false
set_option linter.unusedSectionVars false
namespace Go.Proofs.VL
open Go Go.RowKit
variable {F : Fence}
def minI (a b : Int) : Int := if b < a then b else a
def outAt (n40 n20 t h : Int) : Nat → Int → Int → Int
  | 0, least, _ => least
  | m + 1, least, whole => if whole ≤ minI n40 (t * (h / 2)) then outAt n40 n20 t h m (minI least (n40 - whole + n20 - minI n20 (t * h - 2 * whole))) (whole + 1) else least
def outOf (n40 n20 t h : Int) : Int := outAt n40 n20 t h (n40.toNat + 2) (n40 + n20) 0
theorem f120 (hF : Wide F) (hro : F.round = none) (c : Count) (t q : Nat) (h1 : 0 ≤ c.n40) (h2 : c.n40 ≤ 10000) (h3 : 0 ≤ c.n20) (h4 : c.n20 ≤ 10000) (ht : t ≤ 1000) (hh : q ≤ 10000) :
    FnV Tryz.prog F 120 [Vd c.enc, Iv64 t, Iv64 q] (Iv64 (outOf c.n40 c.n20 t q)) := by
  have hth : ((t * q : Nat) : Int) ≤ 10000000 ∧ ((t * (q / 2) : Nat) : Int) ≤ 10000000 := by
    have a := Nat.mul_le_mul ht hh
    have b := Nat.mul_le_mul ht (Nat.le_trans (Nat.div_le_self q 2) hh)
    omega
  have e1 : (t : Int) * (q : Int) = ((t * q : Nat) : Int) := by simp
  have e2 : (t : Int) * ((q : Int) / 2) = ((t * (q / 2) : Nat) : Int) := by simp
  have hq : IntKind.wrap .i64 ((q : Int).tdiv 2) = (q : Int) / 2 := by
    rw [Int.tdiv_eq_ediv_of_nonneg (by omega), wrap_id (by omega) (by omega)]
  have hm1 : IntKind.wrap .i64 ((t : Int) * (IntKind.wrap .i64 ((q : Int).tdiv 2))) = (t : Int) * ((q : Int) / 2) := by
    rw [hq, e2, wrap_id (by omega) (by omega)]
  have hm2 : IntKind.wrap .i64 ((t : Int) * (q : Int)) = (t : Int) * (q : Int) := by
    rw [e1, wrap_id (by omega) (by omega)]
  refine FnV.of_AW hF hro hτ Tryz.func120 rfl (by decide) rfl (by simp [Tryz.f120]) ?_
  (repeat' first | apply Wq | refine Ws hF hτ rfl ?_ | apply Wb | apply Wl | apply Wk | apply We | apply Wc | apply Wd | refine Wt rfl rfl ?_ | refine Wf rfl rfl ?_ | refine Wi rfl rfl (fun h => ?_) (fun h => ?_) | refine Wx hF hτ rfl rfl rfl rfl rfl rfl rfl rfl (fun h => ?_) (fun h => ?_) | apply Wn)
  refine AW.loopI (X := { p : Int × Int // 0 ≤ p.1 ∧ p.1 ≤ c.n40 + 1 ∧ outAt c.n40 c.n20 t q (c.n40 + 2 - p.1).toNat p.2 p.1 = outOf c.n40 c.n20 t q }) (fun p => [(.s 3, .bx 148 (c.enc.map .d)), (.s 1, Iv64 t), (.s 2, Iv64 q), (.s 7, Iv64 p.1.2), (.s 8, Iv64 p.1.1)]) (fun p => (c.n40 + 2 - p.1.1).toNat) (fun p => rfl) ⟨(0, c.n40 + c.n20), Int.le_refl _, by show (0 : Int) ≤ c.n40 + 1; omega, by
      show outAt c.n40 c.n20 t q (c.n40 + 2 - 0).toNat (c.n40 + c.n20) 0 = _
      rw [outOf, show (c.n40 + 2 - 0).toNat = c.n40.toNat + 2 by omega]⟩ ?_ ?_
  · (repeat' first | exact Sub.nil | refine Sub.put rfl ?_ | refine Sub.put ?_ ?_)
    exact congrArg (fun z => some (Iv64 z)) (wrap_id (by omega) (by omega))
  rintro ⟨⟨whole, least⟩, hp1, hp2, hp3⟩
  simp only at hp1 hp2 hp3
  have hunf : (c.n40 + 2 - whole).toNat = (c.n40 + 2 - (whole + 1)).toNat + 1 := by omega
  rw [hunf] at hp3
  (repeat' first | apply Wq | refine Ws hF hτ rfl ?_ | apply Wb | apply Wl | apply Wk | apply We | apply Wc | apply Wd | refine Wt rfl rfl ?_ | refine Wf rfl rfl ?_ | refine Wi rfl rfl (fun h => ?_) (fun h => ?_) | refine Wx hF hτ rfl rfl rfl rfl rfl rfl rfl rfl (fun h => ?_) (fun h => ?_) | apply Wn)
  refine AL.opM (OpM.quo hF rfl rfl rfl (by decide) rfl rfl) rfl rfl ?_
  refine Wv hF hτ rfl ?_
  refine AL.opM (OpM.eq (v' := Iv64 (minI c.n40 (t * (q / 2)))) (congrArg (fun z : Int => Iv64 (minI c.n40 z)) hm1) (OpM.min hF rfl rfl rfl rfl rfl rfl rfl)) rfl rfl ?_
  refine Wv hF hτ rfl ?_
  (repeat' first | apply Wq | refine Ws hF hτ rfl ?_ | apply Wb | apply Wl | apply Wk | apply We | apply Wc | apply Wd | refine Wt rfl rfl ?_ | refine Wf rfl rfl ?_ | refine Wi rfl rfl (fun h => ?_) (fun h => ?_) | refine Wx hF hτ rfl rfl rfl rfl rfl rfl rfl rfl (fun h => ?_) (fun h => ?_) | apply Wn)
  · have hle : whole ≤ minI c.n40 (t * (q / 2)) := by simpa using h
    have hwn : whole ≤ c.n40 := by unfold minI at hle; split at hle <;> omega
    have hms : IntKind.wrap .i64 (IntKind.wrap .i64 ((t : Int) * (q : Int)) - IntKind.wrap .i64 (2 * whole)) = (t : Int) * q - 2 * whole := by
      rw [hm2, wrap_id (x := 2 * whole) (by omega) (by omega), e1, wrap_id (by omega) (by omega)]
    refine AL.opM (OpM.eq (v' := Iv64 (minI c.n20 (t * q - 2 * whole))) (congrArg (fun z : Int => Iv64 (minI c.n20 z)) hms) (OpM.min hF rfl rfl rfl rfl rfl rfl rfl)) rfl rfl ?_
    refine Wv hF hτ rfl ?_
    (repeat' first | apply Wq | refine Ws hF hτ rfl ?_ | apply Wb | apply Wl | apply Wk | apply We | apply Wc | apply Wd | refine Wt rfl rfl ?_ | refine Wf rfl rfl ?_ | refine Wi rfl rfl (fun h => ?_) (fun h => ?_) | refine Wx hF hτ rfl rfl rfl rfl rfl rfl rfl rfl (fun h => ?_) (fun h => ?_) | apply Wn)
    have hms2 : IntKind.wrap .i64 (IntKind.wrap .i64 (IntKind.wrap .i64 (c.n40 - whole) + c.n20) - minI c.n20 (t * q - 2 * whole)) = c.n40 - whole + c.n20 - minI c.n20 (t * q - 2 * whole) := by
      have hb : -10000000 ≤ minI c.n20 (t * q - 2 * whole) ∧ minI c.n20 (t * q - 2 * whole) ≤ 10000 := by
        rw [e1]; unfold minI; split <;> omega
      rw [wrap_id (x := c.n40 - whole) (by omega) (by omega), wrap_id (x := c.n40 - whole + c.n20) (by omega) (by omega), wrap_id (by omega) (by omega)]
    refine AL.opM (OpM.eq (v' := Iv64 (minI least (c.n40 - whole + c.n20 - minI c.n20 (t * q - 2 * whole)))) (congrArg (fun z : Int => Iv64 (minI least z)) hms2) (OpM.min hF rfl rfl rfl rfl rfl rfl rfl)) rfl rfl ?_
    refine Wv hF hτ rfl ?_
    (repeat' first | apply Wq | refine Ws hF hτ rfl ?_ | apply Wb | apply Wl | apply Wk | apply We | apply Wc | apply Wd | refine Wt rfl rfl ?_ | refine Wf rfl rfl ?_ | refine Wi rfl rfl (fun h => ?_) (fun h => ?_) | refine Wx hF hτ rfl rfl rfl rfl rfl rfl rfl rfl (fun h => ?_) (fun h => ?_) | apply Wn)
    refine ⟨⟨(whole + 1, minI least (c.n40 - whole + c.n20 - minI c.n20 (t * q - 2 * whole))), by simp only; omega, by simp only; omega, ?_⟩, by simp only; omega, ?_⟩
    · simp only [outAt, if_pos hle] at hp3
      exact hp3
    · (repeat' first | exact Sub.nil | refine Sub.put rfl ?_ | refine Sub.put ?_ ?_)
      exact congrArg (fun z => some (Iv64 z)) (wrap_id (x := whole + 1) (by omega) (by omega))
  · have hgt : ¬ whole ≤ minI c.n40 (t * (q / 2)) := by simpa using h
    refine AW.ret ⟨.inr rfl, congrArg (fun z => some (Iv64 z)) ?_⟩
    simp only [outAt, if_neg hgt] at hp3
    exact hp3
abbrev w64 (x : Int) : Int := IntKind.wrap .i64 x
def fillStep (left : List Int) (n : Int) (q : Nat) (next : List Int) (all : Nat) : List Int :=
  if decide (next.getD all 0 < 0) || decide (w64 (left.getD (all - q) 0 + n) < next.getD all 0) then next.set all (w64 (left.getD (all - q) 0 + n)) else next
def fillIn (left : List Int) (n : Int) (q : Nat) : Nat → List Int → Nat → List Int
  | 0, next, _ => next
  | m + 1, next, all => fillIn left n q m (fillStep left n q next all) (all + 1)
def fillOut (c : Count) (t H : Nat) (left : List Int) : Nat → List Int → Nat → List Int
  | 0, next, _ => next
  | m + 1, next, q => if outOf c.n40 c.n20 t q == 0 then fillIn left (outOf c.n40 c.n20 t q) q (H + 1 - q) next q else fillOut c t H left m (fillIn left (outOf c.n40 c.n20 t q) q (H + 1 - q) next q) (q + 1)
def fill (t H : Nat) (left : List Int) (c : Count) : List Int := fillOut c t H left (H + 1) (List.replicate (H + 1) (-1)) 0
theorem fillStep_len (left : List Int) (n : Int) (q : Nat) (next : List Int) (all : Nat) : (fillStep left n q next all).length = next.length := by unfold fillStep; split <;> simp
theorem fillIn_len (left : List Int) (n : Int) (q : Nat) : ∀ (m : Nat) (next : List Int) (all : Nat), (fillIn left n q m next all).length = next.length
  | 0, _, _ => rfl
  | m + 1, next, all => by rw [fillIn, fillIn_len, fillStep_len]
theorem fillOut_len (c : Count) (t H : Nat) (left : List Int) : ∀ (m : Nat) (next : List Int) (q : Nat), (fillOut c t H left m next q).length = next.length
  | 0, _, _ => rfl
  | m + 1, next, q => by
    rw [fillOut]
    split
    · exact fillIn_len ..
    · rw [fillOut_len, fillIn_len]
theorem fillRow_len (t H : Nat) (left : List Int) (c : Count) : (fill t H left c).length = H + 1 := by rw [fill, fillOut_len]; simp
structure Count.small (c : Count) : Prop where
  a0 : 0 ≤ c.n40
  a1 : c.n40 ≤ 10000
  b0 : 0 ≤ c.n20
  b1 : c.n20 ≤ 10000
theorem f118 (hF : Wide F) (hro : F.round = none) (c : Count) (t H : Nat) (left : List Int) (hc : c.small) (ht : t ≤ 1000) (hH : H ≤ 10000) (hl : left.length = H + 1) :
    FnX Tryz.prog F 118 4 [(.s 0, Vd c.enc), (.s 1, .rp [di H] 0), (.s 2, .rp [di t] 0), (.s 3, .bx 63 [.ref (.c 3 0)]), (.c 3 0, .row true 3 (ints left))] (.tu []) [(.s 3, .bx 63 [.ref (.c 3 0)]), (.c 3 0, .row true 3 (ints (fill t H left c)))] := by
  refine FnX.of_AW hF hro hτ (K := [3]) Tryz.func118 rfl (by decide) rfl (by simp [Tryz.f118]) rfl rfl ?_
  (repeat' first | apply Wq | refine Ws hF hτ rfl ?_ | apply Wb | apply Wl | apply Wk | apply We | apply Wc | apply Wd | refine Wt rfl rfl ?_ | refine Wf rfl rfl ?_ | refine Wi rfl rfl (fun h => ?_) (fun h => ?_) | refine Wx hF hτ rfl rfl rfl rfl rfl rfl rfl rfl (fun h => ?_) (fun h => ?_) | apply Wn)
  have hw1 : w64 ((H : Int) + 1) = ((H + 1 : Nat) : Int) := by rw [w64, wrap_id (by omega) (by omega)]; omega
  refine AL.opM (OpM.buildSlice hF rfl (hτ _ _ rfl) rfl (hτ _ _ rfl) rfl rfl rfl (by decide) (by decide) rfl rfl) rfl rfl ?_
  refine Wv hF hτ rfl ?_
  refine AL.ent (Ent.frzs (ls := [.s 10]) rfl) ?_
  refine Wv hF hτ rfl ?_
  refine AL.opM (OpM.call hF rfl rfl rfl rfl (r := .row true 3 (ints (List.replicate (H + 1) (-1)))) ?_ rfl rfl rfl) rfl rfl ?_
  · show FnV Tryz.prog F 119 [Vs (ints [-1]), Iv64 (w64 ((H : Int) + 1))] _
    rw [hw1]
    exact f119 hF hro (-1) (H + 1) (by omega) (by omega)
  refine Wv hF hτ rfl ?_
  (repeat' first | apply Wq | refine Ws hF hτ rfl ?_ | apply Wb | apply Wl | apply Wk | apply We | apply Wc | apply Wd | refine Wt rfl rfl ?_ | refine Wf rfl rfl ?_ | refine Wi rfl rfl (fun h => ?_) (fun h => ?_) | refine Wx hF hτ rfl rfl rfl rfl rfl rfl rfl rfl (fun h => ?_) (fun h => ?_) | apply Wn)
  refine AW.loopI (X := { p : Nat × List Int // p.1 ≤ H + 1 ∧ p.2.length = H + 1 ∧ fillOut c t H left (H + 1 - p.1) p.2 p.1 = fill t H left c }) (fun p => [(.s 1, .rp [di H] 0), (.s 2, .rp [di t] 0), (.s 3, .bx 63 [.ref (.c 3 0)]), (.c 3 0, .row true 3 (ints left)), (.s 4, .bx 148 (c.enc.map .d)), (.s 5, .row true 3 (ints p.1.2)), (.s 6, Iv64 p.1.1)]) (fun p => H + 1 - p.1.1) (fun p => rfl) ⟨(0, List.replicate (H + 1) (-1)), Nat.zero_le _, by simp, rfl⟩ ?_ ?_
  · (repeat' first | exact Sub.nil | refine Sub.put rfl ?_ | refine Sub.put ?_ ?_)
  rintro ⟨⟨q, next⟩, hq, hnl, hrest⟩
  simp only at hq hnl hrest
  (repeat' first | apply Wq | refine Ws hF hτ rfl ?_ | apply Wb | apply Wl | apply Wk | apply We | apply Wc | apply Wd | refine Wt rfl rfl ?_ | refine Wf rfl rfl ?_ | refine Wi rfl rfl (fun h => ?_) (fun h => ?_) | refine Wx hF hτ rfl rfl rfl rfl rfl rfl rfl rfl (fun h => ?_) (fun h => ?_) | apply Wn)
  · have hqH : q ≤ H := by
      have h' : decide ((q : Int) ≤ (H : Int)) = true := h
      have := of_decide_eq_true h'; omega
    have hunf : H + 1 - q = (H + 1 - (q + 1)) + 1 := by omega
    rw [hunf, fillOut] at hrest
    have hcall := f120 hF hro c t q hc.a0 hc.a1 hc.b0 hc.b1 ht (by omega)
    generalize outOf c.n40 c.n20 t q = n at hcall hrest
    refine AL.opM (OpM.call hF rfl rfl rfl rfl (hcall) rfl rfl rfl) rfl rfl ?_
    refine Wv hF hτ rfl ?_
    (repeat' first | apply Wq | refine Ws hF hτ rfl ?_ | apply Wb | apply Wl | apply Wk | apply We | apply Wc | apply Wd | refine Wt rfl rfl ?_ | refine Wf rfl rfl ?_ | refine Wi rfl rfl (fun h => ?_) (fun h => ?_) | refine Wx hF hτ rfl rfl rfl rfl rfl rfl rfl rfl (fun h => ?_) (fun h => ?_) | apply Wn)
    refine AW.loopI (X := { p : Nat × List Int // q ≤ p.1 ∧ p.1 ≤ H + 1 ∧ p.2.length = H + 1 ∧ fillIn left n q (H + 1 - p.1) p.2 p.1 = fillIn left n q (H + 1 - q) next q }) (fun p => [(.s 1, .rp [di H] 0), (.s 2, .rp [di t] 0), (.s 3, .bx 63 [.ref (.c 3 0)]), (.c 3 0, .row true 3 (ints left)), (.s 4, .bx 148 (c.enc.map .d)), (.s 5, .row true 3 (ints p.1.2)), (.s 6, Iv64 q), (.s 7, Iv64 n), (.s 8, Iv64 p.1.1)]) (fun p => H + 1 - p.1.1) (fun p => rfl) ⟨(q, next), Nat.le_refl _, hq, hnl, rfl⟩ ?_ ?_
    · (repeat' first | exact Sub.nil | refine Sub.put rfl ?_ | refine Sub.put ?_ ?_)
    rintro ⟨⟨all, nx⟩, ha1, ha2, ha3, ha4⟩
    simp only at ha1 ha2 ha3 ha4
    (repeat' first | apply Wq | refine Ws hF hτ rfl ?_ | apply Wb | apply Wl | apply Wk | apply We | apply Wc | apply Wd | refine Wt rfl rfl ?_ | refine Wf rfl rfl ?_ | refine Wi rfl rfl (fun h => ?_) (fun h => ?_) | refine Wx hF hτ rfl rfl rfl rfl rfl rfl rfl rfl (fun h => ?_) (fun h => ?_) | apply Wn)
    · have haH : all ≤ H := by
        rename_i h
        have h' : decide ((all : Int) ≤ (H : Int)) = true := h
        have := of_decide_eq_true h'; omega
      have hsub : w64 ((all : Int) - (q : Int)) = ((all - q : Nat) : Int) := by rw [w64, wrap_id (by omega) (by omega)]; omega
      have hunf2 : H + 1 - all = (H + 1 - (all + 1)) + 1 := by omega
      rw [hunf2, fillIn] at ha4
      obtain ⟨a, hla⟩ : ∃ a, left[all - q]? = some a := ⟨_, List.getElem?_eq_getElem (by omega)⟩
      obtain ⟨b, hnb⟩ : ∃ b, nx[all]? = some b := ⟨_, List.getElem?_eq_getElem (by omega)⟩
      have hga : left.getD (all - q) 0 = a := by rw [List.getD_eq_getElem?_getD, hla]; rfl
      have hgb : nx.getD all 0 = b := by rw [List.getD_eq_getElem?_getD, hnb]; rfl
      have fs1 : (decide (b < 0) || decide (w64 (a + n) < b)) = true → fillStep left n q nx all = nx.set all (w64 (a + n)) := by
        intro e; rw [fillStep, hga, hgb, if_pos e]
      have fs2 : (decide (b < 0) || decide (w64 (a + n) < b)) = false → fillStep left n q nx all = nx := by
        intro e; rw [fillStep, hga, hgb, if_neg (by rw [e]; decide)]
      refine AL.opM (OpM.indexR hF rfl (hτ _ _ rfl) rfl (hτ _ _ rfl) rfl (k := .i64) (i := all - q) (by exact  congrArg (fun z => some (IntKind.i64, z)) hsub) ( by simp [ints]; omega) rfl rfl) rfl rfl ?_
      refine Wv hF hτ rfl ?_
      refine AL.opM (OpM.loadE hF rfl (hτ _ _ rfl) rfl rfl (q := 0) (get_enc (fun n => [di n]) hla) rfl (Nat.le_of_ble_eq_true rfl) rfl rfl rfl) rfl rfl ?_
      refine Wv hF hτ rfl ?_
      (repeat' first | apply Wq | refine Ws hF hτ rfl ?_ | apply Wb | apply Wl | apply Wk | apply We | apply Wc | apply Wd | refine Wt rfl rfl ?_ | refine Wf rfl rfl ?_ | refine Wi rfl rfl (fun h => ?_) (fun h => ?_) | refine Wx hF hτ rfl rfl rfl rfl rfl rfl rfl rfl (fun h => ?_) (fun h => ?_) | apply Wn)
      refine AL.opM (OpM.indexR hF rfl (hτ _ _ rfl) rfl (hτ _ _ rfl) rfl (k := .i64) (i := all) (by exact  rfl) ( by simp [ints]; omega) rfl rfl) rfl rfl ?_
      refine Wv hF hτ rfl ?_
      refine AL.opM (OpM.loadE hF rfl (hτ _ _ rfl) rfl rfl (q := 0) (get_enc (fun n => [di n]) hnb) rfl (Nat.le_of_ble_eq_true rfl) rfl rfl rfl) rfl rfl ?_
      refine Wv hF hτ rfl ?_
      (repeat' first | apply Wq | refine Ws hF hτ rfl ?_ | apply Wb | apply Wl | apply Wk | apply We | apply Wc | apply Wd | refine Wt rfl rfl ?_ | refine Wf rfl rfl ?_ | refine Wi rfl rfl (fun h => ?_) (fun h => ?_) | refine Wx hF hτ rfl rfl rfl rfl rfl rfl rfl rfl (fun h => ?_) (fun h => ?_) | apply Wn)
      · refine AL.opM (OpM.indexR hF rfl (hτ _ _ rfl) rfl (hτ _ _ rfl) rfl (k := .i64) (i := all) (by exact  rfl) ( by simp [ints]; omega) rfl rfl) rfl rfl ?_
        refine Wv hF hτ rfl ?_
        refine AL.op rfl (OpTo.storeE hF rfl rfl (hτ _ _ rfl) rfl rfl (q := 0) (get_enc (fun n => [di n]) hnb) rfl rfl rfl (Nat.le_of_ble_eq_true rfl)) ?_
        refine Wv hF hτ rfl ?_
        (repeat' first | apply Wq | refine Ws hF hτ rfl ?_ | apply Wb | apply Wl | apply Wk | apply We | apply Wc | apply Wd | refine Wt rfl rfl ?_ | refine Wf rfl rfl ?_ | refine Wi rfl rfl (fun h => ?_) (fun h => ?_) | refine Wx hF hτ rfl rfl rfl rfl rfl rfl rfl rfl (fun h => ?_) (fun h => ?_) | apply Wn)
        refine ⟨⟨(all + 1, fillStep left n q nx all), by show q ≤ all + 1; omega, by show all + 1 ≤ H + 1; omega, by rw [fillStep_len]; exact ha3, ha4⟩, by show H + 1 - (all + 1) < H + 1 - all; omega, ?_⟩
        (repeat' first | exact Sub.nil | refine Sub.put rfl ?_ | refine Sub.put ?_ ?_)
        · refine congrArg (fun z => some (V.row true 3 z)) ?_
          show _ = ints (fillStep left n q nx all)
          rw [fs1 (by rw [h]; rfl)]
          simp [ints, List.map_set]
        · exact congrArg (fun z => some (Iv64 z)) (wrap_id (x := (all : Int) + 1) (by omega) (by omega))
      · refine AL.opMT (OpM.indexR hF rfl (hτ _ _ rfl) rfl (hτ _ _ rfl) rfl (k := .i64) (i := all) (by exact  rfl) ( by simp [ints]; omega) rfl rfl) rfl rfl rfl rfl rfl rfl ?_
        refine Wv hF hτ rfl ?_
        refine AL.opMT (OpM.loadE hF rfl (hτ _ _ rfl) rfl rfl (q := 0) (get_enc (fun n => [di n]) hnb) rfl (Nat.le_of_ble_eq_true rfl) rfl rfl rfl) rfl rfl rfl rfl rfl rfl ?_
        refine Wv hF hτ rfl ?_
        (repeat' first | apply Wq | refine Ws hF hτ rfl ?_ | apply Wb | apply Wl | apply Wk | apply We | apply Wc | apply Wd | refine Wt rfl rfl ?_ | refine Wf rfl rfl ?_ | refine Wi rfl rfl (fun h => ?_) (fun h => ?_) | refine Wx hF hτ rfl rfl rfl rfl rfl rfl rfl rfl (fun h => ?_) (fun h => ?_) | apply Wn)
        · rename_i h0
          refine AL.opM (OpM.indexR hF rfl (hτ _ _ rfl) rfl (hτ _ _ rfl) rfl (k := .i64) (i := all) (by exact  rfl) ( by simp [ints]; omega) rfl rfl) rfl rfl ?_
          refine Wv hF hτ rfl ?_
          refine AL.op rfl (OpTo.storeE hF rfl rfl (hτ _ _ rfl) rfl rfl (q := 0) (get_enc (fun n => [di n]) hnb) rfl rfl rfl (Nat.le_of_ble_eq_true rfl)) ?_
          refine Wv hF hτ rfl ?_
          (repeat' first | apply Wq | refine Ws hF hτ rfl ?_ | apply Wb | apply Wl | apply Wk | apply We | apply Wc | apply Wd | refine Wt rfl rfl ?_ | refine Wf rfl rfl ?_ | refine Wi rfl rfl (fun h => ?_) (fun h => ?_) | refine Wx hF hτ rfl rfl rfl rfl rfl rfl rfl rfl (fun h => ?_) (fun h => ?_) | apply Wn)
          refine ⟨⟨(all + 1, fillStep left n q nx all), by show q ≤ all + 1; omega, by show all + 1 ≤ H + 1; omega, by rw [fillStep_len]; exact ha3, ha4⟩, by show H + 1 - (all + 1) < H + 1 - all; omega, ?_⟩
          (repeat' first | exact Sub.nil | refine Sub.put rfl ?_ | refine Sub.put ?_ ?_)
          · refine congrArg (fun z => some (V.row true 3 z)) ?_
            show _ = ints (fillStep left n q nx all)
            rw [fs1 ((Bool.or_eq_true _ _).mpr (.inr h))]
            simp [ints, List.map_set]
          · exact congrArg (fun z => some (Iv64 z)) (wrap_id (x := (all : Int) + 1) (by omega) (by omega))
        · rename_i h0
          refine ⟨⟨(all + 1, fillStep left n q nx all), by show q ≤ all + 1; omega, by show all + 1 ≤ H + 1; omega, by rw [fillStep_len]; exact ha3, ha4⟩, by show H + 1 - (all + 1) < H + 1 - all; omega, ?_⟩
          (repeat' first | exact Sub.nil | refine Sub.put rfl ?_ | refine Sub.put ?_ ?_)
          · refine congrArg (fun z => some (V.row true 3 z)) ?_
            show _ = ints (fillStep left n q nx all)
            rw [fs2 (by rw [h0]; exact h)]
          · exact congrArg (fun z => some (Iv64 z)) (wrap_id (x := (all : Int) + 1) (by omega) (by omega))
    · rename_i h0
      have haH : all = H + 1 := by
        have h' : decide ((all : Int) ≤ (H : Int)) = false := h0
        have := of_decide_eq_false h'; omega
      rw [haH, Nat.sub_self, fillIn] at ha4
      rw [if_pos h, ← ha4] at hrest
      refine ⟨.inl rfl, rfl, ?_⟩
      (repeat' first | exact Sub.nil | refine Sub.put rfl ?_ | refine Sub.put ?_ ?_)
      exact congrArg (fun z => some (V.row true 3 (ints z))) hrest
    · rename_i h0
      have haH : all = H + 1 := by
        have h' : decide ((all : Int) ≤ (H : Int)) = false := h0
        have := of_decide_eq_false h'; omega
      rw [haH, Nat.sub_self, fillIn] at ha4
      rw [if_neg (by rw [h]; decide), ← ha4] at hrest
      refine ⟨⟨(q + 1, nx), by show q + 1 ≤ H + 1; omega, ha3, hrest⟩, by show H + 1 - (q + 1) < H + 1 - q; omega, ?_⟩
      (repeat' first | exact Sub.nil | refine Sub.put rfl ?_ | refine Sub.put ?_ ?_)
      exact congrArg (fun z => some (Iv64 z)) (wrap_id (x := (q : Int) + 1) (by omega) (by omega))
  · have hqH : q = H + 1 := by
      have h' : decide ((q : Int) ≤ (H : Int)) = false := h
      have := of_decide_eq_false h'; omega
    rw [hqH, Nat.sub_self, fillOut] at hrest
    refine ⟨.inl rfl, rfl, ?_⟩
    (repeat' first | exact Sub.nil | refine Sub.put rfl ?_ | refine Sub.put ?_ ?_)
    exact congrArg (fun z => some (V.row true 3 (ints z))) hrest
end Go.Proofs.VL
namespace Go.Proofs.VL
open Go Go.RowKit
variable {F : Fence}
theorem boundRow_snoc (t H : Nat) (l : List Count) (c : Count) : (l ++ [c]).foldl (fill t H) (List.replicate (H + 1) 0) = fill t H (l.foldl (fill t H) (List.replicate (H + 1) 0)) c := by simp
def boundRow (t H : Nat) (l : List Count) : List Int := l.foldl (fill t H) (List.replicate (H + 1) 0)
theorem boundRow_len (t H : Nat) (l : List Count) : (boundRow t H l).length = H + 1 := by
  have : ∀ (l : List Count) (r : List Int), r.length = H + 1 → (l.foldl (fill t H) r).length = H + 1 := by
    intro l
    induction l with
    | nil => intro r h; exact h
    | cons c l ih => intro r h; exact ih _ (fillRow_len ..)
  exact this l _ (by simp)
def bound (t H : Nat) (l : List Count) : Int := (boundRow t H l).getD H 0
set_option maxHeartbeats 2000000 in
theorem f62 (hF : Wide F) (hro : F.round = none) (s : Ship) (t : Nat) (l : List Count) (hs : s.cols.length ≤ 1000) (ht : t ≤ 1000) (htt : tallest s.cols = t) (hl : l.length ≤ 1000) (hc : ∀ c ∈ l, c.small) :
    FnV Tryz.prog F 62 [Vd s.enc, Vs (l.map Count.enc)] (Iv64 (bound t (2 * s.cols.length) l)) := by
  have hcall := f117 hF hro s hs
  rw [htt] at hcall
  refine FnV.of_AW hF hro hτ Tryz.func62 rfl (by decide) rfl (by simp [Tryz.f62]) ?_
  (repeat' first | apply Wq | refine Ws hF hτ rfl ?_ | apply Wb | apply Wl | apply Wk | apply We | apply Wc | apply Wd | refine Wt rfl rfl ?_ | refine Wf rfl rfl ?_ | refine Wi rfl rfl (fun h => ?_) (fun h => ?_) | refine Wx hF hτ rfl rfl rfl rfl rfl rfl rfl rfl (fun h => ?_) (fun h => ?_) | apply Wn)
  refine AW.draw hmix (AD.start [] [0, 1, 2, 3, 4, 5, 6, 7] ?_)
  refine AD.vals hF hτ rfl ?_
  refine AD.op (o := _) rfl rfl rfl (OpM.call hF rfl rfl rfl rfl hcall rfl rfl rfl) ?_
  refine AD.vals hF hτ rfl ?_
  refine AD.finC 8 [] (fuel2 := 1) rfl rfl rfl (OpF.store hF rfl rfl (hτ _ _ rfl) rfl rfl rfl rfl (Nat.le_of_ble_eq_true rfl) rfl) (by kernel_rfl) (by kernel_rfl) rfl rfl rfl (DS.ofVals hF hτ (is := [2, 3, 4, 5]) rfl (newD_of (by kernel_rfl))) (by kernel_rfl) (AA.tail (fuel := 0) [9] _ (by kernel_rfl) ?_) rfl
  obtain ⟨H, hH⟩ : ∃ H, H = 2 * s.cols.length := ⟨_, rfl⟩
  have hw1 : w64 (2 * ((s.cols.map Column.enc).length : Int)) = (H : Int) := by rw [w64, List.length_map, wrap_id (by omega) (by omega)]; omega
  have hw2 : w64 (w64 (2 * ((s.cols.map Column.enc).length : Int)) + 1) = ((H + 1 : Nat) : Int) := by rw [hw1, w64, wrap_id (by omega) (by omega)]; omega
  rw [← hH]
  refine Wv hF hτ rfl ?_
  (repeat' first | apply Wq | refine Ws hF hτ rfl ?_ | apply Wb | apply Wl | apply Wk | apply We | apply Wc | apply Wd | refine Wt rfl rfl ?_ | refine Wf rfl rfl ?_ | refine Wi rfl rfl (fun h => ?_) (fun h => ?_) | refine Wx hF hτ rfl rfl rfl rfl rfl rfl rfl rfl (fun h => ?_) (fun h => ?_) | apply Wn)
  refine AL.opM (OpM.makeSlice hF rfl (hτ _ _ rfl) rfl (hτ _ _ rfl) (kx := .i64) (ky := .i64) (m := H + 1) (by exact congrArg (fun z => some (IntKind.i64, z)) hw2) (by exact congrArg (fun z => some (IntKind.i64, z)) hw2) (by simp [lim]; omega) (by simp; omega) rfl rfl) rfl rfl ?_
  refine Wv hF hτ rfl ?_
  (repeat' first | apply Wq | refine Ws hF hτ rfl ?_ | apply Wb | apply Wl | apply Wk | apply We | apply Wc | apply Wd | refine Wt rfl rfl ?_ | refine Wf rfl rfl ?_ | refine Wi rfl rfl (fun h => ?_) (fun h => ?_) | refine Wx hF hτ rfl rfl rfl rfl rfl rfl rfl rfl (fun h => ?_) (fun h => ?_) | apply Wn)
  refine AW.ent (Ent.frzs (ls := [.s 5, .s 6]) rfl) ?_
  refine AW.range hF rfl rfl rfl rfl rfl rfl rfl rfl rfl (l.map Count.enc).length (by simp [lim]; omega) (fun k => [(.s 21, Vs (l.map Count.enc)), (.s 6, .rp [di H] 0), (.s 5, .rp [di t] 0), (.s 8, .fn 118 [.ref (.s 6), .ref (.s 5), .ref (.s 7)]), (.s 7, .bx 63 [.ref (.c 7 0)]), (.c 7 0, .row true 3 (ints (boundRow t H (l.take k))))]) ?_ ?_ (fun k hk => ?_) ?_
  · exact fun k => rfl
  · (repeat' first | exact Sub.nil | refine Sub.put rfl ?_ | refine Sub.put ?_ ?_)
    · exact congrArg (fun z => some (V.rp [di z] 0)) hw1
    · refine congrArg (fun z => some (V.row true 3 z)) ?_
      simp [boundRow, ints]
  · obtain ⟨c, hcs⟩ := get_ex hk
    have hk' : k < l.length := by simpa using hk
    (repeat' first | apply Wq | refine Ws hF hτ rfl ?_ | apply Wb | apply Wl | apply Wk | apply We | apply Wc | apply Wd | refine Wt rfl rfl ?_ | refine Wf rfl rfl ?_ | refine Wi rfl rfl (fun h => ?_) (fun h => ?_) | refine Wx hF hτ rfl rfl rfl rfl rfl rfl rfl rfl (fun h => ?_) (fun h => ?_) | apply Wn)
    refine AL.opM (OpM.indexD hF rfl (hτ _ _ rfl) rfl (hτ _ _ rfl) rfl (i := k) rfl ( get_enc Count.enc hcs) rfl rfl rfl) rfl rfl ?_
    refine Wv hF hτ rfl ?_
    (repeat' first | apply Wq | refine Ws hF hτ rfl ?_ | apply Wb | apply Wl | apply Wk | apply We | apply Wc | apply Wd | refine Wt rfl rfl ?_ | refine Wf rfl rfl ?_ | refine Wi rfl rfl (fun h => ?_) (fun h => ?_) | refine Wx hF hτ rfl rfl rfl rfl rfl rfl rfl rfl (fun h => ?_) (fun h => ?_) | apply Wn)
    refine AL.op rfl (OpTo.callX hF rfl rfl rfl rfl rfl rfl rfl (f118 hF hro c t H (boundRow t H (l.take k)) (hc c (List.mem_of_getElem? hcs)) ht (by omega) (boundRow_len ..)) rfl rfl rfl rfl rfl) ?_
    refine Wv hF hτ rfl ?_
    (repeat' first | apply Wq | refine Ws hF hτ rfl ?_ | apply Wb | apply Wl | apply Wk | apply We | apply Wc | apply Wd | refine Wt rfl rfl ?_ | refine Wf rfl rfl ?_ | refine Wi rfl rfl (fun h => ?_) (fun h => ?_) | refine Wx hF hτ rfl rfl rfl rfl rfl rfl rfl rfl (fun h => ?_) (fun h => ?_) | apply Wn)
    (repeat' first | exact Sub.nil | refine Sub.put rfl ?_ | refine Sub.put ?_ ?_)
    refine congrArg (fun z => some (V.row true 3 (ints z))) ?_
    rw [take_snoc hcs, boundRow, boundRow, boundRow_snoc]
  · obtain ⟨y, hy⟩ : ∃ y, (boundRow t H (l.take (l.map Count.enc).length))[H]? = some y := ⟨_, List.getElem?_eq_getElem (by rw [boundRow_len]; omega)⟩
    have htk : (l.take (l.map Count.enc).length) = l := by simp
    (repeat' first | apply Wq | refine Ws hF hτ rfl ?_ | apply Wb | apply Wl | apply Wk | apply We | apply Wc | apply Wd | refine Wt rfl rfl ?_ | refine Wf rfl rfl ?_ | refine Wi rfl rfl (fun h => ?_) (fun h => ?_) | refine Wx hF hτ rfl rfl rfl rfl rfl rfl rfl rfl (fun h => ?_) (fun h => ?_) | apply Wn)
    refine AL.opM (OpM.indexR hF rfl (hτ _ _ rfl) rfl (hτ _ _ rfl) rfl (k := .i64) (i := H) (by exact  rfl) ( by simp [ints, boundRow_len]) rfl rfl) rfl rfl ?_
    refine Wv hF hτ rfl ?_
    refine AL.opM (OpM.loadE hF rfl (hτ _ _ rfl) rfl rfl (q := 0) (get_enc (fun n => [di n]) hy) rfl (Nat.le_of_ble_eq_true rfl) rfl rfl rfl) rfl rfl ?_
    refine Wv hF hτ rfl ?_
    (repeat' first | apply Wq | refine Ws hF hτ rfl ?_ | apply Wb | apply Wl | apply Wk | apply We | apply Wc | apply Wd | refine Wt rfl rfl ?_ | refine Wf rfl rfl ?_ | refine Wi rfl rfl (fun h => ?_) (fun h => ?_) | refine Wx hF hτ rfl rfl rfl rfl rfl rfl rfl rfl (fun h => ?_) (fun h => ?_) | apply Wn)
    refine AW.ret ⟨.inr rfl, congrArg (fun z => some (Iv64 z)) ?_⟩
    rw [htk] at hy
    rw [bound, List.getD_eq_getElem?_getD, hy]; rfl
end Go.Proofs.VL
namespace Go.Proofs.VL
open Go Go.RowKit
variable {F : Fence}
def Box.bad (calls last : Int) (b : Box) : Bool :=
  decide (b.id ≤ last) || (decide (999999 < b.id) || (((!(b.size == 40)) && ((!(b.size == 20)) || b.reefer)) || (decide (b.load < 0) || (decide (b.disch ≤ b.load) || decide (calls ≤ b.disch)))))
def boxesFrom (calls : Int) : Int → List Box → Bool
  | _, [] => true
  | last, b :: l => !(b.bad calls last) && boxesFrom calls b.id l
def lastId (l : List Box) : Int := l.foldl (fun _ b => b.id) 0
theorem lastId_snoc (l : List Box) (b : Box) : lastId (l ++ [b]) = b.id := by simp [lastId]
theorem boxesFrom_drop {calls last : Int} {l : List Box} {k : Nat} {b : Box} (hb : l[k]? = some b) : boxesFrom calls last (l.drop k) = (!(b.bad calls last) && boxesFrom calls b.id (l.drop (k + 1))) := by
  obtain ⟨h1, e1⟩ := List.getElem?_eq_some_iff.1 hb
  rw [List.drop_eq_getElem_cons h1, e1]; rfl
def boxesOK (calls : Int) (l : List Box) : Bool := !(decide (calls < 1) || decide (20 < calls)) && boxesFrom calls 0 l
set_option maxHeartbeats 2000000 in
theorem f46 (hF : Wide F) (hro : F.round = none) (l : List Box) (calls : Int) (hl : l.length ≤ 1000) : FnV Tryz.prog F 46 [Vs (l.map Box.enc), Iv64 calls] (Vb (boxesOK calls l)) := by
  refine FnV.of_AW hF hro hτ Tryz.func46 rfl (by decide) rfl (by simp [Tryz.f46]) ?_
  (repeat' first | apply Wq | refine Ws hF hτ rfl ?_ | apply Wb | apply Wl | apply Wk | apply We | apply Wc | apply Wd | refine Wt rfl rfl ?_ | refine Wf rfl rfl ?_ | refine Wi rfl rfl (fun h => ?_) (fun h => ?_) | refine Wx hF hτ rfl rfl rfl rfl rfl rfl rfl rfl (fun h => ?_) (fun h => ?_) | apply Wn)
  · refine AW.ret ⟨.inr rfl, congrArg (fun z => some (Vb z)) ?_⟩
    simp [boxesOK, *]
  · refine AW.ret ⟨.inr rfl, congrArg (fun z => some (Vb z)) ?_⟩
    simp [boxesOK, *]
  · exfalso
    rename_i h1 h2
    simp at h; omega
  · rename_i h1 h2
    refine AW.rangeJ hF rfl rfl rfl rfl rfl rfl rfl rfl rfl (l.map Box.enc).length (by simp [lim]; omega) (fun k => [(.s 19, Vs (l.map Box.enc)), (.s 1, Iv64 calls), (.s 5, Iv64 (lastId (l.take k)))]) (fun k => boxesFrom calls 0 l = boxesFrom calls (lastId (l.take k)) (l.drop k)) rfl ?_ ?_ (fun k hk hJ => ?_) (fun hJ => ?_)
    · exact fun k => rfl
    · (repeat' first | exact Sub.nil | refine Sub.put rfl ?_ | refine Sub.put ?_ ?_)
    · obtain ⟨b, hb⟩ := get_ex hk
      rw [boxesFrom_drop hb] at hJ
      generalize lastId (l.take k) = last at hJ
      (repeat' first | apply Wq | refine Ws hF hτ rfl ?_ | apply Wb | apply Wl | apply Wk | apply We | apply Wc | apply Wd | refine Wt rfl rfl ?_ | refine Wf rfl rfl ?_ | refine Wi rfl rfl (fun h => ?_) (fun h => ?_) | refine Wx hF hτ rfl rfl rfl rfl rfl rfl rfl rfl (fun h => ?_) (fun h => ?_) | apply Wn)
      refine AL.opM (OpM.indexD hF rfl (hτ _ _ rfl) rfl (hτ _ _ rfl) rfl (i := k) rfl ( get_enc Box.enc hb) rfl rfl rfl) rfl rfl ?_
      refine Wv hF hτ rfl ?_
      (repeat' first | apply Wq | refine Ws hF hτ rfl ?_ | apply Wb | apply Wl | apply Wk | apply We | apply Wc | apply Wd | refine Wt rfl rfl ?_ | refine Wf rfl rfl ?_ | refine Wi rfl rfl (fun h => ?_) (fun h => ?_) | refine Wx hF hτ rfl rfl rfl rfl rfl rfl rfl rfl (fun h => ?_) (fun h => ?_) | apply Wn)
      all_goals first
        | (refine AW.ret ⟨.inr rfl, congrArg (fun z => some (Vb z)) ?_⟩
           have hbad : b.bad calls last = true := by simp_all [Box.bad]
           rw [boxesOK, hJ, hbad]; simp)
        | (have hbad : b.bad calls last = false := by simp_all [Box.bad]
           refine ⟨?_, by rw [hJ, hbad, take_snoc hb, lastId_snoc]; rfl⟩
           (repeat' first | exact Sub.nil | refine Sub.put rfl ?_ | refine Sub.put ?_ ?_)
           rw [take_snoc hb, lastId_snoc]; rfl)
    · (repeat' first | apply Wq | refine Ws hF hτ rfl ?_ | apply Wb | apply Wl | apply Wk | apply We | apply Wc | apply Wd | refine Wt rfl rfl ?_ | refine Wf rfl rfl ?_ | refine Wi rfl rfl (fun h => ?_) (fun h => ?_) | refine Wx hF hτ rfl rfl rfl rfl rfl rfl rfl rfl (fun h => ?_) (fun h => ?_) | apply Wn)
      refine AW.ret ⟨.inr rfl, congrArg (fun z => some (Vb z)) ?_⟩
      rw [boxesOK, hJ, List.drop_eq_nil_of_le (by simp)]
      simp [boxesFrom, *]
def Column.spans (c : Column) : List Span := [⟨c.bay, 0, 39⟩, ⟨c.row, 0, 30⟩, ⟨c.tiers, 1, 10⟩, ⟨c.c4, 0, 40000⟩, ⟨c.k20, 0, 500000000⟩, ⟨c.k40, 0, 500000000⟩, ⟨c.c7, 0, 1000000000000⟩, ⟨c.x, -500000, 500000⟩, ⟨c.y, -500000, 500000⟩, ⟨c.z, -500000, 500000⟩]
def Column.right (c : Column) : Bool := c.spans.all Span.in_
set_option maxHeartbeats 2000000 in
theorem f96 (hF : Wide F) (hro : F.round = none) (c : Column) : FnV Tryz.prog F 96 [Vd c.enc] (Vb c.right) := by
  refine FnV.of_AW hF hro hτ Tryz.func96 rfl (by decide) rfl (by simp [Tryz.f96]) ?_
  (repeat' first | apply Wq | refine Ws hF hτ rfl ?_ | apply Wb | apply Wl | apply Wk | apply We | apply Wc | apply Wd | refine Wt rfl rfl ?_ | refine Wf rfl rfl ?_ | refine Wi rfl rfl (fun h => ?_) (fun h => ?_) | refine Wx hF hτ rfl rfl rfl rfl rfl rfl rfl rfl (fun h => ?_) (fun h => ?_) | apply Wn)
  refine AW.range hF rfl rfl rfl rfl rfl rfl rfl rfl rfl 0 (by decide) (fun k => [(.s 1, .bx 112 (c.enc.map .d)), (.s 3, .fn 172 [])]) ?_ ?_ (fun k hk => ?_) ?_
  · exact fun k => rfl
  · (repeat' first | exact Sub.nil | refine Sub.put rfl ?_ | refine Sub.put ?_ ?_)
  · omega
  · (repeat' first | apply Wq | refine Ws hF hτ rfl ?_ | apply Wb | apply Wl | apply Wk | apply We | apply Wc | apply Wd | refine Wt rfl rfl ?_ | refine Wf rfl rfl ?_ | refine Wi rfl rfl (fun h => ?_) (fun h => ?_) | refine Wx hF hτ rfl rfl rfl rfl rfl rfl rfl rfl (fun h => ?_) (fun h => ?_) | apply Wn)
    refine AL.opM (OpM.buildSlice hF rfl (hτ _ _ rfl) rfl (hτ _ _ rfl) rfl rfl rfl (by decide) (by decide) rfl rfl) rfl rfl ?_
    refine Wv hF hτ rfl ?_
    refine AL.ent (Ent.frzs (ls := [.s 69]) rfl) ?_
    refine Wv hF hτ rfl ?_
    refine AL.opM (OpM.call hF rfl rfl rfl rfl (f172 hF hro c.spans (by simp [Column.spans])) rfl rfl rfl) rfl rfl ?_
    refine Wv hF hτ rfl ?_
    (repeat' first | apply Wq | refine Ws hF hτ rfl ?_ | apply Wb | apply Wl | apply Wk | apply We | apply Wc | apply Wd | refine Wt rfl rfl ?_ | refine Wf rfl rfl ?_ | refine Wi rfl rfl (fun h => ?_) (fun h => ?_) | refine Wx hF hτ rfl rfl rfl rfl rfl rfl rfl rfl (fun h => ?_) (fun h => ?_) | apply Wn)
    refine AW.ret ⟨.inr rfl, congrArg (fun z => some (Vb z)) ?_⟩
    rfl
end Go.Proofs.VL
namespace Go.Proofs.VL
open Go Go.RowKit
theorem u198 : Tryz.prog.underlying 198 = some (.array 3 3) := array_of (hτ 198 _ rfl) rfl
theorem s3 (w : World) : (sizeOf 3).run Tryz.prog w = .ok 1 w := run_sizeOf_ti (hτ 3 _ rfl) w
theorem u3 : Tryz.prog.underlying 3 = some (.int .i64) := int_of (hτ 3 _ rfl) rfl
theorem ag3 (w : World) : (isAgg 3).run Tryz.prog w = .ok false w := run_isAgg_ti (hτ 3 _ rfl) (.inr rfl) w
theorem eq3 (w : World) (D : Nat) (a b : Int) : (Op.equalIn (D + 1) 3 (.int .i64 a) (.int .i64 b)).run Tryz.prog w = .ok (a == b) w := by
  unfold Op.equalIn
  simp [run_underlying u3]
theorem part3 (w : World) (cs : Array Value) (o : Nat) (v : Value) (h : cs[o]? = some v) : (part 3 cs o).run Tryz.prog w = .ok v w := by
  unfold part
  simp [ag3, h, Array.getD_eq_getD_getElem?, s3]
theorem chk3 (w : World) (em : Bool) (D : Nat) (a : Int) : (Instr.checkKey em (D + 1) 3 (.int .i64 a)).run Tryz.prog w = .ok () w := by
  unfold Instr.checkKey
  simp [run_underlying u3]
theorem kl198 : KLaw Tryz.prog 198 true [.i64, .i64, .i64] := by
  refine KLaw.agg u198 (fun xs y => rfl) (fun w em ns hn => ?_) (fun w ns ms hn hm => ?_)
  · match ns, hn with
    | [a, b, c], _ =>
      show (Instr.checkKey em (9999 + 1) 198 (.agg #[.int .i64 a, .int .i64 b, .int .i64 c])).run Tryz.prog w = _
      have c3 := fun w a => chk3 w em 9998 a
      unfold Instr.checkKey
      simp [run_underlying u198, s3, List.range', part3, c3]
  · match ns, hn, ms, hm with
    | [a, b, c], _, [a', b', c'], _ =>
      show (Op.equalIn (9999 + 1) 198 (.agg #[.int .i64 a, .int .i64 b, .int .i64 c]) (.agg #[.int .i64 a', .int .i64 b', .int .i64 c'])).run Tryz.prog w = _
      have e3 := fun w a b => eq3 w 9998 a b
      unfold Op.equalIn
      simp [run_underlying u198, s3, List.range', part3, e3]
      by_cases h1 : a = a' <;> by_cases h2 : b = b' <;> by_cases h3 : c = c' <;> simp_all [eq_comm]
theorem kl3 : KLaw Tryz.prog 3 false [.i64] := KLaw.int u3
theorem kl61 : KLaw Tryz.prog 61 true [.i64, .i64] := by
  obtain ⟨fs, hu, h1, h2, h3⟩ := struct_of (hτ 61 _ rfl) (offs := [0, 1]) (ts := [3, 3]) rfl
  obtain ⟨f0, f1, hfs⟩ : ∃ f0 f1, fs = #[f0, f1] := by
    have hl : fs.toList.length = 2 := by have := congrArg List.length h1; simpa using this.symm
    match hfl : fs.toList, hl with
    | [f0, f1], _ => exact ⟨f0, f1, by rw [← Array.toArray_toList (xs := fs), hfl]⟩
  subst hfs
  simp only [List.map_cons, List.map_nil, List.cons.injEq, and_true] at h1 h2
  obtain ⟨o0, o1⟩ := h1
  obtain ⟨t0, t1⟩ := h2
  have n0 := h3 f0 (by simp)
  have n1 := h3 f1 (by simp)
  refine KLaw.agg hu (fun xs y => rfl) (fun w em ns hn => ?_) (fun w ns ms hn hm => ?_)
  · match ns, hn with
    | [a, b], _ =>
      show (Instr.checkKey em (9999 + 1) 61 (.agg #[.int .i64 a, .int .i64 b])).run Tryz.prog w = _
      have c3 := fun w a => chk3 w em 9998 a
      unfold Instr.checkKey
      simp [run_underlying hu, s3, part3, c3, n0, n1, ← o0, ← o1, ← t0, ← t1]
  · match ns, hn, ms, hm with
    | [a, b], _, [a', b'], _ =>
      have := eqT_ok hτ 100 61 [.d (di a), .d (di b)] [.d (di a'), .d (di b')] ((a == a') && ((b == b') && true)) rfl _ rfl [.int .i64 a, .int .i64 b] [.int .i64 a', .int .i64 b'] (fun i v h => by
        match i with
        | 0 => simp at h; subst h; rfl
        | 1 => simp at h; subst h; rfl
        | i + 2 => simp at h) (fun i v h => by
        match i with
        | 0 => simp at h; subst h; rfl
        | 1 => simp at h; subst h; rfl
        | i + 2 => simp at h) 10000 (by omega) w
      have e : ((a == a') && ((b == b') && true)) = decide ([a', b'] = [a, b]) := by
        rw [Bool.eq_iff_iff]
        simp only [Bool.and_true, Bool.and_eq_true, beq_iff_eq, decide_eq_true_eq, List.cons.injEq, and_true]
        exact ⟨fun ⟨x, y⟩ => ⟨x.symm, y.symm⟩, fun ⟨x, y⟩ => ⟨x.symm, y.symm⟩⟩
      rw [e] at this
      exact this
theorem zs3 : ZShape Tryz.prog 3 { size := 1, bytes := 8, eq := true, zero := [di 0], kind := TKind.int IntKind.i64 } := by
  unfold ZShape
  kernel_rfl
theorem zs88 : ZShape Tryz.prog 88 { size := 3, bytes := 24, eq := true, zero := [di 0, di 0, du 0], kind := TKind.struct [0, 1, 2] [3, 3, 5] } := by
  unfold ZShape
  kernel_rfl
theorem zs148 : ZShape Tryz.prog 148 { size := 4, bytes := 32, eq := true, zero := [di 0, di 0, di 0, di 0], kind := TKind.struct [0, 2, 3] [61, 3, 3] } := by
  unfold ZShape
  kernel_rfl
theorem zs276 : ZShape Tryz.prog 276 { size := 0, bytes := 0, eq := true, zero := [], kind := TKind.struct [] [] } := by
  unfold ZShape
  kernel_rfl
def imap {κ α : Type} (ek : κ → List Int) (ev : α → List D) (m : List (κ × α)) : IMap := m.map fun p => (ek p.1, ev p.2)
def getK {κ α : Type} [DecidableEq κ] (k : κ) : List (κ × α) → Option α
  | [] => none
  | p :: m => if p.1 = k then some p.2 else getK k m
def setK {κ α : Type} [DecidableEq κ] (k : κ) (x : α) : List (κ × α) → List (κ × α)
  | [] => [(k, x)]
  | p :: m => if p.1 = k then (k, x) :: m else p :: setK k x m
section
variable {κ α : Type} [DecidableEq κ] {ek : κ → List Int} {ev : α → List D}
theorem look_imap (hinj : ∀ a b, ek a = ek b → a = b) (k : κ) : ∀ (m : List (κ × α)), lookI (ek k) (imap ek ev m) = (getK k m).map ev
  | [] => rfl
  | p :: m => by
    have ih := look_imap hinj k m
    simp only [imap, List.map_cons, lookI, getK] at ih ⊢
    by_cases h : p.1 = k
    · simp [h]
    · rw [if_neg h, if_neg (fun e => h (hinj _ _ e))]; exact ih
theorem set_imap (hinj : ∀ a b, ek a = ek b → a = b) (k : κ) (x : α) : ∀ (m : List (κ × α)), setI (ek k) (ev x) (imap ek ev m) = imap ek ev (setK k x m)
  | [] => rfl
  | p :: m => by
    have ih := set_imap hinj k x m
    simp only [imap, List.map_cons, setI, setK] at ih ⊢
    by_cases h : p.1 = k
    · simp [h]
    · rw [if_neg h, if_neg (fun e => h (hinj _ _ e)), List.map_cons, ih]
theorem look_ins {ns : List Int} {z : List D} : ∀ (m : IMap), (lookI ns (insI ns z m)).getD z = (lookI ns m).getD z
  | [] => by simp [insI, lookI]
  | p :: m => by
    simp only [insI, lookI]
    by_cases h : p.1 = ns
    · simp [h, lookI]
    · simp only [h, if_false, lookI]; exact look_ins m
theorem imap_lens {k : Nat} (h : ∀ a, (ek a).length = k) (m : List (κ × α)) : ∀ p ∈ imap ek ev m, p.1.length = k := by
  intro p hp
  obtain ⟨q, _, rfl⟩ := List.mem_map.1 hp
  exact h _
theorem ins_lens {ns : List Int} {z : List D} {k : Nat} (hn : ns.length = k) : ∀ {m : IMap}, (∀ p ∈ m, p.1.length = k) → ∀ p ∈ insI ns z m, p.1.length = k
  | [], h, p, hp => by simp [insI] at hp; subst hp; exact hn
  | q :: m, h, p, hp => by
    simp only [insI] at hp
    split at hp
    · exact h p hp
    · cases hp with
      | head => exact h _ (.head _)
      | tail _ hp => exact ins_lens hn (fun p hp => h p (.tail _ hp)) p hp
theorem idx_lt {ns : List Int} {z : List D} : ∀ (m : IMap), idxI ns m < (insI ns z m).length
  | [] => by simp [idxI, insI]
  | p :: m => by
    simp only [idxI, insI]
    split
    · simp
    · have := idx_lt (ns := ns) (z := z) m; simp; omega
end
end Go.Proofs.VL
