import Derived.Test.YtndffogfaocchaaGreatW17
import Derived.Test.YtndffogfaocchaaGreatW19
set_option linter.unusedVariables false
set_option linter.unusedSimpArgs false
set_option linter.unusedSectionVars false
namespace Go.Proofs.VL
open Go Go.RowKit
variable {F : Fence}
theorem AW.toJ {P : Program} {n : Nat} {K : List Nat} {E : Env} {c y : Code} {Q Q' : Exit → Env → Prop} {J : Prop} (M : Env) (hM : nodupB (M.map Prod.fst) = true) (hx : AW P F n K c (thenQ (fun E' => J ∧ Sub M E') Q) E) (hy : J → AW P F n K y Q' M) : AW P F n K c (thenQ (AW P F n K y Q') Q) E :=
  hx.mono fun e E' h => by
    cases e with
    | normal => exact AW.subE h.2 (nodupB_ok hM) (hy h.1)
    | _ => exact h
abbrev Met := List (List Int × Int)
def ekL (k : List Int) : List Int := k
def evN (n : Int) : List D := [di n]
def met0 (ns : List Int) (m : Met) : Int := (getK ns m).getD 0
def bump (ns : List Int) (m : Met) : Met := setK ns (IntKind.wrap .i64 (met0 ns m + 1)) m
def Met.ok (m : Met) : Prop := ∀ p ∈ m, p.1.length = 3
theorem setK_ok {ns : List Int} {x : Int} (hn : ns.length = 3) : ∀ {m : Met}, m.ok → Met.ok (setK ns x m)
  | [], h, p, hp => by simp [setK] at hp; subst hp; exact hn
  | q :: m, h, p, hp => by
    simp only [setK] at hp
    split at hp
    · cases hp with
      | head => exact hn
      | tail _ hp => exact h p (.tail _ hp)
    · cases hp with
      | head => exact h _ (.head _)
      | tail _ hp => exact setK_ok hn (fun p hp => h p (.tail _ hp)) p hp
theorem bump_ok {ns : List Int} (hn : ns.length = 3) {m : Met} (h : m.ok) : Met.ok (bump ns m) := setK_ok hn h
theorem bumps_ok {kss : List (List Int)} (hn : ∀ ns ∈ kss, ns.length = 3) {m : Met} (h : m.ok) : Met.ok (kss.foldl (fun m ns => bump ns m) m) := by
  induction kss generalizing m with
  | nil => exact h
  | cons ns kss ih => exact ih (fun ns hns => hn ns (.tail _ hns)) (bump_ok (hn ns (.head _)) h)
abbrev kd3 : List IntKind := [.i64, .i64, .i64]
abbrev mpMet (m : Met) : V := .mp 1 (mkE kd3 (imap ekL evN m))
theorem met_lens {m : Met} (h : m.ok) : ∀ p ∈ imap ekL evN m, p.1.length = kd3.length := by
  intro p hp
  obtain ⟨q, hq, rfl⟩ := List.mem_map.1 hp
  exact h q hq
theorem met_look (ns : List Int) (m : Met) : (lookI ns (imap ekL evN m)).getD [di 0] = [di (met0 ns m)] := by
  have := look_imap (ek := ekL) (ev := evN) (fun a b h => h) ns m
  simp only [ekL] at this
  rw [this, met0]
  cases getK ns m <;> rfl
theorem met_set (ns : List Int) (x : Int) (m : Met) : setI ns [di x] (imap ekL evN m) = imap ekL evN (setK ns x m) := set_imap (ek := ekL) (ev := evN) (fun a b h => h) ns x m
def Column.key (c : Column) : List Int := [c.bay, c.row, if c.deck then 1 else 0]
def Cover.keys (x : Cover) : List (List Int) := x.rows.map fun r => [x.bay, r, 2]
def metCols (l : List Column) (m : Met) : Met := (l.map Column.key).foldl (fun m ns => bump ns m) m
def sizesOK (s : Ship) : Bool := !(decide ((s.cols.length : Int) < 1) || decide (200 < (s.cols.length : Int)) || decide (40 < (s.covers.length : Int)))
theorem metCols_snoc (l : List Column) (c : Column) (m : Met) : metCols (l ++ [c]) m = bump c.key (metCols l m) := by simp [metCols]
theorem metCols_ok (l : List Column) {m : Met} (h : m.ok) : Met.ok (metCols l m) := bumps_ok (fun ns hns => by obtain ⟨c, _, rfl⟩ := List.mem_map.1 hns; rfl) h
def metCov (l : List Cover) (m : Met) : Met := (l.flatMap Cover.keys).foldl (fun m ns => bump ns m) m
def metRows (b : Int) (l : List Int) (m : Met) : Met := (l.map fun r => [b, r, 2]).foldl (fun m ns => bump ns m) m
theorem metRows_snoc (b : Int) (l : List Int) (q : Int) (m : Met) : metRows b (l ++ [q]) m = bump [b, q, 2] (metRows b l m) := by simp [metRows]
theorem metRows_ok (b : Int) (l : List Int) {m : Met} (h : m.ok) : Met.ok (metRows b l m) := bumps_ok (fun ns hns => by obtain ⟨c, _, rfl⟩ := List.mem_map.1 hns; rfl) h
theorem metCov_snoc (l : List Cover) (c : Cover) (m : Met) : metCov (l ++ [c]) m = metRows c.bay c.rows (metCov l m) := by simp [metCov, metRows, Cover.keys]
theorem metCov_ok (l : List Cover) {m : Met} (h : m.ok) : Met.ok (metCov l m) := bumps_ok (fun ns hns => by obtain ⟨c, _, hc⟩ := List.mem_flatMap.1 hns; obtain ⟨q, _, rfl⟩ := List.mem_map.1 hc; rfl) h
def RowRight (v : Cover) (j : Nat) (x : Int) : Prop := 0 ≤ x ∧ x ≤ 30 ∧ (∀ q, 0 < j → v.rows[j - 1]? = some q → q < x)
def CoverRight (v : Cover) : Prop := 0 ≤ v.bay ∧ v.bay < 40 ∧ v.rows ≠ [] ∧ ∀ j x, v.rows[j]? = some x → RowRight v j x
def ShipRight (s : Ship) : Prop := sizesOK s = true ∧ (∀ (k : Nat) (c : Column), s.cols[k]? = some c → c.right = true) ∧ (∀ (k : Nat) v, s.covers[k]? = some v → CoverRight v) ∧ ∀ p ∈ metCov s.covers (metCols s.cols []), p.2 ≤ 1
open Classical in
noncomputable def shipRight (s : Ship) : Bool := decide (ShipRight s)
theorem shipRight_no {s : Ship} (h : ¬ShipRight s) : shipRight s = false := by simp [shipRight, h]
theorem shipRight_yes {s : Ship} (h : ShipRight s) : shipRight s = true := by simp [shipRight, h]
theorem met_todo {m : Met} (hm : m.ok) : (∀ p ∈ mkE kd3 (imap ekL evN m), ∃ q ∈ m, ∃ a b c : Int, p = ([di a, di b, di c], evN q.2)) ∧ (∀ q ∈ m, q.2 ≤ 1 ∨ ∃ p ∈ mkE kd3 (imap ekL evN m), p.2 = evN q.2) := by
  constructor
  · intro p hp
    obtain ⟨a, ha, rfl⟩ := List.mem_map.1 hp
    obtain ⟨q, hq, rfl⟩ := List.mem_map.1 ha
    refine ⟨q, hq, ?_⟩
    have := hm q hq
    match q.1, this with
    | [a, b, c], _ => exact ⟨a, b, c, rfl⟩
  · intro q hq
    exact .inr ⟨_, List.mem_map.2 ⟨_, List.mem_map.2 ⟨q, hq, rfl⟩, rfl⟩, rfl⟩
set_option maxHeartbeats 4000000 in
theorem f45 (hF : Wide F) (hro : F.round = none) (s : Ship) (hs : s.small) : FnV Tryz.prog F 45 [Vd s.enc] (Vb (shipRight s)) := by
  have hcl := hs.cols
  refine FnV.of_AW hF hro hτ Tryz.func45 rfl (by decide) rfl (by simp [Tryz.f45]) ?_
  (repeat' first | apply Wq | refine Ws hF hτ rfl ?_ | apply Wb | apply Wl | apply Wk | apply We | apply Wc | apply Wd | refine Wt rfl rfl ?_ | refine Wf rfl rfl ?_ | refine Wi rfl rfl (fun h => ?_) (fun h => ?_) | refine Wx hF hτ rfl rfl rfl rfl rfl rfl rfl rfl (fun h => ?_) (fun h => ?_) | apply Wn)
  · refine AW.ret ⟨.inr rfl, congrArg (fun z => some (Vb z)) ?_⟩
    exact (shipRight_no fun q => by have := q.1; simp_all [sizesOK]).symm
  · refine AW.ret ⟨.inr rfl, congrArg (fun z => some (Vb z)) ?_⟩
    exact (shipRight_no fun q => by have := q.1; simp_all [sizesOK]).symm
  · refine AW.ret ⟨.inr rfl, congrArg (fun z => some (Vb z)) ?_⟩
    exact (shipRight_no fun q => by have := q.1; simp_all [sizesOK]).symm
  · rename_i q1 q2
    refine AL.opM (OpM.makeMap hF rfl 1 rfl rfl) rfl rfl ?_
    refine Wv hF hτ rfl ?_
    (repeat' first | apply Wq | refine Ws hF hτ rfl ?_ | apply Wb | apply Wl | apply Wk | apply We | apply Wc | apply Wd | refine Wt rfl rfl ?_ | refine Wf rfl rfl ?_ | refine Wi rfl rfl (fun h => ?_) (fun h => ?_) | refine Wx hF hτ rfl rfl rfl rfl rfl rfl rfl rfl (fun h => ?_) (fun h => ?_) | apply Wn)
    have hsz : sizesOK s = true := by simp_all [sizesOK]
    refine AW.rangeJ hF rfl rfl rfl rfl rfl rfl rfl rfl rfl (s.cols.map Column.enc).length (by simp [lim]; omega) (fun k => [(.s 31, Vs (s.cols.map Column.enc)), (.s 1, .bx 35 (s.enc.map .d)), (.s 3, mpMet (metCols (s.cols.take k) []))]) (fun k => ∀ (i : Nat) (c : Column), i < k → s.cols[i]? = some c → c.right = true) (fun i c h => absurd h (Nat.not_lt_zero i)) ?_ ?_ (fun k hk hJ => ?_) (fun hJ => ?_)
    · exact fun k => rfl
    · (repeat' first | exact Sub.nil | refine Sub.put rfl ?_ | refine Sub.put ?_ ?_)
    · obtain ⟨c, hc⟩ := get_ex hk
      (repeat' first | apply Wq | refine Ws hF hτ rfl ?_ | apply Wb | apply Wl | apply Wk | apply We | apply Wn)
      refine AL.opM (OpM.indexD hF rfl (hτ _ _ rfl) rfl (hτ _ _ rfl) rfl (i := k) rfl ( get_enc Column.enc hc) rfl rfl rfl) rfl rfl ?_
      refine Wv hF hτ rfl ?_
      refine Wv hF hτ rfl (Wn ?_)
      (repeat' first | apply Wq | refine Ws hF hτ rfl ?_ | apply Wb | apply Wl | apply Wk | apply We | apply Wn)
      refine AW.to [(.s 33, Iv64 k), (.s 32, Iv64 (s.cols.map Column.enc).length), (.s 31, Vs (s.cols.map Column.enc)), (.s 1, .bx 35 (s.enc.map .d)), (.s 3, mpMet (metCols (s.cols.take k) [])), (.s 5, .bx 112 (c.enc.map .d)), (.s 6, Iv64 (if c.deck then 1 else 0))] rfl ?_ ?_
      · (repeat' first | apply Wq | refine Ws hF hτ rfl ?_ | apply Wb | apply Wl | apply Wk | apply We | apply Wc | apply Wd | refine Wt rfl rfl ?_ | refine Wf rfl rfl ?_ | refine Wi rfl rfl (fun h => ?_) (fun h => ?_) | refine Wx hF hτ rfl rfl rfl rfl rfl rfl rfl rfl (fun h => ?_) (fun h => ?_) | apply Wn)
        · (repeat' first | exact Sub.nil | refine Sub.put rfl ?_ | refine Sub.put ?_ ?_)
          rw [if_pos h]; rfl
        · (repeat' first | exact Sub.nil | refine Sub.put rfl ?_ | refine Sub.put ?_ ?_)
          rw [if_neg (by rw [h]; decide)]; rfl
      have hmo : Met.ok (metCols (s.cols.take k) []) := metCols_ok _ (fun p hp => by cases hp)
      have hsnoc : metCols (s.cols.take (k + 1)) [] = bump c.key (metCols (s.cols.take k) []) := by rw [take_snoc hc, metCols_snoc]
      have hkey : c.key = [c.bay, c.row, if c.deck then 1 else 0] := rfl
      generalize (if c.deck then (1 : Int) else 0) = dk at hkey
      rw [hkey] at hsnoc
      generalize metCols (s.cols.take k) [] = m at hmo hsnoc
      (repeat' first | apply Wq | refine Ws hF hτ rfl ?_ | apply Wb | apply Wl | apply Wk | apply We | apply Wn)
      refine AW.draw hmix (AD.start [] [0, 1, 2, 3, 4, 5, 6, 7, 8] ?_)
      refine AD.vals hF hτ rfl ?_
      refine AD.op (o := _) rfl rfl rfl (OpM.lookup (ok := false) hF rfl (hτ 197 _ rfl) rfl (hτ 3 _ rfl) zs3 kl198 (m := imap ekL evN m) (tm := 1) rfl rfl rfl (ns := [c.bay, c.row, dk]) rfl rfl (met_lens hmo) (ds := [di (met0 [c.bay, c.row, dk] m)]) (met_look _ _) rfl rfl rfl) ?_
      refine AD.vals hF hτ rfl ?_
      refine AD.finC 9 [⟨10, some 49, some (Iv64 (idxI [c.bay, c.row, dk] (imap ekL evN m)))⟩] (fuel2 := 1) rfl rfl rfl (OpF.mapEntry hF rfl (hτ 197 _ rfl) rfl (hτ 3 _ rfl) zs3 kl198 (m := imap ekL evN m) (tm := 1) rfl rfl rfl rfl (ns := [c.bay, c.row, dk]) rfl rfl (met_lens hmo) (ds := [di (met0 [c.bay, c.row, dk] m)]) (met_look _ _) rfl rfl rfl rfl rfl) (by kernel_rfl) (by kernel_rfl) rfl rfl rfl
        (DS.run (DS.run (DS.run .nil (newD_of (by kernel_rfl)) rfl rfl (OpM.lookup (ok := false) hF rfl (hτ 197 _ rfl) rfl (hτ 3 _ rfl) zs3 kl198 (m := insI [c.bay, c.row, dk] [di 0] (imap ekL evN m)) (tm := 1) rfl rfl rfl (ns := [c.bay, c.row, dk]) rfl rfl (ins_lens rfl (met_lens hmo)) (ds := [di (met0 [c.bay, c.row, dk] m)]) ((look_ins _).trans (met_look _ _)) rfl rfl rfl)) (newD_of (by kernel_rfl)) rfl rfl (OpM.val hF hτ rfl rfl rfl)) (newD_of (by kernel_rfl)) rfl rfl (OpM.val hF hτ rfl rfl rfl)) (by kernel_rfl) (AA.tail (fuel := 0) [11] _ (by kernel_rfl) ?_) rfl
      refine AL.op rfl (OpTo.entryStore hF rfl rfl (kd := kd3) (tm := 1) (m := insI [c.bay, c.row, dk] [di 0] (imap ekL evN m)) rfl (i := idxI [c.bay, c.row, dk] (imap ekL evN m)) rfl (idx_lt _) rfl rfl rfl rfl) ?_
      (repeat' first | apply Wq | refine Ws hF hτ rfl ?_ | apply Wb | apply Wl | apply Wk | apply We | apply Wc | apply Wd | refine Wt rfl rfl ?_ | refine Wf rfl rfl ?_ | refine Wi rfl rfl (fun h => ?_) (fun h => ?_) | refine Wx hF hτ rfl rfl rfl rfl rfl rfl rfl rfl (fun h => ?_) (fun h => ?_) | apply Wn)
      refine AL.opM (OpM.call hF rfl rfl rfl rfl (f96 hF hro c) rfl rfl rfl) rfl rfl ?_
      refine Wv hF hτ rfl ?_
      (repeat' first | apply Wq | refine Ws hF hτ rfl ?_ | apply Wb | apply Wl | apply Wk | apply We | apply Wc | apply Wd | refine Wt rfl rfl ?_ | refine Wf rfl rfl ?_ | refine Wi rfl rfl (fun h => ?_) (fun h => ?_) | refine Wx hF hτ rfl rfl rfl rfl rfl rfl rfl rfl (fun h => ?_) (fun h => ?_) | apply Wn)
      · refine AW.ret ⟨.inr rfl, congrArg (fun z => some (Vb z)) ?_⟩
        exact (shipRight_no fun q => by have := q.2.1 k c hc; simp_all).symm
      · refine ⟨?_, ?_⟩
        · (repeat' first | exact Sub.nil | refine Sub.put rfl ?_ | refine Sub.put ?_ ?_)
          rw [hsnoc]
          exact congrArg (fun z => some (V.mp 1 (mkE kd3 z))) ((stI_ins _).trans (met_set _ _ _))
        · intro i c' hi hc'
          rcases Nat.lt_or_ge i k with h1 | h1
          · exact hJ i c' h1 hc'
          · obtain rfl : i = k := by omega
            rw [hc] at hc'
            obtain rfl := Option.some.inj hc'
            simpa using h
    · have hcr : ∀ (k : Nat) (c : Column), s.cols[k]? = some c → c.right = true := fun k c hc => hJ k c (by have := (List.getElem?_eq_some_iff.1 hc).1; simpa using this) hc
      have hmo : Met.ok (metCols s.cols []) := metCols_ok _ (fun p hp => by cases hp)
      rw [show List.take (List.map Column.enc s.cols).length s.cols = s.cols by simp]
      generalize hm1 : metCols s.cols [] = m1 at hmo
      (repeat' first | apply Wq | refine Ws hF hτ rfl ?_ | apply Wb | apply Wl | apply Wk | apply We | apply Wc | apply Wd | refine Wt rfl rfl ?_ | refine Wf rfl rfl ?_ | refine Wi rfl rfl (fun h => ?_) (fun h => ?_) | refine Wx hF hτ rfl rfl rfl rfl rfl rfl rfl rfl (fun h => ?_) (fun h => ?_) | apply Wn)
      have hvl := hs.covers
      refine AW.rangeJ hF rfl rfl rfl rfl rfl rfl rfl rfl rfl (s.covers.map Cover.enc).length (by simp [lim]; omega) (fun k => [(.s 55, Vs (s.covers.map Cover.enc)), (.s 1, .bx 35 (s.enc.map .d)), (.s 3, mpMet (metCov (s.covers.take k) m1))]) (fun k => ∀ (i : Nat) (v : Cover), i < k → s.covers[i]? = some v → CoverRight v) (fun i c h => absurd h (Nat.not_lt_zero i)) ?_ ?_ (fun k hk hJ => ?_) (fun hJ => ?_)
      · exact fun k => rfl
      · (repeat' first | exact Sub.nil | refine Sub.put rfl ?_ | refine Sub.put ?_ ?_)
      · obtain ⟨v, hv⟩ := get_ex hk
        have hrl := hs.rows v (List.mem_of_getElem? hv)
        (repeat' first | apply Wq | refine Ws hF hτ rfl ?_ | apply Wb | apply Wl | apply Wk | apply We | apply Wn)
        refine AL.opM (OpM.indexD hF rfl (hτ _ _ rfl) rfl (hτ _ _ rfl) rfl (i := k) rfl ( get_enc Cover.enc hv) rfl rfl rfl) rfl rfl ?_
        refine Wv hF hτ rfl ?_
        (repeat' first | apply Wq | refine Ws hF hτ rfl ?_ | apply Wb | apply Wl | apply Wk | apply We | apply Wc | apply Wd | refine Wt rfl rfl ?_ | refine Wf rfl rfl ?_ | refine Wi rfl rfl (fun h => ?_) (fun h => ?_) | refine Wx hF hτ rfl rfl rfl rfl rfl rfl rfl rfl (fun h => ?_) (fun h => ?_) | apply Wn)
        · refine AW.ret ⟨.inr rfl, congrArg (fun z => some (Vb z)) ?_⟩
          exact (shipRight_no fun q => by have := (q.2.2.1 k v hv).1; simp at h; omega).symm
        · refine AW.ret ⟨.inr rfl, congrArg (fun z => some (Vb z)) ?_⟩
          exact (shipRight_no fun q => by have := (q.2.2.1 k v hv).2.1; simp at h; omega).symm
        · refine AW.ret ⟨.inr rfl, congrArg (fun z => some (Vb z)) ?_⟩
          exact (shipRight_no fun q => by have := (q.2.2.1 k v hv).2.2.1; simp [ints] at h; exact this h).symm
        · have hmo2 : Met.ok (metCov (s.covers.take k) m1) := metCov_ok _ hmo
          have hsnoc2 : metCov (s.covers.take (k + 1)) m1 = metRows v.bay v.rows (metCov (s.covers.take k) m1) := by rw [take_snoc hv, metCov_snoc]
          generalize metCov (s.covers.take k) m1 = m2 at hmo2 hsnoc2
          have hlv : (ints v.rows).length = v.rows.length := by simp [ints]
          refine AW.rangeJ hF rfl rfl rfl rfl rfl rfl rfl rfl rfl v.rows.length (by simp [lim]; omega) (fun j => [(.s 76, Vs (ints v.rows)), (.s 8, .bx 116 (v.enc.map .d)), (.s 57, Iv64 k), (.s 56, Iv64 (s.covers.map Cover.enc).length), (.s 55, Vs (s.covers.map Cover.enc)), (.s 1, .bx 35 (s.enc.map .d)), (.s 3, mpMet (metRows v.bay (v.rows.take j) m2))]) (fun j => ∀ (i : Nat) x, i < j → v.rows[i]? = some x → RowRight v i x) (fun i c h => absurd h (Nat.not_lt_zero i)) ?_ ?_ (fun j hj hJ2 => ?_) (fun hJ2 => ?_)
          · exact fun k => rfl
          · (repeat' first | exact Sub.nil | refine Sub.put rfl ?_ | refine Sub.put ?_ ?_)
            exact congrArg (fun z => some (Iv64 z)) (by simp [hlv])
          · obtain ⟨x, hx⟩ : ∃ x, v.rows[j]? = some x := ⟨_, List.getElem?_eq_getElem hj⟩
            (repeat' first | apply Wq | refine Ws hF hτ rfl ?_ | apply Wb | apply Wl | apply Wk | apply We | apply Wn)
            refine AL.opM (OpM.indexD hF rfl (hτ _ _ rfl) rfl (hτ _ _ rfl) rfl (i := j) rfl ( get_enc (fun n : Int => [di n]) hx) rfl rfl rfl) rfl rfl ?_
            refine Wv hF hτ rfl ?_
            refine Wv hF hτ rfl (Wn ?_)
            refine AW.seq ?_
            refine AW.toJ (J := RowRight v j x) [(.s 10, Iv64 x), (.s 78, Iv64 j), (.s 77, Iv64 v.rows.length), (.s 76, Vs (ints v.rows)), (.s 8, .bx 116 (v.enc.map .d)), (.s 57, Iv64 k), (.s 56, Iv64 (s.covers.map Cover.enc).length), (.s 55, Vs (s.covers.map Cover.enc)), (.s 1, .bx 35 (s.enc.map .d)), (.s 3, mpMet (metRows v.bay (v.rows.take j) m2))] rfl ?_ (fun hR => ?_)
            · (repeat' first | apply Wq | refine Ws hF hτ rfl ?_ | apply Wb | apply Wl | apply Wk | apply We | apply Wc | apply Wd | refine Wt rfl rfl ?_ | refine Wf rfl rfl ?_ | refine Wi rfl rfl (fun h => ?_) (fun h => ?_) | refine Wx hF hτ rfl rfl rfl rfl rfl rfl rfl rfl (fun h => ?_) (fun h => ?_) | apply Wn)
              · refine AW.ret ⟨.inr rfl, congrArg (fun z => some (Vb z)) ?_⟩
                exact (shipRight_no fun q => by have := ((q.2.2.1 k v hv).2.2.2 j x hx).1; simp at h; omega).symm
              · refine AW.ret ⟨.inr rfl, congrArg (fun z => some (Vb z)) ?_⟩
                exact (shipRight_no fun q => by have := ((q.2.2.1 k v hv).2.2.2 j x hx).2.1; simp at h; omega).symm
              · obtain ⟨y, hy⟩ : ∃ y, v.rows[j - 1]? = some y := ⟨_, List.getElem?_eq_getElem (by omega)⟩
                have hj0 : 0 < j := by simpa using h
                have hw : IntKind.wrap .i64 ((j : Int) - 1) = ((j - 1 : Nat) : Int) := by rw [wrap_id (by omega) (by omega)]; omega
                refine AL.opMT (OpM.indexD hF rfl (hτ _ _ rfl) rfl (hτ _ _ rfl) rfl (i := j - 1) (by exact congrArg (fun z => some (IntKind.i64, z)) hw) (get_enc (fun n : Int => [di n]) hy) rfl rfl rfl) rfl rfl rfl rfl rfl rfl ?_
                refine Wv hF hτ rfl ?_
                (repeat' first | apply Wq | refine Ws hF hτ rfl ?_ | apply Wb | apply Wl | apply Wk | apply We | apply Wc | apply Wd | refine Wt rfl rfl ?_ | refine Wf rfl rfl ?_ | refine Wi rfl rfl (fun h => ?_) (fun h => ?_) | refine Wx hF hτ rfl rfl rfl rfl rfl rfl rfl rfl (fun h => ?_) (fun h => ?_) | apply Wn)
                · refine AW.ret ⟨.inr rfl, congrArg (fun z => some (Vb z)) ?_⟩
                  exact (shipRight_no fun q => by have := ((q.2.2.1 k v hv).2.2.2 j x hx).2.2 y hj0 hy; simp at h; omega).symm
                · refine ⟨⟨by simp_all, by simp_all, fun q _ hq => ?_⟩, ?_⟩
                  · rw [hy] at hq
                    obtain rfl := Option.some.inj hq
                    simpa using h
                  · (repeat' first | exact Sub.nil | refine Sub.put rfl ?_ | refine Sub.put ?_ ?_)
              · refine ⟨⟨by simp_all, by simp_all, fun q hj0 => ?_⟩, ?_⟩
                · simp at h; omega
                · (repeat' first | exact Sub.nil | refine Sub.put rfl ?_ | refine Sub.put ?_ ?_)
            · have hmo3 : Met.ok (metRows v.bay (v.rows.take j) m2) := metRows_ok _ _ hmo2
              have hsnoc3 : metRows v.bay (v.rows.take (j + 1)) m2 = bump [v.bay, x, 2] (metRows v.bay (v.rows.take j) m2) := by rw [take_snoc hx, metRows_snoc]
              generalize metRows v.bay (v.rows.take j) m2 = m at hmo3 hsnoc3
              (repeat' first | apply Wq | refine Ws hF hτ rfl ?_ | apply Wb | apply Wl | apply Wk | apply We | apply Wn)
              refine AW.draw hmix (AD.start [] [0, 1, 2, 3, 4, 5, 6] ?_)
              refine AD.vals hF hτ rfl ?_
              refine AD.op (o := _) rfl rfl rfl (OpM.lookup (ok := false) hF rfl (hτ 197 _ rfl) rfl (hτ 3 _ rfl) zs3 kl198 (m := imap ekL evN m) (tm := 1) rfl rfl rfl (ns := [v.bay, x, 2]) rfl rfl (met_lens hmo3) (ds := [di (met0 [v.bay, x, 2] m)]) (met_look _ _) rfl rfl rfl) ?_
              refine AD.vals hF hτ rfl ?_
              refine AD.finC 7 [⟨8, some 111, some (Iv64 (idxI [v.bay, x, 2] (imap ekL evN m)))⟩] (fuel2 := 1) rfl rfl rfl (OpF.mapEntry hF rfl (hτ 197 _ rfl) rfl (hτ 3 _ rfl) zs3 kl198 (m := imap ekL evN m) (tm := 1) rfl rfl rfl rfl (ns := [v.bay, x, 2]) rfl rfl (met_lens hmo3) (ds := [di (met0 [v.bay, x, 2] m)]) (met_look _ _) rfl rfl rfl rfl rfl) (by kernel_rfl) (by kernel_rfl) rfl rfl rfl
                (DS.run (DS.run (DS.run .nil (newD_of (by kernel_rfl)) rfl rfl (OpM.lookup (ok := false) hF rfl (hτ 197 _ rfl) rfl (hτ 3 _ rfl) zs3 kl198 (m := insI [v.bay, x, 2] [di 0] (imap ekL evN m)) (tm := 1) rfl rfl rfl (ns := [v.bay, x, 2]) rfl rfl (ins_lens rfl (met_lens hmo3)) (ds := [di (met0 [v.bay, x, 2] m)]) ((look_ins _).trans (met_look _ _)) rfl rfl rfl)) (newD_of (by kernel_rfl)) rfl rfl (OpM.val hF hτ rfl rfl rfl)) (newD_of (by kernel_rfl)) rfl rfl (OpM.val hF hτ rfl rfl rfl)) (by kernel_rfl) (AA.tail (fuel := 0) [9] _ (by kernel_rfl) ?_) rfl
              refine AL.op rfl (OpTo.entryStore hF rfl rfl (kd := kd3) (tm := 1) (m := insI [v.bay, x, 2] [di 0] (imap ekL evN m)) rfl (i := idxI [v.bay, x, 2] (imap ekL evN m)) rfl (idx_lt _) rfl rfl rfl rfl) ?_
              (repeat' first | apply Wq | refine Ws hF hτ rfl ?_ | apply Wb | apply Wl | apply Wk | apply We | apply Wc | apply Wd | refine Wt rfl rfl ?_ | refine Wf rfl rfl ?_ | refine Wi rfl rfl (fun h => ?_) (fun h => ?_) | refine Wx hF hτ rfl rfl rfl rfl rfl rfl rfl rfl (fun h => ?_) (fun h => ?_) | apply Wn)
              refine ⟨?_, ?_⟩
              · (repeat' first | exact Sub.nil | refine Sub.put rfl ?_ | refine Sub.put ?_ ?_)
                rw [hsnoc3]
                exact congrArg (fun z => some (V.mp 1 (mkE kd3 z))) ((stI_ins _).trans (met_set _ _ _))
              · intro i x' hi hx'
                rcases Nat.lt_or_ge i j with h1 | h1
                · exact hJ2 i x' h1 hx'
                · obtain rfl : i = j := by omega
                  rw [hx] at hx'
                  obtain rfl := Option.some.inj hx'
                  exact hR
          · refine ⟨?_, ?_⟩
            · (repeat' first | exact Sub.nil | refine Sub.put rfl ?_ | refine Sub.put ?_ ?_)
              rw [hsnoc2, List.take_length]; rfl
            · intro i v' hi hv'
              rcases Nat.lt_or_ge i k with h1 | h1
              · exact hJ i v' h1 hv'
              · obtain rfl : i = k := by omega
                rw [hv] at hv'
                obtain rfl := Option.some.inj hv'
                refine ⟨by rename_i a b; simp_all, by simp_all, by intro e; simp [e, ints] at h, fun j x hx => hJ2 j x (List.getElem?_eq_some_iff.1 hx).1 hx⟩
      · have hvr : ∀ (k : Nat) (c : Cover), s.covers[k]? = some c → CoverRight c := fun k c hc => hJ k c (by have := (List.getElem?_eq_some_iff.1 hc).1; simpa using this) hc
        rw [show List.take (List.map Cover.enc s.covers).length s.covers = s.covers by simp]
        have hmo2 : Met.ok (metCov s.covers m1) := metCov_ok _ hmo
        have hsr : (∀ p ∈ metCov s.covers m1, p.2 ≤ 1) ↔ ShipRight s := by
          subst hm1
          exact ⟨fun q => ⟨hsz, hcr, hvr, q⟩, fun q => q.2.2.2⟩
        generalize metCov s.covers m1 = m2 at hmo2 hsr
        (repeat' first | apply Wq | refine Ws hF hτ rfl ?_ | apply Wb | apply Wl | apply Wk | apply We | apply Wn)
        refine AL.op rfl (OpTo.range hF rfl (hτ 197 _ rfl) rfl rfl rfl rfl rfl rfl) ?_
        (repeat' first | apply Wq | refine Ws hF hτ rfl ?_ | apply Wb | apply Wl | apply Wk | apply We | apply Wc | apply Wd | refine Wt rfl rfl ?_ | refine Wf rfl rfl ?_ | refine Wi rfl rfl (fun h => ?_) (fun h => ?_) | refine Wx hF hτ rfl rfl rfl rfl rfl rfl rfl rfl (fun h => ?_) (fun h => ?_) | apply Wn)
        refine AW.loopI (X := { x : List (List D × List D) × Option (List D × List D) // (∀ p ∈ x.1, ∃ q ∈ m2, ∃ a b c : Int, p = ([di a, di b, di c], evN q.2)) ∧ (∀ q ∈ m2, q.2 ≤ 1 ∨ ∃ p ∈ x.1, p.2 = evN q.2) }) (fun x => [(.s 115, .it 1 x.1.1 x.1.2)]) (fun x => x.1.1.length) (fun x => rfl) ⟨(mkE kd3 (imap ekL evN m2), none), met_todo hmo2⟩ ?_ (fun x => ?_)
        · (repeat' first | exact Sub.nil | refine Sub.put rfl ?_ | refine Sub.put ?_ ?_)
        · obtain ⟨⟨td, cur⟩, hx1, hx2⟩ := x
          refine AW.seq (AW.region (AL.next hF rfl rfl rfl rfl rfl rfl (fun e => ?_) (fun p rest hp => ?_)))
          · subst e
            refine Wv hF hτ rfl ?_
            (repeat' first | apply Wq | refine Ws hF hτ rfl ?_ | apply Wb | apply Wl | apply Wk | apply We | apply Wc | apply Wd | refine Wt rfl rfl ?_ | refine Wf rfl rfl ?_ | refine Wi rfl rfl (fun h => ?_) (fun h => ?_) | refine Wx hF hτ rfl rfl rfl rfl rfl rfl rfl rfl (fun h => ?_) (fun h => ?_) | apply Wn)
            refine AW.ret ⟨.inr rfl, congrArg (fun z => some (Vb z)) ?_⟩
            exact (shipRight_yes (hsr.1 fun q hq => by have := hx2 q hq; simpa using this)).symm
          · obtain ⟨q, hq, ka, kb, kc, rfl⟩ := hx1 p (hp.mem_iff.2 (.head _))
            refine Wv hF hτ rfl ?_
            (repeat' first | apply Wq | refine Ws hF hτ rfl ?_ | apply Wb | apply Wl | apply Wk | apply We | apply Wc | apply Wd | refine Wt rfl rfl ?_ | refine Wf rfl rfl ?_ | refine Wi rfl rfl (fun h => ?_) (fun h => ?_) | refine Wx hF hτ rfl rfl rfl rfl rfl rfl rfl rfl (fun h => ?_) (fun h => ?_) | apply Wn)
            refine AL.opM (OpM.entry hF rfl rfl rfl rfl) rfl rfl ?_
            refine Wv hF hτ rfl ?_
            (repeat' first | apply Wq | refine Ws hF hτ rfl ?_ | apply Wb | apply Wl | apply Wk | apply We | apply Wc | apply Wd | refine Wt rfl rfl ?_ | refine Wf rfl rfl ?_ | refine Wi rfl rfl (fun h => ?_) (fun h => ?_) | refine Wx hF hτ rfl rfl rfl rfl rfl rfl rfl rfl (fun h => ?_) (fun h => ?_) | apply Wn)
            · refine AW.ret ⟨.inr rfl, congrArg (fun z => some (Vb z)) ?_⟩
              exact (shipRight_no fun z => by have := hsr.2 z q hq; simp at h; omega).symm
            · refine ⟨⟨(rest, some ([di ka, di kb, di kc], evN q.2)), fun p hpr => hx1 p (hp.mem_iff.2 (.tail _ hpr)), fun q' hq' => ?_⟩, ?_, ?_⟩
              · rcases hx2 q' hq' with h1 | ⟨p', hp', e'⟩
                · exact .inl h1
                · rcases List.mem_cons.1 (hp.mem_iff.1 hp') with rfl | hr
                  · left
                    have : q'.2 = q.2 := by simpa [evN] using e'.symm
                    simp at h; omega
                  · exact .inr ⟨p', hr, e'⟩
              · simpa using (by rw [hp.length_eq]; simp : rest.length < td.length)
              · (repeat' first | exact Sub.nil | refine Sub.put rfl ?_ | refine Sub.put ?_ ?_)
end Go.Proofs.VL
namespace Go.Proofs.VL
open Go Go.RowKit
theorem Ent.imp {P : Program} {E : Env} {l : Loc} {v v' : V} (hlk : look E l = some v) (hi : Imp P v v') : Ent P E (VL.upd l v' E) :=
  Ent.of_rel fun w N L γ R tmps hr => ⟨γ, R, hr.upd (fun c hc => by
    obtain ⟨c', h1, h2⟩ := hr.rep l _ (look_mem hlk)
    rw [hc] at h1
    cases h1
    exact hi _ _ _ _ _ _ hr.NL h2), fun _ h => h⟩
theorem Ent.nil {P : Program} {E : Env} {l : Loc} (hlk : look E l = some (.d .nl)) : Ent P E (VL.upd l (.d (.sl [])) E) := .imp hlk .nl
variable {F : Fence}
theorem f114 (hF : Wide F) (hro : F.round = none) (a b : Count) : FnV Tryz.prog F 114 [Vd a.enc, Vd b.enc] (Iv64 (groupCmp a.g b.g)) := by
  refine FnV.of_AW hF hro hτ Tryz.func114 rfl (by decide) rfl (by simp [Tryz.f114]) ?_
  (repeat' first | apply Wq | refine Ws hF hτ rfl ?_ | apply Wb | apply Wl | apply Wk | apply We | apply Wn)
  refine AL.opM (OpM.call hF rfl rfl rfl rfl (f115 hF hro a.g b.g) rfl rfl rfl) rfl rfl ?_
  refine Wv hF hτ rfl ?_
  (repeat' first | apply Wq | refine Ws hF hτ rfl ?_ | apply Wb | apply Wl | apply Wk | apply We | apply Wc | apply Wd | refine Wt rfl rfl ?_ | refine Wf rfl rfl ?_ | refine Wi rfl rfl (fun h => ?_) (fun h => ?_) | refine Wx hF hτ rfl rfl rfl rfl rfl rfl rfl rfl (fun h => ?_) (fun h => ?_) | apply Wn)
  refine AW.ret ⟨.inr rfl, ?_⟩
  rfl
theorem f57 (hF : Wide F) (hro : F.round = none) (s : Ship) (l : List Box) (hs : s.small) (hl : l.length ≤ 1000) : FnV Tryz.prog F 57 [Vd s.enc, Vs (l.map Box.enc)] (Vb (shipRight s && boxesOK 20 l)) := by
  refine FnV.of_AW hF hro hτ Tryz.func57 rfl (by decide) rfl (by simp [Tryz.f57]) ?_
  (repeat' first | apply Wq | refine Ws hF hτ rfl ?_ | apply Wb | apply Wl | apply Wk | apply We | apply Wc | apply Wd | refine Wt rfl rfl ?_ | refine Wf rfl rfl ?_ | refine Wi rfl rfl (fun h => ?_) (fun h => ?_) | refine Wx hF hτ rfl rfl rfl rfl rfl rfl rfl rfl (fun h => ?_) (fun h => ?_) | apply Wn)
  refine AL.opM (OpM.call hF rfl rfl rfl rfl (f45 hF hro s hs) rfl rfl rfl) rfl rfl ?_
  refine Wv hF hτ rfl ?_
  (repeat' first | apply Wq | refine Ws hF hτ rfl ?_ | apply Wb | apply Wl | apply Wk | apply We | apply Wc | apply Wd | refine Wt rfl rfl ?_ | refine Wf rfl rfl ?_ | refine Wi rfl rfl (fun h => ?_) (fun h => ?_) | refine Wx hF hτ rfl rfl rfl rfl rfl rfl rfl rfl (fun h => ?_) (fun h => ?_) | apply Wn)
  · refine AL.opMT (OpM.call hF rfl rfl rfl rfl (f46 hF hro l 20 hl) rfl rfl rfl) rfl rfl rfl rfl rfl rfl ?_
    refine Wv hF hτ rfl ?_
    (repeat' first | apply Wq | refine Ws hF hτ rfl ?_ | apply Wb | apply Wl | apply Wk | apply We | apply Wc | apply Wd | refine Wt rfl rfl ?_ | refine Wf rfl rfl ?_ | refine Wi rfl rfl (fun h => ?_) (fun h => ?_) | refine Wx hF hτ rfl rfl rfl rfl rfl rfl rfl rfl (fun h => ?_) (fun h => ?_) | apply Wn)
    refine AW.ret ⟨.inr rfl, congrArg (fun z => some (Vb z)) ?_⟩
    simp [h]
  · refine AW.ret ⟨.inr rfl, congrArg (fun z => some (Vb z)) ?_⟩
    simp [h]
theorem f64 (hF : Wide F) (hro : F.round = none) (c : Count) (l : List Group) (hl : l.length ≤ 1000) : FnV Tryz.prog F 64 [Vd c.enc, .rp [.sl (l.map Group.enc)] 0] (Vb (l.any fun y => Group.same c.g y)) := by
  refine FnV.of_AW hF hro hτ Tryz.func64 rfl (by decide) rfl (by simp [Tryz.f64]) ?_
  (repeat' first | apply Wq | refine Ws hF hτ rfl ?_ | apply Wb | apply Wl | apply Wk | apply We | apply Wc | apply Wd | refine Wt rfl rfl ?_ | refine Wf rfl rfl ?_ | refine Wi rfl rfl (fun h => ?_) (fun h => ?_) | refine Wx hF hτ rfl rfl rfl rfl rfl rfl rfl rfl (fun h => ?_) (fun h => ?_) | apply Wn)
  refine AL.opM (OpM.call hF rfl rfl rfl rfl (f65 hF hro l c.g hl) rfl rfl rfl) rfl rfl ?_
  refine Wv hF hτ rfl ?_
  (repeat' first | apply Wq | refine Ws hF hτ rfl ?_ | apply Wb | apply Wl | apply Wk | apply We | apply Wc | apply Wd | refine Wt rfl rfl ?_ | refine Wf rfl rfl ?_ | refine Wi rfl rfl (fun h => ?_) (fun h => ?_) | refine Wx hF hτ rfl rfl rfl rfl rfl rfl rfl rfl (fun h => ?_) (fun h => ?_) | apply Wn)
  refine AW.ret ⟨.inr rfl, ?_⟩
  rfl
theorem f61 (hF : Wide F) (hro : F.round = none) (s : Ship) (t : Nat) (l : List Count) (hs : s.cols.length ≤ 1000) (ht : t ≤ 1000) (htt : tallest s.cols = t) (hl : l.length ≤ 1000) (hc : ∀ c ∈ l, c.small) :
    FnV Tryz.prog F 61 [Vs (l.map Count.enc), .rp s.enc 0] (Iv64 (bound t (2 * s.cols.length) l)) := by
  refine FnV.of_AW hF hro hτ Tryz.func61 rfl (by decide) rfl (by simp [Tryz.f61]) ?_
  (repeat' first | apply Wq | refine Ws hF hτ rfl ?_ | apply Wb | apply Wl | apply Wk | apply We | apply Wc | apply Wd | refine Wt rfl rfl ?_ | refine Wf rfl rfl ?_ | refine Wi rfl rfl (fun h => ?_) (fun h => ?_) | refine Wx hF hτ rfl rfl rfl rfl rfl rfl rfl rfl (fun h => ?_) (fun h => ?_) | apply Wn)
  refine AL.opM (OpM.call hF rfl rfl rfl rfl (f62 hF hro s t l hs ht htt hl hc) rfl rfl rfl) rfl rfl ?_
  refine Wv hF hτ rfl ?_
  (repeat' first | apply Wq | refine Ws hF hτ rfl ?_ | apply Wb | apply Wl | apply Wk | apply We | apply Wc | apply Wd | refine Wt rfl rfl ?_ | refine Wf rfl rfl ?_ | refine Wi rfl rfl (fun h => ?_) (fun h => ?_) | refine Wx hF hτ rfl rfl rfl rfl rfl rfl rfl rfl (fun h => ?_) (fun h => ?_) | apply Wn)
  refine AW.ret ⟨.inr rfl, ?_⟩
  rfl
def greatest {α : Type} (f : List α → Int) : List (List α) → List α × Int
  | [] => ([], 0)
  | x => x.foldl (fun (b : List α × Int) l => if f l > b.2 then (l, f l) else b) ([], 0)
theorem greatest_snoc {α : Type} (f : List α → Int) (x : List (List α)) (l : List α) : greatest f (x ++ [l]) = if f l > (greatest f x).2 then (l, f l) else greatest f x := by
  have : ∀ x : List (List α), greatest f x = x.foldl (fun (b : List α × Int) l => if f l > b.2 then (l, f l) else b) ([], 0) := by
    intro x; cases x <;> rfl
  rw [this, this, List.foldl_append]
  rfl
def encF (l : List Count) : List D := [.sl (l.map Count.enc)]
def ListS (f : List Count → Int) (p : List Count → Prop) : List V → V → Prop := fun vs r => ∃ l, p l ∧ vs = [Vs (l.map Count.enc)] ∧ r = Iv64 (f l)
theorem f60 (hF : Wide F) (hro : F.round = none) (ll : List (List Count)) (f : List Count → Int) (p : List Count → Prop) (hl : ll.length ≤ 1000) (hp : ∀ l ∈ ll, p l) :
    FnV Tryz.prog F 60 [Vs (ll.map encF), .raw (PFn Tryz.prog F (ListS f p))] (.tu [Vs ((greatest f ll).1.map Count.enc), Iv64 (greatest f ll).2]) := by
  refine FnV.of_AW hF hro hτ Tryz.func60 rfl (by decide) rfl (by simp [Tryz.f60]) ?_
  (repeat' first | apply Wq | refine Ws hF hτ rfl ?_ | apply Wb | apply Wl | apply Wk | apply We | apply Wc | apply Wd | refine Wt rfl rfl ?_ | refine Wf rfl rfl ?_ | refine Wi rfl rfl (fun h => ?_) (fun h => ?_) | refine Wx hF hτ rfl rfl rfl rfl rfl rfl rfl rfl (fun h => ?_) (fun h => ?_) | apply Wn)
  refine AW.ent (Ent.frzs (ls := [.s 6]) rfl) ?_
  refine AW.range hF rfl rfl rfl rfl rfl rfl rfl rfl rfl (ll.map encF).length (by simp [lim]; omega) (fun k => [(.s 11, Vs (ll.map encF)), (.s 1, .raw (PFn Tryz.prog F (ListS f p))), (.s 6, Vs ((greatest f (ll.take k)).1.map Count.enc)), (.s 7, Iv64 (greatest f (ll.take k)).2)]) ?_ ?_ (fun k hk => ?_) ?_
  · exact fun k => rfl
  · (repeat' first | exact Sub.nil | refine Sub.put rfl ?_ | refine Sub.put ?_ ?_)
  · obtain ⟨l, hlk⟩ := get_ex hk
    have hsn : greatest f (ll.take (k + 1)) = if f l > (greatest f (ll.take k)).2 then (l, f l) else greatest f (ll.take k) := by rw [take_snoc hlk, greatest_snoc]
    (repeat' first | apply Wq | refine Ws hF hτ rfl ?_ | apply Wb | apply Wl | apply Wk | apply We | apply Wn)
    refine AL.opM (OpM.indexD hF rfl (hτ _ _ rfl) rfl (hτ _ _ rfl) rfl (i := k) rfl ( get_enc encF hlk) rfl rfl rfl) rfl rfl ?_
    refine Wv hF hτ rfl ?_
    (repeat' first | apply Wq | refine Ws hF hτ rfl ?_ | apply Wb | apply Wl | apply Wk | apply We | apply Wc | apply Wd | refine Wt rfl rfl ?_ | refine Wf rfl rfl ?_ | refine Wi rfl rfl (fun h => ?_) (fun h => ?_) | refine Wx hF hτ rfl rfl rfl rfl rfl rfl rfl rfl (fun h => ?_) (fun h => ?_) | apply Wn)
    refine AL.opM (OpM.callRaw hF rfl rfl rfl rfl (⟨l, hp l (List.mem_of_getElem? hlk), rfl, rfl⟩) rfl rfl rfl) rfl rfl ?_
    refine Wv hF hτ rfl ?_
    (repeat' first | apply Wq | refine Ws hF hτ rfl ?_ | apply Wb | apply Wl | apply Wk | apply We | apply Wc | apply Wd | refine Wt rfl rfl ?_ | refine Wf rfl rfl ?_ | refine Wi rfl rfl (fun h => ?_) (fun h => ?_) | refine Wx hF hτ rfl rfl rfl rfl rfl rfl rfl rfl (fun h => ?_) (fun h => ?_) | apply Wn)
    · (repeat' first | exact Sub.nil | refine Sub.put rfl ?_ | refine Sub.put ?_ ?_)
      · rw [hsn, if_pos (by simpa using h)]; rfl
      · rw [hsn, if_pos (by simpa using h)]; rfl
    · (repeat' first | exact Sub.nil | refine Sub.put rfl ?_ | refine Sub.put ?_ ?_)
      · rw [hsn, if_neg (by simpa using h)]; rfl
      · rw [hsn, if_neg (by simpa using h)]; rfl
  · (repeat' first | apply Wq | refine Ws hF hτ rfl ?_ | apply Wb | apply Wl | apply Wk | apply We | apply Wc | apply Wd | refine Wt rfl rfl ?_ | refine Wf rfl rfl ?_ | refine Wi rfl rfl (fun h => ?_) (fun h => ?_) | refine Wx hF hτ rfl rfl rfl rfl rfl rfl rfl rfl (fun h => ?_) (fun h => ?_) | apply Wn)
    refine AW.ret ⟨.inr rfl, ?_⟩
    rw [show List.take (ll.map encF).length ll = ll by simp]
    rfl
end Go.Proofs.VL
namespace Go.Proofs.VL
open Go Go.RowKit
variable {F : Fence}
theorem set_swap_perm {α : Type} {l : List α} {j : Nat} {a b : α} (ha : l[j + 1]? = some a) (hb : l[j]? = some b) : ((l.set (j + 1) b).set j a).Perm l := by
  induction j generalizing l with
  | zero =>
    match l, ha, hb with
    | x :: y :: l, ha, hb =>
      simp at ha hb
      subst ha hb
      exact .swap _ _ _
    | [], ha, hb => simp at hb
    | [x], ha, hb => simp at ha
  | succ j ih =>
    match l, ha, hb with
    | x :: l, ha, hb =>
      simp only [List.set_cons_succ]
      exact .cons _ (ih (by simpa using ha) (by simpa using hb))
    | [], ha, hb => simp at hb
theorem insAt_perm {α : Type} (c : α → α → Int) : ∀ (j : Nat) (l : List α), (insAt c l j).Perm l
  | 0, l => .refl _
  | j + 1, l => by
    simp only [insAt]
    split
    · rename_i a b ha hb
      split
      · exact (insAt_perm c j _).trans (set_swap_perm ha hb)
      · exact .refl _
    · exact .refl _
theorem insTo_perm {α : Type} (c : α → α → Int) (l : List α) : ∀ k, (insTo c l k).Perm l
  | 0 => .refl _
  | k + 1 => (insAt_perm c _ _).trans (insTo_perm c l k)
theorem isort_perm {α : Type} (c : α → α → Int) (l : List α) : (isort c l).Perm l := insTo_perm c l _
def Upto {α : Type} (c : α → α → Int) (m : Nat) (l : List α) : Prop := ∀ i j a b, i < j → j < m → l[i]? = some a → l[j]? = some b → c a b ≤ 0
def UptoBut {α : Type} (c : α → α → Int) (m j : Nat) (l : List α) : Prop := ∀ i k a b, i < k → k < m → l[i]? = some a → l[k]? = some b → k ≠ j → c a b ≤ 0
theorem insAt_upto {α : Type} {c : α → α → Int} (ht : ∀ x y z, c x y ≤ 0 → c y z ≤ 0 → c x z ≤ 0) (hn2 : ∀ x y, ¬c x y < 0 → c y x ≤ 0) (m : Nat) : ∀ (j : Nat) (l : List α), m ≤ l.length → j < m → UptoBut c m j l → Upto c m (insAt c l j)
  | 0, l, hm, hj, h => fun i k a b hik hk ha hb => h i k a b hik hk ha hb (by omega)
  | j + 1, l, hm, hj, h => by
    obtain ⟨a, ha⟩ : ∃ a, l[j + 1]? = some a := ⟨_, List.getElem?_eq_getElem (by omega)⟩
    obtain ⟨b, hb⟩ : ∃ b, l[j]? = some b := ⟨_, List.getElem?_eq_getElem (by omega)⟩
    simp only [insAt, ha, hb]
    split
    · rename_i hab
      refine insAt_upto ht hn2 m j _ (by simpa using hm) (by omega) ?_
      intro i k x y hik hk hx hy hkj
      have e : ∀ q, ((l.set (j + 1) b).set j a)[q]? = if q = j then some a else if q = j + 1 then some b else l[q]? := by
        intro q
        by_cases h1 : q = j
        · subst h1; rw [if_pos rfl, List.getElem?_set_self (by simp; omega)]
        · rw [if_neg h1, List.getElem?_set_ne (Ne.symm h1)]
          by_cases h2 : q = j + 1
          · subst h2; rw [if_pos rfl, List.getElem?_set_self (by omega)]
          · rw [if_neg h2, List.getElem?_set_ne (Ne.symm h2)]
      rw [e] at hx hy
      rw [if_neg hkj] at hy
      by_cases h2 : k = j + 1
      · rw [if_pos h2] at hy
        obtain rfl := Option.some.inj hy
        by_cases h3 : i = j
        · rw [if_pos h3] at hx
          obtain rfl := Option.some.inj hx
          omega
        · rw [if_neg h3, if_neg (by omega)] at hx
          exact h i j x b (by omega) (by omega) hx hb (by omega)
      · rw [if_neg h2] at hy
        by_cases h3 : i = j
        · rw [if_pos h3] at hx
          obtain rfl := Option.some.inj hx
          exact h (j + 1) k a y (by omega) hk ha hy (by omega)
        · rw [if_neg h3] at hx
          by_cases h4 : i = j + 1
          · rw [if_pos h4] at hx
            obtain rfl := Option.some.inj hx
            exact h j k b y (by omega) hk hb hy (by omega)
          · rw [if_neg h4] at hx
            exact h i k x y hik hk hx hy (by omega)
    · rename_i hab
      intro i k x y hik hk hx hy
      by_cases h2 : k = j + 1
      · subst h2
        rw [ha] at hy
        obtain rfl := Option.some.inj hy
        have hba := hn2 _ _ hab
        by_cases h3 : i = j
        · subst h3; rw [hb] at hx; obtain rfl := Option.some.inj hx; exact hba
        · exact ht _ b _ (h i j x b (by omega) (by omega) hx hb (by omega)) hba
      · exact h i k x y hik hk hx hy h2
theorem isort_upto {α : Type} {c : α → α → Int} (ht : ∀ x y z, c x y ≤ 0 → c y z ≤ 0 → c x z ≤ 0) (hn2 : ∀ x y, ¬c x y < 0 → c y x ≤ 0) (l : List α) : Upto c l.length (isort c l) := by
  have key : ∀ k, k < l.length → Upto c (k + 1) (insTo c l k) := by
    intro k
    induction k with
    | zero => intro _ i j a b hij hj; omega
    | succ k ih =>
      intro hk
      have := ih (by omega)
      refine insAt_upto ht hn2 (k + 1 + 1) (k + 1) _ (by rw [insTo_length]; omega) (by omega) ?_
      intro i q a b hiq hq ha hb hne
      exact this i q a b hiq (by omega) ha hb
  cases hl : l.length with
  | zero => intro i j a b hij hj; omega
  | succ n =>
    have := key n (by omega)
    rw [isort, hl]
    exact this
theorem sorted_unique {α : Type} {c : α → α → Int} {l : List α} (hu : ∀ x ∈ l, ∀ y ∈ l, c x y ≤ 0 → c y x ≤ 0 → x = y) : ∀ {k : List α}, l.Perm k → Upto c l.length l → Upto c k.length k → l = k := by
  have up : ∀ {l : List α}, Upto c l.length l → l.Pairwise (fun a b => c a b ≤ 0) := by
    intro l h
    rw [List.pairwise_iff_getElem]
    intro i j hi hj hij
    exact h i j _ _ hij hj (List.getElem?_eq_getElem hi) (List.getElem?_eq_getElem hj)
  intro k hp h1 h2
  exact List.Perm.eq_of_pairwise (fun a b ha hb h1 h2 => hu a ha b (hp.mem_iff.2 hb) h1 h2) (up h1) (up h2) hp
theorem isort_of_perm {α : Type} {c : α → α → Int} (ht : ∀ x y z, c x y ≤ 0 → c y z ≤ 0 → c x z ≤ 0) (hn2 : ∀ x y, ¬c x y < 0 → c y x ≤ 0) {l k : List α} (hp : l.Perm k) (hu : ∀ x ∈ l, ∀ y ∈ l, c x y ≤ 0 → c y x ≤ 0 → x = y) : isort c l = isort c k := by
  refine sorted_unique (c := c) ?_ ((isort_perm c l).trans (hp.trans (isort_perm c k).symm)) ?_ ?_
  · intro x hx y hy
    exact hu x ((isort_perm c l).mem_iff.1 hx) y ((isort_perm c l).mem_iff.1 hy)
  · rw [(isort_perm c l).length_eq]; exact isort_upto ht hn2 l
  · rw [(isort_perm c k).length_eq]; exact isort_upto ht hn2 k
end Go.Proofs.VL
