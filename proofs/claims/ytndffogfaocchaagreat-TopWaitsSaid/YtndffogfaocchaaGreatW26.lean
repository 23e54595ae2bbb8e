import Derived.Test.YtndffogfaocchaaGreatW13
import Derived.Test.YtndffogfaocchaaGreatW15
import Derived.Test.YtndffogfaocchaaGreatW20
import Derived.Test.YtndffogfaocchaaGreatW21
import Derived.Test.YtndffogfaocchaaGreatW25
set_option linter.unusedVariables false
set_option linter.unusedSimpArgs false
set_option linter.unusedSectionVars false
namespace Go.Proofs.VL
open Go Go.RowKit
variable {F : Fence}
def chainsOf (cs : List Count) : List (List Count) := (List.range 20).map fun (k : Nat) => chainOf cs (k : Int)
def pickOf (t H : Nat) (cs : List Count) : List Count × Int := greatest (bound t H) (chainsOf cs)
def dropG (gs : List Group) (cs : List Count) : List Count := cs.filter fun c => !(gs.any fun y => Group.same c.g y)
def findLoop (t H : Nat) : Nat → List Count → List (List Group) × Int → List (List Group) × Int
  | 0, _, acc => acc
  | f + 1, cs, acc => if (pickOf t H cs).2 = 0 then acc else findLoop t H f (dropG ((pickOf t H cs).1.map (·.g)) cs) (acc.1 ++ [(pickOf t H cs).1.map (·.g)], w64 (acc.2 + (pickOf t H cs).2))
def tallN (s : Ship) : Nat := (tallest s.cols).toNat
noncomputable def findOf (s : Ship) (boxes : List Box) : (List (List Group) × Int) × Int :=
  if (shipRight s && boxesOK 20 boxes) = true then (findLoop (tallN s) (2 * s.cols.length) ((groupsOf boxes).length + 1) (groupsOf boxes) ([], 0), 0) else (([], 0), 2)
theorem greatest_ok {α : Type} (f : List α → Int) (ll : List (List α)) : (greatest f ll = ([], 0)) ∨ ((greatest f ll).1 ∈ ll ∧ f (greatest f ll).1 = (greatest f ll).2 ∧ 0 < (greatest f ll).2) := by
  have key : ∀ (ll : List (List α)) (b : List α × Int), ((b = ([], 0)) ∨ (f b.1 = b.2 ∧ 0 < b.2)) → let r := ll.foldl (fun (b : List α × Int) l => if f l > b.2 then (l, f l) else b) b
      (r = b ∨ r.1 ∈ ll) ∧ ((r = ([], 0)) ∨ (f r.1 = r.2 ∧ 0 < r.2)) := by
    intro ll
    induction ll with
    | nil => intro b hb; exact ⟨.inl rfl, hb⟩
    | cons l ll ih =>
      intro b hb
      have hb' : ((if f l > b.2 then (l, f l) else b) = ([], 0)) ∨ (f (if f l > b.2 then (l, f l) else b).1 = (if f l > b.2 then (l, f l) else b).2 ∧ 0 < (if f l > b.2 then (l, f l) else b).2) := by
        split
        · rename_i h
          refine .inr ⟨rfl, ?_⟩
          rcases hb with e | ⟨_, h2⟩
          · rw [e] at h; exact h
          · simp only; omega
        · exact hb
      obtain ⟨h1, h2⟩ := ih _ hb'
      refine ⟨?_, h2⟩
      simp only [List.foldl_cons]
      rcases h1 with h1 | h1
      · rw [h1]
        split
        · exact .inr (.head _)
        · exact .inl rfl
      · exact .inr (.tail _ h1)
  have e : greatest f ll = ll.foldl (fun (b : List α × Int) l => if f l > b.2 then (l, f l) else b) ([], 0) := by cases ll <;> rfl
  rw [e]
  obtain ⟨h1, h2⟩ := key ll ([], 0) (.inl rfl)
  rcases h2 with h2 | ⟨h2, h3⟩
  · exact .inl h2
  · rcases h1 with h1 | h1
    · exact .inl h1
    · exact .inr ⟨h1, h2, h3⟩
theorem bound_nil (t H : Nat) : bound t H [] = 0 := by simp [bound, boundRow]
theorem tallest_bd {cols : List Column} (h : ∀ c ∈ cols, 1 ≤ c.tiers ∧ c.tiers ≤ 10) : 0 ≤ tallest cols ∧ tallest cols ≤ 10 := by
  cases cols with
  | nil => simp [tallest]
  | cons c cs =>
    have key : ∀ (l : List Column) (m : Int), (∀ c ∈ l, 1 ≤ c.tiers ∧ c.tiers ≤ 10) → 0 ≤ m → m ≤ 10 → 0 ≤ l.foldl (fun m (c : Column) => if m < c.tiers then c.tiers else m) m ∧ l.foldl (fun m (c : Column) => if m < c.tiers then c.tiers else m) m ≤ 10 := by
      intro l
      induction l with
      | nil => intro m _ h1 h2; exact ⟨h1, h2⟩
      | cons c l ih =>
        intro m hl h1 h2
        have hc := hl c (.head _)
        simp only [List.foldl_cons]
        refine ih _ (fun d hd => hl d (.tail _ hd)) ?_ ?_ <;> split <;> omega
    have hc := h c (.head _)
    exact key cs c.tiers (fun d hd => h d (.tail _ hd)) (by omega) (by omega)
theorem follow_lt {after : List Int} {n : Nat} (hl : Leads n 0 after) : ∀ (f : Nat) (i : Int), (i < 0 ∨ ∃ v : Nat, i = v ∧ v < n) → ∀ j ∈ follow after f i, j < n
  | 0, i, _, j, hj => by cases hj
  | f + 1, i, hi, j, hj => by
    rw [follow] at hj
    split at hj
    · cases hj
    · rename_i hneg
      rcases hi with hi | ⟨v, rfl, hv⟩
      · exact absurd hi hneg
      · rcases List.mem_cons.1 hj with rfl | hj
        · simpa using hv
        · refine follow_lt hl f _ ?_ j hj
          rcases hl v (Nat.zero_le _) hv with h | ⟨u, h1, _, h3⟩
          · exact .inl (by simp only [Int.toNat_natCast]; omega)
          · exact .inr ⟨u, by simpa using h1, h3⟩
theorem roundTo_leads (ab : Nat → Nat → Bool) (w : Nat → Int) {n i : Nat} {s : (List Int × List Int) × Int} (hi : i < n) (h1 : s.1.1.length = n) (h2 : s.1.2.length = n) (hl : Leads n (i + 1) s.1.2) (hf : s.2 < n) :
    (roundTo ab w n i s).1.1.length = n ∧ (roundTo ab w n i s).1.2.length = n ∧ Leads n i (roundTo ab w n i s).1.2 ∧ (roundTo ab w n i s).2 < n := by
  obtain ⟨a1, a2⟩ := innerTo_len ab i (n - 1) (s.1.1, s.1.2.set i (-1))
  have h0 : Leads n i (s.1.2.set i (-1)) := by
    intro q hq hqn
    rw [tAt_set (by omega)]
    split
    · exact .inl rfl
    · exact hl q (by omega) hqn
  have hb := innerTo_leads ab (n - 1) (s.1.1, s.1.2.set i (-1)) (by omega) (by simp [h2]) h0
  refine ⟨by simp only [roundTo, List.length_set, a1, h1], by simp only [roundTo, a2, List.length_set, h2], hb, ?_⟩
  simp only [roundTo]
  split
  · omega
  · exact hf
theorem outerTo_leads (ab : Nat → Nat → Bool) (w : Nat → Int) {n : Nat} : ∀ (i : Nat) (s : (List Int × List Int) × Int), i ≤ n → s.1.1.length = n → s.1.2.length = n → Leads n i s.1.2 → s.2 < n → Leads n 0 (outerTo ab w n i s).1.2 ∧ (outerTo ab w n i s).2 < n
  | 0, s, _, _, _, h, hf => ⟨h, hf⟩
  | i + 1, s, hi, h1, h2, h, hf => by
    obtain ⟨k1, k2, k3, k4⟩ := roundTo_leads ab w (by omega) h1 h2 h hf
    exact outerTo_leads ab w i _ (by omega) k1 k2 k3 k4
theorem chainIdx_lt (ab : Nat → Nat → Bool) (w : Nat → Int) (n : Nat) : ∀ j ∈ chainIdx ab w n, j < n := by
  rw [chainIdx]
  cases n with
  | zero => intro j hj; cases hj
  | succ n =>
    obtain ⟨h1, h2⟩ := outerTo_leads ab w (n := n + 1) (n + 1) ((List.replicate (n + 1) 0, List.replicate (n + 1) 0), -1) (Nat.le_refl _) (by simp) (by simp) (fun q h h' => by omega) (by simp only; omega)
    refine follow_lt h1 _ _ ?_
    rcases Int.lt_or_le (outerTo ab w (n + 1) (n + 1) ((List.replicate (n + 1) 0, List.replicate (n + 1) 0), -1)).2 0 with h | h
    · exact .inl h
    · exact .inr ⟨_, (Int.toNat_of_nonneg h).symm, by omega⟩
theorem follow_len (after : List Int) : ∀ (f : Nat) (i : Int), (follow after f i).length ≤ f
  | 0, _ => Nat.zero_le _
  | f + 1, i => by
    rw [follow]
    split
    · simp
    · have := follow_len after f (tAt after i.toNat)
      simp; omega
theorem chainOf_mem {cs : List Count} {k : Int} {c : Count} (h : c ∈ chainOf cs k) : c ∈ cs := by
  rw [chainOf, chainHere, List.mem_map] at h
  obtain ⟨i, hi, rfl⟩ := h
  have hlt := chainIdx_lt _ _ _ i hi
  rw [List.getD_eq_getElem?_getD, List.getElem?_eq_getElem hlt]
  exact (List.mem_filter.1 (List.getElem_mem hlt)).1
theorem chainOf_len (cs : List Count) (k : Int) : (chainOf cs k).length ≤ cs.length := by
  rw [chainOf, chainHere, List.length_map, chainIdx]
  exact Nat.le_trans (follow_len _ _ _) (List.length_filter_le _ _)
theorem pick_ok (t H : Nat) (cs : List Count) : (pickOf t H cs).2 = 0 ∨ ((pickOf t H cs).1 ≠ [] ∧ (pickOf t H cs).1.length ≤ cs.length ∧ ∀ c ∈ (pickOf t H cs).1, c ∈ cs) := by
  rcases greatest_ok (bound t H) (chainsOf cs) with h | ⟨h1, h2, h3⟩
  · exact .inl (by rw [pickOf, h])
  · refine .inr ⟨fun e => ?_, ?_, fun c hc => ?_⟩
    · rw [pickOf] at e
      rw [e, bound_nil] at h2
      omega
    · obtain ⟨k, _, hk⟩ := List.mem_map.1 h1
      rw [pickOf, ← hk]; exact chainOf_len _ _
    · obtain ⟨k, _, hk⟩ := List.mem_map.1 h1
      rw [pickOf, ← hk] at hc; exact chainOf_mem hc
theorem dropG_lt {l cs : List Count} (hne : l ≠ []) (hm : ∀ c ∈ l, c ∈ cs) : (dropG (l.map (·.g)) cs).length < cs.length := by
  cases l with
  | nil => exact absurd rfl hne
  | cons c l =>
    refine List.length_filter_lt_length_iff_exists.2 ⟨c, hm c (.head _), ?_⟩
    have : (Group.same c.g c.g) = true := (Group.same_iff _ _).2 rfl
    simp [this]
def encGs (xs : List (List Group)) : List (List (List D)) := xs.map fun l => l.map Group.enc
structure FSt where
  vs : List Value
  xs : List (List Group)
  cs : List Count
  sum : Int
  fuel : Nat
abbrev findB (s : Ship) (boxes : List Box) (x : FSt) : Env := [(.s 7, .row true 59 (scs x.vs)), (.c 900 0, .ob [] (InnerP Tryz.prog 61 x.vs (encGs x.xs) none)), (.s 8, Iv64 x.sum), (.s 9, .row true 148 (x.cs.map Count.enc)), (.s 2, .rp s.enc 0), (.s 1, Vs (boxes.map Box.enc))]
theorem scal_count (l : List Count) : ∀ cs ∈ l.map Count.enc, ∀ x ∈ cs, scalD x = true := by
  intro cs h x hx
  obtain ⟨c, _, rfl⟩ := List.mem_map.1 h
  simp [Count.enc] at hx
  rcases hx with rfl | rfl | rfl | rfl <;> rfl
set_option maxRecDepth 100000 in
set_option maxHeartbeats 4000000 in
theorem f13 (hF : Wide F) (hro : F.round = none) (s : Ship) (boxes : List Box) (hs : s.small) (hb : boxes.length ≤ 12) :
    Fn Tryz.prog F 13 2 [(.s 0, Vd s.enc), (.s 1, Vs (boxes.map Box.enc))] (fun E1 => ∃ x : Unit, True ∧ E1 = outO 2 (fun _ => RowsP Tryz.prog 59 61 ((findOf s boxes).1.1.map fun l => l.map Group.enc)) (fun _ => (findOf s boxes).1.2) (fun _ => (findOf s boxes).2) x) := by
  have h57 := f57 hF hro s boxes hs (by omega)
  refine Fn.of_AWO hF hro (show Tryz.prog.funcs[13]? = some Tryz.f13 from Tryz.func13) rfl (by decide) rfl rfl (Nat.le_of_ble_eq_true rfl) ?_
  rw [findOf]
  generalize hq : (shipRight s && boxesOK 20 boxes) = q at h57
  (repeat' first | apply Wq | refine Ws hF hτ rfl ?_ | apply Wb | apply Wl | apply Wk | apply We | apply Wc | apply Wd | refine Wt rfl rfl ?_ | refine Wf rfl rfl ?_ | refine Wi rfl rfl (fun h => ?_) (fun h => ?_) | refine Wx hF hτ rfl rfl rfl rfl rfl rfl rfl rfl (fun h => ?_) (fun h => ?_) | apply Wn)
  refine AL.opM (OpM.call hF rfl rfl rfl rfl (h57) rfl rfl rfl) rfl rfl ?_
  refine Wv hF hτ rfl ?_
  (repeat' first | apply Wq | refine Ws hF hτ rfl ?_ | apply Wb | apply Wl | apply Wk | apply We | apply Wc | apply Wd | refine Wt rfl rfl ?_ | refine Wf rfl rfl ?_ | refine Wi rfl rfl (fun h => ?_) (fun h => ?_) | refine Wx hF hτ rfl rfl rfl rfl rfl rfl rfl rfl (fun h => ?_) (fun h => ?_) | apply Wn)
  · have hq0 : q = false := by simpa using h
    refine AW.ent (Ent.innerNil 900 0 61 rfl) ?_
    refine AW.ent (Ent.rowsPack (l := .s 4) (g := .c 900 0) (vs := []) rfl rfl rfl) ?_
    refine AW.ret ⟨.inr rfl, (), trivial, ?_, ?_, ?_⟩ <;> rw [if_neg (by rw [hq0]; decide)] <;> rfl
  · have hq1 : q = true := by simpa using h
    rw [if_pos hq1]
    have hsr : ShipRight s := shipRight_iff.1 (by rw [hq1] at hq; simp only [Bool.and_eq_true] at hq; exact hq.1)
    have htb := tallest_bd hsr.tiers
    have htt : tallest s.cols = (tallN s : Int) := by rw [tallN]; omega
    have htl : tallN s ≤ 10 := by omega
    have hcl : (countsOf boxes).length ≤ 12 := Nat.le_trans (countsOf_length boxes) hb
    have h61 := fun l hl hc => f61 hF hro s (tallN s) l hs.cols (by omega) htt hl hc
    generalize tallN s = t at *
    generalize hH : 2 * s.cols.length = H at *
    refine AL.opM (OpM.call hF rfl rfl rfl rfl (f58 hF hro boxes (by omega) hcl) rfl rfl rfl) rfl rfl ?_
    refine Wv hF hτ rfl ?_
    (repeat' first | apply Wq | refine Ws hF hτ rfl ?_ | apply Wb | apply Wl | apply Wk | apply We | apply Wc | apply Wd | refine Wt rfl rfl ?_ | refine Wf rfl rfl ?_ | refine Wi rfl rfl (fun h => ?_) (fun h => ?_) | refine Wx hF hτ rfl rfl rfl rfl rfl rfl rfl rfl (fun h => ?_) (fun h => ?_) | apply Wn)
    refine AW.ent (Ent.frzs (ls := [.s 2]) rfl) ?_
    refine AW.ent (Ent.innerNil 900 0 61 rfl) ?_
    have hsm : ∀ c ∈ groupsOf boxes, c.small := fun c hc => by
      have := countsOf_upto boxes c ((isort_perm _ _).mem_iff.1 hc)
      exact ⟨this.1, by have := this.2.1; omega, this.2.2.1, by have := this.2.2.2; omega⟩
    have hgl : (groupsOf boxes).length ≤ 12 := by rw [groupsOf, (isort_perm _ _).length_eq]; exact hcl
    generalize hfin : findLoop t H ((groupsOf boxes).length + 1) (groupsOf boxes) ([], 0) = fin
    generalize groupsOf boxes = gs at *
    refine AW.loopX (X := FSt) (findB s boxes) (fun x => findLoop t H x.fuel x.cs (x.xs, x.sum) = fin ∧ x.cs.length < x.fuel ∧ x.cs.length + x.xs.length ≤ 12 ∧ (∀ c ∈ x.cs, c.small) ∧ x.vs.length = x.xs.length) (fun x => x.cs.length) (fun _ => rfl) ⟨[], [], gs, 0, gs.length + 1⟩ ⟨hfin, by simp, by simpa using hgl, hsm, rfl⟩ ?_ ?_
    · (repeat' first | exact Sub.nil | refine Sub.put rfl ?_ | refine Sub.put ?_ ?_)
    rintro ⟨vs, xs, cs, sum, fuel⟩ ⟨hJ1, hJ2, hJ3, hJ4, hJ5⟩
    simp only at hJ1 hJ2 hJ3 hJ4 hJ5 ⊢
    obtain ⟨fuel, rfl⟩ : ∃ f, fuel = f + 1 := ⟨fuel - 1, by omega⟩
    rw [findLoop] at hJ1
    have hpk := pick_ok t H cs
    (repeat' first | apply Wq | refine Ws hF hτ rfl ?_ | apply Wb | apply Wl | apply Wk | apply We | apply Wn)
    refine AW.loopX (X := Nat) (fun k => (.s 23, Iv64 k) :: (.s 10, .row true 139 (((chainsOf cs).take k).map encF)) :: findB s boxes ⟨vs, xs, cs, sum, fuel + 1⟩) (fun k => k ≤ 20) (fun k => 20 - k) (fun _ => rfl) 0 (Nat.zero_le _) ?_ ?_
    · (repeat' first | exact Sub.nil | refine Sub.put rfl ?_ | refine Sub.put ?_ ?_)
    intro k hk
    (repeat' first | apply Wq | refine Ws hF hτ rfl ?_ | apply Wb | apply Wl | apply Wk | apply We | apply Wc | apply Wd | refine Wt rfl rfl ?_ | refine Wf rfl rfl ?_ | refine Wi rfl rfl (fun h => ?_) (fun h => ?_) | refine Wx hF hτ rfl rfl rfl rfl rfl rfl rfl rfl (fun h => ?_) (fun h => ?_) | apply Wn)
    · have hk20 : k < 20 := by have := of_decide_eq_true h; omega
      have hck : (chainsOf cs)[k]? = some (chainOf cs k) := by simp [chainsOf, hk20]
      have h59 := f59 hF hro cs k (by omega) hJ4
      refine AL.op rfl (OpTo.lend (d := 29) (e := 148) (Ea := []) (Eb := (.s 26, .ref (.s 10)) :: (.s 27, .ref (.s 9)) :: (.s 28, Iv64 k) :: (.s 23, Iv64 k) :: (.s 10, .row true 139 (((chainsOf cs).take k).map encF)) :: findB s boxes ⟨vs, xs, cs, sum, fuel + 1⟩) (K' := [26, 27, 28, 23, 10, 7, 8, 9, 2, 1]) Sub.nil ?_ rfl rfl (fun k hk => by cases hk) rfl ((OpM.call hF rfl rfl rfl rfl h59 rfl rfl rfl) _ (Sub.refl _) rfl) rfl (scal_count _)) ?_
      · (repeat' first | exact Sub.nil | refine Sub.put rfl ?_ | refine Sub.put ?_ ?_)
      refine AL.ent (Ent.frzs (ls := [.s 29]) rfl) ?_
      refine AL.opM (OpM.buildSlice hF rfl (hτ _ _ rfl) rfl (hτ _ _ rfl) rfl rfl rfl (by decide) (by decide) rfl rfl) rfl rfl ?_
      refine AL.op rfl (OpTo.append hF rfl rfl rfl rfl (hτ _ _ rfl) rfl (hτ _ _ rfl) rfl rfl rfl rfl (by intro cs h; cases h with | head => rfl | tail _ h => cases h) (by simp [Base.xs, chunks, lim]; omega) (by simp [Base.xs, chunks, lim]; omega) rfl rfl rfl) ?_
      refine Wv hF hτ rfl ?_
      (repeat' first | apply Wq | refine Ws hF hτ rfl ?_ | apply Wb | apply Wl | apply Wk | apply We | apply Wc | apply Wd | refine Wt rfl rfl ?_ | refine Wf rfl rfl ?_ | refine Wi rfl rfl (fun h => ?_) (fun h => ?_) | refine Wx hF hτ rfl rfl rfl rfl rfl rfl rfl rfl (fun h => ?_) (fun h => ?_) | apply Wn)
      refine ⟨k + 1, by omega, by omega, ?_⟩
      (repeat' first | exact Sub.nil | refine Sub.put rfl ?_ | refine Sub.put ?_ ?_)
      · exact congrArg (fun z => some (Iv64 z)) ((wrap_id (by omega) (by omega)).trans (by simp))
      · refine congrArg (fun z => some (V.row true 139 z)) ?_
        rw [take_snoc hck]
        simp [chunks]
        rfl
    · have h60 : FnV Tryz.prog F 60 [Vs ((chainsOf cs).map encF), .fn 61 [.rp s.enc 0]] (.tu [Vs ((pickOf t H cs).1.map Count.enc), Iv64 (pickOf t H cs).2]) := by
        refine (f60 hF hro (chainsOf cs) (bound t H) (fun l => l.length ≤ 1000 ∧ ∀ c ∈ l, c.small) (by simp [chainsOf]) (fun l hl => ?_)).conseq ⟨.refl _, .fn (h61 [] (by simp) (fun c h => by cases h)).callable rfl ?_, trivial⟩
        · obtain ⟨j, _, rfl⟩ := List.mem_map.1 hl
          exact ⟨Nat.le_trans (chainOf_len _ _) (by omega), fun c hc => hJ4 c (chainOf_mem hc)⟩
        · rintro vs r ⟨l, hl, rfl, rfl⟩
          exact h61 l hl.1 hl.2
      have hk20 : k = 20 := by have := of_decide_eq_false h; omega
      subst hk20
      rw [show (chainsOf cs).take 20 = chainsOf cs from List.take_of_length_le (by simp [chainsOf])]
      generalize pickOf t H cs = pk at *
      refine AL.ent (Ent.frzs (ls := [.s 10]) rfl) ?_
      refine AL.opM (OpM.call hF rfl rfl rfl rfl (h60) rfl rfl rfl) rfl rfl ?_
      refine Wv hF hτ rfl ?_
      (repeat' first | apply Wq | refine Ws hF hτ rfl ?_ | apply Wb | apply Wl | apply Wk | apply We | apply Wc | apply Wd | refine Wt rfl rfl ?_ | refine Wf rfl rfl ?_ | refine Wi rfl rfl (fun h => ?_) (fun h => ?_) | refine Wx hF hτ rfl rfl rfl rfl rfl rfl rfl rfl (fun h => ?_) (fun h => ?_) | apply Wn)
      · have hz : pk.2 = 0 := by simpa using h
        rw [if_pos hz] at hJ1
        refine AW.ent (Ent.rowsPack (l := .s 4) (g := .c 900 0) (vs := vs) rfl rfl rfl) ?_
        refine AW.ret ⟨.inr rfl, (), trivial, ?_, ?_, ?_⟩ <;> first | (rw [← hJ1]; rfl) | rfl
      · have hz : ¬ pk.2 = 0 := by simpa using h
        rw [if_neg hz] at hJ1
        obtain ⟨hne, hpl, hpm⟩ := hpk.resolve_left hz
        refine AW.ent (Ent.nilRow (t := 14) (i := 0) (m := true) (e := 61) rfl) ?_
        refine AW.range hF rfl rfl rfl rfl rfl rfl rfl rfl rfl (pk.1.map Count.enc).length (by simp [lim]; omega) (fun j => (.s 14, .bx 59 [.ref (.c 14 0)]) :: (.c 14 0, .row true 61 (((pk.1.take j).map (·.g)).map Group.enc)) :: (.s 43, Vs (pk.1.map Count.enc)) :: (.s 13, Iv64 pk.2) :: findB s boxes ⟨vs, xs, cs, sum, fuel + 1⟩) ?_ ?_ (fun j hj => ?_) ?_
        · exact fun _ => rfl
        · (repeat' first | exact Sub.nil | refine Sub.put rfl ?_ | refine Sub.put ?_ ?_)
        · obtain ⟨c, hcj⟩ := get_ex hj
          have hjl : ((pk.1.take j).map (·.g)).length ≤ 1000 := by simp; omega
          rw [take_snoc hcj, List.map_append]
          generalize (pk.1.take j).map (·.g) = acc at hjl
          (repeat' first | apply Wq | refine Ws hF hτ rfl ?_ | apply Wb | apply Wl | apply Wk | apply We | apply Wn)
          refine AL.opM (OpM.indexD hF rfl (hτ _ _ rfl) rfl (hτ _ _ rfl) rfl (i := j) rfl ( get_enc Count.enc hcj) rfl rfl rfl) rfl rfl ?_
          refine Wv hF hτ rfl ?_
          (repeat' first | apply Wq | refine Ws hF hτ rfl ?_ | apply Wb | apply Wl | apply Wk | apply We | apply Wc | apply Wd | refine Wt rfl rfl ?_ | refine Wf rfl rfl ?_ | refine Wi rfl rfl (fun h => ?_) (fun h => ?_) | refine Wx hF hτ rfl rfl rfl rfl rfl rfl rfl rfl (fun h => ?_) (fun h => ?_) | apply Wn)
          refine AL.opM (OpM.buildSlice hF rfl (hτ _ _ rfl) rfl (hτ _ _ rfl) rfl rfl rfl (by decide) (by decide) rfl rfl) rfl rfl ?_
          refine AL.op rfl (OpTo.append hF rfl rfl rfl rfl (hτ _ _ rfl) rfl (hτ _ _ rfl) rfl rfl rfl rfl (by intro cs h; cases h with | head => rfl | tail _ h => cases h) (by simp [Base.xs, chunks, lim]; omega) (by simp [Base.xs, chunks, lim]; omega) rfl rfl rfl) ?_
          refine Wv hF hτ rfl ?_
          (repeat' first | apply Wq | refine Ws hF hτ rfl ?_ | apply Wb | apply Wl | apply Wk | apply We | apply Wc | apply Wd | refine Wt rfl rfl ?_ | refine Wf rfl rfl ?_ | refine Wi rfl rfl (fun h => ?_) (fun h => ?_) | refine Wx hF hτ rfl rfl rfl rfl rfl rfl rfl rfl (fun h => ?_) (fun h => ?_) | apply Wn)
          (repeat' first | exact Sub.nil | refine Sub.put rfl ?_ | refine Sub.put ?_ ?_)
          refine congrArg (fun z => some (V.row true 61 z)) ?_
          simp [chunks]
          rfl
        · rw [show List.take (pk.1.map Count.enc).length pk.1 = pk.1 by simp]
          have hlt := dropG_lt hne hpm
          have hgl2 : (pk.1.map (·.g)).length ≤ 1000 := by simp; omega
          have hgne : (pk.1.map (·.g)).map Group.enc ≠ [] := by simpa using hne
          generalize pk.1.map (·.g) = grp at *
          have hdl : (dropG grp cs).length ≤ cs.length := List.length_filter_le _ _
          have hd4 : ∀ c ∈ dropG grp cs, c.small := fun c hc => hJ4 c (List.mem_filter.1 hc).1
          (repeat' first | apply Wq | refine Ws hF hτ rfl ?_ | apply Wb | apply Wl | apply Wk | apply We | apply Wc | apply Wd | refine Wt rfl rfl ?_ | refine Wf rfl rfl ?_ | refine Wi rfl rfl (fun h => ?_) (fun h => ?_) | refine Wx hF hτ rfl rfl rfl rfl rfl rfl rfl rfl (fun h => ?_) (fun h => ?_) | apply Wn)
          refine AL.entX (EntX.valOf (l := .s 56) 901 0 rfl rfl hgne rfl) (fun v _ => ?_)
          refine AL.opM (OpM.buildSlice hF rfl (hτ _ _ rfl) rfl (hτ _ _ rfl) rfl rfl rfl (by decide) (by decide) rfl rfl) rfl rfl ?_
          refine AL.op rfl (OpTo.append hF rfl rfl rfl rfl (hτ _ _ rfl) rfl (hτ _ _ rfl) rfl rfl rfl rfl (by intro cs h; cases h with | head => rfl | tail _ h => cases h) (by simp [Base.xs, chunks, scs, lim]; omega) (by simp [Base.xs, chunks, scs, lim]; omega) rfl rfl rfl) ?_
          refine Wv hF hτ rfl ?_
          (repeat' first | apply Wq | refine Ws hF hτ rfl ?_ | apply Wb | apply Wl | apply Wk | apply We | apply Wc | apply Wd | refine Wt rfl rfl ?_ | refine Wf rfl rfl ?_ | refine Wi rfl rfl (fun h => ?_) (fun h => ?_) | refine Wx hF hτ rfl rfl rfl rfl rfl rfl rfl rfl (fun h => ?_) (fun h => ?_) | apply Wn)
          have h64 := fun c => f64 hF hro c grp hgl2
          have h63 : FnX Tryz.prog F 63 2 [(.s 0, .row true 148 (cs.map Count.enc)), (.s 1, .fn 64 [.rp [.sl (grp.map Group.enc)] 0])] (.row true 148 ((dropG grp cs).map Count.enc)) [] := by
            refine (f63 hF hro cs (fun c => grp.any fun y => Group.same c.g y) (by omega)).conseq (A' := [(.s 0, .row true 148 (cs.map Count.enc)), (.s 1, .fn 64 [.rp [.sl (grp.map Group.enc)] 0])]) ⟨rfl, .refl _, rfl, .fn (h64 noC).callable rfl ?_, trivial⟩
            rintro vs r ⟨c, rfl, rfl⟩
            exact h64 c
          refine AL.op rfl (OpTo.lend (d := 64) (e := 148) (Ea := [(.s 62, .ref (.s 9)), (.s 9, .row true 148 (cs.map Count.enc))]) (Eb := [(.s 63, .fn 64 [.ref (.s 14)]), (.s 14, .bx 59 [.ref (.c 14 0)]), (.c 14 0, .row true 61 (grp.map Group.enc)), (.s 7, .row true 59 (scs vs ++ [[.sc v]])), (.c 901 0, .ob [.c 14 0] (ValP v)), (.c 900 0, .ob [] (InnerP Tryz.prog 61 vs (encGs xs) none)), (.s 8, Iv64 (w64 (sum + pk.2))), (.s 2, .rp s.enc 0), (.s 1, Vs (boxes.map Box.enc))]) (K' := [63, 14, 7, 8, 2, 1]) ?_ ?_ rfl rfl (fun k hk => by cases hk) rfl (OpTo.callX hF rfl rfl rfl rfl rfl rfl rfl h63 rfl rfl rfl rfl rfl) rfl (scal_count _)) ?_
          · (repeat' first | exact Sub.nil | refine Sub.put rfl ?_ | refine Sub.put ?_ ?_)
          · (repeat' first | exact Sub.nil | refine Sub.put rfl ?_ | refine Sub.put ?_ ?_)
          refine AL.ent (Ent.innerPush (g := .c 900 0) (h := .c 901 0) (k := .c 14 0) rfl rfl rfl rfl) ?_
          refine Wv hF hτ rfl ?_
          (repeat' first | apply Wq | refine Ws hF hτ rfl ?_ | apply Wb | apply Wl | apply Wk | apply We | apply Wc | apply Wd | refine Wt rfl rfl ?_ | refine Wf rfl rfl ?_ | refine Wi rfl rfl (fun h => ?_) (fun h => ?_) | refine Wx hF hτ rfl rfl rfl rfl rfl rfl rfl rfl (fun h => ?_) (fun h => ?_) | apply Wn)
          refine ⟨⟨vs ++ [v], xs ++ [grp], dropG grp cs, w64 (sum + pk.2), fuel⟩, hlt, ⟨hJ1, by simp only; omega, by simp; omega, hd4, by simp [hJ5]⟩, ?_⟩
          (repeat' first | exact Sub.nil | refine Sub.put rfl ?_ | refine Sub.put ?_ ?_)
          · simp [scs]
            rfl
          · simp [encGs]
            rfl
end Go.Proofs.VL
namespace Go.Proofs.VL
open Go Go.RowKit
variable {F : Fence}
def exS : Ship := ⟨[⟨0, 0, false, 2, 0, 0, 0, 0, 0, 0, 0⟩], []⟩
def exB : List Box := [⟨1, ByteArray.empty, 40, false, 1, 0, 2, 0, false⟩, ⟨2, ByteArray.empty, 40, false, 1, 1, 3, 0, false⟩]
def exP : List (List Stowed) := [[⟨1, ⟨0, 0, 0⟩⟩], [⟨1, ⟨0, 0, 0⟩⟩, ⟨2, ⟨0, 1, 0⟩⟩], [⟨2, ⟨0, 0, 0⟩⟩], []]
theorem get_lt {α : Type} {l : List α} {k : Nat} {x : α} (h : l[k]? = some x) : k < l.length := (List.getElem?_eq_some_iff.1 h).1
theorem exS_right : ShipRight exS := by
  refine ⟨by decide, fun k c h => ?_, fun k v h => by simp [exS] at h, fun p hp => ?_⟩
  · have := get_lt h
    simp [exS] at this
    subst this
    simp [exS] at h
    subst h
    decide
  · have e : metCov exS.covers (metCols exS.cols []) = [([0, 0, 0], 1)] := by decide
    rw [e] at hp
    simp at hp
    subst hp
    decide
theorem exS_small : exS.small := ⟨by decide, by decide, fun x h => by simp [exS] at h⟩
def standsB (s : Ship) (boxes : List Box) (l : List Stowed) (k : Nat) (x : Stowed) : Bool :=
  (boxOf boxes x.box).isSome && (Nat.beq k 0 || (match l[k - 1]? with | some y => decide (y.box < x.box) | none => true)) && slotRight s x.slot ((boxOf boxes x.box).getD box0).size && held (l.map (·.slot)) x.slot && (l.take k).all fun y => !(x.slot.meet y.slot)
theorem standsB_ok {s : Ship} {boxes : List Box} {l : List Stowed} {k : Nat} {x : Stowed} (h : standsB s boxes l k x = true) : StandsRight s boxes l k x := by
  simp only [standsB, Bool.and_eq_true] at h
  obtain ⟨⟨⟨⟨h1, h2⟩, h3⟩, h4⟩, h5⟩ := h
  refine ⟨h1, fun y hk hy => ?_, h3, h4, fun j y hj hy => ?_⟩
  · rw [hy] at h2
    have : Nat.beq k 0 = false := by cases hb : Nat.beq k 0 with | false => rfl | true => have := Nat.eq_of_beq_eq_true hb; omega
    rw [this] at h2
    simpa using h2
  · have := List.all_eq_true.1 h5 y (List.mem_of_getElem? (by rw [List.getElem?_take, if_pos hj]; exact hy))
    simpa using this
def stowB (s : Ship) (boxes : List Box) (l : List Stowed) : Bool :=
  ((List.range l.length).all fun k => match l[k]? with | some x => standsB s boxes l k x | none => true) && (List.range s.cols.length).all fun k => match s.cols[k]? with | some c => fitsAt s boxes l c k | none => true
theorem stowB_ok {s : Ship} {boxes : List Box} {l : List Stowed} (hs : ShipRight s) (h : stowB s boxes l = true) : stowRight s boxes l = true := by
  simp only [stowB, Bool.and_eq_true] at h
  refine stowRight_yes ⟨shipRight_iff.2 hs, fun k x hk => ?_, fun k c hk => ?_⟩
  · have := List.all_eq_true.1 h.1 k (List.mem_range.2 (get_lt hk))
    rw [hk] at this
    exact standsB_ok this
  · have := List.all_eq_true.1 h.2 k (List.mem_range.2 (get_lt hk))
    rw [hk] at this
    exact this
theorem ex_check : planCheck exS exB 4 exP = (0, 0) := by
  have hs : shipRight exS = true := shipRight_iff.2 exS_right
  have h0 : stowRight exS exB [⟨1, ⟨0, 0, 0⟩⟩] = true := stowB_ok exS_right (by decide)
  have h1 : stowRight exS exB [⟨1, ⟨0, 0, 0⟩⟩, ⟨2, ⟨0, 1, 0⟩⟩] = true := stowB_ok exS_right (by decide)
  have h2 : stowRight exS exB [⟨2, ⟨0, 0, 0⟩⟩] = true := stowB_ok exS_right (by decide)
  have h3 : stowRight exS exB [] = true := stowB_ok exS_right (by decide)
  have hb : ¬ boxesOK 4 exB = false := by decide +kernel
  have hn : ¬ ((exP.length : Nat) : Int) ≠ 4 := by decide +kernel
  have ht : ¬ (true = false) := by decide
  have e0 : ¬ eqBy (fun (x : Stowed) id => x.box == id) [⟨1, ⟨0, 0, 0⟩⟩] (aboard exB 0) = false := by decide +kernel
  have e1 : ¬ eqBy (fun (x : Stowed) id => x.box == id) [⟨1, ⟨0, 0, 0⟩⟩, ⟨2, ⟨0, 1, 0⟩⟩] (aboard exB 1) = false := by decide +kernel
  have e2 : ¬ eqBy (fun (x : Stowed) id => x.box == id) [⟨2, ⟨0, 0, 0⟩⟩] (aboard exB 2) = false := by decide +kernel
  have e3 : ¬ eqBy (fun (x : Stowed) id => x.box == id) [] (aboard exB 3) = false := by decide +kernel
  rw [planCheck, hs, if_neg ht, if_neg hb, if_neg hn]
  simp only [exP, checkFrom, h0, h1, h2, h3, if_neg ht]
  rw [if_neg (show ¬ eqBy (fun (x : Stowed) id => x.box == id) [⟨1, ⟨0, 0, 0⟩⟩] (aboard exB ((0 : Nat) : Int)) = false from e0), if_neg (show ¬ eqBy (fun (x : Stowed) id => x.box == id) [⟨1, ⟨0, 0, 0⟩⟩, ⟨2, ⟨0, 1, 0⟩⟩] (aboard exB ((0 + 1 : Nat) : Int)) = false from e1), if_neg (show ¬ eqBy (fun (x : Stowed) id => x.box == id) [⟨2, ⟨0, 0, 0⟩⟩] (aboard exB ((0 + 1 + 1 : Nat) : Int)) = false from e2), if_neg (show ¬ eqBy (fun (x : Stowed) id => x.box == id) [] (aboard exB ((0 + 1 + 1 + 1 : Nat) : Int)) = false from e3)]
theorem ex_restows : restowsTo exS exP 4 = [[], [], [2], []] := by decide
theorem ex_find : findOf exS exB = (([[⟨0, 2⟩, ⟨1, 3⟩]], 1), 0) := by
  have hb : (shipRight exS && boxesOK 20 exB) = true := by
    have : boxesOK 20 exB = true := by decide +kernel
    rw [shipRight_iff.2 exS_right, this]; rfl
  have hf : findLoop (tallN exS) (2 * exS.cols.length) ((groupsOf exB).length + 1) (groupsOf exB) ([], 0) = ([[⟨0, 2⟩, ⟨1, 3⟩]], 1) := by kernel_rfl
  rw [findOf, if_pos hb, hf]
def denil : D → D | .nl => .sl [] | d => d
theorem Imp.denil {P : Program} {xs : List (List D)} : Imp P (.d (.sl xs)) (.d (.sl (xs.map fun cs => cs.map VL.denil))) := by
  intro w N L T c S hNL h
  cases h with
  | d _ _ _ h =>
    refine .d _ _ _ ?_
    cases h with
    | nil => exact .nil _ _
    | sl xs b o k cap cv hl hcap hk hc hr =>
      have := RepD.sl (w := w) (N := N) (xs.map fun cs => cs.map VL.denil) b o k cap cv (by simpa using hl) (by simpa using hcap) (fun i cs hi => by
        simp only [List.getElem?_map, Option.map_eq_some_iff] at hi
        obtain ⟨a, ha, rfl⟩ := hi
        rw [List.length_map]; exact hk i a ha) (fun i j hi hj => hc i j (by simpa using hi) hj) (fun i j cs d hi hj => by
        simp only [List.getElem?_map, Option.map_eq_some_iff] at hi
        obtain ⟨a, ha, rfl⟩ := hi
        simp only [List.getElem?_map, Option.map_eq_some_iff] at hj
        obtain ⟨x, hx, rfl⟩ := hj
        have hx2 := hr i j a x ha hx
        cases x with
        | nl =>
          revert hx2
          generalize cv i j = cc
          intro hx2
          cases hx2
          exact .nil _ _
        | sc v => exact hx2
        | sl ys => exact hx2)
      simpa using this
theorem ex_on : ∀ l ∈ exP, l.length ≤ 12 ∧ (∀ x ∈ l, x.slot.tier ≤ 100000) ∧ (∀ x ∈ l, x.on exS) ∧ ∀ x ∈ l, x.box ∈ [(1 : Int), 2] := by
  have on : ∀ x : Stowed, x.slot.col = 0 → x.on exS := fun x h => ⟨0, by simpa using h, by decide⟩
  intro l hl
  simp only [exP, List.mem_cons, List.not_mem_nil, or_false] at hl
  rcases hl with rfl | rfl | rfl | rfl
  all_goals refine ⟨by decide, ?_, ?_, ?_⟩
  all_goals (intro x hx; simp at hx)
  all_goals first
    | (subst hx; first | decide | exact on _ rfl)
    | (rcases hx with rfl | rfl <;> first | decide | exact on _ rfl)
theorem ex_prev (k : Nat) (l : List Stowed) (h : exP[k]? = some l) : prevAt exP k = [] ∨ prevAt exP k ∈ exP := by
  cases k with
  | zero => exact .inl rfl
  | succ k =>
    have hk := get_lt h
    refine .inr ?_
    rw [prevAt, List.getD_eq_getElem?_getD, List.getElem?_eq_getElem (by omega)]
    exact List.getElem_mem _
theorem ex_f11 (hF : Wide F) (hro : F.round = none) : FnV Tryz.prog F 11 [Vd exS.enc, Vs (exB.map Box.enc), Iv64 4, Vd (planEnc exP)] (.tu [Vs ([[], [], [2], []].map encI), Iv64 0]) := by
  have h := f11 hF hro exS exB 4 exP exS_small (by decide) (by decide) (fun l hl => ⟨by have := (ex_on l hl).1; omega, (ex_on l hl).2.1⟩) (fun _ k l hk => by
    obtain ⟨a1, a2, a3, a4⟩ := ex_on l (List.mem_of_getElem? hk)
    have hp : (prevAt exP k).length ≤ 12 ∧ (∀ x ∈ prevAt exP k, x.on exS) ∧ ∀ x ∈ prevAt exP k, x.box ∈ [(1 : Int), 2] := by
      rcases ex_prev k l hk with e | e
      · rw [e]; exact ⟨by decide, fun x h => (by cases h), fun x h => (by cases h)⟩
      · obtain ⟨b1, b2, b3, b4⟩ := ex_on _ e; exact ⟨b1, b3, b4⟩
    have hU : ∀ x ∈ prevAt exP k ++ l, x.box ∈ [(1 : Int), 2] := fun x hx => (List.mem_append.1 hx).elim (hp.2.2 x) (a4 x)
    exact ⟨f53 hF hro exS (prevAt exP k) l exS_small hp.1 a1 hp.2.1 a3 [1, 2] (by decide) hU, Nat.le_trans (liftedL_len hU) (by decide)⟩)
  have e : restowsOf exS exB 4 exP = ([[], [], [2], []], 0) := by
    rw [restowsOf, ex_check, if_neg (by decide)]
    rw [show exP.length = 4 from rfl, ex_restows]
  rw [e] at h
  exact h
theorem Fn.conseq {P : Program} {f na : Nat} {A A' : Env} {Q : Env → Prop} (h : Fn P F f na A Q) (hi : ImpE P A' A) : Fn P F f na A' Q := by
  refine ⟨h.callable, fun w N L γ R vals hr hsz => h.run w N L γ R vals ⟨fun l v hm => ?_, by rw [← hi.keys]; exact hr.nd, hr.dis, hr.lt, hr.NL, hr.Llt⟩ hsz⟩
  obtain ⟨v', k1, k2⟩ := hi.mem l v hm
  obtain ⟨c, q1, q2⟩ := hr.rep _ _ k1
  exact ⟨c, q1, k2 w N L _ c _ hr.NL q2⟩
def exV : List D := [.sl (exS.cols.map Column.enc), .nl, di 0, di 0, di 0, di 0, .nl, .nl, .nl, di 0, di 0, di 0, di 0]
theorem imp_ex : Imp Tryz.prog (Vd exV) (Vd exS.enc) := by
  refine Imp.ag ⟨.refl _, .nl, .refl _, .refl _, .refl _, .refl _, .refl _, .refl _, .refl _, .refl _, .refl _, .refl _, .refl _, trivial⟩ (fun v hv => ?_)
  simp only [List.mem_map] at hv
  obtain ⟨d, _, rfl⟩ := hv
  rfl
set_option maxRecDepth 100000 in
set_option maxHeartbeats 2000000 in
theorem f8 (hF : Wide F) (hro : F.round = none) : FnV Tryz.prog F 8 [] (Vb true) := by
  have h44 := f44 hF hro exS exB 4 exP [[], [], [2], []] 0 (by decide) (fun k => by
    have : sumLen (([[], [], [2], []] : List (List Int)).take k) ≤ 1 := by
      match k with
      | 0 => decide
      | 1 => decide
      | 2 => decide
      | 3 => decide
      | k + 4 => simp [sumLen]
    omega) (ex_f11 hF hro)
  have h44 := h44.conseq (vs' := [Vd exV, Vs (exB.map Box.enc), Iv64 4, Vd (planEnc exP)]) ⟨imp_ex, .refl _, .refl _, .refl _, trivial⟩
  have h13 := f13 hF hro exS exB exS_small (by decide)
  rw [ex_find] at h13
  have h13 := h13.conseq (A' := [(.s 0, Vd exV), (.s 1, Vs (exB.map Box.enc))]) ⟨rfl, imp_ex, rfl, .refl _, trivial⟩
  refine FnV.of_AW hF hro hτ Tryz.func8 rfl (by decide) rfl (by simp [Tryz.f8]) ?_
  (repeat' first | apply Wq | refine Ws hF hτ rfl ?_ | apply Wb | apply Wl | apply Wk | apply We | apply Wc | apply Wd | refine Wt rfl rfl ?_ | refine Wf rfl rfl ?_ | refine Wi rfl rfl (fun h => ?_) (fun h => ?_) | refine Wx hF hτ rfl rfl rfl rfl rfl rfl rfl rfl (fun h => ?_) (fun h => ?_) | apply Wn)
  refine AL.opM (OpM.buildSlice hF rfl (hτ _ _ rfl) rfl (hτ _ _ rfl) rfl rfl rfl (by decide) (by decide) rfl rfl) rfl rfl ?_
  refine AL.ent (Ent.frzs (ls := [.s 10]) rfl) ?_
  refine Wv hF hτ rfl ?_
  (repeat' first | apply Wq | refine Ws hF hτ rfl ?_ | apply Wb | apply Wl | apply Wk | apply We | apply Wc | apply Wd | refine Wt rfl rfl ?_ | refine Wf rfl rfl ?_ | refine Wi rfl rfl (fun h => ?_) (fun h => ?_) | refine Wx hF hτ rfl rfl rfl rfl rfl rfl rfl rfl (fun h => ?_) (fun h => ?_) | apply Wn)
  refine AL.opM (OpM.buildSlice hF rfl (hτ _ _ rfl) rfl (hτ _ _ rfl) rfl rfl rfl (by decide) (by decide) rfl rfl) rfl rfl ?_
  refine AL.ent (Ent.frzs (ls := [.s 14]) rfl) ?_
  refine Wv hF hτ rfl ?_
  (repeat' first | apply Wq | refine Ws hF hτ rfl ?_ | apply Wb | apply Wl | apply Wk | apply We | apply Wc | apply Wd | refine Wt rfl rfl ?_ | refine Wf rfl rfl ?_ | refine Wi rfl rfl (fun h => ?_) (fun h => ?_) | refine Wx hF hτ rfl rfl rfl rfl rfl rfl rfl rfl (fun h => ?_) (fun h => ?_) | apply Wn)
  refine AL.opM (OpM.buildSlice hF rfl (hτ _ _ rfl) rfl (hτ _ _ rfl) rfl rfl rfl (by decide) (by decide) rfl rfl) rfl rfl ?_
  refine AL.ent (Ent.frzs (ls := [.s 16]) rfl) ?_
  refine Wv hF hτ rfl ?_
  refine AL.opM (OpM.buildSlice hF rfl (hτ _ _ rfl) rfl (hτ _ _ rfl) rfl rfl rfl (by decide) (by decide) rfl rfl) rfl rfl ?_
  refine AL.ent (Ent.frzs (ls := [.s 20]) rfl) ?_
  refine Wv hF hτ rfl ?_
  refine AL.opM (OpM.buildSlice hF rfl (hτ _ _ rfl) rfl (hτ _ _ rfl) rfl rfl rfl (by decide) (by decide) rfl rfl) rfl rfl ?_
  refine AL.ent (Ent.frzs (ls := [.s 22]) rfl) ?_
  refine Wv hF hτ rfl ?_
  refine AL.opM (OpM.buildSlice hF rfl (hτ _ _ rfl) rfl (hτ _ _ rfl) rfl rfl rfl (by decide) (by decide) rfl rfl) rfl rfl ?_
  refine AL.ent (Ent.frzs (ls := [.s 23]) rfl) ?_
  refine AL.ent (Ent.imp (l := .s 23) rfl Imp.denil) ?_
  refine Wv hF hτ rfl ?_
  refine Wn ?_
  refine AW.subE (E' := [(.s 1, .bx 35 (exV.map .d)), (.s 2, Vs (exB.map Box.enc)), (.s 3, .bx 41 ((planEnc exP).map .d)), (.s 0, Vb false)]) ?_ (nodupB_ok rfl) ?_
  · (repeat' first | exact Sub.nil | refine Sub.put rfl ?_ | refine Sub.put ?_ ?_)
  (repeat' first | apply Wq | refine Ws hF hτ rfl ?_ | apply Wb | apply Wl | apply Wk | apply We | apply Wc | apply Wd | refine Wt rfl rfl ?_ | refine Wf rfl rfl ?_ | refine Wi rfl rfl (fun h => ?_) (fun h => ?_) | refine Wx hF hτ rfl rfl rfl rfl rfl rfl rfl rfl (fun h => ?_) (fun h => ?_) | apply Wn)
  refine AL.opM (OpM.call hF rfl rfl rfl rfl (h44) rfl rfl rfl) rfl rfl ?_
  refine Wv hF hτ rfl ?_
  (repeat' first | apply Wq | refine Ws hF hτ rfl ?_ | apply Wb | apply Wl | apply Wk | apply We | apply Wc | apply Wd | refine Wt rfl rfl ?_ | refine Wf rfl rfl ?_ | refine Wi rfl rfl (fun h => ?_) (fun h => ?_) | refine Wx hF hτ rfl rfl rfl rfl rfl rfl rfl rfl (fun h => ?_) (fun h => ?_) | apply Wn)
  refine AL.opX rfl (OpToX.callO (na := 2) hF rfl rfl rfl rfl rfl h13 900 0 rfl rfl rfl rfl) (fun x _ => ?_)
  refine AL.ent (Ent.rowsFrz (l := .c 900 0) rfl) ?_
  refine Wv hF hτ rfl ?_
  (repeat' first | apply Wq | refine Ws hF hτ rfl ?_ | apply Wb | apply Wl | apply Wk | apply We | apply Wc | apply Wd | refine Wt rfl rfl ?_ | refine Wf rfl rfl ?_ | refine Wi rfl rfl (fun h => ?_) (fun h => ?_) | refine Wx hF hτ rfl rfl rfl rfl rfl rfl rfl rfl (fun h => ?_) (fun h => ?_) | apply Wn)
  · refine AL.opMT (OpM.buildSlice hF rfl (hτ _ _ rfl) rfl (hτ _ _ rfl) rfl rfl rfl (by decide) (by decide) rfl rfl) rfl rfl rfl rfl rfl rfl ?_
    refine AL.ent (Ent.frzs (ls := [.s 55]) rfl) ?_
    refine Wv hF hτ rfl ?_
    refine AL.opMT (OpM.buildSlice hF rfl (hτ _ _ rfl) rfl (hτ _ _ rfl) rfl rfl rfl (by decide) (by decide) rfl rfl) rfl rfl rfl rfl rfl rfl ?_
    refine AL.ent (Ent.frzs (ls := [.s 56]) rfl) ?_
    refine Wv hF hτ rfl ?_
    refine AL.opMT (OpM.call hF rfl rfl rfl rfl (f14 hF hro [[⟨0, 2⟩, ⟨1, 3⟩]] [[⟨0, 2⟩, ⟨1, 3⟩]] (by decide) (by decide) (by decide) (by decide)) rfl rfl rfl) rfl rfl rfl rfl rfl rfl ?_
    refine Wv hF hτ rfl ?_
    (repeat' first | apply Wq | refine Ws hF hτ rfl ?_ | apply Wb | apply Wl | apply Wk | apply We | apply Wc | apply Wd | refine Wt rfl rfl ?_ | refine Wf rfl rfl ?_ | refine Wi rfl rfl (fun h => ?_) (fun h => ?_) | refine Wx hF hτ rfl rfl rfl rfl rfl rfl rfl rfl (fun h => ?_) (fun h => ?_) | apply Wn)
    refine AW.ret ⟨.inr rfl, ?_⟩
    kernel_rfl
  all_goals exact absurd h (by decide +kernel)
end Go.Proofs.VL
