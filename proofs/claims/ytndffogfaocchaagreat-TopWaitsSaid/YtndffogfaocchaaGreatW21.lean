import Derived.Test.YtndffogfaocchaaGreatW20
set_option linter.unusedVariables false
set_option linter.unusedSimpArgs false
set_option linter.unusedSectionVars false
namespace Go.Proofs.VL
open Go Go.RowKit
variable {F : Fence}
def gkey (g : Group) : List Int := [g.load, g.disch]
def Box.g (b : Box) : Group := ⟨b.load, b.disch⟩
def noC : Count := ⟨⟨0, 0⟩, 0, 0⟩
def findC (g : Group) : List Count → Count
  | [] => noC
  | c :: cs => if gkey c.g = gkey g then c else findC g cs
def setC (x : Count) : List Count → List Count
  | [] => [x]
  | c :: cs => if gkey c.g = gkey x.g then x :: cs else c :: setC x cs
def addBox (cs : List Count) (b : Box) : List Count :=
  if b.size = 40 then setC ⟨b.g, (findC b.g cs).n40 + 1, (findC b.g cs).n20⟩ cs
  else if b.size = 20 then setC ⟨b.g, (findC b.g cs).n40, (findC b.g cs).n20 + 1⟩ cs
  else cs
def countsOf (l : List Box) : List Count := l.foldl addBox []
def groupsOf (l : List Box) : List Count := isort (fun a b => groupCmp a.g b.g) (countsOf l)
abbrev imC (cs : List Count) : IMap := cs.map fun c => (gkey c.g, c.enc)
abbrev kd2 : List IntKind := [.i64, .i64]
theorem look_imC (g : Group) : ∀ cs : List Count, (lookI (gkey g) (imC cs)).getD [di 0, di 0, di 0, di 0] = (findC g cs).enc
  | [] => rfl
  | c :: cs => by
    simp only [imC, List.map_cons, lookI, findC]
    split
    · rfl
    · exact look_imC g cs
theorem set_imC (x : Count) : ∀ cs : List Count, setI (gkey x.g) x.enc (imC cs) = imC (setC x cs)
  | [] => rfl
  | c :: cs => by
    simp only [imC, List.map_cons, setI, setC]
    split
    · rename_i h
      simp
    · simp only [List.map_cons]
      exact congrArg _ (set_imC x cs)
theorem imC_lens (cs : List Count) : ∀ p ∈ imC cs, p.1.length = kd2.length := by
  intro p hp
  obtain ⟨c, _, rfl⟩ := List.mem_map.1 hp
  rfl
theorem mem_setC {x c : Count} : ∀ {cs : List Count}, c ∈ setC x cs → c = x ∨ c ∈ cs
  | [], h => by simp [setC] at h; exact .inl h
  | d :: cs, h => by
    simp only [setC] at h
    split at h
    · rcases List.mem_cons.1 h with h | h
      · exact .inl h
      · exact .inr (.tail _ h)
    · rcases List.mem_cons.1 h with rfl | h
      · exact .inr (.head _)
      · rcases mem_setC h with h | h
        · exact .inl h
        · exact .inr (.tail _ h)
theorem findC_mem (g : Group) : ∀ cs : List Count, findC g cs = noC ∨ findC g cs ∈ cs
  | [] => .inl rfl
  | c :: cs => by
    simp only [findC]
    split
    · exact .inr (.head _)
    · rcases findC_mem g cs with h | h
      · exact .inl h
      · exact .inr (.tail _ h)
def Count.upto (n : Nat) (c : Count) : Prop := 0 ≤ c.n40 ∧ c.n40 ≤ n ∧ 0 ≤ c.n20 ∧ c.n20 ≤ n
theorem findC_upto {n : Nat} {cs : List Count} (h : ∀ c ∈ cs, c.upto n) (g : Group) : (findC g cs).upto n := by
  rcases findC_mem g cs with h1 | h1
  · rw [h1]; exact ⟨Int.le_refl 0, Int.natCast_nonneg n, Int.le_refl 0, Int.natCast_nonneg n⟩
  · exact h _ h1
theorem addBox_upto {n : Nat} {cs : List Count} (h : ∀ c ∈ cs, c.upto n) (b : Box) : ∀ c ∈ addBox cs b, c.upto (n + 1) := by
  intro c hc
  have up : ∀ c : Count, c.upto n → c.upto (n + 1) := fun c q => by unfold Count.upto at *; omega
  have hf := findC_upto h b.g
  unfold Count.upto at hf
  simp only [addBox] at hc
  split at hc
  · rcases mem_setC hc with rfl | hc
    · unfold Count.upto; simp only; omega
    · exact up _ (h c hc)
  · split at hc
    · rcases mem_setC hc with rfl | hc
      · unfold Count.upto; simp only; omega
      · exact up _ (h c hc)
    · exact up _ (h c hc)
theorem countsOf_snoc (l : List Box) (b : Box) : countsOf (l ++ [b]) = addBox (countsOf l) b := by simp [countsOf]
theorem countsOf_upto_take (l : List Box) : ∀ k, ∀ c ∈ countsOf (l.take k), c.upto k
  | 0, c, hc => by simp [countsOf] at hc
  | k + 1, c, hc => by
    rcases Nat.lt_or_ge k l.length with hk | hk
    · rw [take_snoc (List.getElem?_eq_getElem hk), countsOf_snoc] at hc
      exact addBox_upto (countsOf_upto_take l k) _ c hc
    · rw [List.take_of_length_le (by omega), ← List.take_of_length_le hk] at hc
      have := countsOf_upto_take l k c hc
      unfold Count.upto at *
      omega
theorem countsOf_upto (l : List Box) : ∀ c ∈ countsOf l, c.upto l.length := by
  have := countsOf_upto_take l l.length
  rwa [List.take_length] at this
def DistC (cs : List Count) : Prop := cs.Pairwise fun a b => gkey a.g ≠ gkey b.g
theorem setC_dist {x : Count} : ∀ {cs : List Count}, DistC cs → DistC (setC x cs)
  | [], h => by simp [setC, DistC]
  | c :: cs, h => by
    simp only [setC]
    obtain ⟨h1, h2⟩ := List.pairwise_cons.1 h
    split
    · rename_i he
      exact List.pairwise_cons.2 ⟨fun b hb => he ▸ h1 b hb, h2⟩
    · rename_i he
      refine List.pairwise_cons.2 ⟨fun b hb => ?_, setC_dist h2⟩
      rcases mem_setC hb with rfl | hb
      · exact he
      · exact h1 b hb
theorem countsOf_dist (l : List Box) : DistC (countsOf l) := by
  have : ∀ (l : List Box) (cs : List Count), DistC cs → DistC (l.foldl addBox cs) := by
    intro l
    induction l with
    | nil => intro cs h; exact h
    | cons b l ih =>
      intro cs h
      refine ih _ ?_
      simp only [addBox]
      split
      · exact setC_dist h
      · split
        · exact setC_dist h
        · exact h
  exact this l [] List.Pairwise.nil
theorem setC_length (x : Count) : ∀ cs : List Count, (setC x cs).length ≤ cs.length + 1
  | [] => by simp [setC]
  | c :: cs => by
    simp only [setC]
    split
    · simp
    · have := setC_length x cs
      simp; omega
theorem countsOf_length (l : List Box) : (countsOf l).length ≤ l.length := by
  have : ∀ (l : List Box) (cs : List Count), (l.foldl addBox cs).length ≤ cs.length + l.length := by
    intro l
    induction l with
    | nil => intro cs; simp
    | cons b l ih =>
      intro cs
      have h1 := ih (addBox cs b)
      have h2 : (addBox cs b).length ≤ cs.length + 1 := by
        simp only [addBox]
        split
        · exact setC_length _ _
        · split
          · exact setC_length _ _
          · omega
      simp only [List.foldl_cons, List.length_cons]
      omega
  have := this l []
  simpa [countsOf] using this
theorem groupCmp_le (a b : Group) : groupCmp a b ≤ 0 ↔ a.load < b.load ∨ (a.load = b.load ∧ a.disch ≤ b.disch) := by
  simp only [groupCmp, orZ, cmpZ]
  repeat' split
  all_goals omega
theorem groupCmp_lt (a b : Group) : groupCmp a b < 0 ↔ a.load < b.load ∨ (a.load = b.load ∧ a.disch < b.disch) := by
  simp only [groupCmp, orZ, cmpZ]
  repeat' split
  all_goals omega
theorem groups_perm {cs l : List Count} (hd : DistC cs) (hp : l.Perm cs) : isort (fun a b => groupCmp a.g b.g) l = isort (fun a b => groupCmp a.g b.g) cs := by
  refine (isort_of_perm (fun x y z h1 h2 => ?_) (fun x y h => ?_) hp.symm (fun x hx y hy h1 h2 => ?_)).symm
  · rw [groupCmp_le] at *; omega
  · rw [groupCmp_lt] at h; rw [groupCmp_le]; omega
  · rw [groupCmp_le] at *
    have he : gkey x.g = gkey y.g := by
      have a : x.g.load = y.g.load := by omega
      have b : x.g.disch = y.g.disch := by omega
      simp [gkey, a, b]
    by_cases hxy : x = y
    · exact hxy
    · exfalso
      obtain ⟨i, hi, rfl⟩ := List.getElem_of_mem hx
      obtain ⟨j, hj, rfl⟩ := List.getElem_of_mem hy
      have hp := List.pairwise_iff_getElem.1 hd
      rcases Nat.lt_trichotomy i j with h | h | h
      · exact hp i j hi hj h he
      · subst h; exact hxy rfl
      · exact hp j i hj hi h he.symm
theorem perm_map_inv {α β : Type} {f : α → β} {l2 : List β} {m : List β} (h : m.Perm l2) : ∀ {l1 : List α}, m = l1.map f → ∃ k : List α, k.Perm l1 ∧ k.map f = l2 := by
  induction h with
  | nil => intro l1 e; exact ⟨[], by cases l1 <;> simp at e ⊢, rfl⟩
  | cons x h ih =>
    intro l1 e
    cases l1 with
    | nil => simp at e
    | cons a l1 =>
      simp only [List.map_cons, List.cons.injEq] at e
      obtain ⟨k, h1, h2⟩ := ih e.2
      exact ⟨a :: k, .cons _ h1, by rw [List.map_cons, h2, e.1]⟩
  | swap x y l =>
    intro l1 e
    match l1, e with
    | a :: b :: l1, e =>
      simp only [List.map_cons, List.cons.injEq] at e
      exact ⟨b :: a :: l1, .swap _ _ _, by simp [e.1, e.2.1, e.2.2]⟩
    | [], e => simp at e
    | [a], e => simp at e
  | trans h1 h2 ih1 ih2 =>
    intro l1 e
    obtain ⟨k, a1, a2⟩ := ih1 e
    obtain ⟨k2, b1, b2⟩ := ih2 a2.symm
    exact ⟨k2, b1.trans a1, b2⟩
def entC (c : Count) : List D × List D := ([di c.g.load, di c.g.disch], c.enc)
theorem mkE_imC (cs : List Count) : mkE kd2 (imC cs) = cs.map entC := by
  induction cs with
  | nil => rfl
  | cons c cs ih =>
    simp only [mkE, imC, List.map_cons, List.map_map] at ih ⊢
    rw [ih]; rfl
set_option maxHeartbeats 4000000 in
theorem f58 (hF : Wide F) (hro : F.round = none) (l : List Box) (hl : l.length ≤ 1000) (hg : (countsOf l).length ≤ 12) :
    FnV Tryz.prog F 58 [Vs (l.map Box.enc)] (.row true 148 ((groupsOf l).map Count.enc)) := by
  refine FnV.of_AW hF hro hτ Tryz.func58 rfl (by decide) rfl (by simp [Tryz.f58]) ?_
  (repeat' first | apply Wq | refine Ws hF hτ rfl ?_ | apply Wb | apply Wl | apply Wk | apply We | apply Wc | apply Wd | refine Wt rfl rfl ?_ | refine Wf rfl rfl ?_ | refine Wi rfl rfl (fun h => ?_) (fun h => ?_) | refine Wx hF hτ rfl rfl rfl rfl rfl rfl rfl rfl (fun h => ?_) (fun h => ?_) | apply Wn)
  refine AL.opM (OpM.makeMap hF rfl 3 rfl rfl) rfl rfl ?_
  refine Wv hF hτ rfl ?_
  (repeat' first | apply Wq | refine Ws hF hτ rfl ?_ | apply Wb | apply Wl | apply Wk | apply We | apply Wc | apply Wd | refine Wt rfl rfl ?_ | refine Wf rfl rfl ?_ | refine Wi rfl rfl (fun h => ?_) (fun h => ?_) | refine Wx hF hτ rfl rfl rfl rfl rfl rfl rfl rfl (fun h => ?_) (fun h => ?_) | apply Wn)
  refine AW.range hF rfl rfl rfl rfl rfl rfl rfl rfl rfl (l.map Box.enc).length (by simp [lim]; omega) (fun k => [(.s 12, Vs (l.map Box.enc)), (.s 3, .mp 3 (mkE kd2 (imC (countsOf (l.take k)))))]) ?_ ?_ (fun k hk => ?_) ?_
  · exact fun k => rfl
  · (repeat' first | exact Sub.nil | refine Sub.put rfl ?_ | refine Sub.put ?_ ?_)
  · obtain ⟨b, hb⟩ := get_ex hk
    have hsn : countsOf (l.take (k + 1)) = addBox (countsOf (l.take k)) b := by rw [take_snoc hb, countsOf_snoc]
    have hup := findC_upto (countsOf_upto_take l k) b.g
    generalize countsOf (l.take k) = cs at hsn hup
    (repeat' first | apply Wq | refine Ws hF hτ rfl ?_ | apply Wb | apply Wl | apply Wk | apply We | apply Wn)
    refine AL.opM (OpM.indexD hF rfl (hτ _ _ rfl) rfl (hτ _ _ rfl) rfl (i := k) rfl ( get_enc Box.enc hb) rfl rfl rfl) rfl rfl ?_
    refine Wv hF hτ rfl ?_
    (repeat' first | apply Wq | refine Ws hF hτ rfl ?_ | apply Wb | apply Wl | apply Wk | apply We | apply Wc | apply Wd | refine Wt rfl rfl ?_ | refine Wf rfl rfl ?_ | refine Wi rfl rfl (fun h => ?_) (fun h => ?_) | refine Wx hF hτ rfl rfl rfl rfl rfl rfl rfl rfl (fun h => ?_) (fun h => ?_) | apply Wn)
    refine AL.opM (OpM.lookup (ok := false) hF rfl (hτ 213 _ rfl) rfl (hτ 148 _ rfl) zs148 kl61 (m := imC cs) (tm := 3) rfl rfl rfl (ns := [b.load, b.disch]) rfl rfl (imC_lens _) (ds := (findC b.g cs).enc) (look_imC b.g cs) rfl rfl rfl) rfl rfl ?_
    generalize hc0 : findC b.g cs = c0 at hup
    have hu4 : IntKind.wrap .i64 (c0.n40 + 1) = c0.n40 + 1 := by exact wrap_id (by unfold Count.upto at hup; have : k < l.length := (by simpa using hk); omega) (by unfold Count.upto at hup; have : k < l.length := (by simpa using hk); omega)
    have hu2 : IntKind.wrap .i64 (c0.n20 + 1) = c0.n20 + 1 := by exact wrap_id (by unfold Count.upto at hup; have : k < l.length := (by simpa using hk); omega) (by unfold Count.upto at hup; have : k < l.length := (by simpa using hk); omega)
    refine Wv hF hτ rfl ?_
    (repeat' first | apply Wq | refine Ws hF hτ rfl ?_ | apply Wb | apply Wl | apply Wk | apply We | apply Wc | apply Wd | refine Wt rfl rfl ?_ | refine Wf rfl rfl ?_ | refine Wi rfl rfl (fun h => ?_) (fun h => ?_) | refine Wx hF hτ rfl rfl rfl rfl rfl rfl rfl rfl (fun h => ?_) (fun h => ?_) | apply Wn)
    · refine AL.op rfl (OpTo.mapUpdate hF rfl rfl (hτ 213 _ rfl) rfl kl61 (m := imC cs) (tm := 3) rfl rfl (ns := [b.load, b.disch]) rfl rfl (imC_lens _) rfl rfl rfl rfl) ?_
      (repeat' first | apply Wq | refine Ws hF hτ rfl ?_ | apply Wb | apply Wl | apply Wk | apply We | apply Wc | apply Wd | refine Wt rfl rfl ?_ | refine Wf rfl rfl ?_ | refine Wi rfl rfl (fun h => ?_) (fun h => ?_) | refine Wx hF hτ rfl rfl rfl rfl rfl rfl rfl rfl (fun h => ?_) (fun h => ?_) | apply Wn)
      (repeat' first | exact Sub.nil | refine Sub.put rfl ?_ | refine Sub.put ?_ ?_)
      rw [hsn, addBox, if_pos (by simpa using h), hc0, hu4]
      exact congrArg (fun z => some (V.mp 3 (mkE kd2 z))) (set_imC ⟨b.g, c0.n40 + 1, c0.n20⟩ cs)
    · refine AL.op rfl (OpTo.mapUpdate hF rfl rfl (hτ 213 _ rfl) rfl kl61 (m := imC cs) (tm := 3) rfl rfl (ns := [b.load, b.disch]) rfl rfl (imC_lens _) rfl rfl rfl rfl) ?_
      (repeat' first | apply Wq | refine Ws hF hτ rfl ?_ | apply Wb | apply Wl | apply Wk | apply We | apply Wc | apply Wd | refine Wt rfl rfl ?_ | refine Wf rfl rfl ?_ | refine Wi rfl rfl (fun h => ?_) (fun h => ?_) | refine Wx hF hτ rfl rfl rfl rfl rfl rfl rfl rfl (fun h => ?_) (fun h => ?_) | apply Wn)
      (repeat' first | exact Sub.nil | refine Sub.put rfl ?_ | refine Sub.put ?_ ?_)
      rename_i h0
      rw [hsn, addBox, if_neg (by simpa using h0), if_pos (by simpa using h), hc0, hu2]
      exact congrArg (fun z => some (V.mp 3 (mkE kd2 z))) (set_imC ⟨b.g, c0.n40, c0.n20 + 1⟩ cs)
    · (repeat' first | exact Sub.nil | refine Sub.put rfl ?_ | refine Sub.put ?_ ?_)
      rename_i h0
      rw [hsn, addBox, if_neg (by simpa using h0), if_neg (by simpa using h)]
      rfl
  · rw [show List.take (l.map Box.enc).length l = l by simp, mkE_imC]
    have hd := countsOf_dist l
    have hlen := countsOf_length l
    rw [groupsOf]
    generalize countsOf l = cs at hd hg hlen
    (repeat' first | apply Wq | refine Ws hF hτ rfl ?_ | apply Wb | apply Wl | apply Wk | apply We | apply Wc | apply Wd | refine Wt rfl rfl ?_ | refine Wf rfl rfl ?_ | refine Wi rfl rfl (fun h => ?_) (fun h => ?_) | refine Wx hF hτ rfl rfl rfl rfl rfl rfl rfl rfl (fun h => ?_) (fun h => ?_) | apply Wn)
    refine AL.op rfl (OpTo.range hF rfl (hτ 213 _ rfl) rfl rfl rfl rfl rfl rfl) ?_
    (repeat' first | apply Wq | refine Ws hF hτ rfl ?_ | apply Wb | apply Wl | apply Wk | apply We | apply Wc | apply Wd | refine Wt rfl rfl ?_ | refine Wf rfl rfl ?_ | refine Wi rfl rfl (fun h => ?_) (fun h => ?_) | refine Wx hF hτ rfl rfl rfl rfl rfl rfl rfl rfl (fun h => ?_) (fun h => ?_) | apply Wn)
    refine AW.loopI (X := { x : List Count × Option (List D × List D) × List Count // (x.1 ++ x.2.2).Perm cs }) (fun x => [(.s 47, .it 3 (x.1.1.map entC) x.1.2.1), (.s 8, .row true 148 (x.1.2.2.map Count.enc))]) (fun x => x.1.1.length) (fun x => rfl) ⟨(cs, none, []), by simp⟩ ?_ (fun x => ?_)
    · (repeat' first | exact Sub.nil | refine Sub.put rfl ?_ | refine Sub.put ?_ ?_)
    · obtain ⟨⟨td, cur, acc⟩, hx⟩ := x
      simp only at hx
      refine AW.seq (AW.region (AL.next hF rfl rfl rfl rfl rfl rfl (fun e => ?_) (fun p rest hp => ?_)))
      · have e : td = [] := by simpa using e
        subst e
        rw [List.nil_append] at hx
        refine Wv hF hτ rfl ?_
        (repeat' first | apply Wq | refine Ws hF hτ rfl ?_ | apply Wb | apply Wl | apply Wk | apply We | apply Wc | apply Wd | refine Wt rfl rfl ?_ | refine Wf rfl rfl ?_ | refine Wi rfl rfl (fun h => ?_) (fun h => ?_) | refine Wx hF hτ rfl rfl rfl rfl rfl rfl rfl rfl (fun h => ?_) (fun h => ?_) | apply Wn)
        have hq := f113 hF hro acc (fun a b => groupCmp a.g b.g) (by rw [hx.length_eq]; exact hg)
        rw [groups_perm hd hx] at hq
        have hq2 : FnX Tryz.prog F 113 2 [(.s 0, .row true 148 (acc.map Count.enc)), (.s 1, .fn 114 [])] (.tu []) [(.s 0, .row true 148 ((isort (fun a b => groupCmp a.g b.g) cs).map Count.enc))] := by
          refine hq.conseq ⟨rfl, .refl _, rfl, .fn (f114 hF hro noC noC).callable rfl ?_, trivial⟩
          rintro vs r ⟨x, y, rfl, rfl⟩
          exact f114 hF hro x y
        refine AL.op rfl (OpTo.callX hF rfl rfl rfl rfl rfl rfl rfl (hq2) rfl rfl rfl rfl rfl) ?_
        refine Wv hF hτ rfl ?_
        (repeat' first | apply Wq | refine Ws hF hτ rfl ?_ | apply Wb | apply Wl | apply Wk | apply We | apply Wc | apply Wd | refine Wt rfl rfl ?_ | refine Wf rfl rfl ?_ | refine Wi rfl rfl (fun h => ?_) (fun h => ?_) | refine Wx hF hτ rfl rfl rfl rfl rfl rfl rfl rfl (fun h => ?_) (fun h => ?_) | apply Wn)
        refine AW.ret ⟨.inr rfl, ?_⟩
        rfl
      · obtain ⟨k, hk1, hk2⟩ := perm_map_inv hp rfl
        cases k with
        | nil => simp at hk2
        | cons c k =>
          simp only [List.map_cons, List.cons.injEq] at hk2
          obtain ⟨rfl, rfl⟩ := hk2
          refine Wv hF hτ rfl ?_
          (repeat' first | apply Wq | refine Ws hF hτ rfl ?_ | apply Wb | apply Wl | apply Wk | apply We | apply Wc | apply Wd | refine Wt rfl rfl ?_ | refine Wf rfl rfl ?_ | refine Wi rfl rfl (fun h => ?_) (fun h => ?_) | refine Wx hF hτ rfl rfl rfl rfl rfl rfl rfl rfl (fun h => ?_) (fun h => ?_) | apply Wn)
          refine AL.opM (OpM.entry hF rfl rfl rfl rfl) rfl rfl ?_
          refine Wv hF hτ rfl ?_
          (repeat' first | apply Wq | refine Ws hF hτ rfl ?_ | apply Wb | apply Wl | apply Wk | apply We | apply Wc | apply Wd | refine Wt rfl rfl ?_ | refine Wf rfl rfl ?_ | refine Wi rfl rfl (fun h => ?_) (fun h => ?_) | refine Wx hF hτ rfl rfl rfl rfl rfl rfl rfl rfl (fun h => ?_) (fun h => ?_) | apply Wn)
          have hlt : k.length < td.length := by have := hk1.length_eq; simp at this; omega
          have hac : acc.length ≤ 1000 := by have := hx.length_eq; simp at this; omega
          refine AL.opM (OpM.buildSlice hF rfl (hτ _ _ rfl) rfl (hτ _ _ rfl) rfl rfl rfl (by decide) (by decide) rfl rfl) rfl rfl ?_
          refine AL.op rfl (OpTo.append hF rfl rfl rfl rfl (hτ _ _ rfl) rfl (hτ _ _ rfl) rfl rfl rfl rfl (by intro cs h; cases h with | head => rfl | tail _ h => cases h) (by simp [Base.xs, chunks, lim]; omega) (by simp [Base.xs, chunks, lim]; omega) rfl rfl rfl) ?_
          refine Wv hF hτ rfl ?_
          (repeat' first | apply Wq | refine Ws hF hτ rfl ?_ | apply Wb | apply Wl | apply Wk | apply We | apply Wc | apply Wd | refine Wt rfl rfl ?_ | refine Wf rfl rfl ?_ | refine Wi rfl rfl (fun h => ?_) (fun h => ?_) | refine Wx hF hτ rfl rfl rfl rfl rfl rfl rfl rfl (fun h => ?_) (fun h => ?_) | apply Wn)
          refine ⟨⟨(k, some (entC c), acc ++ [c]), ?_⟩, hlt, ?_⟩
          · refine List.Perm.trans ?_ hx
            refine List.Perm.trans ?_ (hk1.append_right acc)
            show (k ++ (acc ++ [c])).Perm (c :: (k ++ acc))
            rw [← List.append_assoc]
            exact List.perm_append_singleton _ _
          · (repeat' first | exact Sub.nil | refine Sub.put rfl ?_ | refine Sub.put ?_ ?_)
            refine congrArg (fun z => some (V.row true 148 z)) ?_
            simp [chunks]
            rfl
end Go.Proofs.VL
namespace Go.Proofs.VL
open Go Go.RowKit
variable {F : Fence}
def tAt (l : List Int) (i : Nat) : Int := l.getD i 0
def innerTo (ab : Nat → Nat → Bool) (i : Nat) : Nat → List Int × List Int → List Int × List Int
  | 0, st => st
  | j + 1, st => if i < j + 1 then innerTo ab i j (if ab (j + 1) i && decide (tAt st.1 i ≤ tAt st.1 (j + 1)) then (st.1.set i (tAt st.1 (j + 1)), st.2.set i ((j + 1 : Nat) : Int)) else st) else st
def roundTo (ab : Nat → Nat → Bool) (w : Nat → Int) (n i : Nat) (s : (List Int × List Int) × Int) : (List Int × List Int) × Int :=
  let st := innerTo ab i (n - 1) (s.1.1, s.1.2.set i (-1))
  let t := st.1.set i (w64 (tAt st.1 i + w i))
  ((t, st.2), if decide (s.2 < 0) || decide (tAt t s.2.toNat ≤ tAt t i) then (i : Int) else s.2)
def outerTo (ab : Nat → Nat → Bool) (w : Nat → Int) (n : Nat) : Nat → (List Int × List Int) × Int → (List Int × List Int) × Int
  | 0, s => s
  | i + 1, s => outerTo ab w n i (roundTo ab w n i s)
def follow (after : List Int) : Nat → Int → List Nat
  | 0, _ => []
  | f + 1, i => if i < 0 then [] else i.toNat :: follow after f (tAt after i.toNat)
def chainIdx (ab : Nat → Nat → Bool) (w : Nat → Int) (n : Nat) : List Nat :=
  let s := outerTo ab w n n ((List.replicate n 0, List.replicate n 0), -1)
  follow s.1.2 n s.2
def hereAt (cs : List Count) (at_ : Int) : List Count := cs.filter fun c => decide (c.g.load ≤ at_) && decide (at_ < c.g.disch)
def Count.weight (c : Count) : Int := 2 * c.n40 + c.n20
def aboveC (l : List Count) (j i : Nat) : Bool := decide ((l.getD i noC).g.load < (l.getD j noC).g.load) && decide ((l.getD i noC).g.disch < (l.getD j noC).g.disch)
def chainHere (l : List Count) : List Count := (chainIdx (aboveC l) (fun i => (l.getD i noC).weight) l.length).map fun i => l.getD i noC
def chainOf (cs : List Count) (at_ : Int) : List Count := chainHere (hereAt cs at_)
theorem innerTo_len (ab : Nat → Nat → Bool) (i : Nat) : ∀ (j : Nat) (st : List Int × List Int), (innerTo ab i j st).1.length = st.1.length ∧ (innerTo ab i j st).2.length = st.2.length
  | 0, st => ⟨rfl, rfl⟩
  | j + 1, st => by
    simp only [innerTo]
    split
    · have := innerTo_len ab i j (if ab (j + 1) i && decide (tAt st.1 i ≤ tAt st.1 (j + 1)) then (st.1.set i (tAt st.1 (j + 1)), st.2.set i ((j + 1 : Nat) : Int)) else st)
      rw [this.1, this.2]
      split <;> simp
    · exact ⟨rfl, rfl⟩
def Leads (n i : Nat) (after : List Int) : Prop := ∀ q, i ≤ q → q < n → tAt after q = -1 ∨ ∃ v : Nat, tAt after q = v ∧ q < v ∧ v < n
theorem tAt_set {l : List Int} {i q : Nat} {x : Int} (hi : i < l.length) : tAt (l.set i x) q = if q = i then x else tAt l q := by
  unfold tAt
  rw [List.getD_eq_getElem?_getD, List.getD_eq_getElem?_getD]
  split
  · rename_i h; subst h; rw [List.getElem?_set_self hi]; rfl
  · rename_i h; rw [List.getElem?_set_ne (Ne.symm h)]
theorem innerTo_leads (ab : Nat → Nat → Bool) {n i : Nat} : ∀ (j : Nat) (st : List Int × List Int), j < n → st.2.length = n → Leads n i st.2 → Leads n i (innerTo ab i j st).2
  | 0, st, _, _, h => h
  | j + 1, st, hj, hl, h => by
    simp only [innerTo]
    split
    · rename_i hij
      refine innerTo_leads ab j _ (by omega) (by split <;> simp [hl]) ?_
      split
      · intro q h1 h2
        rw [tAt_set (by omega)]
        split
        · rename_i e; exact .inr ⟨j + 1, rfl, by omega, hj⟩
        · exact h q h1 h2
      · exact h
    · exact h
theorem get_tAt {l : List Int} {i : Nat} (h : i < l.length) : l[i]? = some (tAt l i) := by
  rw [tAt, List.getD_eq_getElem?_getD, List.getElem?_eq_getElem h]; rfl
set_option maxHeartbeats 8000000 in
theorem f59 (hF : Wide F) (hro : F.round = none) (cs : List Count) (at_ : Int) (hl : cs.length ≤ 1000) (hc : ∀ c ∈ cs, c.small) :
    FnV Tryz.prog F 59 [Vs (cs.map Count.enc), Iv64 at_] (.row true 148 ((chainOf cs at_).map Count.enc)) := by
  refine FnV.of_AW hF hro hτ Tryz.func59 rfl (by decide) rfl (by simp [Tryz.f59]) ?_
  (repeat' first | apply Wq | refine Ws hF hτ rfl ?_ | apply Wb | apply Wl | apply Wk | apply We | apply Wc | apply Wd | refine Wt rfl rfl ?_ | refine Wf rfl rfl ?_ | refine Wi rfl rfl (fun h => ?_) (fun h => ?_) | refine Wx hF hτ rfl rfl rfl rfl rfl rfl rfl rfl (fun h => ?_) (fun h => ?_) | apply Wn)
  refine AW.range hF rfl rfl rfl rfl rfl rfl rfl rfl rfl (cs.map Count.enc).length (by simp [lim]; omega) (fun k => [(.s 15, Vs (cs.map Count.enc)), (.s 1, Iv64 at_), (.s 5, .row true 148 ((hereAt (cs.take k) at_).map Count.enc))]) ?_ ?_ (fun k hk => ?_) ?_
  · exact fun k => rfl
  · (repeat' first | exact Sub.nil | refine Sub.put rfl ?_ | refine Sub.put ?_ ?_)
  · obtain ⟨c, hck⟩ := get_ex hk
    have hk' : k < cs.length := by simpa using hk
    have hsn : hereAt (cs.take (k + 1)) at_ = hereAt (cs.take k) at_ ++ if decide (c.g.load ≤ at_) && decide (at_ < c.g.disch) then [c] else [] := by
      rw [take_snoc hck, hereAt, List.filter_append]; simp [List.filter_cons, hereAt]
    have hlen : (hereAt (cs.take k) at_).length ≤ 1000 := by
      have := List.length_filter_le (fun c : Count => decide (c.g.load ≤ at_) && decide (at_ < c.g.disch)) (cs.take k)
      rw [List.length_take] at this
      unfold hereAt
      omega
    generalize hereAt (cs.take k) at_ = hr at hsn hlen
    (repeat' first | apply Wq | refine Ws hF hτ rfl ?_ | apply Wb | apply Wl | apply Wk | apply We | apply Wn)
    refine AL.opM (OpM.indexD hF rfl (hτ _ _ rfl) rfl (hτ _ _ rfl) rfl (i := k) rfl ( get_enc Count.enc hck) rfl rfl rfl) rfl rfl ?_
    refine Wv hF hτ rfl ?_
    (repeat' first | apply Wq | refine Ws hF hτ rfl ?_ | apply Wb | apply Wl | apply Wk | apply We | apply Wc | apply Wd | refine Wt rfl rfl ?_ | refine Wf rfl rfl ?_ | refine Wi rfl rfl (fun h => ?_) (fun h => ?_) | refine Wx hF hτ rfl rfl rfl rfl rfl rfl rfl rfl (fun h => ?_) (fun h => ?_) | apply Wn)
    · refine AL.opM (OpM.buildSlice hF rfl (hτ _ _ rfl) rfl (hτ _ _ rfl) rfl rfl rfl (by decide) (by decide) rfl rfl) rfl rfl ?_
      refine AL.op rfl (OpTo.append hF rfl rfl rfl rfl (hτ _ _ rfl) rfl (hτ _ _ rfl) rfl rfl rfl rfl (by intro cs h; cases h with | head => rfl | tail _ h => cases h) (by simp [Base.xs, chunks, lim]; omega) (by simp [Base.xs, chunks, lim]; omega) rfl rfl rfl) ?_
      refine Wv hF hτ rfl ?_
      (repeat' first | apply Wq | refine Ws hF hτ rfl ?_ | apply Wb | apply Wl | apply Wk | apply We | apply Wc | apply Wd | refine Wt rfl rfl ?_ | refine Wf rfl rfl ?_ | refine Wi rfl rfl (fun h => ?_) (fun h => ?_) | refine Wx hF hτ rfl rfl rfl rfl rfl rfl rfl rfl (fun h => ?_) (fun h => ?_) | apply Wn)
      (repeat' first | exact Sub.nil | refine Sub.put rfl ?_ | refine Sub.put ?_ ?_)
      refine congrArg (fun z => some (V.row true 148 z)) ?_
      rename_i h0
      simp [hsn, chunks, h, h0]
      rfl
    · (repeat' first | exact Sub.nil | refine Sub.put rfl ?_ | refine Sub.put ?_ ?_)
      rename_i h0
      refine congrArg (fun z => some (V.row true 148 z)) ?_
      simp [hsn, h, h0]
    · (repeat' first | exact Sub.nil | refine Sub.put rfl ?_ | refine Sub.put ?_ ?_)
      refine congrArg (fun z => some (V.row true 148 z)) ?_
      simp [hsn, h]
  · rw [show List.take (cs.map Count.enc).length cs = cs by simp]
    have hlen : (hereAt cs at_).length ≤ 1000 := Nat.le_trans (List.length_filter_le _ _) hl
    have hsm : ∀ c ∈ hereAt cs at_, c.small := fun c h => hc c (List.mem_filter.1 h).1
    rw [chainOf]
    generalize hereAt cs at_ = l at hlen hsm
    refine AW.ent (Ent.frzs (ls := [.s 5]) rfl) ?_
    have hlm : (l.map Count.enc).length = l.length := by simp
    (repeat' first | apply Wq | refine Ws hF hτ rfl ?_ | apply Wb | apply Wl | apply Wk | apply We | apply Wn)
    refine AW.draw hmix (AD.start [] [0, 1, 2, 3, 4, 5, 6, 7] ?_)
    refine AD.vals hF hτ rfl ?_
    refine AD.op (o := _) rfl rfl rfl (OpM.makeSlice hF rfl (hτ _ _ rfl) rfl (hτ _ _ rfl) (kx := .i64) (ky := .i64) (m := (l.map Count.enc).length) rfl rfl (by simp [lim]; omega) (by simp; omega) rfl rfl) ?_
    refine AD.vals hF hτ rfl ?_
    refine AD.op (o := _) rfl rfl rfl (OpM.makeSlice hF rfl (hτ _ _ rfl) rfl (hτ _ _ rfl) (kx := .i64) (ky := .i64) (m := (l.map Count.enc).length) rfl rfl (by simp [lim]; omega) (by simp; omega) rfl rfl) ?_
    refine AD.vals hF hτ rfl ?_
    refine AD.fin (by kernel_rfl) rfl rfl (AA.done (by kernel_rfl) ?_)
    refine AW.ent (Ent.take (.s 8)) ?_
    refine AW.ent (Ent.take (.s 9)) ?_
    (repeat' first | apply Wq | refine Ws hF hτ rfl ?_ | apply Wb | apply Wl | apply Wk | apply We | apply Wc | apply Wd | refine Wt rfl rfl ?_ | refine Wf rfl rfl ?_ | refine Wi rfl rfl (fun h => ?_) (fun h => ?_) | refine Wx hF hτ rfl rfl rfl rfl rfl rfl rfl rfl (fun h => ?_) (fun h => ?_) | apply Wn)
    have htot : ∃ total, total = outerTo (aboveC l) (fun i => (l.getD i noC).weight) l.length l.length ((List.replicate l.length 0, List.replicate l.length 0), -1) := ⟨_, rfl⟩
    obtain ⟨total, htot⟩ := htot
    refine AW.loopI (X := { x : Nat × (List Int × List Int) × Int // x.1 ≤ l.length ∧ x.2.1.1.length = l.length ∧ x.2.1.2.length = l.length ∧ -1 ≤ x.2.2 ∧ x.2.2 < l.length ∧ Leads l.length x.1 x.2.1.2 ∧ (0 ≤ x.2.2 → x.1 ≤ x.2.2.toNat) ∧ total = outerTo (aboveC l) (fun i => (l.getD i noC).weight) l.length x.1 x.2 })
      (fun x => [(.s 11, Iv64 ((x.1.1 : Int) - 1)), (.s 8, .row true 3 (ints x.1.2.1.1)), (.s 9, .row true 3 (ints x.1.2.1.2)), (.s 10, Iv64 x.1.2.2), (.s 5, Vs (l.map Count.enc))]) (fun x => x.1.1) (fun x => rfl)
      ⟨(l.length, (List.replicate l.length 0, List.replicate l.length 0), -1), by refine ⟨Nat.le_refl _, by simp, by simp, by simp, by simp; omega, fun q h1 h2 => by omega, fun h => by simp at h, htot⟩⟩ ?_ ?_
    · (repeat' first | exact Sub.nil | refine Sub.put rfl ?_ | refine Sub.put ?_ ?_)
      · exact congrArg (fun z => some (Iv64 z)) (by rw [hlm]; exact wrap_id (by omega) (by omega))
      · refine congrArg (fun z => some (V.row true 3 z)) ?_
        rw [hlm]; simp [ints]
      · refine congrArg (fun z => some (V.row true 3 z)) ?_
        rw [hlm]; simp [ints]
    rintro ⟨⟨i, ⟨ta, af⟩, la⟩, q1, q2, q3, q4, q5, q6, q7, q8⟩
    simp only at q1 q2 q3 q4 q5 q6 q7 q8
    (repeat' first | apply Wq | refine Ws hF hτ rfl ?_ | apply Wb | apply Wl | apply Wk | apply We | apply Wc | apply Wd | refine Wt rfl rfl ?_ | refine Wf rfl rfl ?_ | refine Wi rfl rfl (fun h => ?_) (fun h => ?_) | refine Wx hF hτ rfl rfl rfl rfl rfl rfl rfl rfl (fun h => ?_) (fun h => ?_) | apply Wn)
    · obtain ⟨i, rfl⟩ : ∃ k, i = k + 1 := ⟨i - 1, by have := of_decide_eq_true h; simp at this; omega⟩
      have hi1 : (((i + 1 : Nat) : Int) - 1) = (i : Int) := by omega
      have hin : i < l.length := by omega
      refine AL.opM (OpM.indexR hF rfl (hτ _ _ rfl) rfl (hτ _ _ rfl) rfl (k := .i64) (i := i) (by exact  congrArg (fun z => some (IntKind.i64, z)) hi1) ( by simp [ints]; omega) rfl rfl) rfl rfl ?_
      refine Wv hF hτ rfl ?_
      refine AL.op rfl (OpTo.storeE hF rfl rfl (hτ _ _ rfl) rfl rfl (q := 0) (get_enc (fun n : Int => [di n]) (get_tAt (l := af) (i := i) (by omega))) rfl rfl rfl (Nat.le_of_ble_eq_true rfl)) ?_
      refine Wv hF hτ rfl ?_
      refine Wv hF hτ rfl ?_
      (repeat' first | apply Wq | refine Ws hF hτ rfl ?_ | apply Wb | apply Wl | apply Wk | apply We | apply Wc | apply Wd | refine Wt rfl rfl ?_ | refine Wf rfl rfl ?_ | refine Wi rfl rfl (fun h => ?_) (fun h => ?_) | refine Wx hF hτ rfl rfl rfl rfl rfl rfl rfl rfl (fun h => ?_) (fun h => ?_) | apply Wn)
      refine AW.loopI (X := { x : Nat × (List Int × List Int) // x.1 < l.length ∧ i ≤ x.1 ∧ x.2.1.length = l.length ∧ x.2.2.length = l.length ∧ innerTo (aboveC l) i x.1 x.2 = innerTo (aboveC l) i (l.length - 1) (ta, af.set i (-1)) })
        (fun x => [(.s 12, Iv64 x.1.1), (.s 11, Iv64 i), (.s 8, .row true 3 (ints x.1.2.1)), (.s 9, .row true 3 (ints x.1.2.2)), (.s 10, Iv64 la), (.s 5, Vs (l.map Count.enc))]) (fun x => x.1.1) (fun x => rfl)
        ⟨(l.length - 1, (ta, af.set i (-1))), by omega, by omega, q2, by simp [q3], rfl⟩ ?_ ?_
      · (repeat' first | exact Sub.nil | refine Sub.put rfl ?_ | refine Sub.put ?_ ?_)
        · exact congrArg (fun z => some (Iv64 z)) (by rw [hlm]; rw [wrap_id (by omega) (by omega)]; show (l.length : Int) - 1 = ((l.length - 1 : Nat) : Int); omega)
        · exact congrArg (fun z => some (Iv64 z)) hi1
        · refine congrArg (fun z => some (V.row true 3 z)) ?_
          simp [ints, List.map_set]
      rintro ⟨⟨j, ⟨tb, ag⟩⟩, r1, r2, r3, r4, r5⟩
      simp only at r1 r2 r3 r4 r5
      (repeat' first | apply Wq | refine Ws hF hτ rfl ?_ | apply Wb | apply Wl | apply Wk | apply We | apply Wc | apply Wd | refine Wt rfl rfl ?_ | refine Wf rfl rfl ?_ | refine Wi rfl rfl (fun h => ?_) (fun h => ?_) | refine Wx hF hτ rfl rfl rfl rfl rfl rfl rfl rfl (fun h => ?_) (fun h => ?_) | apply Wn)
      · obtain ⟨j, rfl⟩ : ∃ k, j = k + 1 := ⟨j - 1, by have := of_decide_eq_true h; simp at this; omega⟩
        have hij : i < j + 1 := by
          have h' : decide ((i : Int) < ((j + 1 : Nat) : Int)) = true := h
          have := of_decide_eq_true h'; omega
        obtain ⟨c1, hc1⟩ : ∃ c, l[j + 1]? = some c := ⟨_, List.getElem?_eq_getElem r1⟩
        obtain ⟨c2, hc2⟩ : ∃ c, l[i]? = some c := ⟨_, List.getElem?_eq_getElem hin⟩
        have hg1 : l.getD (j + 1) noC = c1 := by rw [List.getD_eq_getElem?_getD, hc1]; rfl
        have hg2 : l.getD i noC = c2 := by rw [List.getD_eq_getElem?_getD, hc2]; rfl
        have hab : aboveC l (j + 1) i = (decide (c2.g.load < c1.g.load) && decide (c2.g.disch < c1.g.disch)) := by rw [aboveC, hg1, hg2]
        have hunf : innerTo (aboveC l) i (j + 1) (tb, ag) = innerTo (aboveC l) i j (if (aboveC l (j + 1) i && decide (tAt tb i ≤ tAt tb (j + 1))) = true then (tb.set i (tAt tb (j + 1)), ag.set i ((j + 1 : Nat) : Int)) else (tb, ag)) := by
          simp only [innerTo]; rw [if_pos hij]
        have hjw : IntKind.wrap .i64 (((j + 1 : Nat) : Int) - 1) = (j : Int) := by rw [wrap_id (by omega) (by omega)]; omega
        refine AW.draw hmix (AD.start [] [0, 1, 2, 3, 4, 5, 6, 7, 8, 9, 10, 11, 12, 13] ?_)
        refine AD.vals hF hτ rfl ?_
        refine AD.op (o := _) rfl rfl rfl (OpM.indexD hF rfl (hτ _ _ rfl) rfl (hτ _ _ rfl) rfl (i := j + 1) rfl ( get_enc Count.enc hc1) rfl rfl rfl) ?_
        refine AD.vals hF hτ rfl ?_
        refine AD.op (o := _) rfl rfl rfl (OpM.indexD hF rfl (hτ _ _ rfl) rfl (hτ _ _ rfl) rfl (i := i) rfl ( get_enc Count.enc hc2) rfl rfl rfl) ?_
        refine AD.vals hF hτ rfl ?_
        refine AD.fin (by kernel_rfl) rfl rfl ?_
        refine AA.split 75 rfl rfl (fun e1 => ?_) (fun e1 => ?_)
        · refine AD.start [0, 1, 2, 3, 4, 5, 6, 7, 8, 9, 10, 11, 12, 13] [14, 15, 16, 17, 18, 19, 20, 21, 22, 23, 24, 25, 26, 27, 28] ?_
          refine AD.vals hF hτ rfl ?_
          refine AD.op (o := _) rfl rfl rfl (OpM.indexD hF rfl (hτ _ _ rfl) rfl (hτ _ _ rfl) rfl (i := j + 1) rfl ( get_enc Count.enc hc1) rfl rfl rfl) ?_
          refine AD.vals hF hτ rfl ?_
          refine AD.op (o := _) rfl rfl rfl (OpM.indexD hF rfl (hτ _ _ rfl) rfl (hτ _ _ rfl) rfl (i := i) rfl ( get_enc Count.enc hc2) rfl rfl rfl) ?_
          refine AD.vals hF hτ rfl ?_
          refine AD.fin (by kernel_rfl) rfl rfl ?_
          refine AA.split 90 rfl rfl (fun e2 => ?_) (fun e2 => ?_)
          · refine AD.start [0, 1, 2, 3, 4, 5, 6, 7, 8, 9, 10, 11, 12, 13, 14, 15, 16, 17, 18, 19, 20, 21, 22, 23, 24, 25, 26, 27, 28] [29, 30, 31, 32, 33, 34, 35, 36, 37, 38] ?_
            refine AD.vals hF hτ rfl ?_
            refine AD.op (o := _) rfl rfl rfl (OpM.indexR hF rfl (hτ _ _ rfl) rfl (hτ _ _ rfl) rfl (k := .i64) (i := j + 1) rfl (by simp [ints]; omega) rfl rfl) ?_
            refine AD.vals hF hτ rfl ?_
            refine AD.op (o := _) rfl rfl rfl (OpM.loadE hF rfl (hτ _ _ rfl) rfl rfl (q := 0) (get_enc (fun n : Int => [di n]) (get_tAt (l := tb) (i := j + 1) (by omega))) rfl (Nat.le_of_ble_eq_true rfl) rfl rfl rfl) ?_
            refine AD.vals hF hτ rfl ?_
            refine AD.op (o := _) rfl rfl rfl (OpM.indexR hF rfl (hτ _ _ rfl) rfl (hτ _ _ rfl) rfl (k := .i64) (i := i) rfl (by simp [ints]; omega) rfl rfl) ?_
            refine AD.vals hF hτ rfl ?_
            refine AD.op (o := _) rfl rfl rfl (OpM.loadE hF rfl (hτ _ _ rfl) rfl rfl (q := 0) (get_enc (fun n : Int => [di n]) (get_tAt (l := tb) (i := i) (by omega))) rfl (Nat.le_of_ble_eq_true rfl) rfl rfl rfl) ?_
            refine AD.vals hF hτ rfl ?_
            refine AD.fin (by kernel_rfl) rfl rfl (AA.done (by kernel_rfl) ?_)
            (repeat' first | apply Wq | refine Ws hF hτ rfl ?_ | apply Wb | apply Wl | apply Wk | apply We | apply Wc | apply Wd | refine Wt rfl rfl ?_ | refine Wf rfl rfl ?_ | refine Wi rfl rfl (fun h => ?_) (fun h => ?_) | refine Wx hF hτ rfl rfl rfl rfl rfl rfl rfl rfl (fun h => ?_) (fun h => ?_) | apply Wn)
            · refine AL.opM (OpM.indexR hF rfl (hτ _ _ rfl) rfl (hτ _ _ rfl) rfl (k := .i64) (i := j + 1) (by exact  rfl) ( by simp [ints]; omega) rfl rfl) rfl rfl ?_
              refine Wv hF hτ rfl ?_
              refine AL.opM (OpM.loadE hF rfl (hτ _ _ rfl) rfl rfl (q := 0) (get_enc (fun n : Int => [di n]) (get_tAt (l := tb) (i := j + 1) (by omega))) rfl (Nat.le_of_ble_eq_true rfl) rfl rfl rfl) rfl rfl ?_
              refine Wv hF hτ rfl ?_
              refine AL.opM (OpM.indexR hF rfl (hτ _ _ rfl) rfl (hτ _ _ rfl) rfl (k := .i64) (i := i) (by exact  rfl) ( by simp [ints]; omega) rfl rfl) rfl rfl ?_
              refine Wv hF hτ rfl ?_
              refine AL.op rfl (OpTo.storeE hF rfl rfl (hτ _ _ rfl) rfl rfl (q := 0) (get_enc (fun n : Int => [di n]) (get_tAt (l := tb) (i := i) (by omega))) rfl rfl rfl (Nat.le_of_ble_eq_true rfl)) ?_
              refine Wv hF hτ rfl ?_
              refine AL.opM (OpM.indexR hF rfl (hτ _ _ rfl) rfl (hτ _ _ rfl) rfl (k := .i64) (i := i) (by exact  rfl) ( by simp [ints]; omega) rfl rfl) rfl rfl ?_
              refine Wv hF hτ rfl ?_
              refine AL.op rfl (OpTo.storeE hF rfl rfl (hτ _ _ rfl) rfl rfl (q := 0) (get_enc (fun n : Int => [di n]) (get_tAt (l := ag) (i := i) (by omega))) rfl rfl rfl (Nat.le_of_ble_eq_true rfl)) ?_
              refine Wv hF hτ rfl ?_
              refine Wv hF hτ rfl ?_
              (repeat' first | apply Wq | refine Ws hF hτ rfl ?_ | apply Wb | apply Wl | apply Wk | apply We | apply Wc | apply Wd | refine Wt rfl rfl ?_ | refine Wf rfl rfl ?_ | refine Wi rfl rfl (fun h => ?_) (fun h => ?_) | refine Wx hF hτ rfl rfl rfl rfl rfl rfl rfl rfl (fun h => ?_) (fun h => ?_) | apply Wn)
              refine ⟨⟨(j, (tb.set i (tAt tb (j + 1)), ag.set i ((j + 1 : Nat) : Int))), by show j < l.length; omega, by show i ≤ j; omega, by simp [r3], by simp [r4], by rw [← r5, hunf, if_pos (by rw [hab]; simp only [Bool.and_eq_true]; exact ⟨⟨e1, e2⟩, h⟩)]⟩, Nat.lt_succ_self j, ?_⟩
              (repeat' first | exact Sub.nil | refine Sub.put rfl ?_ | refine Sub.put ?_ ?_)
              · exact congrArg (fun z => some (Iv64 z)) hjw
              · refine congrArg (fun z => some (V.row true 3 z)) ?_
                simp [ints, List.map_set]
              · refine congrArg (fun z => some (V.row true 3 z)) ?_
                simp [ints, List.map_set]
            · refine ⟨⟨(j, (tb, ag)), by show j < l.length; omega, by show i ≤ j; omega, r3, r4, by rw [← r5, hunf, if_neg (by rw [hab]; intro hh; simp only [Bool.and_eq_true] at hh; exact Bool.noConfusion (hh.2.symm.trans h))]⟩, Nat.lt_succ_self j, ?_⟩
              (repeat' first | exact Sub.nil | refine Sub.put rfl ?_ | refine Sub.put ?_ ?_)
              exact congrArg (fun z => some (Iv64 z)) hjw
          · refine AD.start [0, 1, 2, 3, 4, 5, 6, 7, 8, 9, 10, 11, 12, 13, 14, 15, 16, 17, 18, 19, 20, 21, 22, 23, 24, 25, 26, 27, 28] [29, 30, 31, 32, 33, 34, 35, 36, 37, 38] ?_
            refine AD.vals hF hτ rfl ?_
            refine AD.fin (by kernel_rfl) rfl rfl (AA.done (by kernel_rfl) ?_)
            (repeat' first | apply Wq | refine Ws hF hτ rfl ?_ | apply Wb | apply Wl | apply Wk | apply We | apply Wc | apply Wd | refine Wt rfl rfl ?_ | refine Wf rfl rfl ?_ | refine Wi rfl rfl (fun h => ?_) (fun h => ?_) | refine Wx hF hτ rfl rfl rfl rfl rfl rfl rfl rfl (fun h => ?_) (fun h => ?_) | apply Wn)
            refine ⟨⟨(j, (tb, ag)), by show j < l.length; omega, by show i ≤ j; omega, r3, r4, by rw [← r5, hunf, if_neg (by rw [hab]; intro hh; simp only [Bool.and_eq_true] at hh; exact Bool.noConfusion (hh.1.2.symm.trans e2))]⟩, Nat.lt_succ_self j, ?_⟩
            (repeat' first | exact Sub.nil | refine Sub.put rfl ?_ | refine Sub.put ?_ ?_)
            exact congrArg (fun z => some (Iv64 z)) hjw
        · refine AD.start [0, 1, 2, 3, 4, 5, 6, 7, 8, 9, 10, 11, 12, 13] [14, 15, 16, 17, 18, 19, 20, 21, 22, 23, 24, 25, 26, 27, 28] ?_
          refine AD.vals hF hτ rfl ?_
          refine AD.fin (by kernel_rfl) rfl rfl ?_
          refine AA.split 90 rfl rfl (fun e2 => absurd e2 (by decide)) (fun e2 => ?_)
          refine AD.start [0, 1, 2, 3, 4, 5, 6, 7, 8, 9, 10, 11, 12, 13, 14, 15, 16, 17, 18, 19, 20, 21, 22, 23, 24, 25, 26, 27, 28] [29, 30, 31, 32, 33, 34, 35, 36, 37, 38] ?_
          refine AD.vals hF hτ rfl ?_
          refine AD.fin (by kernel_rfl) rfl rfl (AA.done (by kernel_rfl) ?_)
          (repeat' first | apply Wq | refine Ws hF hτ rfl ?_ | apply Wb | apply Wl | apply Wk | apply We | apply Wc | apply Wd | refine Wt rfl rfl ?_ | refine Wf rfl rfl ?_ | refine Wi rfl rfl (fun h => ?_) (fun h => ?_) | refine Wx hF hτ rfl rfl rfl rfl rfl rfl rfl rfl (fun h => ?_) (fun h => ?_) | apply Wn)
          refine ⟨⟨(j, (tb, ag)), by show j < l.length; omega, by show i ≤ j; omega, r3, r4, by rw [← r5, hunf, if_neg (by rw [hab]; intro hh; simp only [Bool.and_eq_true] at hh; exact Bool.noConfusion (hh.1.1.symm.trans e1))]⟩, Nat.lt_succ_self j, ?_⟩
          (repeat' first | exact Sub.nil | refine Sub.put rfl ?_ | refine Sub.put ?_ ?_)
          exact congrArg (fun z => some (Iv64 z)) hjw
      · have hij : j = i := by
          have h' : decide ((i : Int) < ((j : Nat) : Int)) = false := h
          have := of_decide_eq_false h'; omega
        subst hij
        have hst : innerTo (aboveC l) j (l.length - 1) (ta, af.set j (-1)) = (tb, ag) := by
          rw [← r5]
          cases j with
          | zero => rfl
          | succ j => simp only [innerTo]; rw [if_neg (by omega)]
        obtain ⟨c2, hc2⟩ : ∃ c, l[j]? = some c := ⟨_, List.getElem?_eq_getElem hin⟩
        have hg2 : l.getD j noC = c2 := by rw [List.getD_eq_getElem?_getD, hc2]; rfl
        have hsc := hsm c2 (List.mem_of_getElem? hc2)
        have hround : roundTo (aboveC l) (fun i => (l.getD i noC).weight) l.length j ((ta, af), la) = ((tb.set j (w64 (tAt tb j + c2.weight)), ag), if decide (la < 0) || decide (tAt (tb.set j (w64 (tAt tb j + c2.weight))) la.toNat ≤ tAt (tb.set j (w64 (tAt tb j + c2.weight))) j) then (j : Int) else la) := by
          simp only [roundTo, hst, hg2]
        have hlead : Leads l.length j ag := by
          have := innerTo_leads (aboveC l) (n := l.length) (i := j) (l.length - 1) (ta, af.set j (-1)) (by omega) (by simp [q3]) (fun q h1 h2 => by
            rw [tAt_set (by omega)]
            split
            · exact .inl rfl
            · exact q6 q (by omega) h2)
          rw [hst] at this
          exact this
        have hout : total = outerTo (aboveC l) (fun i => (l.getD i noC).weight) l.length j (roundTo (aboveC l) (fun i => (l.getD i noC).weight) l.length j ((ta, af), la)) := q8
        rw [hround] at hout
        refine AW.draw hmix (AD.start [] [0, 1, 2, 3, 4, 5, 6, 7, 8, 9] ?_)
        refine AD.vals hF hτ rfl ?_
        refine AD.op (o := _) rfl rfl rfl (OpM.indexR hF rfl (hτ _ _ rfl) rfl (hτ _ _ rfl) rfl (k := .i64) (i := j) rfl (by simp [ints]; omega) rfl rfl) ?_
        refine AD.vals hF hτ rfl ?_
        refine AD.op (o := _) rfl rfl rfl (OpM.loadE hF rfl (hτ _ _ rfl) rfl rfl (q := 0) (get_enc (fun n : Int => [di n]) (get_tAt (l := tb) (i := j) (by omega))) rfl (Nat.le_of_ble_eq_true rfl) rfl rfl rfl) ?_
        refine AD.vals hF hτ rfl ?_
        refine AD.op (o := _) rfl rfl rfl (OpM.indexD hF rfl (hτ _ _ rfl) rfl (hτ _ _ rfl) rfl (i := j) rfl ( get_enc Count.enc hc2) rfl rfl rfl) ?_
        refine AD.vals hF hτ rfl ?_
        refine AD.op (o := _) rfl rfl rfl (OpM.call hF rfl rfl rfl rfl (f116 hF hro c2 hsc.a0 (by have := hsc.a1; omega) hsc.b0 (by have := hsc.b1; omega)) rfl rfl rfl) ?_
        refine AD.vals hF hτ rfl ?_
        refine AD.fin (by kernel_rfl) rfl rfl (AA.tail (fuel := 0) [10, 11] _ (by kernel_rfl) ?_)
        refine Wv hF hτ rfl ?_
        have hwt : IntKind.wrap .i64 (tAt tb j + (2 * c2.n40 + c2.n20)) = w64 (tAt tb j + c2.weight) := rfl
        refine AL.opM (OpM.indexR hF rfl (hτ _ _ rfl) rfl (hτ _ _ rfl) rfl (k := .i64) (i := j) (by exact  rfl) ( by simp [ints]; omega) rfl rfl) rfl rfl ?_
        refine Wv hF hτ rfl ?_
        refine AL.op rfl (OpTo.storeE hF rfl rfl (hτ _ _ rfl) rfl rfl (q := 0) (get_enc (fun n : Int => [di n]) (get_tAt (l := tb) (i := j) (by omega))) rfl rfl rfl (Nat.le_of_ble_eq_true rfl)) ?_
        refine Wv hF hτ rfl ?_
        have hset : (ints tb).set j [di (w64 (tAt tb j + c2.weight))] = ints (tb.set j (w64 (tAt tb j + c2.weight))) := by simp [ints, List.map_set]
        generalize htc : tb.set j (w64 (tAt tb j + c2.weight)) = tc at hset hround hout
        have hcl : tc.length = l.length := by rw [← htc]; simp [r3]
        refine AL.nil ?_
        refine AW.subE (E' := [(.s 11, Iv64 j), (.s 8, .row true 3 (ints tc)), (.s 9, .row true 3 (ints ag)), (.s 10, Iv64 la), (.s 5, Vs (l.map Count.enc))]) ?_ (nodupB_ok rfl) ?_
        · (repeat' first | exact Sub.nil | refine Sub.put rfl ?_ | refine Sub.put ?_ ?_)
          exact congrArg (fun z => some (V.row true 3 z)) hset
        (repeat' first | apply Wq | refine Ws hF hτ rfl ?_ | apply Wb | apply Wl | apply Wk | apply We | apply Wn)
        have hjw : IntKind.wrap .i64 ((j : Int) - 1) = (j : Int) - 1 := wrap_id (by omega) (by omega)
        have hyes : (decide (la < 0) || decide (tAt tc la.toNat ≤ tAt tc j)) = true → total = outerTo (aboveC l) (fun i => (l.getD i noC).weight) l.length j ((tc, ag), (j : Int)) := fun e => by rw [hout, if_pos e]
        have hno : (decide (la < 0) || decide (tAt tc la.toNat ≤ tAt tc j)) = false → total = outerTo (aboveC l) (fun i => (l.getD i noC).weight) l.length j ((tc, ag), la) := fun e => by rw [hout, if_neg (by rw [e]; decide)]
        refine AW.draw hmix (AD.start [] [0, 1, 2] ?_)
        refine AD.vals hF hτ rfl ?_
        refine AD.fin (by kernel_rfl) rfl rfl ?_
        refine AA.split 125 rfl rfl (fun e1 => ?_) (fun e1 => ?_)
        · refine AD.start [0, 1, 2] [3, 4, 5, 6, 7, 8, 9, 10, 11, 12] ?_
          refine AD.vals hF hτ rfl ?_
          refine AD.fin (by kernel_rfl) rfl rfl (AA.done (by kernel_rfl) ?_)
          (repeat' first | apply Wq | refine Ws hF hτ rfl ?_ | apply Wb | apply Wl | apply Wk | apply We | apply Wc | apply Wd | refine Wt rfl rfl ?_ | refine Wf rfl rfl ?_ | refine Wi rfl rfl (fun h => ?_) (fun h => ?_) | refine Wx hF hτ rfl rfl rfl rfl rfl rfl rfl rfl (fun h => ?_) (fun h => ?_) | apply Wn)
          refine ⟨⟨(j, (tc, ag), (j : Int)), by show j ≤ l.length; omega, hcl, r4, by show (-1 : Int) ≤ (j : Int); omega, by show (j : Int) < l.length; omega, hlead, fun _ => by show j ≤ ((j : Int)).toNat; omega, hyes (by rw [e1]; rfl)⟩, Nat.lt_succ_self j, ?_⟩
          (repeat' first | exact Sub.nil | refine Sub.put rfl ?_ | refine Sub.put ?_ ?_)
          exact congrArg (fun z => some (Iv64 z)) hjw
        · have hla : ∃ q : Nat, la = q ∧ q < l.length := ⟨la.toNat, by have := of_decide_eq_false e1; omega, by have := of_decide_eq_false e1; omega⟩
          obtain ⟨q, rfl, hq⟩ := hla
          refine AD.start [0, 1, 2] [3, 4, 5, 6, 7, 8, 9, 10, 11, 12] ?_
          refine AD.vals hF hτ rfl ?_
          refine AD.op (o := _) rfl rfl rfl (OpM.indexR hF rfl (hτ _ _ rfl) rfl (hτ _ _ rfl) rfl (k := .i64) (i := j) rfl (by simp [ints]; omega) rfl rfl) ?_
          refine AD.vals hF hτ rfl ?_
          refine AD.op (o := _) rfl rfl rfl (OpM.loadE hF rfl (hτ _ _ rfl) rfl rfl (q := 0) (get_enc (fun n : Int => [di n]) (get_tAt (l := tc) (i := j) (by omega))) rfl (Nat.le_of_ble_eq_true rfl) rfl rfl rfl) ?_
          refine AD.vals hF hτ rfl ?_
          refine AD.op (o := _) rfl rfl rfl (OpM.indexR hF rfl (hτ _ _ rfl) rfl (hτ _ _ rfl) rfl (k := .i64) (i := q) rfl (by simp [ints]; omega) rfl rfl) ?_
          refine AD.vals hF hτ rfl ?_
          refine AD.op (o := _) rfl rfl rfl (OpM.loadE hF rfl (hτ _ _ rfl) rfl rfl (q := 0) (get_enc (fun n : Int => [di n]) (get_tAt (l := tc) (i := q) (by omega))) rfl (Nat.le_of_ble_eq_true rfl) rfl rfl rfl) ?_
          refine AD.vals hF hτ rfl ?_
          refine AD.fin (by kernel_rfl) rfl rfl (AA.done (by kernel_rfl) ?_)
          (repeat' first | apply Wq | refine Ws hF hτ rfl ?_ | apply Wb | apply Wl | apply Wk | apply We | apply Wc | apply Wd | refine Wt rfl rfl ?_ | refine Wf rfl rfl ?_ | refine Wi rfl rfl (fun h => ?_) (fun h => ?_) | refine Wx hF hτ rfl rfl rfl rfl rfl rfl rfl rfl (fun h => ?_) (fun h => ?_) | apply Wn)
          · refine ⟨⟨(j, (tc, ag), (j : Int)), by show j ≤ l.length; omega, hcl, r4, by show (-1 : Int) ≤ (j : Int); omega, by show (j : Int) < l.length; omega, hlead, fun _ => by show j ≤ ((j : Int)).toNat; omega, hyes (by rw [Bool.or_eq_true]; exact .inr (by simpa using h))⟩, Nat.lt_succ_self j, ?_⟩
            (repeat' first | exact Sub.nil | refine Sub.put rfl ?_ | refine Sub.put ?_ ?_)
            exact congrArg (fun z => some (Iv64 z)) hjw
          · refine ⟨⟨(j, (tc, ag), (q : Int)), by show j ≤ l.length; omega, hcl, r4, q4, q5, hlead, fun h => by have := q7 h; show j ≤ ((q : Int)).toNat; omega, hno (by rw [e1]; simpa using h)⟩, Nat.lt_succ_self j, ?_⟩
            (repeat' first | exact Sub.nil | refine Sub.put rfl ?_ | refine Sub.put ?_ ?_)
            exact congrArg (fun z => some (Iv64 z)) hjw
    · have hi0 : i = 0 := by
        have h' : decide ((0 : Int) ≤ (i : Int) - 1) = false := h
        have := of_decide_eq_false h'; omega
      subst hi0
      have htl : total = ((ta, af), la) := q8
      (repeat' first | apply Wq | refine Ws hF hτ rfl ?_ | apply Wb | apply Wl | apply Wk | apply We | apply Wc | apply Wd | refine Wt rfl rfl ?_ | refine Wf rfl rfl ?_ | refine Wi rfl rfl (fun h => ?_) (fun h => ?_) | refine Wx hF hτ rfl rfl rfl rfl rfl rfl rfl rfl (fun h => ?_) (fun h => ?_) | apply Wn)
      have hidx : follow af l.length la = chainIdx (aboveC l) (fun i => (l.getD i noC).weight) l.length := by
        rw [chainIdx, ← htot, htl]
      refine AW.loopI (X := { x : Int × Nat × List Nat // -1 ≤ x.1 ∧ x.1 < l.length ∧ (0 ≤ x.1 → l.length ≤ x.1.toNat + x.2.1) ∧ x.2.2.length + x.2.1 ≤ l.length ∧ x.2.2 ++ follow af x.2.1 x.1 = chainIdx (aboveC l) (fun i => (l.getD i noC).weight) l.length })
        (fun x => [(.s 14, Iv64 x.1.1), (.s 13, .row true 148 ((x.1.2.2.map fun i => l.getD i noC).map Count.enc)), (.s 9, .row true 3 (ints af)), (.s 5, Vs (l.map Count.enc))]) (fun x => x.1.2.1) (fun x => rfl)
        ⟨(la, l.length, []), q4, q5, fun _ => Nat.le_add_left _ _, by simp, by rw [List.nil_append]; exact hidx⟩ ?_ ?_
      · (repeat' first | exact Sub.nil | refine Sub.put rfl ?_ | refine Sub.put ?_ ?_)
      rintro ⟨⟨p, f, acc⟩, s1, s2, s3, s4, s5⟩
      simp only at s1 s2 s3 s4 s5
      (repeat' first | apply Wq | refine Ws hF hτ rfl ?_ | apply Wb | apply Wl | apply Wk | apply We | apply Wc | apply Wd | refine Wt rfl rfl ?_ | refine Wf rfl rfl ?_ | refine Wi rfl rfl (fun h => ?_) (fun h => ?_) | refine Wx hF hτ rfl rfl rfl rfl rfl rfl rfl rfl (fun h => ?_) (fun h => ?_) | apply Wn)
      · have hp0 : 0 ≤ p := by have := of_decide_eq_true h; exact this
        obtain ⟨p, rfl⟩ : ∃ q : Nat, p = q := ⟨p.toNat, by omega⟩
        have hpl : p < l.length := by omega
        have hf := s3 hp0
        obtain ⟨f, rfl⟩ : ∃ k, f = k + 1 := ⟨f - 1, by have : ((p : Int)).toNat = p := rfl; omega⟩
        obtain ⟨c, hcp⟩ : ∃ c, l[p]? = some c := ⟨_, List.getElem?_eq_getElem hpl⟩
        have hgp : l.getD p noC = c := by rw [List.getD_eq_getElem?_getD, hcp]; rfl
        have hfo : follow af (f + 1) (p : Int) = p :: follow af f (tAt af p) := by
          rw [follow, if_neg (by omega)]; rfl
        rw [hfo] at s5
        refine AL.opM (OpM.indexD hF rfl (hτ _ _ rfl) rfl (hτ _ _ rfl) rfl (i := p) rfl ( get_enc Count.enc hcp) rfl rfl rfl) rfl rfl ?_
        refine Wv hF hτ rfl ?_
        refine AL.opM (OpM.buildSlice hF rfl (hτ _ _ rfl) rfl (hτ _ _ rfl) rfl rfl rfl (by decide) (by decide) rfl rfl) rfl rfl ?_
        refine AL.op rfl (OpTo.append hF rfl rfl rfl rfl (hτ _ _ rfl) rfl (hτ _ _ rfl) rfl rfl rfl rfl (by intro cs h; cases h with | head => rfl | tail _ h => cases h) (by simp [Base.xs, chunks, lim]; omega) (by simp [Base.xs, chunks, lim]; omega) rfl rfl rfl) ?_
        refine Wv hF hτ rfl ?_
        (repeat' first | apply Wq | refine Ws hF hτ rfl ?_ | apply Wb | apply Wl | apply Wk | apply We | apply Wc | apply Wd | refine Wt rfl rfl ?_ | refine Wf rfl rfl ?_ | refine Wi rfl rfl (fun h => ?_) (fun h => ?_) | refine Wx hF hτ rfl rfl rfl rfl rfl rfl rfl rfl (fun h => ?_) (fun h => ?_) | apply Wn)
        refine AL.opM (OpM.indexR hF rfl (hτ _ _ rfl) rfl (hτ _ _ rfl) rfl (k := .i64) (i := p) (by exact  rfl) ( by simp [ints]; omega) rfl rfl) rfl rfl ?_
        refine Wv hF hτ rfl ?_
        refine AL.opM (OpM.loadE hF rfl (hτ _ _ rfl) rfl rfl (q := 0) (get_enc (fun n : Int => [di n]) (get_tAt (l := af) (i := p) (by omega))) rfl (Nat.le_of_ble_eq_true rfl) rfl rfl rfl) rfl rfl ?_
        refine Wv hF hτ rfl ?_
        (repeat' first | apply Wq | refine Ws hF hτ rfl ?_ | apply Wb | apply Wl | apply Wk | apply We | apply Wc | apply Wd | refine Wt rfl rfl ?_ | refine Wf rfl rfl ?_ | refine Wi rfl rfl (fun h => ?_) (fun h => ?_) | refine Wx hF hτ rfl rfl rfl rfl rfl rfl rfl rfl (fun h => ?_) (fun h => ?_) | apply Wn)
        have hld := q6 p (Nat.zero_le _) hpl
        have hto : ((p : Int)).toNat = p := rfl
        refine ⟨⟨(tAt af p, f, acc ++ [p]), by show -1 ≤ tAt af p; rcases hld with h | ⟨v, h, _⟩ <;> omega, by show tAt af p < l.length; rcases hld with h | ⟨v, h, _⟩ <;> omega, fun h0 => by
          show l.length ≤ (tAt af p).toNat + f
          rcases hld with h | ⟨v, h, h2, _⟩ <;> omega, by show (acc ++ [p]).length + f ≤ l.length; simp; omega, by show (acc ++ [p]) ++ follow af f (tAt af p) = _; rw [← s5]; simp⟩, Nat.lt_succ_self f, ?_⟩
        (repeat' first | exact Sub.nil | refine Sub.put rfl ?_ | refine Sub.put ?_ ?_)
        refine congrArg (fun z => some (V.row true 148 z)) ?_
        simp [chunks, hcp]
        rfl
      · have hpn : p < 0 := by have := of_decide_eq_false h; simp at this; omega
        have hfo : follow af f p = [] := by
          cases f with
          | zero => rfl
          | succ f => rw [follow, if_pos hpn]
        rw [hfo, List.append_nil] at s5
        (repeat' first | apply Wq | refine Ws hF hτ rfl ?_ | apply Wb | apply Wl | apply Wk | apply We | apply Wc | apply Wd | refine Wt rfl rfl ?_ | refine Wf rfl rfl ?_ | refine Wi rfl rfl (fun h => ?_) (fun h => ?_) | refine Wx hF hτ rfl rfl rfl rfl rfl rfl rfl rfl (fun h => ?_) (fun h => ?_) | apply Wn)
        refine AW.ret ⟨.inr rfl, ?_⟩
        exact congrArg (fun z : List Nat => some (V.row true 148 ((z.map fun i => l.getD i noC).map Count.enc))) s5
end Go.Proofs.VL
