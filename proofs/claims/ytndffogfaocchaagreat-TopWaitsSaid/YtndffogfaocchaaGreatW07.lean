import Derived.Test.YtndffogfaocchaaGreatW06
set_option linter.unusedVariables false
set_option linter.unusedSimpArgs false
set_option linter.unusedSectionVars false
namespace Go.Proofs.VL
open Go Go.RowKit
variable {P : Program}
section
variable {F : Fence} {n : Nat} {K : List Nat} {o : Oper} {E E' : Env} {τ : Nat → Option TI}
def nilRow (t i : Nat) (m : Bool) (e : Nat) (E : Env) : Option Env := match look E (.s t) with
  | some (.bx b cs) => (match cs[i]? with
    | some (.d .nl) => (match anyOf (.c t i) E with
      | false => forceL (splice cs i [.ref (.c t i)]) fun cs' => force ((.c t i, .row m e []) :: upd (.s t) (.bx b cs') E) some
      | true => none)
    | _ => none)
  | _ => none
theorem Ent.nilRow {t i : Nat} {m : Bool} {e : Nat} (h : VL.nilRow t i m e E = some E') : Ent P E E' := by
  unfold VL.nilRow at h
  split at h
  case h_2 => cases h
  rename_i b cs hlk
  split at h
  case h_2 => cases h
  rename_i hcell
  split at h
  case h_2 => cases h
  rename_i hany
  rw [forceL_eq, force_eq] at h
  cases h
  refine Ent.of_rel fun w N L γ R tmps hr => ?_
  let γ' : Gh := fun t' i' => if t' = t ∧ i' = i then some (.slice none 0 0) else γ t' i'
  have hTn : Tof tmps γ' (.c t i) = some (.slice none 0 0) := by simp [Tof, γ']
  have hTo : ∀ l c', l ≠ .c t i → Tof tmps γ l = some c' → Tof tmps γ' l = some c' := by
    intro l c' hl h
    cases l with
    | s t' => exact h
    | c t' i' =>
      simp only [Tof, γ'] at h ⊢
      rw [if_neg (fun e => hl (by rw [e.1, e.2]))]
      exact h
  let R' : Loc → Blocks := fun x => if x = .c t i then none_ else R x
  refine ⟨γ', R', ⟨?_, ?_, ?_, ?_, hr.NL, hr.Llt⟩, ?_⟩
  · intro s u hmem
    cases hmem with
    | head => exact ⟨_, hTn, .rownil m e _⟩
    | tail _ hmem =>
      rcases upd_mem hr.nd hmem with ⟨rfl, rfl, _⟩ | ⟨hmem, hne⟩
      · obtain ⟨c, h1, h2⟩ := hr.rep _ _ (look_mem hlk)
        have hmen := (anyOf_mem hany (look_mem hlk)).2
        obtain ⟨bb, vals, rfl, hbb, hl, hcell', hrep, hL, hRb⟩ := bx_inv h2
        have hi : i < cs.length := (List.getElem?_eq_some_iff.1 hcell).1
        have hin : i + [V.ref (.c t i)].length ≤ cs.length := by simp; omega
        have hval : vals.getD i undef = .slice none 0 0 := by
          have := hrep i _ hcell
          generalize vals.getD i undef = q at this
          cases this with
          | d _ _ _ h => cases h; rfl
        refine ⟨_, hTo _ _ (by simp) h1, .bx b _ bb vals _ hbb (by rw [splice_len hin]; exact hl) (fun j x hj => ?_) (fun j x hj => ?_) hL ?_⟩
        · rw [splice_get hin] at hj
          split at hj
          · rename_i hji
            obtain rfl : j = i := by simp at hji; omega
            simp at hj; subst hj; rfl
          · exact hcell' _ _ hj
        · rw [splice_get hin] at hj
          split at hj
          · rename_i hji
            obtain rfl : j = i := by simp at hji; omega
            simp at hj; subst hj
            rw [hval]
            exact .ref _ _ _ hTn rfl
          · exact (hrep _ _ hj).congrT hTo (mens_get (by simpa [V.men] using hmen) hj)
        · simp only [R']
          rw [if_neg (by simp)]
          exact hRb
      · obtain ⟨c, h1, h2⟩ := hr.rep _ _ hmem
        obtain ⟨k1, k2⟩ := anyOf_mem hany hmem
        refine ⟨c, hTo _ _ k1 h1, (h2.congrT hTo k2).more (fun x hx => ?_)⟩
        simp only [R']
        rw [if_neg k1]
        exact hx
  · simp only [List.map_cons, List.nodup_cons, upd_keys]
    refine ⟨fun hm => ?_, hr.nd⟩
    obtain ⟨⟨s, u⟩, hm1, e⟩ := List.mem_map.1 hm
    exact (anyOf_mem hany hm1).1 e
  · intro a a' x hab ha ha'
    simp only [R'] at ha ha'
    split at ha
    · exact ha
    · split at ha'
      · exact ha'
      · exact hr.dis _ _ _ hab ha ha'
  · intro l x hx
    simp only [R'] at hx
    split at hx
    · exact hx.elim
    · exact hr.lt _ _ hx
  · rintro x ⟨l, hx⟩
    simp only [R'] at hx
    split at hx
    · exact hx.elim
    · exact ⟨_, hx⟩
def token (l : Loc) (E : Env) : Option Env := match look E l with
  | some (.row true e xs) => force (upd l (.row false e xs) E) some
  | _ => none
theorem Ent.tok {l : Loc} (h : VL.token l E = some E') : Ent P E E' := by
  unfold VL.token at h
  split at h
  · rename_i hlk; rw [force_eq] at h; cases h; exact Ent.token hlk
  · cases h
theorem AW.to {c y : Code} {Q Q' : Exit → Env → Prop} (M : Env) (hM : nodupB (M.map Prod.fst) = true) (hx : AW P F n K c (thenQ (Sub M) Q) E) (hy : AW P F n K y Q' M) : AW P F n K c (thenQ (AW P F n K y Q') Q) E :=
  hx.mono fun e E' h => by
    cases e with
    | normal => exact AW.subE h (nodupB_ok hM) hy
    | _ => exact h
theorem AW.toN {c : Code} {Q : Exit → Env → Prop} (M : Env) (hx : AW P F n K c (thenQ (Sub M) Q) E) (hy : ∀ E', Sub M E' → Q .normal E') : AW P F n K c Q E :=
  hx.mono fun e E' h => by
    cases e with
    | normal => exact hy E' h
    | _ => exact h
theorem OpM.eq {d : Nat} {v v' : V} (e : v = v') (h : OpM P F n K o E d v) : OpM P F n K o E d v' := e ▸ h
theorem Imp.nl : Imp P (.d .nl) (.d (.sl [])) := by
  intro w N L T c S hNL h
  cases h with
  | d _ _ _ h => cases h; exact .d _ _ _ (.nil _ _)
theorem Imp.ag {cs' cs : List V} (h : Imps P cs' cs) (hc : ∀ v ∈ cs, isCell v = true) : Imp P (.ag cs') (.ag cs) := by
  intro w N L T c S hNL hr
  cases hr with
  | ag _ vals _ hl hc' hr =>
    refine .ag _ _ _ (by rw [← hl, h.len]) (fun i v hi => hc v (List.mem_of_getElem? hi)) (fun i v hi => ?_)
    obtain ⟨v', hv', himp⟩ := h.get i v hi
    exact himp w N L T _ _ hNL (hr i v' hv')
end
end Go.Proofs.VL
namespace Go.Proofs.VL
open Go Go.RowKit
variable {P : Program} {F : Fence} {n : Nat} {K : List Nat} {o : Oper} {E E' : Env} {τ : Nat → Option TI} {ops : Array Oper}
def isKnown : V → Bool | .kt | .kf => true | _ => false
theorem AL.splitS (hF : Wide F) (hτ : ∀ t ti, τ t = some ti → mkTI P t = some ti) {l : List Oper} {Q : Env → Prop} {j d : Nat} {want b : Bool} {oj : Oper} {v : V} {E1 E2 : Env} {r1 r2 : List Oper}
    (hg : o.guard = some (j, want)) (hj : ops[j]? = some oj) (hd : oj.dst = some d) (hlk : look E (.s d) = some v) (hk : isKnown v = false) (hv : boolV v = some b)
    (h1 : VL.steps τ n K ops (VL.upd (.s d) .kt E) (o :: l) = (E1, r1)) (h2 : VL.steps τ n K ops (VL.upd (.s d) .kf E) (o :: l) = (E2, r2))
    (ht : b = true → AL P F n K ops r1 Q E1) (hf : b = false → AL P F n K ops r2 Q E2) : AL P F n K ops (o :: l) Q E :=
  AL.split d hlk hv (fun h => AL.steps hF hτ h1 (ht h)) (fun h => AL.steps hF hτ h2 (hf h))
theorem AL.call {l : List Oper} {Q : Env → Prop} (hF : Wide F) (hτ : ∀ t ti, τ t = some ti → mkTI P t = some ti) {d : Nat} {v : V} {E1 : Env} {r1 : List Oper} (h : OpM P F n K o E d v) (hg : o.guard = none) (ha : anyOf (.s d) E = false)
    (h1 : VL.steps τ n K ops ((.s d, v) :: E) l = (E1, r1)) (hl : AL P F n K ops r1 Q E1) : AL P F n K ops (o :: l) Q E :=
  .opM h hg ha (AL.steps hF hτ h1 hl)
theorem AW.condC0 {x y : Code} {Q : Exit → Env → Prop} (h : AW P F n K y Q E) : AW P F n K (.cond (.const (.bool false)) x y) Q E := by
  intro w N L γ R tmps ds hr hn
  exact wpIn_cond_false rfl (h w N L γ R tmps ds hr hn)
theorem AW.condC1 {x y : Code} {Q : Exit → Env → Prop} (h : AW P F n K x Q E) : AW P F n K (.cond (.const (.bool true)) x y) Q E := by
  intro w N L γ R tmps ds hr hn
  exact wpIn_cond_true rfl (h w N L γ R tmps ds hr hn)
theorem AW.forget (l : Loc) {c : Code} {Q : Exit → Env → Prop} (h1 : force (purge l E) some = some E') (h : AW P F n K c Q E') : AW P F n K c Q E := by
  intro w N L γ R tmps ds hr hn
  rw [force_eq] at h1
  obtain rfl := Option.some.inj h1
  exact h w N L γ R tmps ds (hr.sub (fun t v hm => (purge_mem hm).1) (hr.nd.sublist (purge_sub.map _))) hn
abbrev Wc := @AW.condC0
abbrev Wd := @AW.condC1
abbrev Wt := @AW.condT
abbrev Wf := @AW.condF
abbrev Wi := @AW.cond
abbrev Wx := @AL.splitS
end Go.Proofs.VL
namespace Go.Proofs.VL
open Go Go.RowKit
variable {P : Program}
theorem Rel.writeRow {E : Env} {w : World} {N L : Cells} {γ : Gh} {R : Loc → Blocks} {tmps : Array Value} (hr : Rel P w N L tmps γ R E) {l : Loc} {e : Nat} {xs : List (List D)} (hl : look E l = some (.row true e xs)) {b len cap : Nat}
    (hT : Tof tmps γ l = some (.slice (some ⟨b, 0, none⟩) len cap)) {k i0 : Nat} (he : (P.info? e).map (·.size) = some k) {ys : List (List D)} {vals : List Value} (hlen : vals.length = ys.length * k) (h1 : ∀ u ∈ vals, u.oneCell' = true) (hyk : lens k ys)
    (hfit : i0 + ys.length ≤ xs.length) (hy : ∀ (i j : Nat) (cs : List D) (d : D), ys[i]? = some cs → cs[j]? = some d → RepD w N d (vals.getD (i * k + j) undef)) :
    ∃ newv : Array Value, (storeCells ⟨b, i0 * k, none⟩ vals).run P w = .ok () (w.setRow b newv) ∧ Rel P (w.setRow b newv) N L tmps γ R (VL.upd l (.row true e (xs.take i0 ++ ys ++ xs.drop (i0 + ys.length))) E) ∧ Later w N L (St R) (w.setRow b newv) N L := by
  obtain ⟨c2, h3, h4⟩ := hr.rep _ _ (look_mem hl)
  rw [hT] at h3
  cases h3
  generalize hxl : xs.length = xl at *
  cases h4 with
  | row _ _ _ b cap kk bl cv _ hb hs hcap hcm hll he2 hkk hc hrd hm hm' hm2 hm3 hRb =>
    have : kk = k := by rw [he] at he2; exact (Option.some.inj he2).symm
    subst this
    subst hxl
    have hmul : (i0 + ys.length) * kk ≤ cap * kk := Nat.mul_le_mul_right _ (by omega)
    have hmul2 : (i0 + ys.length) * kk = i0 * kk + ys.length * kk := Nat.add_mul ..
    have hst := run_storeCells_at P b (i0 * kk) e vals 0 bl w hb (by omega) h1
    simp only [Nat.add_zero] at hst
    generalize hnew : (bl.toList.take (i0 * kk) ++ vals ++ bl.toList.drop (i0 * kk + vals.length)).toArray = newv at hst
    have hheap : (w.setRow b newv).heap[b]? = some (.cells newv e (0, 0)) := setRow_heap w b bl newv e (0, 0) hb
    have hoth : ∀ b', b' ≠ b → (w.setRow b newv).heap[b']? = w.heap[b']? := fun b' hne => setRow_other w b b' newv hne
    have hkeep : Keeps L w (w.setRow b newv) := fun b' o' u hl' hu => by
      rw [cell_of_heap (hoth b' (by rintro rfl; exact hm rfl _ hl'))]; exact hu
    have hnget : ∀ j, newv[j]? = if j < i0 * kk then bl[j]? else if j < i0 * kk + vals.length then vals[j - i0 * kk]? else bl[j]? := by
      intro j
      rw [← hnew]
      simp only [List.getElem?_toArray, List.append_assoc, List.getElem?_append, List.length_take, Array.length_toList]
      by_cases c1 : j < i0 * kk
      · rw [if_pos (by omega), if_pos c1, List.getElem?_take, if_pos c1]; simp
      · rw [if_neg (by omega), if_neg c1, show min (i0 * kk) bl.size = i0 * kk by omega]
        by_cases c2 : j - i0 * kk < vals.length
        · rw [if_pos c2, if_pos (by omega)]
        · rw [if_neg c2, if_neg (by omega), List.getElem?_drop]
          rw [show i0 * kk + vals.length + (j - i0 * kk - vals.length) = j by omega]; simp
    have hnsz : newv.size = bl.size := by rw [← hnew]; simp; omega
    have hlenset : (xs.take i0 ++ ys ++ xs.drop (i0 + ys.length)).length = xs.length := by simp; omega
    have hget : ∀ i', (xs.take i0 ++ ys ++ xs.drop (i0 + ys.length))[i']? = if i' < i0 then xs[i']? else if i' < i0 + ys.length then ys[i' - i0]? else xs[i']? := by
      intro i'
      simp only [List.append_assoc, List.getElem?_append, List.length_take]
      by_cases c1 : i' < i0
      · rw [if_pos (by omega), if_pos c1, List.getElem?_take, if_pos c1]
      · rw [if_neg (by omega), if_neg c1, show min i0 xs.length = i0 by omega]
        by_cases c2 : i' - i0 < ys.length
        · rw [if_pos c2, if_pos (by omega)]
        · rw [if_neg c2, if_neg (by omega), List.getElem?_drop]
          rw [show i0 + ys.length + (i' - i0 - ys.length) = i' by omega]
    refine ⟨newv, hst, ⟨?_, by rw [upd_keys]; exact hr.nd, hr.dis, by simpa using hr.lt, hr.NL, by simpa using hr.Llt⟩, ⟨rfl, rfl, rfl, by simp, fun b' _ hS => hoth b' (by rintro rfl; exact hS ⟨l, hRb⟩), hkeep, fun _ _ h => h, fun _ _ h => h, fun _ _ h => .inl h, fun _ _ h => .inl h⟩⟩
    intro s u' hmem
    rcases upd_mem hr.nd hmem with ⟨rfl, rfl, _⟩ | ⟨hmem, hne⟩
    · refine ⟨_, hT, ?_⟩
      rw [← hlenset]
      refine .row true e _ b cap kk newv (fun i' j => newv.getD (i' * kk + j) undef) _ hheap (by omega) (by omega) hcm (by omega) he ?_ ?_ ?_ hm (by simp) (by simp) (by simp) hRb
      · intro i' cs' hi'
        rw [hget] at hi'
        split at hi'
        · exact hkk i' cs' hi'
        · split at hi'
          · exact hyk cs' (List.mem_of_getElem? hi')
          · exact hkk i' cs' hi'
      · intro i' j hi' hj
        refine getD_of ?_
        have : (i' + 1) * kk ≤ cap * kk := Nat.mul_le_mul_right _ (by omega)
        rw [Nat.add_mul, Nat.one_mul] at this
        omega
      · intro i' j cs' d hi' hj
        have hj2 : xs[i']? = some cs' ∨ True := .inr trivial
        have hold : ∀ (cs'' : List D), xs[i']? = some cs'' → cs''[j]? = some d → newv[i' * kk + j]? = bl[i' * kk + j]? → RepD (w.setRow b newv) N d (newv.getD (i' * kk + j) undef) := by
          intro cs'' hxs hcs hne'
          have hlt' : i' < xs.length := (List.getElem?_eq_some_iff.1 hxs).1
          have hj2 : j < kk := by rw [← hkk i' cs'' hxs]; exact (List.getElem?_eq_some_iff.1 hcs).1
          have : newv.getD (i' * kk + j) undef = cv i' j := by
            rw [Array.getD_eq_getD_getElem?, hne', hc i' j hlt' hj2]; rfl
          rw [this]
          exact (hrd i' j cs'' d hxs hcs).mono (fun _ _ h => h) (fun b' o' u h1 h2 => hkeep b' o' u (hr.NL _ _ h1) h2)
        rw [hget] at hi'
        split at hi'
        · rename_i c1
          have hj2 : j < kk := by rw [← hkk i' cs' hi']; exact (List.getElem?_eq_some_iff.1 hj).1
          refine hold cs' hi' hj ?_
          have : (i' + 1) * kk ≤ i0 * kk := Nat.mul_le_mul_right _ c1
          rw [Nat.add_mul, Nat.one_mul] at this
          rw [hnget, if_pos (by omega)]
        · rename_i c1
          split at hi'
          · rename_i c2
            have hj2 : j < kk := by rw [← hyk cs' (List.mem_of_getElem? hi')]; exact (List.getElem?_eq_some_iff.1 hj).1
            have e1 : i' * kk = i0 * kk + (i' - i0) * kk := by rw [← Nat.add_mul]; congr 1; omega
            have hlt : (i' - i0 + 1) * kk ≤ ys.length * kk := Nat.mul_le_mul_right _ (by omega)
            rw [Nat.add_mul, Nat.one_mul] at hlt
            have e3 : newv.getD (i' * kk + j) undef = vals.getD ((i' - i0) * kk + j) undef := by
              rw [Array.getD_eq_getD_getElem?, List.getD_eq_getElem?_getD, hnget, if_neg (by omega), if_pos (by omega)]
              rw [show i' * kk + j - i0 * kk = (i' - i0) * kk + j by omega]
            rw [e3]
            exact (hy _ _ _ _ hi' hj).mono (fun _ _ h => h) (fun b' o' u h1 h2 => hkeep b' o' u (hr.NL _ _ h1) h2)
          · rename_i c2
            have hj2 : j < kk := by rw [← hkk i' cs' hi']; exact (List.getElem?_eq_some_iff.1 hj).1
            refine hold cs' hi' hj ?_
            have : (i0 + ys.length) * kk ≤ i' * kk := Nat.mul_le_mul_right _ (by omega)
            rw [hnget, if_neg (by omega), if_neg (by omega)]
    · obtain ⟨cu, m1, m2⟩ := hr.rep _ _ hmem
      exact ⟨cu, m1, m2.world (by simp) (fun b' hb' => hoth b' (by rintro rfl; exact hr.dis _ _ _ hne hb' hRb)) hr.NL hkeep (fun _ _ h => h) (fun _ _ h => h) (fun _ _ _ h => h) (fun _ _ _ h => h)⟩
section
variable {F : Fence} {n : Nat} {K : List Nat} {o : Oper} {E E' : Env} {τ : Nat → Option TI}
theorem info_of {e : Nat} {ui : TI} (h : mkTI P e = some ui) : (P.info? e).map (·.size) = some ui.size := by
  obtain ⟨i, d, z, m1, m2, m3, m4, m5, m6, _⟩ := mkTI_ok h
  rw [m1]; simp [m6]
theorem OpM.sliceR (hF : Wide F) {t : Nat} {x : Operand} {lo hi : Option Operand} (ho : o.op = .slice t x lo hi none) {ti ui : TI} (hti : mkTI P t = some ti) {e : Nat} (hk : ti.kind = .slice e) (hui : mkTI P e = some ui) {l0 : Loc} {m : Bool} {xs : List (List D)} (hx : rowO E x = some (l0, m, e, xs))
    {l h : Nat} (hl : lo = none ∧ l = 0 ∨ ∃ y k, lo = some y ∧ intO E y = some (k, (l : Int))) (hh : hi = none ∧ h = xs.length ∨ ∃ y k, hi = some y ∧ intO E y = some (k, (h : Int))) (h1 : l ≤ h) (h2 : h ≤ xs.length) (h3 : l < xs.length) {d : Nat} (hd : o.dst = some d) (hok : okD n K d (.sub l0 l (l * ui.size) (h - l)) = true) :
    OpM P F n K o E d (.sub l0 l (l * ui.size) (h - l)) :=
  .pure hF (by simp [ho]) hd hok fun E' hs w N L γ R tmps ds hr hn => by
    obtain ⟨q1, q2, q3⟩ := rowO_ok hr (rowO_mono hs hx) ds
    generalize hce : Act.eval ⟨tmps, ds⟩ x = c at q2 q3
    have hlo : (lo.map (Act.eval ⟨tmps, ds⟩)) = none ∧ l = 0 ∨ ∃ k, (lo.map (Act.eval ⟨tmps, ds⟩)) = some (.int k (l : Int)) := by
      rcases hl with ⟨rfl, rfl⟩ | ⟨y, k, rfl, hy⟩
      · exact .inl ⟨rfl, rfl⟩
      · exact .inr ⟨k, by simp [intO_ok hr (intO_mono hs hy) ds]⟩
    have hhi : (hi.map (Act.eval ⟨tmps, ds⟩)) = none ∧ h = xs.length ∨ ∃ k, (hi.map (Act.eval ⟨tmps, ds⟩)) = some (.int k (h : Int)) := by
      rcases hh with ⟨rfl, rfl⟩ | ⟨y, k, rfl, hy⟩
      · exact .inl ⟨rfl, rfl⟩
      · exact .inr ⟨k, by simp [intO_ok hr (intO_mono hs hy) ds]⟩
    have ht := slice_of hti hk
    cases q3 with
    | row _ _ _ b cap kk bl cv _ hb hsz hcap hcm hll he hkk hc hrd hm hm' hm2 hm3 hRb =>
      have hb := run_slice_bounds (P := P) (w := w) hlo hhi h1 h2 hcap
      refine ⟨_, ?_, fun S => .sub l0 l (l * ui.size) (h - l) b _ cap S q2⟩
      have hne : cap ≠ l := by omega
      simp [execOp, ho, hce, Instr.sliceAt, Instr.slice, run_underlying ht, hb, run_sizeOf_ti hui, hne, add_none]
    | rownil => simp at h3
def partO (E : Env) : Operand → Option (Loc × Nat × Nat × Nat)
  | .tmp t => (match look E (.s t) with
    | some (.sub l i o m) => some (l, i, o, m)
    | some _ => (match rowO E (.tmp t) with | some (l, _, _, xs) => some (l, 0, 0, xs.length) | none => none)
    | none => none)
  | _ => none
theorem partO_ok {w : World} {N L : Cells} {γ : Gh} {R : Loc → Blocks} {tmps : Array Value} (hr : Rel P w N L tmps γ R E) {x : Operand} {l : Loc} {i oo m : Nat} (h : partO E x = some (l, i, oo, m)) (ds : List Deferred) :
    (∃ b len cap c, Tof tmps γ l = some (.slice (some ⟨b, 0, none⟩) len cap) ∧ Act.eval ⟨tmps, ds⟩ x = .slice (some ⟨b, oo, none⟩) m c) ∨ (m = 0 ∧ Act.eval ⟨tmps, ds⟩ x = .slice none 0 0) := by
  cases x with
  | tmp t =>
    simp only [partO] at h
    split at h
    · rename_i l' i' o' m' hlk
      cases h
      obtain ⟨c, h1, h2⟩ := hr.rep _ _ (look_mem hlk)
      cases h2 with
      | sub _ _ _ _ b len cap _ hT => exact .inl ⟨b, len, cap, _, hT, eval_tmp h1⟩
    · split at h
      · rename_i l' m' e' xs hro
        cases h
        obtain ⟨q1, q2, q3⟩ := rowO_ok hr hro ds
        generalize hce : Act.eval ⟨tmps, ds⟩ (.tmp t) = c at q2 q3
        cases q3 with
        | row _ _ _ b cap kk bl cv _ => exact .inl ⟨b, _, cap, cap, q2, rfl⟩
        | rownil => exact .inr ⟨rfl, rfl⟩
      · cases h
    · cases h
  | _ => simp [partO] at h
def readO (E : Env) (x : Operand) : Option (List (List D)) := match x with
  | .tmp t => (match look E (.s t) with
    | some (.sub l 0 0 m) => (match look E l with | some (.row _ _ xs) => (match Nat.ble m xs.length with | true => some (xs.take m) | false => none) | _ => none)
    | _ => srcO E x)
  | x => srcO E x
theorem Src.front {w : World} {N L : Cells} {T : Loc → Option Value} {k : Nat} {m : Bool} {e : Nat} {xs : List (List D)} {b len cap : Nat} {S : Blocks} (h : RepV P w N L T (.row m e xs) (.slice (some ⟨b, 0, none⟩) len cap) S) (he : (P.info? e).map (·.size) = some k) {j : Nat} (hj : j ≤ xs.length) (c : Nat) : Src w N k (xs.take j) (.slice (some ⟨b, 0, none⟩) j c) := by
  generalize hx : xs.length = len at *
  cases h with
  | row _ _ _ b cap kk bl cv _ hb hs hcap hcm hll he2 hkk hc hrd hm hm' hm2 hm3 hRb =>
    have : kk = k := by rw [he] at he2; exact (Option.some.inj he2).symm
    subst this
    have e1 : j = (xs.take j).length := by simp; omega
    rw [show (Value.slice (some ⟨b, 0, none⟩) j c) = .slice (some ⟨b, 0, none⟩) (xs.take j).length c by rw [← e1]]
    refine .mk (cv := cv) (fun cs h => ?_) (fun i q hi hq => ?_) (fun i q cs d hi hq => ?_)
    · obtain ⟨i, hi⟩ := List.getElem?_of_mem (List.mem_of_mem_take h)
      exact hkk i cs hi
    · simp only [List.length_take] at hi
      simp only [World.cell?, hb, Nat.zero_add]
      exact hc i q (by omega) hq
    · rw [List.getElem?_take] at hi
      split at hi
      · exact hrd i q cs d hi hq
      · cases hi
def readE (E : Env) (x : Operand) (e : Nat) : Bool := match x with
  | .tmp t => (match look E (.s t) with
    | some (.sub l 0 0 _) => (match look E l with | some (.row _ e' _) => Nat.beq e' e | _ => true)
    | _ => rowE E x e)
  | x => rowE E x e
theorem rowE_ok {x : Operand} {e k : Nat} (h : rowE E x e = true) (hinf : (P.info? e).map (·.size) = some k) : ∀ l m e' zs, rowO E x = some (l, m, e', zs) → (P.info? e').map (·.size) = some k := by
  intro l m e' zs hrow
  simp only [rowE, hrow] at h
  have := Nat.eq_of_beq_eq_true h
  subst this
  exact hinf
theorem readO_ok {w : World} {N L : Cells} {γ : Gh} {R : Loc → Blocks} {tmps : Array Value} (hr : Rel P w N L tmps γ R E) {x : Operand} {ys : List (List D)} (h : readO E x = some ys) (ds : List Deferred) {e k : Nat} (hk : ∀ cs ∈ ys, cs.length = k) (he : readE E x e = true) (hinf : (P.info? e).map (·.size) = some k) : Src w N k ys (Act.eval ⟨tmps, ds⟩ x) := by
  have plainCase : srcO E x = some ys → rowE E x e = true → Src w N k ys (Act.eval ⟨tmps, ds⟩ x) := fun h he => srcO_ok hr h ds hk (rowE_ok he hinf)
  cases x with
  | tmp t =>
    cases hlk : look E (.s t) with
    | none => simp only [readO, readE, hlk] at h he; exact plainCase h he
    | some v =>
      cases v with
      | sub l i o m =>
        cases i with
        | succ i => simp only [readO, readE, hlk] at h he; exact plainCase h he
        | zero =>
          cases o with
          | succ o => simp only [readO, readE, hlk] at h he; exact plainCase h he
          | zero =>
            simp only [readO, readE, hlk] at h he
            split at h
            · rename_i mm e' xs hl
              split at h
              · rename_i hm
                cases h
                have hm := Nat.le_of_ble_eq_true hm
                simp only [hl] at he
                have := Nat.eq_of_beq_eq_true he
                subst this
                obtain ⟨c, h1, h2⟩ := hr.rep _ _ (look_mem hlk)
                obtain ⟨c', h3, h4⟩ := hr.rep _ _ (look_mem hl)
                cases h2 with
                | sub _ _ _ _ b len cap _ hT =>
                  rw [hT] at h3
                  cases h3
                  rw [eval_tmp h1]
                  exact Src.front h4 hinf hm _
              · cases h
            · cases h
      | _ => simp only [readO, readE, hlk] at h he; exact plainCase h he
  | _ => exact plainCase h he
theorem run_loadCells_src {w : World} (a : Addr) (cs : List Value) (h : ∀ j v, cs[j]? = some v → w.cell? (a.add j) = some v) : (loadCells a cs.length).run P w = .ok cs.toArray w := run_loadCells_list (P := P) w a cs h
theorem OpTo.copy (hF : Wide F) {c : Call} (ho : o.op = .call c) (hc : c.callee = .builtin .copy) {x y : Operand} (hargs : c.args = #[x, y]) {t t' : Nat} (hts : c.argTypes = #[t, t']) {ti ui : TI} (hti : mkTI P t = some ti) {e : Nat} (hk : ti.kind = .slice e) (hui : mkTI P e = some ui)
    {l : Loc} {i0 oo m : Nat} (hx : partO E x = some (l, i0, oo, m)) (hoo : oo = i0 * ui.size) {xs : List (List D)} (hl : look E l = some (.row true e xs)) {ys : List (List D)} (hy : readO E y = some ys) (hyk : lens ui.size ys) (hye : readE E y e = true)
    (hfit : i0 + m ≤ xs.length) {d : Nat} (hd : o.dst = some d) (hok : okD n K d (.kt) = true) (ha : anyOf (.s d) E = false) :
    OpTo P F n K o E ((.s d, Iv .i64 ((min ys.length m : Nat) : Int)) :: VL.upd l (.row true e (xs.take i0 ++ ys.take m ++ xs.drop (i0 + min ys.length m))) E) := by
  intro w N L γ R tmps ds hr hsz
  have hinf := info_of hui
  have hsrc := readO_ok hr hy ds hyk hye hinf
  have ht := slice_of hti hk
  have hd1 : d < n := by
    simp only [okD, Bool.and_eq_true, Nat.blt_eq] at hok; exact hok.1.1
  have hd2 : d ∉ K := by
    simp only [okD, Bool.and_eq_true] at hok; simpa using hok.1.2
  have finish : ∀ (w' : World) (E1 : Env), Rel P w' N L tmps γ R E1 → Later w N L (St R) w' N L → E1.map Prod.fst = E.map Prod.fst → (∀ s u, (s, u) ∈ E1 → u.men (.s d) = false) →
      Mid P n K w N L R tmps ds (· = (.s d, Iv .i64 ((min ys.length m : Nat) : Int)) :: E1) (Act.put ⟨tmps, ds⟩ o.dst (.int .i64 ((min ys.length m : Nat) : Int))) w' := by
    intro w' E1 hr1 hla hkeys hmen
    rw [hd]
    have ha1 : anyOf (.s d) E1 = false := by
      have key : ∀ (E2 : Env), (∀ s u, (s, u) ∈ E2 → u.men (.s d) = false ∧ s ≠ .s d) → anyOf (.s d) E2 = false := by
        intro E2
        induction E2 with
        | nil => intro _; rfl
        | cons p E2 ih =>
          intro h
          obtain ⟨s, u⟩ := p
          obtain ⟨q1, q2⟩ := h s u (.head _)
          simp only [anyOf, Bool.or_eq_false_iff]
          refine ⟨⟨?_, q1⟩, ih (fun s u h' => h s u (.tail _ h'))⟩
          cases hq : lq s (.s d)
          · rfl
          · exact absurd (lq_iff.1 hq) q2
      refine key E1 fun s u h => ⟨hmen s u h, ?_⟩
      rintro rfl
      have : Loc.s d ∈ E1.map Prod.fst := List.mem_map.2 ⟨_, h, rfl⟩
      rw [hkeys] at this
      obtain ⟨⟨s, u'⟩, h', e'⟩ := List.mem_map.1 this
      simp only at e'
      subst e'
      exact (anyOf_mem ha h').1 rfl
    have hput := hr1.put (d := d) (v := Iv .i64 ((min ys.length m : Nat) : Int)) (c := .int .i64 ((min ys.length m : Nat) : Int)) (by omega) rfl (rep_int ..)
    rw [show VL.put (.s d) (Iv .i64 ((min ys.length m : Nat) : Int)) E1 = (.s d, Iv .i64 ((min ys.length m : Nat) : Int)) :: E1 by simp [VL.put, ha1]] at hput
    refine ⟨_, N, L, γ, R, rfl, hput, by simp [Act.put, hsz], rfl, fun k hk => ?_, hla, fun _ h => .inl h⟩
    have : k ≠ d := by rintro rfl; exact hd2 hk
    simp [Act.put, Array.getElem?_setIfInBounds_ne (Ne.symm this)]
  have hmenE : ∀ s u, (s, u) ∈ VL.upd l (.row true e (xs.take i0 ++ ys.take m ++ xs.drop (i0 + min ys.length m))) E → u.men (.s d) = false := by
    intro s u h
    rcases upd_mem hr.nd h with ⟨_, rfl, _⟩ | ⟨h, _⟩
    · rfl
    · exact (anyOf_mem ha h).2
  obtain ⟨py, capy, hcy, hpn, hyk', hnews⟩ := hsrc
  have hexec : ∀ (w' : World) (k : Nat), (Builtin.copy_ #[t, t'] o.type #[Act.eval ⟨tmps, ds⟩ x, Act.eval ⟨tmps, ds⟩ y]).run P w = .ok (.int .i64 (k : Int)) w' → (execOp (Act.eval ⟨tmps, ds⟩) o).run P w = .ok (.value (.int .i64 (k : Int))) w' := by
    intro w' k h
    simp only [execOp, ho, resolve, hc, hargs, hts]
    simp [invoke, builtin, h]
  refine wpIn_run hF (by simp [ho]) ?_
  rcases partO_ok hr hx ds with ⟨b, len, cap, cc, hT, hxe⟩ | ⟨hm0, hxe⟩
  · -- how many are copied
    have hcell : ∃ vals : List Value, vals.length = (min ys.length m) * ui.size ∧ (∀ u ∈ vals, u.oneCell' = true) ∧ (Builtin.firstCells ui.size (min ys.length m) (Act.eval ⟨tmps, ds⟩ y)).run P w = .ok vals.toArray w ∧
        ∀ (i j : Nat) (cs : List D) (d : D), (ys.take m)[i]? = some cs → cs[j]? = some d → RepD w N d (vals.getD (i * ui.size + j) undef) := by
      cases py with
      | none =>
        have := hpn rfl
        subst this
        exact ⟨[], by simp, by simp, by rw [hcy]; simp [Builtin.firstCells], by simp⟩
      | some a =>
        obtain ⟨news, n1, n2, n3, n4⟩ := hnews a rfl
        have hle : (min ys.length m) * ui.size ≤ news.length := by rw [n1]; exact Nat.mul_le_mul_right _ (by omega)
        refine ⟨news.take ((min ys.length m) * ui.size), by simp; omega, fun u hu => n3 u (List.mem_of_mem_take hu), ?_, fun i j cs dd hi hj => ?_⟩
        · have := run_loadCells_src (P := P) (w := w) a (news.take ((min ys.length m) * ui.size)) (fun j v hj => by
            rw [List.getElem?_take] at hj
            split at hj
            · exact n2 j v hj
            · cases hj)
          rw [List.length_take, Nat.min_eq_left hle] at this
          rw [hcy]
          simpa [Builtin.firstCells] using this
        · rw [List.getElem?_take] at hi
          split at hi
          · rename_i him
            have hcs := hyk cs (List.mem_of_getElem? hi)
            have hi' := (List.getElem?_eq_some_iff.1 hi).1
            have hj' : j < ui.size := by rw [← hcs]; exact (List.getElem?_eq_some_iff.1 hj).1
            have hlt : (i + 1) * ui.size ≤ (min ys.length m) * ui.size := Nat.mul_le_mul_right _ (by omega)
            rw [Nat.add_mul, Nat.one_mul] at hlt
            have := n4 i j cs dd hi hj
            rw [List.getD_eq_getElem?_getD] at this ⊢
            rw [List.getElem?_take, if_pos (by omega)]
            exact this
          · cases hi
    obtain ⟨vals, v1, v2, v3, v4⟩ := hcell
    have hlt : (ys.take m).length = min ys.length m := by simp [Nat.min_comm]
    obtain ⟨newv, s1, s2, s3⟩ := hr.writeRow hl hT (k := ui.size) (i0 := i0) hinf (ys := ys.take m) (vals := vals) (by rw [v1, hlt]) v2 (fun cs h => hyk cs (List.mem_of_mem_take h)) (by rw [hlt]; omega) v4
    rw [hlt] at s2
    rw [← hoo] at s1
    rw [hexec (w.setRow b newv) (min ys.length m) (by
      rw [hxe, hcy]
      rw [hcy] at v3
      simp [Builtin.copy_, run_underlying ht, Builtin.lenOf, run_sizeOf_ti hui, v3, s1]
      rfl)]
    exact finish _ _ s2 s3 (by rw [upd_keys]) hmenE
  · subst hm0
    rw [hexec w 0 (by
      rw [hxe, hcy]
      have hl0 : ∀ (a : Addr), (loadCells a 0).run P w = .ok #[] w := fun a => by simpa using run_loadCells_src (P := P) (w := w) a [] (by simp)
      cases py <;> simp [Builtin.copy_, run_underlying ht, Builtin.lenOf, run_sizeOf_ti hui, Builtin.firstCells, hl0] <;> rfl)]
    have e0 : xs.take i0 ++ ys.take 0 ++ xs.drop (i0 + min ys.length 0) = xs := by simp
    have := finish w (VL.upd l (.row true e (xs.take i0 ++ ys.take 0 ++ xs.drop (i0 + min ys.length 0))) E) (hr.upd (fun c hc' => by
      obtain ⟨c2, h3, h4⟩ := hr.rep _ _ (look_mem hl)
      rw [hc'] at h3; cases h3
      rw [e0]; exact h4)) (Later.refl ..) (by rw [upd_keys]) hmenE
    simp only [Nat.min_zero] at this ⊢
    exact this
theorem zeroCells_get (z : Array Value) (m i j : Nat) (hi : i < m) (hj : j < z.size) : (Builtin.zeroCells z m)[i * z.size + j]? = z[j]? := by
  have hlt : i * z.size + j < m * z.size := by
    have : (i + 1) * z.size ≤ m * z.size := Nat.mul_le_mul_right _ hi
    rw [Nat.add_mul, Nat.one_mul] at this
    omega
  simp only [Builtin.zeroCells, Array.getElem?_map]
  rw [Array.getElem?_range, if_pos hlt]
  simp only [Option.map_some]
  rw [show (i * z.size + j) % z.size = j by rw [Nat.mul_comm, Nat.mul_add_mod, Nat.mod_eq_of_lt hj]]
  simp [hj]
theorem OpTo.clear (hF : Wide F) {c : Call} (ho : o.op = .call c) (hc : c.callee = .builtin .clear) {x : Operand} (hargs : c.args = #[x]) {t : Nat} (hts : c.argTypes = #[t]) {ti ui : TI} (hti : mkTI P t = some ti) {e : Nat} (hk : ti.kind = .slice e) (hui : mkTI P e = some ui)
    {l : Loc} {i0 oo m : Nat} (hx : partO E x = some (l, i0, oo, m)) (hoo : oo = i0 * ui.size) {xs : List (List D)} (hl : look E l = some (.row true e xs)) (hfit : i0 + m ≤ xs.length) (hd : o.dst = none) :
    OpTo P F n K o E (VL.upd l (.row true e (xs.take i0 ++ List.replicate m ui.zero ++ xs.drop (i0 + m))) E) := by
  intro w N L γ R tmps ds hr hsz
  have hinf := info_of hui
  have ht := slice_of hti hk
  obtain ⟨ii, dd, z, m1, m2, m3, m4, m5, m6, _⟩ := mkTI_ok hui
  have hzs : z.cells.size = ui.size := by have := (toDs_get m4).1; simp at this; omega
  have hexec : ∀ (w' : World), (Builtin.clear_ #[t] o.type #[Act.eval ⟨tmps, ds⟩ x]).run P w = .ok (.tuple #[]) w' → (execOp (Act.eval ⟨tmps, ds⟩) o).run P w = .ok (.value (.tuple #[])) w' := by
    intro w' h
    simp only [execOp, ho, resolve, hc, hargs, hts]
    simp [invoke, builtin, h]
  have hzero : (zeroValue e).run P w = .ok z w := by simp [zeroValue, typeInfo, m1, m3]
  refine wpIn_run hF (by simp [ho]) ?_
  have nothing : m = 0 → ∀ (hcl : (Builtin.clear_ #[t] o.type #[Act.eval ⟨tmps, ds⟩ x]).run P w = .ok (.tuple #[]) w), Oper.uponIn F 0 P o ⟨tmps, ds⟩ (Mid P n K w N L R tmps ds (· = VL.upd l (.row true e (xs.take i0 ++ List.replicate m ui.zero ++ xs.drop (i0 + m))) E)) (fun _ _ _ => False) ((execOp (Act.eval ⟨tmps, ds⟩) o).run P w) := by
    intro hm hcl
    subst hm
    rw [hexec w hcl]
    show Mid P n K w N L R tmps ds _ (Act.put ⟨tmps, ds⟩ o.dst _) _
    rw [hd]
    have e0 : xs.take i0 ++ List.replicate 0 ui.zero ++ xs.drop (i0 + 0) = xs := by simp
    refine ⟨_, N, L, γ, R, rfl, hr.upd (fun c hc' => ?_), hsz, rfl, fun _ _ => rfl, Later.refl .., fun _ h => .inl h⟩
    obtain ⟨c2, h3, h4⟩ := hr.rep _ _ (look_mem hl)
    rw [hc'] at h3; cases h3
    rw [e0]; exact h4
  rcases partO_ok hr hx ds with ⟨b, len, cap, cc, hT, hxe⟩ | ⟨hm0, hxe⟩
  · by_cases hm0 : m = 0
    · refine nothing hm0 ?_
      rw [hxe, hm0]
      simp [Builtin.clear_, run_underlying ht]
    · have hzl : (Builtin.zeroCells z.cells m).toList.length = (List.replicate m ui.zero).length * ui.size := by simp [Builtin.zeroCells, hzs]
      obtain ⟨hg1, hg2⟩ := toDs_get m4
      have hone : ∀ u ∈ (Builtin.zeroCells z.cells m).toList, u.oneCell' = true := by
        intro u hu
        obtain ⟨q, hq, e1⟩ := List.getElem_of_mem hu
        have hz0 : 0 < z.cells.size := by
          rcases Nat.eq_zero_or_pos z.cells.size with h | h
          · have := hq; rw [hzl, ← hzs, h] at this; simp at this
          · exact h
        have hq' : q < m * z.cells.size := by rw [hzl, ← hzs] at hq; simpa using hq
        have := zeroCells_get z.cells m (q / z.cells.size) (q % z.cells.size) (Nat.div_lt_of_lt_mul (by rwa [Nat.mul_comm])) (Nat.mod_lt _ hz0)
        rw [Nat.div_add_mod'] at this
        have hq2 : (Builtin.zeroCells z.cells m)[q]? = some u := by
          rw [← Array.getElem?_toList, List.getElem?_eq_getElem hq, e1]
        rw [hq2] at this
        have hzlt : q % z.cells.size < ui.zero.length := by rw [m5, ← hzs]; exact Nat.mod_lt _ hz0
        obtain ⟨v, h1, h2⟩ := hg2 (q % z.cells.size) _ (List.getElem?_eq_getElem hzlt)
        rw [Array.getElem?_toList] at h1
        rw [h1] at this
        cases this
        exact (toD_ok (w := w) (N := N) h2).oneCell
      obtain ⟨newv, s1, s2, s3⟩ := hr.writeRow hl hT (k := ui.size) (i0 := i0) hinf (ys := List.replicate m ui.zero) (vals := (Builtin.zeroCells z.cells m).toList) hzl hone (fun cs h => by rw [List.eq_of_mem_replicate h, m5]) (by simpa using hfit) (fun i j cs d hi hj => by
        have hi' := (List.getElem?_eq_some_iff.1 hi).1
        have hcs := List.eq_of_mem_replicate (List.mem_of_getElem? hi)
        subst hcs
        simp at hi'
        have hj' := (List.getElem?_eq_some_iff.1 hj).1
        have := zeroCells_get z.cells m i j hi' (by omega)
        obtain ⟨v, h1, h2⟩ := hg2 j d hj
        rw [Array.getElem?_toList] at h1
        rw [hzs, h1] at this
        rw [List.getD_eq_getElem?_getD, Array.getElem?_toList, this]
        exact toD_ok h2)
      rw [hexec (w.setRow b newv) (by
        rw [hxe]
        rw [← hoo] at s1
        cases m with
        | zero => exact absurd rfl hm0
        | succ m => simp [Builtin.clear_, run_underlying ht, hzero, s1])]
      show Mid P n K w N L R tmps ds _ (Act.put ⟨tmps, ds⟩ o.dst _) _
      rw [hd]
      rw [List.length_replicate] at s2
      exact ⟨_, N, L, γ, R, rfl, s2, hsz, rfl, fun _ _ => rfl, s3, fun _ h => .inl h⟩
  · refine nothing hm0 ?_
    rw [hxe]
    simp [Builtin.clear_, run_underlying ht]
def cutR (d l : Loc) (E : Env) : Option Env := match look E d, look E l with
  | some (.sub l' 0 0 i), some (.row true e xs) => (match lq l' l && Nat.ble i xs.length && !(lq d l) with
    | true => force (upd l dead (upd d (.row true e (xs.take i)) E)) some
    | false => none)
  | _, _ => none
theorem Ent.cutR {d l : Loc} (h : VL.cutR d l E = some E') : Ent P E E' := by
  unfold VL.cutR at h
  split at h
  · rename_i l' i e xs h1 h2
    split at h
    · rename_i hc
      simp only [Bool.and_eq_true, Bool.not_eq_true'] at hc
      obtain ⟨⟨c1, c2⟩, c3⟩ := hc
      obtain rfl := lq_iff.1 c1
      have hne : d ≠ l' := lq_ne c3
      have hle := Nat.le_of_ble_eq_true c2
      rw [force_eq] at h
      cases h
      intro w N L γ R tmps hr
      obtain ⟨cd, t1, r1⟩ := hr.rep _ _ (look_mem h1)
      obtain ⟨cl, t2, r2⟩ := hr.rep _ _ (look_mem h2)
      cases r1 with
      | sub _ _ _ _ b len cap _ hT =>
        rw [hT] at t2
        cases t2
        generalize hxl : xs.length = xl at *
        cases r2 with
        | row _ _ _ b cap kk bl cv _ hb hs hcap hcm hll he hkk hc hrd hm hm' hm2 hm3 hRb =>
          subst hxl
          let R' : Loc → Blocks := fun x => if x = d then (fun y => R d y ∨ R l' y) else if x = l' then none_ else R x
          have nd1 : ((VL.upd d (.row true e (xs.take i)) E).map Prod.fst).Nodup := by rw [upd_keys]; exact hr.nd
          have hrow : RepV P w N L (Tof tmps γ) (.row true e (xs.take i)) (.slice (some ⟨b, 0, none⟩) i cap) (R' d) := by
            have e1 : (xs.take i).length = i := by simp; omega
            rw [show (Value.slice (some ⟨b, 0, none⟩) i cap) = .slice (some ⟨b, 0, none⟩) (xs.take i).length cap by rw [e1]]
            refine .row true e _ b cap kk bl cv _ hb hs (by omega) hcm (by omega) he (fun i' cs hi' => ?_) (fun i' j hi' hj => hc i' j (by omega) hj) (fun i' j cs dd hi' hj => ?_) hm (by simp) (by simp) (by simp) (by simp only [R', if_true]; exact .inr hRb)
            · rw [List.getElem?_take] at hi'
              split at hi'
              · exact hkk _ _ hi'
              · cases hi'
            · rw [List.getElem?_take] at hi'
              split at hi'
              · exact hrd _ _ _ _ hi' hj
              · cases hi'
          have hSt : ∀ x, St R' x → St R x := by
            rintro x ⟨y, hy⟩
            simp only [R'] at hy
            split at hy
            · rcases hy with hy | hy
              · exact ⟨_, hy⟩
              · exact ⟨_, hy⟩
            · split at hy
              · exact hy.elim
              · exact ⟨_, hy⟩
          refine ⟨N, L, γ, R', ⟨?_, by rw [upd_keys]; exact nd1, ?_, fun y x hx => ?_, hr.NL, hr.Llt⟩, Later.refl .., hSt⟩
          · intro s u hm2
            rcases upd_mem nd1 hm2 with ⟨rfl, rfl, _⟩ | ⟨hm2, hne1⟩
            · exact ⟨_, hT, rep_dead rfl _⟩
            · rcases upd_mem hr.nd hm2 with ⟨rfl, rfl, _⟩ | ⟨hm2, hne2⟩
              · exact ⟨_, t1, by simpa using hrow⟩
              · obtain ⟨c, h4, h5⟩ := hr.rep s u hm2
                exact ⟨c, h4, h5.more (fun x hx => by simp only [R']; rw [if_neg hne2, if_neg hne1]; exact hx)⟩
          · intro a b' x hab ha hb'
            have aux : ∀ z, z ≠ d → R' z x → R z x ∧ z ≠ l' := by
              intro z hz hzx
              simp only [R'] at hzx
              rw [if_neg hz] at hzx
              split at hzx
              · exact hzx.elim
              · exact ⟨hzx, ‹_›⟩
            have auxd : R' d x → R d x ∨ R l' x := by
              intro h; simpa [R'] using h
            by_cases ea : a = d
            · have eb : b' ≠ d := fun e => hab (ea.trans e.symm)
              obtain ⟨hb1, hb2⟩ := aux b' eb hb'
              rw [ea] at ha hab
              rcases auxd ha with ha | ha
              · exact hr.dis _ _ _ hab ha hb1
              · exact hr.dis _ _ _ (Ne.symm hb2) ha hb1
            · obtain ⟨ha1, ha2⟩ := aux a ea ha
              by_cases eb : b' = d
              · rw [eb] at hb' hab
                rcases auxd hb' with hb | hb
                · exact hr.dis _ _ _ hab ha1 hb
                · exact hr.dis _ _ _ ha2 ha1 hb
              · obtain ⟨hb1, hb2⟩ := aux b' eb hb'
                exact hr.dis _ _ _ hab ha1 hb1
          · obtain ⟨z, hz⟩ := hSt x ⟨_, hx⟩
            exact hr.lt _ _ hz
    · cases h
  · cases h
end
end Go.Proofs.VL
