import Derived.Test.YtndffogfaocchaaGreatW12
set_option linter.unusedVariables false
set_option linter.unusedSimpArgs false
set_option linter.unusedSectionVars false
namespace Go.Proofs.VL
open Go Go.RowKit
variable {P : Program}
theorem row_data {w : World} {N N' L : Cells} {T : Loc → Option Value} {m : Bool} {e : Nat} {xs : List (List D)} {c : Value} {S : Blocks} (h : RepV P w N L T (.row m e xs) c S) (hS : ∀ b x, S b → N' b x) (hN : ∀ b x, N b x → N' b x) : RepD w N' (.sl xs) c := by
  cases h with
  | row _ _ _ b cap k bl cv _ hb hs hcap hcm hl he hk hc hrd hm hm' hm2 hm3 hRb =>
    refine .sl xs b 0 k cap cv hl hcap hk (fun i j hi hj => ⟨hS _ _ hRb, ?_⟩) (fun i j cs d hi hj => (hrd i j cs d hi hj).mono hN (fun _ _ _ _ h => h))
    simp only [World.cell?, hb, Nat.zero_add]
    exact hc i j hi hj
  | rownil => exact .nil _ _
section
variable {F : Fence} {n : Nat} {K : List Nat} {o : Oper} {E E' : Env} {τ : Nat → Option TI}
theorem Ent.frzAll {l : Loc} {v0 v : V} (hl : look E l = some v0) (h : ∀ (w : World) (N L : Cells) (T : Loc → Option Value) (c : Value) (S : Blocks), RepV P w N L T v0 c S → (∀ b, S b → b < w.heap.size) → RepV P w (fun b x => N b x ∨ S b) (fun b x => L b x ∨ S b) T v c none_) : Ent P E (VL.upd l v E) := by
  intro w N L γ R tmps hr
  refine ⟨fun b x => N b x ∨ R l b, fun b x => L b x ∨ R l b, γ, fun k => if k = l then none_ else R k, ⟨?_, by rw [upd_keys]; exact hr.nd, ?_, ?_, ?_, ?_⟩, ⟨rfl, rfl, rfl, Nat.le_refl _, fun _ _ _ => rfl, fun _ _ _ _ h => h, fun _ _ h => .inl h, fun _ _ h => .inl h, fun b o h => ?_, fun b o h => ?_⟩, ?_⟩
  · intro s u hm
    rcases upd_mem hr.nd hm with ⟨rfl, rfl, _⟩ | ⟨hm, hne⟩
    · obtain ⟨c, h1, h2⟩ := hr.rep _ _ (look_mem hl)
      exact ⟨c, h1, by simpa using h w N L _ c _ h2 (hr.lt _)⟩
    · obtain ⟨c, h1, h2⟩ := hr.rep _ _ hm
      refine ⟨c, h1, ?_⟩
      rw [if_neg hne]
      refine h2.world (Nat.le_refl _) (fun _ _ => rfl) hr.NL (fun _ _ _ _ h => h) (fun _ _ h => .inl h) (fun _ _ h => .inl h) (fun b x hb h => ?_) (fun b x hb h => ?_)
      · exact h.resolve_right (hr.dis _ _ _ hne hb)
      · exact h.resolve_right (hr.dis _ _ _ hne hb)
  · intro a b x hab h1 h2
    split at h1
    · exact h1
    · split at h2
      · exact h2
      · exact hr.dis _ _ _ hab h1 h2
  · intro a x h1
    split at h1
    · exact h1.elim
    · exact hr.lt _ _ h1
  · intro b o h
    exact h.imp (hr.NL b o) id
  · intro b o h
    exact h.elim (hr.Llt b o) (hr.lt _ _)
  · exact h.elim .inl (fun h => .inr (.inl ⟨_, h⟩))
  · exact h.elim .inl (fun h => .inr (.inl ⟨_, h⟩))
  · rintro x ⟨a, hx⟩
    split at hx
    · exact hx.elim
    · exact ⟨a, hx⟩
def rowsD (xs : List (List (List D))) : List (List D) := xs.map fun x => [.sl x]
theorem Ent.rowsFrz {l : Loc} {e0 e1 : Nat} {xs : List (List (List D))} (hl : look E l = some (.ob [] (RowsP P e0 e1 xs))) : Ent P E (VL.upd l (.d (.sl (rowsD xs))) E) := by
  refine Ent.frzAll hl fun w N L T c S h hlt => ?_
  obtain ⟨cs0, d1, d2, d3, vs, Q0, Q1, k1, k2, k3, k4, ⟨Q, q1, q2, q3⟩, k5⟩ := ob_get h
  refine .d _ _ _ ?_
  have hlen : vs.length = (rowsD xs).length := by simp [rowsD, k4]
  generalize hys : scs vs = ys at k3
  cases k3 with
  | row _ _ _ b cap k bl cv _ hb hs hcap hcm hl he hk hc hrd hm hm' hm2 hm3 hRb =>
    have hyl : ys.length = (rowsD xs).length := by rw [← hys]; simpa [scs] using hlen
    have hk1 : 0 < ys.length → k = 1 := fun hp => by
      obtain ⟨y, hy⟩ : ∃ y, ys[0]? = some y := ⟨_, List.getElem?_eq_getElem hp⟩
      rw [← hk 0 y hy]
      have hm := List.mem_of_getElem? hy
      rw [← hys] at hm
      simp only [scs, List.mem_map] at hm
      obtain ⟨v, _, e⟩ := hm
      rw [← e]; rfl
    rw [hyl]
    refine .sl (rowsD xs) b 0 1 cap cv (by omega) (by omega) (fun i cs hi => ?_) (fun i j hi hj => ⟨.inr (k1 _ hRb).1, ?_⟩) (fun i j cs d hi hj => ?_)
    · simp only [rowsD, List.getElem?_map, Option.map_eq_some_iff] at hi
      obtain ⟨x, _, rfl⟩ := hi
      rfl
    · have := hk1 (by omega)
      subst this
      simp only [World.cell?, hb, Nat.zero_add]
      exact hc i j (by omega) hj
    · simp only [rowsD, List.getElem?_map, Option.map_eq_some_iff] at hi
      obtain ⟨x, hx, rfl⟩ := hi
      cases j with
      | zero =>
        simp at hj
        subst hj
        have hiv : i < vs.length := by rw [k4]; exact (List.getElem?_eq_some_iff.1 hx).1
        have hv : vs[i]? = some vs[i] := List.getElem?_eq_getElem hiv
        have hcv : cv i 0 = vs[i] := by
          have := hrd i 0 [.sc vs[i]] (.sc vs[i]) (by rw [← hys]; simp [scs, hv]) rfl
          exact repD_sc this
        rw [hcv]
        exact row_data (q3 i _ x hv hx (by simp)) (fun b o hb => .inr (k2 _ (q1 i b hb))) (fun b o hb => .inl hb)
      | succ j => simp at hj
  | rownil =>
    have : rowsD xs = [] := by
      have h0 : (scs vs).length = 0 := by rw [hys]; rfl
      have : (rowsD xs).length = 0 := by rw [← hlen]; simpa [scs] using h0
      exact List.eq_nil_of_length_eq_zero this
    rw [this]
    exact .nil _ _
def lendR : Env → Env
  | [] => []
  | (l, v) :: E => match v with
    | .row _ _ xs => (l, .d (.sl xs)) :: lendR E
    | .bx _ _ | .mp _ _ | .it _ _ _ | .ob _ _ => lendR E
    | v => (l, v) :: lendR E
def lendB (E1 : Env) : Env → Env
  | [] => []
  | (l, v) :: E => match v with
    | .row _ _ xs => (l, .d (.sl xs)) :: lendB E1 E
    | .bx _ cs => (match VDs (cs.map (deref1 E1)) with | some ds => (l, .rp ds 0) :: lendB E1 E | none => lendB E1 E)
    | .mp _ _ | .it _ _ _ | .ob _ _ => lendB E1 E
    | v => (l, v) :: lendB E1 E
def lendE (E : Env) : Env := force (lendR E) fun E1 => lendB E1 E
theorem lendR_mem : ∀ {E : Env} {l : Loc} {v : V}, (l, v) ∈ lendR E → ∃ u, (l, u) ∈ E ∧ ((∃ m e xs, u = .row m e xs ∧ v = .d (.sl xs)) ∨ (v = u ∧ isOwned u = false))
  | [], l, v, h => by cases h
  | (k, u) :: E, l, v, h => by
    have tl : (l, v) ∈ lendR E → ∃ u', (l, u') ∈ (k, u) :: E ∧ ((∃ m e xs, u' = .row m e xs ∧ v = .d (.sl xs)) ∨ (v = u' ∧ isOwned u' = false)) := fun h => let ⟨u', a, b⟩ := lendR_mem h; ⟨u', .tail _ a, b⟩
    cases u <;> simp only [lendR] at h <;> first
      | (rcases List.mem_cons.1 h with e | h <;> first | (cases e; exact ⟨_, .head _, .inl ⟨_, _, _, rfl, rfl⟩⟩) | (cases e; exact ⟨_, .head _, .inr ⟨rfl, rfl⟩⟩) | exact tl h)
      | exact tl h
theorem lendB_mem {E1 : Env} : ∀ {E : Env} {l : Loc} {v : V}, (l, v) ∈ lendB E1 E → ∃ u, (l, u) ∈ E ∧ ((∃ m e xs, u = .row m e xs ∧ v = .d (.sl xs)) ∨ (∃ e cs ds, u = .bx e cs ∧ VDs (cs.map (deref1 E1)) = some ds ∧ v = .rp ds 0) ∨ (v = u ∧ isOwned u = false))
  | [], l, v, h => by cases h
  | (k, u) :: E, l, v, h => by
    have tl : (l, v) ∈ lendB E1 E → ∃ u', (l, u') ∈ (k, u) :: E ∧ ((∃ m e xs, u' = .row m e xs ∧ v = .d (.sl xs)) ∨ (∃ e cs ds, u' = .bx e cs ∧ VDs (cs.map (deref1 E1)) = some ds ∧ v = .rp ds 0) ∨ (v = u' ∧ isOwned u' = false)) := fun h => let ⟨u', a, b⟩ := lendB_mem h; ⟨u', .tail _ a, b⟩
    cases u with
    | bx e cs =>
      simp only [lendB] at h
      split at h
      · rename_i ds hds
        rcases List.mem_cons.1 h with e | h
        · cases e; exact ⟨_, .head _, .inr (.inl ⟨_, _, _, rfl, hds, rfl⟩)⟩
        · exact tl h
      · exact tl h
    | _ =>
      simp only [lendB] at h
      first
        | (rcases List.mem_cons.1 h with e | h <;> first | (cases e; exact ⟨_, .head _, .inl ⟨_, _, _, rfl, rfl⟩⟩) | (cases e; exact ⟨_, .head _, .inr (.inr ⟨rfl, rfl⟩)⟩) | exact tl h)
        | exact tl h
theorem lendR_sub : ∀ {E : Env}, ((lendR E).map Prod.fst).Sublist (E.map Prod.fst)
  | [] => .slnil
  | (k, u) :: E => by
    have ih := lendR_sub (E := E)
    cases u <;> simp only [lendR, List.map_cons] <;> first | exact ih.cons_cons _ | exact ih.cons _
theorem lendB_sub {E1 : Env} : ∀ {E : Env}, ((lendB E1 E).map Prod.fst).Sublist (E.map Prod.fst)
  | [] => .slnil
  | (k, u) :: E => by
    have ih := lendB_sub (E1 := E1) (E := E)
    cases u <;> simp only [lendB, List.map_cons] <;> first
      | exact ih.cons_cons _
      | exact ih.cons _
      | (split <;> first | exact ih.cons_cons _ | exact ih.cons _)
theorem lend_ok {w : World} {N L : Cells} {γ : Gh} {R : Loc → Blocks} {tmps : Array Value} (hr : Rel P w N L tmps γ R E) : Rel P w (lent R N) (lent R L) tmps γ R0 (lendE E) := by
  have up : ∀ {v : V} {c : Value}, RepV P w N L (Tof tmps γ) v c none_ → RepV P w (lent R N) (lent R L) (Tof tmps γ) v c none_ := fun h => lent_rep hr h
  have rowd : ∀ {l : Loc} {m : Bool} {e : Nat} {xs : List (List D)} {c : Value}, RepV P w N L (Tof tmps γ) (.row m e xs) c (R l) → RepV P w (lent R N) (lent R L) (Tof tmps γ) (.d (.sl xs)) c none_ := fun {l m e xs c} h =>
    .d _ _ _ (row_data h (fun b x hb => .inr ⟨l, hb⟩) (fun b x hb => .inl hb))
  have h1 : Rel P w (lent R N) (lent R L) tmps γ R0 (lendR E) := by
    refine ⟨fun l v hm => ?_, hr.nd.sublist lendR_sub, fun _ _ _ _ h => h.elim, fun _ _ h => h.elim, fun b o h => h.imp (hr.NL b o) id, fun b o h => h.elim (hr.Llt b o) (fun ⟨k, hk⟩ => hr.lt _ _ hk)⟩
    obtain ⟨u, hu, h | ⟨rfl, ho⟩⟩ := lendR_mem hm
    · obtain ⟨m, e, xs, rfl, rfl⟩ := h
      obtain ⟨c, q1, q2⟩ := hr.rep _ _ hu
      exact ⟨c, q1, rowd q2⟩
    · obtain ⟨c, q1, q2⟩ := hr.rep _ _ hu
      exact ⟨c, q1, up (q2.plain ho none_)⟩
  rw [lendE, force_eq]
  refine ⟨fun l v hm => ?_, hr.nd.sublist lendB_sub, fun _ _ _ _ h => h.elim, fun _ _ h => h.elim, h1.NL, h1.Llt⟩
  obtain ⟨u, hu, h | h | ⟨rfl, ho⟩⟩ := lendB_mem hm
  · obtain ⟨m, e, xs, rfl, rfl⟩ := h
    obtain ⟨c, q1, q2⟩ := hr.rep _ _ hu
    exact ⟨c, q1, rowd q2⟩
  · obtain ⟨e, cs, ds, rfl, hds, rfl⟩ := h
    obtain ⟨c, q1, q2⟩ := hr.rep _ _ hu
    obtain ⟨b, vals, rfl, hb, hl, hc, hrep, hL, hRb⟩ := bx_inv q2
    obtain ⟨k1, k2⟩ := VDs_get hds
    refine ⟨_, q1, .rp ds 0 b 0 (fun j => vals.getD j undef) _ (fun j hj => ⟨.inr ⟨_, hRb⟩, ?_⟩) (fun j d hj => ?_)⟩
    · simp only [World.cell?, hb, Nat.zero_add]
      simp only [List.length_map] at k1
      exact getD_of (by omega)
    · obtain ⟨v, hv', hvd⟩ := k2 j d hj
      simp only [List.getElem?_map, Option.map_eq_some_iff] at hv'
      obtain ⟨u, hu2, rfl⟩ := hv'
      exact VD_ok (deref1_ok h1 (up (hrep j u hu2))) hvd
  · obtain ⟨c, q1, q2⟩ := hr.rep _ _ hu
    exact ⟨c, q1, up (q2.plain ho none_)⟩
def scalD : D → Bool | .sc _ => true | _ => false
theorem row_scal {w : World} {N L N' L' : Cells} {T T' : Loc → Option Value} {e : Nat} {xs : List (List D)} {c : Value} {S : Blocks} (h : RepV P w N L T (.row true e xs) c S) (hx : ∀ cs ∈ xs, ∀ d ∈ cs, scalD d = true) (hL : ∀ b o, L' b o → L b o) : RepV P w N' L' T' (.row true e xs) c S := by
  cases h with
  | row _ _ _ b cap k bl cv _ hb hs hcap hcm hl he hk hc hrd hm hm' hm2 hm3 hRb =>
    refine .row true e xs b cap k bl cv S hb hs hcap hcm hl he hk hc (fun i j cs d hi hj => ?_) (fun _ x hx => hm rfl x (hL _ _ hx)) (fun h => by cases h) (fun h => by cases h) (fun h => by cases h) hRb
    have hd := hx cs (List.mem_of_getElem? hi) d (List.mem_of_getElem? hj)
    have := hrd i j cs d hi hj
    cases d with
    | sc v => cases this with | sc _ hv => exact .sc _ hv
    | nl => cases hd
    | sl xs => cases hd
  | rownil => exact .rownil _ _ _
theorem OpTo.lend {Ea Eb E3 : Env} {K' : List Nat} {d e : Nat} {xs : List (List D)} (ha : Sub Ea E) (hb : Sub Eb E) (hab : nodupB ((Ea ++ Eb).map Prod.fst) = true) (hk : (Eb.all fun p => locIn K' p.1 && p.2.allN (locIn K')) = true) (hKK : ∀ k ∈ K, k ∈ K') (hdb : anyOf (.s d) Eb = false)
    (h : OpTo P F n K' o (Ea ++ lendE Eb) E3) (h3 : look E3 (.s d) = some (.row true e xs)) (hx : ∀ cs ∈ xs, ∀ x ∈ cs, scalD x = true) : OpTo P F n K o E ((.s d, .row true e xs) :: Eb) := by
  intro w N L γ R tmps ds hr hn
  have hnd := nodupB_ok hab
  rw [List.map_append, List.nodup_append] at hnd
  obtain ⟨hna, hnb, hdis⟩ := hnd
  have hma : ∀ l v, (l, v) ∈ Ea → (l, v) ∈ E := fun l v hm => look_mem (ha l v (look_of_mem hna hm))
  have hmb : ∀ l v, (l, v) ∈ Eb → (l, v) ∈ E := fun l v hm => look_mem (hb l v (look_of_mem hnb hm))
  let Ra : Loc → Blocks := fun l => if (Ea.any fun p => lq p.1 l) = true then R l else none_
  let Rb : Loc → Blocks := fun l => if (Eb.any fun p => lq p.1 l) = true then R l else none_
  have inA : ∀ l v, (l, v) ∈ Ea → Ra l = R l := fun l v hm => if_pos (List.any_eq_true.2 ⟨_, hm, lq_iff.2 rfl⟩)
  have inB : ∀ l v, (l, v) ∈ Eb → Rb l = R l := fun l v hm => if_pos (List.any_eq_true.2 ⟨_, hm, lq_iff.2 rfl⟩)
  have ofA : ∀ l x, Ra l x → R l x ∧ ∃ p ∈ Ea, p.1 = l := fun l x hx => by
    simp only [Ra] at hx
    split at hx
    · rename_i hany
      obtain ⟨p, hp, hq⟩ := List.any_eq_true.1 hany
      exact ⟨hx, p, hp, lq_iff.1 hq⟩
    · exact hx.elim
  have ofB : ∀ l x, Rb l x → R l x ∧ ∃ p ∈ Eb, p.1 = l := fun l x hx => by
    simp only [Rb] at hx
    split at hx
    · rename_i hany
      obtain ⟨p, hp, hq⟩ := List.any_eq_true.1 hany
      exact ⟨hx, p, hp, lq_iff.1 hq⟩
    · exact hx.elim
  have sep : ∀ x, St Ra x → ¬ St Rb x := by
    rintro x ⟨l, hl⟩ ⟨k, hk⟩
    obtain ⟨h1, p, hp, rfl⟩ := ofA l x hl
    obtain ⟨h2, q, hq, rfl⟩ := ofB k x hk
    exact hr.dis _ _ _ (fun e => hdis p.1 (List.mem_map_of_mem hp) q.1 (List.mem_map_of_mem hq) e) h1 h2
  have hrb : Rel P w N L tmps γ Rb Eb := ⟨fun l v hm => by
      obtain ⟨c, q1, q2⟩ := hr.rep _ _ (hmb l v hm)
      exact ⟨c, q1, by rw [inB l v hm]; exact q2⟩, hnb, fun a b x hab h1 h2 => hr.dis _ _ _ hab (ofB a x h1).1 (ofB b x h2).1, fun a x h1 => hr.lt _ _ (ofB a x h1).1, hr.NL, hr.Llt⟩
  have hlend := lend_ok hrb
  have hrel : Rel P w (lent Rb N) (lent Rb L) tmps γ Ra (Ea ++ lendE Eb) := by
    refine ⟨fun l v hm => ?_, ?_, fun a b x hab h1 h2 => hr.dis _ _ _ hab (ofA a x h1).1 (ofA b x h2).1, fun a x h1 => hr.lt _ _ (ofA a x h1).1, hlend.NL, hlend.Llt⟩
    · rcases List.mem_append.1 hm with hm | hm
      · obtain ⟨c, q1, q2⟩ := hr.rep _ _ (hma l v hm)
        refine ⟨c, q1, ?_⟩
        rw [inA l v hm]
        refine q2.world (Nat.le_refl _) (fun _ _ => rfl) hr.NL (fun _ _ _ _ h => h) (fun _ _ h => .inl h) (fun _ _ h => .inl h) (fun b x hb h => ?_) (fun b x hb h => ?_)
        · exact h.resolve_right (sep b ⟨l, by rw [inA l v hm]; exact hb⟩)
        · exact h.resolve_right (sep b ⟨l, by rw [inA l v hm]; exact hb⟩)
      · obtain ⟨c, q1, q2⟩ := hlend.rep _ _ hm
        exact ⟨c, q1, q2.more (fun _ h => h.elim)⟩
    · rw [List.map_append, List.nodup_append]
      refine ⟨hna, hlend.nd, fun a h1 b h2 => hdis a h1 b ?_⟩
      have : ((lendE Eb).map Prod.fst).Sublist (Eb.map Prod.fst) := by rw [lendE, force_eq]; exact lendB_sub
      exact this.subset h2
  refine wpIn_mono_op (h w _ _ γ Ra tmps ds hrel hn) (fun a' w' hm => ?_) (fun _ _ _ h => h)
  obtain ⟨E4, N', L', γ', R', rfl, hA⟩ := hm
  obtain ⟨c, q1, q2⟩ := hA.rel.rep _ _ (look_mem h3)
  have hRd : ∀ x, R' (.s d) x → (St Ra x ∨ w.heap.size ≤ x) := fun x hx => hA.own x ⟨_, hx⟩
  have hnb' : ∀ x, St Rb x → ¬ R' (.s d) x := fun x hx h => by
    rcases hRd x h with h | h
    · exact sep x h hx
    · obtain ⟨l, hl⟩ := hx
      have := hr.lt _ _ (ofB l x hl).1
      omega
  have hT : ∀ l c, locIn K' l = true → Tof tmps γ l = some c → Tof a'.tmps γ l = some c := fun l c hl hc => by
    cases l with
    | s t => simp only [Tof] at hc ⊢; rw [hA.kept t (by simpa [locIn, List.contains_eq_mem] using hl)]; exact hc
    | c t i => exact hc
  have hla := hA.later
  refine ⟨_, fun b x => N' b x ∧ (St Rb b → N b x), fun b x => L' b x ∧ (St Rb b → L b x), γ, fun l => if l = .s d then R' (.s d) else Rb l, rfl, ⟨⟨fun l v hm => ?_, ?_, fun a b x hab h1 h2 => ?_, fun a x h1 => ?_, fun b o h => ⟨hA.rel.NL b o h.1, fun hb => hr.NL b o (h.2 hb)⟩, fun b o h => hA.rel.Llt b o h.1⟩, hA.size, hA.defers, fun k hk => hA.kept k (hKK k hk), ⟨hla.os, hla.tape, hla.output, hla.size, fun b hb hn => hla.frame b hb (fun ⟨l, hl⟩ => hn ⟨l, (ofA l b hl).1⟩), fun b o v hl hv => hla.keeps b o v (.inl hl) hv, fun b o h => ⟨hla.N1 b o (.inl h), fun _ => h⟩, fun b o h => ⟨hla.L1 b o (.inl h), fun _ => h⟩, fun b o h => ?_, fun b o h => ?_⟩, fun x hx => ?_⟩⟩
  · rcases List.mem_cons.1 hm with e | hm
    · cases e
      refine ⟨c, q1, ?_⟩
      simp only [if_true]
      exact row_scal q2 hx (fun b o h => h.1)
    · obtain ⟨hne, _⟩ := anyOf_mem hdb hm
      have hin := List.all_eq_true.1 hk _ hm
      simp only [Bool.and_eq_true] at hin
      obtain ⟨c2, r1, r2⟩ := hrb.rep _ _ hm
      refine ⟨c2, hT _ _ hin.1 r1, ?_⟩
      simp only [if_neg hne]
      have r3 : RepV P w' (fun b x => N' b x ∧ (St Rb b → N b x)) (fun b x => L' b x ∧ (St Rb b → L b x)) (Tof tmps γ) v c2 (Rb l) :=
        r2.world hla.size (fun b hb => hla.frame b (hr.lt _ _ (ofB l b hb).1) (fun h => sep b h ⟨l, hb⟩)) hr.NL (fun b o v hl hv => hla.keeps b o v (.inl hl) hv) (fun b o h => ⟨hla.N1 b o (.inl h), fun _ => h⟩) (fun b o h => ⟨hla.L1 b o (.inl h), fun _ => h⟩) (fun b o hb h => h.2 ⟨l, hb⟩) (fun b o hb h => h.2 ⟨l, hb⟩)
      exact r3.congrIn hT hin.2
  · simp only [List.map_cons, List.nodup_cons]
    refine ⟨fun hm => ?_, hnb⟩
    obtain ⟨⟨l, v⟩, hm, e⟩ := List.mem_map.1 hm
    exact (anyOf_mem hdb hm).1 e
  · by_cases ea : a = .s d
    · have eb : b ≠ .s d := fun e => hab (ea.trans e.symm)
      simp only [if_pos ea] at h1
      simp only [if_neg eb] at h2
      exact hnb' x ⟨b, h2⟩ h1
    · simp only [if_neg ea] at h1
      by_cases eb : b = .s d
      · simp only [if_pos eb] at h2
        exact hnb' x ⟨a, h1⟩ h2
      · simp only [if_neg eb] at h2
        exact hr.dis _ _ _ hab (ofB a x h1).1 (ofB b x h2).1
  · by_cases ea : a = .s d
    · simp only [if_pos ea] at h1
      exact hA.rel.lt _ _ h1
    · simp only [if_neg ea] at h1
      exact Nat.lt_of_lt_of_le (hr.lt _ _ (ofB a x h1).1) hla.size
  · rcases hla.N2 b o h.1 with hh | hh | hh
    · rcases hh with hh | hh
      · exact .inl hh
      · exact .inl (h.2 hh)
    · obtain ⟨l, hl⟩ := hh
      exact .inr (.inl ⟨l, (ofA l b hl).1⟩)
    · exact .inr (.inr hh)
  · rcases hla.L2 b o h.1 with hh | hh | hh
    · rcases hh with hh | hh
      · exact .inl hh
      · exact .inl (h.2 hh)
    · obtain ⟨l, hl⟩ := hh
      exact .inr (.inl ⟨l, (ofA l b hl).1⟩)
    · exact .inr (.inr hh)
  · obtain ⟨l, hl⟩ := hx
    by_cases e : l = .s d
    · simp only [if_pos e] at hl
      rcases hRd x hl with h | h
      · obtain ⟨k, hk⟩ := h
        exact .inl ⟨k, (ofA k x hk).1⟩
      · exact .inr h
    · simp only [if_neg e] at hl
      exact .inl ⟨l, (ofB l x hl).1⟩
end
end Go.Proofs.VL
namespace Go.Proofs.VL
open Go Go.RowKit
variable {P : Program}
def outO {X : Type} (na : Nat) (p : X → OwnP) (i1 i2 : X → Int) (x : X) : Env := [(.s na, .tu [.ref (.c 0 0), Iv .i64 (i1 x), Iv .i64 (i2 x)]), (.c 0 0, .ob [] (p x))]
section
variable {F : Fence} {n : Nat} {K : List Nat} {o : Oper} {E E' : Env}
theorem Fn.of_AWO (hF : Wide F) (hro : F.round = none) {f : Nat} {fn : Func} {c : Code} (hf : P.funcs[f]? = some fn) (hb : fn.body = some c) (hnm : (fn.name == "runtime.NumGoroutine") = false) (hn : fn.ntmps = n) {na : Nat} {A : Env} {X : Type} {J : X → Prop} {p : X → OwnP} {i1 i2 : X → Int} {t0 t1 t2 : Nat} (hres : fn.results = #[.tmp t0, .tmp t1, .tmp t2]) (hvs : na ≤ n)
    (h : AW P F n [] c (fun e E => (e = .normal ∨ e = .ret) ∧ ∃ x, J x ∧ look E (.s t0) = some (.ob [] (p x)) ∧ look E (.s t1) = some (Iv .i64 (i1 x)) ∧ look E (.s t2) = some (Iv .i64 (i2 x))) A) : Fn P F f na A (fun E1 => ∃ x, J x ∧ E1 = outO na p i1 i2 x) := by
  refine ⟨⟨fn, hf, hnm, by rw [hb]; rfl⟩, fun w N L γ R vals hr hsz => ?_⟩
  refine callsIn_of_wp hf hb (hF.fn f) ?_ hro
  have hr2 : Rel P w N L (vals ++ Array.replicate (fn.ntmps - vals.size) undef) γ R A := by
    have hT : ∀ l c, Tof vals γ l = some c → Tof (vals ++ Array.replicate (fn.ntmps - vals.size) undef) γ l = some c := by
      intro l c hl
      cases l with
      | s t =>
        simp only [Tof] at hl ⊢
        have := (Array.getElem?_eq_some_iff.1 hl).1
        rw [Array.getElem?_append_left this]; exact hl
      | c t i => exact hl
    exact ⟨fun l v hm => let ⟨c, h1, h2⟩ := hr.rep l v hm; ⟨c, hT _ _ h1, h2.congrAll hT⟩, hr.nd, hr.dis, hr.lt, hr.NL, hr.Llt⟩
  have := h w N L γ R _ [] hr2 (by simp; omega)
  refine wpIn_mono this fun e a' w' hp => ?_
  obtain ⟨E', N', L', γ', R', ⟨he, x, hJ, k0, k1, k2⟩, hA⟩ := hp
  obtain ⟨c0, a0, b0⟩ := hA.rel.rep _ _ (look_mem k0)
  obtain ⟨c1, a1, b1⟩ := hA.rel.rep _ _ (look_mem k1)
  obtain ⟨c2, a2, b2⟩ := hA.rel.rep _ _ (look_mem k2)
  obtain rfl := scV b1
  obtain rfl := scV b2
  obtain ⟨_, _, _, hone, _⟩ := ob_get b0
  have hrun : (results fn a'.tmps).run P w' = .ok (.tuple #[c0, .int .i64 (i1 x), .int .i64 (i2 x)]) w' := by
    have g0 : a'.tmps[t0]? = some c0 := a0
    have g1 : a'.tmps[t1]? = some (.int .i64 (i1 x)) := a1
    have g2 : a'.tmps[t2]? = some (.int .i64 (i2 x)) := a2
    unfold results
    rw [hres]
    simp [Array.getD_eq_getD_getElem?, g0, g1, g2]
  have key : bodyPost P fn (RPost P w N L R vals (fun E1 => ∃ x, J x ∧ E1 = outO na p i1 i2 x)) .ret a' w' := by
    refine ⟨hA.defers, _, hrun, _, N', L', (fun a b => if a = 0 ∧ b = 0 then some c0 else none), (fun l => if l = .c 0 0 then R' (.s t0) else none_), ⟨x, hJ, rfl⟩, ⟨?_, ?_, ?_, ?_, hA.rel.NL, hA.rel.Llt⟩, hA.later, ?_⟩
    · intro s u hm
      rcases List.mem_cons.1 hm with e | hm
      · cases e
        refine ⟨.tuple #[c0, .int .i64 (i1 x), .int .i64 (i2 x)], by rw [← hsz]; simp [Tof], ?_⟩
        rw [if_neg (by intro e; cases e)]
        refine .tu _ _ _ rfl (fun i v hi => ?_)
        match i, hi with
        | 0, hi => simp at hi; subst hi; exact .ref _ _ _ (by simp [Tof]) hone
        | 1, hi => simp at hi; subst hi; exact rep_int ..
        | 2, hi => simp at hi; subst hi; exact rep_int ..
        | i + 3, hi => simp at hi
      · simp only [List.mem_singleton] at hm
        cases hm
        exact ⟨c0, by simp [Tof], by rw [if_pos rfl]; exact b0.congrN rfl⟩
    · simp [outO]
    · intro a b y hab h1 h2
      split at h1
      · rw [if_neg (by rintro rfl; exact hab (by assumption))] at h2
        exact h2
      · exact h1
    · intro l y hy
      split at hy
      · exact hA.rel.lt _ _ hy
      · exact hy.elim
    · rintro y ⟨l, hy⟩
      split at hy
      · exact hA.own y ⟨_, hy⟩
      · exact hy.elim
  rcases he with rfl | rfl
  · exact key
  · exact key
theorem OpToX.callO (hF : Wide F) {c : Call} (ho : o.op = .call c) {y : Operand} (hc : c.callee = .value y) {f : Nat} {caps vs : List V} (hx : calleeO E y = some (f, caps)) (ha : argsO E c.args.toList = some vs) {X : Type} {J : X → Prop} {p : X → OwnP} {i1 i2 : X → Int} {na : Nat} (hna : (vs ++ caps).length = na)
    (hfn : Fn P F f na (argEnv 0 (vs ++ caps)) (fun E1 => ∃ x, J x ∧ E1 = outO na p i1 i2 x)) (t i : Nat) {d : Nat} (hd : o.dst = some d) (hok : okD n K d dead = true) (hfr : anyOf (.s d) E = false) (hfg : anyOf (.c t i) E = false) :
    OpToX P F n K o E (fun E' => ∃ x, J x ∧ E' = (.s d, .tu [.ref (.c t i), Iv .i64 (i1 x), Iv .i64 (i2 x)]) :: (.c t i, .ob [] (p x)) :: E) := by
  intro w N L γ R tmps ds hr hn
  obtain ⟨cv, hcv, hcl, hcr⟩ := calleeO_ok hr hx ds
  obtain ⟨hal, har⟩ := argsO_ok hr ds _ _ ha
  refine wpIn_run hF (by simp [ho]) ?_
  rw [run_call_value ho hc hcv hfn.callable]
  simp only [Oper.uponIn]
  refine ⟨fun h => (by rw [hF.depth] at h; cases h), ?_⟩
  have hsize : (c.args.map (Act.eval ⟨tmps, ds⟩) ++ cv).size = na := by rw [← hna]; simp [hal, hcl]
  have hargs : Rel P w N L (c.args.map (Act.eval ⟨tmps, ds⟩) ++ cv) γ0 R0 (argEnv 0 (vs ++ caps)) := by
    refine Rel.args (by rw [hsize, hna]) hr.NL hr.Llt fun i v hi => ⟨Tof tmps γ, ?_⟩
    have e : (c.args.map (Act.eval ⟨tmps, ds⟩) ++ cv).getD i undef = if i < vs.length then (c.args.toList.map (Act.eval ⟨tmps, ds⟩)).getD i undef else cv.getD (i - vs.length) undef := by
      have := getD_append (c.args.toList.map (Act.eval ⟨tmps, ds⟩)) cv.toList i undef
      simp only [List.length_map, ← hal] at this
      rw [show (c.args.map (Act.eval ⟨tmps, ds⟩) ++ cv).getD i undef = (c.args.toList.map (Act.eval ⟨tmps, ds⟩) ++ cv.toList).getD i undef by simp [Array.getD_eq_getD_getElem?, List.getD_eq_getElem?_getD, ← Array.getElem?_toList], this]
      split <;> simp [Array.getD_eq_getD_getElem?, List.getD_eq_getElem?_getD, ← Array.getElem?_toList]
    rw [e]
    rw [List.getElem?_append] at hi
    split at hi
    · rename_i h1; rw [if_pos h1]; exact har i v hi
    · rename_i h1; rw [if_neg h1]; exact hcr _ v hi
  refine CallsIn.mono (hfn.run w N L γ0 R0 _ hargs hsize) fun e w' he => ?_
  cases e with
  | returned cr =>
    obtain ⟨E1, N1, L1, γ1, R1, ⟨x, hJ, rfl⟩, h1, h2, h3⟩ := he
    obtain ⟨cr', u1, u2⟩ := h1.rep _ _ (.head _)
    have hcr' : cr' = cr := by
      simp only [Tof] at u1
      rw [← hsize, Array.getElem?_push_size] at u1
      exact (Option.some.inj u1).symm
    subst hcr'
    obtain ⟨c0, u3, u4⟩ := h1.rep (.c 0 0) _ (.tail _ (.head _))
    have hSt : ∀ x, ¬ St R0 x := fun x ⟨_, h⟩ => h.elim
    have hR1 : ∀ l x, R1 l x → w.heap.size ≤ x := fun l x hx => (h3 x ⟨l, hx⟩).resolve_left (hSt x)
    show Mid P n K w N L R tmps ds _ (Act.put ⟨tmps, ds⟩ o.dst cr') w'
    rw [hd, putAct]
    simp only [okD, Bool.and_eq_true, Bool.not_eq_true', Nat.blt_eq] at hok
    obtain ⟨⟨hdn, hK⟩, _⟩ := hok
    have hT : ∀ l c, l ≠ .s d → l ≠ .c t i → Tof tmps γ l = some c → Tof (tmps.setIfInBounds d cr') (fun a b => if a = t ∧ b = i then some c0 else γ a b) l = some c := by
      intro l c h1 h2 h
      cases l with
      | s a => simp only [Tof] at h ⊢; rw [Array.getElem?_setIfInBounds_ne (fun e => h1 (by rw [e]))]; exact h
      | c a b => simp only [Tof] at h ⊢; rw [if_neg (fun e => h2 (by rw [e.1, e.2]))]; exact h
    have hTg : Tof (tmps.setIfInBounds d cr') (fun a b => if a = t ∧ b = i then some c0 else γ a b) (.c t i) = some c0 := by simp [Tof]
    refine ⟨_, N1, L1, (fun a b => if a = t ∧ b = i then some c0 else γ a b), (fun l => if l = .c t i then R1 (.c 0 0) else if l = .s d then none_ else R l), ⟨x, hJ, rfl⟩, ⟨fun l v hm => ?_, ?_, fun a b y hab q1 q2 => ?_, fun a y q1 => ?_, h1.NL, h1.Llt⟩, by simp [hn], rfl, fun k hk => ?_, ⟨h2.os, h2.tape, h2.output, h2.size, fun b hb _ => h2.frame b hb (hSt b), h2.keeps, h2.N1, h2.L1, fun b o h => ?_, fun b o h => ?_⟩, ?_⟩
    · rcases List.mem_cons.1 hm with e | hm
      · cases e
        refine ⟨cr', by simp [Tof, hn, hdn], ?_⟩
        rw [if_neg (by intro e; cases e), if_pos rfl]
        cases u2 with
        | tu _ vals _ hl hv =>
          refine .tu _ _ _ hl (fun j v hj => ?_)
          match j, hj with
          | 0, hj =>
            simp at hj; subst hj
            have := hv 0 (.ref (.c 0 0)) rfl
            cases this with
            | ref _ _ _ hT0 hone =>
              rw [hT0] at u3
              cases u3
              exact .ref _ _ _ hTg hone
          | 1, hj => simp at hj; subst hj; exact (hv 1 (Iv .i64 (i1 x)) rfl).congrN rfl
          | 2, hj => simp at hj; subst hj; exact (hv 2 (Iv .i64 (i2 x)) rfl).congrN rfl
          | j + 3, hj => simp at hj
      · rcases List.mem_cons.1 hm with e | hm
        · cases e
          exact ⟨c0, hTg, by rw [if_pos rfl]; exact u4.congrN rfl⟩
        · obtain ⟨m1, m2⟩ := anyOf_mem hfr hm
          obtain ⟨m3, m4⟩ := anyOf_mem hfg hm
          obtain ⟨c', q1, q2⟩ := hr.rep _ _ hm
          refine ⟨c', hT _ _ m1 m3 q1, ?_⟩
          rw [if_neg m3, if_neg m1]
          have q3 : RepV P w' N1 L1 (Tof tmps γ) v c' (R l) := q2.world h2.size (fun b hb => h2.frame b (hr.lt _ _ hb) (hSt b)) hr.NL h2.keeps h2.N1 h2.L1 (fun b o hb h => by
            rcases h2.N2 b o h with h | h | h
            · exact h
            · exact absurd h (hSt b)
            · have := hr.lt _ _ hb; omega) (fun b o hb h => by
            rcases h2.L2 b o h with h | h | h
            · exact h
            · exact absurd h (hSt b)
            · have := hr.lt _ _ hb; omega)
          have q4 : RepV P w' N1 L1 (Tof (tmps.setIfInBounds d cr') γ) v c' (R l) := q3.congrT (d := .s d) (fun k c hk h => by
            cases k with
            | s a => simp only [Tof] at h ⊢; rw [Array.getElem?_setIfInBounds_ne (fun e => hk (by rw [e]))]; exact h
            | c a b => exact h) m2
          exact q4.congrT (d := .c t i) (fun k c hk h => by
            cases k with
            | s a => exact h
            | c a b => simp only [Tof] at h ⊢; rw [if_neg (fun e => hk (by rw [e.1, e.2]))]; exact h) m4
    · rw [List.map_cons, List.map_cons, List.nodup_cons, List.nodup_cons]
      refine ⟨fun hm => ?_, fun hm => ?_, hr.nd⟩
      · rcases List.mem_cons.1 hm with e | hm
        · cases e
        · obtain ⟨⟨l, v⟩, hm, e⟩ := List.mem_map.1 hm
          exact (anyOf_mem hfr hm).1 e
      · obtain ⟨⟨l, v⟩, hm, e⟩ := List.mem_map.1 hm
        exact (anyOf_mem hfg hm).1 e
    · have hk : ∀ l y, (if l = .c t i then R1 (.c 0 0) else if l = .s d then none_ else R l) y → (l = .c t i ∧ R1 (.c 0 0) y) ∨ (l ≠ .c t i ∧ R l y) := by
        intro l y hy
        split at hy
        · exact .inl ⟨‹_›, hy⟩
        · split at hy
          · exact hy.elim
          · exact .inr ⟨‹_›, hy⟩
      rcases hk a y q1 with ⟨e1, r1⟩ | ⟨e1, r1⟩ <;> rcases hk b y q2 with ⟨e2, r2⟩ | ⟨e2, r2⟩
      · exact hab (e1.trans e2.symm)
      · have := hR1 _ _ r1; have := hr.lt _ _ r2; omega
      · have := hR1 _ _ r2; have := hr.lt _ _ r1; omega
      · exact hr.dis _ _ _ hab r1 r2
    · split at q1
      · exact h1.lt _ _ q1
      · split at q1
        · exact q1.elim
        · exact Nat.lt_of_lt_of_le (hr.lt _ _ q1) h2.size
    · have : k ≠ d := by rintro rfl; simp [List.contains_eq_mem] at hK; exact hK hk
      simp [Array.getElem?_setIfInBounds_ne (Ne.symm this)]
    · exact (h2.N2 b o h).imp id (fun h => h.imp (fun h => absurd h (hSt b)) id)
    · exact (h2.L2 b o h).imp id (fun h => h.imp (fun h => absurd h (hSt b)) id)
    · rintro y ⟨l, hy⟩
      split at hy
      · exact .inr (hR1 _ _ hy)
      · split at hy
        · exact hy.elim
        · exact .inl ⟨l, hy⟩
  | _ => exact he.elim
end
end Go.Proofs.VL
