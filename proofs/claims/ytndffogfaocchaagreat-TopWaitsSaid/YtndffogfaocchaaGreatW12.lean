import Derived.Test.YtndffogfaocchaaGreatW11
set_option linter.unusedVariables false
set_option linter.unusedSimpArgs false
set_option linter.unusedSectionVars false
namespace Go.Proofs.VL
open Go Go.RowKit
variable {P : Program}
def PostR (P : Program) (n : Nat) (w : World) (N L : Cells) (R : Loc → Blocks) (Q : Exit → Env → Prop) : Exit → Act → World → Prop := fun e a' w' =>
  ∃ E' N' L' γ' R', Q e E' ∧ Rel P w' N' L' a'.tmps γ' R' E' ∧ a'.tmps.size = n ∧ Later w N L (St R) w' N' L' ∧ (∀ x, St R' x → St R x ∨ w.heap.size ≤ x) ∧
    (a'.defers = [] ∨ ∃ D, a'.defers = [{ target := .collected D, args := #[] }] ∧ w'.heap[D]? = some (.deferred (some [])) ∧ ¬ St R' D ∧ w.heap.size ≤ D)
def AWR (P : Program) (F : Fence) (n : Nat) (c : Code) (Q : Exit → Env → Prop) (E : Env) : Prop :=
  ∀ (w : World) (N L : Cells) (γ : Gh) (R : Loc → Blocks) (tmps : Array Value), Rel P w N L tmps γ R E → tmps.size = n → c.wpIn F 0 P (PostR P n w N L R Q) ⟨tmps, []⟩ w
section
variable {F : Fence} {n : Nat} {Q : Exit → Env → Prop} {E : Env} {τ : Nat → Option TI}
theorem PostR.of_Mid {w : World} {N L : Cells} {R : Loc → Blocks} {tmps : Array Value} {e : Exit} {a : Act} {w' : World} (h : Mid P n [] w N L R tmps [] (Q e) a w') : PostR P n w N L R Q e a w' := by
  obtain ⟨E', N', L', γ', R', hq, hA⟩ := h
  exact ⟨E', N', L', γ', R', hq, hA.rel, hA.size, hA.later, hA.own, .inl hA.defers⟩
theorem AWR.of {c : Code} (h : AW P F n [] c Q E) : AWR P F n c Q E := fun w N L γ R tmps hr hn => wpIn_mono (h w N L γ R tmps [] hr hn) fun e a' w' hp => .of_Mid hp
theorem PostR.trans {w w1 : World} {N L N1 L1 : Cells} {R R1 : Loc → Blocks} (hl : Later w N L (St R) w1 N1 L1) (ho : ∀ x, St R1 x → St R x ∨ w.heap.size ≤ x) {e : Exit} {a : Act} {w' : World} (h : PostR P n w1 N1 L1 R1 Q e a w') : PostR P n w N L R Q e a w' := by
  obtain ⟨E', N', L', γ', R', hq, hr, hs, hla, hown, hd⟩ := h
  refine ⟨E', N', L', γ', R', hq, hr, hs, hl.trans hla ho, fun x hx => ?_, ?_⟩
  · rcases hown x hx with h | h
    · exact ho x h
    · exact .inr (Nat.le_trans hl.size h)
  · rcases hd with h | ⟨D, h1, h2, h3, h4⟩
    · exact .inl h
    · exact .inr ⟨D, h1, h2, h3, Nat.le_trans hl.size h4⟩
theorem AWR.seqL {x y : Code} (h : AW P F n [] x (thenQ (AWR P F n y Q) Q) E) : AWR P F n (.seq x y) Q E := by
  intro w N L γ R tmps hr hn
  refine wpIn_seq (wpIn_mono (h w N L γ R tmps [] hr hn) fun e a' w' hp => ?_)
  obtain ⟨E', N', L', γ', R', hq, hA⟩ := hp
  have other : Q e E' → PostR P n w N L R Q e a' w' := fun hq => .of_Mid ⟨E', N', L', γ', R', hq, hA⟩
  cases e with
  | normal =>
    have hds : a'.defers = [] := hA.defers
    obtain ⟨t1, d1⟩ := a'
    simp only at hds
    subst hds
    exact wpIn_mono (hq w' N' L' γ' R' t1 hA.rel hA.size) fun e a2 w2 hp2 => hp2.trans hA.later hA.own
  | exit id => exact other hq
  | goto l => exact other hq
  | ret => exact other hq
  | panic ch => exact other hq
  | outgrown => exact other hq
theorem AWR.seqR {x y : Code} (h : AWR P F n x (thenQ (AW P F n [] y Q) Q) E) : AWR P F n (.seq x y) Q E := by
  intro w N L γ R tmps hr hn
  refine wpIn_seq (wpIn_mono (h w N L γ R tmps hr hn) fun e a' w' hp => ?_)
  obtain ⟨E', N', L', γ', R', hq, hr2, hs2, hla, hown, hd⟩ := hp
  have other : Q e E' → PostR P n w N L R Q e a' w' := fun hq => ⟨E', N', L', γ', R', hq, hr2, hs2, hla, hown, hd⟩
  cases e with
  | normal =>
    refine wpIn_mono (hq w' N' L' γ' R' a'.tmps a'.defers hr2 hs2) fun e a2 w2 hp2 => ?_
    obtain ⟨E2, N2, L2, γ2, R2, hq2, hB⟩ := hp2
    have hdd : a2.defers = a'.defers := hB.defers
    refine ⟨E2, N2, L2, γ2, R2, hq2, hB.rel, hB.size, hla.trans hB.later hown, fun x hx => ?_, ?_⟩
    · rcases hB.own x hx with h | h
      · exact hown x h
      · exact .inr (Nat.le_trans hla.size h)
    · rcases hd with h | ⟨D, h1, h2, h3, h4⟩
      · exact .inl (hdd.trans h)
      · have hDlt : D < w'.heap.size := (Array.getElem?_eq_some_iff.1 h2).1
        refine .inr ⟨D, hdd.trans h1, (hB.later.frame D hDlt h3).trans h2, fun hx => ?_, h4⟩
        rcases hB.own D hx with h | h
        · exact h3 h
        · omega
  | exit id => exact other hq
  | goto l => exact other hq
  | ret => exact other hq
  | panic ch => exact other hq
  | outgrown => exact other hq
theorem AWR.block {id : Nat} {c : Code} (h : AWR P F n c (blockQ id Q) E) : AWR P F n (.block id c) Q E := by
  intro w N L γ R tmps hr hn
  refine wpIn_block (wpIn_mono (h w N L γ R tmps hr hn) fun e a' w' hp => ?_)
  obtain ⟨E', N', L', γ', R', hq, rest⟩ := hp
  cases e with
  | exit id' =>
    simp only [Exit.inBlock]
    simp only [blockQ] at hq
    split
    · rename_i e; rw [if_pos e] at hq; exact ⟨E', N', L', γ', R', hq, rest⟩
    · rename_i e; rw [if_neg e] at hq; exact ⟨E', N', L', γ', R', hq, rest⟩
  | normal => exact ⟨E', N', L', γ', R', hq, rest⟩
  | goto l => exact ⟨E', N', L', γ', R', hq, rest⟩
  | ret => exact ⟨E', N', L', γ', R', hq, rest⟩
  | panic ch => exact ⟨E', N', L', γ', R', hq, rest⟩
  | outgrown => exact ⟨E', N', L', γ', R', hq, rest⟩
theorem AWR.subE {c : Code} {E' : Env} (hs : Sub E' E) (hn : (E'.map Prod.fst).Nodup) (h : AWR P F n c Q E') : AWR P F n c Q E := fun w N L γ R tmps hr hsz =>
  h w N L γ R tmps (hr.sub (fun t v hm => look_mem (hs t v (look_of_mem hn hm))) hn) hsz
theorem AWR.ent {c : Code} {E' : Env} (he : Ent P E E') (h : AWR P F n c Q E') : AWR P F n c Q E := fun w N L γ R tmps hr hsz => by
  obtain ⟨N', L', γ', R', h1, h2, h3⟩ := he w N L γ R tmps hr
  exact wpIn_mono (h w N' L' γ' R' tmps h1 hsz) fun e a w' hp => hp.trans h2 (fun x hx => .inl (h3 x hx))
def IterV (P : Program) (F : Fence) (f : Nat) (caps : List V) {α : Type} (enc : α → List V) (xs : List α) : Prop :=
  ∀ Y : Nat → OwnP, (∀ k x, xs[k]? = some x → YStep P F (Y k) (enc x) (Y (k + 1))) →
    Fn P F f (1 + caps.length) ((.s 0, .ob [] (Y 0)) :: argEnv 1 caps) (fun E1 => ∃ r, E1 = [(.s (1 + caps.length), r), (.s 0, .ob [] (Y xs.length))])
theorem later_putObj {w : World} {N L : Cells} {l : Nat} {o : Obj} (o' : Obj) (hl : w.heap[l]? = some o) (hc : ∀ x : Nat, w.cell? ⟨l, x, none⟩ = none) : Later w N L (fun x => x = l) (w.putObj l o') N L := by
  refine ⟨rfl, rfl, rfl, by simp, fun b hb hne => World.putObj_heap_other hne, fun b o v hLb hc' => ?_, fun _ _ h => h, fun _ _ h => h, fun _ _ h => .inl h, fun _ _ h => .inl h⟩
  by_cases e : b = l
  · subst e; rw [hc] at hc'; cases hc'
  · exact (cell_of_heap (World.putObj_heap_other e) o).trans hc'
theorem Rel.putOther {w : World} {N L : Cells} {ta : Array Value} {γa : Gh} {Ra : Loc → Blocks} {Ea : Env} {l : Nat} {o : Obj} (o' : Obj) (hl : w.heap[l]? = some o) (hc : ∀ x : Nat, w.cell? ⟨l, x, none⟩ = none) (hnl : ¬ St Ra l) (hr : Rel P w N L ta γa Ra Ea) : Rel P (w.putObj l o') N L ta γa Ra Ea := by
  have hla := later_putObj (N := N) (L := L) o' hl hc
  refine ⟨fun s u hm => ?_, hr.nd, hr.dis, fun a x hx => by simpa using hr.lt a x hx, hr.NL, fun b o hb => by simpa using hr.Llt b o hb⟩
  obtain ⟨c, q1, q2⟩ := hr.rep s u hm
  exact ⟨c, q1, q2.world hla.size (fun b hb => hla.frame b (hr.lt _ _ hb) (fun e => hnl ⟨s, e ▸ hb⟩)) hr.NL hla.keeps hla.N1 hla.L1 (fun _ _ _ h => h) (fun _ _ _ h => h)⟩
theorem cell_loop {w : World} {l : Nat} {r : Loop} (h : w.heap[l]? = some (.loop r)) (x : Nat) : w.cell? ⟨l, x, none⟩ = none := by rw [World.cell?]; simp only [h]
theorem cell_deferred {w : World} {l : Nat} {r : Option (List Deferred)} (h : w.heap[l]? = some (.deferred r)) (x : Nat) : w.cell? ⟨l, x, none⟩ = none := by rw [World.cell?]; simp only [h]
theorem AWR.range (hF : Wide F) (hro : F.round = none) {K : List Nat} {g : Operand} {ps : Array Tmp} {assign body : Code} {f : Nat} {caps : List V} (hx : calleeO E g = some (f, caps)) {α : Type} {enc : α → List V} {xs : List α} (hit : IterV P F f caps enc xs)
    (I : Nat → Env) (hI0 : Sub (I 0) E) (hnd : ∀ k, nodupB ((I k).map Prod.fst) = true) (hps : ∀ p ∈ ps.toList, p < n) (hes : ∀ x, (enc x).length = ps.size) (hok : ∀ k, obOK K ps.toList (I k) = true)
    (hround : ∀ k x, xs[k]? = some x → ∀ l, AW P (F.inRound l) n K assign (fun e E => e = .normal ∧ AW P (F.inRound l) n K body (fun e E' => e = .normal ∧ Sub (I (k + 1)) E') E) (VL.putPs ps.toList (enc x) (I k)))
    (h : Q .normal (I xs.length)) : AWR P F n (.rangeFunc g ps assign body) Q E := by
  intro w N L γ R tmps hr hn
  refine wpIn_rangeFunc ?_
  intro fn hfn
  rw [hro]
  obtain ⟨rec, hrec⟩ : ∃ rec : LoopState → Loop, rec = fun st => { state := st, pending := none, fn, tmps, params := ps, assign, body, defers := w.heap.size } := ⟨_, rfl⟩
  obtain ⟨w1, hw1⟩ : ∃ w1, (w.alloc (.deferred (some []))).alloc (.loop (rec .ready)) = w1 := ⟨_, rfl⟩
  have hl1 : w1.heap[w.heap.size + 1]? = some (.loop (rec .ready)) := by
    rw [← hw1]; have := World.alloc_heap_new (w.alloc (.deferred (some []))) (.loop (rec .ready)); rwa [World.size_alloc] at this
  have hD1 : w1.heap[w.heap.size]? = some (.deferred (some [])) := by
    rw [← hw1]; exact (Below.heap_alloc _ _ _ (by simp)).trans (World.alloc_heap_new w _)
  have hs1 : w1.heap.size = w.heap.size + 2 := by rw [← hw1]; simp
  obtain ⟨cv, hcv, hcl, hcr⟩ := calleeO_ok hr hx []
  have hYs : ∀ k x, xs[k]? = some x → YStep P F (YP P (I k) tmps (rec .ready) (w.heap.size + 1) w.heap.size) (enc x) (YP P (I (k + 1)) tmps (rec .ready) (w.heap.size + 1) w.heap.size) := by
    intro k x hkx
    refine YStep.of_AW (n := n) (K := K) hF hro (by rw [hrec]) (by rw [hrec]) hn (by rw [hrec]) (by rw [hrec]; exact hps) (by rw [hrec]; exact hes x) rfl (by rw [hrec]; exact hok (k + 1)) ?_
    rw [hrec]
    exact hround k x hkx
  have hfn1 := hit (fun k => YP P (I k) tmps (rec .ready) (w.heap.size + 1) w.heap.size) hYs
  have hla1 : Later w N L (St R) w1 N L := by
    rw [← hw1]
    exact (later_alloc w _ N L _ hr.Llt).trans (later_alloc (w.alloc _) _ N L (St R) (fun b o hb => by have := hr.Llt b o hb; simp; omega)) (fun x hx => .inl hx)
  have hr1 : Rel P w1 N L tmps γ R E := by rw [← hw1]; exact (hr.alloc _).alloc _
  refine ⟨w.heap.size + 1, [{ target := .collected w.heap.size, args := #[] }], w1, { target := .fn (.func f) cv, args := #[.func (.yield (w.heap.size + 1)) #[] #[]] }, w1, f,
    #[.func (.yield (w.heap.size + 1)) #[] #[]] ++ cv, w1, ?_, ?_, ?_, ?_, fun h => (by rw [hF.depth] at h; cases h), ?_⟩
  · rw [← hw1, hrec]; exact run_enterLoop_outer _ _ _ _ _
  · simp only [resolve, hcv]
    simp [go_sem]
  · intro f' hf'; exact hF.fn _
  · simp [invoke, run_callFunc hfn1.callable]
  · let Rc : Loc → Blocks := fun k => if k = .s 0 then (fun x => St R x ∨ x = w.heap.size + 1 ∨ x = w.heap.size) else none_
    have hsize : (#[Value.func (.yield (w.heap.size + 1)) #[] #[]] ++ cv).size = 1 + caps.length := by simp [hcl]
    have hsub0 : ∀ k v, (k, v) ∈ I 0 → (k, v) ∈ E := fun k v hm => look_mem (hI0 k v (look_of_mem (nodupB_ok (hnd 0)) hm))
    have hY0 : YP P (I 0) tmps (rec .ready) (w.heap.size + 1) w.heap.size w1 N L (Rc (.s 0)) [] (.func (.yield (w.heap.size + 1)) #[] #[]) := by
      refine ⟨rfl, hl1, hD1, by omega, by simp [Rc], by simp [Rc], γ, R, ⟨fun k v hm => hr1.rep k v (hsub0 k v hm), nodupB_ok (hnd 0), hr1.dis, hr1.lt, fun k x hx => ⟨by simp only [Rc, if_pos]; exact .inl ⟨k, hx⟩, ?_, ?_⟩⟩⟩
      · have := hr.lt k x hx; omega
      · have := hr.lt k x hx; omega
    have hrel : Rel P w1 N L (#[Value.func (.yield (w.heap.size + 1)) #[] #[]] ++ cv) γ0 Rc ((.s 0, .ob [] (YP P (I 0) tmps (rec .ready) (w.heap.size + 1) w.heap.size)) :: argEnv 1 caps) := by
      refine ⟨fun k v hm => ?_, ?_, fun a b x hab q1 q2 => ?_, fun a x q1 => ?_, hr1.NL, hr1.Llt⟩
      · rcases List.mem_cons.1 hm with h | hm
        · cases h
          exact ⟨.func (.yield (w.heap.size + 1)) #[] #[], by simp [Tof, Array.getElem?_append], rep_Y hr1.NL hY0⟩
        · obtain ⟨j, rfl, hj⟩ := argEnv_mem _ _ _ _ hm
          obtain ⟨q1, q2⟩ := hcr j v hj
          have hjl : j < cv.size := by rw [← hcl]; exact (List.getElem?_eq_some_iff.1 hj).1
          refine ⟨cv.getD j undef, ?_, ?_⟩
          · simp only [Tof]
            rw [Array.getElem?_append_right (by simp), show 1 + j - #[Value.func (Fn.yield (w.heap.size + 1)) #[] #[]].size = j by simp]
            exact getD_of hjl
          · have hne : Loc.s (1 + j) ≠ .s 0 := by simp
            simp only [Rc, if_neg hne]
            exact (q2.world hla1.size (fun b hb => hb.elim) hr.NL hla1.keeps hla1.N1 hla1.L1 (fun _ _ h => h.elim) (fun _ _ h => h.elim)).congrN q1
      · simp only [List.map_cons, List.nodup_cons]
        refine ⟨fun hm => ?_, argEnv_nd _ _⟩
        obtain ⟨⟨k, v⟩, hm, rfl⟩ := List.mem_map.1 hm
        obtain ⟨j, h1, _⟩ := argEnv_mem _ _ _ _ hm
        simp only [Loc.s.injEq] at h1
        omega
      · simp only [Rc] at q1 q2
        split at q1
        · rename_i ea
          rw [if_neg (fun eb => hab (ea.trans eb.symm))] at q2
          exact q2
        · exact q1
      · simp only [Rc] at q1
        split at q1
        · rcases q1 with ⟨k, hk⟩ | h | h
          · exact hr1.lt k x hk
          · omega
          · omega
        · exact q1.elim
    have hrn : rec .ready = rec .ready := rfl
    refine CallsIn.mono (hfn1.run w1 N L γ0 Rc _ hrel hsize) fun e w3 he => ?_
    cases e with
    | returned c =>
      obtain ⟨E1, N3, L3, γ3, R3, ⟨rv, rfl⟩, h1, h2, h3⟩ := he
      obtain ⟨c0, q1, q2⟩ := h1.rep (.s 0) _ (.tail _ (.head _))
      have hy := ob_at q2
      obtain ⟨hc0, hl3, hD3, hne, hRl, hRD, γ', Q', hi⟩ := hy
      have hSt : ∀ x, St Rc x → St R x ∨ w.heap.size ≤ x := by
        rintro x ⟨k, hk⟩
        simp only [Rc] at hk
        split at hk
        · rcases hk with h | h | h
          · exact .inl h
          · exact .inr (by omega)
          · exact .inr (by omega)
        · exact hk.elim
      have hnl : ¬ St Q' (w.heap.size + 1) := fun ⟨k, hk⟩ => (hi.sub k _ hk).2.1 rfl
      have hnD : ¬ St Q' w.heap.size := fun ⟨k, hk⟩ => (hi.sub k _ hk).2.2 rfl
      have hrel3 : Rel P w3 N3 L3 tmps γ' Q' (I xs.length) := ⟨hi.rep, hi.nd, hi.dis, hi.lt, h1.NL, h1.Llt⟩
      have hst3 : (rec .ready).state ≠ .busy := by rw [hrec]; simp
      refine ⟨(rec .ready).pending, _, run_endLoop hl3 hst3, ?_⟩
      have hpen : (rec .ready).pending = none := by rw [hrec]
      rw [hpen]
      show PostR P n w N L R Q .normal { tmps := tmps, defers := [{ target := .collected w.heap.size, args := #[] }] ++ [] } _
      have hla3 : Later w N L (St R) w3 N3 L3 := hla1.trans h2 hSt
      have hla4 := fun o' => later_putObj (N := N3) (L := L3) o' hl3 (cell_loop hl3)
      refine ⟨_, N3, L3, γ', Q', h, hrel3.putOther _ hl3 (cell_loop hl3) hnl, hn, hla3.trans (hla4 _) (fun x hx => .inr (by omega)), fun x ⟨k, hk⟩ => ?_, .inr ⟨w.heap.size, rfl, ?_, hnD, Nat.le_refl _⟩⟩
      · rcases h3 x ⟨_, (hi.sub k x hk).1⟩ with h | h
        · exact hSt x h
        · exact .inr (by omega)
      · rw [World.putObj_heap_other (by omega)]; exact hD3
    | panicked ch => exact he.elim
    | outgrown => exact he.elim
theorem FnV.of_AWR (hF : Wide F) (hro : F.round = none) (hτ : ∀ t ti, τ t = some ti → mkTI P t = some ti) {f : Nat} {fn : Func} {c : Code} (hf : P.funcs[f]? = some fn) (hb : fn.body = some c) (hnm : (fn.name == "runtime.NumGoroutine") = false) (hn : fn.ntmps = n) {vs : List V} {r : V} (hvs : vs.length ≤ n)
    (h : AWR P F n c (fun e E => (e = .normal ∨ e = .ret) ∧ retV τ fn.results.toList E = some r) (argEnv 0 vs)) : FnV P F f vs r := by
  refine ⟨⟨fn, hf, hnm, by rw [hb]; rfl⟩, fun w N L γ R vals hr hsz => ?_⟩
  refine callsIn_of_wp_marks hf hb (hF.fn f) ?_ hro
  have hle : vals.size ≤ n := by rw [hsz]; exact hvs
  have hr2 : Rel P w N L (vals ++ Array.replicate (fn.ntmps - vals.size) undef) γ R (argEnv 0 vs) := by
    have hT : ∀ l c, Tof vals γ l = some c → Tof (vals ++ Array.replicate (fn.ntmps - vals.size) undef) γ l = some c := by
      intro l c hl
      cases l with
      | s t =>
        simp only [Tof] at hl ⊢
        have := (Array.getElem?_eq_some_iff.1 hl).1
        rw [Array.getElem?_append_left this]; exact hl
      | c t i => exact hl
    exact ⟨fun l v hm => let ⟨c, h1, h2⟩ := hr.rep l v hm; ⟨c, hT _ _ h1, h2.congrAll hT⟩, hr.nd, hr.dis, hr.lt, hr.NL, hr.Llt⟩
  have := h w N L γ R _ hr2 (by simp; omega)
  refine wpIn_mono this fun e a' w' hp => ?_
  obtain ⟨E', N', L', γ', R', ⟨he, hret⟩, hrel, hs', hla, hown, hdef⟩ := hp
  have final : ∀ (w2 : World), Rel P w2 N' L' a'.tmps γ' R' E' → Later w N L (St R) w2 N' L' → LeavesIn F 0 P fn a'.tmps (RPost P w N L R vals (fun E' => E' = [(.s vs.length, r)])) [] .returning w2 := by
    intro w2 hrel hla
    obtain ⟨hnl, cr, l, hrun, hrep⟩ := retV_ok hrel hτ hret
    refine ⟨cr, hrun, _, N', L', γ0, (fun l' => if l' = .s vs.length then R' l else none_), rfl, ⟨?_, by simp, ?_, ?_, hrel.NL, hrel.Llt⟩, hla, ?_⟩
    · intro s u hm
      simp only [List.mem_singleton, Prod.mk.injEq] at hm
      obtain ⟨rfl, rfl⟩ := hm
      refine ⟨cr, by rw [← hsz]; simp [Tof], ?_⟩
      rw [if_pos rfl]
      exact hrep.congrN hnl
    · intro a b x hab ha hb
      split at ha
      · rw [if_neg (by rintro rfl; exact hab (by assumption))] at hb
        exact hb
      · exact ha
    · intro l' x hx
      split at hx
      · exact hrel.lt _ _ hx
      · exact hx.elim
    · rintro x ⟨l', hx⟩
      split at hx
      · exact hown x ⟨_, hx⟩
      · exact hx.elim
  have key : LeavesInM F 0 P fn a'.tmps (RPost P w N L R vals (fun E' => E' = [(.s vs.length, r)])) a'.defers .returning w' := by
    rcases hdef with hd | ⟨D, hd, hD, hnD, hsz2⟩
    · rw [hd]; exact final w' hrel hla
    · rw [hd]
      refine ⟨by simp, .inl ⟨D, _, rfl, run_takeDeferred hD, ?_⟩⟩
      exact final _ (hrel.putOther _ hD (cell_deferred hD) hnD) (hla.trans (later_putObj _ hD (cell_deferred hD)) (fun x hx => .inr (by rw [hx]; exact hsz2)))
  rcases he with rfl | rfl
  · exact key
  · exact key
end
end Go.Proofs.VL
namespace Go.Proofs.VL
open Go Go.RowKit
variable {P : Program}
theorem AW.loopX {F : Fence} {n : Nat} {K : List Nat} {E : Env} {X : Type} {c : Code} {Q : Exit → Env → Prop} (R : X → Env) (J : X → Prop) (μ : X → Nat) (hn : ∀ x, nodupB ((R x).map Prod.fst) = true) (x₀ : X) (hJ : J x₀) (h₀ : Sub (R x₀) E)
    (round : ∀ x, J x → AW P F n K c (thenQ (fun E' => ∃ x', μ x' < μ x ∧ J x' ∧ Sub (R x') E') Q) (R x)) : AW P F n K (.loop c) Q E := by
  refine AW.loopI (X := { x : X // J x }) (fun x => R x.1) (fun x => μ x.1) (fun x => hn x.1) ⟨x₀, hJ⟩ h₀ fun ⟨x, hx⟩ => ?_
  refine (round x hx).mono fun e E' h => ?_
  cases e with
  | normal => exact let ⟨x', h1, h2, h3⟩ := h; ⟨⟨x', h2⟩, h1, h3⟩
  | _ => exact h
def FnE (P : Program) (F : Fence) (f na : Nat) (A : Env) {X : Type} (J : X → Prop) (r : X → V) (H : X → Env) : Prop := Fn P F f na A (fun E1 => ∃ x, J x ∧ E1 = (.s na, r x) :: H x)
end Go.Proofs.VL
namespace Go.Proofs.VL
open Go Go.RowKit
variable {P : Program}
def StableO (p : OwnP) : Prop := ∀ (w : World) (N L : Cells) (R : Blocks) (cs : List Value) (c : Value), (∀ b o, N b o → L b o) → p w N L R cs c → ∀ (w' : World) (N' L' : Cells) (R' : Blocks), w.heap.size ≤ w'.heap.size → (∀ b, R b → w'.heap[b]? = w.heap[b]?) → Keeps L w w' →
  (∀ b o, N b o → N' b o) → (∀ b o, L b o → L' b o) → (∀ b o, R b → N' b o → N b o) → (∀ b o, R b → L' b o → L b o) → (∀ b, R b → R' b) → p w' N' L' R' cs c
theorem ob_mk {w : World} {N L : Cells} {T : Loc → Option Value} {R : Blocks} {p : OwnP} {c : Value} {ls : List Loc} {cs : List Value} (hs : StableO p) (hNL : ∀ b o, N b o → L b o) (hc : c.oneCell' = true) (hlen : cs.length = ls.length) (hl : ∀ (i : Nat) (l : Loc), ls[i]? = some l → T l = some (cs.getD i undef)) (h : p w N L R cs c) : RepV P w N L T (.ob ls p) c R :=
  .ob ls p c R cs hc hlen hl (hs w N L R cs c hNL h)
theorem ob_get {w : World} {N L : Cells} {T : Loc → Option Value} {R : Blocks} {p : OwnP} {c : Value} {ls : List Loc} (h : RepV P w N L T (.ob ls p) c R) : ∃ cs, cs.length = ls.length ∧ (∀ (i : Nat) (l : Loc), ls[i]? = some l → T l = some (cs.getD i undef)) ∧ c.oneCell' = true ∧ p w N L R cs c := by
  cases h with
  | ob ls p c R cs hc hlen hl h => exact ⟨cs, hlen, hl, hc, h w N L R (Nat.le_refl _) (fun _ _ => rfl) (fun _ _ _ _ h => h) (fun _ _ h => h) (fun _ _ h => h) (fun _ _ _ h => h) (fun _ _ _ h => h) (fun _ h => h)⟩
def InnerP (P : Program) (e1 : Nat) (vs : List Value) (xs : List (List (List D))) (o : Option Nat) : OwnP := fun w N L R cs c =>
  vs.length = xs.length ∧ (∃ Q : Nat → Blocks, (∀ i x, Q i x → R x) ∧ (∀ i j x, i ≠ j → Q i x → ¬ Q j x) ∧ ∀ (i : Nat) (v : Value) (x : List (List D)), vs[i]? = some v → xs[i]? = some x → o ≠ some i → RepV P w N L T0 (.row true e1 x) v (Q i)) ∧
    (∀ i, o = some i → ∃ v, vs[i]? = some v ∧ cs = [v])
theorem InnerP.stable {e1 : Nat} {vs : List Value} {xs : List (List (List D))} {o : Option Nat} : StableO (InnerP P e1 vs xs o) := by
  intro w N L R cs c hNL h w' N' L' R' h1 h2 h3 h4 h5 h6 h7 h8
  obtain ⟨k1, ⟨Q, q1, q2, q3⟩, k3⟩ := h
  refine ⟨k1, ⟨Q, fun i x hx => h8 _ (q1 i x hx), q2, fun i v x hv hx ho => ?_⟩, k3⟩
  exact (q3 i v x hv hx ho).world h1 (fun b hb => h2 b (q1 i b hb)) hNL h3 h4 h5 (fun b o hb => h6 b o (q1 i b hb)) (fun b o hb => h7 b o (q1 i b hb))
def scs (vs : List Value) : List (List D) := vs.map fun v => [.sc v]
def RowsP (P : Program) (e0 e1 : Nat) (xs : List (List (List D))) : OwnP := fun w N L R cs c =>
  ∃ (vs : List Value) (Q0 Q1 : Blocks), (∀ x, Q0 x → R x ∧ ¬ Q1 x) ∧ (∀ x, Q1 x → R x) ∧ RepV P w N L T0 (.row true e0 (scs vs)) c Q0 ∧ InnerP P e1 vs xs none w N L Q1 [] (.bool true)
theorem RowsP.stable {e0 e1 : Nat} {xs : List (List (List D))} : StableO (RowsP P e0 e1 xs) := by
  intro w N L R cs c hNL h w' N' L' R' h1 h2 h3 h4 h5 h6 h7 h8
  obtain ⟨vs, Q0, Q1, k1, k2, k3, k4⟩ := h
  refine ⟨vs, Q0, Q1, fun x hx => ⟨h8 _ (k1 x hx).1, (k1 x hx).2⟩, fun x hx => h8 _ (k2 x hx), ?_, ?_⟩
  · exact k3.world h1 (fun b hb => h2 b (k1 b hb).1) hNL h3 h4 h5 (fun b o hb => h6 b o (k1 b hb).1) (fun b o hb => h7 b o (k1 b hb).1)
  · exact InnerP.stable w N L Q1 [] _ hNL k4 w' N' L' Q1 h1 (fun b hb => h2 b (k2 b hb)) h3 h4 h5 (fun b o hb => h6 b o (k2 b hb)) (fun b o hb => h7 b o (k2 b hb)) (fun _ h => h)
def ValP (v : Value) : OwnP := fun _ _ _ _ cs _ => cs = [v]
theorem ValP.stable {v : Value} : StableO (ValP v) := fun _ _ _ _ _ _ _ h _ _ _ _ _ _ _ _ _ _ _ _ => h
def EntX (P : Program) (E : Env) {X : Type} (J : X → Prop) (G : X → Env) : Prop := ∀ (w : World) (N L : Cells) (γ : Gh) (R : Loc → Blocks) (tmps : Array Value), Rel P w N L tmps γ R E → ∃ x, J x ∧ ∃ N' L' γ' R', Rel P w N' L' tmps γ' R' (G x) ∧ Later w N L (St R) w N' L' ∧ ∀ x, St R' x → St R x
section
variable {F : Fence} {n : Nat} {K : List Nat} {o : Oper} {E E' : Env} {τ : Nat → Option TI}
theorem AL.entX {ops : Array Oper} {l : List Oper} {Q : Env → Prop} {X : Type} {J : X → Prop} {G : X → Env} (he : EntX P E J G) (h : ∀ x, J x → AL P F n K ops l Q (G x)) : AL P F n K ops l Q E := by
  intro w N L γ R tmps ds hr hn
  obtain ⟨x, hx, N', L', γ', R', h1, h2, h3⟩ := he w N L γ R tmps hr
  refine wpListIn_mono (fun e a' w' hp => ?_) l _ _ (h x hx w N' L' γ' R' tmps ds h1 hn)
  obtain ⟨E2, N2, L2, γ2, R2, hq, hA⟩ := hp
  exact ⟨E2, N2, L2, γ2, R2, hq, (⟨h1, hn, rfl, fun _ _ => rfl, h2, fun x hx => .inl (h3 x hx)⟩ : At P n K w N L R tmps ds (G x) ⟨tmps, ds⟩ w N' L' γ' R').trans hA⟩
theorem AW.entX {c : Code} {Q : Exit → Env → Prop} {X : Type} {J : X → Prop} {G : X → Env} (he : EntX P E J G) (h : ∀ x, J x → AW P F n K c Q (G x)) : AW P F n K c Q E := by
  intro w N L γ R tmps ds hr hn
  obtain ⟨x, hx, N', L', γ', R', h1, h2, h3⟩ := he w N L γ R tmps hr
  refine wpIn_mono (h x hx w N' L' γ' R' tmps ds h1 hn) fun e a' w' hp => ?_
  obtain ⟨E2, N2, L2, γ2, R2, hq, hA⟩ := hp
  exact ⟨E2, N2, L2, γ2, R2, hq, (⟨h1, hn, rfl, fun _ _ => rfl, h2, fun x hx => .inl (h3 x hx)⟩ : At P n K w N L R tmps ds (G x) ⟨tmps, ds⟩ w N' L' γ' R').trans hA⟩
theorem Rel.fresh {w : World} {N L : Cells} {γ : Gh} {R : Loc → Blocks} {tmps : Array Value} (hr : Rel P w N L tmps γ R E) {t i : Nat} (hf : anyOf (.c t i) E = false) (c : Value) (hc : c.oneCell' = true) :
    Rel P w N L tmps (fun a b => if a = t ∧ b = i then some c else γ a b) (fun l => if l = .c t i then none_ else R l) ((.c t i, dead) :: E) ∧ ∀ x, St (fun l => if l = .c t i then none_ else R l) x → St R x := by
  have hT : ∀ l c', l ≠ .c t i → Tof tmps γ l = some c' → Tof tmps (fun a b => if a = t ∧ b = i then some c else γ a b) l = some c' := by
    intro l c' hne h
    cases l with
    | s a => exact h
    | c a b =>
      simp only [Tof]
      rw [if_neg (fun e => hne (by rw [e.1, e.2]))]
      exact h
  refine ⟨⟨fun l v hm => ?_, ?_, fun a b x hab h1 h2 => ?_, fun a x h1 => ?_, hr.NL, hr.Llt⟩, ?_⟩
  · rcases List.mem_cons.1 hm with h | hm
    · cases h
      exact ⟨c, by simp [Tof], rep_dead hc _⟩
    · obtain ⟨hne, hmen⟩ := anyOf_mem hf hm
      obtain ⟨c', q1, q2⟩ := hr.rep l v hm
      exact ⟨c', hT l c' hne q1, by simp only [if_neg hne]; exact q2.congrT hT hmen⟩
  · simp only [List.map_cons, List.nodup_cons]
    refine ⟨fun hm => ?_, hr.nd⟩
    obtain ⟨⟨l, v⟩, hm, e⟩ := List.mem_map.1 hm
    exact (anyOf_mem hf hm).1 e
  · split at h1
    · exact h1
    · split at h2
      · exact h2
      · exact hr.dis _ _ _ hab h1 h2
  · split at h1
    · exact h1.elim
    · exact hr.lt _ _ h1
  · rintro x ⟨l, hx⟩
    split at hx
    · exact hx.elim
    · exact ⟨l, hx⟩
theorem Ent.fresh (t i : Nat) (hf : anyOf (.c t i) E = false) : Ent P E ((.c t i, dead) :: E) := fun w N L γ R tmps hr => by
  obtain ⟨h1, h2⟩ := hr.fresh hf (.bool true) rfl
  exact ⟨N, L, _, _, h1, Later.refl .., h2⟩
theorem Rel.two {w : World} {N L : Cells} {γ : Gh} {R : Loc → Blocks} {tmps : Array Value} (hr : Rel P w N L tmps γ R E) {g t : Loc} (hgt : g ≠ t) {vg vt : V} {A B : Blocks} (hA : ∀ x, A x → R g x ∨ R t x) (hB : ∀ x, B x → R g x ∨ R t x) (hAB : ∀ x, A x → ¬ B x)
    (hg : ∀ c, Tof tmps γ g = some c → RepV P w N L (Tof tmps γ) vg c A) (ht : ∀ c, Tof tmps γ t = some c → RepV P w N L (Tof tmps γ) vt c B) :
    Rel P w N L tmps γ (fun l => if l = g then A else if l = t then B else R l) (VL.upd g vg (VL.upd t vt E)) ∧ ∀ x, St (fun l => if l = g then A else if l = t then B else R l) x → St R x := by
  have hnd : ((VL.upd t vt E).map Prod.fst).Nodup := by rw [upd_keys]; exact hr.nd
  have hkind : ∀ l x, (if l = g then A else if l = t then B else R l) x → (l = g ∧ A x) ∨ (l ≠ g ∧ l = t ∧ B x) ∨ (l ≠ g ∧ l ≠ t ∧ R l x) := by
    intro l x hx
    split at hx
    · exact .inl ⟨‹_›, hx⟩
    · split at hx
      · exact .inr (.inl ⟨‹_›, ‹_›, hx⟩)
      · exact .inr (.inr ⟨‹_›, ‹_›, hx⟩)
  have hone : ∀ l x, l ≠ g → l ≠ t → R l x → ¬ A x ∧ ¬ B x := by
    intro l x h1 h2 hx
    refine ⟨fun ha => ?_, fun hb => ?_⟩
    · rcases hA x ha with h | h
      · exact hr.dis _ _ _ h1 hx h
      · exact hr.dis _ _ _ h2 hx h
    · rcases hB x hb with h | h
      · exact hr.dis _ _ _ h1 hx h
      · exact hr.dis _ _ _ h2 hx h
  refine ⟨⟨fun l v hm => ?_, by rw [upd_keys]; exact hnd, fun a b x hab h1 h2 => ?_, fun a x h1 => ?_, hr.NL, hr.Llt⟩, ?_⟩
  · rcases upd_mem hnd hm with ⟨rfl, rfl, u0, h0⟩ | ⟨hm, hne⟩
    · rcases upd_mem hr.nd h0 with ⟨e, _⟩ | ⟨h0, _⟩
      · exact absurd e hgt
      · obtain ⟨c, q1, _⟩ := hr.rep _ _ h0
        refine ⟨c, q1, ?_⟩
        simp only [if_true]
        exact hg c q1
    · rcases upd_mem hr.nd hm with ⟨rfl, rfl, u0, h0⟩ | ⟨hm, hne2⟩
      · obtain ⟨c, q1, _⟩ := hr.rep _ _ h0
        refine ⟨c, q1, ?_⟩
        simp only [if_neg hne, if_true]
        exact ht c q1
      · obtain ⟨c, q1, q2⟩ := hr.rep _ _ hm
        refine ⟨c, q1, ?_⟩
        simp only [if_neg hne, if_neg hne2]
        exact q2
  · rcases hkind a x h1 with ⟨e1, k1⟩ | ⟨e0, e1, k1⟩ | ⟨e0, e1, k1⟩ <;> rcases hkind b x h2 with ⟨e2, k2⟩ | ⟨e3, e2, k2⟩ | ⟨e3, e2, k2⟩
    · exact hab (e1.trans e2.symm)
    · exact hAB x k1 k2
    · exact (hone b x e3 e2 k2).1 k1
    · exact hAB x k2 k1
    · exact hab (e1.trans e2.symm)
    · exact (hone b x e3 e2 k2).2 k1
    · exact (hone a x e0 e1 k1).1 k2
    · exact (hone a x e0 e1 k1).2 k2
    · exact hr.dis _ _ _ hab k1 k2
  · rcases hkind a x h1 with ⟨e1, k1⟩ | ⟨e0, e1, k1⟩ | ⟨e0, e1, k1⟩
    · rcases hA x k1 with h | h <;> exact hr.lt _ _ h
    · rcases hB x k1 with h | h <;> exact hr.lt _ _ h
    · exact hr.lt _ _ k1
  · rintro x ⟨l, hx⟩
    rcases hkind l x hx with ⟨e1, k1⟩ | ⟨e0, e1, k1⟩ | ⟨e0, e1, k1⟩
    · rcases hA x k1 with h | h <;> exact ⟨_, h⟩
    · rcases hB x k1 with h | h <;> exact ⟨_, h⟩
    · exact ⟨_, k1⟩
theorem two_done {w : World} {N L : Cells} {γ : Gh} {R R' : Loc → Blocks} {tmps : Array Value} (h : Rel P w N L tmps γ R' E' ∧ ∀ x, St R' x → St R x) : ∃ N' L' γ' R', Rel P w N' L' tmps γ' R' E' ∧ Later w N L (St R) w N' L' ∧ ∀ x, St R' x → St R x :=
  ⟨N, L, γ, R', h.1, Later.refl .., h.2⟩
theorem row_T0 {w : World} {N L : Cells} {T T' : Loc → Option Value} {m : Bool} {e : Nat} {xs : List (List D)} {c : Value} {R : Blocks} (h : RepV P w N L T (.row m e xs) c R) : RepV P w N L T' (.row m e xs) c R := h.congrN rfl
theorem row_one {w : World} {N L : Cells} {T : Loc → Option Value} {m : Bool} {e : Nat} {xs : List (List D)} {c : Value} {R : Blocks} (h : RepV P w N L T (.row m e xs) c R) : c.oneCell' = true := h.oneCell rfl
theorem Ent.innerNil (t i e1 : Nat) (hf : anyOf (.c t i) E = false) : Ent P E ((.c t i, .ob [] (InnerP P e1 [] [] none)) :: E) := fun w N L γ R tmps hr => by
  obtain ⟨h1, h2⟩ := hr.fresh hf (.bool true) rfl
  refine ⟨N, L, (fun a b => if a = t ∧ b = i then some (.bool true) else γ a b), _, ⟨fun l v hm => ?_, h1.nd, h1.dis, h1.lt, h1.NL, h1.Llt⟩, Later.refl .., h2⟩
  rcases List.mem_cons.1 hm with h | hm
  · cases h
    refine ⟨.bool true, by simp [Tof], ob_mk (cs := []) InnerP.stable hr.NL rfl rfl (fun i l hi => by simp at hi) ⟨rfl, ⟨fun _ => none_, fun _ _ h => h.elim, fun _ _ _ _ h => h.elim, fun i v x hv => by simp at hv⟩, fun i h => by cases h⟩⟩
  · exact h1.rep l v (.tail _ hm)
theorem EntX.valOf {l k k' : Loc} {e : Nat} {xs : List (List D)} (t i : Nat) (hl : look E l = some (.ref k)) (hk : own E k = some (k', .row true e xs)) (hne : xs ≠ []) (hf : anyOf (.c t i) E = false) :
    EntX P E (fun _ : Value => True) (fun v => (.c t i, .ob [k'] (ValP v)) :: VL.upd l (.d (.sc v)) E) := fun w N L γ R tmps hr => by
  obtain ⟨c, q1, q2, q3, q4⟩ := own_ok hr hk
  obtain ⟨c', r1, r2⟩ := hr.rep _ _ (look_mem hl)
  have hcc : c' = c := by
    cases r2 with
    | ref _ _ _ hT _ => rw [q1] at hT; exact (Option.some.inj hT).symm
  subst hcc
  have hsc : scal c' = true := by
    cases q3 with
    | row => rfl
    | rownil => exact absurd rfl hne
  have hr1 := hr.upd (l := l) (v := .d (.sc c')) (fun c2 h2 => by rw [r1] at h2; cases h2; exact .d _ _ _ (.sc _ hsc))
  have hf1 : anyOf (.c t i) (VL.upd l (.d (.sc c')) E) = false := by
    refine anyOf_iff.2 fun p hp => ?_
    obtain ⟨s, u⟩ := p
    rcases upd_mem hr.nd hp with ⟨rfl, rfl, u0, h0⟩ | ⟨h0, _⟩
    · exact ⟨(anyOf_mem hf h0).1, rfl⟩
    · exact anyOf_mem hf h0
  obtain ⟨h1, h2⟩ := hr1.fresh hf1 (.bool true) rfl
  refine ⟨c', trivial, N, L, (fun a b => if a = t ∧ b = i then some (.bool true) else γ a b), _, ⟨fun a v hm => ?_, h1.nd, h1.dis, h1.lt, h1.NL, h1.Llt⟩, Later.refl .., h2⟩
  rcases List.mem_cons.1 hm with h | hm
  · cases h
    have hkt : k' ≠ .c t i := (anyOf_mem hf (look_mem q4)).1
    refine ⟨.bool true, by simp [Tof], ob_mk (cs := [c']) ValP.stable hr.NL rfl rfl (fun j a hj => ?_) rfl⟩
    cases j with
    | zero =>
      simp at hj
      subst hj
      cases k' with
      | s a => exact q2
      | c a b =>
        simp only [Tof] at q2 ⊢
        rw [if_neg (fun e => hkt (by rw [e.1, e.2]))]
        exact q2
    | succ j => simp at hj
  · exact h1.rep a v (.tail _ hm)
theorem Ent.innerPush {g h k : Loc} {e1 : Nat} {vs : List Value} {xs : List (List (List D))} {v : Value} {x : List (List D)} (hg : look E g = some (.ob [] (InnerP P e1 vs xs none))) (hh : look E h = some (.ob [k] (ValP v))) (hk : look E k = some (.row true e1 x)) (hgk : lq g k = false) :
    Ent P E (VL.upd g (.ob [] (InnerP P e1 (vs ++ [v]) (xs ++ [x]) none)) (VL.upd k dead E)) := fun w N L γ R tmps hr => by
  obtain ⟨cg, g1, g2⟩ := hr.rep _ _ (look_mem hg)
  obtain ⟨ch, h1, h2⟩ := hr.rep _ _ (look_mem hh)
  obtain ⟨ck, k1, k2⟩ := hr.rep _ _ (look_mem hk)
  obtain ⟨cs, c1, c2, c3, c4⟩ := ob_get h2
  obtain rfl : cs = [v] := c4
  have hv : ck = v := by
    have := c2 0 k rfl
    rw [k1] at this
    exact Option.some.inj this
  subst hv
  obtain ⟨cs0, d1, d2, d3, d4⟩ := ob_get g2
  obtain rfl : cs0 = [] := List.eq_nil_of_length_eq_zero d1
  obtain ⟨e1', ⟨Q, q1, q2, q3⟩, _⟩ := d4
  have hd := hr.dis g k
  refine two_done (hr.two (lq_ne hgk) (vg := .ob [] (InnerP P e1 (vs ++ [ck]) (xs ++ [x]) none)) (vt := dead) (A := fun y => R g y ∨ R k y) (B := none_) (fun _ h => h) (fun _ h => h.elim) (fun _ _ h => h.elim) (fun c hc => ?_) (fun c hc => ?_))
  · rw [g1] at hc
    cases hc
    refine ob_mk (cs := []) InnerP.stable hr.NL d3 rfl (fun i l hi => by simp at hi) ⟨by simp [e1'], ⟨fun j => if j = vs.length then R k else Q j, fun i y hy => ?_, fun i j y hij hi hj => ?_, fun i v' x' hv hx _ => ?_⟩, fun i h => by cases h⟩
    · simp only at hy ⊢
      split at hy
      · exact .inr hy
      · exact .inl (q1 i y hy)
    · simp only at hi hj
      split at hi
      · split at hj
        · omega
        · exact hd y (lq_ne hgk) (q1 j y hj) hi
      · split at hj
        · exact hd y (lq_ne hgk) (q1 i y hi) hj
        · exact q2 i j y hij hi hj
    · rcases Nat.lt_or_ge i vs.length with hlt | hge
      · rw [List.getElem?_append_left hlt] at hv
        rw [List.getElem?_append_left (by omega)] at hx
        simp only [if_neg (show ¬ i = vs.length by omega)]
        exact q3 i v' x' hv hx (by simp)
      · rw [List.getElem?_append_right hge] at hv
        have hi : i = vs.length := by
          have := (List.getElem?_eq_some_iff.1 hv).1
          simp at this; omega
        subst hi
        rw [List.getElem?_append_right (by omega)] at hx
        simp at hv
        subst hv
        rw [e1'] at hx
        simp at hx
        subst hx
        simp only [if_true]
        exact row_T0 k2
  · exact rep_dead (by rw [k1] at hc; cases hc; exact row_one k2) _
theorem Ent.rowsPack {l g : Loc} {e0 e1 : Nat} {vs : List Value} {xs : List (List (List D))} (hl : look E l = some (.row true e0 (scs vs))) (hg : look E g = some (.ob [] (InnerP P e1 vs xs none))) (hlg : lq l g = false) :
    Ent P E (VL.upd l (.ob [] (RowsP P e0 e1 xs)) (VL.upd g dead E)) := fun w N L γ R tmps hr => by
  obtain ⟨cl, l1, l2⟩ := hr.rep _ _ (look_mem hl)
  obtain ⟨cg, g1, g2⟩ := hr.rep _ _ (look_mem hg)
  obtain ⟨cs0, d1, d2, d3, d4⟩ := ob_get g2
  obtain rfl : cs0 = [] := List.eq_nil_of_length_eq_zero d1
  refine two_done (hr.two (lq_ne hlg) (vg := .ob [] (RowsP P e0 e1 xs)) (vt := dead) (A := fun y => R l y ∨ R g y) (B := none_) (fun _ h => h) (fun _ h => h.elim) (fun _ _ h => h.elim) (fun c hc => ?_) (fun c hc => ?_))
  · rw [l1] at hc
    cases hc
    refine ob_mk (cs := []) RowsP.stable hr.NL (row_one l2) rfl (fun i l hi => by simp at hi) ⟨vs, R l, R g, fun x hx => ⟨.inl hx, hr.dis _ _ _ (lq_ne hlg) hx⟩, fun x hx => .inr hx, row_T0 l2, d4⟩
  · exact rep_dead (by rw [g1] at hc; cases hc; exact d3) _
theorem EntX.rowsOpen {l : Loc} {e0 e1 : Nat} {xs : List (List (List D))} (t i : Nat) (hl : look E l = some (.ob [] (RowsP P e0 e1 xs))) (hf : anyOf (.c t i) E = false) :
    EntX P E (fun vs : List Value => vs.length = xs.length) (fun vs => VL.upd l (.row true e0 (scs vs)) (VL.upd (.c t i) (.ob [] (InnerP P e1 vs xs none)) ((.c t i, dead) :: E))) := fun w N L γ R tmps hr => by
  obtain ⟨h1, h2⟩ := hr.fresh hf (.bool true) rfl
  have hne : l ≠ .c t i := (anyOf_mem hf (look_mem hl)).1
  obtain ⟨c, q1, q2⟩ := h1.rep l _ (.tail _ (look_mem hl))
  obtain ⟨cs0, d1, d2, d3, vs, Q0, Q1, k1, k2, k3, k4⟩ := ob_get q2
  have hRl : (if l = .c t i then none_ else R l) = R l := if_neg hne
  have key := h1.two hne (vg := .row true e0 (scs vs)) (vt := .ob [] (InnerP P e1 vs xs none)) (A := Q0) (B := Q1) (fun x hx => .inl (k1 x hx).1) (fun x hx => .inl (k2 x hx)) (fun x hx => (k1 x hx).2) (fun c' hc => by
    rw [q1] at hc
    cases hc
    exact row_T0 k3) (fun c' hc => by
    have : c' = .bool true := by simp [Tof] at hc; exact hc.symm
    subst this
    exact ob_mk (cs := []) InnerP.stable hr.NL rfl rfl (fun i l hi => by simp at hi) k4)
  exact ⟨vs, k4.1, N, L, _, _, key.1, Later.refl .., fun x hx => h2 x (key.2 x hx)⟩
theorem Ent.innerPull {g t : Loc} {e1 i : Nat} {vs : List Value} {xs : List (List (List D))} {v : Value} {x : List (List D)} (hg : look E g = some (.ob [] (InnerP P e1 vs xs none))) (ht : look E t = some (.d (.sc v))) (hv : vs[i]? = some v) (hx : xs[i]? = some x) (hgt : lq g t = false) :
    Ent P E (VL.upd g (.ob [t] (InnerP P e1 vs xs (some i))) (VL.upd t (.row true e1 x) E)) := fun w N L γ R tmps hr => by
  obtain ⟨cg, g1, g2⟩ := hr.rep _ _ (look_mem hg)
  obtain ⟨ct, t1, t2⟩ := hr.rep _ _ (look_mem ht)
  obtain rfl : ct = v := scV t2
  obtain ⟨cs0, d1, d2, d3, d4⟩ := ob_get g2
  obtain ⟨e1', ⟨Q, q1, q2, q3⟩, _⟩ := d4
  refine two_done (hr.two (lq_ne hgt) (vg := .ob [t] (InnerP P e1 vs xs (some i))) (vt := .row true e1 x) (A := fun y => R g y ∧ ¬ Q i y) (B := Q i) (fun y h => .inl h.1) (fun y h => .inl (q1 i y h)) (fun y h => h.2) (fun c hc => ?_) (fun c hc => ?_))
  · rw [g1] at hc
    cases hc
    refine ob_mk (cs := [ct]) InnerP.stable hr.NL d3 rfl (fun j l hj => ?_) ⟨e1', ⟨fun j => if j = i then none_ else Q j, fun j y hy => ?_, fun j k y hjk hj hk => ?_, fun j v' x' hv' hx' ho => ?_⟩, fun j h => ?_⟩
    · cases j with
      | zero => simp at hj; subst hj; exact t1
      | succ j => simp at hj
    · simp only at hy ⊢
      split at hy
      · exact hy.elim
      · exact ⟨q1 j y hy, fun hh => q2 j i y (by assumption) hy hh⟩
    · simp only at hj hk
      split at hj
      · exact hj
      · split at hk
        · exact hk
        · exact q2 j k y hjk hj hk
    · have hji : j ≠ i := fun e => ho (by rw [e])
      simp only [if_neg hji]
      exact q3 j v' x' hv' hx' (by simp)
    · cases h
      exact ⟨ct, hv, rfl⟩
  · rw [t1] at hc
    cases hc
    exact row_T0 (q3 i _ x hv hx (by simp))
theorem Ent.innerPut {g t t' : Loc} {e1 i : Nat} {vs : List Value} {xs : List (List (List D))} {x : List (List D)} (hg : look E g = some (.ob [t] (InnerP P e1 vs xs (some i)))) (ht : own E t = some (t', .row true e1 x)) (hgt : lq g t' = false) :
    Ent P E (VL.upd g (.ob [] (InnerP P e1 vs (xs.set i x) none)) (VL.upd t' dead E)) := fun w N L γ R tmps hr => by
  obtain ⟨cg, g1, g2⟩ := hr.rep _ _ (look_mem hg)
  obtain ⟨ct, t1, t2, t3, t4⟩ := own_ok hr ht
  obtain ⟨cs0, d1, d2, d3, d4⟩ := ob_get g2
  obtain ⟨e1', ⟨Q, q1, q2, q3⟩, q4⟩ := d4
  obtain ⟨v, hv, rfl⟩ := q4 i rfl
  have hcv : ct = v := by
    have := d2 0 t rfl
    rw [t1] at this
    exact Option.some.inj this
  subst hcv
  refine two_done (hr.two (lq_ne hgt) (vg := .ob [] (InnerP P e1 vs (xs.set i x) none)) (vt := dead) (A := fun y => R g y ∨ R t' y) (B := none_) (fun _ h => h) (fun _ h => h.elim) (fun _ _ h => h.elim) (fun c hc => ?_) (fun c hc => ?_))
  · rw [g1] at hc
    cases hc
    refine ob_mk (cs := []) InnerP.stable hr.NL d3 rfl (fun i l hi => by simp at hi) ⟨by simpa using e1', ⟨fun j => if j = i then R t' else Q j, fun j y hy => ?_, fun j k y hjk hj hk => ?_, fun j v' x' hv' hx' _ => ?_⟩, fun i h => by cases h⟩
    · simp only at hy ⊢
      split at hy
      · exact .inr hy
      · exact .inl (q1 j y hy)
    · simp only at hj hk
      split at hj
      · split at hk
        · omega
        · exact hr.dis _ _ _ (lq_ne hgt) (q1 k y hk) hj
      · split at hk
        · exact hr.dis _ _ _ (lq_ne hgt) (q1 j y hj) hk
        · exact q2 j k y hjk hj hk
    · by_cases e : j = i
      · subst e
        rw [hv] at hv'
        cases hv'
        rw [List.getElem?_set_self (by have := (List.getElem?_eq_some_iff.1 hv).1; omega)] at hx'
        cases hx'
        simp only [if_true]
        exact row_T0 t3
      · rw [List.getElem?_set_ne (fun h => e h.symm)] at hx'
        simp only [if_neg e]
        exact q3 j v' x' hv' hx' (fun h => e (Option.some.inj h).symm)
  · exact rep_dead (by rw [t2] at hc; cases hc; exact row_one t3) _
end
end Go.Proofs.VL
