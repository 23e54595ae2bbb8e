import Derived.Test.YtndffogfaocchaaGreatW10
import Derived.RangeFuncCalls
set_option linter.unusedVariables false
set_option linter.unusedSimpArgs false
set_option linter.unusedSectionVars false
namespace Go.Proofs.VL
open Go Go.RowKit
variable {P : Program}
section
variable {F : Fence} {n : Nat} {K : List Nat} {o : Oper} {E E' : Env} {τ : Nat → Option TI}
theorem OpF.mapEntry (hF : Wide F) {t u : Nat} {kx : Operand} (ho : o.op = .mapEntry t (.tmp u) kx) {ti ui : TI} (hti : mkTI P t = some ti) {kt e : Nat} (hk : ti.kind = .map kt e) (hui : mkTI P e = some ui) (hzs : ZShape P e ui) {agg : Bool} {kd : List IntKind} (KL : KLaw P kt agg kd)
    {l : Loc} {tm : Nat} {m : IMap} (hm : own E (.s u) = some (l, .mp tm (mkE kd m))) (hlk : look E l = some (.mp tm (mkE kd m))) (htk : mpK tm = agg) (htv : mpV tm = ui.agg) {ns : List Int} (hkey : copyO E kx = some (keyV agg kd ns)) (hns : ns.length = kd.length) (hlen : ∀ p ∈ m, p.1.length = kd.length)
    {ds : List D} (hds : (lookI ns m).getD ui.zero = ds) {v : V} (hv : ofCells ui (ds.map .d) = some v) {d : Nat} (hd : o.dst = some d) (hok : okD n K d (.tu [v]) = true) (ha : anyOf (.s d) E = false)
    (hE' : force ((.s d, .tu [v, Iv .i64 (idxI ns m)]) :: VL.upd l (.mp tm (mkE kd (insI ns ui.zero m))) E) some = some E') : OpF P F n K o E E' := by
  intro X hn hX _
  rw [force_eq] at hE'
  have hE' := Option.some.inj hE'
  have hs := Sub.right hn
  have h1 := OpTo.mapEntry (P := P) (n := n) (K := K) (E := X ++ E) hF ho hti hk hui hzs KL (own_mono hs hm) htk htv (copyO_mono hs hkey) hns hlen hds hv hd hok (anyOf_iff.2 fun p hp => by
    rcases List.mem_append.1 hp with hp | hp
    · exact anyOf_iff.1 (hX d hd) p hp
    · exact anyOf_iff.1 ha p hp)
  rw [upd_right hn hlk] at h1
  refine h1.permR ?_
  rw [← hE']
  exact List.perm_middle
theorem leftI_nil (es : List (List D × List D)) : leftI es #[] = es := by
  simp only [leftI]
  rw [List.filter_eq_self.2 (fun _ _ => by simp)]
  simp
def leftF (k : Nat) (es : List (List D × List D)) (seen : Array Nat) : List (List D × List D) := ((es.zipIdx k).filter (fun p => !seen.contains p.2)).map (·.1)
theorem leftF_other (seen : Array Nat) (i : Nat) : ∀ (es : List (List D × List D)) (k : Nat), i < k → leftF k es (seen.push i) = leftF k es seen
  | [], k, h => rfl
  | e :: es, k, h => by
    have hne : (k == i) = false := by simp; omega
    have ih := leftF_other seen i es (k + 1) (by omega)
    simp only [leftF, List.zipIdx_cons, List.filter_cons, contains_push, hne, Bool.or_false] at ih ⊢
    split
    · simp only [List.map_cons]; rw [ih]
    · exact ih
theorem leftF_push (seen : Array Nat) (i : Nat) (hs : seen.contains i = false) {p : List D × List D} : ∀ (es : List (List D × List D)) (k j : Nat), i = k + j → es[j]? = some p → (leftF k es seen).Perm (p :: leftF k es (seen.push i))
  | [], k, j, hi, h => by simp at h
  | e :: es, k, 0, hi, h => by
    simp at h
    subst h
    have hk : i = k := by omega
    subst hk
    have ih := leftF_other seen i es (i + 1) (by omega)
    simp only [leftF, List.zipIdx_cons, List.filter_cons, contains_push, hs, beq_self_eq_true, Bool.or_true, Bool.not_true, Bool.not_false, if_true, Bool.false_eq_true, if_false, List.map_cons] at ih ⊢
    rw [ih]
  | e :: es, k, j + 1, hi, h => by
    have hne : (k == i) = false := by simp; omega
    have ih := leftF_push seen i hs es (k + 1) j (by omega) (by simpa using h)
    simp only [leftF, List.zipIdx_cons, List.filter_cons, contains_push, hne, Bool.or_false] at ih ⊢
    split
    · simp only [List.map_cons]
      exact (ih.cons e).trans (List.Perm.swap ..)
    · exact ih
theorem leftI_push {es : List (List D × List D)} {seen : Array Nat} {i : Nat} {p : List D × List D} (hs : seen.contains i = false) (h : es[i]? = some p) : (leftI es seen).Perm (p :: leftI es (seen.push i)) :=
  leftF_push seen i hs es 0 i (by omega) h
theorem Rel.drewW {w : World} {N L : Cells} {γ : Gh} {R : Loc → Blocks} {tmps : Array Value} (hr : Rel P w N L tmps γ R E) : Rel P w.drew N L tmps γ R E := hr.drew
theorem OpTo.range (hF : Wide F) {t u : Nat} (ho : o.op = .range t (.tmp u)) {ti : TI} (hti : mkTI P t = some ti) {kt e : Nat} (hk : ti.kind = .map kt e) {l : Loc} {tm : Nat} {es : List (List D × List D)} (hm : own E (.s u) = some (l, .mp tm es)) {d : Nat} (hd : o.dst = some d) (hok : okD n K d (.it tm es none) = true) (ha : anyOf (.s d) E = false)
    (hE' : force ((.s d, .it tm es none) :: VL.upd l dead E) some = some E') : OpTo P F n K o E E' := by
  intro w N L γ R tmps ds hr hn
  rw [force_eq] at hE'
  obtain rfl := Option.some.inj hE'
  simp only [okD, Bool.and_eq_true, Bool.not_eq_true', Nat.blt_eq] at hok
  obtain ⟨⟨hdn, hdK⟩, _⟩ := hok
  have hdK : d ∉ K := by simpa using hdK
  obtain ⟨c, h1, h2, h3, h4⟩ := own_ok hr hm
  have ht := mapT_of hti hk
  have hld : l ≠ .s d := (anyOf_mem ha (look_mem h4)).1
  cases h3 with
  | mp _ _ b ents clock _ hb hrep hst hRb =>
    have hrun : (execOp (Act.eval ⟨tmps, ds⟩) o).run P w = .ok (.value (.pointer (some ⟨w.heap.size, 0, none⟩))) (w.alloc (.mapIter (some b) clock #[] clock)) := by
      simp only [execOp, ho, eval_tmp h1]
      simp [Instr.range, run_underlying ht, MapKept.run_getObj_map hb]
    refine wpIn_run hF (by simp [ho]) ?_
    rw [hrun]
    show Mid P n K w N L R tmps ds _ (Act.put ⟨tmps, ds⟩ o.dst _) _
    rw [hd]
    have hblt : b < w.heap.size := hr.lt _ _ hRb
    have ha' := hr.alloc (.mapIter (some b) clock #[] clock)
    let R' : Loc → Blocks := fun l' x => if l' = .s d then (x = w.heap.size ∨ x = b) else (R l' x ∧ x ≠ b)
    have hnd1 : ((VL.upd l dead E).map Prod.fst).Nodup := by rw [upd_keys]; exact hr.nd
    have hR'd : ∀ x, R' (.s d) x ↔ (x = w.heap.size ∨ x = b) := fun x => by simp [R']
    have hR'o : ∀ l', l' ≠ .s d → ∀ x, R' l' x ↔ (R l' x ∧ x ≠ b) := fun l' h x => by simp [R', h]
    have hrel : Rel P (w.alloc (.mapIter (some b) clock #[] clock)) N L tmps γ (fun l' => if l' = .s d then R' (.s d) else R' l') (VL.upd l dead E) := by
      refine ⟨fun s u' hmem => ?_, hnd1, fun a a' x hab hxa hxb => ?_, fun l' x hx => ?_, hr.NL, ha'.Llt⟩
      · rcases upd_mem hr.nd hmem with ⟨rfl, rfl, _⟩ | ⟨hmem, hne⟩
        · exact ⟨_, h2, rep_dead rfl _⟩
        · obtain ⟨cu, m1, m2⟩ := ha'.rep _ _ hmem
          refine ⟨cu, m1, ?_⟩
          have hsd : s ≠ .s d := (anyOf_mem ha hmem).1
          rw [if_neg hsd]
          refine m2.more (fun x hx => (hR'o s hsd x).2 ⟨hx, fun e => ?_⟩)
          subst e
          exact hr.dis _ _ _ hne hx hRb
      · have key : ∀ a, (if a = .s d then R' (.s d) else R' a) x → (a = .s d ∧ (x = w.heap.size ∨ x = b)) ∨ (a ≠ .s d ∧ R a x ∧ x ≠ b) := by
          intro a hx
          by_cases e : a = .s d
          · rw [if_pos e] at hx; exact .inl ⟨e, (hR'd x).1 hx⟩
          · rw [if_neg e] at hx; exact .inr ⟨e, (hR'o a e x).1 hx⟩
        rcases key a hxa with ⟨e1, k1⟩ | ⟨e1, k1, k1'⟩ <;> rcases key a' hxb with ⟨e2, k2⟩ | ⟨e2, k2, k2'⟩
        · exact hab (e1.trans e2.symm)
        · rcases k1 with k1 | k1
          · have := hr.lt _ _ k2; omega
          · exact k2' k1
        · rcases k2 with k2 | k2
          · have := hr.lt _ _ k1; omega
          · exact k1' k2
        · exact hr.dis _ _ _ hab k1 k2
      · by_cases e : l' = .s d
        · simp only [e, if_true] at hx
          rcases (hR'd x).1 hx with h | h
          · simp; omega
          · simp; omega
        · rw [if_neg e] at hx
          have := hr.lt _ _ ((hR'o l' e x).1 hx).1
          simp; omega
    have hput := hrel.put (d := d) (v := .it tm es none) (c := .pointer (some ⟨w.heap.size, 0, none⟩)) (by omega) rfl (by
      simp only [if_true]
      refine .it tm es none w.heap.size b ents clock #[] es _ (heap_alloc_at w _) ((heap_alloc_old w _ hblt).trans hb) (by omega) (hrep.world (fun _ _ h => h) (fun b' o' v hN hv => (keeps_alloc w _ L hr.Llt) b' o' v (hr.NL _ _ hN) hv)) hst ?_ (fun p h => by cases h) ((hR'd _).2 (.inl rfl)) ((hR'd _).2 (.inr rfl))
      rw [leftI_nil])
    rw [show VL.put (.s d) (.it tm es none) (VL.upd l dead E) = (.s d, .it tm es none) :: VL.upd l dead E by simp [VL.put, fresh_upd hr.nd ha (v := dead) rfl]] at hput
    refine ⟨_, N, L, γ, _, rfl, hput, by simp [Act.put, hn], rfl, fun k hk => ?_, later_alloc w _ N L _ hr.Llt, ?_⟩
    · have : k ≠ d := by rintro rfl; exact hdK hk
      simp [Act.put, Array.getElem?_setIfInBounds_ne (Ne.symm this)]
    · rintro x ⟨l', hx⟩
      by_cases e : l' = .s d
      · simp only [e, if_true] at hx
        rcases (hR'd x).1 hx with h | h
        · exact .inr (by omega)
        · exact .inl ⟨_, h ▸ hRb⟩
      · rw [if_neg e] at hx
        exact .inl ⟨_, ((hR'o l' e x).1 hx).1⟩
def cvV (agg : Bool) (ds : List D) : V := match agg with | true => .ag (ds.map .d) | false => (match ds with | [d] => .d d | _ => .kt)
theorem cvV_ok {w : World} {N L : Cells} {T : Loc → Option Value} {agg : Bool} {ds : List D} {c : Value} (hc : isAggV c = agg) (hl : ds.length = c.cells.size) (h : ∀ (j : Nat) (d : D), ds[j]? = some d → RepD w N d (c.cells.getD j undef)) (S : Blocks) : RepV P w N L T (cvV agg ds) c S := by
  cases agg with
  | true =>
    cases c <;> simp [isAggV] at hc
    rename_i cs
    simp only [Value.cells] at hl h
    refine .ag _ cs S (by simpa using hl) (fun i v hi => ?_) (fun i v hi => ?_)
    · simp only [List.getElem?_map, Option.map_eq_some_iff] at hi
      obtain ⟨d, _, rfl⟩ := hi; rfl
    · simp only [List.getElem?_map, Option.map_eq_some_iff] at hi
      obtain ⟨d, hd, rfl⟩ := hi
      exact .d _ _ _ (h i d hd)
  | false =>
    have hcc : c.cells = #[c] := by cases c <;> first | rfl | (simp [isAggV] at hc)
    rw [hcc] at hl h
    match ds, hl with
    | [d], _ =>
      have := h 0 d rfl
      exact .d _ _ _ this
theorem setBlock_eq (w : World) (r : Nat) (o : Obj) : ChangeMaps.setBlock w r o = putHeap w r o := rfl
theorem AL.next (hF : Wide F) {ops : Array Oper} {l : List Oper} {Q : Env → Prop} {u : Nat} (ho : o.op = .next (.tmp u) false) (hg : o.guard = none) {d : Nat} (hd : o.dst = some d) {tm : Nat} {todo : List (List D × List D)} {cur : Option (List D × List D)} (hlk : look E (.s u) = some (.it tm todo cur))
    (hok : okD n K d (.tu []) = true) (ha : anyOf (.s d) E = false)
    (h0 : todo = [] → AL P F n K ops l Q ((.s d, .tu [.d (.sc (.bool false))]) :: E))
    (h1 : ∀ p rest, todo.Perm (p :: rest) → AL P F n K ops l Q ((.s d, .tu [.d (.sc (.bool true)), cvV (mpK tm) p.1, cvV (mpV tm) p.2]) :: VL.upd (.s u) (.it tm rest (some p)) E)) : AL P F n K ops (o :: l) Q E := by
  intro w N L γ R tmps ds hr hn
  simp only [okD, Bool.and_eq_true, Bool.not_eq_true', Nat.blt_eq] at hok
  obtain ⟨⟨hdn, hdK⟩, _⟩ := hok
  have hdK : d ∉ K := by simpa using hdK
  simp only [wpListIn, Region.wanted, hg, if_true]
  have hud : Loc.s u ≠ .s d := (anyOf_mem ha (look_mem hlk)).1
  obtain ⟨c, t1, t2⟩ := hr.rep _ _ (look_mem hlk)
  cases t2 with
  | it _ _ _ rb mb ents clock seen es _ hrb hmb hne hrep hst htodo hcur hR1 hR2 =>
    have hborn : ∀ x ∈ ents.toList, x.born < clock := by
      intro x hx
      obtain ⟨i, hi⟩ := List.getElem?_of_mem hx
      rw [hst.2 i x hi, hst.1]
      exact (List.getElem?_eq_some_iff.1 hi).1
    refine wpIn_mono_op (next := fun a1 w1 => (todo = [] ∧ Mid P n K w N L R tmps ds (· = (.s d, .tu [.d (.sc (.bool false))]) :: E) a1 w1) ∨ ∃ p rest, todo.Perm (p :: rest) ∧ Mid P n K w N L R tmps ds (· = (.s d, .tu [.d (.sc (.bool true)), cvV (mpK tm) p.1, cvV (mpV tm) p.2]) :: VL.upd (.s u) (.it tm rest (some p)) E) a1 w1) (Q := fun _ _ _ => False) ?_ (fun a1 w1 hm => ?_) (fun _ _ _ h => h.elim)
    · refine wpIn_run hF (by simp [ho]) ?_
      have hexec : ∀ (v : Value) (w' : World), (Instr.next (.pointer (some ⟨rb, 0, none⟩)) false o.type).run P w = .ok v w' → (execOp (Act.eval ⟨tmps, ds⟩) o).run P w = .ok (.value v) w' := by
        intro v w' h
        simp only [execOp, ho, eval_tmp t1]
        simp [h]
      rcases run_next_at w o.type rb mb clock clock seen ents clock hrb hmb hborn (Nat.le_refl _) with ⟨q1, q2⟩ | ⟨en, q1, w1, q2, q3⟩
      · rw [hexec _ _ q2]
        refine .inl ⟨?_, ?_⟩
        · have hall := all_seen ents seen q1
          have : leftI es seen = [] := by
            simp only [leftI, List.map_eq_nil_iff, List.filter_eq_nil_iff]
            rintro ⟨p, i⟩ hp
            have hi : i < ents.toList.length := by
              rw [hrep.1]
              exact (List.mem_zipIdx_iff_getElem?.1 hp |> fun h => (List.getElem?_eq_some_iff.1 h).1)
            have hb := hst.2 i ents.toList[i] (List.getElem?_eq_getElem hi)
            have := hall ents.toList[i] (List.getElem_mem hi)
            rw [hb] at this
            rw [show seen.contains (p, i).2 = true from this]
            decide
          rw [this] at htodo
          exact htodo.eq_nil
        · have hput := hr.put (d := d) (v := .tu [.d (.sc (.bool false))]) (c := .tuple #[.bool false]) (by omega) rfl (.tu _ _ _ rfl (fun i v hi => by
            cases i with
            | zero => simp at hi; subst hi; exact .d _ _ _ (.sc _ rfl)
            | succ i => simp at hi))
          rw [show VL.put (.s d) (.tu [.d (.sc (.bool false))]) E = (.s d, .tu [.d (.sc (.bool false))]) :: E by simp [VL.put, ha]] at hput
          rw [hd]
          refine ⟨_, N, L, γ, R, rfl, hput, by simp [Act.put, hn], rfl, fun k hk => ?_, Later.refl .., fun _ h => .inl h⟩
          have : k ≠ d := by rintro rfl; exact hdK hk
          simp [Act.put, Array.getElem?_setIfInBounds_ne (Ne.symm this)]
      · rw [hexec _ _ q3]
        obtain ⟨m1, m2⟩ := mem_left q1
        obtain ⟨i, hi⟩ := List.getElem?_of_mem m1
        have hbi : en.born = i := hst.2 i en hi
        rw [hbi] at m2 q3
        have hil : i < es.length := by rw [← hrep.1]; exact (List.getElem?_eq_some_iff.1 hi).1
        obtain ⟨p, hp⟩ : ∃ p, es[i]? = some p := ⟨_, List.getElem?_eq_getElem hil⟩
        obtain ⟨⟨k1, k2⟩, ⟨k3, k4⟩, k5, k6⟩ := hrep.2 i en p.1 p.2 hi hp
        refine .inr ⟨p, leftI es (seen.push i), htodo.trans (leftI_push m2 hp), ?_⟩
        have hw1 : w1.heap = w.heap ∧ w1.os = w.os ∧ w1.tape = w.tape ∧ w1.output = w.output := by rcases q2 with rfl | rfl <;> exact ⟨rfl, rfl, rfl, rfl⟩
        have hr1 : Rel P w1 N L tmps γ R E := by rcases q2 with rfl | rfl; exact hr; exact hr.drewW
        rw [hbi, setBlock_eq]
        have hrb1 : w1.heap[rb]? = some (.mapIter (some mb) clock seen clock) := by rw [hw1.1]; exact hrb
        have hmb1 : w1.heap[mb]? = some (.map ents clock) := by rw [hw1.1]; exact hmb
        have hoth : ∀ b', b' ≠ rb → (putHeap w1 rb (.mapIter (some mb) clock (seen.push i) clock)).heap[b']? = w.heap[b']? := fun b' hne => by rw [putHeap_ne _ hne, hw1.1]
        have hkeepA : ∀ C : Cells, Keeps C w (putHeap w1 rb (.mapIter (some mb) clock (seen.push i) clock)) := fun C b' o' x hl' hx => by
          by_cases e : b' = rb
          · subst e
            simp only [World.cell?, hrb] at hx
            cases hx
          · rw [cell_of_heap (hoth b' e)]; exact hx
        have hsz : (putHeap w1 rb (.mapIter (some mb) clock (seen.push i) clock)).heap.size = w.heap.size := by simp [putHeap, hw1.1]
        have hrel : Rel P (putHeap w1 rb (.mapIter (some mb) clock (seen.push i) clock)) N L tmps γ R (VL.upd (.s u) (.it tm (leftI es (seen.push i)) (some p)) E) := by
          refine ⟨fun s u' hmem => ?_, by rw [upd_keys]; exact hr.nd, hr.dis, fun l x hx => by rw [hsz]; exact hr.lt _ _ hx, hr.NL, fun b o hl => by rw [hsz]; exact hr.Llt b o hl⟩
          rcases upd_mem hr.nd hmem with ⟨rfl, rfl, _⟩ | ⟨hmem, hne'⟩
          · exact ⟨_, t1, .it tm _ _ rb mb ents clock (seen.push i) es _ (putHeap_at hrb1 _) (by rw [putHeap_ne _ (Ne.symm hne)]; exact hmb1) hne (hrep.world (fun _ _ h => h) (hkeepA N)) hst (.refl _) (fun p' hp' => by cases hp'; exact ⟨i, by simp, hp⟩) hR1 hR2⟩
          · obtain ⟨cu, n1, n2⟩ := hr.rep _ _ hmem
            exact ⟨cu, n1, n2.world (by rw [hsz]; exact Nat.le_refl _) (fun b' hb' => hoth b' (by rintro rfl; exact hr.dis _ _ _ hne' hb' hR1)) hr.NL (hkeepA L) (fun _ _ h => h) (fun _ _ h => h) (fun _ _ _ h => h) (fun _ _ _ h => h)⟩
        have hmen : ∀ (agg : Bool) (xs : List D), (cvV agg xs).men (.s d) = false := by
          intro agg xs
          cases agg with
          | true =>
            simp only [cvV, V.men]
            induction xs with
            | nil => rfl
            | cons x xs ih => simp [mens, V.men, ih]
          | false =>
            simp only [cvV]
            split <;> rfl
        have hput := hrel.put (d := d) (v := .tu [.d (.sc (.bool true)), cvV (mpK tm) p.1, cvV (mpV tm) p.2]) (c := .tuple #[.bool true, en.key, en.val]) (by omega) (by simp [V.men, mens, hmen]) (.tu _ _ _ rfl (fun j v hj => by
          match j with
          | 0 => simp at hj; subst hj; exact .d _ _ _ (.sc _ rfl)
          | 1 => simp at hj; subst hj; exact cvV_ok k5 k1 (fun j d hj => (k2 j d hj).mono (fun _ _ h => h) (hkeepA N)) none_
          | 2 => simp at hj; subst hj; exact cvV_ok k6 k3 (fun j d hj => (k4 j d hj).mono (fun _ _ h => h) (hkeepA N)) none_
          | j + 3 => simp at hj))
        rw [show VL.put (.s d) (.tu [.d (.sc (.bool true)), cvV (mpK tm) p.1, cvV (mpV tm) p.2]) (VL.upd (.s u) (.it tm (leftI es (seen.push i)) (some p)) E) = (.s d, .tu [.d (.sc (.bool true)), cvV (mpK tm) p.1, cvV (mpV tm) p.2]) :: VL.upd (.s u) (.it tm (leftI es (seen.push i)) (some p)) E by simp [VL.put, fresh_upd hr.nd ha (v := .it tm (leftI es (seen.push i)) (some p)) rfl]] at hput
        rw [hd]
        refine ⟨_, N, L, γ, R, rfl, hput, by simp [Act.put, hn], rfl, fun k hk => ?_, ⟨hw1.2.1, hw1.2.2.1, hw1.2.2.2, by rw [hsz]; exact Nat.le_refl _, fun b' _ hS => hoth b' (by rintro rfl; exact hS ⟨_, hR1⟩), hkeepA L, fun _ _ h => h, fun _ _ h => h, fun _ _ h => .inl h, fun _ _ h => .inl h⟩, fun _ h => .inl h⟩
        have : k ≠ d := by rintro rfl; exact hdK hk
        simp [Act.put, Array.getElem?_setIfInBounds_ne (Ne.symm this)]
    · rcases hm with ⟨e, E1, N1, L1, γ1, R1, rfl, hA⟩ | ⟨p, rest, e, E1, N1, L1, γ1, R1, rfl, hA⟩
      · exact hA.continueL (h0 e)
      · exact hA.continueL (h1 p rest e)
theorem OpM.entry (hF : Wide F) {u : Nat} (ho : o.op = .entry (.tmp u)) {tm : Nat} {todo : List (List D × List D)} {p : List D × List D} (hlk : look E (.s u) = some (.it tm todo (some p))) {d : Nat} (hd : o.dst = some d)
    (hok : okD n K d (.tu [cvV (mpK tm) p.1, cvV (mpV tm) p.2]) = true) : OpM P F n K o E d (.tu [cvV (mpK tm) p.1, cvV (mpV tm) p.2]) :=
  .pure hF (by simp [ho]) hd hok fun E' hs w N L γ R tmps ds hr hn => by
    obtain ⟨c, t1, t2⟩ := hr.rep _ _ (look_mem (hs _ _ hlk))
    cases t2 with
    | it _ _ _ rb mb ents clock seen es _ hrb hmb hne hrep hst htodo hcur hR1 hR2 =>
      obtain ⟨i, hi1, hi2⟩ := hcur p rfl
      have hil : i < ents.toList.length := by rw [hrep.1]; exact (List.getElem?_eq_some_iff.1 hi2).1
      have hen := List.getElem?_eq_getElem hil
      obtain ⟨⟨k1, k2⟩, ⟨k3, k4⟩, k5, k6⟩ := hrep.2 i _ p.1 p.2 hen hi2
      have hb := hst.2 i _ hen
      have hfind : ents.find? (fun e => e.born == i) = some ents.toList[i] := by
        rw [← Array.find?_toList]
        have hnd : (ents.toList.map (·.born)).Nodup := by
          have e : ents.toList.map (·.born) = List.range ents.toList.length := by
            apply List.ext_getElem
            · simp
            · intro a h1 h2
              simp only [List.length_map] at h1
              simp only [List.getElem_map, List.getElem_range]
              exact hst.2 a _ (List.getElem?_eq_getElem h1)
          rw [e]
          exact List.nodup_range
        have := find_born ents.toList[i] ents.toList hnd (List.getElem_mem hil)
        rw [hb] at this
        exact this
      have hrun : (Instr.entry (.pointer (some ⟨rb, 0, none⟩))).run P w = .ok (.tuple #[ents.toList[i].key, ents.toList[i].val]) w := by
        simp only [Instr.entry, getObj, Sem.run_bind, Sem.run, hrb, hmb, Result.andThen, hi1, bne_self_eq_false, Bool.false_eq_true, if_false, hfind]
        rfl
      refine ⟨_, ?_, fun S => .tu _ #[ents.toList[i].key, ents.toList[i].val] _ rfl (fun j v hj => ?_)⟩
      · simp only [execOp, ho, eval_tmp t1]
        simp [hrun]
      · match j with
        | 0 => simp at hj; subst hj; exact cvV_ok k5 k1 k2 none_
        | 1 => simp at hj; subst hj; exact cvV_ok k6 k3 k4 none_
        | j + 2 => simp at hj
end
end Go.Proofs.VL
namespace Go.Proofs.VL
open Go Go.RowKit
section
variable {P : Program} {F : Fence} {n : Nat} {K : List Nat} {o : Oper} {E E' : Env} {τ : Nat → Option TI} {ops : Array Oper}
theorem OpA.left (hF : Wide F) {i j d e : Nat} {want : Bool} {oj : Oper} {v : V} (hi : ops[i]? = some o) (hg : o.guard = some (j, want)) (hj : ops[j]? = some oj) (hd : oj.dst = some d) (hlk : look E (.s d) = some v)
    (hv : v = .tu [] ∨ ∃ b, boolV v = some b ∧ b ≠ want) (he : o.dst = some e) (hen : e < n) (hK : K.contains e = false) (hm : anyOf (.s e) E = false) : OpA P F n K ops i E ((.s e, .tu []) :: E) := by
  intro w N L γ R tmps ds hr hn
  have hw : Region.wanted o (yielded ops tmps) = false := by
    simp only [Region.wanted, hg]
    rcases hv with rfl | ⟨b, hb, hne⟩
    · obtain ⟨c, h1, h2⟩ := hr.rep _ _ (look_mem hlk)
      have h1' : tmps[d]? = some c := h1
      cases h2
      simp [yielded, hj, hd, h1']
    · rw [yielded_of hr hj hd hlk hb]
      simpa using hne
  simp only [wpOpIn, hi, hw, Bool.false_eq_true, if_false]
  refine ⟨fun f _ => hF.fn f, ?_⟩
  rw [he]
  have hp := hr.put (d := e) (v := .tu []) (c := undef) (by rw [hn]; exact hen) rfl (.tu [] #[] _ rfl (fun i v hi => by simp at hi))
  simp only [VL.put, hm] at hp
  refine ⟨_, N, L, γ, R, rfl, hp, by simp [Act.put, hn], rfl, fun k hk => ?_, Later.refl .., fun _ h => .inl h⟩
  have : k ≠ e := by rintro rfl; simp at hK; exact hK hk
  simp [Act.put, Array.getElem?_setIfInBounds_ne (Ne.symm this)]
def guardN (ops : Array Oper) (E : Env) (o : Oper) : Option Bool := match o.guard with
  | none => some true
  | some (j, want) => (match nthO ops.toList j with
    | some oj => (match oj.dst with
      | some d => (match look E (.s d) with | some .kt => some want | some .kf => some (!want) | some (.tu []) => some false | _ => none)
      | none => none)
    | none => none)
theorem OpA.of_guardN (hF : Wide F) {i : Nat} (hi : ops[i]? = some o) (hg : guardN ops E o = some true) (hs : Sub E E') {E2 : Env} (h : OpTo P F n K o E' E2) : OpA P F n K ops i E' E2 := by
  unfold guardN at hg
  split at hg
  · rename_i hg0; exact .run hi hg0 h
  · rename_i j want hg0
    split at hg
    · rename_i oj hj
      split at hg
      · rename_i d hd
        split at hg
        · rename_i hl
          cases hg
          exact .runT hi hg0 (nthO_some hj) hd (hs _ _ hl) rfl h
        · rename_i hl
          cases want
          · exact .runT hi hg0 (nthO_some hj) hd (hs _ _ hl) rfl h
          · cases hg
        · cases hg
        · cases hg
      · cases hg
    · cases hg
theorem OpA.of_leftN (hF : Wide F) {i e : Nat} (hi : ops[i]? = some o) (hg : guardN ops E o = some false) (hs : Sub E E') (he : o.dst = some e) (hen : e < n) (hK : K.contains e = false) (hm : anyOf (.s e) E' = false) : OpA P F n K ops i E' ((.s e, .tu []) :: E') := by
  unfold guardN at hg
  split at hg
  · cases hg
  · rename_i j want hg0
    split at hg
    · rename_i oj hj
      split at hg
      · rename_i d hd
        split at hg
        · rename_i hl
          cases hg
          exact .left hF hi hg0 (nthO_some hj) hd (hs _ _ hl) (.inr ⟨true, rfl, by decide⟩) he hen hK hm
        · rename_i hl
          cases want
          · cases hg
          · exact .left hF hi hg0 (nthO_some hj) hd (hs _ _ hl) (.inr ⟨false, rfl, by decide⟩) he hen hK hm
        · rename_i hl
          exact .left hF hi hg0 (nthO_some hj) hd (hs _ _ hl) (.inl rfl) he hen hK hm
        · cases hg
      · cases hg
    · cases hg
def valsN (τ : Nat → Option TI) (n : Nat) (K : List Nat) (ops : Array Oper) (pre : List Nat) (E0 : Env) : List Sp → List Nat → List Sp × List Nat
  | S, [] => (S, [])
  | S, i :: is => match nthO ops.toList i with
    | some o => (match guardN ops (ents (near ops pre S i) E0) o, o.dst with
      | some true, some d => (match valO τ (ents (near ops pre S i) E0) o with
        | some v => forceV v fun v => (match okD n K d v with | true => valsN τ n K ops pre E0 (⟨i, some d, some v⟩ :: S) is | false => (S, i :: is))
        | none => (S, i :: is))
      | some false, some d => (match okD n K d (.tu []) with | true => valsN τ n K ops pre E0 (⟨i, some d, some (.tu [])⟩ :: S) is | false => (S, i :: is))
      | _, _ => (S, i :: is))
    | none => (S, i :: is)
variable {l0 : Array Bool} {pre : List Nat} {fuel : Nat} {Q : Env → Prop} {E0 : Env} {S S' : List Sp} {is is' : List Nat}
theorem DS.runN (hF : Wide F) {i d : Nat} {v : V} (h : DS P F n K ops pre E0 S) (hi : ops[i]? = some o) (hg : guardN ops (ents (near ops pre S i) E0) o = some true) (hm : OpM P F n K o (ents (near ops pre S i) E0) d v) : DS P F n K ops pre E0 (⟨i, some d, some v⟩ :: S) :=
  .cons _ _ h fun E' hs hf => .of_guardN hF hi hg hs (hm E' hs (hf d rfl))
theorem DS.leftN (hF : Wide F) {i d : Nat} (h : DS P F n K ops pre E0 S) (hi : ops[i]? = some o) (hg : guardN ops (ents (near ops pre S i) E0) o = some false) (hd : o.dst = some d) (hok : okD n K d (.tu []) = true) : DS P F n K ops pre E0 (⟨i, some d, some (.tu [])⟩ :: S) :=
  .cons _ _ h fun E' hs hf => by
    simp only [okD, Bool.and_eq_true, Bool.not_eq_true', Nat.blt_eq] at hok
    exact .of_leftN hF hi hg hs hd hok.1.1 hok.1.2 (hf d rfl)
theorem DS.valsN (hF : Wide F) (hτ : ∀ t ti, τ t = some ti → mkTI P t = some ti) : ∀ (is : List Nat) (S S' : List Sp) (is' : List Nat), VL.valsN τ n K ops pre E0 S is = (S', is') → (newD S E0 → DS P F n K ops pre E0 S) → (newD S' E0 → DS P F n K ops pre E0 S') := by
  intro is
  induction is with
  | nil => intro S S' is' h hd; cases h; exact hd
  | cons i is ih =>
    intro S S' is' h hd
    have stuck : (S, i :: is) = (S', is') → (newD S' E0 → DS P F n K ops pre E0 S') := by intro h; cases h; exact hd
    simp only [VL.valsN] at h
    split at h
    · rename_i o hi
      split at h
      · rename_i d hg hdst
        split at h
        · rename_i v hv
          rw [forceV_eq] at h
          split at h
          · rename_i hok
            exact ih _ _ _ h fun hn => .runN hF (hd hn.tail) (nthO_some hi) hg (.val hF hτ hdst hv hok)
          · exact stuck h
        · exact stuck h
      · rename_i d hg hdst
        split at h
        · rename_i hok
          exact ih _ _ _ h fun hn => .leftN hF (hd hn.tail) (nthO_some hi) hg hdst hok
        · exact stuck h
      · exact stuck h
    · exact stuck h
theorem AD.valsN (hF : Wide F) (hτ : ∀ t ti, τ t = some ti → mkTI P t = some ti) (hv : VL.valsN τ n K ops pre E0 S is = (S', is')) (h : AD P F n K ops l0 pre fuel Q E0 S' is') : AD P F n K ops l0 pre fuel Q E0 S is :=
  fun hd => h (DS.valsN hF hτ _ _ _ _ hv hd)
theorem AD.opN (hF : Wide F) {i d : Nat} {v : V} {Ei : Env} (hi : ops[i]? = some o) (hE : force (ents (near ops pre S i) E0) some = some Ei) (hg : guardN ops Ei o = some true) (hm : OpM P F n K o Ei d v) (h : AD P F n K ops l0 pre fuel Q E0 (⟨i, some d, some v⟩ :: S) is) : AD P F n K ops l0 pre fuel Q E0 S (i :: is) :=
  fun hd => h fun hn => by
    rw [force_eq] at hE
    obtain rfl := Option.some.inj hE
    exact .runN hF (hd hn.tail) hi hg hm
end
end Go.Proofs.VL
namespace Go.Proofs.VL
open Go Go.RowKit
variable {P : Program}
def T0 : Loc → Option Value := fun _ => none
structure Inner (P : Program) (w : World) (N L : Cells) (R : Blocks) (tmps : Array Value) (γ : Gh) (Q : Loc → Blocks) (E0 : Env) (l D : Nat) : Prop where
  rep : ∀ k v, (k, v) ∈ E0 → ∃ c, Tof tmps γ k = some c ∧ RepV P w N L (Tof tmps γ) v c (Q k)
  nd : (E0.map Prod.fst).Nodup
  dis : ∀ k k' x, k ≠ k' → Q k x → ¬ Q k' x
  lt : ∀ k x, Q k x → x < w.heap.size
  sub : ∀ k x, Q k x → R x ∧ x ≠ l ∧ x ≠ D
def YP (P : Program) (E0 : Env) (tmps : Array Value) (rec : Loop) (l D : Nat) : OwnP := fun w N L R cs c =>
  c = .func (.yield l) #[] #[] ∧ w.heap[l]? = some (.loop rec) ∧ w.heap[D]? = some (.deferred (some [])) ∧ l ≠ D ∧ R l ∧ R D ∧ ∃ γ Q, Inner P w N L R tmps γ Q E0 l D
theorem rep_Y {w : World} {N L : Cells} {T : Loc → Option Value} {R : Blocks} {E0 : Env} {tmps : Array Value} {rec : Loop} {l D : Nat} {c : Value} (hNL : ∀ b o, N b o → L b o) (h : YP P E0 tmps rec l D w N L R [] c) :
    RepV P w N L T (.ob [] (YP P E0 tmps rec l D)) c R := by
  obtain ⟨rfl, h1, h2, h3, h4, h5, γ, Q, hi⟩ := h
  refine .ob [] _ _ R [] rfl rfl (fun i k hk => by simp at hk) fun w' N' L' R' k1 k2 k3 k4 k5 k6 k7 k8 => ?_
  refine ⟨rfl, (k2 _ h4).trans h1, (k2 _ h5).trans h2, h3, k8 _ h4, k8 _ h5, γ, Q, ⟨fun k v hm => ?_, hi.nd, hi.dis, fun k x hx => Nat.lt_of_lt_of_le (hi.lt k x hx) k1, fun k x hx => ⟨k8 _ (hi.sub k x hx).1, (hi.sub k x hx).2⟩⟩⟩
  obtain ⟨c, q1, q2⟩ := hi.rep k v hm
  exact ⟨c, q1, q2.world k1 (fun b hb => k2 b (hi.sub k b hb).1) hNL k3 k4 k5 (fun b o hb => k6 b o (hi.sub k b hb).1) (fun b o hb => k7 b o (hi.sub k b hb).1)⟩
theorem ob_at {w : World} {N L : Cells} {T : Loc → Option Value} {R : Blocks} {p : OwnP} {c : Value} (h : RepV P w N L T (.ob [] p) c R) : p w N L R [] c := by
  cases h with
  | ob ls p c R cs hc hlen hl h =>
    obtain rfl : cs = [] := List.eq_nil_of_length_eq_zero hlen
    exact h w N L R (Nat.le_refl _) (fun _ _ => rfl) (fun _ _ _ _ h => h) (fun _ _ h => h) (fun _ _ h => h) (fun _ _ _ h => h) (fun _ _ _ h => h) (fun _ h => h)
def newer (w w' : World) (R : Blocks) : Blocks := fun x => R x ∨ (w.heap.size ≤ x ∧ x < w'.heap.size)
def YStep (P : Program) (F : Fence) (p : OwnP) (vs : List V) (q : OwnP) : Prop :=
  ∀ (w : World) (N L : Cells) (R : Blocks) (c : Value) (vals : Array Value), RepV P w N L T0 (.ob [] p) c R → (∀ b o, N b o → L b o) → (∀ b o, L b o → b < w.heap.size) → (∀ b, R b → b < w.heap.size) →
    vals.size = vs.length → (∀ (i : Nat) (v : V), vs[i]? = some v → nameless v = true ∧ RepV P w N L T0 v (vals.getD i undef) none_) →
    ∃ l f tmps assign body, c = .func (.yield l) #[] #[] ∧ (Instr.yield l vals).run P w = .ok (.round l f tmps assign body) w ∧
      RoundIn F 0 P l f tmps assign body w (fun e w' => e = .returned (.bool true) ∧ ∃ N' L', Later w N L R w' N' L' ∧ (∀ b o, N' b o → L' b o) ∧ (∀ b o, L' b o → b < w'.heap.size) ∧ RepV P w' N' L' T0 (.ob [] q) c (newer w w' R))
section
variable {F : Fence} {n : Nat} {K : List Nat} {o : Oper} {E E' : Env}
theorem OpTo.yield (hF : Wide F) {c : Call} (ho : o.op = .call c) {t : Nat} (hc : c.callee = .value (.tmp t)) {l0 : Loc} {p q : OwnP} (hx : own E (.s t) = some (l0, .ob [] p)) {vs : List V} (ha : argsO E c.args.toList = some vs)
    (hy : YStep P F p vs q) {d : Nat} (hd : o.dst = some d) (hok : okD n K d .kt = true) (ha' : anyOf (.s d) E = false) (hE : force ((.s d, .kt) :: VL.upd l0 (.ob [] q) E) some = some E') : OpTo P F n K o E E' := by
  rw [force_eq] at hE
  cases hE
  intro w N L γ R tmps ds hr hn
  obtain ⟨cv, k1, k2, k3, k4⟩ := own_ok hr hx
  obtain ⟨hal, har⟩ := argsO_ok hr ds _ _ ha
  have hev : Act.eval ⟨tmps, ds⟩ (.tmp t) = cv := eval_tmp k1
  obtain ⟨l, f, tm, ags, body, rfl, hrun, hround⟩ := hy w N L (R l0) cv (c.args.map (Act.eval ⟨tmps, ds⟩)) (k3.congrN rfl) hr.NL hr.Llt (hr.lt l0) (by simp [hal]) (fun i v hi => by
    obtain ⟨q1, q2⟩ := har i v hi
    refine ⟨q1, ?_⟩
    have e : (c.args.map (Act.eval ⟨tmps, ds⟩)).getD i undef = (c.args.toList.map (Act.eval ⟨tmps, ds⟩)).getD i undef := by
      simp [Array.getD_eq_getD_getElem?, List.getD_eq_getElem?_getD, ← Array.getElem?_toList]
    rw [e]
    exact q2.congrN q1)
  refine wpIn_run hF (by simp [ho]) ?_
  have hex : (execOp (Act.eval ⟨tmps, ds⟩) o).run P w = .ok (.round l f tm ags body) w := by
    have : (execOp (Act.eval ⟨tmps, ds⟩) o).run P w = (Instr.yield l (c.args.map (Act.eval ⟨tmps, ds⟩))).run P w := by
      simp [execOp, ho, resolve, hc, hev, Deferred.ofValue, invoke]
    rw [this, hrun]
  rw [hex]
  simp only [Oper.uponIn]
  refine ⟨fun h => (by rw [hF.depth] at h; cases h), ?_⟩
  refine RoundIn.mono hround fun e w' he => ?_
  obtain ⟨rfl, N', L', hla, hNL, hLlt, hrep⟩ := he
  show Mid P n K w N L R tmps ds _ _ _
  simp only [okD, Bool.and_eq_true, Bool.not_eq_true', Nat.blt_eq] at hok
  obtain ⟨⟨hdn, hK⟩, hmen⟩ := hok
  rw [hd, putAct]
  let R' : Loc → Blocks := fun k => if k = l0 then newer w w' (R l0) else R k
  have hnd : l0 ≠ .s d := (anyOf_mem ha' (look_mem k4)).1
  have hrel : Rel P w' N' L' tmps γ R' (VL.upd l0 (.ob [] q) E) := by
    refine ⟨fun s u hm => ?_, by rw [upd_keys]; exact hr.nd, fun a b x hab h1 h2 => ?_, fun a x h1 => ?_, hNL, hLlt⟩
    · rcases upd_mem hr.nd hm with ⟨rfl, rfl, _⟩ | ⟨hm, hne⟩
      · refine ⟨_, k2, ?_⟩
        simp only [R', if_pos]
        exact hrep.congrN rfl
      · obtain ⟨c', h1, h2⟩ := hr.rep s u hm
        refine ⟨c', h1, ?_⟩
        simp only [R', if_neg hne]
        refine h2.world hla.size (fun b hb => hla.frame b (hr.lt _ _ hb) (fun h => hr.dis _ _ _ hne hb h)) hr.NL hla.keeps hla.N1 hla.L1 (fun b o hb h => ?_) (fun b o hb h => ?_)
        · rcases hla.N2 b o h with h | h | h
          · exact h
          · exact absurd h (hr.dis _ _ _ hne hb)
          · have := hr.lt _ _ hb; omega
        · rcases hla.L2 b o h with h | h | h
          · exact h
          · exact absurd h (hr.dis _ _ _ hne hb)
          · have := hr.lt _ _ hb; omega
    · simp only [R'] at h1 h2
      by_cases ea : a = l0
      · have eb : b ≠ l0 := fun e => hab (ea.trans e.symm)
        rw [if_pos ea] at h1; rw [if_neg eb] at h2
        rcases h1 with h1 | h1
        · exact hr.dis _ _ _ eb h2 h1
        · have := hr.lt _ _ h2; omega
      · rw [if_neg ea] at h1
        by_cases eb : b = l0
        · rw [if_pos eb] at h2
          rcases h2 with h2 | h2
          · exact hr.dis _ _ _ ea h1 h2
          · have := hr.lt _ _ h1; omega
        · rw [if_neg eb] at h2
          exact hr.dis _ _ _ hab h1 h2
    · simp only [R'] at h1
      split at h1
      · rcases h1 with h1 | h1
        · exact Nat.lt_of_lt_of_le (hr.lt _ _ h1) hla.size
        · exact h1.2
      · exact Nat.lt_of_lt_of_le (hr.lt _ _ h1) hla.size
  have hfr : anyOf (.s d) (VL.upd l0 (.ob [] q) E) = false := fresh_upd hr.nd ha' rfl
  have hput := hrel.put (d := d) (v := .kt) (c := .bool true) (by omega) rfl (.kt _)
  have e : put (.s d) V.kt (VL.upd l0 (.ob [] q) E) = (.s d, .kt) :: VL.upd l0 (.ob [] q) E := by unfold VL.put; rw [hfr]
  rw [e] at hput
  refine ⟨_, N', L', γ, R', rfl, hput, by simp [hn], rfl, fun k hk => ?_, hla.moreS (fun b hb => ⟨l0, hb⟩), ?_⟩
  · have : k ≠ d := by rintro rfl; simp [List.contains_eq_mem] at hK; exact hK hk
    simp [Array.getElem?_setIfInBounds_ne (Ne.symm this)]
  · rintro x ⟨a, h1⟩
    simp only [R'] at h1
    split at h1
    · rcases h1 with h1 | h1
      · exact .inl ⟨_, h1⟩
      · exact .inr h1.1
    · exact .inl ⟨_, h1⟩
def setPs (tmps : Array Value) (ps : List Tmp) (vals : List Value) : Array Value := (ps.zip vals).foldl (fun t p => t.setIfInBounds p.1 p.2) tmps
def putPs : List Tmp → List V → Env → Env
  | p :: ps, v :: vs, E => putPs ps vs (put (.s p) v E)
  | _, _, E => E
theorem setPs_size : ∀ (ps : List Tmp) (vals : List Value) (tmps : Array Value), (setPs tmps ps vals).size = tmps.size
  | [], _, _ => by simp [setPs]
  | _ :: _, [], _ => by simp [setPs]
  | p :: ps, v :: vals, tmps => by
    have := setPs_size ps vals (tmps.setIfInBounds p v)
    simp only [setPs, List.zip_cons_cons, List.foldl_cons] at this ⊢
    rw [this]; simp
theorem setPs_other : ∀ (ps : List Tmp) (vals : List Value) (tmps : Array Value) (k : Nat), k ∉ ps → (setPs tmps ps vals)[k]? = tmps[k]?
  | [], _, _, _, _ => by simp [setPs]
  | _ :: _, [], _, _, _ => by simp [setPs]
  | p :: ps, v :: vals, tmps, k, hk => by
    have := setPs_other ps vals (tmps.setIfInBounds p v) k (fun h => hk (.tail _ h))
    simp only [setPs, List.zip_cons_cons, List.foldl_cons] at this ⊢
    rw [this]
    exact Array.getElem?_setIfInBounds_ne (by rintro rfl; exact hk (.head _))
theorem Rel.putPs {w : World} {N L : Cells} {γ : Gh} {R : Loc → Blocks} : ∀ (ps : List Tmp) (vs : List V) (vals : List Value) {tmps : Array Value} {E : Env}, Rel P w N L tmps γ R E → vs.length = vals.length → (∀ p ∈ ps, p < tmps.size) →
    (∀ (i : Nat) (v : V), vs[i]? = some v → nameless v = true ∧ RepV P w N L T0 v (vals.getD i undef) none_) → Rel P w N L (setPs tmps ps vals) γ R (VL.putPs ps vs E)
  | [], _, _, tmps, E, h, _, _, _ => by simpa [setPs, VL.putPs] using h
  | p :: ps, [], [], tmps, E, h, _, _, _ => by simpa [setPs, VL.putPs] using h
  | p :: ps, v :: vs, [], tmps, E, h, hl, _, _ => by simp at hl
  | p :: ps, [], v :: vals, tmps, E, h, hl, _, _ => by simp at hl
  | p :: ps, v :: vs, x :: vals, tmps, E, h, hl, hp, hv => by
    have h0 := hv 0 v rfl
    have h1 := h.put (d := p) (v := v) (c := x) (hp p (.head _)) (nameless_men _ _ h0.1) ((h0.2.congrN h0.1).more (fun x h => h.elim))
    have := Rel.putPs ps vs vals h1 (by simpa using hl) (fun q hq => by simpa using hp q (.tail _ hq)) (fun i u hi => by simpa using hv (i + 1) u (by simpa using hi))
    simpa only [setPs, VL.putPs, List.zip_cons_cons, List.foldl_cons] using this
def obOK (K : List Nat) (ps : List Tmp) (H : Env) : Bool := (H.all fun p => locIn K p.1 && p.2.allN (locIn K)) && (K.all fun k => !(ps.contains k)) && nodupB (H.map Prod.fst)
theorem YStep.of_AW (hF : Wide F) (hro : F.round = none) {l D : Nat} {I I' E1 : Env} {tmps : Array Value} {rec : Loop} {vs : List V} (hready : rec.state = .ready) (hpend : rec.pending = none) (hn : tmps.size = n) (htm : rec.tmps = tmps) (hps : ∀ p ∈ rec.params.toList, p < n) (hvs : vs.length = rec.params.size)
    (hE1 : VL.putPs rec.params.toList vs I = E1) (hok : obOK K rec.params.toList I' = true)
    (h : ∀ l, AW P (F.inRound l) n K rec.assign (fun e E => e = .normal ∧ AW P (F.inRound l) n K rec.body (fun e E => e = .normal ∧ Sub I' E) E) E1) :
    YStep P F (YP P I tmps rec l D) vs (YP P I' tmps rec l D) := by
  intro w N L R c vals hob hNL hLlt hRlt hsz hargs
  obtain ⟨rfl, h1, h2, h3, h4, h5, γ, Q, hi⟩ := ob_at hob
  have hvl : vals.size = rec.params.size := hsz.trans hvs
  refine ⟨l, rec.fn, _, rec.assign, rec.body, rfl, run_yield h1 hvl, ?_⟩
  have hrel0 : Rel P w N L tmps γ Q I := ⟨hi.rep, hi.nd, hi.dis, hi.lt, hNL, hLlt⟩
  have ht : (rec.params.zip vals).foldl (fun tmps (x : Tmp × Value) => tmps.setIfInBounds x.1 x.2) rec.tmps = setPs tmps rec.params.toList vals.toList := by
    rw [setPs, htm, ← Array.foldl_toList, Array.toList_zip]
  have hrel1 : Rel P w N L (setPs tmps rec.params.toList vals.toList) γ Q E1 := by
    rw [← hE1]
    refine Rel.putPs _ _ _ hrel0 (by simpa using hsz.symm) (fun p hp => by rw [hn]; exact hps p hp) (fun i v hv => ?_)
    have := hargs i v hv
    rwa [show vals.toList.getD i undef = vals.getD i undef by simp [Array.getD_eq_getD_getElem?, List.getD_eq_getElem?_getD]]
  have hs1 : (setPs tmps rec.params.toList vals.toList).size = n := by rw [setPs_size, hn]
  show RoundIn F 0 P l rec.fn ((rec.params.zip vals).foldl (fun tmps (x : Tmp × Value) => tmps.setIfInBounds x.1 x.2) rec.tmps) rec.assign rec.body w _
  rw [ht]
  refine roundIn_of_wpIn (hF.fn _) ?_
  refine wpIn_mono (h l w N L γ Q _ [] hrel1 hs1) fun e a1 w1 hp => ?_
  obtain ⟨E2, N1, L1, γ1, R1, ⟨rfl, hb⟩, hA⟩ := hp
  have hlt : l < w.heap.size := hRlt l h4
  have hl0 : ¬ St Q l := fun ⟨k, hk⟩ => (hi.sub k l hk).2.1 rfl
  have hD0 : ¬ St Q D := fun ⟨k, hk⟩ => (hi.sub k D hk).2.2 rfl
  have hh1 : w1.heap[l]? = some (.loop rec) := (hA.later.frame l hlt hl0).trans h1
  have hlR1 : ¬ St R1 l := fun hx => by
    rcases hA.own l hx with h | h
    · exact hl0 h
    · omega
  refine ⟨w1.putObj l (.loop { rec with state := .busy }), run_beginRound hh1 hready, ?_⟩
  -- the record's state is nobody else's
  have later_put : ∀ (wa : World) (Na La : Cells) (r : Loop) (r' : Loop), wa.heap[l]? = some (.loop r) → Later wa Na La (fun x => x = l) (wa.putObj l (.loop r')) Na La := by
    intro wa Na La r r' hl
    refine ⟨rfl, rfl, rfl, by simp, fun b hb hne => World.putObj_heap_other hne, fun b o v hLb hc => ?_, fun _ _ h => h, fun _ _ h => h, fun _ _ h => .inl h, fun _ _ h => .inl h⟩
    by_cases e : b = l
    · subst e; rw [World.cell?] at hc; simp only [hl] at hc; cases hc
    · exact (cell_of_heap (World.putObj_heap_other e) o).trans hc
  have rel_put : ∀ {wa : World} {Na La : Cells} {ta : Array Value} {γa : Gh} {Ra : Loc → Blocks} {Ea : Env} {r : Loop} (r' : Loop), wa.heap[l]? = some (.loop r) → ¬ St Ra l → Rel P wa Na La ta γa Ra Ea → Rel P (wa.putObj l (.loop r')) Na La ta γa Ra Ea := by
    intro wa Na La ta γa Ra Ea r r' hl hnl hr
    have hla := later_put wa Na La r r' hl
    refine ⟨fun s u hm => ?_, hr.nd, hr.dis, fun a x hx => by simpa using hr.lt a x hx, hr.NL, fun b o hb => by simpa using hr.Llt b o hb⟩
    obtain ⟨c, q1, q2⟩ := hr.rep s u hm
    exact ⟨c, q1, q2.world hla.size (fun b hb' => hla.frame b (hr.lt _ _ hb') (fun e => hnl ⟨s, e ▸ hb'⟩)) hr.NL hla.keeps hla.N1 hla.L1 (fun _ _ _ h => h) (fun _ _ _ h => h)⟩
  have hrel2 := rel_put { rec with state := .busy } hh1 hlR1 hA.rel
  have hds : a1.defers = [] := hA.defers
  obtain ⟨t1, d1⟩ := a1
  simp only at hds
  subst hds
  refine wpIn_mono (hb _ N1 L1 γ1 R1 t1 [] hrel2 hA.size) fun e a2 w2 hp2 => ?_
  obtain ⟨E3, N2, L2, γ2, R2, ⟨rfl, hsub⟩, hB⟩ := hp2
  have hw1lt : l < w1.heap.size := Nat.lt_of_lt_of_le hlt hA.later.size
  have hh2 : w2.heap[l]? = some (.loop { rec with state := .busy }) := (hB.later.frame l (by simpa using hw1lt) hlR1).trans (World.putObj_heap_same hw1lt)
  refine ⟨_, _, run_endRound none hh2, rfl, ?_⟩
  have hback : ({ rec with state := (if (none : Option Code).isNone then .ready else .done), pending := (none : Option Code) } : Loop) = rec := by
    cases rec; simp only at hready hpend; subst hready; subst hpend; rfl
  have hlR2 : ¬ St R2 l := fun hx => by
    rcases hB.own l hx with h | h
    · exact hlR1 h
    · simp at h; omega
  have e3 : ({ rec with state := LoopState.busy } : Loop) = { rec with state := .busy } := rfl
  show ∃ N' L', Later w N L R (w2.putObj l (.loop { rec with state := (if (none : Option Code).isNone then .ready else .done), pending := none })) N' L' ∧ _
  rw [hback]
  have hrel3 := rel_put rec hh2 hlR2 hB.rel
  have hRl : ∀ b, b = l → R b := by rintro b rfl; exact h4
  have hSQ : ∀ b, St Q b → R b := fun b ⟨k, hk⟩ => (hi.sub k b hk).1
  have ha : Later w N L R w1 N1 L1 := hA.later.moreS hSQ
  have hb2 : Later w N L R (w1.putObj l (.loop { rec with state := .busy })) N1 L1 := ha.trans (later_put w1 N1 L1 _ _ hh1) (fun x hx => .inl (hRl x hx))
  have hc2 : Later w N L R w2 N2 L2 := hb2.trans hB.later (fun x hx => by
    rcases hA.own x hx with h | h
    · exact .inl (hSQ x h)
    · exact .inr h)
  have hd2 : Later w N L R (w2.putObj l (.loop rec)) N2 L2 := hc2.trans (later_put w2 N2 L2 _ _ hh2) (fun x hx => .inl (hRl x hx))
  refine ⟨N2, L2, hd2, hrel3.NL, hrel3.Llt, rep_Y hrel3.NL ?_⟩
  have hDlt : D < w.heap.size := hRlt D h5
  have hDR1 : ¬ St R1 D := fun hx => by
    rcases hA.own D hx with h | h
    · exact hD0 h
    · omega
  have hd : (w2.putObj l (.loop rec)).heap[D]? = some (.deferred (some [])) := by
    rw [World.putObj_heap_other (Ne.symm h3)]
    have q1 : w1.heap[D]? = some (.deferred (some [])) := (hA.later.frame D hDlt hD0).trans h2
    have q2 : (w1.putObj l (.loop { rec with state := .busy })).heap[D]? = some (.deferred (some [])) := (World.putObj_heap_other (Ne.symm h3)).trans q1
    exact (hB.later.frame D (by simp; have := hA.later.size; omega) hDR1).trans q2
  have hw2lt : l < w2.heap.size := (Array.getElem?_eq_some_iff.1 hh2).1
  simp only [obOK, Bool.and_eq_true] at hok
  obtain ⟨⟨hok1, hok2⟩, hok3⟩ := hok
  have hkeep : ∀ k ∈ K, a2.tmps[k]? = tmps[k]? := fun k hk => by
    rw [hB.kept k hk]
    have := hA.kept k hk
    simp only at this
    rw [this, setPs_other]
    have := List.all_eq_true.1 hok2 k hk
    simpa [List.contains_eq_mem] using this
  have hT : ∀ k c, locIn K k = true → Tof a2.tmps γ2 k = some c → Tof tmps γ2 k = some c := fun k c hk hc => by
    cases k with
    | s t => simp only [Tof] at hc ⊢; rw [← hkeep t (by simpa [locIn, List.contains_eq_mem] using hk)]; exact hc
    | c t i => exact hc
  refine ⟨rfl, World.putObj_heap_same hw2lt, hd, h3, .inl h4, .inl h5, γ2, fun k => if (I'.any fun p => lq p.1 k) then R2 k else none_, ⟨fun s u hm => ?_, nodupB_ok hok3, fun a b x hab q1 q2 => ?_, fun a x q1 => ?_, fun a x q1 => ?_⟩⟩
  · have hlk := hsub s u (look_of_mem (nodupB_ok hok3) hm)
    obtain ⟨c2, q1, q2⟩ := hrel3.rep _ _ (look_mem hlk)
    have hin := List.all_eq_true.1 hok1 _ hm
    simp only [Bool.and_eq_true] at hin
    refine ⟨c2, hT _ _ hin.1 q1, ?_⟩
    rw [if_pos (List.any_eq_true.2 ⟨_, hm, lq_iff.2 rfl⟩)]
    exact q2.congrIn hT hin.2
  · split at q1
    · split at q2
      · exact hrel3.dis _ _ _ hab q1 q2
      · exact q2
    · exact q1
  · split at q1
    · exact hrel3.lt _ _ q1
    · exact q1.elim
  · split at q1
    · have hx : St R2 x := ⟨_, q1⟩
      have hnew : newer w (w2.putObj l (.loop rec)) R x := by
        have hlt2 := hrel3.lt _ _ q1
        rcases hB.own x hx with h | h
        · rcases hA.own x h with h | h
          · exact .inl (hSQ x h)
          · exact .inr ⟨h, hlt2⟩
        · simp at h; have := hA.later.size; exact .inr ⟨by omega, hlt2⟩
      refine ⟨hnew, by rintro rfl; exact hlR2 hx, ?_⟩
      rintro rfl
      rcases hB.own x hx with h | h
      · exact hDR1 h
      · simp at h; have := hA.later.size; omega
    · exact q1.elim
end
end Go.Proofs.VL
