import Derived.Test.YtndffogfaocchaaGreatW07
set_option linter.unusedVariables false
set_option linter.unusedSimpArgs false
set_option linter.unusedSectionVars false
namespace Go.Proofs.VL
open Go Go.RowKit
variable {P : Program}
section
variable {F : Fence} {n : Nat} {K : List Nat} {o : Oper} {E E' : Env} {τ : Nat → Option TI} {ops : Array Oper}
def finC (ops : Array Oper) (l0 : Array Bool) (pre : List Nat) (S : List Sp) (E0 : Env) (esc : Nat → Bool) : Bool :=
  l0.size == ops.size && ((List.range ops.size).all fun j => l0.getD j true == memN j pre) && (pre.all fun j => Nat.blt j ops.size) &&
  decide (S.map (·.i)).Nodup &&
  (S.all fun p => Nat.blt p.i ops.size && !l0.getD p.i true && ((direct ops pre p.i).all fun e => Nat.blt e p.i && (S.any fun q => q.i == e)) &&
    (match p.d with
     | some d => !anyOf (.s d) E0 && (S.all fun q => q.i == p.i || (!(q.d == some d) && (match q.v with | some u => !(u.men (.s d)) || memN p.i (cl ops pre q.i) | none => true)))
     | none => true)) &&
  ((List.range ops.size).all fun j => l0.getD j true || (S.any fun q => q.i == j) || (S.all fun p => memN p.i (cl ops pre j)) || esc j || (cl ops pre j).any esc)
theorem AA.mainC {l0 : Array Bool} {pre : List Nat} {S : List Sp} {fuel : Nat} {Q : Env → Prop} {E0 : Env} {esc : Nat → Bool} (hd : DS P F n K ops pre E0 S) (hok : finC ops l0 pre S E0 esc = true) (hescS : ∀ e, esc e = true → ¬ ∃ p ∈ S, p.i = e) (h : AA P F n K ops (marks l0 S) fuel Q (ents S E0))
    (hesc : ∀ (k : Nat) (T Rm : List Sp) (c : Nat), Rm.length = k + 1 → (T ++ Rm).Perm S → (∀ p ∈ T, ∀ e ∈ direct ops pre p.i, ∃ q ∈ T, q.i = e) → ((ents T E0).map Prod.fst).Nodup → esc c = true → (∀ j ∈ cl ops pre c, ∃ q ∈ T, q.i = j) → (¬ ∃ p ∈ S, p.i = c) →
      ∀ (w : World) (N L : Cells) (γ : Gh) (R : Loc → Blocks) (tmps : Array Value) (ds : List Deferred), Rel P w N L tmps γ R (ents T E0) → tmps.size = n →
      wpOpIn F 0 P ops (Post P n K w N L R tmps ds (fun e => match e with | .normal => Q | _ => fun _ => False)) c (wpAnyIn F 0 P .any ops (Post P n K w N L R tmps ds (fun e => match e with | .normal => Q | _ => fun _ => False)) (fuel + k) ((marks l0 T).setIfInBounds c true)) ⟨tmps, ds⟩ w) :
    ∀ (k : Nat) (T Rm : List Sp), Rm.length = k → (T ++ Rm).Perm S → (∀ p ∈ T, ∀ e ∈ direct ops pre p.i, ∃ q ∈ T, q.i = e) → ((ents T E0).map Prod.fst).Nodup → AA P F n K ops (marks l0 T) (fuel + k) Q (ents T E0) := by
  simp only [finC, Bool.and_eq_true, beq_iff_eq, decide_eq_true_eq, List.all_eq_true, Bool.not_eq_true', List.any_eq_true, Bool.or_eq_true, List.mem_range, Nat.blt_eq] at hok
  obtain ⟨⟨⟨⟨⟨hsz, hpre⟩, hpreL⟩, hnd⟩, hS⟩, hout⟩ := hok
  -- what is listed before
  have hl0T : ∀ (j : Nat), l0.getD j false = true → memN j pre = true := fun j h => by
    have hjl : j < l0.size := by
      rcases Nat.lt_or_ge j l0.size with h' | h'
      · exact h'
      · simp [Array.getD_eq_getD_getElem?, Array.getElem?_eq_none h'] at h
    have := hpre j (by omega)
    rw [← this]
    simp only [Array.getD_eq_getD_getElem?, Array.getElem?_eq_getElem hjl, Option.getD_some] at h ⊢
    exact h
  have hpg : ∀ j, j < ops.size → l0.getD j true = memN j pre := hpre
  have hl0f : ∀ (j : Nat), j < ops.size → memN j pre = false → l0.getD j false = false := fun j hj h => by
    have := hpg j hj
    rw [h] at this
    have hjl : j < l0.size := by omega
    simp only [Array.getD_eq_getD_getElem?, Array.getElem?_eq_getElem hjl, Option.getD_some] at this ⊢
    exact this
  have hl0t : ∀ (j : Nat), l0.getD j false = false → memN j pre = false := fun j h => by
    cases hm : memN j pre with
    | false => rfl
    | true =>
      have hj := hpreL j (memN_iff.1 hm)
      have := hpg j hj
      rw [hm] at this
      have hjl : j < l0.size := by omega
      simp only [Array.getD_eq_getD_getElem?, Array.getElem?_eq_getElem hjl, Option.getD_some] at this h
      rw [this] at h; cases h
  have hlt : ∀ p ∈ S, p.i < l0.size := fun p hp => by rw [hsz]; exact (hS p hp).1.1.1
  have hinj : ∀ p ∈ S, ∀ q ∈ S, p.i = q.i → p = q := by
    intro p hp q hq e
    obtain ⟨a, ha, e1⟩ := List.getElem_of_mem hp
    obtain ⟨b, hb, e2⟩ := List.getElem_of_mem hq
    have := List.nodup_iff_pairwise_ne.1 hnd
    rw [List.pairwise_iff_getElem] at this
    rcases Nat.lt_trichotomy a b with hl | hl | hl
    · have hx := this a b (by simpa using ha) (by simpa using hb) hl
      simp only [List.getElem_map, e1, e2] at hx
      exact absurd e hx
    · subst hl; rw [e1] at e2; exact e2
    · have hx := this b a (by simpa using hb) (by simpa using ha) hl
      simp only [List.getElem_map, e1, e2] at hx
      exact absurd e.symm hx
  -- each one's own environment
  have hsp : ∀ p ∈ S, ∃ S' : List Sp, (∀ q ∈ S', q ∈ S) ∧ SpOK P F n K ops p (ents (near ops pre S' p.i) E0) := by
    have : ∀ {S1 : List Sp}, DS P F n K ops pre E0 S1 → (∀ q ∈ S1, q ∈ S) → ∀ p ∈ S1, ∃ S' : List Sp, (∀ q ∈ S', q ∈ S) ∧ SpOK P F n K ops p (ents (near ops pre S' p.i) E0) := by
      intro S1 h1
      induction h1 with
      | nil => intro _ p hp; cases hp
      | cons p S1 h1 hp ih =>
        intro hsub q hq
        cases hq with
        | head => exact ⟨S1, fun q hq => hsub q (.tail _ hq), hp⟩
        | tail _ hq => exact ih (fun q hq => hsub q (.tail _ hq)) q hq
    exact this hd (fun q hq => hq)
  show ∀ (k : Nat) (T Rm : List Sp), Rm.length = k → (T ++ Rm).Perm S → (∀ p ∈ T, ∀ e ∈ direct ops pre p.i, ∃ q ∈ T, q.i = e) → ((ents T E0).map Prod.fst).Nodup → AA P F n K ops (marks l0 T) (fuel + k) Q (ents T E0)
  · 
    intro k
    induction k with
    | zero =>
      intro T Rm hRm hperm hcl hnT
      cases Rm with
      | cons => cases hRm
      | nil =>
        rw [List.append_nil] at hperm
        have e : marks l0 T = marks l0 S := by
          apply Array.ext
          · rw [marks_size, marks_size]
          · intro j h1 h2
            have a1 := marks_get l0 T (fun p hp => hlt p (hperm.mem_iff.1 hp)) j false
            have a2 := marks_get l0 S hlt j false
            have : (∃ p ∈ T, p.i = j) ↔ (∃ p ∈ S, p.i = j) := ⟨fun ⟨p, hp, e⟩ => ⟨p, hperm.mem_iff.1 hp, e⟩, fun ⟨p, hp, e⟩ => ⟨p, hperm.mem_iff.2 hp, e⟩⟩
            have e3 : (marks l0 T).getD j false = (marks l0 S).getD j false := by rw [a1, a2]; simp only [this]
            simpa [Array.getD, h1, h2] using e3
        rw [e]
        exact AA.perm (ents_perm hperm.symm E0) h
    | succ k ih =>
      intro T Rm hRm hperm hcl hnT
      have hTS : ∀ p ∈ T, p ∈ S := fun p hp => hperm.mem_iff.1 (List.mem_append_left _ hp)
      have hRS : ∀ p ∈ Rm, p ∈ S := fun p hp => hperm.mem_iff.1 (List.mem_append_right _ hp)
      have hget := marks_get l0 T (fun p hp => hlt p (hTS p hp))
      have hndi : ((T ++ Rm).map (·.i)).Nodup := (hperm.map _).nodup_iff.2 hnd
      have hTR : ∀ p ∈ T, ∀ q ∈ Rm, p.i ≠ q.i := by
        rw [List.map_append, List.nodup_append] at hndi
        exact fun p hp q hq => hndi.2.2 _ (List.mem_map_of_mem hp) _ (List.mem_map_of_mem hq)
      have hsplit : ∀ p ∈ S, p ∈ T ∨ p ∈ Rm := fun p hp => List.mem_append.1 (hperm.mem_iff.2 hp)
      -- closed sets
      have hclo : ∀ (m i : Nat), (∀ e ∈ direct ops pre i, ∃ q ∈ T, q.i = e) → ∀ j ∈ clo ops pre m i, ∃ q ∈ T, q.i = j := by
        intro m
        induction m with
        | zero => intro i _ j hj; cases hj
        | succ m ihm =>
          intro i hi j hj
          simp only [clo, List.mem_append, List.mem_flatMap] at hj
          rcases hj with hj | ⟨e, he, hj⟩
          · exact hi j hj
          · obtain ⟨q, hq, rfl⟩ := hi e he
            exact ihm q.i (hcl q hq) j hj
      have hready : ∀ i ∈ Region.ready .any ops (marks l0 T), (∀ e ∈ direct ops pre i, ∃ q ∈ T, q.i = e) := by
        intro i hi e he
        obtain ⟨h1, o, ho, h2⟩ := mem_ready.1 hi
        obtain ⟨ed, he1, hb, hl0, rfl⟩ := (mem_direct ho).1 he
        have := h2 ed he1 hb
        rw [hget] at this
        split at this
        · rename_i hx; exact hx
        · rw [hl0T _ this] at hl0; cases hl0
      intro w N L γ R tmps ds hr hn
      refine ⟨fun h0 => ?_, fun i hi => ?_⟩
      · -- something is ready: the least one
        exfalso
        have hmin : ∃ p ∈ Rm, ∀ q ∈ Rm, p.i ≤ q.i := by
          have : ∀ (l : List Sp), l ≠ [] → ∃ p ∈ l, ∀ q ∈ l, p.i ≤ q.i := by
            intro l
            induction l with
            | nil => intro h; exact absurd rfl h
            | cons a l ihl =>
              intro _
              by_cases hl : l = []
              · subst hl; exact ⟨a, .head _, fun q hq => by simp at hq; subst hq; exact Nat.le_refl _⟩
              · obtain ⟨p, hp, hm⟩ := ihl hl
                by_cases hc : a.i ≤ p.i
                · exact ⟨a, .head _, fun q hq => by
                    cases hq with
                    | head => exact Nat.le_refl _
                    | tail _ hq => exact Nat.le_trans hc (hm q hq)⟩
                · exact ⟨p, .tail _ hp, fun q hq => by
                    cases hq with
                    | head => omega
                    | tail _ hq => exact hm q hq⟩
          exact this Rm (by intro e; rw [e] at hRm; cases hRm)
        obtain ⟨p, hp, hm⟩ := hmin
        have hpS := hS p (hRS p hp)
        have hmem : p.i ∈ Region.ready .any ops (marks l0 T) := by
          refine mem_ready.2 ⟨?_, ?_⟩
          · rw [hget]
            rw [if_neg (fun ⟨q, hq, e⟩ => hTR q hq p hp e)]
            exact hpS.1.1.2
          · have hlt' : p.i < ops.size := hpS.1.1.1
            refine ⟨ops[p.i], Array.getElem?_eq_getElem hlt', fun e he hb => ?_⟩
            rw [hget]
            split
            · rfl
            · rename_i hx
              cases hl0 : l0.getD e.on false with
              | true => rfl
              | false =>
                exfalso
                have hdir : e.on ∈ direct ops pre p.i := (mem_direct (Array.getElem?_eq_getElem hlt')).2 ⟨e, he, hb, hl0t _ hl0, rfl⟩
                obtain ⟨hlt2, q, hq, hqe⟩ := hpS.1.2 _ hdir
                rcases hsplit q hq with hqT | hqR
                · exact hx ⟨q, hqT, hqe⟩
                · have := hm q hqR; omega
        rw [h0] at hmem
        cases hmem
      · -- one that is ready is one of S
        have hri := hready i hi
        obtain ⟨h1, o, ho, h2⟩ := mem_ready.1 hi
        rw [hget] at h1
        have hiT : ¬ ∃ p ∈ T, p.i = i := by
          intro hx; rw [if_pos hx] at h1; cases h1
        rw [if_neg hiT] at h1
        have hilt : i < ops.size := (Array.getElem?_eq_some_iff.1 ho).1
        by_cases hiS : ∃ p ∈ S, p.i = i
        case neg =>
          rcases hout i hilt with (((hx | hx) | hx) | hx) | ⟨e, he, hx⟩
          · rw [h1] at hx; cases hx
          · exact absurd hx hiS
          · exfalso
            cases Rm with
            | nil => cases hRm
            | cons p Rm =>
              have := hx p (hRS p (.head _))
              obtain ⟨q, hq, hqe⟩ := hclo 16 i hri _ (memN_iff.1 this)
              exact hTR q hq p (.head _) hqe
          · exact hesc k T Rm i hRm hperm hcl hnT hx (fun j hj => hclo 16 i hri j hj) hiS w N L γ R tmps ds hr hn
          · obtain ⟨q, hq, hqe⟩ := hclo 16 i hri e he
            exact absurd ⟨q, hTS q hq, hqe⟩ (hescS e hx)
        have hiR : ∃ p ∈ Rm, p.i = i := by
          obtain ⟨q, hq, hqe⟩ := hiS
          rcases hsplit q hq with hqT | hqR
          · exact absurd ⟨q, hqT, hqe⟩ hiT
          · exact ⟨q, hqR, hqe⟩
        obtain ⟨p, hpR, rfl⟩ := hiR
        obtain ⟨A, B, rfl⟩ := List.append_of_mem hpR
        have hperm' : ((p :: T) ++ (A ++ B)).Perm S := by
          refine List.Perm.trans ?_ hperm
          have : (T ++ (A ++ p :: B)).Perm (p :: (T ++ (A ++ B))) := by
            rw [← List.append_assoc, ← List.append_assoc]; exact List.perm_middle
          exact this.symm
        have hpS := hS p (hRS p hpR)
        obtain ⟨S', hS', hspok⟩ := hsp p (hRS p hpR)
        have hcl' : ∀ q ∈ p :: T, ∀ e ∈ direct ops pre q.i, ∃ r ∈ p :: T, r.i = e := by
          intro q hq e he
          cases hq with
          | head => obtain ⟨r, hr, e'⟩ := hri e he; exact ⟨r, .tail _ hr, e'⟩
          | tail _ hq => obtain ⟨r, hr, e'⟩ := hcl q hq e he; exact ⟨r, .tail _ hr, e'⟩
        have hfresh : ∀ d, p.d = some d → anyOf (.s d) (ents T E0) = false := by
          intro d hdp
          have hx := hpS.2
          rw [hdp] at hx
          simp only [Bool.and_eq_true, Bool.not_eq_true', List.all_eq_true, Bool.or_eq_true, beq_iff_eq] at hx
          refine anyOf_ents hx.1 fun q hq d' u hd' hu => ?_
          rcases hx.2 q (hTS q hq) with e | ⟨e1, e2⟩
          · exact absurd e (hTR q hq p hpR)
          · refine ⟨fun e => ?_, ?_⟩
            · simp only [Loc.s.injEq] at e; subst e; simp [hd'] at e1
            · rw [hu] at e2
              simp only [Bool.or_eq_true, Bool.not_eq_true', memN_iff] at e2
              rcases e2 with e2 | e2
              · exact e2
              · obtain ⟨r, hr, hre⟩ := hclo 16 q.i (hcl q hq) _ e2
                exact absurd hre (hTR r hr p hpR)
        have hSub : Sub (ents (near ops pre S' p.i) E0) (ents T E0) := by
          intro l u hl
          refine look_of_mem hnT ?_
          rcases mem_ents (look_mem hl) with ⟨q, hq, d, hqd, hqv, rfl⟩ | hm
          · simp only [near, forceN_eq, mem_filt] at hq
            obtain ⟨r, hr, hre⟩ := hclo 16 p.i hri _ hq.2
            have := hinj r (hTS r hr) q (hS' q hq.1) hre
            subst this
            rw [ents_eq, List.mem_append, List.mem_filterMap]
            exact .inl ⟨r, hr, by simp [Sp.ent, hqd, hqv]⟩
          · rw [ents_eq, List.mem_append]; exact .inr hm
        have hrun := hspok _ hSub hfresh w N L γ R tmps ds hr hn
        have hnT' : ((ents (p :: T) E0).map Prod.fst).Nodup := by
          simp only [ents, Sp.add]
          split
          · rename_i e he
            simp only [List.map_cons, List.nodup_cons]
            refine ⟨fun hm => ?_, hnT⟩
            simp only [Sp.ent] at he
            split at he
            · rename_i d v hd' hv'
              cases he
              obtain ⟨⟨l', u⟩, hm1, e⟩ := List.mem_map.1 hm
              exact (anyOf_mem (hfresh d hd') hm1).1 e
            · cases he
          · exact hnT
        have hnext := ih (p :: T) (A ++ B) (by simp at hRm ⊢; omega) hperm' hcl' hnT'
        refine wpOpIn_mono2 hrun (fun a1 w1 hmid => ?_) (fun _ _ _ h => h.elim)
        obtain ⟨E1, N1, L1, γ1, R1, rfl, hA⟩ := hmid
        exact hA.continueA hnext
theorem filt_eq (c : List Nat) : ∀ (S : List Sp), filt c S = S.filter (fun q => memN q.i c)
  | [] => rfl
  | q :: S => by
    simp only [filt, List.filter_cons, filt_eq c S]
    split <;> simp_all
def filtN (c : List Nat) : List Sp → List Sp
  | [] => []
  | q :: S => match memN q.i c with | true => filtN c S | false => q :: filtN c S
theorem filtN_eq (c : List Nat) : ∀ (S : List Sp), filtN c S = S.filter (fun q => !memN q.i c)
  | [] => rfl
  | q :: S => by
    simp only [filtN, List.filter_cons, filtN_eq c S]
    split <;> simp_all
def OpF (P : Program) (F : Fence) (n : Nat) (K : List Nat) (o : Oper) (B B' : Env) : Prop :=
  ∀ X : Env, ((X ++ B).map Prod.fst).Nodup → (∀ d, o.dst = some d → anyOf (.s d) X = false) → (∀ l, anyOf l X = true → True) → OpTo P F n K o (X ++ B) (X ++ B')
def OpFS (P : Program) (F : Fence) (n : Nat) (K : List Nat) (o : Oper) (Z B B' : Env) : Prop :=
  ∀ X : Env, ((X ++ B).map Prod.fst).Nodup → (∀ d, o.dst = some d → anyOf (.s d) X = false) → (∀ p ∈ X, p ∈ Z) → OpTo P F n K o (X ++ B) (X ++ B')
theorem OpF.toS {P : Program} {F : Fence} {n : Nat} {K : List Nat} {o : Oper} {B B' : Env} (h : OpF P F n K o B B') (Z : Env) : OpFS P F n K o Z B B' := fun X h1 h2 _ => h X h1 h2 (fun _ _ => trivial)
theorem OpFS.one {P : Program} {F : Fence} {n : Nat} {K : List Nat} {o : Oper} {z : Loc × V} {B B' : Env} (h1 : OpTo P F n K o B B') (h2 : OpTo P F n K o (z :: B) (z :: B')) : OpFS P F n K o [z] B B' := by
  intro X hn _ hX
  cases X with
  | nil => exact h1
  | cons x X =>
    have e1 := hX x (.head _)
    simp only [List.mem_singleton] at e1
    subst e1
    cases X with
    | nil => exact h2
    | cons y X =>
      have e2 := hX y (.tail _ (.head _))
      simp only [List.mem_singleton] at e2
      subst e2
      simp at hn
def depC (ops : Array Oper) (l0 : Array Bool) (pre : List Nat) (S : List Sp) (c : Nat) (dst : Option Nat) : Bool :=
  ((List.range ops.size).all fun j => l0.getD j true || (S.any fun q => q.i == j) || j == c || memN c (cl ops pre j)) && !(S.any fun q => q.i == c) && !memN c pre && Nat.blt c ops.size && ((direct ops pre c).all fun e => S.any fun q => q.i == e) &&
  (match dst with | none => true | some d => S.all fun q => !(q.d == some d) && (match q.v with | some u => !(u.men (.s d)) | none => true))
theorem anyOf_iff {l : Loc} {E : Env} : anyOf l E = false ↔ ∀ p ∈ E, p.1 ≠ l ∧ p.2.men l = false := by
  induction E with
  | nil => simp [anyOf]
  | cons p E ih =>
    obtain ⟨k, v⟩ := p
    simp only [anyOf, Bool.or_eq_false_iff, ih, List.mem_cons, forall_eq_or_imp]
    refine ⟨fun h => ⟨⟨lq_ne h.1.1, h.1.2⟩, h.2⟩, fun h => ⟨⟨?_, h.1.2⟩, h.2⟩⟩
    cases hq : lq k l with
    | false => rfl
    | true => exact absurd (lq_iff.1 hq) h.1.1
theorem AD.finCS {l0 : Array Bool} {pre : List Nat} {fuel fuel2 : Nat} {Q : Env → Prop} {E0 : Env} {S : List Sp} (c : Nat) (X2 : List Sp) {oc : Oper} {B B' : Env} {S2 : List Sp} {l1 : Array Bool} {pre1 : List Nat}
    (hoc : ops[c]? = some oc) (hgc : oc.guard = none) (hB : force (ents (near ops pre S c) E0) some = some B) (hc : OpFS P F n K oc ((filtN (cl ops pre c) S).filterMap Sp.ent) B B')
    (hok : VL.finC ops l0 pre S E0 (fun j => Nat.beq j c) = true) (hdep : depC ops l0 pre S c oc.dst = true) (hS2 : X2 ++ filtN (cl ops pre c) S = S2) (hl1 : (marks l0 (near ops pre S c)).setIfInBounds c true = l1) (hp1 : c :: ((near ops pre S c).map (·.i) ++ pre) = pre1)
    (hds2 : DS P F n K ops pre1 B' S2) (hok2 : VL.finC ops l1 pre1 S2 B' (fun _ => false) = true) (hend : AA P F n K ops (marks l1 S2) fuel2 Q (ents S2 B')) (hfuel : fuel = fuel2 + X2.length + 1 + S.length) : AD P F n K ops l0 pre fuel Q E0 S [] := by
  intro hd
  subst hfuel
  have hokS := hok
  have hokS2 := hok2
  simp only [VL.finC, Bool.and_eq_true, beq_iff_eq, decide_eq_true_eq, List.all_eq_true, Bool.not_eq_true', List.any_eq_true, Bool.or_eq_true, List.mem_range, Nat.blt_eq] at hok
  obtain ⟨⟨⟨⟨⟨hsz, hpre⟩, hpreL⟩, hnd⟩, hS⟩, hout⟩ := hok
  simp only [depC, Bool.and_eq_true, List.all_eq_true, List.mem_range, Bool.or_eq_true, List.any_eq_true, beq_iff_eq, Bool.not_eq_true', Nat.blt_eq] at hdep
  obtain ⟨⟨⟨⟨⟨hd1, hd2⟩, hd3⟩, hd4⟩, hd6⟩, hd5⟩ := hdep
  have hd2 : ¬ ∃ p ∈ S, p.i = c := by
    rintro ⟨p, hp, e⟩
    have : (S.any fun q => q.i == c) = true := List.any_eq_true.2 ⟨p, hp, by simpa using e⟩
    rw [hd2] at this; cases this
  have hds := hd (fun p hp d hpd => by
    have := (hS p hp).2
    rw [hpd] at this
    simp only [Bool.and_eq_true, Bool.not_eq_true'] at this
    exact this.1)
  rw [force_eq] at hB
  have hB := Option.some.inj hB
  have hnear : near ops pre S c = S.filter (fun q => memN q.i (cl ops pre c)) := by rw [near, forceN_eq, filt_eq]
  rw [hnear] at hB hl1 hp1
  rw [filtN_eq] at hS2
  have hlt : ∀ p ∈ S, p.i < l0.size := fun p hp => by rw [hsz]; exact (hS p hp).1.1.1
  have hSnd : S.Nodup := by
    have := hnd
    exact List.Pairwise.imp (fun h e => h (by rw [e])) (List.pairwise_map.1 this)
  have hinj : ∀ p ∈ S, ∀ q ∈ S, p.i = q.i → p = q := by
    intro p hp q hq e
    obtain ⟨a, ha, e1⟩ := List.getElem_of_mem hp
    obtain ⟨b, hb, e2⟩ := List.getElem_of_mem hq
    have := List.nodup_iff_pairwise_ne.1 hnd
    rw [List.pairwise_iff_getElem] at this
    rcases Nat.lt_trichotomy a b with hl | hl | hl
    · have hx := this a b (by simpa using ha) (by simpa using hb) hl
      simp only [List.getElem_map, e1, e2] at hx
      exact absurd e hx
    · subst hl; rw [e1] at e2; exact e2
    · have hx := this b a (by simpa using hb) (by simpa using ha) hl
      simp only [List.getElem_map, e1, e2] at hx
      exact absurd e.symm hx
  have hmain2 := AA.mainC (fuel := fuel2) (Q := Q) hds2 hokS2 (fun _ h => by cases h) hend (fun _ _ _ _ _ _ _ _ h => by cases h)
  -- c runs where its own are done
  have step : ∀ (m : Nat) (T Rm : List Sp), Rm.length = m → (T ++ Rm).Perm S → (∀ p ∈ T, ∀ e ∈ direct ops pre p.i, ∃ q ∈ T, q.i = e) → ((ents T E0).map Prod.fst).Nodup → (∀ j ∈ cl ops pre c, ∃ q ∈ T, q.i = j) →
      ∀ (w : World) (N L : Cells) (γ : Gh) (R : Loc → Blocks) (tmps : Array Value) (ds : List Deferred), Rel P w N L tmps γ R (ents T E0) → tmps.size = n →
      wpOpIn F 0 P ops (Post P n K w N L R tmps ds (fun e => match e with | .normal => Q | _ => fun _ => False)) c (wpAnyIn F 0 P .any ops (Post P n K w N L R tmps ds (fun e => match e with | .normal => Q | _ => fun _ => False)) (fuel2 + X2.length + m) ((marks l0 T).setIfInBounds c true)) ⟨tmps, ds⟩ w := by
    intro m T Rm hm hperm hcl hnT hcc w N L γ R tmps ds hr hn
    have hTS : ∀ p ∈ T, p ∈ S := fun p hp => hperm.mem_iff.1 (List.mem_append_left _ hp)
    have hTnd : (T ++ Rm).Nodup := hperm.nodup_iff.2 hSnd
    have hTnd1 : T.Nodup := (List.nodup_append.1 hTnd).1
    have hScT : ∀ p ∈ S, memN p.i (cl ops pre c) = true → p ∈ T := by
      intro p hp hmem
      obtain ⟨q, hq, e⟩ := hcc p.i (memN_iff.1 hmem)
      have := hinj q (hTS q hq) p hp e
      subst this; exact hq
    -- T is what c needs, and the rest
    have hsc : (T.filter (fun q => memN q.i (cl ops pre c))).Perm (S.filter (fun q => memN q.i (cl ops pre c))) := by
      refine (List.perm_ext_iff_of_nodup (hTnd1.filter _) (hSnd.filter _)).2 fun p => ?_
      simp only [List.mem_filter]
      exact ⟨fun h => ⟨hTS p h.1, h.2⟩, fun h => ⟨hScT p h.1 h.2, h.2⟩⟩
    have hTperm : T.Perm (T.filter (fun q => !memN q.i (cl ops pre c)) ++ S.filter (fun q => memN q.i (cl ops pre c))) := by
      have h1 : (T.filter (fun q => !memN q.i (cl ops pre c)) ++ T.filter (fun q => memN q.i (cl ops pre c))).Perm T := by
        have := List.filter_append_perm (fun q : Sp => !memN q.i (cl ops pre c)) T
        simpa using this
      exact h1.symm.trans (List.Perm.append_left _ hsc)
    generalize hT2 : T.filter (fun q => !memN q.i (cl ops pre c)) = T2 at hTperm
    have hents : (ents T E0).Perm (T2.filterMap Sp.ent ++ B) := by
      have e : ents (T2 ++ S.filter (fun q => memN q.i (cl ops pre c))) E0 = T2.filterMap Sp.ent ++ B := by
        rw [ents_eq, List.filterMap_append, List.append_assoc, ← hB, ents_eq]
      rw [← e]
      exact ents_perm hTperm E0
    have hX : ((T2.filterMap Sp.ent ++ B).map Prod.fst).Nodup := (hents.map _).nodup_iff.1 hnT
    have hr' := hr.sub (E' := T2.filterMap Sp.ent ++ B) (fun t v hm => hents.mem_iff.2 hm) hX
    have hfree : ∀ d, oc.dst = some d → anyOf (.s d) (T2.filterMap Sp.ent) = false := by
      intro d hdd
      rw [hdd] at hd5
      simp only [List.all_eq_true, Bool.and_eq_true, Bool.not_eq_true', beq_eq_false_iff_ne] at hd5
      refine anyOf_iff.2 fun x hx => ?_
      obtain ⟨q, hq, he⟩ := List.mem_filterMap.1 hx
      rw [← hT2] at hq
      have hqS := hTS q (List.mem_filter.1 hq).1
      obtain ⟨k1, k2⟩ := hd5 q hqS
      simp only [Sp.ent] at he
      split at he
      · rename_i d' v h1 h2
        cases he
        rw [h2] at k2
        refine ⟨fun e => ?_, by simpa using k2⟩
        simp only [Loc.s.injEq] at e
        subst e
        exact k1 h1
      · cases he
    have hrun : OpA P F n K ops c (T2.filterMap Sp.ent ++ B) (T2.filterMap Sp.ent ++ B') := .run hoc hgc (hc _ hX hfree (fun x hx => by
      obtain ⟨q, hq, he⟩ := List.mem_filterMap.1 hx
      rw [← hT2] at hq
      rw [filtN_eq]
      exact List.mem_filterMap.2 ⟨q, List.mem_filter.2 ⟨hTS q (List.mem_filter.1 hq).1, (List.mem_filter.1 hq).2⟩, he⟩))
    refine wpOpIn_mono2 (hrun w N L γ R tmps ds hr' hn) (fun a1 w1 hmid => ?_) (fun _ _ _ h => h.elim)
    obtain ⟨E1, N1, L1, γ1, R1, rfl, hA⟩ := hmid
    have hB' : ents T2 B' = T2.filterMap Sp.ent ++ B' := ents_eq ..
    have hRmN : ∀ p ∈ Rm, memN p.i (cl ops pre c) = false := by
      intro p hp
      cases hmm : memN p.i (cl ops pre c) with
      | false => rfl
      | true =>
        have hpT := hScT p (hperm.mem_iff.1 (List.mem_append_right _ hp)) hmm
        exact absurd rfl ((List.nodup_append.1 hTnd).2.2 p hpT p hp)
    have hperm2 : (T2 ++ (Rm ++ X2)).Perm S2 := by
      have h1 := hperm.filter (fun q => !memN q.i (cl ops pre c))
      rw [List.filter_append, hT2] at h1
      rw [List.filter_eq_self.2 (fun p hp => by rw [hRmN p hp]; rfl)] at h1
      rw [← hS2, ← List.append_assoc]
      exact (h1.append_right X2).trans List.perm_append_comm
    have hmemT2 : ∀ p, p ∈ T2 ↔ p ∈ T ∧ memN p.i (cl ops pre c) = false := by
      intro p
      rw [← hT2, List.mem_filter]
      simp
    have hcl2 : ∀ p ∈ T2, ∀ e ∈ direct ops pre1 p.i, ∃ q ∈ T2, q.i = e := by
      intro p hp e he
      have hpT := ((hmemT2 p).1 hp).1
      have hilt := (hS p (hTS p hpT)).1.1.1
      have hop := Array.getElem?_eq_getElem hilt
      obtain ⟨ed, h1, h2, h3, h4⟩ := (mem_direct hop).1 he
      have h3' : e ∉ pre1 := fun hx => by
        rw [← h4, ← memN_iff] at hx
        rw [hx] at h3; cases h3
      rw [← hp1] at h3'
      simp only [List.mem_cons, List.mem_append, not_or] at h3'
      have he0 : e ∈ direct ops pre p.i := (mem_direct hop).2 ⟨ed, h1, h2, by
        cases hmm : memN ed.on pre with
        | false => rfl
        | true => rw [h4] at hmm; exact absurd (memN_iff.1 hmm) h3'.2.2, h4⟩
      obtain ⟨q, hq, hqe⟩ := hcl p hpT e he0
      refine ⟨q, (hmemT2 q).2 ⟨hq, ?_⟩, hqe⟩
      cases hmm : memN q.i (cl ops pre c) with
      | false => rfl
      | true =>
        exact absurd (List.mem_map.2 ⟨q, List.mem_filter.2 ⟨hTS q hq, hmm⟩, hqe⟩) h3'.2.1
    have hmarks : (marks l0 T).setIfInBounds c true = marks l1 T2 := by
      have hl0T := fun p hp => hlt p (hTS p hp)
      have hSclt : ∀ p ∈ S.filter (fun q => memN q.i (cl ops pre c)), p.i < l0.size := fun p hp => hlt p (List.mem_filter.1 hp).1
      have hl1sz : l1.size = l0.size := by rw [← hl1]; simp [marks_size]
      have hl1T : ∀ p ∈ T2, p.i < l1.size := fun p hp => by rw [hl1sz]; exact hl0T p ((hmemT2 p).1 hp).1
      apply Array.ext
      · simp [marks_size, hl1sz]
      · intro j h1 h2
        have hj0 : j < l0.size := by simpa [marks_size] using h1
        have a2 := marks_get l1 T2 hl1T j false
        have a1 := marks_get l0 T hl0T j false
        have a3 := marks_get l0 _ hSclt j false
        have e3 : ((marks l0 T).setIfInBounds c true).getD j false = (marks l1 T2).getD j false := by
          rw [a2, ← hl1]
          by_cases hjc : c = j
          · subst hjc
            have hcs : c < (marks l0 T).size := by rw [marks_size]; exact hj0
            have hcs2 : c < (marks l0 (S.filter (fun q => memN q.i (cl ops pre c)))).size := by rw [marks_size]; exact hj0
            simp [hcs, hcs2]
          · rw [getD_set_ne false hjc, getD_set_ne false hjc, a1, a3]
            by_cases hx : ∃ p ∈ T, p.i = j
            · rw [if_pos hx]
              obtain ⟨p, hp, hpe⟩ := hx
              by_cases hmm : memN p.i (cl ops pre c) = true
              · by_cases hy : ∃ p ∈ T2, p.i = j
                · rw [if_pos hy]
                · rw [if_neg hy, if_pos ⟨p, List.mem_filter.2 ⟨hTS p hp, hmm⟩, hpe⟩]
              · rw [if_pos ⟨p, (hmemT2 p).2 ⟨hp, by simpa using hmm⟩, hpe⟩]
            · rw [if_neg hx, if_neg (fun ⟨p, hp, hpe⟩ => hx ⟨p, ((hmemT2 p).1 hp).1, hpe⟩), if_neg (fun ⟨p, hp, hpe⟩ => hx ⟨p, hScT p (List.mem_filter.1 hp).1 (List.mem_filter.1 hp).2, hpe⟩)]
        simp only [Array.getD_eq_getD_getElem?, Array.getElem?_eq_getElem h1, Array.getElem?_eq_getElem h2, Option.getD_some] at e3
        exact e3
    rw [hmarks]
    have hnext := hmain2 (m + X2.length) T2 (Rm ++ X2) (by simp [hm]) hperm2 hcl2 (by rw [hB']; exact hA.rel.nd)
    rw [hB', show fuel2 + (m + X2.length) = fuel2 + X2.length + m by omega] at hnext
    exact hA.continueA hnext
  have hend1 : AA P F n K ops (marks l0 S) (fuel2 + X2.length + 1) Q (ents S E0) := by
    intro w N L γ R tmps ds hr hn
    have hclS : ∀ p ∈ S, ∀ e ∈ direct ops pre p.i, ∃ q ∈ S, q.i = e := by
      intro p hp e he
      obtain ⟨_, q, hq, hqe⟩ := (hS p hp).1.2 e he
      exact ⟨q, hq, by simpa using hqe⟩
    have hget := marks_get l0 S hlt
    have hl0T : ∀ (j : Nat), l0.getD j false = true → memN j pre = true := fun j h => by
      have hjl : j < l0.size := by
        rcases Nat.lt_or_ge j l0.size with h' | h'
        · exact h'
        · simp [Array.getD_eq_getD_getElem?, Array.getElem?_eq_none h'] at h
      have := hpre j (by omega)
      rw [← this]
      simp only [Array.getD_eq_getD_getElem?, Array.getElem?_eq_getElem hjl, Option.getD_some] at h ⊢
      exact h
    have hl0f : ∀ (j : Nat), j < ops.size → l0.getD j false = false → memN j pre = false := fun j hj h => by
      cases hm : memN j pre with
      | false => rfl
      | true =>
        have := hpre j hj
        rw [hm] at this
        have hjl : j < l0.size := by omega
        simp only [Array.getD_eq_getD_getElem?, Array.getElem?_eq_getElem hjl, Option.getD_some] at this h
        rw [this] at h; cases h
    have hready : ∀ i ∈ Region.ready .any ops (marks l0 S), (∀ e ∈ direct ops pre i, ∃ q ∈ S, q.i = e) := by
      intro i hi e he
      obtain ⟨h1, o, ho, h2⟩ := mem_ready.1 hi
      obtain ⟨ed, he1, hb, hl0, rfl⟩ := (mem_direct ho).1 he
      have := h2 ed he1 hb
      rw [hget] at this
      split at this
      · rename_i hx; exact hx
      · rw [hl0T _ this] at hl0; cases hl0
    have hclo : ∀ (m i : Nat), (∀ e ∈ direct ops pre i, ∃ q ∈ S, q.i = e) → ∀ j ∈ clo ops pre m i, ∃ q ∈ S, q.i = j := by
      intro m
      induction m with
      | zero => intro i _ j hj; cases hj
      | succ m ihm =>
        intro i hi j hj
        simp only [clo, List.mem_append, List.mem_flatMap] at hj
        rcases hj with hj | ⟨e, he, hj⟩
        · exact hi j hj
        · obtain ⟨q, hq, rfl⟩ := hi e he
          exact ihm q.i (hclS q hq) j hj
    have honly : ∀ i ∈ Region.ready .any ops (marks l0 S), i = c := by
      intro i hi
      obtain ⟨h1, o, ho, h2⟩ := mem_ready.1 hi
      rw [hget] at h1
      have hiS : ¬ ∃ p ∈ S, p.i = i := by intro hx; rw [if_pos hx] at h1; cases h1
      rw [if_neg hiS] at h1
      have hilt : i < ops.size := (Array.getElem?_eq_some_iff.1 ho).1
      rcases hd1 i hilt with ((hx | ⟨q, hq, hqe⟩) | hx) | hx
      · rw [h1] at hx; cases hx
      · exact absurd ⟨q, hq, by simpa using hqe⟩ hiS
      · exact hx
      · exact absurd (hclo 16 i (hready i hi) c (memN_iff.1 hx)) hd2
    have hcready : c ∈ Region.ready .any ops (marks l0 S) := by
      refine mem_ready.2 ⟨?_, oc, hoc, fun e he hb => ?_⟩
      · rw [hget, if_neg hd2]
        have := hpre c hd4
        rwa [hd3] at this
      · rw [hget]
        split
        · rfl
        · rename_i hx
          cases hl0 : l0.getD e.on false with
          | true => rfl
          | false =>
            exfalso
            have hmp : memN e.on pre = false := by
              cases hm : memN e.on pre with
              | false => rfl
              | true =>
                have hj := hpreL _ (memN_iff.1 hm)
                have := hl0f _ hj hl0
                rw [hm] at this; cases this
            obtain ⟨q, hq, hqe⟩ := hd6 e.on ((mem_direct hoc).2 ⟨e, he, hb, hmp, rfl⟩)
            exact hx ⟨q, hq, hqe⟩
    refine ⟨fun h0 => ?_, fun i hi => ?_⟩
    · rw [h0] at hcready; cases hcready
    · obtain rfl := honly i hi
      have := step 0 S [] rfl (by simp) hclS (by
        exact hr.nd) (fun j hj => by
          exact hclo 16 i (hready i hi) j hj) w N L γ R tmps ds hr hn
      exact this
  have hstart := AA.mainC (fuel := fuel2 + X2.length + 1) (Q := Q) hds hokS (fun e he => by have : e = c := Nat.eq_of_beq_eq_true he; subst this; exact hd2) hend1 (fun k T Rm c' hk hperm hcl hnT he hcc hns w N L γ R tmps ds hr hn => by
    have : c' = c := Nat.eq_of_beq_eq_true he
    subst this
    have := step (k + 1) T Rm hk hperm hcl hnT hcc w N L γ R tmps ds hr hn
    rw [show fuel2 + X2.length + 1 + k = fuel2 + X2.length + (k + 1) by omega]
    exact this) S.length [] S rfl (by simp) (by intro p hp; cases hp)
  intro w N L γ R tmps ds hr hn
  exact hstart hr.nd w N L γ R tmps ds hr hn
theorem AD.finC {l0 : Array Bool} {pre : List Nat} {fuel fuel2 : Nat} {Q : Env → Prop} {E0 : Env} {S : List Sp} (c : Nat) (X2 : List Sp) {oc : Oper} {B B' : Env} {S2 : List Sp} {l1 : Array Bool} {pre1 : List Nat}
    (hoc : ops[c]? = some oc) (hgc : oc.guard = none) (hB : force (ents (near ops pre S c) E0) some = some B) (hc : OpF P F n K oc B B')
    (hok : VL.finC ops l0 pre S E0 (fun j => Nat.beq j c) = true) (hdep : depC ops l0 pre S c oc.dst = true) (hS2 : X2 ++ filtN (cl ops pre c) S = S2) (hl1 : (marks l0 (near ops pre S c)).setIfInBounds c true = l1) (hp1 : c :: ((near ops pre S c).map (·.i) ++ pre) = pre1)
    (hds2 : DS P F n K ops pre1 B' S2) (hok2 : VL.finC ops l1 pre1 S2 B' (fun _ => false) = true) (hend : AA P F n K ops (marks l1 S2) fuel2 Q (ents S2 B')) (hfuel : fuel = fuel2 + X2.length + 1 + S.length) : AD P F n K ops l0 pre fuel Q E0 S [] :=
  AD.finCS c X2 hoc hgc hB (hc.toS _) hok hdep hS2 hl1 hp1 hds2 hok2 hend hfuel
theorem Sub.right {X B : Env} (hn : ((X ++ B).map Prod.fst).Nodup) : Sub B (X ++ B) := fun l u h => look_of_mem hn (List.mem_append_right _ (look_mem h))
theorem upd_right {X B : Env} {l : Loc} {v u : V} (hn : ((X ++ B).map Prod.fst).Nodup) (h : look B l = some u) : VL.upd l v (X ++ B) = X ++ VL.upd l v B := by
  have hx : ∀ p ∈ X, lq p.1 l = false := by
    intro p hp
    cases hq : lq p.1 l with
    | false => rfl
    | true =>
      have := lq_iff.1 hq
      rw [List.map_append, List.nodup_append] at hn
      exact absurd this (hn.2.2 p.1 (List.mem_map_of_mem hp) l (List.mem_map.2 ⟨_, look_mem h, rfl⟩))
  clear hn
  induction X with
  | nil => rfl
  | cons p X ih =>
    obtain ⟨k, w⟩ := p
    have h1 := hx _ (.head _)
    simp only [List.cons_append, VL.upd, h1]
    rw [ih (fun q hq => hx q (.tail _ hq))]
theorem OpTo.permR {E1 E2 : Env} (h : OpTo P F n K o E E1) (hp : E2.Perm E1) : OpTo P F n K o E E2 := by
  intro w N L γ R tmps ds hr hn
  refine wpIn_mono_op (h w N L γ R tmps ds hr hn) (fun a1 w1 hm => ?_) (fun _ _ _ h => h)
  obtain ⟨E3, N1, L1, γ1, R1, rfl, hA⟩ := hm
  exact ⟨E2, N1, L1, γ1, R1, rfl, hA.rel.sub (fun t v hm => hp.mem_iff.1 hm) ((hp.map _).nodup_iff.2 hA.rel.nd), hA.size, hA.defers, hA.kept, hA.later, hA.own⟩
theorem partO_mono (hs : Sub E E') {x : Operand} {r} (h : partO E x = some r) : partO E' x = some r := by
  cases x with
  | tmp t =>
    simp only [partO] at h ⊢
    cases hlk : look E (.s t) with
    | none => rw [hlk] at h; cases h
    | some v =>
      rw [hs _ _ hlk]
      rw [hlk] at h
      have key : (match rowO E (.tmp t) with | some (l, _, _, xs) => some (l, 0, 0, xs.length) | none => none) = some r → (match rowO E' (.tmp t) with | some (l, _, _, xs) => some (l, 0, 0, xs.length) | none => none) = some r := by
        intro h
        split at h
        · rename_i h1; rw [rowO_mono hs h1]; exact h
        · cases h
      cases v <;> first | exact h | exact key h
  | _ => cases h
theorem OpF.copy (hF : Wide F) {c : Call} (ho : o.op = .call c) (hc : c.callee = .builtin .copy) {x y : Operand} (hargs : c.args = #[x, y]) {t t' : Nat} (hts : c.argTypes = #[t, t']) {ti ui : TI} (hti : mkTI P t = some ti) {e : Nat} (hk : ti.kind = .slice e) (hui : mkTI P e = some ui)
    {l : Loc} {i0 oo m : Nat} (hx : partO E x = some (l, i0, oo, m)) (hoo : oo = i0 * ui.size) {xs : List (List D)} (hl : look E l = some (.row true e xs)) {ys : List (List D)} (hy : ∀ E', Sub E E' → readO E' y = some ys ∧ readE E' y e = true) (hyk : lens ui.size ys)
    (hfit : i0 + m ≤ xs.length) {d : Nat} (hd : o.dst = some d) (hok : okD n K d (.kt) = true) (ha : anyOf (.s d) E = false)
    (hE' : force ((.s d, Iv .i64 ((min ys.length m : Nat) : Int)) :: VL.upd l (.row true e (xs.take i0 ++ ys.take m ++ xs.drop (i0 + min ys.length m))) E) some = some E') : OpF P F n K o E E' := by
  intro X hn hX _
  rw [force_eq] at hE'
  have hE' := Option.some.inj hE'
  have hs := Sub.right hn
  have h1 := OpTo.copy (P := P) (n := n) (K := K) (E := X ++ E) hF ho hc hargs hts hti hk hui (partO_mono hs hx) hoo (hs _ _ hl) (hy _ hs).1 hyk (hy _ hs).2 hfit hd hok (anyOf_iff.2 fun p hp => by
    rcases List.mem_append.1 hp with hp | hp
    · exact anyOf_iff.1 (hX d hd) p hp
    · exact anyOf_iff.1 ha p hp)
  rw [upd_right hn hl] at h1
  refine h1.permR ?_
  rw [← hE']
  exact List.perm_middle
theorem OpF.store (hF : Wide F) {t : Nat} {a x : Operand} (ho : o.op = .store t a x) (hd : o.dst = none) {ti : TI} (hti : mkTI P t = some ti) {l : Loc} {e off : Nat} {cs : List V} (hp : ptrO E a = some (.box l e cs off)) (hl : look E l = some (.bx e cs)) {v : V} (hx : copyO E x = some v)
    (hsz : (cellsV v).length = ti.size) (hin : off + ti.size ≤ cs.length) (hE' : force (VL.upd l (.bx e (splice cs off (cellsV v))) E) some = some E') : OpF P F n K o E E' := by
  intro X hn hX _
  rw [force_eq] at hE'
  have hE' := Option.some.inj hE'
  have hs := Sub.right hn
  have h1 := OpTo.store (P := P) (n := n) (K := K) (E := X ++ E) hF ho hd hti (ptrO_mono hs hp) (copyO_mono hs hx) hsz hin
  rw [upd_right hn hl, hE'] at h1
  exact h1
theorem DS.ofVals (hF : Wide F) (hτ : ∀ t ti, τ t = some ti → mkTI P t = some ti) {pre : List Nat} {E0 : Env} {is : List Nat} {S : List Sp} (h : valsD τ n K ops pre E0 [] is = (S, [])) (hn : newD S E0) : DS P F n K ops pre E0 S :=
  DS.vals hF hτ is [] S [] h (fun _ => .nil) hn
theorem newD_of {S : List Sp} {E0 : Env} (h : (S.all fun p => match p.d with | some d => !anyOf (.s d) E0 | none => true) = true) : newD S E0 := by
  intro p hp d hd
  have := List.all_eq_true.1 h p hp
  rw [hd] at this
  simpa using this
end
end Go.Proofs.VL
