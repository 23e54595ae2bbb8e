import Derived.Test.YtndffogfaocchaaGreatW02
import Derived.OrdersIn
set_option linter.unusedVariables false
set_option linter.unusedSimpArgs false
set_option linter.unusedSectionVars false
namespace Go.Proofs.VL
open Go Go.RowKit
variable {P : Program}
def Sub (E E' : Env) : Prop := ∀ l u, look E l = some u → look E' l = some u
theorem Sub.refl (E : Env) : Sub E E := fun _ _ h => h
theorem Sub.trans {E1 E2 E3 : Env} (h : Sub E1 E2) (k : Sub E2 E3) : Sub E1 E3 := fun l u hl => k l u (h l u hl)
theorem Sub.cons {E E' : Env} {l : Loc} {v : V} (h : Sub E E') (ha : anyOf l E' = false) : Sub E ((l, v) :: E') := by
  intro l' u hl
  have := h l' u hl
  simp only [look]
  split
  · rename_i hq
    obtain rfl := lq_iff.1 hq
    exact absurd rfl (anyOf_mem ha (look_mem this)).1
  · exact this
section
variable {E E' : Env} (hs : Sub E E')
include hs
theorem owner_mono : ∀ (k : Nat) (l l' : Loc) (v : V), owner E k l = some (l', v) → owner E' k l = some (l', v) := by
  intro k
  induction k with
  | zero => intro l l' v h; cases h
  | succ k ih =>
    intro l l' v h
    simp only [owner] at h ⊢
    split at h
    · rename_i l1 h1; rw [hs _ _ h1]; exact ih _ _ _ h
    · rename_i u hu h1
      rw [hs _ _ h1]
      cases u <;> first | exact h | (exact absurd rfl (hu _)) 
    · cases h
theorem own_mono {l : Loc} {r} (h : own E l = some r) : own E' l = some r := owner_mono hs _ _ _ _ h
theorem getO_mono {x : Operand} {v : V} (h : getO E x = some v) : getO E' x = some v := by
  cases x <;> first | exact hs _ _ h | exact h
theorem copyO_mono {x : Operand} {v : V} (h : copyO E x = some v) : copyO E' x = some v := by
  cases x with
  | tmp t =>
    simp only [copyO] at h ⊢
    split at h
    · rename_i u hu; rw [hs _ _ hu]; exact h
    · cases h
  | _ => exact h
theorem pickO_mono {x : Operand} {v : V} (h : pickO E x = some v) : pickO E' x = some v := by
  unfold pickO at h ⊢
  split at h
  · exact h
  · exact h
  · exact copyO_mono hs h
theorem ptrAt_mono {l : Loc} {o : Nat} {p : Ptr} (h : ptrAt E l o = some p) : ptrAt E' l o = some p := by
  simp only [ptrAt] at h ⊢
  split at h
  · rename_i h1; rw [own_mono hs h1]; exact h
  · rename_i h1; rw [own_mono hs h1]; exact h
  · cases h
theorem ptrO_mono {x : Operand} {p : Ptr} (h : ptrO E x = some p) : ptrO E' x = some p := by
  cases x with
  | tmp t =>
    simp only [ptrO] at h ⊢
    split at h
    · rename_i h1; rw [hs _ _ h1]; exact ptrAt_mono hs h
    · rename_i u hu h1
      rw [hs _ _ h1]
      cases u <;> first | exact ptrAt_mono hs h | exact absurd rfl (hu _ _)
    · cases h
  | _ => cases h
theorem nonNil_mono {x : Operand} (h : nonNil E x = true) : nonNil E' x = true := by
  cases x with
  | tmp t =>
    simp only [nonNil] at h ⊢
    split at h
    · rename_i h1; rw [hs _ _ h1]
    · rename_i h1; rw [hs _ _ h1]
    · rename_i u hu1 hu2 h1
      rw [hs _ _ h1]
      split at h
      · rename_i h2; cases u <;> first | rfl | (simp only [own_mono hs h2])
      · rename_i h2; cases u <;> first | rfl | (simp only [own_mono hs h2])
      · rename_i h2; cases u <;> first | rfl | (simp only [own_mono hs h2])
      · cases h
    · cases h
  | _ => cases h
theorem lenO_mono {x : Operand} {xs} (h : lenO E x = some xs) : lenO E' x = some xs := by
  cases x with
  | tmp t =>
    simp only [lenO] at h ⊢
    split at h
    · rename_i h1; rw [own_mono hs h1]; exact h
    · cases h
  | _ =>
    simp only [lenO] at h ⊢
    split at h
    · rename_i h1; rw [getO_mono hs h1]; exact h
    · cases h
theorem fill_mono {place : Nat → Option (Nat × Nat)} : ∀ (ps : List (Nat × Operand)) (cs cs' : List V), fillParts E place cs ps = some cs' → fillParts E' place cs ps = some cs' := by
  intro ps
  induction ps with
  | nil => intro cs cs' h; exact h
  | cons p ps ih =>
    obtain ⟨i, x⟩ := p
    intro cs cs' h
    simp only [fillParts] at h ⊢
    split at h
    · rename_i o n v h1 h2
      rw [h1, copyO_mono hs h2]
      split at h
      · rename_i hc
        simp only [hc]
        exact ih _ _ h
      · cases h
    · cases h
theorem capsO_mono : ∀ (xs : List Operand) (vs : List V), capsO E xs = some vs → capsO E' xs = some vs := by
  intro xs
  induction xs with
  | nil => intro vs h; exact h
  | cons x xs ih =>
    intro vs h
    simp only [capsO] at h ⊢
    split at h
    · rename_i h1 h2; rw [copyO_mono hs h1, ih _ h2]; exact h
    · cases h
theorem fieldV_mono {x : Operand} {off : Nat} {v : V} (h : fieldV E x off = some v) : fieldV E' x off = some v := by
  cases x with
  | tmp t =>
    simp only [fieldV] at h ⊢
    split at h
    · rename_i h1; rw [hs _ _ h1]; exact h
    · rename_i h1; rw [hs _ _ h1]; exact h
    · rename_i u hu1 hu2 h1
      rw [hs _ _ h1]
      split at h
      · rename_i h2; cases u <;> first | (simp only [own_mono hs h2]; exact h) | exact absurd rfl (hu1 _ _) | exact absurd rfl (hu2 _ _)
      · rename_i h2; cases u <;> first | (simp only [own_mono hs h2]; exact h) | exact absurd rfl (hu1 _ _) | exact absurd rfl (hu2 _ _)
      · cases h
    · cases h
  | _ => cases h
theorem valO_mono {τ : Nat → Option TI} {o : Oper} {v : V} (h : valO τ E o = some v) : valO τ E' o = some v := by
  unfold valO at h ⊢
  split at h
  · split at h
    · rename_i h1; rw [copyO_mono hs h1]; exact h
    · rename_i x h1 h2
      have h3 : ∀ {x : Operand} {v : V}, tupO E x = some v → copyO E' x = none ∧ tupO E' x = some v := by
        intro x v h
        cases x with
        | tmp t =>
          simp only [tupO] at h ⊢
          split at h
          · rename_i vs hl; rw [hs _ _ hl]; exact ⟨by simp [copyO, hs _ _ hl, copyAt, isOwned, plain], h⟩
          · cases h
        | _ => cases h
      obtain ⟨h4, h5⟩ := h3 h
      rw [h4]; exact h5
  · split at h
    · exact h
    · exact copyO_mono hs h
  · split at h
    · rename_i h1; rw [getO_mono hs h1]; exact pickO_mono hs h
    · rename_i h1; rw [getO_mono hs h1]; exact pickO_mono hs h
    · cases h
  · exact h
  · split at h
    · rename_i h1 h2; rw [copyO_mono hs h1, h2]; exact h
    · cases h
  · split at h
    · rename_i ti hti
      split at h
      · rename_i offs ts hk
        split at h
        · cases h
        · rename_i hall
          split at h
          · rename_i cs hcs; simp only [fill_mono hs _ _ _ hcs]; exact h
          · cases h
      · rename_i len e hk
        split at h
        · rename_i ui hui
          split at h
          · rename_i cs hcs; simp only [fill_mono hs _ _ _ hcs]; exact h
          · cases h
        · cases h
      · cases h
    · cases h
  · split at h
    · rename_i h1 h2; rw [ptrO_mono hs h1, h2]; exact h
    · rename_i h1 h2; rw [ptrO_mono hs h1, h2]; exact h
    · cases h
  · split at h
    · rename_i h1 h2; rw [nonNil_mono hs h1, copyO_mono hs h2]; exact h
    · cases h
  · split at h
    · rename_i h1 h2; rw [copyO_mono hs h1, copyO_mono hs h2]; exact h
    · cases h
  · split at h
    · rename_i h1; rw [getO_mono hs h1]; exact h
    · cases h
  · split at h
    · rename_i h1 h2 h3; rw [copyO_mono hs h1, h2, h3]; exact h
    · cases h
  · split at h
    · rename_i ti hti
      split at h
      · split at h
        · split at h
          · split at h
            · rename_i hz hv; simp only [hz, fieldV_mono hs hv]; exact h
            · cases h
          · cases h
        · cases h
      · cases h
    · cases h
  · split at h
    · rename_i h1 h2; rw [h1, copyO_mono hs h2]; exact h
    · cases h
  · split at h
    · rename_i h1; rw [hs _ _ h1]; exact h
    · cases h
  · split at h
    · rename_i h1 h2; rw [h1, capsO_mono hs _ _ h2]; exact h
    · cases h
  · split at h
    · split at h
      · rename_i h1 h2; simp only [lenO_mono hs h1, h2]; exact h
      · cases h
    · cases h
  · cases h
end
section
variable {F : Fence} {n : Nat} {K : List Nat} {o : Oper} {E E' : Env} {τ : Nat → Option TI}
def OpM (P : Program) (F : Fence) (n : Nat) (K : List Nat) (o : Oper) (E : Env) (d : Nat) (v : V) : Prop :=
  ∀ E', Sub E E' → anyOf (.s d) E' = false → OpTo P F n K o E' ((.s d, v) :: E')
def okD (n : Nat) (K : List Nat) (d : Nat) (v : V) : Bool := Nat.blt d n && !(K.contains d) && !(v.men (.s d))
theorem setO_fresh {dst : Option Nat} {d : Nat} {v : V} (hd : dst = some d) (hok : okD n K d v = true) (ha : anyOf (.s d) E = false) : setO n K dst v E = some ((.s d, v) :: E) := by
  subst hd
  simp only [okD] at hok
  simp only [setO, hok, VL.put, ha]
theorem OpM.val (hF : Wide F) (hτ : ∀ t ti, τ t = some ti → mkTI P t = some ti) {d : Nat} {v : V} (hd : o.dst = some d) (h : valO τ E o = some v) (hok : okD n K d v = true) : OpM P F n K o E d v :=
  fun E' hs ha => valO_ok hF hτ (valO_mono hs h) (setO_fresh hd hok ha)
theorem OpM.mono {d : Nat} {v : V} (h : OpM P F n K o E d v) (hs : Sub E E') : OpM P F n K o E' d v := fun E2 h2 ha => h E2 (hs.trans h2) ha
theorem AL.opM {ops : Array Oper} {l : List Oper} {Q : Env → Prop} {d : Nat} {v : V} (h : OpM P F n K o E d v) (hg : o.guard = none) (ha : anyOf (.s d) E = false) (hl : AL P F n K ops l Q ((.s d, v) :: E)) : AL P F n K ops (o :: l) Q E :=
  .op hg (h E (.refl E) ha) hl
theorem AL.opMT {ops : Array Oper} {l : List Oper} {Q : Env → Prop} {d : Nat} {v : V} {j d' : Nat} {want : Bool} {oj : Oper} {u : V} (h : OpM P F n K o E d v) (hg : o.guard = some (j, want)) (hj : ops[j]? = some oj) (hd : oj.dst = some d') (hlk : look E (.s d') = some u) (hv : boolV u = some want)
    (ha : anyOf (.s d) E = false) (hl : AL P F n K ops l Q ((.s d, v) :: E)) : AL P F n K ops (o :: l) Q E :=
  .opT hg hj hd hlk hv (h E (.refl E) ha) hl
end
end Go.Proofs.VL
namespace Go.Proofs.VL
open Go Go.RowKit
variable {P : Program}
section
variable {F : Fence} {n : Nat} {K : List Nat} {o : Oper} {E E' : Env} {τ : Nat → Option TI} {ops : Array Oper}
theorem wpOpIn_mono2 {i : Nat} {a : Act} {w : World} {k k' : Act → World → Prop} {Q Q' : Exit → Act → World → Prop} (h : wpOpIn F 0 P ops Q i k a w) (hk : ∀ a w, k a w → k' a w) (hq : ∀ e a w, Q e a w → Q' e a w) : wpOpIn F 0 P ops Q' i k' a w := by
  unfold wpOpIn at *
  split
  · rename_i h0; simp only [h0] at h; exact hk _ _ h
  · rename_i o ho
    simp only [ho] at h
    split
    · rename_i hw; simp only [hw, if_true] at h; exact wpIn_mono_op h hk hq
    · rename_i hw; simp only [hw] at h; exact ⟨h.1, hk _ _ h.2⟩
theorem wpAnyIn_mono {Q Q' : Exit → Act → World → Prop} (hq : ∀ e a w, Q e a w → Q' e a w) {md : Region.Mode} : ∀ (fuel : Nat) (listed : Array Bool) (a : Act) (w : World), wpAnyIn F 0 P md ops Q fuel listed a w → wpAnyIn F 0 P md ops Q' fuel listed a w := by
  intro fuel
  induction fuel with
  | zero => exact fun l a w h => ⟨h.1, hq _ _ _ h.2⟩
  | succ k ih => exact fun l a w h => ⟨fun h0 => hq _ _ _ (h.1 h0), fun i hi => wpOpIn_mono2 (h.2 i hi) (fun a w h => ih _ _ _ h) hq⟩
def AA (P : Program) (F : Fence) (n : Nat) (K : List Nat) (ops : Array Oper) (listed : Array Bool) (fuel : Nat) (Q : Env → Prop) (E : Env) : Prop :=
  ∀ (w : World) (N L : Cells) (γ : Gh) (R : Loc → Blocks) (tmps : Array Value) (ds : List Deferred), Rel P w N L tmps γ R E → tmps.size = n →
    wpAnyIn F 0 P .any ops (Post P n K w N L R tmps ds (fun e => match e with | .normal => Q | _ => fun _ => False)) fuel listed ⟨tmps, ds⟩ w
theorem At.continueA {fuel : Nat} {listed : Array Bool} {Q : Env → Prop} {w w1 : World} {N L N1 L1 : Cells} {γ1 : Gh} {R R1 : Loc → Blocks} {tmps : Array Value} {ds : List Deferred} {E1 : Env} {a1 : Act}
    (h : At P n K w N L R tmps ds E1 a1 w1 N1 L1 γ1 R1) (hc : AA P F n K ops listed fuel Q E1) : wpAnyIn F 0 P .any ops (Post P n K w N L R tmps ds (fun e => match e with | .normal => Q | _ => fun _ => False)) fuel listed a1 w1 := by
  have := hc w1 N1 L1 γ1 R1 a1.tmps ds h.rel h.size
  obtain ⟨t1, d1⟩ := a1
  obtain rfl : d1 = ds := h.defers
  exact wpAnyIn_mono (fun e a' w' ⟨E', N', L', γ', R', hq, ha⟩ => ⟨E', N', L', γ', R', hq, h.trans ha⟩) _ _ _ _ this
theorem Rel.drew {w : World} {N L : Cells} {γ : Gh} {R : Loc → Blocks} {tmps : Array Value} (hr : Rel P w N L tmps γ R E) : Rel P { w with drawn := w.drawn + 1 } N L tmps γ R E :=
  ⟨fun l v hm => let ⟨c, h1, h2⟩ := hr.rep l v hm; ⟨c, h1, h2.world (Nat.le_refl _) (fun _ _ => rfl) hr.NL (fun _ _ _ _ h => h) (fun _ _ h => h) (fun _ _ h => h) (fun _ _ _ h => h) (fun _ _ _ h => h)⟩, hr.nd, hr.dis, hr.lt, hr.NL, hr.Llt⟩
theorem AW.draw {id : Nat} {Q : Exit → Env → Prop} (hm : P.follows .mixedOrders = true) (h : AA P F n K ops (Array.replicate ops.size false) ops.size (Q .normal) E) : AW P F n K (.region id ops true) Q E := by
  intro w N L γ R tmps ds hr hn
  refine wpIn_region_any hm ?_
  have := h _ N L γ R tmps ds hr.drew hn
  refine wpAnyIn_mono (fun e a' w' hp => ?_) _ _ _ _ this
  obtain ⟨E', N', L', γ', R', hq, ha⟩ := hp
  have hA : At P n K w N L R tmps ds E ⟨tmps, ds⟩ { w with drawn := w.drawn + 1 } N L γ R := ⟨hr.drew, hn, rfl, fun _ _ => rfl, ⟨rfl, rfl, rfl, Nat.le_refl _, fun _ _ _ => rfl, fun _ _ _ _ h => h, fun _ _ h => h, fun _ _ h => h, fun _ _ h => .inl h, fun _ _ h => .inl h⟩, fun _ h => .inl h⟩
  cases e <;> first | exact ⟨E', N', L', γ', R', hq, hA.trans ha⟩ | exact hq.elim
theorem AA.ent {listed : Array Bool} {fuel : Nat} {Q : Env → Prop} (he : Ent P E E') (h : AA P F n K ops listed fuel Q E') : AA P F n K ops listed fuel Q E := by
  intro w N L γ R tmps ds hr hn
  obtain ⟨N', L', γ', R', h1, h2, h3⟩ := he w N L γ R tmps hr
  exact At.continueA (E1 := E') (N1 := N') (L1 := L') (γ1 := γ') (R1 := R') (a1 := ⟨tmps, ds⟩) ⟨h1, hn, rfl, fun _ _ => rfl, h2, fun x hx => .inl (h3 x hx)⟩ h
theorem AA.split {listed : Array Bool} {fuel : Nat} {Q : Env → Prop} (d : Nat) {v : V} {b : Bool} (hlk : look E (.s d) = some v) (hv : boolV v = some b) (ht : b = true → AA P F n K ops listed fuel Q (VL.upd (.s d) .kt E)) (hf : b = false → AA P F n K ops listed fuel Q (VL.upd (.s d) .kf E)) : AA P F n K ops listed fuel Q E := by
  refine AA.ent (Ent.known (.s d) hlk hv) ?_
  cases b with
  | true => exact ht rfl
  | false => exact hf rfl
theorem AA.perm {listed : Array Bool} {fuel : Nat} {Q : Env → Prop} (hp : E'.Perm E) (h : AA P F n K ops listed fuel Q E') : AA P F n K ops listed fuel Q E :=
  fun w N L γ R tmps ds hr hn => h w N L γ R tmps ds (hr.sub (fun t v hm => hp.mem_iff.1 hm) ((hp.map _).nodup_iff.2 hr.nd)) hn
def OpA (P : Program) (F : Fence) (n : Nat) (K : List Nat) (ops : Array Oper) (i : Nat) (E E' : Env) : Prop :=
  ∀ (w : World) (N L : Cells) (γ : Gh) (R : Loc → Blocks) (tmps : Array Value) (ds : List Deferred), Rel P w N L tmps γ R E → tmps.size = n →
    wpOpIn F 0 P ops (fun _ _ _ => False) i (Mid P n K w N L R tmps ds (· = E')) ⟨tmps, ds⟩ w
theorem OpA.run {i : Nat} (hi : ops[i]? = some o) (hg : o.guard = none) (h : OpTo P F n K o E E') : OpA P F n K ops i E E' := by
  intro w N L γ R tmps ds hr hn
  simp only [wpOpIn, hi, Region.wanted, hg, if_true]
  exact h w N L γ R tmps ds hr hn
theorem OpA.runT {i j d : Nat} {want : Bool} {oj : Oper} {v : V} (hi : ops[i]? = some o) (hg : o.guard = some (j, want)) (hj : ops[j]? = some oj) (hd : oj.dst = some d) (hlk : look E (.s d) = some v) (hv : boolV v = some want) (h : OpTo P F n K o E E') : OpA P F n K ops i E E' := by
  intro w N L γ R tmps ds hr hn
  simp only [wpOpIn, hi, Region.wanted, hg, yielded_of hr hj hd hlk hv, beq_self_eq_true, if_true]
  exact h w N L γ R tmps ds hr hn
theorem OpA.runF (hF : Wide F) {i j d : Nat} {want b : Bool} {oj : Oper} {v : V} (hi : ops[i]? = some o) (hg : o.guard = some (j, want)) (hj : ops[j]? = some oj) (hd : oj.dst = some d) (hlk : look E (.s d) = some v) (hv : boolV v = some b) (hb : b ≠ want)
    (hs : ∀ e, o.dst = some e → anyOf (.s e) E = false ∧ K.contains e = false) : OpA P F n K ops i E E := by
  intro w N L γ R tmps ds hr hn
  have hw : Region.wanted o (yielded ops tmps) = false := by
    simp only [Region.wanted, hg, yielded_of hr hj hd hlk hv]
    simpa using hb
  simp only [wpOpIn, hi, hw, Bool.false_eq_true, if_false]
  refine ⟨fun f _ => hF.fn f, ?_⟩
  cases hd' : o.dst with
  | none => exact ⟨E, N, L, γ, R, rfl, At.start hr hn⟩
  | some e =>
    obtain ⟨h1, h2⟩ := hs e hd'
    refine ⟨E, N, L, γ, R, rfl, hr.put_none undef h1, by simp [Act.put, hn], rfl, fun k hk => ?_, Later.refl .., fun _ h => .inl h⟩
    have : k ≠ e := by rintro rfl; simp at h2; exact h2 hk
    simp [Act.put, Array.getElem?_setIfInBounds_ne (Ne.symm this)]
structure Sp where
  i : Nat
  d : Option Nat
  v : Option V
def Sp.ent (p : Sp) : Option (Loc × V) := match p.d, p.v with | some d, some v => some (.s d, v) | _, _ => none
def Sp.add (p : Sp) (E : Env) : Env := match p.ent with | some e => e :: E | none => E
def ents : List Sp → Env → Env
  | [], E => E
  | p :: S, E => p.add (ents S E)
theorem ents_eq (S : List Sp) (E : Env) : ents S E = S.filterMap Sp.ent ++ E := by
  induction S with
  | nil => rfl
  | cons p S ih =>
    simp only [ents, Sp.add, ih]
    cases h : p.ent <;> simp [List.filterMap_cons, h]
theorem ents_perm {S T : List Sp} (h : S.Perm T) (E : Env) : (ents S E).Perm (ents T E) := by
  rw [ents_eq, ents_eq]
  exact (h.filterMap _).append_right _
def memN (j : Nat) : List Nat → Bool
  | [] => false
  | k :: l => match Nat.beq k j with | true => true | false => memN j l
theorem memN_iff {j : Nat} {l : List Nat} : memN j l = true ↔ j ∈ l := by
  induction l with
  | nil => simp [memN]
  | cons k l ih =>
    simp only [memN, List.mem_cons]
    split
    · rename_i h; have := Nat.eq_of_beq_eq_true h; subst this; simp
    · rename_i h
      rw [ih]
      refine ⟨.inr, fun h' => h'.resolve_left (fun e => ?_)⟩
      subst e
      rw [Nat.beq_refl] at h
      cases h
def nthO : List Oper → Nat → Option Oper
  | [], _ => none
  | o :: _, 0 => some o
  | _ :: l, i + 1 => nthO l i
theorem nthO_eq : ∀ (l : List Oper) (i : Nat), nthO l i = l[i]? := by
  intro l
  induction l with
  | nil => intro i; rfl
  | cons o l ih =>
    intro i
    cases i with
    | zero => rfl
    | succ i => simpa [nthO] using ih i
def bindE (e : Edge) : Bool := match e.ground with | .textOnly _ => false | .gcOnly _ => false | _ => true
theorem bindE_eq (e : Edge) : Region.binds .any e = bindE e := by
  unfold Region.binds bindE
  cases e.ground <;> rfl
def dirL (pre : List Nat) : List Edge → List Nat
  | [] => []
  | e :: es => match bindE e, memN e.on pre with | true, false => e.on :: dirL pre es | _, _ => dirL pre es
theorem mem_dirL {pre : List Nat} {es : List Edge} {j : Nat} : j ∈ dirL pre es ↔ ∃ e ∈ es, bindE e = true ∧ memN e.on pre = false ∧ e.on = j := by
  induction es with
  | nil => simp [dirL]
  | cons e es ih =>
    simp only [dirL]
    split
    · rename_i h1 h2
      simp only [List.mem_cons, ih, exists_eq_or_imp, h1, h2, true_and]
      constructor
      · rintro (rfl | h)
        · exact .inl rfl
        · exact .inr h
      · rintro (h | h)
        · exact .inl h.symm
        · exact .inr h
    · rename_i hne
      rw [ih]
      simp only [List.mem_cons, exists_eq_or_imp]
      refine ⟨.inr, fun h => h.resolve_left (fun h' => hne h'.1 h'.2.1)⟩
def direct (ops : Array Oper) (pre : List Nat) (i : Nat) : List Nat := match nthO ops.toList i with
  | some o => dirL pre o.after.toList
  | none => []
theorem mem_direct {ops : Array Oper} {pre : List Nat} {i j : Nat} {o : Oper} (ho : ops[i]? = some o) : j ∈ direct ops pre i ↔ ∃ e ∈ o.after, Region.binds .any e = true ∧ memN e.on pre = false ∧ e.on = j := by
  have : nthO ops.toList i = some o := by rw [nthO_eq]; simpa using ho
  simp only [direct, this, mem_dirL, bindE_eq, Array.mem_toList_iff]
def clo (ops : Array Oper) (pre : List Nat) : Nat → Nat → List Nat
  | 0, _ => []
  | k + 1, i => direct ops pre i ++ (direct ops pre i).flatMap (clo ops pre k)
def cl (ops : Array Oper) (pre : List Nat) (i : Nat) : List Nat := clo ops pre 16 i
def forceN {α : Type} : List Nat → (List Nat → α) → α
  | [], k => k []
  | v :: vs, k => forceN vs fun vs' => k (v :: vs')
theorem forceN_eq {α : Type} (l : List Nat) (k : List Nat → α) : forceN l k = k l := by
  induction l generalizing k with
  | nil => rfl
  | cons v vs ih => simp only [forceN, ih]
def filt (c : List Nat) : List Sp → List Sp
  | [] => []
  | q :: S => match memN q.i c with | true => q :: filt c S | false => filt c S
theorem mem_filt {c : List Nat} {S : List Sp} {q : Sp} : q ∈ filt c S ↔ q ∈ S ∧ q.i ∈ c := by
  induction S with
  | nil => simp [filt]
  | cons p S ih =>
    simp only [filt]
    split
    · rename_i h
      have := memN_iff.1 h
      simp only [List.mem_cons, ih]
      constructor
      · rintro (rfl | h)
        · exact ⟨.inl rfl, this⟩
        · exact ⟨.inr h.1, h.2⟩
      · rintro ⟨rfl | h, h2⟩
        · exact .inl rfl
        · exact .inr ⟨h, h2⟩
    · rename_i h
      have : p.i ∉ c := fun hm => by rw [memN_iff.2 hm] at h; cases h
      simp only [List.mem_cons, ih]
      constructor
      · exact fun h => ⟨.inr h.1, h.2⟩
      · rintro ⟨rfl | h, h2⟩
        · exact absurd h2 this
        · exact ⟨h, h2⟩
def SpOK (P : Program) (F : Fence) (n : Nat) (K : List Nat) (ops : Array Oper) (p : Sp) (E : Env) : Prop :=
  ∀ E', Sub E E' → (∀ d, p.d = some d → anyOf (.s d) E' = false) → OpA P F n K ops p.i E' (p.add E')
def near (ops : Array Oper) (pre : List Nat) (S : List Sp) (i : Nat) : List Sp := forceN (cl ops pre i) fun c => filt c S
inductive DS (P : Program) (F : Fence) (n : Nat) (K : List Nat) (ops : Array Oper) (pre : List Nat) (E0 : Env) : List Sp → Prop
  | nil : DS P F n K ops pre E0 []
  | cons (p : Sp) (S : List Sp) (h : DS P F n K ops pre E0 S) (hp : SpOK P F n K ops p (ents (near ops pre S p.i) E0)) : DS P F n K ops pre E0 (p :: S)
def marks (l0 : Array Bool) (S : List Sp) : Array Bool := S.foldr (fun p l => l.setIfInBounds p.i true) l0
def finOK (ops : Array Oper) (l0 : Array Bool) (pre : List Nat) (S : List Sp) (E0 : Env) : Bool :=
  l0.size == ops.size && ((List.range ops.size).all fun j => l0.getD j true == memN j pre) && (pre.all fun j => Nat.blt j ops.size) &&
  decide (S.map (·.i)).Nodup &&
  (S.all fun p => Nat.blt p.i ops.size && !l0.getD p.i true && ((direct ops pre p.i).all fun e => Nat.blt e p.i && (S.any fun q => q.i == e)) &&
    (match p.d with
     | some d => !anyOf (.s d) E0 && (S.all fun q => q.i == p.i || (!(q.d == some d) && (match q.v with | some u => !(u.men (.s d)) || memN p.i (cl ops pre q.i) | none => true)))
     | none => true)) &&
  ((List.range ops.size).all fun j => l0.getD j true || (S.any fun q => q.i == j) || (S.all fun p => memN p.i (cl ops pre j)))
theorem marks_get (l0 : Array Bool) (S : List Sp) (h : ∀ p ∈ S, p.i < l0.size) (j : Nat) (b : Bool) : (marks l0 S).getD j b = if (∃ p ∈ S, p.i = j) then true else l0.getD j b := by
  induction S with
  | nil => simp [marks]
  | cons p S ih =>
    have ih := ih (fun q hq => h q (.tail _ hq))
    have hsz : (marks l0 S).size = l0.size := by
      have : ∀ (S : List Sp), (marks l0 S).size = l0.size := by
        intro S
        induction S with
        | nil => rfl
        | cons p S ih => simpa [marks] using ih
      exact this S
    have e : marks l0 (p :: S) = (marks l0 S).setIfInBounds p.i true := rfl
    rw [e]
    by_cases hj : p.i = j
    · subst hj
      have := h p (.head _)
      rw [if_pos ⟨p, .head _, rfl⟩]
      simp [hsz, this]
    · rw [getD_set_ne b hj, ih]
      simp only [List.mem_cons, exists_eq_or_imp, hj, false_or]
theorem marks_size (l0 : Array Bool) (S : List Sp) : (marks l0 S).size = l0.size := by
  induction S with
  | nil => rfl
  | cons p S ih => simpa [marks] using ih
theorem mem_ents {S : List Sp} {l : Loc} {u : V} (h : (l, u) ∈ ents S E) : (∃ p ∈ S, ∃ d, p.d = some d ∧ p.v = some u ∧ l = .s d) ∨ (l, u) ∈ E := by
  rw [ents_eq, List.mem_append, List.mem_filterMap] at h
  rcases h with ⟨p, hp, he⟩ | h
  · simp only [Sp.ent] at he
    split at he
    · rename_i d v h1 h2; cases he; exact .inl ⟨p, hp, d, h1, h2, rfl⟩
    · cases he
  · exact .inr h
theorem look_of_mem {E : Env} (hn : (E.map Prod.fst).Nodup) {l : Loc} {v : V} (h : (l, v) ∈ E) : look E l = some v := by
  induction E with
  | nil => cases h
  | cons p E ih =>
    obtain ⟨k, u⟩ := p
    simp only [List.map_cons, List.nodup_cons] at hn
    simp only [look]
    cases h with
    | head => rw [lq_iff.2 rfl]
    | tail _ h =>
      have : lq k l = false := by
        cases hq : lq k l with
        | false => rfl
        | true => exact absurd (List.mem_map_of_mem (f := Prod.fst) h) (by have := lq_iff.1 hq; subst this; exact hn.1)
      rw [this]
      exact ih hn.2 h
theorem anyOf_ents {T : List Sp} {d : Loc} (h0 : anyOf d E = false) (h : ∀ q ∈ T, ∀ d' u, q.d = some d' → q.v = some u → .s d' ≠ d ∧ u.men d = false) : anyOf d (ents T E) = false := by
  induction T with
  | nil => exact h0
  | cons p T ih =>
    have ih := ih (fun q hq => h q (.tail _ hq))
    simp only [ents, Sp.add, Sp.ent]
    split
    · rename_i e he
      split at he
      · rename_i d' v h1 h2
        cases he
        obtain ⟨k1, k2⟩ := h p (.head _) d' v h1 h2
        simp only [anyOf, k2, ih, Bool.or_false]
        cases hq : lq (.s d') d with
        | false => rfl
        | true => exact absurd (lq_iff.1 hq) k1
      · cases he
    · exact ih
theorem AA.quiet {l0 : Array Bool} {pre : List Nat} {S : List Sp} {fuel : Nat} {Q : Env → Prop} {E0 : Env} (hd : DS P F n K ops pre E0 S) (hok : finOK ops l0 pre S E0 = true) (hnd0 : (E0.map Prod.fst).Nodup) (h : AA P F n K ops (marks l0 S) fuel Q (ents S E0)) : AA P F n K ops l0 (fuel + S.length) Q E0 := by
  simp only [finOK, Bool.and_eq_true, beq_iff_eq, decide_eq_true_eq, List.all_eq_true, Bool.not_eq_true', List.any_eq_true, Bool.or_eq_true, List.mem_range, Nat.blt_eq] at hok
  obtain ⟨⟨⟨⟨⟨hsz, hpre⟩, hpreL⟩, hnd⟩, hS⟩, hout⟩ := hok
  -- what is listed before
  have hl0T : ∀ (j : Nat), l0.getD j false = true → memN j pre = true := fun j h => by
    have hjl : j < l0.size := by
      rcases Nat.lt_or_ge j l0.size with h' | h'
      · exact h'
      · simp [Array.getD_eq_getD_getElem?, Array.getElem?_eq_none h'] at h
    have := hpre j (by omega)
    rw [← this]
    simp only [Array.getD_eq_getD_getElem?, Array.getElem?_eq_getElem hjl, Option.getD_some] at h ⊢
    exact h
  have hpg : ∀ j, j < ops.size → l0.getD j true = memN j pre := hpre
  have hl0f : ∀ (j : Nat), j < ops.size → memN j pre = false → l0.getD j false = false := fun j hj h => by
    have := hpg j hj
    rw [h] at this
    have hjl : j < l0.size := by omega
    simp only [Array.getD_eq_getD_getElem?, Array.getElem?_eq_getElem hjl, Option.getD_some] at this ⊢
    exact this
  have hl0t : ∀ (j : Nat), l0.getD j false = false → memN j pre = false := fun j h => by
    cases hm : memN j pre with
    | false => rfl
    | true =>
      have hj := hpreL j (memN_iff.1 hm)
      have := hpg j hj
      rw [hm] at this
      have hjl : j < l0.size := by omega
      simp only [Array.getD_eq_getD_getElem?, Array.getElem?_eq_getElem hjl, Option.getD_some] at this h
      rw [this] at h; cases h
  have hlt : ∀ p ∈ S, p.i < l0.size := fun p hp => by rw [hsz]; exact (hS p hp).1.1.1
  have hinj : ∀ p ∈ S, ∀ q ∈ S, p.i = q.i → p = q := by
    intro p hp q hq e
    obtain ⟨a, ha, e1⟩ := List.getElem_of_mem hp
    obtain ⟨b, hb, e2⟩ := List.getElem_of_mem hq
    have := List.nodup_iff_pairwise_ne.1 hnd
    rw [List.pairwise_iff_getElem] at this
    rcases Nat.lt_trichotomy a b with hl | hl | hl
    · have hx := this a b (by simpa using ha) (by simpa using hb) hl
      simp only [List.getElem_map, e1, e2] at hx
      exact absurd e hx
    · subst hl; rw [e1] at e2; exact e2
    · have hx := this b a (by simpa using hb) (by simpa using ha) hl
      simp only [List.getElem_map, e1, e2] at hx
      exact absurd e.symm hx
  -- each one's own environment
  have hsp : ∀ p ∈ S, ∃ S' : List Sp, (∀ q ∈ S', q ∈ S) ∧ SpOK P F n K ops p (ents (near ops pre S' p.i) E0) := by
    have : ∀ {S1 : List Sp}, DS P F n K ops pre E0 S1 → (∀ q ∈ S1, q ∈ S) → ∀ p ∈ S1, ∃ S' : List Sp, (∀ q ∈ S', q ∈ S) ∧ SpOK P F n K ops p (ents (near ops pre S' p.i) E0) := by
      intro S1 h1
      induction h1 with
      | nil => intro _ p hp; cases hp
      | cons p S1 h1 hp ih =>
        intro hsub q hq
        cases hq with
        | head => exact ⟨S1, fun q hq => hsub q (.tail _ hq), hp⟩
        | tail _ hq => exact ih (fun q hq => hsub q (.tail _ hq)) q hq
    exact this hd (fun q hq => hq)
  have main : ∀ (k : Nat) (T Rm : List Sp), Rm.length = k → (T ++ Rm).Perm S → (∀ p ∈ T, ∀ e ∈ direct ops pre p.i, ∃ q ∈ T, q.i = e) → ((ents T E0).map Prod.fst).Nodup → AA P F n K ops (marks l0 T) (fuel + k) Q (ents T E0) := by
    intro k
    induction k with
    | zero =>
      intro T Rm hRm hperm hcl hnT
      cases Rm with
      | cons => cases hRm
      | nil =>
        rw [List.append_nil] at hperm
        have e : marks l0 T = marks l0 S := by
          apply Array.ext
          · rw [marks_size, marks_size]
          · intro j h1 h2
            have a1 := marks_get l0 T (fun p hp => hlt p (hperm.mem_iff.1 hp)) j false
            have a2 := marks_get l0 S hlt j false
            have : (∃ p ∈ T, p.i = j) ↔ (∃ p ∈ S, p.i = j) := ⟨fun ⟨p, hp, e⟩ => ⟨p, hperm.mem_iff.1 hp, e⟩, fun ⟨p, hp, e⟩ => ⟨p, hperm.mem_iff.2 hp, e⟩⟩
            have e3 : (marks l0 T).getD j false = (marks l0 S).getD j false := by rw [a1, a2]; simp only [this]
            simpa [Array.getD, h1, h2] using e3
        rw [e]
        exact AA.perm (ents_perm hperm.symm E0) h
    | succ k ih =>
      intro T Rm hRm hperm hcl hnT
      have hTS : ∀ p ∈ T, p ∈ S := fun p hp => hperm.mem_iff.1 (List.mem_append_left _ hp)
      have hRS : ∀ p ∈ Rm, p ∈ S := fun p hp => hperm.mem_iff.1 (List.mem_append_right _ hp)
      have hget := marks_get l0 T (fun p hp => hlt p (hTS p hp))
      have hndi : ((T ++ Rm).map (·.i)).Nodup := (hperm.map _).nodup_iff.2 hnd
      have hTR : ∀ p ∈ T, ∀ q ∈ Rm, p.i ≠ q.i := by
        rw [List.map_append, List.nodup_append] at hndi
        exact fun p hp q hq => hndi.2.2 _ (List.mem_map_of_mem hp) _ (List.mem_map_of_mem hq)
      have hsplit : ∀ p ∈ S, p ∈ T ∨ p ∈ Rm := fun p hp => List.mem_append.1 (hperm.mem_iff.2 hp)
      -- closed sets
      have hclo : ∀ (m i : Nat), (∀ e ∈ direct ops pre i, ∃ q ∈ T, q.i = e) → ∀ j ∈ clo ops pre m i, ∃ q ∈ T, q.i = j := by
        intro m
        induction m with
        | zero => intro i _ j hj; cases hj
        | succ m ihm =>
          intro i hi j hj
          simp only [clo, List.mem_append, List.mem_flatMap] at hj
          rcases hj with hj | ⟨e, he, hj⟩
          · exact hi j hj
          · obtain ⟨q, hq, rfl⟩ := hi e he
            exact ihm q.i (hcl q hq) j hj
      have hready : ∀ i ∈ Region.ready .any ops (marks l0 T), (∀ e ∈ direct ops pre i, ∃ q ∈ T, q.i = e) := by
        intro i hi e he
        obtain ⟨h1, o, ho, h2⟩ := mem_ready.1 hi
        obtain ⟨ed, he1, hb, hl0, rfl⟩ := (mem_direct ho).1 he
        have := h2 ed he1 hb
        rw [hget] at this
        split at this
        · rename_i hx; exact hx
        · rw [hl0T _ this] at hl0; cases hl0
      intro w N L γ R tmps ds hr hn
      refine ⟨fun h0 => ?_, fun i hi => ?_⟩
      · -- something is ready: the least one
        exfalso
        have hmin : ∃ p ∈ Rm, ∀ q ∈ Rm, p.i ≤ q.i := by
          have : ∀ (l : List Sp), l ≠ [] → ∃ p ∈ l, ∀ q ∈ l, p.i ≤ q.i := by
            intro l
            induction l with
            | nil => intro h; exact absurd rfl h
            | cons a l ihl =>
              intro _
              by_cases hl : l = []
              · subst hl; exact ⟨a, .head _, fun q hq => by simp at hq; subst hq; exact Nat.le_refl _⟩
              · obtain ⟨p, hp, hm⟩ := ihl hl
                by_cases hc : a.i ≤ p.i
                · exact ⟨a, .head _, fun q hq => by
                    cases hq with
                    | head => exact Nat.le_refl _
                    | tail _ hq => exact Nat.le_trans hc (hm q hq)⟩
                · exact ⟨p, .tail _ hp, fun q hq => by
                    cases hq with
                    | head => omega
                    | tail _ hq => exact hm q hq⟩
          exact this Rm (by intro e; rw [e] at hRm; cases hRm)
        obtain ⟨p, hp, hm⟩ := hmin
        have hpS := hS p (hRS p hp)
        have hmem : p.i ∈ Region.ready .any ops (marks l0 T) := by
          refine mem_ready.2 ⟨?_, ?_⟩
          · rw [hget]
            rw [if_neg (fun ⟨q, hq, e⟩ => hTR q hq p hp e)]
            exact hpS.1.1.2
          · have hlt' : p.i < ops.size := hpS.1.1.1
            refine ⟨ops[p.i], Array.getElem?_eq_getElem hlt', fun e he hb => ?_⟩
            rw [hget]
            split
            · rfl
            · rename_i hx
              cases hl0 : l0.getD e.on false with
              | true => rfl
              | false =>
                exfalso
                have hdir : e.on ∈ direct ops pre p.i := (mem_direct (Array.getElem?_eq_getElem hlt')).2 ⟨e, he, hb, hl0t _ hl0, rfl⟩
                obtain ⟨hlt2, q, hq, hqe⟩ := hpS.1.2 _ hdir
                rcases hsplit q hq with hqT | hqR
                · exact hx ⟨q, hqT, hqe⟩
                · have := hm q hqR; omega
        rw [h0] at hmem
        cases hmem
      · -- one that is ready is one of S
        have hri := hready i hi
        obtain ⟨h1, o, ho, h2⟩ := mem_ready.1 hi
        rw [hget] at h1
        have hiT : ¬ ∃ p ∈ T, p.i = i := by
          intro hx; rw [if_pos hx] at h1; cases h1
        rw [if_neg hiT] at h1
        have hilt : i < ops.size := (Array.getElem?_eq_some_iff.1 ho).1
        have hiR : ∃ p ∈ Rm, p.i = i := by
          rcases hout i hilt with (hx | ⟨q, hq, hqe⟩) | hx
          · rw [h1] at hx; cases hx
          · rcases hsplit q hq with hqT | hqR
            · exact absurd ⟨q, hqT, hqe⟩ hiT
            · exact ⟨q, hqR, hqe⟩
          · exfalso
            cases Rm with
            | nil => cases hRm
            | cons p Rm =>
              have := hx p (hRS p (.head _))
              obtain ⟨q, hq, hqe⟩ := hclo 16 i hri _ (memN_iff.1 this)
              exact hTR q hq p (.head _) hqe
        obtain ⟨p, hpR, rfl⟩ := hiR
        obtain ⟨A, B, rfl⟩ := List.append_of_mem hpR
        have hperm' : ((p :: T) ++ (A ++ B)).Perm S := by
          refine List.Perm.trans ?_ hperm
          have : (T ++ (A ++ p :: B)).Perm (p :: (T ++ (A ++ B))) := by
            rw [← List.append_assoc, ← List.append_assoc]; exact List.perm_middle
          exact this.symm
        have hpS := hS p (hRS p hpR)
        obtain ⟨S', hS', hspok⟩ := hsp p (hRS p hpR)
        have hcl' : ∀ q ∈ p :: T, ∀ e ∈ direct ops pre q.i, ∃ r ∈ p :: T, r.i = e := by
          intro q hq e he
          cases hq with
          | head => obtain ⟨r, hr, e'⟩ := hri e he; exact ⟨r, .tail _ hr, e'⟩
          | tail _ hq => obtain ⟨r, hr, e'⟩ := hcl q hq e he; exact ⟨r, .tail _ hr, e'⟩
        have hfresh : ∀ d, p.d = some d → anyOf (.s d) (ents T E0) = false := by
          intro d hdp
          have hx := hpS.2
          rw [hdp] at hx
          simp only [Bool.and_eq_true, Bool.not_eq_true', List.all_eq_true, Bool.or_eq_true, beq_iff_eq] at hx
          refine anyOf_ents hx.1 fun q hq d' u hd' hu => ?_
          rcases hx.2 q (hTS q hq) with e | ⟨e1, e2⟩
          · exact absurd e (hTR q hq p hpR)
          · refine ⟨fun e => ?_, ?_⟩
            · simp only [Loc.s.injEq] at e; subst e; simp [hd'] at e1
            · rw [hu] at e2
              simp only [Bool.or_eq_true, Bool.not_eq_true', memN_iff] at e2
              rcases e2 with e2 | e2
              · exact e2
              · obtain ⟨r, hr, hre⟩ := hclo 16 q.i (hcl q hq) _ e2
                exact absurd hre (hTR r hr p hpR)
        have hSub : Sub (ents (near ops pre S' p.i) E0) (ents T E0) := by
          intro l u hl
          refine look_of_mem hnT ?_
          rcases mem_ents (look_mem hl) with ⟨q, hq, d, hqd, hqv, rfl⟩ | hm
          · simp only [near, forceN_eq, mem_filt] at hq
            obtain ⟨r, hr, hre⟩ := hclo 16 p.i hri _ hq.2
            have := hinj r (hTS r hr) q (hS' q hq.1) hre
            subst this
            rw [ents_eq, List.mem_append, List.mem_filterMap]
            exact .inl ⟨r, hr, by simp [Sp.ent, hqd, hqv]⟩
          · rw [ents_eq, List.mem_append]; exact .inr hm
        have hrun := hspok _ hSub hfresh w N L γ R tmps ds hr hn
        have hnT' : ((ents (p :: T) E0).map Prod.fst).Nodup := by
          simp only [ents, Sp.add]
          split
          · rename_i e he
            simp only [List.map_cons, List.nodup_cons]
            refine ⟨fun hm => ?_, hnT⟩
            simp only [Sp.ent] at he
            split at he
            · rename_i d v hd' hv'
              cases he
              obtain ⟨⟨l', u⟩, hm1, e⟩ := List.mem_map.1 hm
              exact (anyOf_mem (hfresh d hd') hm1).1 e
            · cases he
          · exact hnT
        have hnext := ih (p :: T) (A ++ B) (by simp at hRm ⊢; omega) hperm' hcl' hnT'
        refine wpOpIn_mono2 hrun (fun a1 w1 hmid => ?_) (fun _ _ _ h => h.elim)
        obtain ⟨E1, N1, L1, γ1, R1, rfl, hA⟩ := hmid
        exact hA.continueA hnext
  have := main S.length [] S rfl (by simp) (by intro p hp; cases hp) hnd0
  exact this
end
end Go.Proofs.VL
namespace Go.Proofs.VL
open Go Go.RowKit
variable {P : Program}
section
variable {F : Fence} {n : Nat} {K : List Nat} {o : Oper} {E E' : Env} {τ : Nat → Option TI} {ops : Array Oper}
theorem AA.done {listed : Array Bool} {fuel : Nat} {Q : Env → Prop} (hr : Region.ready .any ops listed = []) (h : Q E) : AA P F n K ops listed fuel Q E :=
  fun w N L γ R tmps ds hrel hn => wpAnyIn_done hr ⟨E, N, L, γ, R, h, At.start hrel hn⟩ fuel
def seqOK (ops : Array Oper) : Array Bool → List Nat → Bool
  | listed, [] => (Region.ready .any ops listed).isEmpty
  | listed, i :: is => (match Region.ready .any ops listed with | [j] => Nat.beq j i | _ => false) && (ops[i]?).isSome && seqOK ops (listed.setIfInBounds i true) is
theorem AA.tail {Q : Env → Prop} : ∀ (is : List Nat) (listed : Array Bool) (fuel : Nat), seqOK ops listed is = true → AL P F n K ops (is.filterMap (ops[·]?)) Q E → AA P F n K ops listed (is.length + fuel) Q E := by
  intro is listed fuel hs h w N L γ R tmps ds hr hn
  have := h w N L γ R tmps ds hr hn
  generalize (Post P n K w N L R tmps ds (fun e => match e with | .normal => Q | _ => fun _ => False)) = QQ at this ⊢
  generalize (⟨tmps, ds⟩ : Act) = a at this
  clear h hr hn
  revert a
  generalize w = w1
  revert w1 listed
  induction is with
  | nil =>
    intro listed hs w1 a h
    exact wpAnyIn_done (by simpa [seqOK] using hs) h _
  | cons i is ih =>
    intro listed hs w1 a h
    simp only [seqOK, Bool.and_eq_true] at hs
    obtain ⟨⟨h1, h2⟩, h3⟩ := hs
    split at h1
    · rename_i j hj
      have e : j = i := by simpa using h1
      subst e
      obtain ⟨o, ho⟩ := Option.isSome_iff_exists.1 h2
      simp only [List.filterMap_cons, ho] at h
      rw [show (j :: is).length + fuel = is.length + fuel + 1 by simp; omega]
      refine ⟨fun h0 => ?_, fun k hk => ?_⟩
      · rw [hj] at h0; cases h0
      · rw [hj] at hk
        simp only [List.mem_singleton] at hk
        subst hk
        simp only [wpListIn] at h
        simp only [wpOpIn, ho]
        split
        · rename_i hw
          simp only [hw, if_true] at h
          exact wpIn_mono_op h (fun a w h => ih _ h3 w a h) (fun _ _ _ h => h)
        · rename_i hw
          simp only [hw] at h
          exact ⟨h.1, ih _ h3 w1 _ h.2⟩
    · cases h1
def guardOf (ops : Array Oper) (E : Env) (o : Oper) : Option Bool := match o.guard with
  | none => some true
  | some (j, want) => (match nthO ops.toList j with
    | some oj => (match oj.dst with
      | some d => (match look E (.s d) with | some .kt => some want | some .kf => some (!want) | _ => none)
      | none => none)
    | none => none)
def valsD (τ : Nat → Option TI) (n : Nat) (K : List Nat) (ops : Array Oper) (pre : List Nat) (E0 : Env) : List Sp → List Nat → List Sp × List Nat
  | S, [] => (S, [])
  | S, i :: is => match nthO ops.toList i with
    | some o => (match guardOf ops E0 o, o.dst with
      | some true, some d => (match valO τ (ents (near ops pre S i) E0) o with
        | some v => forceV v fun v => (match okD n K d v with | true => valsD τ n K ops pre E0 (⟨i, some d, some v⟩ :: S) is | false => (S, i :: is))
        | none => (S, i :: is))
      | some false, some d => (match K.contains d with | true => (S, i :: is) | false => valsD τ n K ops pre E0 (⟨i, some d, none⟩ :: S) is)
      | _, _ => (S, i :: is))
    | none => (S, i :: is)
theorem guardOf_sub (hs : Sub E E') {b : Bool} (h : guardOf ops E o = some b) : guardOf ops E' o = some b := by
  unfold guardOf at h ⊢
  split at h
  · exact h
  · split at h
    · split at h
      · split at h
        · rename_i hl; rw [hs _ _ hl]; exact h
        · rename_i hl; rw [hs _ _ hl]; exact h
        · cases h
      · cases h
    · cases h
theorem nthO_some {i : Nat} (h : nthO ops.toList i = some o) : ops[i]? = some o := by rw [nthO_eq] at h; simpa using h
theorem OpA.of_guard {i : Nat} (hi : ops[i]? = some o) (hg : guardOf ops E o = some true) (h : OpTo P F n K o E E') : OpA P F n K ops i E E' := by
  unfold guardOf at hg
  split at hg
  · rename_i hg0; exact .run hi hg0 h
  · rename_i j want hg0
    split at hg
    · rename_i oj hj
      split at hg
      · rename_i d hd
        split at hg
        · rename_i hl; cases hg; exact .runT hi hg0 (nthO_some hj) hd hl rfl h
        · rename_i hl
          cases want
          · exact .runT hi hg0 (nthO_some hj) hd hl rfl h
          · cases hg
        · cases hg
      · cases hg
    · cases hg
theorem OpA.of_guardF (hF : Wide F) {i : Nat} (hi : ops[i]? = some o) (hg : guardOf ops E o = some false) (hs : ∀ e, o.dst = some e → anyOf (.s e) E = false ∧ K.contains e = false) : OpA P F n K ops i E E := by
  unfold guardOf at hg
  split at hg
  · cases hg
  · rename_i j want hg0
    split at hg
    · rename_i oj hj
      split at hg
      · rename_i d hd
        split at hg
        · rename_i hl; cases hg; exact .runF hF hi hg0 (nthO_some hj) hd hl (b := true) rfl (by decide) hs
        · rename_i hl
          cases want
          · cases hg
          · exact .runF hF hi hg0 (nthO_some hj) hd hl (b := false) rfl (by decide) hs
        · cases hg
      · cases hg
    · cases hg
theorem look_ents {S : List Sp} {E0 : Env} (hd : ∀ p ∈ S, ∀ d, p.d = some d → anyOf (.s d) E0 = false) {l : Loc} {u : V} (hl : look E0 l = some u) : look (ents S E0) l = some u := by
  induction S with
  | nil => exact hl
  | cons p S ih =>
    have ih := ih (fun q hq => hd q (.tail _ hq))
    simp only [ents, Sp.add]
    split
    · rename_i e he
      simp only [Sp.ent] at he
      split at he
      · rename_i d v h1 h2
        cases he
        simp only [look]
        split
        · rename_i hq
          have := lq_iff.1 hq
          subst this
          exact absurd rfl (anyOf_mem (hd p (.head _) d h1) (look_mem hl)).1
        · exact ih
      · cases he
    · exact ih
theorem sub_ents {S : List Sp} {E0 E1 : Env} (hs : Sub (ents S E0) E1) (hd : ∀ p ∈ S, ∀ d, p.d = some d → anyOf (.s d) E0 = false) : Sub E0 E1 :=
  fun l u hl => hs l u (look_ents hd hl)
def newD (S : List Sp) (E0 : Env) : Prop := ∀ p ∈ S, ∀ d, p.d = some d → anyOf (.s d) E0 = false
def AD (P : Program) (F : Fence) (n : Nat) (K : List Nat) (ops : Array Oper) (l0 : Array Bool) (pre : List Nat) (fuel : Nat) (Q : Env → Prop) (E0 : Env) (S : List Sp) (is : List Nat) : Prop :=
  (newD S E0 → DS P F n K ops pre E0 S) → AA P F n K ops l0 fuel Q E0
variable {l0 : Array Bool} {pre : List Nat} {fuel : Nat} {Q : Env → Prop} {E0 : Env} {S S' : List Sp} {is is' : List Nat}
theorem AD.start (pre is : List Nat) (h : AD P F n K ops l0 pre fuel Q E0 [] is) : AA P F n K ops l0 fuel Q E0 := h fun _ => .nil
theorem newD.tail {p : Sp} (h : newD (p :: S) E0) : newD S E0 := fun q hq => h q (.tail _ hq)
theorem newD.near {i : Nat} (h : newD S E0) : newD (near ops pre S i) E0 := fun q hq => h q (by simp only [VL.near, forceN_eq, mem_filt] at hq; exact hq.1)
theorem DS.run {i d : Nat} {v : V} (h : DS P F n K ops pre E0 S) (hn : newD S E0) (hi : ops[i]? = some o) (hg : guardOf ops E0 o = some true) (hm : OpM P F n K o (ents (near ops pre S i) E0) d v) : DS P F n K ops pre E0 (⟨i, some d, some v⟩ :: S) :=
  .cons _ _ h fun E' hs hf => .of_guard hi (guardOf_sub (sub_ents hs hn.near) hg) (hm E' hs (hf d rfl))
theorem DS.vals (hF : Wide F) (hτ : ∀ t ti, τ t = some ti → mkTI P t = some ti) : ∀ (is : List Nat) (S S' : List Sp) (is' : List Nat), valsD τ n K ops pre E0 S is = (S', is') → (newD S E0 → DS P F n K ops pre E0 S) → (newD S' E0 → DS P F n K ops pre E0 S') := by
  intro is
  induction is with
  | nil => intro S S' is' h hd; cases h; exact hd
  | cons i is ih =>
    intro S S' is' h hd
    have stuck : (S, i :: is) = (S', is') → (newD S' E0 → DS P F n K ops pre E0 S') := by intro h; cases h; exact hd
    simp only [valsD] at h
    split at h
    · rename_i o hi
      split at h
      · rename_i d hg hdst
        split at h
        · rename_i v hv
          rw [forceV_eq] at h
          split at h
          · rename_i hok
            exact ih _ _ _ h fun hn => .run (hd hn.tail) hn.tail (nthO_some hi) hg (.val hF hτ hdst hv hok)
          · exact stuck h
        · exact stuck h
      · rename_i d hg hdst
        split at h
        · exact stuck h
        · rename_i hk
          refine ih _ _ _ h fun hn => .cons _ _ (hd hn.tail) fun E' hs hf => ?_
          refine .of_guardF hF (nthO_some hi) (guardOf_sub (sub_ents hs hn.tail.near) hg) fun e he => ?_
          rw [hdst] at he
          cases he
          exact ⟨hf _ rfl, hk⟩
      · exact stuck h
    · exact stuck h
theorem AD.vals (hF : Wide F) (hτ : ∀ t ti, τ t = some ti → mkTI P t = some ti) (hv : valsD τ n K ops pre E0 S is = (S', is')) (h : AD P F n K ops l0 pre fuel Q E0 S' is') : AD P F n K ops l0 pre fuel Q E0 S is :=
  fun hd => h (DS.vals hF hτ _ _ _ _ hv hd)
theorem AD.op {i d : Nat} {v : V} {Ei : Env} (hi : ops[i]? = some o) (hg : guardOf ops E0 o = some true) (hE : force (ents (near ops pre S i) E0) some = some Ei) (hm : OpM P F n K o Ei d v) (h : AD P F n K ops l0 pre fuel Q E0 (⟨i, some d, some v⟩ :: S) is) : AD P F n K ops l0 pre fuel Q E0 S (i :: is) :=
  fun hd => h fun hn => .run (hd hn.tail) hn.tail hi hg (by rw [force_eq] at hE; rw [Option.some.inj hE]; exact hm)
theorem AD.fin {Ef : Env} (hok : finOK ops l0 pre S E0 = true) (hf : fuel = fuel - S.length + S.length) (hE : force (ents S E0) some = some Ef) (h : AA P F n K ops (marks l0 S) (fuel - S.length) Q Ef) : AD P F n K ops l0 pre fuel Q E0 S [] := by
  intro hd
  rw [force_eq] at hE
  obtain rfl := Option.some.inj hE
  intro w N L γ R tmps ds hr hn
  rw [hf]
  refine AA.quiet (hd ?_) hok hr.nd h w N L γ R tmps ds hr hn
  simp only [finOK, Bool.and_eq_true, List.all_eq_true] at hok
  intro p hp d hpd
  have := (hok.1.2 p hp).2
  rw [hpd] at this
  simp only [Bool.and_eq_true, Bool.not_eq_true'] at this
  exact this.1
end
end Go.Proofs.VL
