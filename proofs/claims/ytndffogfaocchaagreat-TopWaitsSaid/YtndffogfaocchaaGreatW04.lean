import Derived.Test.YtndffogfaocchaaGreatW03
import Derived.Laws.OwnMore
import Derived.Laws.AppendOwn
import Derived.Laws.Small
set_option linter.unusedVariables false
set_option linter.unusedSimpArgs false
set_option linter.unusedSectionVars false
namespace Go.Proofs.VL
open Go Go.RowKit
variable {P : Program}
mutual
def nameless : V → Bool
  | .d _ | .rp .. | .raw _ | .kt | .kf | .row .. | .mp .. | .it .. => true
  | .ag cs | .fn _ cs | .tu cs | .bx _ cs => namelesss cs
  | .ob ls _ => ls.isEmpty
  | .ref _ | .fld .. | .elt .. | .sub .. => false
def namelesss : List V → Bool
  | [] => true
  | v :: vs => nameless v && namelesss vs
end
theorem namelesss_get {cs : List V} (h : namelesss cs = true) {i : Nat} {v : V} (hi : cs[i]? = some v) : nameless v = true := by
  induction cs generalizing i with
  | nil => simp at hi
  | cons c cs ih =>
    simp only [namelesss, Bool.and_eq_true] at h
    cases i with
    | zero => simp at hi; exact hi ▸ h.1
    | succ i => exact ih h.2 (by simpa using hi)
theorem RepV.congrN {w : World} {N L : Cells} {T T' : Loc → Option Value} {v : V} {c : Value} {R : Blocks} (h : RepV P w N L T v c R) (hn : nameless v = true) : RepV P w N L T' v c R := by
  induction h with
  | d x c R h => exact .d x c R h
  | ag cs vals R hl hc h ih => exact .ag cs vals R hl hc (fun i v hi => ih i v hi (namelesss_get (by simpa [nameless] using hn) hi))
  | tu cs vals R hl h ih => exact .tu cs vals R hl (fun i v hi => ih i v hi (namelesss_get (by simpa [nameless] using hn) hi))
  | row m e xs b cap k bl cv R hb hs hcap hcm hl he hk hc hr hm hm' hm2 hm3 hR => exact .row m e xs b cap k bl cv R hb hs hcap hcm hl he hk hc hr hm hm' hm2 hm3 hR
  | rownil m e R => exact .rownil m e R
  | bx e cs b vals R hb hl hc h hL hRb ih => exact .bx e cs b vals R hb hl hc (fun i v hi => ih i v hi (namelesss_get (by simpa [nameless] using hn) hi)) hL hRb
  | mp t es b ents clock R hb h hst hR => exact .mp t es b ents clock R hb h hst hR
  | it t todo cur rb mb ents clock seen es R hrb hmb hne h hst ht hc h1 h2 => exact .it t todo cur rb mb ents clock seen es R hrb hmb hne h hst ht hc h1 h2
  | rp cs off b o cv R hc hr => exact .rp cs off b o cv R hc hr
  | ref l c R h hc => simp [nameless] at hn
  | fld l off b R h => simp [nameless] at hn
  | elt l x b n cap R h => simp [nameless] at hn
  | sub => simp [nameless] at hn
  | fn f cs vals R hl h ih => exact .fn f cs vals R hl (fun i v hi => ih i v hi (namelesss_get (by simpa [nameless] using hn) hi))
  | raw p c R hc h => exact .raw p c R hc h
  | ob ls p c R cs hc hlen hl h => cases ls with | nil => exact .ob [] p c R cs hc hlen (fun i k hi => by simp at hi) h | cons => simp [nameless] at hn
  | kt R => exact .kt R
  | kf R => exact .kf R
mutual
theorem nameless_men (l : Loc) : ∀ (v : V), nameless v = true → v.men l = false
  | .d _, _ | .rp .., _ | .raw _, _ | .kt, _ | .kf, _ | .row .., _ | .mp .., _ | .it .., _ => rfl
  | .ag cs, h | .fn _ cs, h | .tu cs, h | .bx _ cs, h => by
    simp only [nameless] at h
    simpa only [V.men] using namelesss_mens l cs h
  | .ob ls _, h => by cases ls with | nil => rfl | cons => simp [nameless] at h
  | .ref _, h | .fld .., h | .elt .., h | .sub .., h => by simp [nameless] at h
theorem namelesss_mens (l : Loc) : ∀ (cs : List V), namelesss cs = true → mens l cs = false
  | [], _ => rfl
  | v :: vs, h => by
    simp only [namelesss, Bool.and_eq_true] at h
    simp only [mens, nameless_men l v h.1, namelesss_mens l vs h.2, Bool.or_false]
end
theorem RepV.front {w : World} {N L : Cells} {T : Loc → Option Value} {e : Nat} {xs : List (List D)} {c : Value} {R : Blocks} (h : RepV P w N L T (.row false e xs) c R) : RepD w N (.sl xs) c := by
  cases h with
  | row _ _ _ b cap k bl cv _ hb hs hcap hcm hl he hk hc hrd hm hm' hm2 hm3 hRb =>
    refine .sl xs b 0 k cap cv hl hcap hk (fun i j hi hj => ⟨?_, ?_⟩) hrd
    · rw [Nat.zero_add]
      refine hm2 rfl _ ?_
      have : (i + 1) * k ≤ xs.length * k := Nat.mul_le_mul_right _ hi
      rw [Nat.add_mul] at this
      omega
    · simp only [World.cell?, hb, Nat.zero_add]
      exact hc i j hi hj
  | rownil => exact .nil _ _
def deref1 (E : Env) : V → V
  | .ref l => (match own E l with | some (_, .d x) => .d x | some (_, .rp cs o) => .rp cs o | some (_, .raw p) => .raw p | some (_, .row false _ xs) => .d (.sl xs) | _ => .ref l)
  | v => v
def derefV (E : Env) : V → V
  | .ag cs => .ag (cs.map (deref1 E))
  | .fn f cs => .fn f (cs.map (deref1 E))
  | v => deref1 E v
def argO (E : Env) (x : Operand) : Option V := match copyO E x with
  | some v => (match nameless (derefV E v) with | true => some (derefV E v) | false => none)
  | none => none
def argsO (E : Env) : List Operand → Option (List V)
  | [] => some []
  | x :: xs => match argO E x, argsO E xs with | some v, some vs => some (v :: vs) | _, _ => none
section
variable {w : World} {N L : Cells} {γ : Gh} {R : Loc → Blocks} {tmps : Array Value} {E : Env} (hr : Rel P w N L tmps γ R E)
include hr
theorem deref1_ok {v : V} {c : Value} {S : Blocks} (h : RepV P w N L (Tof tmps γ) v c S) : RepV P w N L (Tof tmps γ) (deref1 E v) c S := by
  cases h with
  | ref l c S hT hc =>
    simp only [deref1]
    split
    · rename_i l' x ho
      obtain ⟨c', h1, h2, h3, h4⟩ := own_ok hr ho
      rw [hT] at h1; cases h1
      exact h3.plain rfl S
    · rename_i l' cs o ho
      obtain ⟨c', h1, h2, h3, h4⟩ := own_ok hr ho
      rw [hT] at h1; cases h1
      exact h3.plain rfl S
    · rename_i l' p ho
      obtain ⟨c', h1, h2, h3, h4⟩ := own_ok hr ho
      rw [hT] at h1; cases h1
      exact h3.plain rfl S
    · rename_i l' e xs ho
      obtain ⟨c', h1, h2, h3, h4⟩ := own_ok hr ho
      rw [hT] at h1; cases h1
      exact .d _ _ _ h3.front
    · exact .ref l c S hT hc
  | _ => simp only [deref1]; constructor <;> assumption
theorem deref1_cell {v : V} (h : isCell v = true) : isCell (deref1 E v) = true := by
  cases v <;> first | exact h | skip
  simp only [deref1]
  split <;> rfl
theorem derefV_ok {v : V} {c : Value} {S : Blocks} (h : RepV P w N L (Tof tmps γ) v c S) : RepV P w N L (Tof tmps γ) (derefV E v) c S := by
  cases v with
  | ag cs =>
    cases h with
    | ag _ vals _ hl hc h =>
      refine .ag _ _ _ (by simpa using hl) (fun i v hi => ?_) (fun i v hi => ?_)
      · simp only [List.getElem?_map, Option.map_eq_some_iff] at hi
        obtain ⟨u, hu, rfl⟩ := hi
        exact deref1_cell hr (hc i u hu)
      · simp only [List.getElem?_map, Option.map_eq_some_iff] at hi
        obtain ⟨u, hu, rfl⟩ := hi
        exact deref1_ok hr (h i u hu)
  | fn f cs =>
    cases h with
    | fn _ _ vals _ hl h =>
      refine .fn _ _ _ _ (by simpa using hl) (fun i v hi => ?_)
      simp only [List.getElem?_map, Option.map_eq_some_iff] at hi
      obtain ⟨u, hu, rfl⟩ := hi
      exact deref1_ok hr (h i u hu)
  | _ => exact deref1_ok hr h
theorem argO_ok {x : Operand} {v : V} (hx : argO E x = some v) (ds : List Deferred) (S : Blocks) : nameless v = true ∧ RepV P w N L (Tof tmps γ) v (Act.eval ⟨tmps, ds⟩ x) S := by
  unfold argO at hx
  split at hx
  · rename_i u hu
    split at hx
    · rename_i hn
      cases hx
      exact ⟨hn, derefV_ok hr (copyO_ok hr hu ds S)⟩
    · cases hx
  · cases hx
theorem argsO_ok (ds : List Deferred) : ∀ (xs : List Operand) (vs : List V), argsO E xs = some vs → vs.length = xs.length ∧ ∀ (i : Nat) (v : V), vs[i]? = some v → nameless v = true ∧ RepV P w N L (Tof tmps γ) v ((xs.map (Act.eval ⟨tmps, ds⟩)).getD i undef) none_ := by
  intro xs
  induction xs with
  | nil => intro vs h; cases h; exact ⟨rfl, fun i v hi => by simp at hi⟩
  | cons x xs ih =>
    intro vs h
    simp only [argsO] at h
    split at h
    · rename_i v vs' h1 h2
      cases h
      obtain ⟨k1, k2⟩ := ih _ h2
      refine ⟨by simp [k1], fun i u hi => ?_⟩
      cases i with
      | zero => simp at hi; subst hi; simpa using argO_ok hr h1 ds none_
      | succ i => simpa using k2 i u (by simpa using hi)
    · cases h
end
section
variable {E E' : Env} (hs : Sub E E')
include hs
theorem deref1_mono {v : V} (h : nameless (deref1 E v) = true) : deref1 E' v = deref1 E v := by
  cases v with
  | ref l =>
    simp only [deref1] at h ⊢
    split at h
    · rename_i h1; rw [own_mono hs h1]
    · rename_i h1; rw [own_mono hs h1]
    · rename_i h1; rw [own_mono hs h1]
    · rename_i h1; rw [own_mono hs h1]
    · simp [nameless] at h
  | _ => rfl
theorem map_deref1_mono : ∀ {cs : List V}, namelesss (cs.map (deref1 E)) = true → cs.map (deref1 E') = cs.map (deref1 E) := by
  intro cs
  induction cs with
  | nil => intro _; rfl
  | cons c cs ih =>
    intro h
    simp only [List.map_cons, namelesss, Bool.and_eq_true] at h
    rw [List.map_cons, List.map_cons, deref1_mono hs h.1, ih h.2]
theorem derefV_mono {v : V} (h : nameless (derefV E v) = true) : derefV E' v = derefV E v := by
  cases v with
  | ag cs => simp only [derefV, nameless] at h ⊢; rw [map_deref1_mono hs h]
  | fn f cs => simp only [derefV, nameless] at h ⊢; rw [map_deref1_mono hs h]
  | _ => simp only [derefV] at h ⊢; exact deref1_mono hs h
theorem argO_mono {x : Operand} {v : V} (h : argO E x = some v) : argO E' x = some v := by
  unfold argO at h ⊢
  split at h
  · rename_i u hu
    split at h
    · rename_i hn
      cases h
      rw [copyO_mono hs hu]
      simp only [derefV_mono hs hn, hn]
    · cases h
  · cases h
theorem argsO_mono : ∀ {xs : List Operand} {vs : List V}, argsO E xs = some vs → argsO E' xs = some vs := by
  intro xs
  induction xs with
  | nil => intro vs h; exact h
  | cons x xs ih =>
    intro vs h
    simp only [argsO] at h ⊢
    split at h
    · rename_i h1 h2; rw [argO_mono hs h1, ih h2]; exact h
    · cases h
end
def argEnv : Nat → List V → Env
  | _, [] => []
  | i, v :: vs => (.s i, v) :: argEnv (i + 1) vs
def FPost (P : Program) (w : World) (N L : Cells) (R : Loc → Blocks) (vals : Array Value) (Q : Env → Prop) (c : Value) (w' : World) : Prop :=
  ∃ E' N' L' γ' R', Q E' ∧ Rel P w' N' L' (vals.push c) γ' R' E' ∧ Later w N L (St R) w' N' L' ∧ ∀ x, St R' x → St R x ∨ w.heap.size ≤ x
def RPost (P : Program) (w : World) (N L : Cells) (R : Loc → Blocks) (vals : Array Value) (Q : Env → Prop) : Ending → World → Prop
  | .returned c, w' => FPost P w N L R vals Q c w'
  | _, _ => False
def Callable (P : Program) (f : Nat) : Prop := ∃ fn, P.funcs[f]? = some fn ∧ (fn.name == "runtime.NumGoroutine") = false ∧ fn.body.isNone = false
structure Fn (P : Program) (F : Fence) (f : Nat) (na : Nat) (A : Env) (Q : Env → Prop) : Prop where
  callable : Callable P f
  run : ∀ (w : World) (N L : Cells) (γ : Gh) (R : Loc → Blocks) (vals : Array Value), Rel P w N L vals γ R A → vals.size = na → CallsIn F 0 P f vals w (RPost P w N L R vals Q)
def FnV (P : Program) (F : Fence) (f : Nat) (vs : List V) (r : V) : Prop := Fn P F f vs.length (argEnv 0 vs) (fun E' => E' = [(.s vs.length, r)])
theorem argEnv_mem : ∀ (vs : List V) (i : Nat) (l : Loc) (v : V), (l, v) ∈ argEnv i vs → ∃ j, l = .s (i + j) ∧ vs[j]? = some v := by
  intro vs
  induction vs with
  | nil => intro i l v h; cases h
  | cons u vs ih =>
    intro i l v h
    cases h with
    | head => exact ⟨0, rfl, rfl⟩
    | tail _ h =>
      obtain ⟨j, h1, h2⟩ := ih _ _ _ h
      exact ⟨j + 1, by rw [h1, Nat.add_assoc, Nat.add_comm 1], h2⟩
theorem argEnv_nd : ∀ (vs : List V) (i : Nat), ((argEnv i vs).map Prod.fst).Nodup := by
  intro vs
  induction vs with
  | nil => intro i; exact List.nodup_nil
  | cons u vs ih =>
    intro i
    simp only [argEnv, List.map_cons, List.nodup_cons]
    refine ⟨fun h => ?_, ih _⟩
    obtain ⟨⟨l, v⟩, h1, h2⟩ := List.mem_map.1 h
    obtain ⟨j, h3, _⟩ := argEnv_mem _ _ _ _ h1
    simp only at h2
    rw [h3] at h2
    simp only [Loc.s.injEq] at h2
    omega
def γ0 : Gh := fun _ _ => none
def R0 : Loc → Blocks := fun _ => none_
theorem Rel.args {w : World} {N L : Cells} {vs : List V} {vals : Array Value} (hl : vs.length = vals.size) (hNL : ∀ b o, N b o → L b o) (hLlt : ∀ b o, L b o → b < w.heap.size)
    (h : ∀ (i : Nat) (v : V), vs[i]? = some v → ∃ T, nameless v = true ∧ RepV P w N L T v (vals.getD i undef) none_) : Rel P w N L vals γ0 R0 (argEnv 0 vs) where
  rep := fun l v hm => by
    obtain ⟨j, rfl, hj⟩ := argEnv_mem _ _ _ _ hm
    obtain ⟨T, h1, h2⟩ := h j v hj
    rw [Nat.zero_add]
    exact ⟨_, getD_of (by rw [← hl]; exact (List.getElem?_eq_some_iff.1 hj).1), h2.congrN h1⟩
  nd := argEnv_nd _ _
  dis := fun _ _ _ _ h => h.elim
  lt := fun _ _ h => h.elim
  NL := hNL
  Llt := hLlt
section
variable {F : Fence} {n : Nat} {K : List Nat} {o : Oper} {E E' : Env} {τ : Nat → Option TI}
theorem mid_ret {w w' : World} {N L N' L' : Cells} {γ : Gh} {R : Loc → Blocks} {tmps : Array Value} {ds : List Deferred} (hr : Rel P w N L tmps γ R E) (hn : tmps.size = n) (hla : Later w N L none_ w' N' L') {c : Value} {r : V} {d : Nat} {S : Blocks} (hc : ∀ T, RepV P w' N' L' T r c S)
    (hS : ∀ x, S x → w.heap.size ≤ x ∧ x < w'.heap.size) (hNL : ∀ b o, N' b o → L' b o) (hLlt : ∀ b o, L' b o → b < w'.heap.size) (hd : o.dst = some d) (hok : okD n K d r = true) (ha : anyOf (.s d) E = false) :
    Mid P n K w N L R tmps ds (· = (.s d, r) :: E) (Act.put ⟨tmps, ds⟩ o.dst c) w' := by
  simp only [okD, Bool.and_eq_true, Bool.not_eq_true', Nat.blt_eq] at hok
  obtain ⟨⟨hdn, hK⟩, hmen⟩ := hok
  rw [hd]
  let R' : Loc → Blocks := fun l => if l = .s d then S else R l
  have hrep : ∀ s u, (s, u) ∈ E → ∃ c, Tof tmps γ s = some c ∧ RepV P w' N' L' (Tof tmps γ) u c (R s) := fun s u hm => by
    obtain ⟨c, h1, h2⟩ := hr.rep s u hm
    refine ⟨c, h1, h2.world hla.size (fun b hb => hla.frame b (hr.lt _ _ hb) (fun h => h)) hr.NL hla.keeps hla.N1 hla.L1 (fun b o hb h => ?_) (fun b o hb h => ?_)⟩
    · rcases hla.N2 b o h with h | h | h
      · exact h
      · exact h.elim
      · have := hr.lt _ _ hb; omega
    · rcases hla.L2 b o h with h | h | h
      · exact h
      · exact h.elim
      · have := hr.lt _ _ hb; omega
  have hrel : Rel P w' N' L' tmps γ R' E := ⟨fun s u hm => by
      obtain ⟨c, h1, h2⟩ := hrep s u hm
      have hne : s ≠ .s d := (anyOf_mem ha hm).1
      exact ⟨c, h1, by simp only [R', if_neg hne]; exact h2⟩, hr.nd, fun a b x hab hxa hxb => by
      simp only [R'] at hxa hxb
      split at hxa
      · rw [if_neg (by rintro rfl; exact hab (by assumption))] at hxb
        have h1 := (hS x hxa).1
        have h2 := hr.lt _ _ hxb
        omega
      · split at hxb
        · have h1 := (hS x hxb).1
          have h2 := hr.lt _ _ hxa
          omega
        · exact hr.dis _ _ _ hab hxa hxb, fun l x hx => by
      simp only [R'] at hx
      split at hx
      · exact (hS x hx).2
      · exact Nat.lt_of_lt_of_le (hr.lt _ _ hx) hla.size, hNL, hLlt⟩
  have hput := hrel.put (d := d) (v := r) (c := c) (by rw [hn]; exact hdn) hmen (by simp only [R', if_true]; exact hc _)
  rw [show VL.put (.s d) r E = (.s d, r) :: E by simp [VL.put, ha]] at hput
  refine ⟨_, N', L', γ, R', rfl, hput, by simp [Act.put, hn], rfl, fun k hk => ?_, ⟨hla.os, hla.tape, hla.output, hla.size, fun b hb hn => hla.frame b hb (fun h => h.elim), hla.keeps, hla.N1, hla.L1, fun b o h => ?_, fun b o h => ?_⟩, fun x hx => ?_⟩
  · have : k ≠ d := by rintro rfl; simp at hK; exact hK hk
    simp [Act.put, Array.getElem?_setIfInBounds_ne (Ne.symm this)]
  · rcases hla.N2 b o h with h | h | h
    · exact .inl h
    · exact h.elim
    · exact .inr (.inr h)
  · rcases hla.L2 b o h with h | h | h
    · exact .inl h
    · exact h.elim
    · exact .inr (.inr h)
  · obtain ⟨l, hl⟩ := hx
    simp only [R'] at hl
    split at hl
    · exact .inr (hS x hl).1
    · exact .inl ⟨l, hl⟩
theorem run_callFunc {f : Nat} (hf : Callable P f) (args : Array Value) (w : World) : (callFunc f args).run P w = .ok (.enter f args) w := by
  obtain ⟨fn, h1, h2, h3⟩ := hf
  have h2' : fn.name ≠ "runtime.NumGoroutine" := by simpa using h2
  have h3' : fn.body ≠ none := by intro e; simp [e] at h3
  unfold callFunc
  simp [h1, h2', h3']
def calleeO (E : Env) : Operand → Option (Nat × List V)
  | .func f => some (f, [])
  | .tmp t => (match argO E (.tmp t) with | some (.fn f cs) => some (f, cs) | _ => none)
  | _ => none
theorem calleeO_mono (hs : Sub E E') {x : Operand} {r : Nat × List V} (h : calleeO E x = some r) : calleeO E' x = some r := by
  cases x with
  | tmp t =>
    simp only [calleeO] at h ⊢
    split at h
    · rename_i h1; rw [argO_mono hs h1]; exact h
    · cases h
  | _ => exact h
theorem getD_append {α} (a b : List α) (i : Nat) (x : α) : (a ++ b).getD i x = if i < a.length then a.getD i x else b.getD (i - a.length) x := by
  simp only [List.getD_eq_getElem?_getD, List.getElem?_append]
  split <;> rfl
theorem run_call_value {w : World} {ρ : Operand → Value} {c : Call} (ho : o.op = .call c) {x : Operand} (hc : c.callee = .value x) {f : Nat} {caps : Array Value} (hx : ρ x = .func (.func f) #[] caps) (hf : Callable P f) :
    (execOp ρ o).run P w = .ok (.enter f (c.args.map ρ ++ caps)) w := by
  simp [execOp, ho, resolve, hc, hx, Deferred.ofValue, invoke, run_callFunc hf]
theorem calleeO_ok {w : World} {N L : Cells} {γ : Gh} {R : Loc → Blocks} {tmps : Array Value} (hr : Rel P w N L tmps γ R E) {x : Operand} {f : Nat} {cs : List V} (h : calleeO E x = some (f, cs)) (ds : List Deferred) :
    ∃ caps : Array Value, Act.eval ⟨tmps, ds⟩ x = .func (.func f) #[] caps ∧ cs.length = caps.size ∧ ∀ (i : Nat) (v : V), cs[i]? = some v → nameless v = true ∧ RepV P w N L (Tof tmps γ) v (caps.getD i undef) none_ := by
  cases x with
  | tmp t =>
    simp only [calleeO] at h
    split at h
    · rename_i f' cs' h1
      cases h
      obtain ⟨k1, k2⟩ := argO_ok hr h1 ds none_
      generalize Act.eval ⟨tmps, ds⟩ (.tmp t) = c at k2
      cases k2 with
      | fn _ _ caps _ hl h =>
        exact ⟨caps, rfl, hl, fun i v hi => ⟨namelesss_get (by simpa [nameless] using k1) hi, h i v hi⟩⟩
    · cases h
  | func f' =>
    simp only [calleeO] at h
    cases h
    exact ⟨#[], rfl, rfl, fun i v hi => by simp at hi⟩
  | _ => simp [calleeO] at h
theorem OpM.call (hF : Wide F) {c : Call} (ho : o.op = .call c) {x : Operand} (hc : c.callee = .value x) {f : Nat} {caps vs : List V} (hx : calleeO E x = some (f, caps)) (ha : argsO E c.args.toList = some vs) {r : V} (hfn : FnV P F f (vs ++ caps) r) (hrn : nameless r = true) {d : Nat} (hd : o.dst = some d) (hok : okD n K d r = true) : OpM P F n K o E d r := by
  intro E' hs hfr w N L γ R tmps ds hr hn
  obtain ⟨cv, hcv, hcl, hcr⟩ := calleeO_ok hr (calleeO_mono hs hx) ds
  obtain ⟨hal, har⟩ := argsO_ok hr ds _ _ (argsO_mono hs ha)
  refine wpIn_run hF (by simp [ho]) ?_
  rw [run_call_value ho hc hcv hfn.callable]
  simp only [Oper.uponIn]
  refine ⟨fun h => (by rw [hF.depth] at h; cases h), ?_⟩
  have hsize : (c.args.map (Act.eval ⟨tmps, ds⟩) ++ cv).size = (vs ++ caps).length := by simp [hal, hcl]
  have hargs : Rel P w N L (c.args.map (Act.eval ⟨tmps, ds⟩) ++ cv) γ0 R0 (argEnv 0 (vs ++ caps)) := by
    refine Rel.args hsize.symm hr.NL hr.Llt fun i v hi => ⟨Tof tmps γ, ?_⟩
    have e : (c.args.map (Act.eval ⟨tmps, ds⟩) ++ cv).getD i undef = if i < vs.length then (c.args.toList.map (Act.eval ⟨tmps, ds⟩)).getD i undef else cv.getD (i - vs.length) undef := by
      have := getD_append (c.args.toList.map (Act.eval ⟨tmps, ds⟩)) cv.toList i undef
      simp only [List.length_map, ← hal] at this
      rw [show (c.args.map (Act.eval ⟨tmps, ds⟩) ++ cv).getD i undef = (c.args.toList.map (Act.eval ⟨tmps, ds⟩) ++ cv.toList).getD i undef by simp [Array.getD_eq_getD_getElem?, List.getD_eq_getElem?_getD, ← Array.getElem?_toList], this]
      split <;> simp [Array.getD_eq_getD_getElem?, List.getD_eq_getElem?_getD, ← Array.getElem?_toList]
    rw [e]
    rw [List.getElem?_append] at hi
    split at hi
    · rename_i h1; rw [if_pos h1]; exact har i v hi
    · rename_i h1; rw [if_neg h1]; exact hcr _ v hi
  refine CallsIn.mono (hfn.run w N L γ0 R0 _ hargs hsize) fun e w' he => ?_
  cases e with
  | returned cr =>
    obtain ⟨E1, N1, L1, γ1, R1, rfl, h1, h2, h3⟩ := he
    obtain ⟨cr', h4, h5⟩ := h1.rep _ _ (.head _)
    have hcr' : cr' = cr := by
      simp only [Tof] at h4
      rw [← hsize, Array.getElem?_push_size] at h4
      exact (Option.some.inj h4).symm
    subst hcr'
    have hSt : ∀ x, ¬ St R0 x := fun x ⟨_, h⟩ => h.elim
    refine mid_ret hr hn ⟨h2.os, h2.tape, h2.output, h2.size, fun b hb _ => h2.frame b hb (hSt b), h2.keeps, h2.N1, h2.L1, fun b o h => ?_, fun b o h => ?_⟩ (fun T => h5.congrN hrn) (fun x hx => ⟨?_, h1.lt _ _ hx⟩) h1.NL h1.Llt hd hok hfr
    · rcases h2.N2 b o h with h | h | h
      · exact .inl h
      · exact absurd h (hSt b)
      · exact .inr (.inr h)
    · rcases h2.L2 b o h with h | h | h
      · exact .inl h
      · exact absurd h (hSt b)
      · exact .inr (.inr h)
    · rcases h3 x ⟨_, hx⟩ with h | h
      · exact absurd h (hSt x)
      · exact h
  | _ => exact he.elim
end
end Go.Proofs.VL
namespace Go.Proofs.VL
open Go Go.RowKit
variable {P : Program}
def normK : V → V
  | .kt => .d (.sc (.bool true))
  | .kf => .d (.sc (.bool false))
  | v => v
theorem normK_ok {w : World} {N L : Cells} {T : Loc → Option Value} {v : V} {c : Value} {S : Blocks} (h : RepV P w N L T v c S) : RepV P w N L T (normK v) c S := by
  cases h <;> simp only [normK] <;> first | exact .d _ _ _ (.sc _ rfl) | (constructor <;> assumption)
theorem normK_nl {v : V} (h : nameless v = true) : nameless (normK v) = true := by cases v <;> exact h
def retC (τ : Nat → Option TI) (E : Env) : ResultVar → Option V
  | .tmp t => (match look E (.s t) with
    | some v => (match nameless (derefV E v) with | true => some (normK (derefV E v)) | false => none)
    | none => none)
  | .cell a t => (match look E (.s a), τ t with
    | some (.bx _ cs), some ti => (match (cs.map (deref1 E)).length == ti.size && plains (cs.map (deref1 E)) && namelesss (cs.map (deref1 E)) with
      | true => (match ofCells ti (cs.map (deref1 E)) with | some v => (match nameless v with | true => some v | false => none) | none => none)
      | false => none)
    | _, _ => none)
def retL (τ : Nat → Option TI) (E : Env) : List ResultVar → Option (List V)
  | [] => some []
  | r :: rs => match retC τ E r, retL τ E rs with | some v, some vs => (match plain v with | true => some (v :: vs) | false => none) | _, _ => none
def retV (τ : Nat → Option TI) (rs : List ResultVar) (E : Env) : Option V := match rs with
  | [r] => retC τ E r
  | rs => match retL τ E rs with | some vs => some (.tu vs) | none => none
theorem box_load {w : World} {N L : Cells} {T : Loc → Option Value} {t e : Nat} {ti : TI} (hti : mkTI P t = some ti) {cs : List V} {c : Value} {S : Blocks} (hrep : RepV P w N L T (.bx e cs) c S)
    (hlen : cs.length = ti.size) {v : V} (hv : ofCells ti cs = some v) (hpl : plains cs = true) : ∃ a u, c = .pointer (some a) ∧ (loadVar t a).run P w = .ok u w ∧ ∀ S, RepV P w N L T v u S := by
  obtain ⟨b, vals, rfl, hb, hl, hc, hr, hL, hRb⟩ := bx_inv hrep
  have hvl : vals.toList.length = ti.size := by simp; omega
  have key := ofCells_ok (P := P) (w := w) (N := N) (L := L) (T := T) hv (vals := vals.toList) (hlen.trans hvl.symm) hvl hc
    (fun i u hi => by
      have := hr i u hi
      rwa [show vals.getD i undef = vals.toList.getD i undef by simp [Array.getD_eq_getD_getElem?, List.getD_eq_getElem?_getD, ← Array.getElem?_toList]] at this)
    (fun i u hi => by
      have := plains_get hpl hi
      cases u <;> simp_all [plain, isOwned])
  refine ⟨_, _, rfl, ?_, key.2⟩
  exact run_loadVar_cells (P := P) hti key.1 (w := w) (b := b) (o := 0) (vals := vals.toList) hvl (fun h1 h2 => one_size (t := t) hv hlen h1 h2) (fun j u hj => by
    simp only [World.cell?, hb, Nat.zero_add]
    simpa using hj)
section
variable {F : Fence} {n : Nat} {K : List Nat} {E E' : Env} {τ : Nat → Option TI}
section
variable {w : World} {N L : Cells} {γ : Gh} {R : Loc → Blocks} {tmps : Array Value} (hr : Rel P w N L tmps γ R E) (hτ : ∀ t ti, τ t = some ti → mkTI P t = some ti)
include hr hτ
def resOne (tmps : Array Value) : ResultVar → Sem Value
  | .tmp t => pure (tmps.getD t undef)
  | .cell a t => do loadVar t (← asAddr (tmps.getD a undef))
theorem retC_ok {r : ResultVar} {v : V} (h : retC τ E r = some v) : nameless v = true ∧ ∃ c l, (resOne tmps r).run P w = .ok c w ∧ RepV P w N L (Tof tmps γ) v c (R l) ∧ (plain v = true → RepV P w N L (Tof tmps γ) v c none_) := by
  cases r with
  | tmp t =>
    simp only [retC] at h
    split at h
    · rename_i u hu
      split at h
      · rename_i hn
        cases h
        obtain ⟨c, h1, h2⟩ := hr.rep _ _ (look_mem hu)
        have e : tmps.getD t undef = c := by rw [Array.getD_eq_getD_getElem?]; rw [show tmps[t]? = some c from h1]; rfl
        have h3 := normK_ok (derefV_ok hr h2)
        refine ⟨normK_nl hn, c, .s t, by simp [resOne, e], h3, fun hp => h3.plain (by generalize normK (derefV E u) = z at hp; cases z <;> simp_all [plain, isOwned]) _⟩
      · cases h
    · cases h
  | cell a t =>
    simp only [retC] at h
    split at h
    · rename_i e cs ti hlk hti
      split at h
      · rename_i hc
        simp only [Bool.and_eq_true, beq_iff_eq] at hc
        split at h
        · rename_i u hu
          split at h
          · rename_i hn
            cases h
            obtain ⟨c, h1, h2⟩ := hr.rep _ _ (look_mem hlk)
            have hbx : RepV P w N L (Tof tmps γ) (.bx e (cs.map (deref1 E))) c (R (.s a)) := by
              cases h2 with
              | bx _ _ b vals _ hb hl hc' hrep hL hRb =>
                refine .bx e _ b vals _ hb (by simpa using hl) (fun i v hi => ?_) (fun i v hi => ?_) hL hRb
                · simp only [List.getElem?_map, Option.map_eq_some_iff] at hi
                  obtain ⟨u, hu, rfl⟩ := hi
                  exact deref1_cell hr (hc' i u hu)
                · simp only [List.getElem?_map, Option.map_eq_some_iff] at hi
                  obtain ⟨u, hu, rfl⟩ := hi
                  exact deref1_ok hr (hrep i u hu)
            obtain ⟨ad, cu, rfl, hrun, hv⟩ := box_load (hτ _ _ hti) hbx hc.1.1 hu hc.1.2
            have e1 : tmps.getD a undef = .pointer (some ad) := by rw [Array.getD_eq_getD_getElem?]; rw [show tmps[a]? = some _ from h1]; rfl
            refine ⟨hn, cu, .s a, ?_, hv _, fun _ => hv _⟩
            simp [resOne, e1, asAddr, hrun]
          · cases h
        · cases h
      · cases h
    · cases h
theorem retL_ok : ∀ {rs : List ResultVar} {vs : List V}, retL τ E rs = some vs → ∃ cs : List Value, (rs.mapM (resOne tmps)).run P w = .ok cs w ∧ vs.length = cs.length ∧ rs.length = vs.length ∧ namelesss vs = true ∧ plains vs = true ∧ ∀ (i : Nat) (v : V), vs[i]? = some v → RepV P w N L (Tof tmps γ) v (cs.getD i undef) none_ := by
  intro rs
  induction rs with
  | nil => intro vs h; cases h; exact ⟨[], by simp, rfl, rfl, rfl, rfl, fun i v hi => by simp at hi⟩
  | cons r rs ih =>
    intro vs h
    simp only [retL] at h
    split at h
    · rename_i v vs' h1 h2
      split at h
      · rename_i hp
        cases h
        obtain ⟨hn, c, l, k1, k2, k3⟩ := retC_ok hr hτ h1
        obtain ⟨cs, m1, m2, m6, m3, m4, m5⟩ := ih h2
        refine ⟨c :: cs, ?_, by simp [m2], by simp [m6], by simp [namelesss, hn, m3], by simp [plains, hp, m4], fun i u hi => ?_⟩
        · simp [List.mapM_cons, k1, m1]
        · cases i with
          | zero => simp at hi; subst hi; exact k3 hp
          | succ i => simpa using m5 i u (by simpa using hi)
      · cases h
    · cases h
theorem retV_ok {fn : Func} {v : V} (h : retV τ fn.results.toList E = some v) : nameless v = true ∧ ∃ c l, (results fn tmps).run P w = .ok c w ∧ RepV P w N L (Tof tmps γ) v c (R l) := by
  have hres : ∀ cs : List Value, (fn.results.toList.mapM (resOne tmps)).run P w = .ok cs w → (results fn tmps).run P w = .ok (if h : cs.toArray.size = 1 then cs.toArray[0] else .tuple cs.toArray) w := by
    intro cs hcs
    have e : results fn tmps = (fn.results.mapM (resOne tmps)) >>= fun vs => pure (if h : vs.size = 1 then vs[0] else .tuple vs) := by
      unfold results
      congr 1
      try congr 1
      try (funext r; cases r <;> rfl)
    rw [e, Array.mapM_eq_mapM_toList]
    simp [hcs]
  unfold retV at h
  split at h
  · rename_i r hrs
    obtain ⟨hn, c, l, k1, k2, k3⟩ := retC_ok hr hτ h
    refine ⟨hn, c, l, ?_, k2⟩
    have := hres [c] (by rw [hrs]; simp [k1])
    simpa using this
  · rename_i hne
    split at h
    · rename_i vs hvs
      cases h
      obtain ⟨cs, m1, m2, m6, m3, m4, m5⟩ := retL_ok hr hτ hvs
      have hlen : cs.length ≠ 1 := by
        intro e
        have h1 : fn.results.toList.length = 1 := by omega
        obtain ⟨r, hr'⟩ := List.length_eq_one_iff.1 h1
        exact hne r hr'
      refine ⟨by simpa [nameless] using m3, .tuple cs.toArray, .s 0, ?_, .tu _ _ _ (by simpa using m2) (fun i v hi => ?_)⟩
      · have := hres cs m1
        rw [dif_neg (by simpa using hlen)] at this
        exact this
      · have := m5 i v hi
        rwa [show cs.toArray.getD i undef = cs.getD i undef by simp [Array.getD_eq_getD_getElem?, List.getD_eq_getElem?_getD]]
    · cases h
end
theorem FnV.of_AW (hF : Wide F) (hro : F.round = none) (hτ : ∀ t ti, τ t = some ti → mkTI P t = some ti) {f : Nat} {fn : Func} {c : Code} (hf : P.funcs[f]? = some fn) (hb : fn.body = some c) (hnm : (fn.name == "runtime.NumGoroutine") = false) (hn : fn.ntmps = n) {vs : List V} {r : V} (hvs : vs.length ≤ n)
    (h : AW P F n [] c (fun e E => (e = .normal ∨ e = .ret) ∧ retV τ fn.results.toList E = some r) (argEnv 0 vs)) : FnV P F f vs r := by
  refine ⟨⟨fn, hf, hnm, by rw [hb]; rfl⟩, fun w N L γ R vals hr hsz => ?_⟩
  refine callsIn_of_wp hf hb (hF.fn f) ?_ hro
  have hle : vals.size ≤ n := by rw [hsz]; exact hvs
  have hr2 : Rel P w N L (vals ++ Array.replicate (fn.ntmps - vals.size) undef) γ R (argEnv 0 vs) := by
    have hT : ∀ l c, Tof vals γ l = some c → Tof (vals ++ Array.replicate (fn.ntmps - vals.size) undef) γ l = some c := by
      intro l c hl
      cases l with
      | s t =>
        simp only [Tof] at hl ⊢
        have := (Array.getElem?_eq_some_iff.1 hl).1
        rw [Array.getElem?_append_left this]; exact hl
      | c t i => exact hl
    exact ⟨fun l v hm => let ⟨c, h1, h2⟩ := hr.rep l v hm; ⟨c, hT _ _ h1, h2.congrAll hT⟩, hr.nd, hr.dis, hr.lt, hr.NL, hr.Llt⟩
  have := h w N L γ R _ [] hr2 (by simp; omega)
  refine wpIn_mono this fun e a' w' hp => ?_
  obtain ⟨E', N', L', γ', R', ⟨he, hret⟩, hA⟩ := hp
  obtain ⟨hnl, cr, l, hrun, hrep⟩ := retV_ok hA.rel hτ hret
  have key : bodyPost P fn (RPost P w N L R vals (fun E' => E' = [(.s vs.length, r)])) .ret a' w' := by
    refine ⟨hA.defers, cr, hrun, _, N', L', γ0, (fun l' => if l' = .s vs.length then R' l else none_), rfl, ⟨?_, by simp, ?_, ?_, hA.rel.NL, hA.rel.Llt⟩, hA.later, ?_⟩
    · intro s u hm
      simp only [List.mem_singleton, Prod.mk.injEq] at hm
      obtain ⟨rfl, rfl⟩ := hm
      refine ⟨cr, by rw [← hsz]; simp [Tof], ?_⟩
      rw [if_pos rfl]
      exact hrep.congrN hnl
    · intro a b x hab ha hb
      split at ha
      · rw [if_neg (by rintro rfl; exact hab (by assumption))] at hb
        exact hb
      · exact ha
    · intro l' x hx
      split at hx
      · exact hA.rel.lt _ _ hx
      · exact hx.elim
    · rintro x ⟨l', hx⟩
      split at hx
      · exact hA.own x ⟨_, hx⟩
      · exact hx.elim
  rcases he with rfl | rfl
  · exact key
  · exact key
end
end Go.Proofs.VL
namespace Go.Proofs.VL
open Go Go.RowKit
variable {P : Program}
def listO (E : Env) (x : Operand) : Option (List (List D)) := match argO E x with
  | some (.d (.sl xs)) => some xs
  | some (.d .nl) => some []
  | _ => none
def intO (E : Env) (x : Operand) : Option (IntKind × Int) := match copyO E x with
  | some (.d (.sc (.int k i))) => some (k, i)
  | _ => none
def rowO (E : Env) : Operand → Option (Loc × Bool × Nat × List (List D))
  | .tmp t => (match own E (.s t) with | some (l, .row m e xs) => some (l, m, e, xs) | _ => none)
  | _ => none
section
variable {E E' : Env} (hs : Sub E E')
include hs
theorem listO_mono {x : Operand} {xs} (h : listO E x = some xs) : listO E' x = some xs := by
  unfold listO at h ⊢
  split at h
  · rename_i h1; rw [argO_mono hs h1]; exact h
  · rename_i h1; rw [argO_mono hs h1]; exact h
  · cases h
theorem intO_mono {x : Operand} {r} (h : intO E x = some r) : intO E' x = some r := by
  unfold intO at h ⊢
  split at h
  · rename_i h1; rw [copyO_mono hs h1]; exact h
  · cases h
theorem rowO_mono {x : Operand} {r} (h : rowO E x = some r) : rowO E' x = some r := by
  cases x with
  | tmp t =>
    simp only [rowO] at h ⊢
    split at h
    · rename_i h1; rw [own_mono hs h1]; exact h
    · cases h
  | _ => cases h
end
section
variable {w : World} {N L : Cells} {γ : Gh} {R : Loc → Blocks} {tmps : Array Value} {E : Env} (hr : Rel P w N L tmps γ R E)
include hr
theorem listO_ok {x : Operand} {xs} (h : listO E x = some xs) (ds : List Deferred) : ∃ d, (d = .sl xs ∨ (d = .nl ∧ xs = [])) ∧ RepD w N d (Act.eval ⟨tmps, ds⟩ x) := by
  unfold listO at h
  split at h
  · rename_i ys h1
    cases h
    have := (argO_ok hr h1 ds none_).2
    generalize Act.eval ⟨tmps, ds⟩ x = c at this ⊢
    cases this with
    | d _ _ _ h => exact ⟨_, .inl rfl, h⟩
  · rename_i h1
    cases h
    have := (argO_ok hr h1 ds none_).2
    generalize Act.eval ⟨tmps, ds⟩ x = c at this ⊢
    cases this with
    | d _ _ _ h => exact ⟨_, .inr ⟨rfl, rfl⟩, h⟩
  · cases h
theorem intO_ok {x : Operand} {k : IntKind} {i : Int} (h : intO E x = some (k, i)) (ds : List Deferred) : Act.eval ⟨tmps, ds⟩ x = .int k i := by
  unfold intO at h
  split at h
  · rename_i h1; cases h; exact scV (copyO_ok hr h1 ds none_)
  · cases h
theorem rowO_ok {x : Operand} {l : Loc} {m : Bool} {e : Nat} {xs} (h : rowO E x = some (l, m, e, xs)) (ds : List Deferred) : look E l = some (.row m e xs) ∧ Tof tmps γ l = some (Act.eval ⟨tmps, ds⟩ x) ∧ RepV P w N L (Tof tmps γ) (.row m e xs) (Act.eval ⟨tmps, ds⟩ x) (R l) := by
  cases x with
  | tmp t =>
    simp only [rowO] at h
    split at h
    · rename_i h1
      cases h
      obtain ⟨c, h2, h3, h4, h5⟩ := own_ok hr h1
      rw [eval_tmp h2]
      exact ⟨h5, h3, h4⟩
    · cases h
  | _ => cases h
end
section
variable {F : Fence} {n : Nat} {K : List Nat} {o : Oper} {E E' : Env} {τ : Nat → Option TI}
theorem OpM.pure (hF : Wide F) (hnd : ∀ c, o.op ≠ .defer c) {d : Nat} {v : V} (hd : o.dst = some d) (hok : okD n K d v = true)
    (h : ∀ E', Sub E E' → ∀ (w : World) (N L : Cells) (γ : Gh) (R : Loc → Blocks) (tmps : Array Value) (ds : List Deferred), Rel P w N L tmps γ R E' → tmps.size = n →
      ∃ c, (execOp (Act.eval ⟨tmps, ds⟩) o).run P w = .ok (.value c) w ∧ ∀ S, RepV P w N L (Tof tmps γ) v c S) : OpM P F n K o E d v :=
  fun E' hs ha => OpTo.pure hF hnd (setO_fresh hd hok ha) (h E' hs)
theorem OpM.new (hF : Wide F) (hnd : ∀ c, o.op ≠ .defer c) {d : Nat} {v : V} (hd : o.dst = some d) (hok : okD n K d v = true)
    (h : ∀ E', Sub E E' → ∀ (w : World) (N L : Cells) (γ : Gh) (R : Loc → Blocks) (tmps : Array Value) (ds : List Deferred), Rel P w N L tmps γ R E' → tmps.size = n →
      ∃ c x, (execOp (Act.eval ⟨tmps, ds⟩) o).run P w = .ok (.value c) (w.alloc x) ∧ ∀ S : Blocks, S w.heap.size → RepV P (w.alloc x) N L (Tof tmps γ) v c S) : OpM P F n K o E d v :=
  fun E' hs ha => OpTo.new hF hnd (setO_fresh hd hok ha) (h E' hs)
abbrev Iv (k : IntKind) (i : Int) : V := .d (.sc (.int k i))
theorem rep_int {w : World} {N L : Cells} {T : Loc → Option Value} (k : IntKind) (i : Int) (S : Blocks) : RepV P w N L T (Iv k i) (.int k i) S := .d _ _ _ (.sc _ rfl)
theorem OpM.rem (hF : Wide F) {t t' : Nat} {x y : Operand} (ho : o.op = .binOp .rem t x y t') {k : IntKind} {a b : Int} (hx : intO E x = some (k, a)) (hy : intO E y = some (k, b)) (hb : b ≠ 0) {d : Nat} (hd : o.dst = some d) (hok : okD n K d (Iv k (a.tmod b)) = true) : OpM P F n K o E d (Iv k (a.tmod b)) :=
  .pure hF (by simp [ho]) hd hok fun E' hs w N L γ R tmps ds hr hn => by
    have h1 := intO_ok hr (intO_mono hs hx) ds
    have h2 := intO_ok hr (intO_mono hs hy) ds
    exact ⟨.int k (a.tmod b), by simp [execOp, ho, h1, h2, eqGuard, binOp, Op.intDiv, hb], fun S => rep_int ..⟩
theorem OpM.quo (hF : Wide F) {t t' : Nat} {x y : Operand} (ho : o.op = .binOp .quo t x y t') {k : IntKind} {a b : Int} (hx : intO E x = some (k, a)) (hy : intO E y = some (k, b)) (hb : b ≠ 0) {d : Nat} (hd : o.dst = some d) (hok : okD n K d (Iv k (k.wrap (a.tdiv b))) = true) : OpM P F n K o E d (Iv k (k.wrap (a.tdiv b))) :=
  .pure hF (by simp [ho]) hd hok fun E' hs w N L γ R tmps ds hr hn => by
    have h1 := intO_ok hr (intO_mono hs hx) ds
    have h2 := intO_ok hr (intO_mono hs hy) ds
    exact ⟨.int k (k.wrap (a.tdiv b)), by simp [execOp, ho, h1, h2, eqGuard, binOp, Op.intDiv, hb], fun S => rep_int ..⟩
theorem OpM.shr (hF : Wide F) {t t' : Nat} {x y : Operand} (ho : o.op = .binOp .shr t x y t') {k k' : IntKind} {a b : Int} (hx : intO E x = some (k, a)) (hy : intO E y = some (k', b)) (hb : 0 ≤ b) {d : Nat} (hd : o.dst = some d) (hok : okD n K d (Iv k (a.fdiv (2 ^ min b.toNat k.bits))) = true) : OpM P F n K o E d (Iv k (a.fdiv (2 ^ min b.toNat k.bits))) :=
  .pure hF (by simp [ho]) hd hok fun E' hs w N L γ R tmps ds hr hn => by
    have h1 := intO_ok hr (intO_mono hs hx) ds
    have h2 := intO_ok hr (intO_mono hs hy) ds
    exact ⟨.int k (a.fdiv (2 ^ min b.toNat k.bits)), by simp [execOp, ho, h1, h2, eqGuard, binOp, Op.shift, Int.not_lt.2 hb], fun S => rep_int ..⟩
theorem OpM.and (hF : Wide F) {t t' : Nat} {x y : Operand} (ho : o.op = .binOp .and t x y t') {k : IntKind} {a b : Int} (hx : intO E x = some (k, a)) (hy : intO E y = some (k, b)) {d : Nat} (hd : o.dst = some d)
    (hok : okD n K d (Iv k (k.wrap (BitVec.ofInt k.bits a &&& BitVec.ofInt k.bits b).toNat)) = true) : OpM P F n K o E d (Iv k (k.wrap (BitVec.ofInt k.bits a &&& BitVec.ofInt k.bits b).toNat)) :=
  .pure hF (by simp [ho]) hd hok fun E' hs w N L γ R tmps ds hr hn => by
    have h1 := intO_ok hr (intO_mono hs hx) ds
    have h2 := intO_ok hr (intO_mono hs hy) ds
    exact ⟨.int k _, by simp [execOp, ho, h1, h2, eqGuard, binOp, Op.intBits], fun S => rep_int ..⟩
theorem OpM.min (hF : Wide F) {c : Call} (ho : o.op = .call c) (hc : c.callee = .builtin .min) {x y : Operand} (ha : c.args = #[x, y]) {k k' : IntKind} {a b : Int} (hx : intO E x = some (k, a)) (hy : intO E y = some (k', b)) {d : Nat} (hd : o.dst = some d)
    (hok : okD n K d (Iv k (if b < a then b else a)) = true) : OpM P F n K o E d (Iv k (if b < a then b else a)) :=
  .pure hF (by simp [ho]) hd hok fun E' hs w N L γ R tmps ds hr hn => by
    have h1 := intO_ok hr (intO_mono hs hx) ds
    have h2 := intO_ok hr (intO_mono hs hy) ds
    refine ⟨.int k (if b < a then b else a), ?_, fun S => rep_int ..⟩
    simp only [execOp, ho, resolve, hc, ha]
    simp [invoke, builtin, h1, h2, run_min_int2]
theorem RepD.elem {w : World} {N : Cells} {d : D} {xs : List (List D)} (hd : d = .sl xs ∨ (d = .nl ∧ xs = [])) {c : Value} (h : RepD w N d c) {i : Nat} {cs : List D} (hi : xs[i]? = some cs) :
    ∃ (b o cap : Nat) (cv : Nat → Value), c = .slice (some ⟨b, o, none⟩) xs.length cap ∧ (∀ j, j < cs.length → N b (o + i * cs.length + j) ∧ w.cell? ⟨b, o + i * cs.length + j, none⟩ = some (cv j)) ∧ ∀ (j : Nat) (d : D), cs[j]? = some d → RepD w N d (cv j) := by
  have hx : d = .sl xs := by
    rcases hd with h | ⟨_, h⟩
    · exact h
    · subst h; simp at hi
  subst hx
  have hlt : i < xs.length := (List.getElem?_eq_some_iff.1 hi).1
  cases h with
  | nil => simp at hi
  | sl _ b o k cap cv hl hcap hk hc hr =>
    have hkl := hk i cs hi
    subst hkl
    exact ⟨b, o, cap, cv i, rfl, fun j hj => hc i j hlt hj, fun j d hj => hr i j cs d hi hj⟩
theorem run_indexAt {t e : Nat} {ui : TI} (ht : P.underlying t = some (.slice e)) (hui : mkTI P e = some ui) {b o len cap i : Nat} {k : IntKind} (hi : i < len) (w : World) :
    (Instr.indexAt t (.slice (some ⟨b, o, none⟩) len cap) (.int k (i : Int))).run P w = .ok (.pointer (some ⟨b, o + i * ui.size, none⟩)) w := by
  have h1 : (0 : Int) ≤ (i : Int) ∧ (i : Int) < (len : Int) := by omega
  have h2 : (⟨b, o, none⟩ : Addr).add (i * ui.size) = ⟨b, o + i * ui.size, none⟩ := add_none ..
  simp [Instr.indexAt, asIntOf, run_underlying ht, hi, run_sizeOf_ti hui, h2]
theorem OpM.indexD (hF : Wide F) {t : Nat} {x y : Operand} (ho : o.op = .indexAddr t x y) {ti ui : TI} (hti : mkTI P t = some ti) {e : Nat} (hk : ti.kind = .slice e) (hui : mkTI P e = some ui) {xs : List (List D)} (hx : listO E x = some xs) {k : IntKind} {i : Nat} (hy : intO E y = some (k, (i : Int)))
    {cs : List D} (hi : xs[i]? = some cs) (hcs : cs.length = ui.size) {d : Nat} (hd : o.dst = some d) (hok : okD n K d (.rp cs 0) = true) : OpM P F n K o E d (.rp cs 0) :=
  .pure hF (by simp [ho]) hd hok fun E' hs w N L γ R tmps ds hr hn => by
    obtain ⟨dd, h1, h2⟩ := listO_ok hr (listO_mono hs hx) ds
    have h3 := intO_ok hr (intO_mono hs hy) ds
    obtain ⟨b, oo, cap, cv, he, hc, hrd⟩ := h2.elem h1 hi
    have hlt : i < xs.length := (List.getElem?_eq_some_iff.1 hi).1
    refine ⟨_, ?_, fun S => .rp cs 0 b (oo + i * cs.length) cv S hc hrd⟩
    simp [execOp, ho, h3, he, run_indexAt (slice_of hti hk) hui hlt w, hcs]
theorem OpM.indexR (hF : Wide F) {t : Nat} {x y : Operand} (ho : o.op = .indexAddr t x y) {ti ui : TI} (hti : mkTI P t = some ti) {e : Nat} (hk : ti.kind = .slice e) (hui : mkTI P e = some ui) {l : Loc} {m : Bool} {xs : List (List D)} (hx : rowO E x = some (l, m, e, xs)) {k : IntKind} {i : Nat} (hy : intO E y = some (k, (i : Int)))
    (hi : i < xs.length) {d : Nat} (hd : o.dst = some d) (hok : okD n K d (.elt l (i * ui.size)) = true) : OpM P F n K o E d (.elt l (i * ui.size)) :=
  .pure hF (by simp [ho]) hd hok fun E' hs w N L γ R tmps ds hr hn => by
    obtain ⟨h1, h2, h4⟩ := rowO_ok hr (rowO_mono hs hx) ds
    have h3 := intO_ok hr (intO_mono hs hy) ds
    generalize hce : Act.eval ⟨tmps, ds⟩ x = c at h2 h4
    cases h4 with
    | row _ _ _ b cap kk bl cv _ hb hsz hcap hcm hl he hkk hc hrd hm hm' hm2 hm3 hRb =>
      refine ⟨_, ?_, fun S => .elt l (i * ui.size) b _ cap S h2⟩
      simp [execOp, ho, h3, hce, run_indexAt (slice_of hti hk) hui hi w]
    | rownil => simp at hi
theorem OpM.loadE (hF : Wide F) {t u : Nat} (ho : o.op = .load t (.tmp u)) {ti : TI} (hti : mkTI P t = some ti) {l : Loc} {x : Nat} (hu : look E (.s u) = some (.elt l x)) {m : Bool} {e : Nat} {xs : List (List D)} (hl : look E l = some (.row m e xs))
    {i q : Nat} {cs : List D} (hi : xs[i]? = some cs) (hxq : x = i * cs.length + q) (hq : q + ti.size ≤ cs.length) {v : V} (hv : ofCells ti (((cs.drop q).take ti.size).map .d) = some v) {d : Nat} (hd : o.dst = some d) (hok : okD n K d v = true) : OpM P F n K o E d v :=
  .pure hF (by simp [ho]) hd hok fun E' hs w N L γ R tmps ds hr hn => by
    obtain ⟨c, h1, h2⟩ := hr.rep _ _ (look_mem (hs _ _ hu))
    obtain ⟨c2, h3, h4⟩ := hr.rep _ _ (look_mem (hs _ _ hl))
    cases h2 with
    | elt _ _ b nn cap _ hT =>
      rw [hT] at h3
      cases h3
      cases h4 with
      | row _ _ _ b cap kk bl cv _ hb hsz hcap hcm hl he hkk hc hrd hm hm' hm2 hm3 hRb =>
        have hlt : i < xs.length := (List.getElem?_eq_some_iff.1 hi).1
        have hkc := hkk i cs hi
        subst hkc
        let vl : List Value := (List.range ti.size).map fun j => cv i (q + j)
        have hvl : vl.length = ti.size := by simp [vl]
        have hlen : (((cs.drop q).take ti.size).map V.d).length = ti.size := by simp; omega
        have hvg : ∀ j, j < ti.size → vl.getD j undef = cv i (q + j) := fun j hj => by simp [vl, List.getD_eq_getElem?_getD, hj]
        have key := ofCells_ok (P := P) (w := w) (N := N) (L := L) (T := Tof tmps γ) hv (vals := vl) (hlen.trans hvl.symm) hvl
          (fun i u hi => by
            simp only [List.getElem?_map, Option.map_eq_some_iff] at hi
            obtain ⟨d, _, rfl⟩ := hi
            rfl)
          (fun j u hj => by
            simp only [List.getElem?_map, Option.map_eq_some_iff, List.getElem?_take, List.getElem?_drop] at hj
            obtain ⟨d, hd, rfl⟩ := hj
            split at hd
            · rename_i hit
              rw [hvg j hit]
              exact .d _ _ _ (hrd _ _ _ _ hi hd)
            · cases hd)
          (fun i u hi => by
            simp only [List.getElem?_map, Option.map_eq_some_iff] at hi
            obtain ⟨d, _, rfl⟩ := hi
            rfl)
        refine ⟨_, ?_, key.2⟩
        have hld := run_loadVar_cells (P := P) hti key.1 (w := w) (b := b) (o := x) (vals := vl) hvl (fun h1 h2 => one_size (t := t) hv hlen h1 h2) (fun j u hj => by
          have hj2 : j < ti.size := by rw [← hvl]; exact (List.getElem?_eq_some_iff.1 hj).1
          have : u = cv i (q + j) := by rw [← hvg j hj2, List.getD_eq_getElem?_getD, hj]; rfl
          rw [this]
          simp only [World.cell?, hb, hxq]
          rw [Nat.add_assoc]
          exact hc i (q + j) hlt (by omega))
        simp [execOp, ho, eval_tmp h1, Instr.loadAt, Instr.sureAddr, hld]
end
end Go.Proofs.VL
