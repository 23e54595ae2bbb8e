import Derived.Test.YtndffogfaocchaaGreatW07
import Derived.Test.YtndffogfaocchaaGreatW09
import Derived.Maps.RangeRun
set_option linter.unusedVariables false
set_option linter.unusedSimpArgs false
set_option linter.unusedSectionVars false
namespace Go.Proofs.VL
open Go Go.RowKit
variable {P : Program}
mutual
def scalR : V → Bool
  | .d (.sc _) | .kt | .kf => true
  | .tu vs => scalRs vs
  | _ => false
def scalRs : List V → Bool
  | [] => true
  | v :: vs => scalR v && scalRs vs
end
theorem scalRs_get : ∀ {cs : List V}, scalRs cs = true → ∀ (i : Nat) (v : V), cs[i]? = some v → scalR v = true
  | [], _, i, v, h => by simp at h
  | u :: cs, h, i, v, hi => by
    simp only [scalRs, Bool.and_eq_true] at h
    cases i with
    | zero => simp at hi; subst hi; exact h.1
    | succ i => exact scalRs_get h.2 i v (by simpa using hi)
theorem RepV.scal {w w' : World} {N L N' L' : Cells} {T T' : Loc → Option Value} {v : V} {c : Value} {R : Blocks} (h : RepV P w N L T v c R) : scalR v = true → ∀ R' : Blocks, RepV P w' N' L' T' v c R' := by
  induction h with
  | d x c R h =>
    intro hs R'
    cases x with
    | sc v => cases h with | sc _ hv => exact .d _ _ _ (.sc _ hv)
    | nl => cases hs
    | sl xs => cases hs
  | tu cs vals R hl h ih => intro hs R'; exact .tu cs vals R' hl (fun i v hi => ih i v hi (scalRs_get (by simpa [scalR] using hs) i v hi) none_)
  | kt R => intro _ R'; exact .kt R'
  | kf R => intro _ R'; exact .kf R'
  | _ => intro hs; simp [scalR] at hs
def derefB1 (E : Env) : V → V
  | .ref l => (match own E l with
    | some (_, .row _ _ xs) => .d (.sl xs)
    | some (_, .bx _ cs) => (match VDs (cs.map (deref1 E)) with | some xs => .rp xs 0 | none => deref1 E (.ref l))
    | _ => deref1 E (.ref l))
  | v => v
def derefB (E : Env) : V → V
  | .ag cs => .ag (cs.map (derefB1 E))
  | .fn f cs => .fn f (cs.map (derefB1 E))
  | v => derefB1 E v
def argB (E : Env) (x : Operand) : Option V := match copyO E x with
  | some v => (match nameless (derefB E v) with | true => some (derefB E v) | false => none)
  | none => none
def argsB (E : Env) : List Operand → Option (List V)
  | [] => some []
  | x :: xs => match argB E x, argsB E xs with | some v, some vs => some (v :: vs) | _, _ => none
def calleeB (E : Env) : Operand → Option (Nat × List V)
  | .func f => some (f, [])
  | .tmp t => (match argB E (.tmp t) with | some (.fn f cs) => some (f, cs) | _ => none)
  | _ => none
section
variable {F : Fence} {n : Nat} {K : List Nat} {o : Oper} {E E' : Env} {τ : Nat → Option TI}
section
variable (hs : Sub E E')
include hs
theorem VDs_map_mono {cs : List V} {xs : List D} (h : VDs (cs.map (deref1 E)) = some xs) : VDs (cs.map (deref1 E')) = some xs := by
  have hn : cs.map (deref1 E') = cs.map (deref1 E) := map_deref1_mono hs (VDs_nameless h)
  rw [hn]; exact h
theorem derefB1_mono {v : V} (h : nameless (derefB1 E v) = true) : derefB1 E' v = derefB1 E v := by
  cases v with
  | ref l =>
    have base : nameless (deref1 E (.ref l)) = true → deref1 E' (.ref l) = deref1 E (.ref l) := fun h => deref1_mono hs h
    cases ho : own E l with
    | none =>
      simp only [derefB1, ho] at h
      simp [deref1, ho, nameless] at h
    | some p =>
      obtain ⟨l', u⟩ := p
      have ho' := own_mono hs ho
      cases u with
      | row m e xs => simp only [derefB1, ho, ho']
      | bx e cs =>
        simp only [derefB1, ho, ho'] at h ⊢
        cases hv : VDs (cs.map (deref1 E)) with
        | some xs => simp only [VDs_map_mono hs hv]
        | none =>
          rw [hv] at h
          simp [deref1, ho, nameless] at h
      | _ =>
        simp only [derefB1, ho, ho'] at h ⊢
        exact base h
  | _ => rfl
theorem map_derefB1_mono : ∀ {cs : List V}, namelesss (cs.map (derefB1 E)) = true → cs.map (derefB1 E') = cs.map (derefB1 E)
  | [], _ => rfl
  | v :: cs, h => by
    simp only [List.map_cons, namelesss, Bool.and_eq_true] at h
    simp only [List.map_cons, derefB1_mono hs h.1, map_derefB1_mono h.2]
theorem derefB_mono {v : V} (h : nameless (derefB E v) = true) : derefB E' v = derefB E v := by
  cases v <;> first
    | (simp only [derefB, nameless] at h ⊢; rw [map_derefB1_mono hs h])
    | (simp only [derefB] at h ⊢; exact derefB1_mono hs h)
theorem argB_mono {x : Operand} {v : V} (h : argB E x = some v) : argB E' x = some v := by
  unfold argB at h ⊢
  split at h
  · rename_i u hu
    rw [copyO_mono hs hu]
    split at h
    · rename_i hn
      cases h
      simp only [derefB_mono hs hn, hn]
    · cases h
  · cases h
theorem argsB_mono : ∀ {xs : List Operand} {vs : List V}, argsB E xs = some vs → argsB E' xs = some vs
  | [], vs, h => h
  | x :: xs, vs, h => by
    simp only [argsB] at h ⊢
    split at h
    · rename_i h1 h2; rw [argB_mono hs h1, argsB_mono h2]; exact h
    · cases h
theorem calleeB_mono {x : Operand} {r : Nat × List V} (h : calleeB E x = some r) : calleeB E' x = some r := by
  cases x with
  | tmp t =>
    simp only [calleeB] at h ⊢
    split at h
    · rename_i h1; rw [argB_mono hs h1]; exact h
    · cases h
  | _ => exact h
end
def lent (R : Loc → Blocks) (C : Cells) : Cells := fun b x => C b x ∨ St R b
section
variable {w : World} {N L : Cells} {γ : Gh} {R : Loc → Blocks} {tmps : Array Value} (hr : Rel P w N L tmps γ R E)
include hr
theorem lent_rep {v : V} {c : Value} (h : RepV P w N L (Tof tmps γ) v c none_) : RepV P w (lent R N) (lent R L) (Tof tmps γ) v c none_ :=
  h.world (Nat.le_refl _) (fun _ h => h.elim) hr.NL (fun _ _ _ _ h => h) (fun _ _ h => .inl h) (fun _ _ h => .inl h) (fun _ _ h => h.elim) (fun _ _ h => h.elim)
theorem derefB1_ok {v : V} {c : Value} (h : RepV P w N L (Tof tmps γ) v c none_) : RepV P w (lent R N) (lent R L) (Tof tmps γ) (derefB1 E v) c none_ := by
  have base : RepV P w (lent R N) (lent R L) (Tof tmps γ) (deref1 E v) c none_ := lent_rep hr (deref1_ok hr h)
  cases v with
  | ref l =>
    cases h with
    | ref _ _ _ hT _ =>
      simp only [derefB1]
      split
      · rename_i l' m e xs ho
        obtain ⟨c', h1, h2, h3, h4⟩ := own_ok hr ho
        rw [hT] at h1; cases h1
        cases h3 with
        | row _ _ _ b cap k bl cv _ hb hs hcap hcm hl he hk hc hrd hm hm' hm2 hm3 hRb =>
          refine .d _ _ _ (.sl xs b 0 k cap cv hl hcap hk (fun i j hi hj => ⟨.inr ⟨_, hRb⟩, ?_⟩) (fun i j cs d hi hj => (hrd i j cs d hi hj).mono (fun _ _ h => .inl h) (fun _ _ _ _ h => h)))
          simp only [World.cell?, hb, Nat.zero_add]
          exact hc i j hi hj
        | rownil => exact .d _ _ _ (.nil _ _)
      · rename_i l' e cs ho
        split
        · rename_i xs hv
          obtain ⟨c', h1, h2, h3, h4⟩ := own_ok hr ho
          rw [hT] at h1; cases h1
          obtain ⟨b, vals, rfl, hb, hl, hc, hrep, hL, hRb⟩ := bx_inv h3
          obtain ⟨k1, k2⟩ := VDs_get hv
          refine .rp xs 0 b 0 (fun j => vals.getD j undef) _ (fun j hj => ⟨.inr ⟨_, hRb⟩, ?_⟩) (fun j d hj => ?_)
          · simp only [World.cell?, hb, Nat.zero_add]
            simp only [List.length_map] at k1
            exact getD_of (by omega)
          · obtain ⟨v, hv', hvd⟩ := k2 j d hj
            simp only [List.getElem?_map, Option.map_eq_some_iff] at hv'
            obtain ⟨u, hu, rfl⟩ := hv'
            exact (VD_ok (deref1_ok hr (hrep j u hu)) hvd).mono (fun _ _ h => .inl h) (fun _ _ _ _ h => h)
        · exact base
      · exact base
  | _ => exact lent_rep hr h
theorem derefB1_cell {v : V} (h : isCell v = true) : isCell (derefB1 E v) = true := by
  cases v with
  | ref l =>
    simp only [derefB1]
    split
    · rfl
    · split
      · rfl
      · exact deref1_cell hr h
    · exact deref1_cell hr h
  | _ => exact h
theorem derefB_ok {v : V} {c : Value} (h : RepV P w N L (Tof tmps γ) v c none_) : RepV P w (lent R N) (lent R L) (Tof tmps γ) (derefB E v) c none_ := by
  cases v with
  | ag cs =>
    cases h with
    | ag _ vals _ hl hc h =>
      refine .ag _ _ _ (by simpa using hl) (fun i v hi => ?_) (fun i v hi => ?_)
      · simp only [List.getElem?_map, Option.map_eq_some_iff] at hi
        obtain ⟨u, hu, rfl⟩ := hi
        exact derefB1_cell hr (hc i u hu)
      · simp only [List.getElem?_map, Option.map_eq_some_iff] at hi
        obtain ⟨u, hu, rfl⟩ := hi
        exact derefB1_ok hr (h i u hu)
  | fn f cs =>
    cases h with
    | fn _ _ vals _ hl h =>
      refine .fn _ _ _ _ (by simpa using hl) (fun i v hi => ?_)
      simp only [List.getElem?_map, Option.map_eq_some_iff] at hi
      obtain ⟨u, hu, rfl⟩ := hi
      exact derefB1_ok hr (h i u hu)
  | _ => exact derefB1_ok hr h
theorem argB_ok {x : Operand} {v : V} (hx : argB E x = some v) (ds : List Deferred) : nameless v = true ∧ RepV P w (lent R N) (lent R L) (Tof tmps γ) v (Act.eval ⟨tmps, ds⟩ x) none_ := by
  unfold argB at hx
  split at hx
  · rename_i u hu
    split at hx
    · rename_i hn
      cases hx
      exact ⟨hn, derefB_ok hr (copyO_ok hr hu ds none_)⟩
    · cases hx
  · cases hx
theorem argsB_ok (ds : List Deferred) : ∀ (xs : List Operand) (vs : List V), argsB E xs = some vs → vs.length = xs.length ∧ ∀ (i : Nat) (v : V), vs[i]? = some v → nameless v = true ∧ RepV P w (lent R N) (lent R L) (Tof tmps γ) v ((xs.map (Act.eval ⟨tmps, ds⟩)).getD i undef) none_
  | [], vs, h => by cases h; exact ⟨rfl, fun i v h => by simp at h⟩
  | x :: xs, vs, h => by
    simp only [argsB] at h
    split at h
    · rename_i v1 vs1 h1 h2
      cases h
      obtain ⟨k1, k2⟩ := argsB_ok ds xs vs1 h2
      refine ⟨by simp [k1], fun i v hi => ?_⟩
      cases i with
      | zero => simp at hi; subst hi; exact argB_ok hr h1 ds
      | succ i => simpa using k2 i v (by simpa using hi)
    · cases h
theorem calleeB_ok {x : Operand} {f : Nat} {cs : List V} (h : calleeB E x = some (f, cs)) (ds : List Deferred) :
    ∃ caps : Array Value, Act.eval ⟨tmps, ds⟩ x = .func (.func f) #[] caps ∧ cs.length = caps.size ∧ ∀ (i : Nat) (v : V), cs[i]? = some v → nameless v = true ∧ RepV P w (lent R N) (lent R L) (Tof tmps γ) v (caps.getD i undef) none_ := by
  cases x with
  | tmp t =>
    simp only [calleeB] at h
    split at h
    · rename_i f' cs' h1
      cases h
      obtain ⟨k1, k2⟩ := argB_ok hr h1 ds
      generalize Act.eval ⟨tmps, ds⟩ (.tmp t) = c at k2
      cases k2 with
      | fn _ _ caps _ hl h =>
        exact ⟨caps, rfl, hl, fun i v hi => ⟨namelesss_get (by simpa [nameless] using k1) hi, h i v hi⟩⟩
    · cases h
  | func f' =>
    simp only [calleeB] at h
    cases h
    exact ⟨#[], rfl, rfl, fun i v hi => by simp at hi⟩
  | _ => simp [calleeB] at h
end
theorem OpM.callB (hF : Wide F) {c : Call} (ho : o.op = .call c) {x : Operand} (hc : c.callee = .value x) {f : Nat} {caps vs : List V} (hx : calleeB E x = some (f, caps)) (ha : argsB E c.args.toList = some vs) {r : V} (hfn : FnV P F f (vs ++ caps) r) (hsc : scalR r = true) (hrn : nameless r = true) {d : Nat} (hd : o.dst = some d) (hok : okD n K d r = true) : OpM P F n K o E d r := by
  intro E' hs hfr w N L γ R tmps ds hr hn
  obtain ⟨cv, hcv, hcl, hcr⟩ := calleeB_ok hr (calleeB_mono hs hx) ds
  obtain ⟨hal, har⟩ := argsB_ok hr ds _ _ (argsB_mono hs ha)
  refine wpIn_run hF (by simp [ho]) ?_
  rw [run_call_value ho hc hcv hfn.callable]
  simp only [Oper.uponIn]
  refine ⟨fun h => (by rw [hF.depth] at h; cases h), ?_⟩
  have hsize : (c.args.map (Act.eval ⟨tmps, ds⟩) ++ cv).size = (vs ++ caps).length := by simp [hal, hcl]
  have hargs : Rel P w (lent R N) (lent R L) (c.args.map (Act.eval ⟨tmps, ds⟩) ++ cv) γ0 R0 (argEnv 0 (vs ++ caps)) := by
    refine Rel.args hsize.symm (fun b x h => h.imp (hr.NL b x) id) (fun b x h => ?_) fun i v hi => ⟨Tof tmps γ, ?_⟩
    · rcases h with h | ⟨l, h⟩
      · exact hr.Llt b x h
      · exact hr.lt _ _ h
    have e : (c.args.map (Act.eval ⟨tmps, ds⟩) ++ cv).getD i undef = if i < vs.length then (c.args.toList.map (Act.eval ⟨tmps, ds⟩)).getD i undef else cv.getD (i - vs.length) undef := by
      have := getD_append (c.args.toList.map (Act.eval ⟨tmps, ds⟩)) cv.toList i undef
      simp only [List.length_map, ← hal] at this
      rw [show (c.args.map (Act.eval ⟨tmps, ds⟩) ++ cv).getD i undef = (c.args.toList.map (Act.eval ⟨tmps, ds⟩) ++ cv.toList).getD i undef by simp [Array.getD_eq_getD_getElem?, List.getD_eq_getElem?_getD, ← Array.getElem?_toList], this]
      split <;> simp [Array.getD_eq_getD_getElem?, List.getD_eq_getElem?_getD, ← Array.getElem?_toList]
    rw [e]
    rw [List.getElem?_append] at hi
    split at hi
    · rename_i h1; rw [if_pos h1]; exact har i v hi
    · rename_i h1; rw [if_neg h1]; exact hcr _ v hi
  refine CallsIn.mono (hfn.run w _ _ γ0 R0 _ hargs hsize) fun e w' he => ?_
  cases e with
  | returned cr =>
    obtain ⟨E1, N1, L1, γ1, R1, rfl, h1, h2, h3⟩ := he
    obtain ⟨cr', h4, h5⟩ := h1.rep _ _ (.head _)
    have hcr' : cr' = cr := by
      simp only [Tof] at h4
      rw [← hsize, Array.getElem?_push_size] at h4
      exact (Option.some.inj h4).symm
    subst hcr'
    have hSt : ∀ x, ¬ St R0 x := fun x ⟨_, h⟩ => h.elim
    have hframe : ∀ b, b < w.heap.size → w'.heap[b]? = w.heap[b]? := fun b hb => h2.frame b hb (hSt b)
    have hla : Later w N L none_ w' N L := ⟨h2.os, h2.tape, h2.output, h2.size, fun b hb _ => hframe b hb, fun b x v hl hv => by rw [cell_of_heap (hframe b (hr.Llt b x hl))]; exact hv, fun _ _ h => h, fun _ _ h => h, fun _ _ h => .inl h, fun _ _ h => .inl h⟩
    exact mid_ret (S := none_) hr hn hla (fun T => h5.scal hsc _) (fun x hx => hx.elim) hr.NL (fun b x h => Nat.lt_of_lt_of_le (hr.Llt b x h) h2.size) hd hok hfr
  | _ => exact he.elim
theorem Ent.cutRow {d l : Loc} {i e : Nat} {xs : List (List D)} (h1 : look E d = some (.sub l 0 0 i)) (h2 : look E l = some (.row true e xs)) (hle : i ≤ xs.length) (hne : lq d l = false) (hE' : force (upd l dead (upd d (.row true e (xs.take i)) E)) some = some E') : Ent P E E' := by
  refine Ent.cutR (d := d) (l := l) ?_
  have : (lq l l && Nat.ble i xs.length && !(lq d l)) = true := by
    rw [lq_self, hne, Nat.ble_eq_true_of_le hle]; rfl
  simp only [VL.cutR, h1, h2, this]
  exact hE'
def ImpE (P : Program) : Env → Env → Prop
  | [], [] => True
  | (l', v') :: A', (l, v) :: A => l' = l ∧ Imp P v' v ∧ ImpE P A' A
  | _, _ => False
theorem ImpE.keys : ∀ {A' A : Env}, ImpE P A' A → A'.map Prod.fst = A.map Prod.fst
  | [], [], _ => rfl
  | (l', v') :: A', (l, v) :: A, h => by simp only [List.map_cons, h.1, h.2.2.keys]
theorem ImpE.mem : ∀ {A' A : Env}, ImpE P A' A → ∀ l v, (l, v) ∈ A → ∃ v', (l, v') ∈ A' ∧ Imp P v' v
  | [], [], _, l, v, h => by cases h
  | (l1, v1) :: A', (l2, v2) :: A, h, l, v, hm => by
    cases hm with
    | head => exact ⟨v1, by rw [← h.1]; exact .head _, h.2.1⟩
    | tail _ hm => exact let ⟨v', k1, k2⟩ := h.2.2.mem l v hm; ⟨v', .tail _ k1, k2⟩
theorem FnX.conseq {f na : Nat} {A A' : Env} {r : V} {H : Env} (h : FnX P F f na A r H) (hi : ImpE P A' A) : FnX P F f na A' r H := by
  refine ⟨h.callable, fun w N L γ R vals hr hsz => h.run w N L γ R vals ⟨fun l v hm => ?_, by rw [← hi.keys]; exact hr.nd, hr.dis, hr.lt, hr.NL, hr.Llt⟩ hsz⟩
  obtain ⟨v', k1, k2⟩ := hi.mem l v hm
  obtain ⟨c, q1, q2⟩ := hr.rep _ _ k1
  exact ⟨c, q1, k2 w N L _ c _ hr.NL q2⟩
theorem ImpE.refl : ∀ (A : Env), ImpE P A A
  | [] => trivial
  | (l, v) :: A => ⟨rfl, .refl v, ImpE.refl A⟩
end
end Go.Proofs.VL
namespace Go.Proofs.VL
open Go Go.RowKit
variable {P : Program}
def kcells : List IntKind → List Int → List Value
  | k :: ks, n :: ns => .int k n :: kcells ks ns
  | _, _ => []
def kv (agg : Bool) (kd : List IntKind) (ns : List Int) : Value := match agg with
  | true => .agg (kcells kd ns).toArray
  | false => (kcells kd ns).getD 0 undef
def encK (kd : List IntKind) (ns : List Int) : List D := (kcells kd ns).map .sc
def findI (ns : List Int) : List (List Int) → List Value → Nat → Option (Nat × Value)
  | ms :: kss, v :: vs, i => if ms = ns then some (i, v) else findI ns kss vs (i + 1)
  | _, _, _ => none
structure KLaw (P : Program) (kt : Nat) (agg : Bool) (kd : List IntKind) : Prop where
  one : agg = false → kd.length = 1
  check : ∀ (w : World) (em : Bool) (ns : List Int), ns.length = kd.length → (Instr.checkKey em 10000 kt (kv agg kd ns)).run P w = .ok () w
  find : ∀ (w : World) (ns : List Int) (es : List MapEntry) (kss : List (List Int)), ns.length = kd.length → es.map (·.key) = kss.map (kv agg kd) → (∀ ms ∈ kss, ms.length = kd.length) →
    (Instr.findKey kt (kv agg kd ns) es).run P w = .ok (findI ns kss (es.map (·.val)) 0) w
  stays : ∀ (w : World) (ns : List Int), ns.length = kd.length → (Instr.keyThatStays (kv agg kd ns) (kv agg kd ns)).run P w = .ok (kv agg kd ns) w
abbrev IMap := List (List Int × List D)
def mkE (kd : List IntKind) (m : IMap) : List (List D × List D) := m.map fun p => (encK kd p.1, p.2)
def lookI (ns : List Int) : IMap → Option (List D)
  | [] => none
  | p :: m => if p.1 = ns then some p.2 else lookI ns m
def setI (ns : List Int) (ds : List D) : IMap → IMap
  | [] => [(ns, ds)]
  | p :: m => if p.1 = ns then (ns, ds) :: m else p :: setI ns ds m
theorem kcells_len : ∀ {kd : List IntKind} {ns : List Int}, ns.length = kd.length → (kcells kd ns).length = kd.length
  | [], [], _ => rfl
  | k :: kd, n :: ns, h => by simp [kcells, kcells_len (kd := kd) (ns := ns) (by simpa using h)]
theorem kcells_sc : ∀ {kd : List IntKind} {ns : List Int} (v : Value), v ∈ kcells kd ns → ∃ k n, v = .int k n
  | [], _, v, h => by simp [kcells] at h
  | k :: kd, [], v, h => by simp [kcells] at h
  | k :: kd, n :: ns, v, h => by
    simp only [kcells, List.mem_cons] at h
    rcases h with rfl | h
    · exact ⟨k, n, rfl⟩
    · exact kcells_sc v h
theorem KLaw.int {kt : Nat} {k : IntKind} (h : P.underlying kt = some (.int k)) : KLaw P kt false [k] where
  one := fun _ => rfl
  check := fun w em ns hn => by
    cases ns with
    | nil => simp at hn
    | cons n ns =>
      have : ns = [] := by simpa using hn
      subst this
      show (Instr.checkKey em (9999 + 1) kt (.int k n)).run P w = _
      unfold Instr.checkKey
      simp [run_underlying h]
  find := fun w ns es kss hn hk hl => by
    cases ns with
    | nil => simp at hn
    | cons n ns =>
      have : ns = [] := by simpa using hn
      subst this
      have key : ∀ (es : List MapEntry) (kss : List (List Int)) (i : Nat), es.map (·.key) = kss.map (kv false [k]) → (∀ ms ∈ kss, ms.length = 1) → Instr.findNow (.int k) (.int k n) es i = some (findI [n] kss (es.map (·.val)) i) := by
        intro es
        induction es with
        | nil =>
          intro kss i h1 h2
          cases kss with
          | nil => rfl
          | cons ms kss => simp at h1
        | cons e es ih =>
          intro kss i h1 h2
          cases kss with
          | nil => simp at h1
          | cons ms kss =>
            simp only [List.map_cons, List.cons.injEq] at h1
            have h3 := h2 ms (.head _)
            cases ms with
            | nil => simp at h3
            | cons m ms =>
              have : ms = [] := by simpa using h3
              subst this
              have hkey : e.key = .int k m := by rw [h1.1]; rfl
              simp only [Instr.findNow, hkey, Instr.sameNow, if_true, List.map_cons, findI]
              by_cases hmn : m = n
              · subst hmn; simp
              · have : (n == m) = false := by simp; exact fun e => hmn e.symm
                simp only [this]
                rw [if_neg (by simpa using hmn)]
                exact ih kss (i + 1) h1.2 (fun ms hms => h2 ms (.tail _ hms))
      simp only [Instr.findKey, Sem.run_bind, run_underlying h, Result.andThen_ok]
      rw [show kv false [k] [n] = .int k n from rfl, key es kss 0 hk hl]
      rfl
  stays := fun w ns hn => by
    cases ns with
    | nil => simp at hn
    | cons n ns =>
      have : ns = [] := by simpa using hn
      subst this
      show (Instr.keyThatStays (.int k n) (.int k n)).run P w = .ok (.int k n) w
      unfold Instr.keyThatStays
      rw [show (10000 : Nat) = 9999 + 1 from rfl]
      unfold Instr.sameBits
      simp
theorem sameBits_ints (n : Nat) : ∀ (l : List Value), (∀ v ∈ l, ∃ k i, v = .int k i) → (l.zip l).all (fun p => Instr.sameBits n p.1 p.2) = true := by
  intro l
  induction l with
  | nil => intro _; rfl
  | cons v l ih =>
    intro h
    obtain ⟨k, i, rfl⟩ := h v (.head _)
    simp only [List.zip_cons_cons, List.all_cons, ih (fun u hu => h u (.tail _ hu)), Bool.and_true]
    cases n <;> simp [Instr.sameBits]
theorem KLaw.agg {kt : Nat} {kd : List IntKind} {d : TypeDesc} (hd : P.underlying kt = some d) (hnow : ∀ xs y, Instr.sameNow d (.agg xs) y = none)
    (hck : ∀ (w : World) (em : Bool) (ns : List Int), ns.length = kd.length → (Instr.checkKey em 10000 kt (kv true kd ns)).run P w = .ok () w)
    (heq : ∀ (w : World) (ns ms : List Int), ns.length = kd.length → ms.length = kd.length → (Op.equal kt (kv true kd ns) (kv true kd ms)).run P w = .ok (decide (ms = ns)) w) : KLaw P kt true kd where
  one := fun h => by cases h
  check := hck
  find := fun w ns es kss hn hk hl => by
    have key : ∀ (es : List MapEntry) (kss : List (List Int)) (i : Nat), es.map (·.key) = kss.map (kv true kd) → (∀ ms ∈ kss, ms.length = kd.length) → (Instr.findAsking kt (kv true kd ns) es i).run P w = .ok (findI ns kss (es.map (·.val)) i) w := by
      intro es
      induction es with
      | nil =>
        intro kss i h1 h2
        cases kss with
        | nil => simp [Instr.findAsking, findI]
        | cons ms kss => simp at h1
      | cons e es ih =>
        intro kss i h1 h2
        cases kss with
        | nil => simp at h1
        | cons ms kss =>
          simp only [List.map_cons, List.cons.injEq] at h1
          have h3 := heq w ns ms hn (h2 ms (.head _))
          have hkey : e.key = kv true kd ms := h1.1
          simp only [Instr.findAsking, hkey, Sem.run_bind, h3, Result.andThen_ok, List.map_cons, findI]
          by_cases hmn : ms = ns
          · simp [hmn]
          · simp [hmn]
            exact ih kss (i + 1) h1.2 (fun ms hms => h2 ms (.tail _ hms))
    unfold Instr.findKey
    rw [Sem.run_bind, run_underlying hd]
    simp only [Result.andThen_ok]
    cases es with
    | nil =>
      cases kss with
      | nil => simp [Instr.findNow, findI]
      | cons => simp at hk
    | cons e es =>
      have : Instr.findNow d (kv true kd ns) (e :: es) 0 = none := by
        simp only [Instr.findNow, kv, hnow]
      rw [this]
      exact key (e :: es) kss 0 hk hl
  stays := fun w ns hn => by
    unfold Instr.keyThatStays
    have : Instr.sameBits 10000 (kv true kd ns) (kv true kd ns) = true := by
      rw [show (10000 : Nat) = 9999 + 1 from rfl]
      unfold Instr.sameBits kv
      simp only [beq_self_eq_true, Bool.true_and]
      exact sameBits_ints 9999 _ (fun v hv => kcells_sc v hv)
    rw [this]
    simp
end Go.Proofs.VL
namespace Go.Proofs.VL
open Go Go.RowKit
variable {P : Program}
def putHeap (w : World) (r : Nat) (o : Obj) : World := { w with heap := w.heap.setIfInBounds r o }
theorem putHeap_at {w : World} {r : Nat} {x : Obj} (h : w.heap[r]? = some x) (o : Obj) : (putHeap w r o).heap[r]? = some o := by
  have := (Array.getElem?_eq_some_iff.1 h).1
  simp [putHeap, this]
theorem putHeap_ne {w : World} {r b : Nat} (o : Obj) (h : b ≠ r) : (putHeap w r o).heap[b]? = w.heap[b]? := by
  simp only [putHeap]; rw [Array.getElem?_setIfInBounds_ne (Ne.symm h)]
theorem mapT_of {t k e : Nat} {ti : TI} (h : mkTI P t = some ti) (hk : ti.kind = .map k e) : P.underlying t = some (.map k e) := by
  obtain ⟨i, dd, z, m1, m2, m3, m4, m5, m6, m7, m8, m9⟩ := mkTI_ok h
  rw [hk] at m8
  cases dd <;> simp [kindOf] at m8
  case map => obtain ⟨rfl, rfl⟩ := m8; exact m2
  case struct => split at m8 <;> cases m8
section
variable {F : Fence} {n : Nat} {K : List Nat} {o : Oper} {E E' : Env} {τ : Nat → Option TI}
theorem Rel.setMap {w : World} {N L : Cells} {γ : Gh} {R : Loc → Blocks} {tmps : Array Value} (hr : Rel P w N L tmps γ R E) {l : Loc} {tm : Nat} {es es' : List (List D × List D)} (hl : look E l = some (.mp tm es)) {b : Nat} (hT : Tof tmps γ l = some (.map (some b)))
    {ents' : Array MapEntry} {clock' : Nat} (hm : MapRep w N tm ents'.toList es') (hst : Stamps ents'.toList clock') :
    Rel P (putHeap w b (.map ents' clock')) N L tmps γ R (VL.upd l (.mp tm es') E) ∧ Later w N L (St R) (putHeap w b (.map ents' clock')) N L := by
  obtain ⟨c2, h3, h4⟩ := hr.rep _ _ (look_mem hl)
  rw [hT] at h3
  cases h3
  cases h4 with
  | mp _ _ _ ents clock _ hb hrep hs0 hRb =>
    have hoth : ∀ b', b' ≠ b → (putHeap w b (.map ents' clock')).heap[b']? = w.heap[b']? := fun b' hne => putHeap_ne _ hne
    have hkeepA : ∀ C : Cells, Keeps C w (putHeap w b (.map ents' clock')) := fun C b' o' u hl' hu => by
      by_cases e : b' = b
      · subst e
        simp only [World.cell?, hb] at hu
        cases hu
      · rw [cell_of_heap (hoth b' e)]; exact hu
    have hsz : (putHeap w b (.map ents' clock')).heap.size = w.heap.size := by simp [putHeap]
    refine ⟨⟨?_, by rw [upd_keys]; exact hr.nd, hr.dis, fun l x hx => by rw [hsz]; exact hr.lt _ _ hx, hr.NL, fun b o hl => by rw [hsz]; exact hr.Llt b o hl⟩, ⟨rfl, rfl, rfl, by rw [hsz]; exact Nat.le_refl _, fun b' _ hS => hoth b' (by rintro rfl; exact hS ⟨l, hRb⟩), hkeepA L, fun _ _ h => h, fun _ _ h => h, fun _ _ h => .inl h, fun _ _ h => .inl h⟩⟩
    intro s u' hmem
    rcases upd_mem hr.nd hmem with ⟨rfl, rfl, _⟩ | ⟨hmem, hne⟩
    · exact ⟨_, hT, .mp tm es' b ents' clock' _ (putHeap_at hb _) (hm.world (fun _ _ h => h) (hkeepA N)) hst hRb⟩
    · obtain ⟨cu, m1, m2⟩ := hr.rep _ _ hmem
      exact ⟨cu, m1, m2.world (by rw [hsz]; exact Nat.le_refl _) (fun b' hb' => hoth b' (by rintro rfl; exact hr.dis _ _ _ hne hb' hRb)) hr.NL (hkeepA L) (fun _ _ h => h) (fun _ _ h => h) (fun _ _ _ h => h) (fun _ _ _ h => h)⟩
theorem OpM.makeMap (hF : Wide F) {t : Nat} (ho : o.op = .makeMap t none) (tm : Nat) {d : Nat} (hd : o.dst = some d) (hok : okD n K d (.mp tm []) = true) : OpM P F n K o E d (.mp tm []) := by
  intro E' hs hfr w N L γ R tmps ds hr hn
  refine wpIn_run hF (by simp [ho]) ?_
  have : (execOp (Act.eval ⟨tmps, ds⟩) o).run P w = .ok (.value (.map (some w.heap.size))) (w.alloc (.map #[] 0)) := by
    simp [execOp, ho, run_makeMap]
  rw [this]
  exact mid_new hr hn (setO_fresh hd hok hfr) fun S hS => .mp tm [] _ #[] 0 S (heap_alloc_at w _) ⟨rfl, fun i e k v hi => by simp at hi⟩ ⟨rfl, fun i e hi => by simp at hi⟩ hS
def keyV (agg : Bool) (kd : List IntKind) (ns : List Int) : V := match agg with
  | true => .ag ((encK kd ns).map .d)
  | false => (match encK kd ns with | d :: _ => .d d | [] => .kt)
theorem encK_get {kd : List IntKind} {ns : List Int} {j : Nat} {d : D} (h : (encK kd ns)[j]? = some d) : ∃ v, (kcells kd ns)[j]? = some v ∧ d = .sc v ∧ scal v = true := by
  simp only [encK, List.getElem?_map, Option.map_eq_some_iff] at h
  obtain ⟨v, h1, rfl⟩ := h
  obtain ⟨k, n, rfl⟩ := kcells_sc v (List.mem_of_getElem? h1)
  exact ⟨_, h1, rfl, rfl⟩
theorem repD_sc {w : World} {N : Cells} {v c : Value} (h : RepD w N (.sc v) c) : c = v := by cases h; rfl
theorem cells_key {w : World} {N : Cells} {kd : List IntKind} {ns : List Int} {cs : List Value} (hl : cs.length = (encK kd ns).length) (h : ∀ (j : Nat) (d : D), (encK kd ns)[j]? = some d → RepD w N d (cs.getD j undef)) : cs = kcells kd ns := by
  apply List.ext_getElem
  · rw [hl]; simp [encK]
  · intro j h1 h2
    have hj : (encK kd ns)[j]? = some (.sc (kcells kd ns)[j]) := by simp [encK, h2]
    have := repD_sc (h j _ hj)
    rw [List.getD_eq_getElem?_getD, List.getElem?_eq_getElem h1] at this
    exact this
theorem key_val {agg : Bool} {kd : List IntKind} {ns : List Int} {k : Value} (h1 : k.cells.toList = kcells kd ns) (h2 : isAggV k = agg) (h3 : agg = false → kd.length = 1) (h4 : ns.length = kd.length) : k = kv agg kd ns := by
  cases agg with
  | true =>
    cases k <;> simp [isAggV] at h2
    rename_i cs
    simp only [Value.cells] at h1
    simp only [kv]
    rw [← h1]
  | false =>
    have hc : k.cells = #[k] := by cases k <;> first | rfl | (simp [isAggV] at h2)
    rw [hc] at h1
    have := kcells_len h4
    simp only [kv, ← h1]
    rfl
theorem keyV_ok {w : World} {N L : Cells} {T : Loc → Option Value} {agg : Bool} {kd : List IntKind} {ns : List Int} {c : Value} {S : Blocks} (h : RepV P w N L T (keyV agg kd ns) c S) (h3 : agg = false → kd.length = 1) (h4 : ns.length = kd.length) : c = kv agg kd ns := by
  cases agg with
  | true =>
    simp only [keyV] at h
    cases h with
    | ag _ vals _ hl hc h =>
      simp only [kv]
      congr 1
      rw [← cells_key (w := w) (N := N) (kd := kd) (ns := ns) (cs := vals.toList) (by simpa using hl.symm) (fun j d hj => by
        have := h j (.d d) (by simp [hj])
        cases this with
        | d _ _ _ h => simpa [Array.getD_eq_getD_getElem?, List.getD_eq_getElem?_getD] using h)]
  | false =>
    have h1 := h3 rfl
    have h5 := kcells_len h4
    cases hk : kcells kd ns with
    | nil => rw [hk] at h5; simp at h5; omega
    | cons v vs =>
      simp only [keyV, encK, hk, List.map_cons] at h
      simp only [kv, hk]
      cases h with
      | d _ _ _ h => exact repD_sc h
theorem ents_keys {w : World} {N : Cells} {tm : Nat} {ents : List MapEntry} {kd : List IntKind} {agg : Bool} {m : IMap} (h : MapRep w N tm ents (mkE kd m)) (ha : mpK tm = agg) (h3 : agg = false → kd.length = 1) (hlen : ∀ p ∈ m, p.1.length = kd.length) :
    ents.map (·.key) = (m.map (·.1)).map (kv agg kd) := by
  apply List.ext_getElem
  · simpa [mkE] using h.1
  · intro i h1 h2
    simp only [List.length_map] at h1 h2
    simp only [List.getElem_map]
    obtain ⟨⟨q1, q2⟩, _, q4, _⟩ := h.2 i ents[i] (encK kd m[i].1) m[i].2 (List.getElem?_eq_getElem h1) (by simp [mkE, h2])
    refine key_val ?_ (q4.trans ha) h3 (hlen _ (List.getElem_mem h2))
    refine cells_key (w := w) (N := N) (by simpa using q1.symm) (fun j d hj => ?_)
    have := q2 j d hj
    simpa [Array.getD_eq_getD_getElem?, List.getD_eq_getElem?_getD] using this
def idxI (ns : List Int) : IMap → Nat
  | [] => 0
  | p :: m => if p.1 = ns then 0 else idxI ns m + 1
def insI (ns : List Int) (z : List D) : IMap → IMap
  | [] => [(ns, z)]
  | p :: m => if p.1 = ns then p :: m else p :: insI ns z m
theorem find_look {ns : List Int} : ∀ (m : IMap) (vs : List Value) (i0 : Nat), vs.length = m.length →
    (lookI ns m = none ∧ findI ns (m.map (·.1)) vs i0 = none ∧ idxI ns m = m.length ∧ (∀ z, insI ns z m = m ++ [(ns, z)]) ∧ (∀ z, setI ns z m = m ++ [(ns, z)])) ∨
    ∃ (i : Nat) (ds : List D) (v : Value), m[i]? = some (ns, ds) ∧ lookI ns m = some ds ∧ vs[i]? = some v ∧ findI ns (m.map (·.1)) vs i0 = some (i0 + i, v) ∧ idxI ns m = i ∧ (∀ z, insI ns z m = m) ∧ (∀ z, setI ns z m = m.set i (ns, z))
  | [], vs, i0, h => .inl ⟨rfl, by cases vs <;> rfl, rfl, fun _ => rfl, fun _ => rfl⟩
  | p :: m, [], i0, h => by simp at h
  | p :: m, v :: vs, i0, h => by
    obtain ⟨k, ds⟩ := p
    simp only [lookI, List.map_cons, findI, idxI, insI, setI]
    by_cases hk : k = ns
    · subst hk
      exact .inr ⟨0, ds, v, rfl, by simp, rfl, by simp, by simp, by simp, by simp⟩
    · simp only [hk, if_false]
      rcases find_look m vs (i0 + 1) (by simpa using h) with ⟨h1, h2, h3, h4, h5⟩ | ⟨i, ds', v', h1, h2, h3, h4, h5, h6, h7⟩
      · exact .inl ⟨h1, h2, by simp [h3], fun z => by simp [h4], fun z => by simp [h5]⟩
      · exact .inr ⟨i + 1, ds', v', by simpa using h1, h2, by simpa using h3, by rw [h4]; congr 2; omega, by simp [h5], fun z => by simp [h6], fun z => by simp [h7]⟩
def ZShape (P : Program) (e : Nat) (ui : TI) : Prop := ((P.info? e).bind (·.zero)).map isAggV = some ui.agg
theorem zero_of {e : Nat} {ui : TI} (h : mkTI P e = some ui) (hz : ZShape P e ui) (w : World) (N : Cells) : ∃ z, (zeroValue e).run P w = .ok z w ∧ isAggV z = ui.agg ∧ ui.zero.length = z.cells.size ∧ ui.zero.length = ui.size ∧ ∀ (j : Nat) (d : D), ui.zero[j]? = some d → RepD w N d (z.cells.getD j undef) := by
  obtain ⟨i, d, z, m1, m2, m3, m4, m5, m6, _⟩ := mkTI_ok h
  obtain ⟨k1, k2⟩ := toDs_get m4
  refine ⟨z, by simp [zeroValue, typeInfo, m1, m3], ?_, by simpa using k1, m5, fun j d hj => ?_⟩
  · simp only [ZShape, m1, Option.bind_some, m3, Option.map_some, Option.some.injEq] at hz
    exact hz
  · obtain ⟨v, h1, h2⟩ := k2 j d hj
    rw [Array.getElem?_toList] at h1
    rw [Array.getD_eq_getD_getElem?, h1]
    exact toD_ok h2
theorem val_rep {w : World} {N L : Cells} {T : Loc → Option Value} {ui : TI} {ds : List D} {c : Value} {v : V} (hv : ofCells ui (ds.map .d) = some v) (hc : isAggV c = ui.agg) (hl : ds.length = c.cells.size) (h : ∀ (j : Nat) (d : D), ds[j]? = some d → RepD w N d (c.cells.getD j undef)) (S : Blocks) : RepV P w N L T v c S := by
  unfold ofCells at hv
  split at hv
  · rename_i ha
    cases hv
    rw [ha] at hc
    cases c <;> simp [isAggV] at hc
    rename_i cs
    simp only [Value.cells] at hl h
    refine .ag _ cs S (by simpa using hl) (fun i v hi => ?_) (fun i v hi => ?_)
    · simp only [List.getElem?_map, Option.map_eq_some_iff] at hi
      obtain ⟨d, _, rfl⟩ := hi; rfl
    · simp only [List.getElem?_map, Option.map_eq_some_iff] at hi
      obtain ⟨d, hd, rfl⟩ := hi
      exact .d _ _ _ (h i d hd)
  · rename_i ha
    rw [ha] at hc
    split at hv
    · split at hv
      · rename_i c' hcs
        cases hv
        cases ds with
        | nil => simp at hcs
        | cons d ds =>
          simp only [List.map_cons, List.cons.injEq] at hcs
          obtain ⟨rfl, _⟩ := hcs
          have hcc : c.cells = #[c] := by cases c <;> first | rfl | (simp [isAggV] at hc)
          have := h 0 d rfl
          rw [hcc] at this
          exact .d _ _ _ this
      · cases hv
    · cases hv
def lookV (ok : Bool) (v : V) (there : Bool) : V := match ok with | true => .tu [v, .d (.sc (.bool there))] | false => v
theorem OpM.lookup (hF : Wide F) {t u : Nat} {kx : Operand} {ok : Bool} (ho : o.op = .lookup t (.tmp u) kx ok) {ti ui : TI} (hti : mkTI P t = some ti) {kt e : Nat} (hk : ti.kind = .map kt e) (hui : mkTI P e = some ui) (hzs : ZShape P e ui) {agg : Bool} {kd : List IntKind} (KL : KLaw P kt agg kd)
    {l : Loc} {tm : Nat} {m : IMap} (hm : own E (.s u) = some (l, .mp tm (mkE kd m))) (htk : mpK tm = agg) (htv : mpV tm = ui.agg) {ns : List Int} (hkey : copyO E kx = some (keyV agg kd ns)) (hns : ns.length = kd.length) (hlen : ∀ p ∈ m, p.1.length = kd.length)
    {ds : List D} (hds : (lookI ns m).getD ui.zero = ds) {v : V} (hv : ofCells ui (ds.map .d) = some v) {d : Nat} (hd : o.dst = some d) (hok : okD n K d (lookV ok v (lookI ns m).isSome) = true) : OpM P F n K o E d (lookV ok v (lookI ns m).isSome) :=
  .pure hF (by simp [ho]) hd hok fun E' hs w N L γ R tmps ds' hr hn => by
    obtain ⟨c, h1, h2, h3, h4⟩ := own_ok hr (own_mono hs hm)
    have hkc := keyV_ok (copyO_ok hr (copyO_mono hs hkey) ds' none_) KL.one hns
    have ht := mapT_of hti hk
    cases h3 with
    | mp _ _ b ents clock _ hb hrep hst hRb =>
      have hkeys := ents_keys hrep htk KL.one hlen
      have hfind := KL.find w ns ents.toList (m.map (·.1)) hns hkeys (by intro ms hms; obtain ⟨p, hp, rfl⟩ := List.mem_map.1 hms; exact hlen p hp)
      have hlenE : ents.toList.length = m.length := by have := hrep.1; simpa [mkE] using this
      obtain ⟨z, z1, z2, z3, z4, z5⟩ := zero_of hui hzs w N
      have hcheck := KL.check w ents.isEmpty ns hns
      have fin : ∀ (cv : Value) (there : Bool), (lookI ns m).isSome = there → (∀ S, RepV P w N L (Tof tmps γ) v cv S) → ∀ S, RepV P w N L (Tof tmps γ) (lookV ok v (lookI ns m).isSome) (if ok then .tuple #[cv, .bool there] else cv) S := by
        intro cv there hth hrepv S
        cases ok with
        | false => simpa [lookV] using hrepv S
        | true =>
          simp only [lookV, if_true]
          refine .tu _ _ _ rfl (fun i u hi => ?_)
          cases i with
          | zero => simp at hi; subst hi; simpa using hrepv none_
          | succ i =>
            cases i with
            | zero => simp at hi; subst hi; rw [hth]; exact .d _ _ _ (.sc _ rfl)
            | succ i => simp at hi
      rcases find_look m (ents.toList.map (·.val)) 0 (by simpa using hlenE) (ns := ns) with ⟨q1, q2, _⟩ | ⟨i, ds0, v0, q1, q2, q3, q4, _⟩
      · rw [q2] at hfind
        refine ⟨if ok then .tuple #[z, .bool false] else z, ?_, fin z false (by rw [q1]; rfl) (fun S => ?_)⟩
        · simp only [execOp, ho, eval_tmp h1, hkc]
          simp [Instr.lookup, run_underlying ht, MapKept.run_getObj_map hb, hcheck, hfind, z1]
        · rw [q1] at hds
          simp only [Option.getD_none] at hds
          subst hds
          exact val_rep hv z2 z3 z5 S
      · rw [q4] at hfind
        refine ⟨if ok then .tuple #[v0, .bool true] else v0, ?_, fin v0 true (by rw [q2]; rfl) (fun S => ?_)⟩
        · simp only [execOp, ho, eval_tmp h1, hkc]
          simp [Instr.lookup, run_underlying ht, MapKept.run_getObj_map hb, hcheck, hfind]
        · rw [q2] at hds
          simp only [Option.getD_some] at hds
          subst hds
          simp only [List.getElem?_map, Option.map_eq_some_iff] at q3
          obtain ⟨en, hen, rfl⟩ := q3
          obtain ⟨_, ⟨k1, k2⟩, _, k4⟩ := hrep.2 i en (encK kd ns) ds0 hen (by simp [mkE, q1])
          exact val_rep hv (k4.trans htv) k1 k2 S
def vagg : V → Bool | .ag _ => true | _ => false
def V.notTu : V → Bool | .tu _ => false | _ => true
theorem vagg_ok {w : World} {N L : Cells} {T : Loc → Option Value} {v : V} {c : Value} {S : Blocks} {ds : List D} (h : RepV P w N L T v c S) (hd : VDs (cellsV v) = some ds) (hnt : ∀ vs, v ≠ .tu vs) : isAggV c = vagg v := by
  cases h with
  | d x c R h =>
    cases h with
    | sc _ hv => cases c <;> first | rfl | simp [scal] at hv
    | nl => rfl
    | nil => rfl
    | sl => rfl
  | ag => rfl
  | kt => rfl
  | kf => rfl
  | tu vs => exact absurd rfl (hnt vs)
  | _ => simp [cellsV, VDs, VD] at hd
theorem kv_cells {agg : Bool} {kd : List IntKind} {ns : List Int} (h3 : agg = false → kd.length = 1) (h4 : ns.length = kd.length) : (kv agg kd ns).cells.toList = kcells kd ns ∧ isAggV (kv agg kd ns) = agg := by
  have h5 := kcells_len h4
  cases agg with
  | true => simp [kv, Value.cells, isAggV]
  | false =>
    have := h3 rfl
    cases hk : kcells kd ns with
    | nil => rw [hk] at h5; simp at h5; omega
    | cons v vs =>
      have : vs = [] := by rw [hk] at h5; simp at h5; exact List.eq_nil_of_length_eq_zero (by omega)
      subst this
      obtain ⟨k, n, rfl⟩ := kcells_sc (kd := kd) (ns := ns) v (by rw [hk]; exact .head _)
      simp only [kv, hk]
      exact ⟨rfl, rfl⟩
def EntRep (w : World) (N : Cells) (tm : Nat) (e : MapEntry) (k v : List D) : Prop :=
  (k.length = e.key.cells.size ∧ ∀ (j : Nat) (d : D), k[j]? = some d → RepD w N d (e.key.cells.getD j undef)) ∧
  (v.length = e.val.cells.size ∧ ∀ (j : Nat) (d : D), v[j]? = some d → RepD w N d (e.val.cells.getD j undef)) ∧ isAggV e.key = mpK tm ∧ isAggV e.val = mpV tm
theorem MapRep.push {w : World} {N : Cells} {tm : Nat} {ents : Array MapEntry} {es : List (List D × List D)} (h : MapRep w N tm ents.toList es) {e : MapEntry} {k v : List D} (he : EntRep w N tm e k v) : MapRep w N tm (ents.push e).toList (es ++ [(k, v)]) := by
  refine ⟨by simpa using h.1, fun i e' k' v' hi hj => ?_⟩
  have hl : ents.toList.length = es.length := h.1
  simp only [Array.toList_push, List.getElem?_append] at hi hj
  split at hi
  · rename_i hlt
    rw [if_pos (by omega)] at hj
    exact h.2 i e' k' v' hi hj
  · rename_i hlt
    rw [if_neg (by omega)] at hj
    rw [hl] at hi
    cases hii : i - es.length with
    | zero => rw [hii] at hi hj; simp at hi hj; obtain ⟨rfl, rfl⟩ := hj; subst hi; exact he
    | succ j => rw [hii] at hi; simp at hi
theorem MapRep.modify {w : World} {N : Cells} {tm : Nat} {ents : Array MapEntry} {es : List (List D × List D)} (h : MapRep w N tm ents.toList es) {i : Nat} {f : MapEntry → MapEntry} {k v : List D} (he : ∀ e, ents[i]? = some e → EntRep w N tm (f e) k v) : MapRep w N tm (ents.modify i f).toList (es.set i (k, v)) := by
  refine ⟨by simpa using h.1, fun j e' k' v' hi hj => ?_⟩
  rw [Array.getElem?_toList, Array.getElem?_modify] at hi
  rw [List.getElem?_set] at hj
  split at hi
  · rename_i e
    subst e
    simp only [if_true] at hj
    simp only [Option.map_eq_some_iff] at hi
    obtain ⟨e0, h0, rfl⟩ := hi
    split at hj
    · cases hj; exact he e0 h0
    · cases hj
  · rename_i hne
    rw [if_neg hne] at hj
    exact h.2 j e' k' v' (by rw [Array.getElem?_toList]; exact hi) hj
theorem Stamps.push {ents : Array MapEntry} {clock : Nat} (h : Stamps ents.toList clock) {k v : Value} : Stamps (ents.push { key := k, val := v, born := clock }).toList (clock + 1) := by
  refine ⟨by simp [h.1], fun i e hi => ?_⟩
  simp only [Array.toList_push, List.getElem?_append] at hi
  split at hi
  · exact h.2 i e hi
  · rename_i hlt
    have h1 := h.1
    cases hii : i - ents.toList.length with
    | zero => rw [hii] at hi; simp at hi; subst hi; simp only; omega
    | succ j => rw [hii] at hi; simp at hi
theorem Stamps.modify {ents : Array MapEntry} {clock i : Nat} (h : Stamps ents.toList clock) {f : MapEntry → MapEntry} (hf : ∀ e, (f e).born = e.born) : Stamps (ents.modify i f).toList clock := by
  refine ⟨by simp [h.1], fun j e hj => ?_⟩
  rw [Array.getElem?_toList, Array.getElem?_modify] at hj
  split at hj
  · simp only [Option.map_eq_some_iff] at hj
    obtain ⟨e0, h0, rfl⟩ := hj
    rw [hf]; exact h.2 j e0 (by rw [Array.getElem?_toList]; exact h0)
  · exact h.2 j e (by rw [Array.getElem?_toList]; exact hj)
theorem repD_key {w : World} {N : Cells} {kd : List IntKind} {ns : List Int} {k : Value} (h : k.cells.toList = kcells kd ns) : (encK kd ns).length = k.cells.size ∧ ∀ (j : Nat) (d : D), (encK kd ns)[j]? = some d → RepD w N d (k.cells.getD j undef) := by
  refine ⟨by simp [encK, ← h], fun j d hj => ?_⟩
  obtain ⟨v, h1, rfl, h2⟩ := encK_get hj
  rw [← h, Array.getElem?_toList] at h1
  rw [Array.getD_eq_getD_getElem?, h1]
  exact .sc _ h2
theorem fresh_upd {l : Loc} {d : Nat} {v : V} (hn : (E.map Prod.fst).Nodup) (ha : anyOf (.s d) E = false) (hv : v.men (.s d) = false) : anyOf (.s d) (VL.upd l v E) = false := by
  refine anyOf_iff.2 fun p hp => ?_
  obtain ⟨s, u⟩ := p
  rcases upd_mem hn hp with ⟨rfl, rfl, u0, h⟩ | ⟨h, _⟩
  · exact ⟨(anyOf_mem ha h).1, hv⟩
  · exact anyOf_mem ha h
theorem OpTo.mapUpdate (hF : Wide F) {t u : Nat} {kx vx : Operand} (ho : o.op = .mapUpdate t (.tmp u) kx vx) (hd : o.dst = none) {ti : TI} (hti : mkTI P t = some ti) {kt e : Nat} (hk : ti.kind = .map kt e) {agg : Bool} {kd : List IntKind} (KL : KLaw P kt agg kd)
    {l : Loc} {tm : Nat} {m : IMap} (hm : own E (.s u) = some (l, .mp tm (mkE kd m))) (htk : mpK tm = agg) {ns : List Int} (hkey : copyO E kx = some (keyV agg kd ns)) (hns : ns.length = kd.length) (hlen : ∀ p ∈ m, p.1.length = kd.length)
    {vv : V} (hx : argO E vx = some vv) (htu : vv.notTu = true) {ds : List D} (hds : VDs (cellsV vv) = some ds) (htv : mpV tm = vagg vv) : OpTo P F n K o E (VL.upd l (.mp tm (mkE kd (setI ns ds m))) E) := by
  intro w N L γ R tmps ds' hr hn
  have hnt : ∀ vs, vv ≠ .tu vs := by rintro vs rfl; cases htu
  obtain ⟨c, h1, h2, h3, h4⟩ := own_ok hr hm
  have hkc := keyV_ok (copyO_ok hr hkey ds' none_) KL.one hns
  have hxr := (argO_ok hr hx ds' none_).2
  have hcO : cellsO E vx = some ds := by
    simp only [cellsO, hx]
    cases vv <;> first | exact hds | cases htu
  obtain ⟨c1, c2, c3⟩ := cellsO_ok hr hcO ds'
  have hsh := vagg_ok hxr hds hnt
  have ht := mapT_of hti hk
  obtain ⟨kc1, kc2⟩ := kv_cells KL.one hns (agg := agg) (kd := kd)
  cases h3 with
  | mp _ _ b ents clock _ hb hrep hst hRb =>
    have hkeys := ents_keys hrep htk KL.one hlen
    have hfind := KL.find w ns ents.toList (m.map (·.1)) hns hkeys (by intro ms hms; obtain ⟨p, hp, rfl⟩ := List.mem_map.1 hms; exact hlen p hp)
    have hlenE : ents.toList.length = m.length := by have := hrep.1; simpa [mkE] using this
    have hcheck := KL.check w false ns hns
    have hent : ∀ (e : MapEntry), e.key = kv agg kd ns → e.val = Act.eval ⟨tmps, ds'⟩ vx → EntRep w N tm e (encK kd ns) ds := by
      intro e e1 e2
      refine ⟨by rw [e1]; exact repD_key kc1, by rw [e2]; exact ⟨c1, c3⟩, by rw [e1, kc2, htk], by rw [e2, hsh, htv]⟩
    refine wpIn_run hF (by simp [ho]) ?_
    rcases find_look m (ents.toList.map (·.val)) 0 (by simpa using hlenE) (ns := ns) with ⟨q1, q2, _, _, q5⟩ | ⟨i, ds0, v0, q1, q2, q3, q4, _, _, q7⟩
    · rw [q2] at hfind
      have hrun : (execOp (Act.eval ⟨tmps, ds'⟩) o).run P w = .ok .skip (putHeap w b (.map (ents.push { key := kv agg kd ns, val := Act.eval ⟨tmps, ds'⟩ vx, born := clock }) (clock + 1))) := by
        simp only [execOp, ho, eval_tmp h1, hkc]
        simp [Instr.mapUpdate, run_underlying ht, MapKept.run_getObj_map hb, hcheck, hfind, MapKept.run_setObj_map _ hb, putHeap]
      rw [hrun]
      show Mid P n K w N L R tmps ds' _ (Act.put ⟨tmps, ds'⟩ o.dst undef) _
      rw [hd]
      obtain ⟨s1, s2⟩ := hr.setMap h4 h2 (ents' := ents.push { key := kv agg kd ns, val := Act.eval ⟨tmps, ds'⟩ vx, born := clock }) (clock' := clock + 1) (es' := mkE kd (setI ns ds m)) (by rw [q5, mkE, List.map_append]; exact hrep.push (hent _ rfl rfl)) hst.push
      exact ⟨_, N, L, γ, R, rfl, s1, hn, rfl, fun _ _ => rfl, s2, fun _ h => .inl h⟩
    · rw [q4] at hfind
      simp only [Nat.zero_add] at hfind
      have hk0 : (ents[i]?).map (·.key) = some (kv agg kd ns) := by
        have h5 : (ents.toList.map (·.key))[i]? = ((m.map (·.1)).map (kv agg kd))[i]? := by rw [hkeys]
        simp only [List.getElem?_map, q1, Option.map_some, Array.getElem?_toList] at h5
        exact h5
      have hrun : (execOp (Act.eval ⟨tmps, ds'⟩) o).run P w = .ok .skip (putHeap w b (.map (ents.modify i fun e => { e with key := kv agg kd ns, val := Act.eval ⟨tmps, ds'⟩ vx }) clock)) := by
        simp only [execOp, ho, eval_tmp h1, hkc]
        simp [Instr.mapUpdate, run_underlying ht, MapKept.run_getObj_map hb, hcheck, hfind, hk0, KL.stays w ns hns, MapKept.run_setObj_map _ hb, putHeap]
      rw [hrun]
      show Mid P n K w N L R tmps ds' _ (Act.put ⟨tmps, ds'⟩ o.dst undef) _
      rw [hd]
      obtain ⟨s1, s2⟩ := hr.setMap h4 h2 (ents' := ents.modify i fun e => { e with key := kv agg kd ns, val := Act.eval ⟨tmps, ds'⟩ vx }) (clock' := clock) (es' := mkE kd (setI ns ds m)) (by rw [q7, mkE, List.map_set]; exact hrep.modify (fun e _ => hent _ rfl rfl)) (hst.modify fun _ => rfl)
      exact ⟨_, N, L, γ, R, rfl, s1, hn, rfl, fun _ _ => rfl, s2, fun _ h => .inl h⟩
theorem OpTo.mapEntry (hF : Wide F) {t u : Nat} {kx : Operand} (ho : o.op = .mapEntry t (.tmp u) kx) {ti ui : TI} (hti : mkTI P t = some ti) {kt e : Nat} (hk : ti.kind = .map kt e) (hui : mkTI P e = some ui) (hzs : ZShape P e ui) {agg : Bool} {kd : List IntKind} (KL : KLaw P kt agg kd)
    {l : Loc} {tm : Nat} {m : IMap} (hm : own E (.s u) = some (l, .mp tm (mkE kd m))) (htk : mpK tm = agg) (htv : mpV tm = ui.agg) {ns : List Int} (hkey : copyO E kx = some (keyV agg kd ns)) (hns : ns.length = kd.length) (hlen : ∀ p ∈ m, p.1.length = kd.length)
    {ds : List D} (hds : (lookI ns m).getD ui.zero = ds) {v : V} (hv : ofCells ui (ds.map .d) = some v) {d : Nat} (hd : o.dst = some d) (hok : okD n K d (.tu [v]) = true) (ha : anyOf (.s d) E = false) :
    OpTo P F n K o E ((.s d, .tu [v, Iv .i64 (idxI ns m)]) :: VL.upd l (.mp tm (mkE kd (insI ns ui.zero m))) E) := by
  intro w N L γ R tmps ds' hr hn
  obtain ⟨c, h1, h2, h3, h4⟩ := own_ok hr hm
  have hkc := keyV_ok (copyO_ok hr hkey ds' none_) KL.one hns
  have ht := mapT_of hti hk
  obtain ⟨kc1, kc2⟩ := kv_cells KL.one hns (agg := agg) (kd := kd)
  simp only [okD, Bool.and_eq_true, Bool.not_eq_true', Nat.blt_eq, V.men, mens, Bool.or_false] at hok
  obtain ⟨⟨hdn, hdK⟩, hvm⟩ := hok
  have hdK : d ∉ K := by simpa using hdK
  -- the end: d holds the tuple
  have fin : ∀ (w' : World) (cv : Value) (m' : IMap), Rel P w' N L tmps γ R (VL.upd l (.mp tm (mkE kd m')) E) → Later w N L (St R) w' N L → RepV P w' N L (Tof tmps γ) v cv none_ →
      Mid P n K w N L R tmps ds' (· = (.s d, .tu [v, Iv .i64 (idxI ns m)]) :: VL.upd l (.mp tm (mkE kd m')) E) (Act.put ⟨tmps, ds'⟩ o.dst (.tuple #[cv, .int .i64 (idxI ns m : Nat)])) w' := by
    intro w' cv m' hr1 hla hv'
    rw [hd]
    have ha1 : anyOf (.s d) (VL.upd l (.mp tm (mkE kd m')) E) = false := fresh_upd hr.nd ha rfl
    have hput := hr1.put (d := d) (v := .tu [v, Iv .i64 (idxI ns m)]) (c := .tuple #[cv, .int .i64 (idxI ns m : Nat)]) (by omega) (by simp [V.men, mens, hvm]) (.tu _ _ _ rfl (fun i u hi => by
      cases i with
      | zero => simp at hi; subst hi; simpa using hv'
      | succ i =>
        cases i with
        | zero => simp at hi; subst hi; exact rep_int ..
        | succ i => simp at hi))
    rw [show VL.put (.s d) (.tu [v, Iv .i64 (idxI ns m)]) (VL.upd l (.mp tm (mkE kd m')) E) = (.s d, .tu [v, Iv .i64 (idxI ns m)]) :: VL.upd l (.mp tm (mkE kd m')) E by simp [VL.put, ha1]] at hput
    refine ⟨_, N, L, γ, R, rfl, hput, by simp [Act.put, hn], rfl, fun k hk => ?_, hla, fun _ h => .inl h⟩
    have : k ≠ d := by rintro rfl; exact hdK hk
    simp [Act.put, Array.getElem?_setIfInBounds_ne (Ne.symm this)]
  cases h3 with
  | mp _ _ b ents clock _ hb hrep hst hRb =>
    have hkeys := ents_keys hrep htk KL.one hlen
    have hfind := KL.find w ns ents.toList (m.map (·.1)) hns hkeys (by intro ms hms; obtain ⟨p, hp, rfl⟩ := List.mem_map.1 hms; exact hlen p hp)
    have hlenE : ents.toList.length = m.length := by have := hrep.1; simpa [mkE] using this
    have hcheck := KL.check w false ns hns
    obtain ⟨z, z1, z2, z3, z4, z5⟩ := zero_of hui hzs w N
    refine wpIn_run hF (by simp [ho]) ?_
    rcases find_look m (ents.toList.map (·.val)) 0 (by simpa using hlenE) (ns := ns) with ⟨q1, q2, q3, q4, q5⟩ | ⟨i, ds0, v0, q1, q2, q3, q4, q5, q6, q7⟩
    · rw [q2] at hfind
      rw [q1] at hds
      simp only [Option.getD_none] at hds
      subst hds
      have hclk : clock = m.length := by rw [hst.1, hlenE]
      have hrun : (execOp (Act.eval ⟨tmps, ds'⟩) o).run P w = .ok (.value (.tuple #[z, .int .i64 (idxI ns m : Nat)])) (putHeap w b (.map (ents.push { key := kv agg kd ns, val := z, born := clock }) (clock + 1))) := by
        simp only [execOp, ho, eval_tmp h1, hkc]
        rw [q3, ← hclk]
        simp [Instr.mapEntry, run_underlying ht, MapKept.run_getObj_map hb, hcheck, hfind, z1, MapKept.run_setObj_map _ hb, putHeap, goInt]
      rw [hrun]
      obtain ⟨s1, s2⟩ := hr.setMap h4 h2 (ents' := ents.push { key := kv agg kd ns, val := z, born := clock }) (clock' := clock + 1) (es' := mkE kd (insI ns ui.zero m)) (by
        rw [q4, mkE, List.map_append]
        exact hrep.push ⟨repD_key kc1, ⟨z3, z5⟩, by rw [kc2, htk], by rw [z2, htv]⟩) hst.push
      exact fin _ z _ s1 s2 (val_rep hv z2 z3 (fun j d hj => (z5 j d hj).mono (fun _ _ h => h) (fun b o u hN hu => s2.keeps b o u (hr.NL _ _ hN) hu)) none_)
    · rw [q4] at hfind
      rw [q2] at hds
      simp only [Option.getD_some] at hds
      subst hds
      simp only [Nat.zero_add] at hfind
      have hk0 : (ents[i]?).map (·.key) = some (kv agg kd ns) := by
        have h5 : (ents.toList.map (·.key))[i]? = ((m.map (·.1)).map (kv agg kd))[i]? := by rw [hkeys]
        simp only [List.getElem?_map, q1, Option.map_some, Array.getElem?_toList] at h5
        exact h5
      simp only [List.getElem?_map, Option.map_eq_some_iff] at q3
      obtain ⟨en, hen, rfl⟩ := q3
      have hen' : ents[i]? = some en := by rw [← Array.getElem?_toList]; exact hen
      have hborn : en.born = i := hst.2 i en hen
      have hrun : (execOp (Act.eval ⟨tmps, ds'⟩) o).run P w = .ok (.value (.tuple #[en.val, .int .i64 (idxI ns m : Nat)])) (putHeap w b (.map (ents.modify i fun e => { e with key := kv agg kd ns }) clock)) := by
        simp only [execOp, ho, eval_tmp h1, hkc]
        rw [q5]
        simp [Instr.mapEntry, run_underlying ht, MapKept.run_getObj_map hb, hcheck, hfind, hen', show en.key = kv agg kd ns by rw [hen'] at hk0; simpa using hk0, hborn, KL.stays w ns hns, MapKept.run_setObj_map _ hb, putHeap, goInt]
      rw [hrun]
      obtain ⟨⟨k1, k2⟩, ⟨k3, k4⟩, k5, k6⟩ := hrep.2 i en (encK kd ns) ds0 hen (by simp [mkE, q1])
      obtain ⟨s1, s2⟩ := hr.setMap h4 h2 (ents' := ents.modify i fun e => { e with key := kv agg kd ns }) (clock' := clock) (es' := mkE kd (insI ns ui.zero m)) (by
        have e1 : mkE kd (insI ns ui.zero m) = (mkE kd m).set i (encK kd ns, ds0) := by
          rw [q6]
          apply List.ext_getElem?
          intro j
          rw [List.getElem?_set]
          by_cases hij : i = j
          · subst hij
            obtain ⟨hlt, he⟩ := List.getElem?_eq_some_iff.1 q1
            simp [mkE, hlt, he]
          · rw [if_neg hij]
        rw [e1]
        exact hrep.modify (fun e he => by
          rw [hen'] at he; cases he
          exact ⟨repD_key kc1, ⟨k3, k4⟩, by rw [kc2, htk], k6⟩)) (hst.modify fun _ => rfl)
      exact fin _ en.val _ s1 s2 (val_rep hv (k6.trans htv) k3 (fun j d hj => (k4 j d hj).mono (fun _ _ h => h) (fun b o u hN hu => s2.keeps b o u (hr.NL _ _ hN) hu)) none_)
def stI (i : Nat) (ds : List D) (m : IMap) : IMap := m.modify i (fun p => (p.1, ds))
theorem stI_ins {ns : List Int} {z ds : List D} : ∀ (m : IMap), stI (idxI ns m) ds (insI ns z m) = setI ns ds m
  | [] => rfl
  | p :: m => by
    simp only [stI, idxI, insI, setI]
    by_cases h : p.1 = ns
    · simp only [h, if_true]
      rw [List.modify_zero_cons, h]
    · simp only [h, if_false]
      rw [List.modify_succ_cons]
      have := stI_ins (ns := ns) (z := z) (ds := ds) m
      simp only [stI] at this
      rw [this]
theorem OpTo.entryStore (hF : Wide F) {t u : Nat} {sx vx : Operand} (ho : o.op = .entryStore t (.tmp u) sx vx) (hd : o.dst = none) {kd : List IntKind}
    {l : Loc} {tm : Nat} {m : IMap} (hm : own E (.s u) = some (l, .mp tm (mkE kd m))) {i : Nat} (hs : intO E sx = some (.i64, (i : Int))) (hi : i < m.length)
    {vv : V} (hx : argO E vx = some vv) (htu : vv.notTu = true) {ds : List D} (hds : VDs (cellsV vv) = some ds) (htv : mpV tm = vagg vv) : OpTo P F n K o E (VL.upd l (.mp tm (mkE kd (stI i ds m))) E) := by
  intro w N L γ R tmps ds' hr hn
  have hnt : ∀ vs, vv ≠ .tu vs := by rintro vs rfl; cases htu
  obtain ⟨c, h1, h2, h3, h4⟩ := own_ok hr hm
  have hxr := (argO_ok hr hx ds' none_).2
  have hcO : cellsO E vx = some ds := by
    simp only [cellsO, hx]
    cases vv <;> first | exact hds | cases htu
  obtain ⟨c1, c2, c3⟩ := cellsO_ok hr hcO ds'
  have hsh := vagg_ok hxr hds hnt
  have hse := intO_ok hr hs ds'
  cases h3 with
  | mp _ _ b ents clock _ hb hrep hst hRb =>
    have hlenE : ents.toList.length = m.length := by have := hrep.1; simpa [mkE] using this
    have hie : i < ents.size := by simpa [← hlenE] using hi
    have hfi : ents.findIdx? (fun e => (e.born : Int) == (i : Int)) = some i := by
      rw [Array.findIdx?_eq_some_iff_getElem]
      refine ⟨hie, ?_, fun j hj => ?_⟩
      · have := hst.2 i ents[i] (by rw [Array.getElem?_toList]; exact Array.getElem?_eq_getElem hie)
        rw [this]; simp
      · have := hst.2 j ents[j] (by rw [Array.getElem?_toList]; exact Array.getElem?_eq_getElem (by omega))
        simp only [this, Bool.not_eq_true, beq_eq_false_iff_ne, ne_eq, Int.natCast_inj]
        omega
    have hrun : (execOp (Act.eval ⟨tmps, ds'⟩) o).run P w = .ok .skip (putHeap w b (.map (ents.modify i fun e => { e with val := Act.eval ⟨tmps, ds'⟩ vx }) clock)) := by
      simp only [execOp, ho, eval_tmp h1, hse]
      simp [Instr.entryStore, MapKept.run_getObj_map hb, asInt, asIntOf, hfi, MapKept.run_setObj_map _ hb, putHeap]
    refine wpIn_run hF (by simp [ho]) ?_
    rw [hrun]
    show Mid P n K w N L R tmps ds' _ (Act.put ⟨tmps, ds'⟩ o.dst undef) _
    rw [hd]
    have hmi := List.getElem?_eq_getElem hi
    obtain ⟨s1, s2⟩ := hr.setMap h4 h2 (ents' := ents.modify i fun e => { e with val := Act.eval ⟨tmps, ds'⟩ vx }) (clock' := clock) (es' := mkE kd (stI i ds m)) (by
      have e1 : mkE kd (stI i ds m) = (mkE kd m).set i (encK kd m[i].1, ds) := by
        apply List.ext_getElem?
        intro j
        simp only [mkE, stI, List.getElem?_map, List.getElem?_modify, List.getElem?_set, List.length_map]
        by_cases hij : i = j
        · subst hij; simp [hi]
        · simp [hij]
      rw [e1]
      exact hrep.modify (fun e he => by
        obtain ⟨⟨k1, k2⟩, ⟨k3, k4⟩, k5, k6⟩ := hrep.2 i e (encK kd m[i].1) m[i].2 (by rw [Array.getElem?_toList]; exact he) (by simp [mkE, hmi])
        exact ⟨⟨k1, k2⟩, ⟨c1, c3⟩, k5, by rw [hsh, htv]⟩)) (hst.modify fun _ => rfl)
    exact ⟨_, N, L, γ, R, rfl, s1, hn, rfl, fun _ _ => rfl, s2, fun _ h => .inl h⟩
end
end Go.Proofs.VL
