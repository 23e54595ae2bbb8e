import Derived.Test.YtndffogfaocchaaGreatW00
set_option linter.unusedVariables false
set_option linter.unusedSimpArgs false
set_option linter.unusedSectionVars false
namespace Go.Proofs.VL
open Go Go.RowKit
variable {P : Program}
abbrev Gh := Nat → Nat → Option Value
section
variable {w : World} {N L : Cells} {tmps : Array Value} {γ : Gh} {R : Loc → Blocks} {E : Env}
theorem copyAt_ok {l : Loc} {v u : V} {c : Value} {S : Blocks} (h : copyAt l v = some u) (hT : Tof tmps γ l = some c) (hv : RepV P w N L (Tof tmps γ) v c S) (R' : Blocks) :
    RepV P w N L (Tof tmps γ) u c R' := by
  unfold copyAt at h
  split at h
  · rename_i ho
    cases h
    exact .ref l c R' hT (hv.oneCell (by cases v <;> simp_all [isOwned, isCell]))
  · rename_i ho
    split at h
    · cases h
      exact hv.plain ho R'
    · cases h
theorem toDs_get {l : List Value} {ds : List D} (h : toDs l = some ds) : ds.length = l.length ∧ ∀ (i : Nat) (d : D), ds[i]? = some d → ∃ v, l[i]? = some v ∧ toD v = some d := by
  induction l generalizing ds with
  | nil => simp [toDs] at h; subst h; simp
  | cons v vs ih =>
    simp only [toDs] at h
    split at h
    · rename_i d ds' h1 h2
      cases h
      obtain ⟨hl, hg⟩ := ih h2
      refine ⟨by simp [hl], fun i d' hi => ?_⟩
      cases i with
      | zero => simp at hi; subst hi; exact ⟨v, by simp, h1⟩
      | succ i => exact hg i d' (by simpa using hi)
    · cases h
theorem toD_ok {v : Value} {d : D} (h : toD v = some d) : RepD w N d v := by
  unfold toD at h
  split at h
  · cases h; exact .nl
  · split at h
    · rename_i hs; cases h; exact .sc _ hs
    · cases h
theorem constV_ok {c : Value} {v : V} (h : constV c = some v) (T : Loc → Option Value) (R' : Blocks) : RepV P w N L T v c R' := by
  unfold constV at h
  split at h
  · cases h; exact .d _ _ _ .nl
  · rename_i cs
    cases ho : toDs cs.toList with
    | none => simp [ho] at h
    | some ds =>
      simp [ho] at h
      subst h
      obtain ⟨hl, hg⟩ := toDs_get ho
      refine .ag _ _ _ (by simp [hl]) (fun i v hi => ?_) (fun i v hi => ?_)
      · simp only [List.getElem?_map, Option.map_eq_some_iff] at hi
        obtain ⟨d, _, rfl⟩ := hi
        rfl
      · simp only [List.getElem?_map, Option.map_eq_some_iff] at hi
        obtain ⟨d, hd, rfl⟩ := hi
        obtain ⟨u, hu, htd⟩ := hg i d hd
        have : cs.getD i undef = u := by simp [Array.getD_eq_getD_getElem?] ; rw [show cs[i]? = some u by simpa using hu]; rfl
        rw [this]
        exact .d _ _ _ (toD_ok htd)
  · split at h
    · rename_i hs; cases h; exact .d _ _ _ (.sc _ hs)
    · cases h
theorem fn0 (f : Nat) (T : Loc → Option Value) (S : Blocks) : RepV P w N L T (.fn f []) (.func (.func f) #[] #[]) S := .fn f [] #[] _ rfl (fun i v hi => by simp at hi)
theorem getO_ok (h : Rel P w N L tmps γ R E) {x : Operand} {v : V} (hx : getO E x = some v) (ds : List Deferred) : ∃ S, RepV P w N L (Tof tmps γ) v (Act.eval ⟨tmps, ds⟩ x) S := by
  cases x with
  | tmp t =>
    obtain ⟨c, h1, h2⟩ := h.rep _ v (look_mem hx)
    rw [eval_tmp h1]
    exact ⟨_, h2⟩
  | const c => exact ⟨none_, constV_ok hx _ _⟩
  | global g => simp [getO] at hx
  | func f =>
    simp [getO] at hx
    subst hx
    exact ⟨none_, fn0 f _ _⟩
theorem copyO_ok (h : Rel P w N L tmps γ R E) {x : Operand} {v : V} (hx : copyO E x = some v) (ds : List Deferred) (R' : Blocks) : RepV P w N L (Tof tmps γ) v (Act.eval ⟨tmps, ds⟩ x) R' := by
  cases x with
  | tmp t =>
    simp only [copyO] at hx
    split at hx
    · rename_i u hu
      obtain ⟨c, h1, h2⟩ := h.rep _ u (look_mem hu)
      rw [eval_tmp h1]
      exact copyAt_ok hx h1 h2 R'
    · cases hx
  | const c => exact constV_ok hx _ _
  | global g => simp [copyO, getO] at hx
  | func f =>
    simp [copyO, getO] at hx
    subst hx
    exact fn0 f _ _
theorem owner_ok (h : Rel P w N L tmps γ R E) : ∀ (k : Nat) (l l' : Loc) (v : V), owner E k l = some (l', v) → look E l' = some v ∧ Tof tmps γ l' = Tof tmps γ l := by
  intro k
  induction k with
  | zero => intro l l' v hl; simp [owner] at hl
  | succ k ih =>
    intro l l' v hl
    simp only [owner] at hl
    split at hl
    · rename_i l2 hlk
      obtain ⟨c, h1, h2⟩ := h.rep _ _ (look_mem hlk)
      obtain ⟨h3, h4⟩ := ih _ _ _ hl
      refine ⟨h3, ?_⟩
      rw [h4]
      cases h2 with
      | ref _ _ _ hT _ => rw [hT]; exact h1.symm
    · rename_i u _ hlk; cases hl; exact ⟨hlk, rfl⟩
    · cases hl
theorem own_ok (h : Rel P w N L tmps γ R E) {l l' : Loc} {v : V} (hv : own E l = some (l', v)) : ∃ c, Tof tmps γ l = some c ∧ Tof tmps γ l' = some c ∧ RepV P w N L (Tof tmps γ) v c (R l') ∧ look E l' = some v := by
  obtain ⟨h1, h2⟩ := owner_ok h _ _ _ _ hv
  obtain ⟨c, h3, h4⟩ := h.rep _ _ (look_mem h1)
  exact ⟨c, h2 ▸ h3, h3, h4, h1⟩
theorem bx_inv {e : Nat} {cs : List V} {c : Value} {S : Blocks} {T : Loc → Option Value} (h : RepV P w N L T (.bx e cs) c S) :
    ∃ (b : Nat) (vals : Array Value), c = .pointer (some ⟨b, 0, none⟩) ∧ w.heap[b]? = some (.cells vals e (0, 0)) ∧ cs.length = vals.size ∧ (∀ (i : Nat) (v : V), cs[i]? = some v → isCell v = true) ∧
      (∀ (i : Nat) (v : V), cs[i]? = some v → RepV P w N L T v (vals.getD i undef) none_) ∧ (∀ x, ¬ L b x) ∧ S b := by
  cases h with
  | bx e cs b vals R hb hl hc h hL hRb => exact ⟨b, vals, rfl, hb, hl, hc, h, hL, hRb⟩
theorem getD_of {vals : Array Value} {i : Nat} (h : i < vals.size) : vals[i]? = some (vals.getD i undef) := by
  simp [Array.getD_eq_getD_getElem?, h]
inductive IsPtr (P : Program) (w : World) (N L : Cells) (tmps : Array Value) (γ : Gh) (E : Env) : Ptr → Value → Prop
  | box (l : Loc) (e b off : Nat) (cs : List V) (hlk : look E l = some (.bx e cs)) (ht : Tof tmps γ l = some (.pointer (some ⟨b, 0, none⟩))) : IsPtr P w N L tmps γ E (.box l e cs off) (.pointer (some ⟨b, off, none⟩))
  | ro (cs : List D) (b o off : Nat) (cv : Nat → Value) (hc : ∀ j, j < cs.length → N b (o + j) ∧ w.cell? ⟨b, o + j, none⟩ = some (cv j)) (hr : ∀ (j : Nat) (d : D), cs[j]? = some d → RepD w N d (cv j)) :
      IsPtr P w N L tmps γ E (.ro cs off) (.pointer (some ⟨b, o + off, none⟩))
theorem ptrAt_ok (h : Rel P w N L tmps γ R E) {l : Loc} {o : Nat} {p : Ptr} (hp : ptrAt E l o = some p) : ∃ b x, Tof tmps γ l = some (.pointer (some ⟨b, x, none⟩)) ∧ IsPtr P w N L tmps γ E p (.pointer (some ⟨b, x + o, none⟩)) := by
  unfold ptrAt at hp
  split at hp
  · rename_i l' e cs ho
    cases hp
    obtain ⟨c, hT, hT', hr, hlk⟩ := own_ok h ho
    obtain ⟨b, vals, rfl, _⟩ := bx_inv hr
    exact ⟨b, 0, hT, by simpa using IsPtr.box l' e b o cs hlk hT'⟩
  · rename_i l2 cs o' ho
    cases hp
    obtain ⟨c, hT, hT', hr, hlk⟩ := own_ok h ho
    cases hr with
    | rp _ _ b o1 cv _ hc hr => exact ⟨b, o1 + o', hT, by rw [Nat.add_assoc]; exact .ro cs b o1 (o' + o) cv hc hr⟩
  · cases hp
theorem ptrO_ok (h : Rel P w N L tmps γ R E) {x : Operand} {p : Ptr} (hp : ptrO E x = some p) (ds : List Deferred) : IsPtr P w N L tmps γ E p (Act.eval ⟨tmps, ds⟩ x) := by
  cases x with
  | tmp t =>
    simp only [ptrO] at hp
    split at hp
    · rename_i l o hlk
      obtain ⟨c, h1, h2⟩ := h.rep _ _ (look_mem hlk)
      obtain ⟨b, x, hT, hP⟩ := ptrAt_ok h hp
      rw [eval_tmp h1]
      cases h2 with
      | fld _ _ b' _ hT' =>
        rw [hT] at hT'
        cases hT'
        simpa using hP
    · obtain ⟨b, x, hT, hP⟩ := ptrAt_ok h hp
      rw [eval_tmp hT]
      simpa using hP
    · cases hp
  | const c => simp [ptrO] at hp
  | global g => simp [ptrO] at hp
  | func f => simp [ptrO] at hp
theorem lenV_ok {T : Loc → Option Value} {v : V} {c : Value} {S : Blocks} {xs : List (List D)} (hr : RepV P w N L T v c S) (hx : lenV v = some xs) : ∃ p cap, c = .slice p xs.length cap := by
  unfold lenV at hx
  split at hx
  · cases hx
    cases hr with
    | d _ _ _ h => cases h with
      | nil p cap => exact ⟨p, cap, rfl⟩
      | sl => exact ⟨_, _, rfl⟩
  · cases hx
    cases hr with
    | d _ _ _ h => cases h; exact ⟨_, _, rfl⟩
  · cases hx
    cases hr with
    | row => exact ⟨_, _, rfl⟩
    | rownil => exact ⟨none, 0, rfl⟩
  · cases hx
theorem lenO_ok (h : Rel P w N L tmps γ R E) {x : Operand} {xs : List (List D)} (hx : lenO E x = some xs) (ds : List Deferred) : ∃ p cap, Act.eval ⟨tmps, ds⟩ x = .slice p xs.length cap := by
  cases x with
  | tmp t =>
    simp only [lenO] at hx
    split at hx
    · rename_i l v ho
      obtain ⟨c, hT, hT', hr, hlk⟩ := own_ok h ho
      rw [eval_tmp hT]
      exact lenV_ok hr hx
    · cases hx
  | const c =>
    simp only [lenO] at hx
    split at hx
    · rename_i v hv
      obtain ⟨S, hr⟩ := getO_ok h hv ds
      exact lenV_ok hr hx
    · cases hx
  | global g => simp [lenO, getO] at hx
  | func f => simp [lenO, getO, lenV] at hx
end
end Go.Proofs.VL
namespace Go.Proofs.VL
open Go Go.RowKit
variable {P : Program}
structure Wide (F : Fence) : Prop where
  fn : ∀ f, F.fn f
  depth : F.depth = none
theorem Wide.wide : Wide Fence.wide := ⟨fun _ => trivial, rfl⟩
theorem Wide.round {F : Fence} (h : Wide F) (l : Nat) : Wide (F.inRound l) := ⟨h.fn, h.depth⟩
theorem wpIn_run {F : Fence} (hF : Wide F) {o : Oper} {a : Act} {w : World} {next : Act → World → Prop} {Q : Exit → Act → World → Prop} (hnd : ∀ c, o.op ≠ .defer c)
    (h : o.uponIn F 0 P a next Q ((execOp a.eval o).run P w)) : o.wpIn F 0 P a w next Q := by
  refine ⟨fun f _ => hF.fn f, ?_⟩
  have : o.semAt F.round a.eval = execOp a.eval o := by
    cases hr : F.round with
    | none => rfl
    | some l => exact Oper.semAt_some l _ o hnd
  rw [this]; exact h
def OpTo (P : Program) (F : Fence) (n : Nat) (K : List Nat) (o : Oper) (E E' : Env) : Prop :=
  ∀ (w : World) (N L : Cells) (γ : Gh) (R : Loc → Blocks) (tmps : Array Value) (ds : List Deferred), Rel P w N L tmps γ R E → tmps.size = n →
    o.wpIn F 0 P ⟨tmps, ds⟩ w (Mid P n K w N L R tmps ds (· = E')) (fun _ _ _ => False)
section
variable {F : Fence} {n : Nat} {K : List Nat} {o : Oper} {E E' : Env}
theorem wpIn_mono_op {a : Act} {w : World} {next next' : Act → World → Prop} {Q Q' : Exit → Act → World → Prop} (h : o.wpIn F 0 P a w next Q) (hn : ∀ a w, next a w → next' a w) (hq : ∀ e a w, Q e a w → Q' e a w) :
    o.wpIn F 0 P a w next' Q' := by
  refine ⟨h.1, ?_⟩
  have h2 := h.2
  revert h2
  generalize Sem.run P (o.semAt F.round a.eval) w = r
  intro hr
  cases r with
  | ok x w' =>
    cases x <;> simp only [Oper.uponIn] at hr ⊢ <;> first
      | exact hn _ _ hr
      | exact hr.elim
      | exact ⟨hr.1, RowsIn.mono hr.2 fun v w'' he => hn _ _ he⟩
      | exact ⟨hr.1, CallsIn.mono hr.2 fun e w'' he => by
          cases e with
          | returned v => exact hn _ _ he
          | panicked ch => exact hq _ _ _ he
          | outgrown => exact let ⟨a0, w0, h0⟩ := he; ⟨a0, w0, hq _ _ _ h0⟩⟩
      | exact ⟨hr.1, RoundIn.mono hr.2 fun e w'' he => by
          cases e with
          | returned v => exact hn _ _ he
          | panicked ch => exact hq _ _ _ he
          | outgrown => exact let ⟨a0, w0, h0⟩ := he; ⟨a0, w0, hq _ _ _ h0⟩⟩
  | halt hh w' => cases hh <;> simp only [Oper.uponIn] at hr ⊢ <;> first | exact hq _ _ _ hr | exact hr.elim
theorem AL.nil {ops : Array Oper} {Q : Env → Prop} (h : Q E) : AL P F n K ops [] Q E :=
  fun w N L γ R tmps ds hr hn => ⟨E, N, L, γ, R, h, At.start hr hn⟩
theorem At.continueL {ops : Array Oper} {l : List Oper} {Q : Env → Prop} {w w1 : World} {N L N1 L1 : Cells} {γ1 : Gh} {R R1 : Loc → Blocks} {tmps : Array Value} {ds : List Deferred} {E1 : Env} {a1 : Act}
    (h : At P n K w N L R tmps ds E1 a1 w1 N1 L1 γ1 R1) (hc : AL P F n K ops l Q E1) : wpListIn F 0 P ops (Post P n K w N L R tmps ds (fun e => match e with | .normal => Q | _ => fun _ => False)) l a1 w1 := by
  have := hc w1 N1 L1 γ1 R1 a1.tmps ds h.rel h.size
  obtain ⟨t1, d1⟩ := a1
  obtain rfl : d1 = ds := h.defers
  exact wpListIn_mono (fun e a' w' ⟨E', N', L', γ', R', hq, ha⟩ => ⟨E', N', L', γ', R', hq, h.trans ha⟩) l _ _ this
theorem AL.op {ops : Array Oper} {l : List Oper} {Q : Env → Prop} (hg : o.guard = none) (ho : OpTo P F n K o E E') (h : AL P F n K ops l Q E') : AL P F n K ops (o :: l) Q E := by
  intro w N L γ R tmps ds hr hn
  simp only [wpListIn, Region.wanted, hg, if_true]
  refine wpIn_mono_op (ho w N L γ R tmps ds hr hn) (fun a1 w1 hm => ?_) (fun _ _ _ h => h.elim)
  obtain ⟨E1, N1, L1, γ1, R1, rfl, hA⟩ := hm
  exact hA.continueL h
theorem yielded_of {ops : Array Oper} {w : World} {N L : Cells} {γ : Gh} {R : Loc → Blocks} {tmps : Array Value} (hr : Rel P w N L tmps γ R E) {j d : Nat} {oj : Oper} (hj : ops[j]? = some oj) (hd : oj.dst = some d) {v : V} {b : Bool}
    (hlk : look E (.s d) = some v) (hv : boolV v = some b) : yielded ops tmps j = some b := by
  obtain ⟨c, h1, h2⟩ := hr.rep _ v (look_mem hlk)
  have := boolV_ok h2 hv
  subst this
  have h1' : tmps[d]? = some (.bool b) := h1
  simp [yielded, hj, hd, h1']
theorem AL.opT {ops : Array Oper} {l : List Oper} {Q : Env → Prop} {j d : Nat} {want : Bool} {oj : Oper} {v : V} (hg : o.guard = some (j, want)) (hj : ops[j]? = some oj) (hd : oj.dst = some d) (hlk : look E (.s d) = some v) (hv : boolV v = some want)
    (ho : OpTo P F n K o E E') (h : AL P F n K ops l Q E') : AL P F n K ops (o :: l) Q E := by
  intro w N L γ R tmps ds hr hn
  simp only [wpListIn, Region.wanted, hg, yielded_of hr hj hd hlk hv, beq_self_eq_true, if_true]
  refine wpIn_mono_op (ho w N L γ R tmps ds hr hn) (fun a1 w1 hm => ?_) (fun _ _ _ h => h.elim)
  obtain ⟨E1, N1, L1, γ1, R1, rfl, hA⟩ := hm
  exact hA.continueL h
theorem Rel.put_none {w : World} {N L : Cells} {γ : Gh} {R : Loc → Blocks} {tmps : Array Value} (hr : Rel P w N L tmps γ R E) {d : Nat} (c : Value) (h : anyOf (.s d) E = false) : Rel P w N L (tmps.setIfInBounds d c) γ R E where
  rep := by
    have hT : ∀ l c', l ≠ .s d → Tof tmps γ l = some c' → Tof (tmps.setIfInBounds d c) γ l = some c' := fun l c' hl h => (Tof_slot l hl).trans h
    intro t u hm
    obtain ⟨hne, hu⟩ := anyOf_mem h hm
    obtain ⟨c', h1, h2⟩ := hr.rep t u hm
    exact ⟨c', hT _ _ hne h1, h2.congrT hT hu⟩
  nd := hr.nd
  dis := hr.dis
  lt := hr.lt
  NL := hr.NL
  Llt := hr.Llt
theorem upd_mem {t : Loc} {v : V} {E : Env} (hn : (E.map Prod.fst).Nodup) {s : Loc} {u : V} (h : (s, u) ∈ upd t v E) : (s = t ∧ u = v ∧ ∃ u0, (t, u0) ∈ E) ∨ ((s, u) ∈ E ∧ s ≠ t) := by
  induction E with
  | nil => cases h
  | cons p E ih =>
    obtain ⟨s0, u0⟩ := p
    simp only [List.map_cons, List.nodup_cons] at hn
    simp only [upd] at h
    split at h
    · rename_i hb
      have e := lq_iff.1 hb
      subst e
      cases h with
      | head => exact .inl ⟨rfl, rfl, u0, .head _⟩
      | tail _ h => exact .inr ⟨.tail _ h, fun e => hn.1 (List.mem_map.2 ⟨_, h, e⟩)⟩
    · rename_i hb
      have e := lq_ne hb
      cases h with
      | head => exact .inr ⟨.head _, e⟩
      | tail _ h =>
        rcases ih hn.2 h with ⟨h1, h2, u1, h3⟩ | ⟨h1, h2⟩
        · exact .inl ⟨h1, h2, u1, .tail _ h3⟩
        · exact .inr ⟨.tail _ h1, h2⟩
theorem upd_keys {t : Loc} {v : V} {E : Env} : (upd t v E).map Prod.fst = E.map Prod.fst := by
  induction E with
  | nil => rfl
  | cons p E ih =>
    obtain ⟨s0, u0⟩ := p
    simp only [upd]
    split
    · rename_i hb
      simp [lq_iff.1 hb]
    · simp [ih]
theorem Rel.upd {w : World} {N L : Cells} {γ : Gh} {R : Loc → Blocks} {tmps : Array Value} (hr : Rel P w N L tmps γ R E) {l : Loc} {v : V} (h : ∀ c, Tof tmps γ l = some c → RepV P w N L (Tof tmps γ) v c (R l)) : Rel P w N L tmps γ R (upd l v E) where
  rep := by
    intro s u hm
    rcases upd_mem hr.nd hm with ⟨rfl, rfl, u0, h0⟩ | ⟨hm, hne⟩
    · obtain ⟨c, h1, _⟩ := hr.rep _ _ h0
      exact ⟨c, h1, h c h1⟩
    · exact hr.rep s u hm
  nd := by rw [upd_keys]; exact hr.nd
  dis := hr.dis
  lt := hr.lt
  NL := hr.NL
  Llt := hr.Llt
def Ent (P : Program) (E E' : Env) : Prop := ∀ (w : World) (N L : Cells) (γ : Gh) (R : Loc → Blocks) (tmps : Array Value), Rel P w N L tmps γ R E → ∃ N' L' γ' R', Rel P w N' L' tmps γ' R' E' ∧ Later w N L (St R) w N' L' ∧ ∀ x, St R' x → St R x
theorem AL.ent {ops : Array Oper} {l : List Oper} {Q : Env → Prop} (he : Ent P E E') (h : AL P F n K ops l Q E') : AL P F n K ops l Q E := by
  intro w N L γ R tmps ds hr hn
  obtain ⟨N', L', γ', R', h1, h2, h3⟩ := he w N L γ R tmps hr
  exact At.continueL (E1 := E') (N1 := N') (L1 := L') (γ1 := γ') (R1 := R') (a1 := ⟨tmps, ds⟩) ⟨h1, hn, rfl, fun _ _ => rfl, h2, fun x hx => .inl (h3 x hx)⟩ h
theorem AW.ent {c : Code} {Q : Exit → Env → Prop} (he : Ent P E E') (h : AW P F n K c Q E') : AW P F n K c Q E := by
  intro w N L γ R tmps ds hr hn
  obtain ⟨N', L', γ', R', h1, h2, h3⟩ := he w N L γ R tmps hr
  exact At.continue (E1 := E') (N1 := N') (L1 := L') (γ1 := γ') (R1 := R') (a1 := ⟨tmps, ds⟩) ⟨h1, hn, rfl, fun _ _ => rfl, h2, fun x hx => .inl (h3 x hx)⟩ h
theorem Ent.refl : Ent P E E := fun w N L γ R tmps hr => ⟨N, L, γ, R, hr, Later.refl .., fun _ h => h⟩
theorem Ent.trans {E1 E2 E3 : Env} (h : Ent P E1 E2) (k : Ent P E2 E3) : Ent P E1 E3 := by
  intro w N L γ R tmps hr
  obtain ⟨N', L', γ', R', h1, h2, h3⟩ := h w N L γ R tmps hr
  obtain ⟨N2, L2, γ2, R2, k1, k2, k3⟩ := k w N' L' γ' R' tmps h1
  exact ⟨N2, L2, γ2, R2, k1, h2.trans k2 (fun x hx => .inl (h3 x hx)), fun x hx => h3 x (k3 x hx)⟩
theorem Ent.of_rel (h : ∀ (w : World) (N L : Cells) (γ : Gh) (R : Loc → Blocks) (tmps : Array Value), Rel P w N L tmps γ R E → ∃ γ' R', Rel P w N L tmps γ' R' E' ∧ ∀ x, St R' x → St R x) : Ent P E E' := fun w N L γ R tmps hr =>
  let ⟨γ', R', h1, h2⟩ := h w N L γ R tmps hr; ⟨N, L, γ', R', h1, Later.refl .., h2⟩
theorem Ent.known (l : Loc) {v : V} {b : Bool} (hlk : look E l = some v) (hv : boolV v = some b) : Ent P E (VL.upd l (if b then .kt else .kf) E) :=
  Ent.of_rel fun w N L γ R tmps hr => ⟨γ, R, hr.upd (fun c hc => by
    obtain ⟨c', h1, h2⟩ := hr.rep l _ (look_mem hlk)
    rw [hc] at h1
    cases h1
    have := boolV_ok h2 hv
    subst this
    cases b <;> constructor), fun _ h => h⟩
theorem AL.split {ops : Array Oper} {l : List Oper} {Q : Env → Prop} (d : Nat) {v : V} {b : Bool} (hlk : look E (.s d) = some v) (hv : boolV v = some b) (ht : b = true → AL P F n K ops l Q (VL.upd (.s d) .kt E)) (hf : b = false → AL P F n K ops l Q (VL.upd (.s d) .kf E)) : AL P F n K ops l Q E := by
  refine AL.ent (Ent.known (.s d) hlk hv) ?_
  cases b with
  | true => exact ht rfl
  | false => exact hf rfl
theorem AW.region {id : Nat} {ops : Array Oper} {Q : Exit → Env → Prop} (h : AL P F n K ops ops.toList (Q .normal) E) : AW P F n K (.region id ops false) Q E := by
  intro w N L γ R tmps ds hr hn
  refine wpIn_region_list (wpListIn_mono (fun e a' w' hp => ?_) _ _ _ (h w N L γ R tmps ds hr hn))
  cases e with
  | normal => exact hp
  | _ => exact hp.elim fun _ h => h.elim fun _ h => h.elim fun _ h => h.elim fun _ h => h.elim fun _ h => h.1.elim
end
end Go.Proofs.VL
namespace Go.Proofs.VL
open Go Go.RowKit
variable {P : Program}
theorem mkTI_ok {t : Nat} {ti : TI} (h : mkTI P t = some ti) : ∃ (i : TypeInfo) (d : TypeDesc) (z : Value), P.info? t = some i ∧ P.underlying t = some d ∧ i.zero = some z ∧ toDs z.cells.toList = some ti.zero ∧
    ti.zero.length = ti.size ∧ i.size = ti.size ∧ i.bytes = ti.bytes ∧ ti.kind = kindOf d ∧ ti.eq = (!P.stoodInHeld t && !P.eqGuardType P.depth t) := by
  unfold mkTI at h
  split at h
  · rename_i i d h1 h2
    split at h
    · rename_i z h3
      split at h
      · rename_i zs h4
        split at h
        · rename_i h5
          cases h
          exact ⟨i, d, z, h1, h2, h3, h4, h5, rfl, rfl, rfl, rfl⟩
        · cases h
      · cases h
    · cases h
  · cases h
theorem run_sizeOf_ti {t : Nat} {ti : TI} (h : mkTI P t = some ti) (w : World) : (sizeOf t).run P w = .ok ti.size w := by
  obtain ⟨i, d, z, h1, h2, h3, h4, h5, h6, _⟩ := mkTI_ok h
  simp [sizeOf, typeInfo, h1, h6]
theorem run_zeroValue_ti {t : Nat} {ti : TI} (h : mkTI P t = some ti) (w : World) : ∃ z, (zeroValue t).run P w = .ok z w ∧ toDs z.cells.toList = some ti.zero ∧ ti.zero.length = ti.size := by
  obtain ⟨i, d, z, h1, h2, h3, h4, h5, h6, _⟩ := mkTI_ok h
  exact ⟨z, by simp [zeroValue, typeInfo, h1, h3], h4, h5⟩
theorem run_isAgg_ti {t : Nat} {ti : TI} (h : mkTI P t = some ti) (ha : ti.agg = true ∨ ti.one = true) (w : World) : (isAgg t).run P w = .ok ti.agg w := by
  obtain ⟨i, d, z, h1, h2, h3, h4, h5, h6, h7, h8, _⟩ := mkTI_ok h
  simp only [TI.agg, TI.one, h8] at ha ⊢
  cases d
  case struct fs =>
    by_cases hc : fs.toList.all (fun f => !(f.name == "_")) = true
    · simp only [kindOf, hc, if_true] at ha ⊢
      simp [isAgg, run_underlying h2]
    · simp only [kindOf, hc, Bool.false_eq_true, if_false] at ha
      simp at ha
  all_goals simp [kindOf, isAgg, run_underlying h2] at ha ⊢
theorem struct_of {t : Nat} {ti : TI} (h : mkTI P t = some ti) {offs ts : List Nat} (hk : ti.kind = .struct offs ts) : ∃ fs : Array Field, P.underlying t = some (.struct fs) ∧ offs = fs.toList.map (·.offset) ∧ ts = fs.toList.map (·.type) ∧ (∀ f ∈ fs.toList, f.name ≠ "_") := by
  obtain ⟨i, d, z, h1, h2, h3, h4, h5, h6, h7, h8, _⟩ := mkTI_ok h
  rw [h8] at hk
  cases d
  case struct fs =>
    by_cases hc : fs.toList.all (fun f => !(f.name == "_")) = true
    · simp only [kindOf, hc, if_true] at hk
      cases hk
      refine ⟨fs, h2, rfl, rfl, fun f hf => ?_⟩
      have := List.all_eq_true.1 hc f hf
      simpa using this
    · simp only [kindOf, hc, Bool.false_eq_true, if_false] at hk
      cases hk
  all_goals simp [kindOf] at hk
section
variable {F : Fence} {n : Nat} {K : List Nat} {o : Oper} {E E' : Env}
theorem force_eq {α : Type} (E : Env) (k : Env → α) : force E k = k E := by
  induction E generalizing k with
  | nil => rfl
  | cons p E ih => simp [force, ih]
theorem setO_cases {dst : Option Nat} {v : V} (h : setO n K dst v E = some E') : (dst = none ∧ E' = E) ∨ (∃ d, dst = some d ∧ d < n ∧ d ∉ K ∧ v.men (.s d) = false ∧ E' = put (.s d) v E) := by
  unfold setO at h
  split at h
  · cases h; exact .inl ⟨rfl, rfl⟩
  · rename_i d
    split at h
    · rename_i hc
      simp only [Bool.and_eq_true, Nat.blt_eq, Bool.not_eq_true', List.contains_eq_mem, decide_eq_false_iff_not] at hc
      refine .inr ⟨d, rfl, hc.1.1, hc.1.2, hc.2, ?_⟩
      split at h
      · rename_i p E1 hp
        cases h
        exact hp.symm
      · cases h
    · cases h
theorem putAct {tmps : Array Value} {ds : List Deferred} {d : Nat} {c : Value} : Act.put ⟨tmps, ds⟩ (some d) c = ⟨tmps.setIfInBounds d c, ds⟩ := rfl
theorem mid_set {w : World} {N L : Cells} {γ : Gh} {R : Loc → Blocks} {tmps : Array Value} {ds : List Deferred} (hr : Rel P w N L tmps γ R E) (hn : tmps.size = n) {dst : Option Nat} {v : V} {c : Value} (hs : setO n K dst v E = some E')
    (hc : ∀ S, RepV P w N L (Tof tmps γ) v c S) : Mid P n K w N L R tmps ds (· = E') (Act.put ⟨tmps, ds⟩ dst c) w := by
  rcases setO_cases hs with ⟨rfl, rfl⟩ | ⟨d, rfl, hd, hK, hm, rfl⟩
  · exact ⟨E', N, L, γ, R, rfl, At.start hr hn⟩
  · refine ⟨_, N, L, γ, R, rfl, hr.put (by omega) hm (hc _), by simp [putAct, hn], rfl, fun k hk => ?_, Later.refl .., fun _ h => .inl h⟩
    have : k ≠ d := by rintro rfl; exact hK hk
    simp [putAct, Array.getElem?_setIfInBounds_ne (Ne.symm this)]
theorem OpTo.pure (hF : Wide F) (hnd : ∀ c, o.op ≠ .defer c) {v : V} (hs : setO n K o.dst v E = some E')
    (hrun : ∀ (w : World) (N L : Cells) (γ : Gh) (R : Loc → Blocks) (tmps : Array Value) (ds : List Deferred), Rel P w N L tmps γ R E → tmps.size = n →
      ∃ c, (execOp (Act.eval ⟨tmps, ds⟩) o).run P w = .ok (.value c) w ∧ ∀ S, RepV P w N L (Tof tmps γ) v c S) : OpTo P F n K o E E' := by
  intro w N L γ R tmps ds hr hn
  obtain ⟨c, h1, h2⟩ := hrun w N L γ R tmps ds hr hn
  refine wpIn_run hF hnd ?_
  rw [h1]
  exact mid_set hr hn hs h2
theorem OpTo.move (hF : Wide F) {x : Operand} (ho : o.op = .move x) {v : V} (hx : copyO E x = some v) (hs : setO n K o.dst v E = some E') : OpTo P F n K o E E' :=
  .pure hF (by simp [ho]) hs fun w N L γ R tmps ds hr hn => ⟨_, by simp [execOp, ho], fun S => copyO_ok hr hx ds S⟩
theorem ofCells_ok {w : World} {N L : Cells} {T : Loc → Option Value} {ti : TI} {vs : List V} {v : V} (h : ofCells ti vs = some v) {vals : List Value} (hl : vs.length = vals.length) (hlen : vals.length = ti.size)
    (hc : ∀ (i : Nat) (u : V), vs[i]? = some u → isCell u = true) (hv : ∀ (i : Nat) (u : V), vs[i]? = some u → RepV P w N L T u (vals.getD i undef) none_) (hp : ∀ (i : Nat) (u : V), vs[i]? = some u → isOwned u = false) :
    (ti.agg = true ∨ ti.one = true) ∧ ∀ S, RepV P w N L T v (if ti.agg then .agg vals.toArray else vals.getD 0 undef) S := by
  unfold ofCells at h
  split at h
  · rename_i ha
    cases h
    refine ⟨.inl ha, fun S => ?_⟩
    rw [if_pos ha]
    refine .ag vs vals.toArray S (by simp [hl]) hc (fun i u hi => ?_)
    have := hv i u hi
    simpa [Array.getD_eq_getD_getElem?, List.getD_eq_getElem?_getD] using this
  · rename_i ha
    split at h
    · rename_i ho
      split at h
      · rename_i c
        cases h
        refine ⟨.inr ho, fun S => ?_⟩
        simp only [ha, Bool.false_eq_true, if_false]
        exact (hv 0 v (by simp)).plain (hp 0 v (by simp)) S
      · cases h
    · cases h
theorem add_none (b o i : Nat) : (⟨b, o, none⟩ : Addr).add i = ⟨b, o + i, none⟩ := by unfold Addr.add; split <;> simp_all
theorem run_loadVar_cells {t : Nat} {ti : TI} (h : mkTI P t = some ti) (ha : ti.agg = true ∨ ti.one = true) {w : World} {b o : Nat} {vals : List Value} (hl : vals.length = ti.size) (hsz : ti.one = true → ti.agg = false → ti.size = 1)
    (hc : ∀ (j : Nat) (v : Value), vals[j]? = some v → w.cell? ⟨b, o + j, none⟩ = some v) : (loadVar t ⟨b, o, none⟩).run P w = .ok (if ti.agg then .agg vals.toArray else vals.getD 0 undef) w := by
  unfold loadVar
  rw [Sem.run_bind, run_isAgg_ti h ha w]
  simp only [Result.andThen_ok]
  cases hag : ti.agg with
  | true =>
    simp only [if_true, Sem.run_bind, run_sizeOf_ti h, Result.andThen_ok]
    rw [← hl, run_loadCells_list w ⟨b, o, none⟩ vals (fun j v hj => by rw [add_none]; exact hc j v hj)]
    rfl
  | false =>
    have h1 : ti.size = 1 := hsz (by simpa [hag] using ha) hag
    obtain ⟨v, rfl⟩ := List.length_eq_one_iff.1 (hl.trans h1)
    have := hc 0 v (by simp)
    simp only [Nat.add_zero] at this
    simp [this]
theorem one_size {t : Nat} {ti : TI} {cs : List V} {v : V} (h : ofCells ti cs = some v) (hl : cs.length = ti.size) (ho : ti.one = true) (ha : ti.agg = false) : ti.size = 1 := by
  unfold ofCells at h
  rw [ha] at h
  simp only [ho] at h
  split at h
  · simpa using hl.symm
  · cases h
theorem cut_get {cs : List V} {o m i : Nat} : (cut cs o m)[i]? = if i < m then cs[o + i]? else none := by
  simp only [cut, List.getElem?_take, List.getElem?_drop]
theorem OpTo.loadBox (hF : Wide F) {t : Nat} {a : Operand} (ho : o.op = .load t a) {ti : TI} (hti : mkTI P t = some ti) {l : Loc} {e off : Nat} {cs : List V} (hp : ptrO E a = some (.box l e cs off))
    (hlen : (cut cs off ti.size).length = ti.size) {v : V} (hv : ofCells ti (cut cs off ti.size) = some v) (hs : setO n K o.dst v E = some E') (hpl : plains (cut cs off ti.size) = true) : OpTo P F n K o E E' :=
  .pure hF (by simp [ho]) hs fun w N L γ R tmps ds hr hn => by
    have hP := ptrO_ok hr hp ds
    generalize hae : Act.eval ⟨tmps, ds⟩ a = ae at hP
    cases hP with
    | box _ _ bb _ _ hlk ht =>
      obtain ⟨c, h1, h2⟩ := hr.rep l _ (look_mem hlk)
      rw [ht] at h1
      cases h1
      obtain ⟨b', vals, he, hb, hl, hc, hrep, hL, hRb⟩ := bx_inv h2
      cases he
      have hin : off + ti.size ≤ cs.length ∨ ti.size = 0 := by
        simp only [cut, List.length_take, List.length_drop] at hlen
        omega
      let vl : List Value := (List.range ti.size).map fun j => vals.getD (off + j) undef
      have hvl : vl.length = ti.size := by simp [vl]
      have hvg : ∀ j, j < ti.size → vl.getD j undef = vals.getD (off + j) undef := fun j hj => by simp [vl, List.getD_eq_getElem?_getD, hj]
      have key := ofCells_ok (P := P) (w := w) (N := N) (L := L) (T := Tof tmps γ) hv (vals := vl) (hlen.trans hvl.symm) hvl
        (fun i u hi => by
          rw [cut_get] at hi
          split at hi
          · exact hc _ _ hi
          · cases hi)
        (fun i u hi => by
          rw [cut_get] at hi
          split at hi
          · rename_i hit
            rw [hvg i hit]
            exact hrep _ _ hi
          · cases hi)
        (fun i u hi => by
          have := plains_get hpl hi
          cases u <;> simp_all [plain, isOwned])
      refine ⟨_, ?_, key.2⟩
      have hld := run_loadVar_cells (P := P) hti key.1 (w := w) (b := bb) (o := off) (vals := vl) hvl (fun h1 h2 => one_size (t := t) hv hlen h1 h2) (fun j u hj => by
        have hj2 : j < ti.size := by rw [← hvl]; exact (List.getElem?_eq_some_iff.1 hj).1
        have hb2 : off + j < vals.size := by rw [← hl]; omega
        have : u = vals.getD (off + j) undef := by rw [← hvg j hj2, List.getD_eq_getElem?_getD, hj]; rfl
        rw [this]
        simp only [World.cell?, hb]
        simpa using getD_of hb2)
      simp [execOp, ho, hae, Instr.loadAt, Instr.sureAddr, hld]
theorem OpTo.loadRo (hF : Wide F) {t : Nat} {a : Operand} (ho : o.op = .load t a) {ti : TI} (hti : mkTI P t = some ti) {off : Nat} {cs : List D} (hp : ptrO E a = some (.ro cs off))
    (hin : off + ti.size ≤ cs.length) {v : V} (hv : ofCells ti (((cs.drop off).take ti.size).map .d) = some v) (hs : setO n K o.dst v E = some E') : OpTo P F n K o E E' :=
  .pure hF (by simp [ho]) hs fun w N L γ R tmps ds hr hn => by
    have hP := ptrO_ok hr hp ds
    generalize hae : Act.eval ⟨tmps, ds⟩ a = ae at hP
    cases hP with
    | ro _ bb oo _ cv hc hrd =>
      let vl : List Value := (List.range ti.size).map fun j => cv (off + j)
      have hvl : vl.length = ti.size := by simp [vl]
      have hlen : (((cs.drop off).take ti.size).map V.d).length = ti.size := by simp; omega
      have hvg : ∀ j, j < ti.size → vl.getD j undef = cv (off + j) := fun j hj => by simp [vl, List.getD_eq_getElem?_getD, hj]
      have key := ofCells_ok (P := P) (w := w) (N := N) (L := L) (T := Tof tmps γ) hv (vals := vl) (hlen.trans hvl.symm) hvl
        (fun i u hi => by
          simp only [List.getElem?_map, Option.map_eq_some_iff] at hi
          obtain ⟨d, _, rfl⟩ := hi
          rfl)
        (fun i u hi => by
          simp only [List.getElem?_map, Option.map_eq_some_iff, List.getElem?_take, List.getElem?_drop] at hi
          obtain ⟨d, hd, rfl⟩ := hi
          split at hd
          · rename_i hit
            rw [hvg i hit]
            exact .d _ _ _ (hrd _ _ hd)
          · cases hd)
        (fun i u hi => by
          simp only [List.getElem?_map, Option.map_eq_some_iff] at hi
          obtain ⟨d, _, rfl⟩ := hi
          rfl)
      refine ⟨_, ?_, key.2⟩
      have hld := run_loadVar_cells (P := P) hti key.1 (w := w) (b := bb) (o := oo + off) (vals := vl) hvl (fun h1 h2 => one_size (t := t) hv hlen h1 h2) (fun j u hj => by
        have hj2 : j < ti.size := by rw [← hvl]; exact (List.getElem?_eq_some_iff.1 hj).1
        have : u = cv (off + j) := by rw [← hvg j hj2, List.getD_eq_getElem?_getD, hj]; rfl
        rw [this, Nat.add_assoc]
        exact (hc (off + j) (by omega)).2)
      simp [execOp, ho, hae, Instr.loadAt, Instr.sureAddr, hld]
end
end Go.Proofs.VL
namespace Go.Proofs.VL
open Go Go.RowKit
variable {P : Program}
section
variable {F : Fence} {n : Nat} {K : List Nat} {o : Oper} {E E' : Env}
theorem run_fieldAt_ti {t u : Nat} {ti ui : TI} (h : mkTI P t = some ti) (hu : mkTI P u = some ui) {offs ts : List Nat} (hk : ti.kind = .struct offs ts) {f off : Nat} (ho : offs[f]? = some off) (ht : ts[f]? = some u) (hz : 0 < ui.size) (w : World) (b x : Nat) :
    (Instr.fieldAt t (.pointer (some ⟨b, x, none⟩)) f).run P w = .ok (.pointer (some ⟨b, x + off, none⟩)) w := by
  obtain ⟨fs, hus, rfl, rfl, _⟩ := struct_of h hk
  simp only [List.getElem?_map, Option.map_eq_some_iff] at ho ht
  obtain ⟨fd, hf1, rfl⟩ := ho
  obtain ⟨fd', hf2, rfl⟩ := ht
  rw [hf1] at hf2
  cases hf2
  have hf : fs[f]? = some fd := by simpa using hf1
  simp [Instr.fieldAt, run_underlying hus, hf, Instr.sureAddr, fieldPlace, run_sizeOf_ti hu, Nat.pos_iff_ne_zero.1 hz, add_none]
theorem fieldV_ok {w : World} {N L : Cells} {tmps : Array Value} {γ : Gh} {R : Loc → Blocks} (h : Rel P w N L tmps γ R E) {x : Operand} {off : Nat} {v : V} (hv : fieldV E x off = some v) (ds : List Deferred) :
    ∃ b y, Act.eval ⟨tmps, ds⟩ x = .pointer (some ⟨b, y, none⟩) ∧ ∀ S, RepV P w N L (Tof tmps γ) v (.pointer (some ⟨b, y + off, none⟩)) S := by
  cases x with
  | tmp u =>
    simp only [fieldV] at hv
    split at hv
    · rename_i l o' hlk
      cases hv
      obtain ⟨c, h1, h2⟩ := h.rep _ _ (look_mem hlk)
      cases h2 with
      | fld _ _ b _ hT => exact ⟨b, o', eval_tmp h1, fun S => .fld l (o' + off) b S hT⟩
    · rename_i l o' hlk
      cases hv
      obtain ⟨c, h1, h2⟩ := h.rep _ _ (look_mem hlk)
      cases h2 with
      | elt _ _ b nn cap _ hT => exact ⟨b, o', eval_tmp h1, fun S => .elt l (o' + off) b nn cap S hT⟩
    · split at hv
      · rename_i l e cs ho
        cases hv
        obtain ⟨c, hT, hT', hr, hlk⟩ := own_ok h ho
        obtain ⟨b, vals, rfl, _⟩ := bx_inv hr
        exact ⟨b, 0, eval_tmp hT, fun S => by simpa using RepV.fld l off b S hT'⟩
      · rename_i l2 cs o' ho
        cases hv
        obtain ⟨c, hT, hT', hr, hlk⟩ := own_ok h ho
        cases hr with
        | rp _ _ b o1 cv _ hc hr => exact ⟨b, o1 + o', eval_tmp hT, fun S => by rw [Nat.add_assoc]; exact .rp cs (o' + off) b o1 cv S hc hr⟩
      · cases hv
    · cases hv
  | const c => simp [fieldV] at hv
  | global g => simp [fieldV] at hv
  | func f => simp [fieldV] at hv
theorem OpTo.fieldAddr (hF : Wide F) {t f u off : Nat} {x : Operand} (ho : o.op = .fieldAddr t x f) {ti ui : TI} (h : mkTI P t = some ti) (hu : mkTI P u = some ui) {offs ts : List Nat} (hk : ti.kind = .struct offs ts) (h1 : offs[f]? = some off) (h2 : ts[f]? = some u)
    (hz : 0 < ui.size) {v : V} (hv : fieldV E x off = some v) (hs : setO n K o.dst v E = some E') : OpTo P F n K o E E' :=
  .pure hF (by simp [ho]) hs fun w N L γ R tmps ds hr hn => by
    obtain ⟨b, y, he, hrep⟩ := fieldV_ok hr hv ds
    exact ⟨_, by simp [execOp, ho, he, run_fieldAt_ti h hu hk h1 h2 hz], hrep⟩
theorem nonNil_ok {w : World} {N L : Cells} {tmps : Array Value} {γ : Gh} {R : Loc → Blocks} (h : Rel P w N L tmps γ R E) {x : Operand} (hv : nonNil E x = true) (ds : List Deferred) :
    (∃ a, Act.eval ⟨tmps, ds⟩ x = .pointer (some a)) ∨ ∃ f cs, Act.eval ⟨tmps, ds⟩ x = .func (.func f) #[] cs := by
  cases x with
  | tmp u =>
    simp only [nonNil] at hv
    split at hv
    · rename_i l o hlk
      obtain ⟨c, h1, h2⟩ := h.rep _ _ (look_mem hlk)
      rw [eval_tmp h1]
      cases h2; exact .inl ⟨_, rfl⟩
    · rename_i l o hlk
      obtain ⟨c, h1, h2⟩ := h.rep _ _ (look_mem hlk)
      rw [eval_tmp h1]
      cases h2; exact .inl ⟨_, rfl⟩
    · split at hv
      · rename_i l2 e cs ho
        obtain ⟨c, hT, hT', hr, hlk⟩ := own_ok h ho
        rw [eval_tmp hT]
        cases hr; exact .inl ⟨_, rfl⟩
      · rename_i l2 e cs ho
        obtain ⟨c, hT, hT', hr, hlk⟩ := own_ok h ho
        rw [eval_tmp hT]
        cases hr; exact .inl ⟨_, rfl⟩
      · rename_i l2 f cs ho
        obtain ⟨c, hT, hT', hr, hlk⟩ := own_ok h ho
        rw [eval_tmp hT]
        cases hr; exact .inr ⟨_, _, rfl⟩
      · cases hv
    · cases hv
  | const c => simp [nonNil] at hv
  | global g => simp [nonNil] at hv
  | func f => simp [nonNil] at hv
theorem OpTo.nilCheck (hF : Wide F) {x : Operand} (ho : o.op = .nilCheck x) (hnn : nonNil E x = true) {v : V} (hx : copyO E x = some v) (hs : setO n K o.dst v E = some E') : OpTo P F n K o E E' :=
  .pure hF (by simp [ho]) hs fun w N L γ R tmps ds hr hn => by
    refine ⟨Act.eval ⟨tmps, ds⟩ x, ?_, fun S => copyO_ok hr hx ds S⟩
    rcases nonNil_ok hr hnn ds with ⟨a, he⟩ | ⟨f, cs, he⟩ <;> simp [execOp, ho, he]
theorem scV {w : World} {N L : Cells} {T : Loc → Option Value} {v c : Value} {S : Blocks} (h : RepV P w N L T (.d (.sc v)) c S) : c = v := by
  cases h with
  | d _ _ _ h => cases h; rfl
theorem OpTo.cmp (hF : Wide F) {op : BinOp} {t t' : Nat} {x y : Operand} (ho : o.op = .binOp op t x y t') {k : IntKind} {a b : Int} (hx : copyO E x = some (.d (.sc (.int k a)))) (hy : copyO E y = some (.d (.sc (.int k b)))) {r : Bool} (hr : cmpI op a b = some r)
    (hs : setO n K o.dst (.d (.sc (.bool r))) E = some E') : OpTo P F n K o E E' :=
  .pure hF (by simp [ho]) hs fun w N L γ R tmps ds hre hn => by
    have h1 := scV (copyO_ok hre hx ds none_)
    have h2 := scV (copyO_ok hre hy ds none_)
    refine ⟨.bool r, ?_, fun S => .d _ _ _ (.sc _ rfl)⟩
    cases op <;> simp only [cmpI, Option.some.injEq, reduceCtorEq] at hr <;> subst hr <;> simp [execOp, ho, h1, h2, eqGuard, binOp, Op.intCmp, bne]
def Sc (xs : List V) (xv : List Value) : Prop := ∀ (i : Nat) (v : Value), xs[i]? = some (.d (.sc v)) → xv[i]? = some v
theorem Sc.cut {xs : List V} {xv : List Value} (h : Sc xs xv) (o m : Nat) : Sc (cut xs o m) ((xv.drop o).take m) := by
  intro i v hi
  rw [cut_get] at hi
  split at hi
  · rename_i him
    rw [List.getElem?_take, if_pos him, List.getElem?_drop]
    exact h _ _ hi
  · cases hi
def valT (ti : TI) (xv : List Value) : Value := if ti.agg then .agg xv.toArray else xv.getD 0 undef
theorem run_part_ti {t : Nat} {ti : TI} (h : mkTI P t = some ti) (ha : ti.agg = true ∨ ti.one = true) {xs : Array Value} {off : Nat} (hone : ti.agg = false → (xs.toList.drop off).take ti.size ≠ []) (w : World) :
    (part t xs off).run P w = .ok (valT ti ((xs.toList.drop off).take ti.size)) w := by
  unfold part
  rw [Sem.run_bind, run_isAgg_ti h ha w]
  simp only [Result.andThen_ok, valT]
  cases hag : ti.agg with
  | true =>
    simp only [if_true, Sem.run_bind, run_sizeOf_ti h, Result.andThen_ok, Sem.run_pure]
    congr 2
    apply Array.ext'
    simp [Array.toList_extract, List.extract_eq_take_drop, Nat.add_sub_cancel_left]
  | false =>
    simp only [Bool.false_eq_true, if_false]
    have h1 := hone hag
    cases hx : xs[off]? with
    | none =>
      exfalso
      apply h1
      have : xs.size ≤ off := by simpa using hx
      simp [List.drop_eq_nil_of_le, this]
    | some v =>
      have hs : ti.size ≠ 0 := by rintro hz; apply h1; simp [hz]
      simp only [Sem.run_pure]
      congr 1
      rw [List.getD_eq_getElem?_getD, List.getElem?_take, if_pos (by omega), List.getElem?_drop]
      have : xs.toList[off]? = some v := by simpa using hx
      simp [this]
variable {τ : Nat → Option TI}
theorem eqT_kind {d t : Nat} {xs ys : List V} {r : Bool} (h : eqT τ d t xs ys = some r) : ∃ ti, τ t = some ti ∧ (ti.agg = true ∨ ti.one = true) ∧ (ti.agg = false → ∃ v u, xs = [.d (.sc v)] ∧ ys = [.d (.sc u)]) := by
  cases d with
  | zero => simp [eqT] at h
  | succ d =>
    simp only [eqT] at h
    split at h
    · rename_i ti hti
      refine ⟨ti, hti, ?_⟩
      split at h
      · rename_i offs ts hk
        exact ⟨.inl (by simp [TI.agg, hk]), fun hf => by simp [TI.agg, hk] at hf⟩
      · rename_i k hk
        refine ⟨.inr (by simp [TI.one, hk]), fun _ => ?_⟩
        split at h
        · exact ⟨_, _, rfl, rfl⟩
        · cases h
      · rename_i hk
        refine ⟨.inr (by simp [TI.one, hk]), fun _ => ?_⟩
        split at h
        · exact ⟨_, _, rfl, rfl⟩
        · cases h
      · rename_i hk
        refine ⟨.inr (by simp [TI.one, hk]), fun _ => ?_⟩
        split at h
        · exact ⟨_, _, rfl, rfl⟩
        · cases h
      · cases h
    · cases h
theorem eqT_ok (hτ : ∀ t ti, τ t = some ti → mkTI P t = some ti) : ∀ (d t : Nat) (xs ys : List V) (r : Bool), eqT τ d t xs ys = some r → ∀ (ti : TI), τ t = some ti → ∀ (xv yv : List Value), Sc xs xv → Sc ys yv → ∀ D, d ≤ D → ∀ w : World,
    (Op.equalIn D t (valT ti xv) (valT ti yv)).run P w = .ok r w := by
  intro d
  induction d with
  | zero => intro t xs ys r h; simp [eqT] at h
  | succ d ih =>
    intro t xs ys r h ti hti xv yv hx hy D hD w
    obtain ⟨D, rfl⟩ : ∃ D', D = D' + 1 := ⟨D - 1, by omega⟩
    simp only [eqT, hti] at h
    have hmk := hτ t ti hti
    split at h
    · rename_i offs ts hk
      split at h
      · rename_i heq
        obtain ⟨fs, hu, rfl, rfl, hnames⟩ := struct_of hmk hk
        have hag : ti.agg = true := by simp [TI.agg, hk]
        obtain ⟨i, dd, z, m1, m2, m3, m4, m5, m6, m7, m8, m9⟩ := mkTI_ok hmk
        rw [heq] at m9
        have hsi : P.stoodInHeld t = false := by
          have := m9.symm
          simp only [Bool.and_eq_true, Bool.not_eq_true'] at this
          exact this.1
        simp only [valT, hag, if_true]
        have hfo : P.fieldsOf t = fs := by simp [Program.fieldsOf, hu]
        rw [run_equalIn_struct (P := P) w D t _ _ (by rw [hfo]; exact hu) hsi, hfo]
        have key : ∀ (l : List Field) (r : Bool), (∀ f ∈ l, f.name ≠ "_") → eqF τ (eqT τ d) (l.map (·.offset)) (l.map (·.type)) xs ys = some r → (Op.eqFields D xv.toArray yv.toArray l).run P w = .ok r w := by
          intro l
          induction l with
          | nil => intro r _ hr; simp [eqF] at hr; subst hr; simp [Op.eqFields]
          | cons f l ihl =>
            intro r hn hr
            simp only [List.map_cons, eqF] at hr
            split at hr
            · rename_i ui hui
              split at hr
              · rename_i r1 r2 h1 h2
                cases hr
                obtain ⟨ti', hti', hone, hleaf⟩ := eqT_kind h1
                rw [hui] at hti'
                cases hti'
                have hxc := hx.cut f.offset ui.size
                have hyc := hy.cut f.offset ui.size
                have hpa := run_part_ti (P := P) (hτ _ _ hui) hone (xs := xv.toArray) (off := f.offset) (fun hag => by
                  obtain ⟨v, u, e1, e2⟩ := hleaf hag
                  have := hxc 0 v (by rw [e1]; rfl)
                  intro hnil
                  simp only [List.toList_toArray] at hnil
                  rw [hnil] at this
                  cases this) w
                have hpb := run_part_ti (P := P) (hτ _ _ hui) hone (xs := yv.toArray) (off := f.offset) (fun hag => by
                  obtain ⟨v, u, e1, e2⟩ := hleaf hag
                  have := hyc 0 u (by rw [e2]; rfl)
                  intro hnil
                  simp only [List.toList_toArray] at hnil
                  rw [hnil] at this
                  cases this) w
                have he := ih f.type _ _ r1 h1 ui hui _ _ hxc hyc D (by omega) w
                have hrest := ihl r2 (fun g hg => hn g (by simp [hg])) h2
                rw [Op.eqFields]
                simp only [if_pos (hn f (by simp)), Sem.run_bind, hpa, hpb, List.toList_toArray, he, Result.andThen_ok]
                cases r1
                · simp
                · simpa using hrest
              · cases hr
            · cases hr
        exact key fs.toList r hnames h
      · cases h
    · rename_i k hk
      obtain ⟨i, dd, z, m1, m2, m3, m4, m5, m6, m7, m8, m9⟩ := mkTI_ok hmk
      have hag : ti.agg = false := by simp [TI.agg, hk]
      rw [hk] at m8
      split at h
      · rename_i kk a kk' b
        split at h
        · rename_i hkk
          cases h
          subst hkk
          have e1 := hx 0 _ (by rfl)
          have e2 := hy 0 _ (by rfl)
          cases dd <;> simp [kindOf] at m8
          case int k' =>
            simp [valT, hag, List.getD_eq_getElem?_getD, e1, e2, run_equalIn_int (P := P) w D t kk k' a b m2]
          case struct => split at m8 <;> cases m8
        · cases h
      · cases h
    · rename_i hk
      obtain ⟨i, dd, z, m1, m2, m3, m4, m5, m6, m7, m8, m9⟩ := mkTI_ok hmk
      have hag : ti.agg = false := by simp [TI.agg, hk]
      rw [hk] at m8
      split at h
      · rename_i a b
        cases h
        have e1 := hx 0 _ (by rfl)
        have e2 := hy 0 _ (by rfl)
        cases dd <;> simp [kindOf] at m8
        case bool => simp [valT, hag, List.getD_eq_getElem?_getD, e1, e2, Op.equalIn, run_underlying m2]
        case struct => split at m8 <;> cases m8
      · cases h
    · rename_i hk
      obtain ⟨i, dd, z, m1, m2, m3, m4, m5, m6, m7, m8, m9⟩ := mkTI_ok hmk
      have hag : ti.agg = false := by simp [TI.agg, hk]
      rw [hk] at m8
      split at h
      · rename_i a b
        cases h
        have e1 := hx 0 _ (by rfl)
        have e2 := hy 0 _ (by rfl)
        cases dd <;> simp [kindOf] at m8
        case string => simp [valT, hag, List.getD_eq_getElem?_getD, e1, e2, Op.equalIn, run_underlying m2]
        case struct => split at m8 <;> cases m8
      · cases h
    · cases h
end
end Go.Proofs.VL
namespace Go.Proofs.VL
open Go Go.RowKit
variable {P : Program}
section
variable {F : Fence} {n : Nat} {K : List Nat} {o : Oper} {E E' : Env} {τ : Nat → Option TI}
theorem agg_inv {w : World} {N L : Cells} {T : Loc → Option Value} {cs : List V} {c : Value} {S : Blocks} (h : RepV P w N L T (.ag cs) c S) :
    ∃ vals : Array Value, c = .agg vals ∧ cs.length = vals.size ∧ (∀ (i : Nat) (v : V), cs[i]? = some v → isCell v = true) ∧ Sc cs vals.toList ∧ ∀ (i : Nat) (v : V), cs[i]? = some v → RepV P w N L T v (vals.getD i undef) none_ := by
  cases h with
  | ag cs vals R hl hc h =>
    refine ⟨vals, rfl, hl, hc, fun i v hi => ?_, h⟩
    have h1 := scV (h i _ hi)
    have h2 : i < vals.size := by rw [← hl]; exact (List.getElem?_eq_some_iff.1 hi).1
    have h3 := getD_of h2
    rw [h1] at h3
    simpa using h3
theorem OpTo.eqAgg (hF : Wide F) (hτ : ∀ t ti, τ t = some ti → mkTI P t = some ti) {op : BinOp} {t t' : Nat} {x y : Operand} (ho : o.op = .binOp op t x y t') {xs ys : List V} (hx : copyO E x = some (.ag xs)) (hy : copyO E y = some (.ag ys))
    {ti : TI} (hti : τ t = some ti) (hag : ti.agg = true) (heq : ti.eq = true) {r r' : Bool} (hr : eqT τ 100 t xs ys = some r) (hop : (op = .eql ∧ r' = r) ∨ (op = .neq ∧ r' = !r))
    (hs : setO n K o.dst (.d (.sc (.bool r'))) E = some E') : OpTo P F n K o E E' :=
  .pure hF (by simp [ho]) hs fun w N L γ R tmps ds hre hn => by
    obtain ⟨xv, h1, _, _, sx, _⟩ := agg_inv (copyO_ok hre hx ds none_)
    obtain ⟨yv, h2, _, _, sy, _⟩ := agg_inv (copyO_ok hre hy ds none_)
    have he := eqT_ok hτ 100 t xs ys r hr ti hti xv.toList yv.toList sx sy 10000 (by omega) w
    simp only [valT, hag, if_true, Array.toArray_toList] at he
    obtain ⟨i, dd, z, m1, m2, m3, m4, m5, m6, m7, m8, m9⟩ := mkTI_ok (hτ t ti hti)
    rw [heq] at m9
    have hg : P.eqGuardType P.depth t = false := by
      have := m9.symm
      simp only [Bool.and_eq_true, Bool.not_eq_true'] at this
      exact this.2
    refine ⟨.bool r', ?_, fun S => .d _ _ _ (.sc _ rfl)⟩
    rcases hop with ⟨rfl, rfl⟩ | ⟨rfl, rfl⟩
    · simp [execOp, ho, h1, h2, run_eqGuard_agg (P := P) w _ t x y xv yv hg, run_eql_struct, he]
    · simp [execOp, ho, h1, h2, run_eqGuard_agg (P := P) w _ t x y xv yv hg, run_neq_struct, he]
theorem bool_of {t : Nat} {ti : TI} (h : mkTI P t = some ti) (hk : ti.kind = .bool) : P.underlying t = some .bool := by
  obtain ⟨i, dd, z, m1, m2, m3, m4, m5, m6, m7, m8, m9⟩ := mkTI_ok h
  rw [hk] at m8
  cases dd <;> simp [kindOf] at m8
  case bool => exact m2
  case struct => split at m8 <;> cases m8
theorem slice_of {t e : Nat} {ti : TI} (h : mkTI P t = some ti) (hk : ti.kind = .slice e) : P.underlying t = some (.slice e) := by
  obtain ⟨i, dd, z, m1, m2, m3, m4, m5, m6, m7, m8, m9⟩ := mkTI_ok h
  rw [hk] at m8
  cases dd <;> simp [kindOf] at m8
  case slice => subst m8; exact m2
  case struct => split at m8 <;> cases m8
theorem int_of {t : Nat} {k : IntKind} {ti : TI} (h : mkTI P t = some ti) (hk : ti.kind = .int k) : P.underlying t = some (.int k) := by
  obtain ⟨i, dd, z, m1, m2, m3, m4, m5, m6, m7, m8, m9⟩ := mkTI_ok h
  rw [hk] at m8
  cases dd <;> simp [kindOf] at m8
  case int => subst m8; exact m2
  case struct => split at m8 <;> cases m8
theorem array_of {t len e : Nat} {ti : TI} (h : mkTI P t = some ti) (hk : ti.kind = .array len e) : P.underlying t = some (.array len e) := by
  obtain ⟨i, dd, z, m1, m2, m3, m4, m5, m6, m7, m8, m9⟩ := mkTI_ok h
  rw [hk] at m8
  cases dd <;> simp [kindOf] at m8
  case array => obtain ⟨rfl, rfl⟩ := m8; exact m2
  case struct => split at m8 <;> cases m8
theorem run_eql_bool {t : Nat} (h : P.underlying t = some .bool) (a b : Bool) (w : World) : (binOp .eql t (.bool a) (.bool b)).run P w = .ok (.bool (a == b)) w := by
  simp only [binOp]
  simp only [Sem.run_bind, Op.equal, Op.maxDepth, run_equalIn_bool' w 9999 t a b h, Result.andThen_ok, Sem.run_pure]
theorem run_neq_bool {t : Nat} (h : P.underlying t = some .bool) (a b : Bool) (w : World) : (binOp .neq t (.bool a) (.bool b)).run P w = .ok (.bool (!(a == b))) w := by
  simp only [binOp]
  simp only [Sem.run_bind, Op.equal, Op.maxDepth, run_equalIn_bool' w 9999 t a b h, Result.andThen_ok, Sem.run_pure]
theorem OpTo.eqBool (hF : Wide F) {op : BinOp} {t t' : Nat} {x y : Operand} (ho : o.op = .binOp op t x y t') {a b : Bool} (hx : copyO E x = some (.d (.sc (.bool a)))) (hy : copyO E y = some (.d (.sc (.bool b))))
    {ti : TI} (hti : mkTI P t = some ti) (hk : ti.kind = .bool) {r : Bool} (hop : (op = .eql ∧ r = (a == b)) ∨ (op = .neq ∧ r = !(a == b))) (hs : setO n K o.dst (.d (.sc (.bool r))) E = some E') : OpTo P F n K o E E' :=
  .pure hF (by simp [ho]) hs fun w N L γ R tmps ds hre hn => by
    have h1 := scV (copyO_ok hre hx ds none_)
    have h2 := scV (copyO_ok hre hy ds none_)
    refine ⟨.bool r, ?_, fun S => .d _ _ _ (.sc _ rfl)⟩
    have hb := bool_of hti hk
    rcases hop with ⟨rfl, rfl⟩ | ⟨rfl, rfl⟩ <;> simp only [execOp, ho, h1, h2, eqGuard, Sem.run_bind, Sem.run_pure, Result.andThen_ok, run_eql_bool hb, run_neq_bool hb, Sem.run_ite, ite_self]
theorem OpTo.eqStr (hF : Wide F) {op : BinOp} {t t' : Nat} {x y : Operand} (ho : o.op = .binOp op t x y t') {a b : ByteArray} (hx : copyO E x = some (.d (.sc (.string a)))) (hy : copyO E y = some (.d (.sc (.string b))))
    {r : Bool} (hop : (op = .eql ∧ r = (a == b)) ∨ (op = .neq ∧ r = !(a == b))) (hs : setO n K o.dst (.d (.sc (.bool r))) E = some E') : OpTo P F n K o E E' :=
  .pure hF (by simp [ho]) hs fun w N L γ R tmps ds hre hn => by
    have h1 := scV (copyO_ok hre hx ds none_)
    have h2 := scV (copyO_ok hre hy ds none_)
    refine ⟨.bool r, ?_, fun S => .d _ _ _ (.sc _ rfl)⟩
    rcases hop with ⟨rfl, rfl⟩ | ⟨rfl, rfl⟩ <;> simp [execOp, ho, h1, h2, eqGuard, binOp, Op.stringOp, beq_toListBytes]
theorem OpTo.not (hF : Wide F) {t : Nat} {x : Operand} (ho : o.op = .unOp .not t x) {v : V} {b : Bool} (hx : getO E x = some v) (hb : boolV v = some b) (hs : setO n K o.dst (.d (.sc (.bool (!b)))) E = some E') : OpTo P F n K o E E' :=
  .pure hF (by simp [ho]) hs fun w N L γ R tmps ds hre hn => by
    obtain ⟨S, h1⟩ := getO_ok hre hx ds
    have he := boolV_ok h1 hb
    exact ⟨.bool (!b), by simp [execOp, ho, he, Op.unary], fun S => .d _ _ _ (.sc _ rfl)⟩
theorem capsO_ok {w : World} {N L : Cells} {tmps : Array Value} {γ : Gh} {R : Loc → Blocks} (h : Rel P w N L tmps γ R E) (ds : List Deferred) : ∀ {xs : List Operand} {vs : List V}, capsO E xs = some vs → vs.length = xs.length ∧
    ∀ (i : Nat) (v : V), vs[i]? = some v → ∀ S, RepV P w N L (Tof tmps γ) v ((xs.map (Act.eval ⟨tmps, ds⟩)).getD i undef) S := by
  intro xs
  induction xs with
  | nil => intro vs hv; simp [capsO] at hv; subst hv; simp
  | cons x xs ih =>
    intro vs hv
    simp only [capsO] at hv
    split at hv
    · rename_i u us h1 h2
      cases hv
      obtain ⟨hl, hg⟩ := ih h2
      refine ⟨by simp [hl], fun i v hi S => ?_⟩
      cases i with
      | zero => simp at hi; subst hi; simpa [List.getD_eq_getElem?_getD] using copyO_ok h h1 ds S
      | succ i =>
        have := hg i v (by simpa using hi) S
        simpa [List.getD_eq_getElem?_getD] using this
    · cases hv
theorem OpTo.makeFunc (hF : Wide F) {f : Nat} {first caps : Array Operand} (ho : o.op = .makeFunc (.func f) first caps) (hfi : first.isEmpty = true) {vs : List V} (hv : capsO E caps.toList = some vs) (hs : setO n K o.dst (.fn f vs) E = some E') : OpTo P F n K o E E' :=
  .pure hF (by simp [ho]) hs fun w N L γ R tmps ds hre hn => by
    obtain ⟨hl, hg⟩ := capsO_ok hre ds hv
    have hfe : first = #[] := by simpa using hfi
    refine ⟨.func (.func f) #[] (caps.map (Act.eval ⟨tmps, ds⟩)), by simp [execOp, ho, Instr.makeFunc, hfe], fun S => ?_⟩
    refine .fn f vs _ S (by simp [hl]) (fun i v hi => ?_)
    have := hg i v hi none_
    simpa [Array.getD_eq_getD_getElem?, List.getD_eq_getElem?_getD] using this
theorem OpTo.len (hF : Wide F) {c : Call} (ho : o.op = .call c) (hc : c.callee = .builtin .len) {x : Operand} (ha : c.args.toList = [x]) {t e : Nat} (ht : c.argTypes.toList = [t]) {ti : TI} (hti : mkTI P t = some ti) (hk : ti.kind = .slice e)
    {xs : List (List D)} (hx : lenO E x = some xs) (hs : setO n K o.dst (.d (.sc (.int .i64 xs.length))) E = some E') : OpTo P F n K o E E' :=
  .pure hF (by simp [ho]) hs fun w N L γ R tmps ds hre hn => by
    obtain ⟨p, cap, he⟩ := lenO_ok hre hx ds
    have ha' : c.args = #[x] := by apply Array.toList_inj.1; simp [ha]
    have ht' : c.argTypes = #[t] := by apply Array.toList_inj.1; simp [ht]
    exact ⟨.int .i64 xs.length, by simp [execOp, ho, resolve, hc, ha', ht', he, invoke, builtin, Builtin.len_, run_underlying (slice_of hti hk), goInt], fun S => .d _ _ _ (.sc _ rfl)⟩
theorem OpTo.field (hF : Wide F) {t f u off : Nat} {x : Operand} (ho : o.op = .field t x f) {ti ui : TI} (h : mkTI P t = some ti) (hu : mkTI P u = some ui) {offs ts : List Nat} (hk : ti.kind = .struct offs ts) (h1 : offs[f]? = some off) (h2 : ts[f]? = some u)
    {cs : List V} (hx : copyO E x = some (.ag cs)) (hlen : (cut cs off ui.size).length = ui.size) (hpl : plains (cut cs off ui.size) = true) {v : V} (hv : ofCells ui (cut cs off ui.size) = some v) (hs : setO n K o.dst v E = some E') : OpTo P F n K o E E' :=
  .pure hF (by simp [ho]) hs fun w N L γ R tmps ds hre hn => by
    obtain ⟨fs, hus, rfl, rfl, _⟩ := struct_of h hk
    simp only [List.getElem?_map, Option.map_eq_some_iff] at h1 h2
    obtain ⟨fd, hf1, rfl⟩ := h1
    obtain ⟨fd', hf2, rfl⟩ := h2
    rw [hf1] at hf2
    cases hf2
    have hf : fs[f]? = some fd := by simpa using hf1
    obtain ⟨vals, hev, hl, hcell, _, hrep⟩ := agg_inv (copyO_ok hre hx ds none_)
    have hcl : (cut cs fd.offset ui.size).length = ((vals.toList.drop fd.offset).take ui.size).length := by simp [cut, hl]
    have key := ofCells_ok (P := P) (w := w) (N := N) (L := L) (T := Tof tmps γ) hv (vals := (vals.toList.drop fd.offset).take ui.size) hcl (hcl.symm.trans hlen)
      (fun i u hi => by
        rw [cut_get] at hi
        split at hi
        · exact hcell _ _ hi
        · cases hi)
      (fun i u hi => by
        rw [cut_get] at hi
        split at hi
        · rename_i him
          have := hrep _ _ hi
          rw [List.getD_eq_getElem?_getD, List.getElem?_take, if_pos him, List.getElem?_drop]
          simpa [Array.getD_eq_getD_getElem?] using this
        · cases hi)
      (fun i u hi => by
        have := plains_get hpl hi
        cases u <;> simp_all [plain, isOwned])
    have hpart := run_part_ti (P := P) hu key.1 (xs := vals) (off := fd.offset) (fun hag hnil => by
      have h1 := key.1
      rw [hag] at h1
      have hs1 := one_size (t := fd.type) hv hlen (by simpa using h1) hag
      have := congrArg List.length hnil
      rw [← hcl, hlen, hs1] at this
      simp at this) w
    refine ⟨_, ?_, key.2⟩
    simp only [execOp, ho, hev, Instr.field, Sem.run_bind, run_underlying hus, hf, asAgg, Sem.run_pure, Result.andThen_ok, hpart]
    rfl
end
end Go.Proofs.VL
