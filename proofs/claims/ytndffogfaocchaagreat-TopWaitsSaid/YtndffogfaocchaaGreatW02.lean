import Derived.Test.YtndffogfaocchaaGreatW01
set_option linter.unusedVariables false
set_option linter.unusedSimpArgs false
set_option linter.unusedSectionVars false
namespace Go.Proofs.VL
open Go Go.RowKit
variable {P : Program}
section
variable {F : Fence} {n : Nat} {K : List Nat} {o : Oper} {E E' : Env} {τ : Nat → Option TI}
theorem heap_alloc_old (w : World) (x : Obj) {b : Nat} (h : b < w.heap.size) : (w.alloc x).heap[b]? = w.heap[b]? := Below.heap_alloc w x b h
theorem heap_alloc_at (w : World) (x : Obj) : (w.alloc x).heap[w.heap.size]? = some x := by
  show (w.heap.push x)[w.heap.size]? = some x
  simp
theorem keeps_alloc (w : World) (x : Obj) (L : Cells) (hL : ∀ b o, L b o → b < w.heap.size) : Keeps L w (w.alloc x) := fun b o v hl hv => by
  rw [cell_of_heap (heap_alloc_old w x (hL b o hl))]; exact hv
theorem later_alloc (w : World) (x : Obj) (N L : Cells) (S : Blocks) (hL : ∀ b o, L b o → b < w.heap.size) : Later w N L S (w.alloc x) N L :=
  ⟨rfl, rfl, rfl, by simp, fun b hb _ => heap_alloc_old w x hb, keeps_alloc w x L hL, fun _ _ h => h, fun _ _ h => h, fun _ _ h => .inl h, fun _ _ h => .inl h⟩
theorem Rel.alloc {w : World} {N L : Cells} {tmps : Array Value} {γ : Gh} {R : Loc → Blocks} (h : Rel P w N L tmps γ R E) (x : Obj) : Rel P (w.alloc x) N L tmps γ R E where
  rep := by
    intro t v hm
    obtain ⟨c, h1, h2⟩ := h.rep t v hm
    exact ⟨c, h1, h2.world (by simp) (fun b hb => heap_alloc_old w x (h.lt t b hb)) h.NL (keeps_alloc w x L h.Llt) (fun _ _ h => h) (fun _ _ h => h) (fun _ _ _ h => h) (fun _ _ _ h => h)⟩
  nd := h.nd
  dis := h.dis
  lt := fun t x hx => by have := h.lt t x hx; simp; omega
  NL := h.NL
  Llt := fun b o hl => by have := h.Llt b o hl; simp; omega
theorem Rel.grant {w : World} {N L : Cells} {tmps : Array Value} {γ : Gh} {R : Loc → Blocks} (h : Rel P w N L tmps γ R E) (l : Loc) (b : Nat) (hb : b < w.heap.size) (hn : ∀ l', ¬ R l' b) :
    Rel P w N L tmps γ (fun l' x => R l' x ∨ (l' = l ∧ x = b)) E where
  rep := fun t v hm => by
    obtain ⟨c, h1, h2⟩ := h.rep t v hm
    exact ⟨c, h1, h2.more fun x hx => .inl hx⟩
  nd := h.nd
  dis := by
    rintro l1 l2 x hne h1 h2
    rcases h1 with h1 | ⟨e1, e2⟩
    · rcases h2 with h2 | ⟨e3, e4⟩
      · exact h.dis _ _ _ hne h1 h2
      · exact hn _ (e4 ▸ h1)
    · rcases h2 with h2 | ⟨e3, e4⟩
      · exact hn _ (e2 ▸ h2)
      · exact hne (e1.trans e3.symm)
  lt := by
    rintro l' x (h1 | ⟨rfl, rfl⟩)
    · exact h.lt _ _ h1
    · exact hb
  NL := h.NL
  Llt := h.Llt
theorem mid_new {w : World} {N L : Cells} {γ : Gh} {R : Loc → Blocks} {tmps : Array Value} {ds : List Deferred} (hr : Rel P w N L tmps γ R E) (hn : tmps.size = n) {dst : Option Nat} {v : V} {c : Value} {x : Obj} (hs : setO n K dst v E = some E')
    (hc : ∀ S : Blocks, S w.heap.size → RepV P (w.alloc x) N L (Tof tmps γ) v c S) : Mid P n K w N L R tmps ds (· = E') (Act.put ⟨tmps, ds⟩ dst c) (w.alloc x) := by
  have ha := hr.alloc x
  rcases setO_cases hs with ⟨rfl, rfl⟩ | ⟨d, rfl, hd, hK, hm, rfl⟩
  · exact ⟨E', N, L, γ, R, rfl, ha, hn, rfl, fun _ _ => rfl, later_alloc w x N L _ hr.Llt, fun _ h => .inl h⟩
  · have hg := ha.grant (.s d) w.heap.size (by simp) (fun l' h => absurd (hr.lt _ _ h) (by omega))
    refine ⟨_, N, L, γ, _, rfl, hg.put (by omega) hm (hc _ (.inr ⟨rfl, rfl⟩)), by simp [putAct, hn], rfl, fun k hk => ?_, later_alloc w x N L _ hr.Llt, ?_⟩
    · have : k ≠ d := by rintro rfl; exact hK hk
      simp [putAct, Array.getElem?_setIfInBounds_ne (Ne.symm this)]
    · rintro y ⟨l, h | ⟨_, rfl⟩⟩
      · exact .inl ⟨l, h⟩
      · exact .inr (Nat.le_refl _)
theorem OpTo.new (hF : Wide F) (hnd : ∀ c, o.op ≠ .defer c) {v : V} (hs : setO n K o.dst v E = some E')
    (hrun : ∀ (w : World) (N L : Cells) (γ : Gh) (R : Loc → Blocks) (tmps : Array Value) (ds : List Deferred), Rel P w N L tmps γ R E → tmps.size = n →
      ∃ c x, (execOp (Act.eval ⟨tmps, ds⟩) o).run P w = .ok (.value c) (w.alloc x) ∧ ∀ S : Blocks, S w.heap.size → RepV P (w.alloc x) N L (Tof tmps γ) v c S) : OpTo P F n K o E E' := by
  intro w N L γ R tmps ds hr hn
  obtain ⟨c, x, h1, h2⟩ := hrun w N L γ R tmps ds hr hn
  refine wpIn_run hF hnd ?_
  rw [h1]
  exact mid_new hr hn hs h2
theorem cellsV_ok {w : World} {N L : Cells} {T : Loc → Option Value} {v : V} {c : Value} {S : Blocks} (h : RepV P w N L T v c S) (hp : isOwned v = false) (ht : ∀ vs, v ≠ .tu vs) : (cellsV v).length = c.cells.size ∧ (∀ (i : Nat) (u : V), (cellsV v)[i]? = some u → isCell u = true) ∧
    ∀ (i : Nat) (u : V), (cellsV v)[i]? = some u → RepV P w N L T u (c.cells.getD i undef) none_ := by
  by_cases ha : ∃ cs, v = .ag cs
  · obtain ⟨cs, rfl⟩ := ha
    obtain ⟨vals, rfl, hl, hc, _, hr⟩ := agg_inv h
    exact ⟨hl, hc, hr⟩
  · have hcell : isCell v = true := by
      cases v <;> first | rfl | exact absurd ⟨_, rfl⟩ ha | exact absurd rfl (ht _)
    have h1 : cellsV v = [v] := by cases v <;> first | rfl | exact absurd ⟨_, rfl⟩ ha
    have h2 := h.oneCell hcell
    have h3 : c.cells = #[c] := by cases c <;> first | rfl | (simp [Value.oneCell'] at h2)
    rw [h1, h3]
    refine ⟨rfl, fun i u hi => ?_, fun i u hi => ?_⟩
    · cases i with
      | zero => simp at hi; subst hi; exact hcell
      | succ i => simp at hi
    · cases i with
      | zero => simp at hi; subst hi; simpa using h.plain hp _
      | succ i => simp at hi
theorem copyO_plain {x : Operand} {v : V} (h : copyO E x = some v) : isOwned v = false ∧ ∀ vs, v ≠ .tu vs := by
  have hc : ∀ {l : Loc} {u : V}, copyAt l u = some v → isOwned v = false ∧ ∀ vs, v ≠ .tu vs := by
    intro l u h
    unfold copyAt at h
    split at h
    · cases h; exact ⟨rfl, by simp⟩
    · split at h
      · rename_i a h1 b h2; cases h; exact ⟨h1, by rintro vs rfl; simp [plain] at h2⟩
      · cases h
  have hk : ∀ {c : Value}, constV c = some v → isOwned v = false ∧ ∀ vs, v ≠ .tu vs := by
    intro c h
    unfold constV at h
    split at h
    · cases h; exact ⟨rfl, by simp⟩
    · split at h
      · cases h; exact ⟨rfl, by simp⟩
      · cases h
    · split at h
      · cases h; exact ⟨rfl, by simp⟩
      · cases h
  cases x with
  | tmp t =>
    simp only [copyO] at h
    split at h
    · exact hc h
    · cases h
  | const c => exact hk h
  | global g => simp [copyO, getO] at h
  | func f => simp [copyO, getO] at h; subst h; exact ⟨rfl, by simp⟩
theorem zero_rep {w : World} {N L : Cells} {T : Loc → Option Value} {z : Value} {ds : List D} (h : toDs z.cells.toList = some ds) : (ds.map V.d).length = z.cells.size ∧ (∀ (i : Nat) (u : V), (ds.map V.d)[i]? = some u → isCell u = true) ∧
    ∀ (i : Nat) (u : V), (ds.map V.d)[i]? = some u → RepV P w N L T u (z.cells.getD i undef) none_ := by
  obtain ⟨hl, hg⟩ := toDs_get h
  refine ⟨by simp [hl], fun i u hi => ?_, fun i u hi => ?_⟩
  · simp only [List.getElem?_map, Option.map_eq_some_iff] at hi
    obtain ⟨d, _, rfl⟩ := hi
    rfl
  · simp only [List.getElem?_map, Option.map_eq_some_iff] at hi
    obtain ⟨d, hd, rfl⟩ := hi
    obtain ⟨u, hu, htd⟩ := hg i d hd
    have : z.cells.getD i undef = u := by
      rw [Array.getD_eq_getD_getElem?, show z.cells[i]? = some u by simpa using hu]; rfl
    rw [this]
    exact .d _ _ _ (toD_ok htd)
theorem new_bx {w : World} {N L : Cells} {T : Loc → Option Value} {e : Nat} {cs : List V} {vals : Array Value} (hl : cs.length = vals.size) (hL : ∀ b o, L b o → b < w.heap.size) (hNL : ∀ b o, N b o → L b o) (hc : ∀ (i : Nat) (u : V), cs[i]? = some u → isCell u = true)
    (h : ∀ (i : Nat) (u : V), cs[i]? = some u → RepV P w N L T u (vals.getD i undef) none_) (S : Blocks) (hS : S w.heap.size) :
    RepV P (w.alloc (.cells vals e)) N L T (.bx e cs) (.pointer (some ⟨w.heap.size, 0, none⟩)) S :=
  .bx e cs w.heap.size vals S (heap_alloc_at w _) hl hc
    (fun i u hi => (h i u hi).world (by simp) (fun _ h => h.elim) hNL (keeps_alloc w _ L hL) (fun _ _ h => h) (fun _ _ h => h) (fun _ _ h => h.elim) (fun _ _ h => h.elim))
    (fun x hx => absurd (hL _ _ hx) (by omega)) hS
theorem OpTo.alloc (hF : Wide F) {e : Nat} (ho : o.op = .alloc e) {ti : TI} (hti : mkTI P e = some ti) (hs : setO n K o.dst (.bx e (ti.zero.map .d)) E = some E') : OpTo P F n K o E E' :=
  .new hF (by simp [ho]) hs fun w N L γ R tmps ds hr hn => by
    obtain ⟨z, h1, h2, h3⟩ := run_zeroValue_ti hti w
    obtain ⟨k1, k2, k3⟩ := zero_rep (P := P) (w := w) (N := N) (L := L) (T := Tof tmps γ) h2
    exact ⟨_, .cells z.cells e, by simp [execOp, ho, Instr.alloc, h1, newVar, newRow], fun S hS => new_bx k1 hr.Llt hr.NL k2 k3 S hS⟩
theorem OpTo.box (hF : Wide F) {e : Nat} {x : Operand} (ho : o.op = .box e x) {v : V} (hx : copyO E x = some v) (hs : setO n K o.dst (.bx e (cellsV v)) E = some E') : OpTo P F n K o E E' :=
  .new hF (by simp [ho]) hs fun w N L γ R tmps ds hr hn => by
    obtain ⟨hp, ht⟩ := copyO_plain hx
    obtain ⟨k1, k2, k3⟩ := cellsV_ok (copyO_ok hr hx ds none_) hp ht
    exact ⟨_, .cells (Act.eval ⟨tmps, ds⟩ x).cells e, by simp [execOp, ho, Instr.box, newVar, newRow], fun S hS => new_bx k1 hr.Llt hr.NL k2 k3 S hS⟩
theorem splice_len {cs vs : List V} {o : Nat} (h : o + vs.length ≤ cs.length) : (splice cs o vs).length = cs.length := by
  induction o generalizing cs with
  | zero => simp [splice]; omega
  | succ o ih =>
    cases cs with
    | nil => simp at h
    | cons c cs => simp only [splice, List.length_cons]; rw [ih (by simp at h; omega)]
theorem splice_get {cs vs : List V} {o : Nat} (h : o + vs.length ≤ cs.length) (i : Nat) : (splice cs o vs)[i]? = if o ≤ i ∧ i < o + vs.length then vs[i - o]? else cs[i]? := by
  induction o generalizing cs i with
  | zero =>
    simp only [splice, List.getElem?_append]
    split
    · rename_i hlt; rw [if_pos ⟨by omega, by omega⟩]; rfl
    · rename_i hge; rw [if_neg (by omega), List.getElem?_drop]; congr 1; omega
  | succ o ih =>
    cases cs with
    | nil => simp at h
    | cons c cs =>
      cases i with
      | zero => simp [splice]
      | succ i =>
        simp only [splice, List.getElem?_cons_succ]
        rw [ih (by simp at h; omega)]
        split
        · rename_i h1; rw [if_pos (by omega)]; congr 1; omega
        · rename_i h1; rw [if_neg (by omega)]
def CellsRep (P : Program) (w : World) (N L : Cells) (T : Loc → Option Value) (cs : List V) (vals : Array Value) : Prop :=
  cs.length = vals.size ∧ (∀ (i : Nat) (u : V), cs[i]? = some u → isCell u = true) ∧ ∀ (i : Nat) (u : V), cs[i]? = some u → RepV P w N L T u (vals.getD i undef) none_
theorem foldl_set_size (l : List (Value × Nat)) (o : Nat) (cells : Array Value) : (l.foldl (fun cs (x : Value × Nat) => cs.setIfInBounds (o + x.2) x.1) cells).size = cells.size := by
  induction l generalizing cells with
  | nil => rfl
  | cons x l ih => simp [ih]
theorem foldl_set_get (vs : List Value) : ∀ (k o : Nat) (cells : Array Value), o + k + vs.length ≤ cells.size → ∀ i, ((vs.zipIdx k).foldl (fun cs (x : Value × Nat) => cs.setIfInBounds (o + x.2) x.1) cells)[i]? = if o + k ≤ i ∧ i < o + k + vs.length then vs[i - (o + k)]? else cells[i]? := by
  induction vs with
  | nil => intro k o cells h i; simp; intros; omega
  | cons v vs ih =>
    intro k o cells h i
    simp only [List.zipIdx_cons, List.foldl_cons, List.length_cons] at h ⊢
    rw [ih (k + 1) o _ (by simp; omega)]
    by_cases h1 : o + (k + 1) ≤ i ∧ i < o + (k + 1) + vs.length
    · rw [if_pos h1, if_pos (by omega)]
      rw [show i - (o + k) = (i - (o + (k + 1))) + 1 by omega]
      simp
    · rw [if_neg h1]
      by_cases h2 : i = o + k
      · subst h2
        rw [if_pos (by omega)]
        simp [show o + k < cells.size by omega]
      · rw [if_neg (by omega), Array.getElem?_setIfInBounds_ne (Ne.symm h2)]
theorem CellsRep.splice {w : World} {N L : Cells} {T : Loc → Option Value} {cs vs : List V} {vals xs : Array Value} {o : Nat} (h : CellsRep P w N L T cs vals) (hv : CellsRep P w N L T vs xs) (hin : o + vs.length ≤ cs.length) {ys : Array Value} (hy : ys.size = vals.size)
    (hg : ∀ i, ys[i]? = if o ≤ i ∧ i < o + xs.size then xs[i - o]? else vals[i]?) : CellsRep P w N L T (VL.splice cs o vs) ys := by
  refine ⟨by rw [splice_len hin, hy, h.1], fun i u hi => ?_, fun i u hi => ?_⟩
  · rw [splice_get hin] at hi
    split at hi
    · exact hv.2.1 _ _ hi
    · exact h.2.1 _ _ hi
  · rw [splice_get hin] at hi
    have e : ys.getD i undef = if o ≤ i ∧ i < o + xs.size then xs.getD (i - o) undef else vals.getD i undef := by
      simp only [Array.getD_eq_getD_getElem?, hg i]
      split <;> rfl
    rw [e, ← hv.1]
    split at hi
    · rename_i hc; rw [if_pos hc]; exact hv.2.2 _ _ hi
    · rename_i hc; rw [if_neg hc]; exact h.2.2 _ _ hi
theorem fill_ok {w : World} {N L : Cells} {γ : Gh} {R : Loc → Blocks} {tmps : Array Value} (hr : Rel P w N L tmps γ R E) (ds : List Deferred) (place place' : Nat → Option (Nat × Nat)) (hpl : ∀ i x, place i = some x → place' i = some x) : ∀ (ps : List (Nat × Operand)) (cs cs' : List V) (vals : Array Value), CellsRep P w N L (Tof tmps γ) cs vals → fillParts E place cs ps = some cs' →
    ∃ vals', Instr.fill place' vals (ps.map fun p => (p.1, Act.eval ⟨tmps, ds⟩ p.2)) = some vals' ∧ CellsRep P w N L (Tof tmps γ) cs' vals' := by
  intro ps
  induction ps with
  | nil => intro cs cs' vals h hf; simp [fillParts] at hf; subst hf; exact ⟨vals, rfl, h⟩
  | cons p ps ih =>
    intro cs cs' vals h hf
    obtain ⟨i, x⟩ := p
    simp only [fillParts] at hf
    split at hf
    · rename_i off m v hp hx
      split at hf
      · rename_i hc
        simp only [Bool.and_eq_true, beq_iff_eq, Nat.ble_eq] at hc
        obtain ⟨h1, h2⟩ := copyO_plain hx
        have hv := cellsV_ok (copyO_ok hr hx ds none_) h1 h2
        have hin : off + (cellsV v).length ≤ cs.length := by omega
        have hsz : (Act.eval ⟨tmps, ds⟩ x).cells.size = m := by rw [← hv.1]; exact hc.1
        have hvs := h.1
        have key : CellsRep P w N L (Tof tmps γ) (VL.splice cs off (cellsV v)) ((Act.eval ⟨tmps, ds⟩ x).cells.zipIdx.foldl (fun cs (c, j) => cs.setIfInBounds (off + j) c) vals) := by
          have e : (Act.eval ⟨tmps, ds⟩ x).cells.zipIdx.foldl (fun cs (c, j) => cs.setIfInBounds (off + j) c) vals = ((Act.eval ⟨tmps, ds⟩ x).cells.toList.zipIdx 0).foldl (fun cs (x : Value × Nat) => cs.setIfInBounds (off + x.2) x.1) vals := by
            rw [← Array.foldl_toList, Array.toList_zipIdx]
          rw [e]
          refine h.splice hv hin (foldl_set_size _ _ _) (fun j => ?_)
          have := foldl_set_get (Act.eval ⟨tmps, ds⟩ x).cells.toList 0 off vals (by simp; omega) j
          simpa using this
        obtain ⟨vals', hf', hr'⟩ := ih _ _ _ key hf
        refine ⟨vals', ?_, hr'⟩
        simp only [List.map_cons, Instr.fill, hpl _ _ hp]
        rw [if_neg (by simp; omega)]
        exact hf'
      · cases hf
    · cases hf
end
end Go.Proofs.VL
namespace Go.Proofs.VL
open Go Go.RowKit
variable {P : Program}
section
variable {F : Fence} {n : Nat} {K : List Nat} {o : Oper} {E E' : Env} {τ : Nat → Option TI}
theorem OpTo.ent {E1 : Env} (h : OpTo P F n K o E E1) (he : Ent P E1 E') : OpTo P F n K o E E' := by
  intro w N L γ R tmps ds hr hn
  refine wpIn_mono_op (h w N L γ R tmps ds hr hn) (fun a1 w1 hm => ?_) (fun _ _ _ h => h)
  obtain ⟨E2, N1, L1, γ1, R1, rfl, hA⟩ := hm
  obtain ⟨N2, L2, γ2, R2, h1, h2, h3⟩ := he _ _ _ _ _ _ hA.rel
  exact ⟨_, N2, L2, γ2, R2, rfl, h1, hA.size, hA.defers, hA.kept, hA.later.trans h2 (fun x hx => hA.own x hx), fun x hx => hA.own x (h3 x hx)⟩
theorem allT_ok (hτ : ∀ t ti, τ t = some ti → mkTI P t = some ti) {ts : List Nat} (h : allT τ ts = true) : ∀ t ∈ ts, ∃ ti, τ t = some ti ∧ mkTI P t = some ti := by
  induction ts with
  | nil => simp
  | cons t ts ih =>
    simp only [allT] at h
    split at h
    · rename_i ti hti
      intro u hu
      cases hu with
      | head => exact ⟨ti, hti, hτ _ _ hti⟩
      | tail _ hu => exact ih h u hu
    · cases h
theorem places_of (hτ : ∀ t ti, τ t = some ti → mkTI P t = some ti) : ∀ (fs : List Field), (∀ t ∈ fs.map (·.type), ∃ ti, τ t = some ti ∧ mkTI P t = some ti) →
    ∃ places : List (Nat × Nat), fs.mapM (fun f => (P.info? f.type).map fun i => (f.offset, i.size)) = some places ∧ ∀ (i : Nat) (f : Field) (ti : TI), fs[i]? = some f → τ f.type = some ti → places[i]? = some (f.offset, ti.size) := by
  intro fs
  induction fs with
  | nil => intro _; exact ⟨[], rfl, by simp⟩
  | cons f fs ih =>
    intro h
    obtain ⟨places, h1, h2⟩ := ih (fun t ht => h t (by simp at ht ⊢; exact .inr ht))
    obtain ⟨ti, h3, h4⟩ := h f.type (by simp)
    obtain ⟨i, d, z, m1, m2, m3, m4, m5, m6, _⟩ := mkTI_ok h4
    refine ⟨(f.offset, i.size) :: places, by simp [List.mapM_cons, m1, h1], fun j g tj hj hg => ?_⟩
    cases j with
    | zero => simp at hj; subst hj; rw [h3] at hg; cases hg; simp [m6]
    | succ j => simpa using h2 j g tj (by simpa using hj) hg
theorem OpTo.buildS (hF : Wide F) (hτ : ∀ t ti, τ t = some ti → mkTI P t = some ti) {t : Nat} {ps : Array (Nat × Operand)} (ho : o.op = .build t ps) {ti : TI} (hti : τ t = some ti) {offs ts : List Nat} (hk : ti.kind = .struct offs ts) (hall : allT τ ts = true) {cs : List V}
    (hf : fillParts E (fun i => match offs[i]?, ts[i]? with | some o, some u => (match τ u with | some ui => some (o, ui.size) | none => none) | _, _ => none) (ti.zero.map .d) ps.toList = some cs) (hs : setO n K o.dst (.ag cs) E = some E') : OpTo P F n K o E E' :=
  .pure hF (by simp [ho]) hs fun w N L γ R tmps ds hr hn => by
    obtain ⟨i, d, z, m1, m2, m3, m4, m5, m6, _⟩ := mkTI_ok (hτ _ _ hti)
    obtain ⟨fs, hu, rfl, rfl, _⟩ := struct_of (hτ _ _ hti) hk
    have hz := zero_rep (P := P) (w := w) (N := N) (L := L) (T := Tof tmps γ) m4
    obtain ⟨places, hp1, hp2⟩ := places_of hτ fs.toList (allT_ok hτ hall)
    obtain ⟨vals, hfill, hrep⟩ := fill_ok hr ds _ (places.toArray[·]?) (by
      intro j x hx
      simp only [List.getElem?_map] at hx
      split at hx
      · rename_i o' u h1 h2
        simp only [Option.map_eq_some_iff] at h1 h2
        obtain ⟨f, hf1, rfl⟩ := h1
        obtain ⟨f', hf2, rfl⟩ := h2
        rw [hf1] at hf2
        cases hf2
        split at hx
        · rename_i ui hui
          cases hx
          simpa using hp2 j f ui hf1 hui
        · cases hx
      · cases hx) _ _ _ _ hz hf
    refine ⟨.agg vals, ?_, fun S => .ag cs vals S hrep.1 hrep.2.1 hrep.2.2⟩
    have hb : P.built t (ps.map fun p => (p.1, Act.eval ⟨tmps, ds⟩ p.2)).toList = some vals := by
      unfold Program.built
      simp only [m1, hu, m3, hp1]
      simpa using hfill
    simp only [execOp, ho]
    rw [Sem.run_bind, run_build (P := P) w t _ vals hb]
    rfl
theorem OpTo.buildA (hF : Wide F) (hτ : ∀ t ti, τ t = some ti → mkTI P t = some ti) {t : Nat} {ps : Array (Nat × Operand)} (ho : o.op = .build t ps) {ti ui : TI} (hti : τ t = some ti) {len e : Nat} (hk : ti.kind = .array len e) (hui : τ e = some ui) {cs : List V}
    (hf : fillParts E (fun i => some (i * ui.size, ui.size)) (ti.zero.map .d) ps.toList = some cs) (hs : setO n K o.dst (.ag cs) E = some E') : OpTo P F n K o E E' :=
  .pure hF (by simp [ho]) hs fun w N L γ R tmps ds hr hn => by
    obtain ⟨i, d, z, m1, m2, m3, m4, m5, m6, _⟩ := mkTI_ok (hτ _ _ hti)
    obtain ⟨i', d', z', q1, q2, q3, q4, q5, q6, _⟩ := mkTI_ok (hτ _ _ hui)
    have hu := array_of (hτ _ _ hti) hk
    have hz := zero_rep (P := P) (w := w) (N := N) (L := L) (T := Tof tmps γ) m4
    obtain ⟨vals, hfill, hrep⟩ := fill_ok hr ds _ (fun i => some (i * i'.size, i'.size)) (by
      intro j x hx
      rw [q6]; exact hx) _ _ _ _ hz hf
    refine ⟨.agg vals, ?_, fun S => .ag cs vals S hrep.1 hrep.2.1 hrep.2.2⟩
    have hb : P.built t (ps.map fun p => (p.1, Act.eval ⟨tmps, ds⟩ p.2)).toList = some vals := by
      unfold Program.built
      simp only [m1, hu, m3, q1]
      simpa using hfill
    simp only [execOp, ho]
    rw [Sem.run_bind, run_build (P := P) w t _ vals hb]
    rfl
theorem movable_inv {v : V} (h : movable v = true) (l : Loc) : v.men l = false ∧ isCell v = true := by
  cases v <;> simp [movable] at h <;> exact ⟨rfl, rfl⟩
theorem Rel.moveOwn {w : World} {N L : Cells} {γ : Gh} {R : Loc → Blocks} {tmps : Array Value} (hr : Rel P w N L tmps γ R E) {l' d : Loc} {v : V} {c : Value} (hlk : look E l' = some v) (hm : movable v = true) (hne : l' ≠ d) (h1 : Tof tmps γ l' = some c) (h2 : Tof tmps γ d = some c) :
    Rel P w N L tmps γ (fun x => if x = d then fun y => R d y ∨ R l' y else if x = l' then none_ else R x) (VL.upd l' (.ref d) (VL.upd d v E)) := by
  obtain ⟨c', h3, hv⟩ := hr.rep _ _ (look_mem hlk)
  rw [h1] at h3
  cases h3
  have hone := hv.oneCell (movable_inv hm l').2
  have nd1 : ((VL.upd d v E).map Prod.fst).Nodup := by rw [upd_keys]; exact hr.nd
  refine ⟨?_, by rw [upd_keys]; exact nd1, ?_, ?_, hr.NL, hr.Llt⟩
  · intro s u hm'
    rcases upd_mem nd1 hm' with ⟨rfl, rfl, _⟩ | ⟨hm', hne1⟩
    · exact ⟨c, h1, .ref d c _ h2 hone⟩
    · rcases upd_mem hr.nd hm' with ⟨rfl, rfl, _⟩ | ⟨hm', hne2⟩
      · exact ⟨c, h2, hv.more (fun x hx => by simp only [if_true]; exact .inr hx)⟩
      · obtain ⟨cs, h4, h5⟩ := hr.rep s u hm'
        exact ⟨cs, h4, h5.more (fun x hx => by rw [if_neg hne2, if_neg hne1]; exact hx)⟩
  · intro a b x hab ha hb
    have aux : ∀ z, z ≠ d → (if z = d then fun y => R d y ∨ R l' y else if z = l' then none_ else R z) x → R z x ∧ z ≠ l' := by
      intro z hz hzx
      rw [if_neg hz] at hzx
      split at hzx
      · exact hzx.elim
      · exact ⟨hzx, ‹_›⟩
    by_cases ea : a = d
    · have eb : b ≠ d := fun e => hab (ea.trans e.symm)
      obtain ⟨hb1, hb2⟩ := aux b eb hb
      subst ea
      rw [if_pos rfl] at ha
      rcases ha with ha | ha
      · exact hr.dis _ _ _ hab ha hb1
      · exact hr.dis _ _ _ (Ne.symm hb2) ha hb1
    · obtain ⟨ha1, ha2⟩ := aux a ea ha
      by_cases eb : b = d
      · subst eb
        rw [if_pos rfl] at hb
        rcases hb with hb | hb
        · exact hr.dis _ _ _ hab ha1 hb
        · exact hr.dis _ _ _ ha2 ha1 hb
      · obtain ⟨hb1, hb2⟩ := aux b eb hb
        exact hr.dis _ _ _ hab ha1 hb1
  · intro l x hx
    split at hx
    · rcases hx with hx | hx
      · exact hr.lt _ _ hx
      · exact hr.lt _ _ hx
    · split at hx
      · exact hx.elim
      · exact hr.lt _ _ hx
theorem moveOwn_St {R : Loc → Blocks} {l' d : Loc} : ∀ x, St (fun x => if x = d then fun y => R d y ∨ R l' y else if x = l' then none_ else R x) x → St R x := by
  rintro x ⟨l, hl⟩
  split at hl
  · rcases hl with hl | hl
    · exact ⟨_, hl⟩
    · exact ⟨_, hl⟩
  · split at hl
    · exact hl.elim
    · exact ⟨_, hl⟩
theorem Ent.take (d : Loc) : Ent P E (VL.take d E) := by
  refine Ent.of_rel fun w N L γ R tmps hr => ?_
  have key : ∀ {l1 l' : Loc} {v : V}, look E d = some (.ref l1) → own E l1 = some (l', v) → movable v = true → ∃ γ' R', Rel P w N L tmps γ' R' (VL.upd l' (.ref d) (VL.upd d v E)) ∧ ∀ x, St R' x → St R x := by
    intro l1 l' v h1 h2 hm
    obtain ⟨c, hT, hT', hrep, hlk⟩ := own_ok hr h2
    obtain ⟨c', h3, h4⟩ := hr.rep _ _ (look_mem h1)
    cases h4 with
    | ref _ _ _ hT2 _ =>
      rw [hT] at hT2
      cases hT2
      have hne : l' ≠ d := by rintro rfl; rw [h1] at hlk; cases hlk; cases hm
      exact ⟨γ, _, hr.moveOwn hlk hm hne hT' h3, moveOwn_St⟩
  unfold VL.take
  split
  · rename_i l1 h1
    split
    · rename_i l' m e xs h2; exact key h1 h2 rfl
    · rename_i l' k es h2; exact key h1 h2 rfl
    · exact ⟨γ, R, hr, fun _ h => h⟩
  · exact ⟨γ, R, hr, fun _ h => h⟩
theorem forceL_eq {α : Type} (cs : List V) (k : List V → α) : forceL cs k = k cs := by
  induction cs generalizing k with
  | nil => rfl
  | cons v vs ih => simp only [forceL, ih]
theorem Ent.bringAt (t i : Nat) : Ent P E (VL.bringAt t i E) := by
  refine Ent.of_rel fun w N L γ R tmps hr => ?_
  unfold VL.bringAt
  split
  case h_2 => exact ⟨γ, R, hr, fun _ h => h⟩
  rename_i b cs hlkb
  split
  case h_2 => exact ⟨γ, R, hr, fun _ h => h⟩
  rename_i l hcell
  split
  case h_2 => exact ⟨γ, R, hr, fun _ h => h⟩
  rename_i l' v hown
  split
  case h_2 => exact ⟨γ, R, hr, fun _ h => h⟩
  rename_i hmv
  simp only [Bool.and_eq_true, Bool.not_eq_true'] at hmv
  obtain ⟨hm, hne⟩ := hmv
  have hne := lq_ne hne
  obtain ⟨c, hT, hT', hrepv, hlk'⟩ := own_ok hr hown
  have hone := hrepv.oneCell (movable_inv hm l').2
  obtain ⟨cb, hb1, hb2⟩ := hr.rep _ _ (look_mem hlkb)
  -- the new names
  let γ' : Gh := fun t' i' => if t' = t ∧ i' = i then some c else γ t' i'
  have hTn : Tof tmps γ' (.c t i) = some c := by simp [Tof, γ']
  have hTo : ∀ l c', l ≠ .c t i → Tof tmps γ l = some c' → Tof tmps γ' l = some c' := by
    intro l c' hl h
    cases l with
    | s t' => exact h
    | c t' i' =>
      simp only [Tof, γ'] at h ⊢
      rw [if_neg (fun e => hl (by rw [e.1, e.2]))]
      exact h
  let R' : Loc → Blocks := fun x => if x = .c t i then fun y => R (.c t i) y ∨ R l' y else if x = l' then none_ else R x
  have main : ∀ E0 : Env, (∀ s u, (s, u) ∈ E0 → (s, u) ∈ E ∧ s ≠ .c t i ∧ u.men (.c t i) = false) → (E0.map Prod.fst).Nodup → ∃ γ' R', Rel P w N L tmps γ' R' ((.c t i, v) :: VL.upd l' (.ref (.c t i)) (VL.upd (.s t) (.bx b (splice cs i [.ref (.c t i)])) E0)) ∧ ∀ x, St R' x → St R x := by
    intro E0 hE0 hnd
    have nd1 : ((VL.upd (.s t) (.bx b (splice cs i [.ref (.c t i)])) E0).map Prod.fst).Nodup := by rw [upd_keys]; exact hnd
    refine ⟨γ', R', ⟨?_, ?_, ?_, ?_, hr.NL, hr.Llt⟩, moveOwn_St⟩
    · intro s u hmem
      cases hmem with
      | head => exact ⟨c, hTn, (hrepv.congrT hTo (movable_inv hm _).1).more (fun x hx => by simp only [R', if_true]; exact .inr hx)⟩
      | tail _ hmem =>
        rcases upd_mem nd1 hmem with ⟨rfl, rfl, _⟩ | ⟨hmem, hne1⟩
        · exact ⟨c, hTo _ _ hne hT', .ref _ _ _ hTn hone⟩
        · rcases upd_mem hnd hmem with ⟨rfl, rfl, u0, hu0⟩ | ⟨hmem, hne2⟩
          · obtain ⟨k1, k2, k3⟩ := hE0 _ _ hu0
            obtain ⟨cu, hc1, hc2⟩ := hr.rep _ _ k1
            -- the variable's entry is the one that was looked up
            have he0 : u0 = .bx b cs := by
              have m1 := look_mem hlkb
              have := List.pairwise_iff_getElem.1 (List.nodup_iff_pairwise_ne.1 hr.nd)
              obtain ⟨i1, hi1, e1⟩ := List.getElem_of_mem m1
              obtain ⟨i2, hi2, e2⟩ := List.getElem_of_mem k1
              rcases Nat.lt_trichotomy i1 i2 with h | h | h
              · have := this i1 i2 (by simpa using hi1) (by simpa using hi2) h
                simp only [List.getElem_map, e1, e2] at this
                exact absurd rfl this
              · subst h
                rw [e1] at e2
                cases e2; rfl
              · have := this i2 i1 (by simpa using hi2) (by simpa using hi1) h
                simp only [List.getElem_map, e1, e2] at this
                exact absurd rfl this
            subst he0
            obtain ⟨bb, vals, rfl, hbb, hl, hcell', hrep, hL, hRb⟩ := bx_inv hc2
            have hi : i < cs.length := (List.getElem?_eq_some_iff.1 hcell).1
            have hin : i + [V.ref (.c t i)].length ≤ cs.length := by simp; omega
            refine ⟨_, hTo _ _ (by simp) hc1, .bx b _ bb vals _ hbb (by rw [splice_len hin]; exact hl) (fun j x hj => ?_) (fun j x hj => ?_) hL ?_⟩
            · rw [splice_get hin] at hj
              split at hj
              · rename_i hji
                obtain rfl : j = i := by simp at hji; omega
                simp at hj; subst hj; rfl
              · exact hcell' _ _ hj
            · rw [splice_get hin] at hj
              split at hj
              · rename_i hji
                obtain rfl : j = i := by simp at hji; omega
                simp at hj; subst hj
                have h5 := hrep j _ hcell
                cases h5 with
                | ref _ _ _ hT2 _ =>
                  rw [hT] at hT2
                  cases hT2
                  exact .ref _ _ _ hTn hone
              · exact (hrep _ _ hj).congrT hTo (mens_get (by simpa [V.men] using k3) hj)
            · show R' (.s t) bb
              simp only [R']
              rw [if_neg (by simp), if_neg (fun e => hne1 e)]
              exact hRb
          · obtain ⟨k1, k2, k3⟩ := hE0 _ _ hmem
            obtain ⟨cu, hc1, hc2⟩ := hr.rep _ _ k1
            refine ⟨cu, hTo _ _ k2 hc1, (hc2.congrT hTo k3).more (fun x hx => ?_)⟩
            simp only [R']
            rw [if_neg k2, if_neg hne1]
            exact hx
    · simp only [List.map_cons, List.nodup_cons, upd_keys]
      refine ⟨fun hmem => ?_, hnd⟩
      obtain ⟨⟨s, u⟩, hm1, e⟩ := List.mem_map.1 hmem
      exact (hE0 s u hm1).2.1 e
    · intro a b' x hab ha hb
      have aux : ∀ z, z ≠ .c t i → R' z x → R z x ∧ z ≠ l' := by
        intro z hz hzx
        simp only [R'] at hzx
        rw [if_neg hz] at hzx
        split at hzx
        · exact hzx.elim
        · exact ⟨hzx, ‹_›⟩
      by_cases ea : a = .c t i
      · have eb : b' ≠ .c t i := fun e => hab (ea.trans e.symm)
        obtain ⟨hb1, hb2⟩ := aux b' eb hb
        subst ea
        simp only [R', if_true] at ha
        rcases ha with ha | ha
        · exact hr.dis _ _ _ hab ha hb1
        · exact hr.dis _ _ _ (Ne.symm hb2) ha hb1
      · obtain ⟨ha1, ha2⟩ := aux a ea ha
        by_cases eb : b' = .c t i
        · subst eb
          simp only [R', if_true] at hb
          rcases hb with hb | hb
          · exact hr.dis _ _ _ hab ha1 hb
          · exact hr.dis _ _ _ ha2 ha1 hb
        · obtain ⟨hb1, hb2⟩ := aux b' eb hb
          exact hr.dis _ _ _ hab ha1 hb1
    · intro l x hx
      simp only [R'] at hx
      split at hx
      · rcases hx with hx | hx
        · exact hr.lt _ _ hx
        · exact hr.lt _ _ hx
      · split at hx
        · exact hx.elim
        · exact hr.lt _ _ hx
  split
  · rename_i hany
    rw [forceL_eq]
    exact main E (fun s u hm => ⟨hm, anyOf_mem hany hm⟩) hr.nd
  · rw [forceL_eq]
    exact main (purge (.c t i) E) (fun s u hm => purge_mem hm) (hr.nd.sublist (purge_sub.map _))
theorem Ent.bring (t : Nat) : ∀ (k i : Nat) (E : Env), Ent P E (VL.bring t i k E) := by
  intro k
  induction k with
  | zero => intro i E; exact Ent.refl
  | succ k ih => intro i E; simp only [VL.bring, force_eq]; exact (Ent.bringAt t i).trans (ih _ _)
theorem forceV_eq {α : Type} (v : V) (k : V → α) : forceV v k = k v := by
  cases v <;> simp only [forceV, forceL_eq]
theorem Ent.bringIf (b : Bool) (t i k : Nat) : Ent P E (VL.bringIf b t i k E) := by
  cases b
  · exact Ent.refl
  · exact Ent.bring t k i E
theorem OpTo.store (hF : Wide F) {t : Nat} {a x : Operand} (ho : o.op = .store t a x) (hd : o.dst = none) {ti : TI} (hti : mkTI P t = some ti) {l : Loc} {e off : Nat} {cs : List V} (hp : ptrO E a = some (.box l e cs off)) {v : V} (hx : copyO E x = some v)
    (hsz : (cellsV v).length = ti.size) (hin : off + ti.size ≤ cs.length) : OpTo P F n K o E (VL.upd l (.bx e (splice cs off (cellsV v))) E) := by
  intro w N L γ R tmps ds hr hn
  have hP := ptrO_ok hr hp ds
  generalize hae : Act.eval ⟨tmps, ds⟩ a = ae at hP
  cases hP with
  | box _ _ bb _ _ hlk ht =>
    obtain ⟨c, h1, h2⟩ := hr.rep l _ (look_mem hlk)
    rw [ht] at h1
    cases h1
    obtain ⟨b', vals, he, hb, hl, hc, hrep, hL, hRb⟩ := bx_inv h2
    cases he
    obtain ⟨q1, q2⟩ := copyO_plain hx
    obtain ⟨k1, k2, k3⟩ := cellsV_ok (copyO_ok hr hx ds none_) q1 q2
    generalize hxe : Act.eval ⟨tmps, ds⟩ x = xe at k1 k3
    have hone : ∀ u ∈ xe.cells.toList, u.oneCell' = true := by
      intro u hu
      obtain ⟨i, hi, e⟩ := List.getElem_of_mem hu
      have hi' : i < (cellsV v).length := by rw [k1]; simpa using hi
      have h5 := (k3 i _ (List.getElem?_eq_getElem hi')).oneCell (k2 i _ (List.getElem?_eq_getElem hi'))
      have e2 : xe.cells.getD i undef = u := by
        rw [Array.getD_eq_getD_getElem?, show xe.cells[i]? = some u by rw [Array.getElem?_eq_getElem (by simpa using hi)]; simpa using e]; rfl
      rwa [e2] at h5
    have hst := run_storeCells_at P bb off e xe.cells.toList 0 vals w hb (by simp; omega) hone
    simp only [Nat.add_zero, Array.length_toList] at hst
    have hsize : xe.cells.size = ti.size := by omega
    generalize hnew : (vals.toList.take off ++ xe.cells.toList ++ vals.toList.drop (off + xe.cells.size)).toArray = newv at hst
    have hrun : (execOp (Act.eval ⟨tmps, ds⟩) o).run P w = .ok .skip (w.setRow bb newv) := by
      simp [execOp, ho, hae, hxe, Instr.storeAt, Instr.sureAddr, storeVar, run_sizeOf_ti hti, hsize, hst]
    refine wpIn_run hF (by simp [ho]) ?_
    rw [hrun]
    show Mid P n K w N L R tmps ds _ (Act.put ⟨tmps, ds⟩ o.dst undef) _
    rw [hd]
    have hheap : (w.setRow bb newv).heap[bb]? = some (.cells newv e (0, 0)) := setRow_heap w bb vals newv e (0, 0) hb
    have hoth : ∀ b, b ≠ bb → (w.setRow bb newv).heap[b]? = w.heap[b]? := fun b hne => setRow_other w bb b newv hne
    have hkeep : Keeps L w (w.setRow bb newv) := fun b o' u hl' hu => by
      rw [cell_of_heap (hoth b (by rintro rfl; exact hL _ hl'))]; exact hu
    have hws : ∀ {u : V} {c : Value} {S : Blocks}, RepV P w N L (Tof tmps γ) u c S → ¬ S bb → RepV P (w.setRow bb newv) N L (Tof tmps γ) u c S := fun hu hS =>
      hu.world (by simp) (fun b hb' => hoth b (by rintro rfl; exact hS hb')) hr.NL hkeep (fun _ _ h => h) (fun _ _ h => h) (fun _ _ _ h => h) (fun _ _ _ h => h)
    have hnsz : newv.size = vals.size := by rw [← hnew]; simp; omega
    refine ⟨_, N, L, γ, R, rfl, ⟨?_, by rw [upd_keys]; exact hr.nd, hr.dis, by simpa using hr.lt, hr.NL, by simpa using hr.Llt⟩, hn, rfl, fun _ _ => rfl, ⟨rfl, rfl, rfl, by simp, fun b _ hS => hoth b (by rintro rfl; exact hS ⟨l, hRb⟩), hkeep, fun _ _ h => h, fun _ _ h => h, fun _ _ h => .inl h, fun _ _ h => .inl h⟩, fun _ h => .inl h⟩
    intro s u hmem
    rcases upd_mem hr.nd hmem with ⟨rfl, rfl, _⟩ | ⟨hmem, hne⟩
    · refine ⟨_, ht, .bx e _ bb newv _ hheap ?_ ?_ ?_ hL hRb⟩
      all_goals
        have key : CellsRep P w N L (Tof tmps γ) (VL.splice cs off (cellsV v)) newv := by
          refine CellsRep.splice (vals := vals) (xs := xe.cells) ⟨hl, hc, hrep⟩ ⟨k1, k2, k3⟩ (by omega) hnsz (fun i => ?_)
          rw [← hnew]
          simp only [List.getElem?_toArray, List.append_assoc, List.getElem?_append, List.length_take, Array.length_toList]
          by_cases c1 : i < off
          · rw [if_pos (by omega), if_neg (by omega), List.getElem?_take, if_pos c1]; simp
          · rw [if_neg (by omega), show min off vals.size = off by omega]
            by_cases c2 : i - off < xe.cells.size
            · rw [if_pos c2, if_pos (by omega)]; simp
            · rw [if_neg c2, if_neg (by omega), List.getElem?_drop]
              rw [show off + xe.cells.size + (i - off - xe.cells.size) = i by omega]; simp
      · exact key.1
      · exact key.2.1
      · exact fun i u hi => hws (key.2.2 i u hi) (fun h => h.elim)
    · obtain ⟨cu, m1, m2⟩ := hr.rep _ _ hmem
      exact ⟨cu, m1, hws m2 (fun h => hr.dis _ _ _ hne h hRb)⟩
theorem OpTo.extract (hF : Wide F) {u i : Nat} (ho : o.op = .extract (.tmp u) i) {vs : List V} (hlk : look E (.s u) = some (.tu vs)) {v : V} (hv : vs[i]? = some v) (hp : plain v = true) (hs : setO n K o.dst v E = some E') : OpTo P F n K o E E' :=
  .pure hF (by simp [ho]) hs fun w N L γ R tmps ds hr hn => by
    obtain ⟨c, h1, h2⟩ := hr.rep _ _ (look_mem hlk)
    cases h2 with
    | tu _ vals _ hl h =>
      have hi : i < vals.size := by rw [← hl]; exact (List.getElem?_eq_some_iff.1 hv).1
      have hno : isOwned v = false := by cases v <;> first | rfl | cases hp
      refine ⟨vals.getD i undef, ?_, fun S => (h i v hv).plain hno S⟩
      have hx : vals[i]? = some (vals.getD i undef) := by rw [Array.getD_eq_getD_getElem?, Array.getElem?_eq_getElem hi]; rfl
      simp only [execOp, ho, eval_tmp h1, Instr.extract, hx]
      rfl
theorem OpTo.nil (hF : Wide F) {e : Nat} (ho : o.op = .assign (.const (.slice none 0 0))) (hs : setO n K o.dst (.row true e []) E = some E') : OpTo P F n K o E E' :=
  .pure hF (by simp [ho]) hs fun w N L γ R tmps ds hr hn => ⟨.slice none 0 0, by simp [execOp, ho, Act.eval], fun S => .rownil true e S⟩
theorem OpTo.assign (hF : Wide F) {x : Operand} (ho : o.op = .assign x) {v : V} (hx : copyO E x = some v) (hs : setO n K o.dst v E = some E') : OpTo P F n K o E E' :=
  .pure hF (by simp [ho]) hs fun w N L γ R tmps ds hr hn => ⟨_, by simp [execOp, ho], fun S => copyO_ok hr hx ds S⟩
end
end Go.Proofs.VL
namespace Go.Proofs.VL
open Go Go.RowKit
variable {P : Program}
section
variable {F : Fence} {n : Nat} {K : List Nat} {o : Oper} {E E' : Env} {τ : Nat → Option TI}
theorem OpTo.arith (hF : Wide F) {op : BinOp} {t t' : Nat} {x y : Operand} (ho : o.op = .binOp op t x y t') {k : IntKind} {a b : Int} (hx : copyO E x = some (.d (.sc (.int k a)))) (hy : copyO E y = some (.d (.sc (.int k b)))) {r : Int} (hr : arI k op a b = some r)
    (hs : setO n K o.dst (.d (.sc (.int k r))) E = some E') : OpTo P F n K o E E' :=
  .pure hF (by simp [ho]) hs fun w N L γ R tmps ds hre hn => by
    have h1 := scV (copyO_ok hre hx ds none_)
    have h2 := scV (copyO_ok hre hy ds none_)
    refine ⟨.int k r, ?_, fun S => .d _ _ _ (.sc _ rfl)⟩
    cases op <;> simp only [arI, Option.some.injEq, reduceCtorEq] at hr <;> subst hr <;> simp [execOp, ho, h1, h2, eqGuard, binOp, Op.intArith]
theorem OpTo.convert (hF : Wide F) {src dst : Nat} {x : Operand} (ho : o.op = .convert src dst x) {si ti : TI} (hsi : mkTI P src = some si) (hti : mkTI P dst = some ti) {k' k : IntKind} {y : Int} (hk : ti.kind = .int k) (hx : copyO E x = some (.d (.sc (.int k' y))))
    (hs : setO n K o.dst (.d (.sc (.int k (k.wrap y)))) E = some E') : OpTo P F n K o E E' :=
  .pure hF (by simp [ho]) hs fun w N L γ R tmps ds hre hn => by
    have h1 := scV (copyO_ok hre hx ds none_)
    refine ⟨.int k (k.wrap y), ?_, fun S => .d _ _ _ (.sc _ rfl)⟩
    obtain ⟨i, d, z, m1, m2, m3, m4, m5, m6, _⟩ := mkTI_ok hsi
    simp only [execOp, ho, h1]
    have hd : P.underlying dst = some (.int k) := int_of hti hk
    have : (Go.convert src dst (Value.int k' y)).run P w = .ok (.int k (k.wrap y)) w := by
      simp [Go.convert, run_underlying m2, run_underlying hd, Conv.intToInt]
    rw [Sem.run_bind, this]
    rfl
theorem step_bin (hF : Wide F) (hτ : ∀ t ti, τ t = some ti → mkTI P t = some ti) {op : BinOp} {t t' : Nat} {x y : Operand} (ho : o.op = .binOp op t x y t') {a b v : V} (hx : copyO E x = some a) (hy : copyO E y = some b) (hb : binV τ op t a b = some v) (hs : setO n K o.dst v E = some E') : OpTo P F n K o E E' := by
  unfold binV at hb
  split at hb
  · split at hb
    · rename_i hk
      subst hk
      split at hb
      · rename_i r hr
        cases hb
        exact .cmp hF ho hx hy hr hs
      · split at hb
        · rename_i r hr
          cases hb
          exact .arith hF ho hx hy hr hs
        · cases hb
    · cases hb
  · split at hb
    · rename_i ti hti
      split at hb
      · rename_i hk
        cases hb
        exact .eqBool hF ho hx hy (hτ _ _ hti) hk (.inl ⟨rfl, rfl⟩) hs
      · rename_i hk
        cases hb
        exact .eqBool hF ho hx hy (hτ _ _ hti) hk (.inr ⟨rfl, rfl⟩) hs
      · cases hb
    · cases hb
  · split at hb
    · cases hb; exact .eqStr hF ho hx hy (.inl ⟨rfl, rfl⟩) hs
    · cases hb; exact .eqStr hF ho hx hy (.inr ⟨rfl, rfl⟩) hs
    · cases hb
  · split at hb
    · rename_i ti hti
      split at hb
      · rename_i h1 h2 h3
        cases hb; exact .eqAgg hF hτ ho hx hy hti h1 h2 h3 (.inl ⟨rfl, rfl⟩) hs
      · rename_i h1 h2 h3
        cases hb; exact .eqAgg hF hτ ho hx hy hti h1 h2 h3 (.inr ⟨rfl, rfl⟩) hs
      · cases hb
    · cases hb
  · cases hb
theorem step_store (hF : Wide F) (hτ : ∀ t ti, τ t = some ti → mkTI P t = some ti) {t : Nat} {a x : Operand} (ho : o.op = .store t a x) (h : (match ptrO E a, τ t, copyO E x, o.dst with
      | some (.box l e cs off), some ti, some v, none => (match (cellsV v).length == ti.size && Nat.ble (off + ti.size) cs.length, l with
          | true, .s b => forceL (splice cs off (cellsV v)) fun cs' => force (bringIf ((cellsV v).any isRef) b off (cellsV v).length (upd (.s b) (.bx e cs') E)) some
          | _, _ => none)
      | _, _, _, _ => none) = some E') : OpTo P F n K o E E' := by
  split at h
  · rename_i l e cs off ti v h1 h2 h3 h4
    split at h
    · rename_i b hc
      simp only [Bool.and_eq_true, beq_iff_eq, Nat.ble_eq] at hc
      rw [forceL_eq, force_eq] at h
      cases h
      exact (OpTo.store hF ho h4 (hτ _ _ h2) h1 h3 hc.1 hc.2).ent (Ent.bringIf _ _ _ _)
    · cases h
  · cases h
theorem OpTo.moveT (hF : Wide F) {x : Operand} (ho : o.op = .move x) {v : V} (hx : tupO E x = some v) (hs : setO n K o.dst v E = some E') : OpTo P F n K o E E' :=
  .pure hF (by simp [ho]) hs fun w N L γ R tmps ds hr hn => by
    cases x with
    | tmp t =>
      simp only [tupO] at hx
      split at hx
      · rename_i vs hlk
        split at hx
        · cases hx
          obtain ⟨c, h1, h2⟩ := hr.rep _ _ (look_mem hlk)
          exact ⟨c, by simp [execOp, ho, eval_tmp h1], fun S => h2.plain rfl S⟩
        · cases hx
      · cases hx
    | _ => cases hx
theorem pickO_ok {w : World} {N L : Cells} {γ : Gh} {R : Loc → Blocks} {tmps : Array Value} (hr : Rel P w N L tmps γ R E) {x : Operand} {v : V} (hx : pickO E x = some v) (ds : List Deferred) (S : Blocks) : RepV P w N L (Tof tmps γ) v (Act.eval ⟨tmps, ds⟩ x) S := by
  unfold pickO at hx
  split at hx
  · cases hx; exact .kt S
  · cases hx; exact .kf S
  · exact copyO_ok hr hx ds S
theorem OpTo.pickT' (hF : Wide F) {c a b : Operand} (ho : o.op = .pick c a b) (hc : getO E c = some .kt) {v : V} (hx : pickO E a = some v) (hs : setO n K o.dst v E = some E') : OpTo P F n K o E E' :=
  .pure hF (by simp [ho]) hs fun w N L γ R tmps ds hr hn => by
    obtain ⟨S, hk⟩ := getO_ok hr hc ds
    refine ⟨Act.eval ⟨tmps, ds⟩ a, ?_, fun S => pickO_ok hr hx ds S⟩
    generalize hce : Act.eval ⟨tmps, ds⟩ c = cv at hk
    cases hk
    simp [execOp, ho, hce, asBool]
theorem OpTo.pickF' (hF : Wide F) {c a b : Operand} (ho : o.op = .pick c a b) (hc : getO E c = some .kf) {v : V} (hx : pickO E b = some v) (hs : setO n K o.dst v E = some E') : OpTo P F n K o E E' :=
  .pure hF (by simp [ho]) hs fun w N L γ R tmps ds hr hn => by
    obtain ⟨S, hk⟩ := getO_ok hr hc ds
    refine ⟨Act.eval ⟨tmps, ds⟩ b, ?_, fun S => pickO_ok hr hx ds S⟩
    generalize hce : Act.eval ⟨tmps, ds⟩ c = cv at hk
    cases hk
    simp [execOp, ho, hce, asBool]
theorem valO_ok (hF : Wide F) (hτ : ∀ t ti, τ t = some ti → mkTI P t = some ti) {v : V} (h : valO τ E o = some v) (hs : setO n K o.dst v E = some E') : OpTo P F n K o E E' := by
  cases ho : o.op with
  | move x =>
    simp only [valO, ho] at h
    split at h
    · rename_i u hu
      cases h
      exact .move hF ho hu hs
    · exact .moveT hF ho h hs
  | assign x =>
    simp only [valO, ho] at h
    split at h
    · split at h
      · split at h
        · cases h; exact .nil hF ho hs
        · cases h
      · cases h
    · exact .assign hF ho h hs
  | pick c a b =>
    simp only [valO, ho] at h
    split at h
    · rename_i hc; exact .pickT' hF ho hc h hs
    · rename_i hc; exact .pickF' hF ho hc h hs
    · cases h
  | alloc e =>
    simp only [valO, ho] at h
    split at h
    · rename_i ti hti; cases h; exact .alloc hF ho (hτ _ _ hti) hs
    · cases h
  | box e x =>
    simp only [valO, ho] at h
    split at h
    · split at h
      · rename_i v ti hv hti _ hc; cases h; exact .box hF ho hv hs
      · cases h
    · cases h
  | build t ps =>
    simp only [valO, ho] at h
    split at h
    · rename_i ti hti
      split at h
      · rename_i offs ts hk
        split at h
        · cases h
        · rename_i hall
          split at h
          · rename_i cs hcs; cases h; exact .buildS hF hτ ho hti hk hall hcs hs
          · cases h
      · rename_i len e hk
        split at h
        · rename_i ui hui
          split at h
          · rename_i cs hcs; cases h; exact .buildA hF hτ ho hti hk hui hcs hs
          · cases h
        · cases h
      · cases h
    · cases h
  | load t a =>
    simp only [valO, ho] at h
    split at h
    · rename_i l e cs off ti hp hti
      split at h
      · rename_i v hc hv
        cases h
        simp only [Bool.and_eq_true, beq_iff_eq] at hc
        exact .loadBox hF ho (hτ _ _ hti) hp hc.1 hv hs hc.2
      · cases h
    · rename_i cs off ti hp hti
      split at h
      · rename_i v hc hv
        cases h
        exact .loadRo hF ho (hτ _ _ hti) hp (by simpa using hc) hv hs
      · cases h
    · cases h
  | nilCheck x =>
    simp only [valO, ho] at h
    split at h
    · rename_i v h1 h2; cases h; exact .nilCheck hF ho h1 h2 hs
    · cases h
  | binOp op t x y t' =>
    simp only [valO, ho] at h
    split at h
    · rename_i a b ha hb; exact step_bin hF hτ ho ha hb h hs
    · cases h
  | convert src dst x =>
    simp only [valO, ho] at h
    split at h
    · rename_i k y u ti hx hu hti
      split at h
      · rename_i k' hk
        cases h
        exact .convert hF ho (hτ _ _ hu) (hτ _ _ hti) hk hx hs
      · cases h
    · cases h
  | unOp op t x =>
    cases op with
    | not =>
      simp only [valO, ho] at h
      split at h
      · split at h
        · rename_i v hv _ b hb; cases h; exact .not hF ho hv hb hs
        · cases h
      · cases h
    | _ => simp [valO, ho] at h
  | fieldAddr t x f =>
    simp only [valO, ho] at h
    split at h
    · rename_i ti hti
      split at h
      · rename_i offs ts hk
        split at h
        · rename_i off u h1 h2
          split at h
          · rename_i ui hui
            split at h
            · rename_i v hz hv
              cases h
              exact .fieldAddr hF ho (hτ _ _ hti) (hτ _ _ hui) hk h1 h2 (by simpa using hz) hv hs
            · cases h
          · cases h
        · cases h
      · cases h
    · cases h
  | field t x f =>
    simp only [valO, ho] at h
    split at h
    · rename_i ti cs hti hx
      split at h
      · rename_i offs ts hk
        split at h
        · rename_i off u h1 h2
          split at h
          · rename_i ui hui
            split at h
            · rename_i v hc hv
              cases h
              simp only [Bool.and_eq_true, beq_iff_eq] at hc
              exact .field hF ho (hτ _ _ hti) (hτ _ _ hui) hk h1 h2 hx hc.1 hc.2 hv hs
            · cases h
          · cases h
        · cases h
      · cases h
    · cases h
  | extract x i =>
    cases x with
    | tmp u =>
      simp only [valO, ho] at h
      split at h
      · rename_i vs hlk
        split at h
        · rename_i v hv
          split at h
          · rename_i hp
            cases h
            exact .extract hF ho hlk hv hp hs
          · cases h
        · cases h
      · cases h
    | _ => simp [valO, ho] at h
  | makeFunc f first caps =>
    cases f with
    | func f =>
      simp only [valO, ho] at h
      split at h
      · rename_i vs h1 h2; cases h; exact .makeFunc hF ho h1 h2 hs
      · cases h
    | _ => simp [valO, ho] at h
  | call c =>
    have hc : c.callee = .builtin .len := by
      obtain ⟨callee, args, ats⟩ := c
      cases callee with
      | builtin b => cases b <;> first | rfl | simp [valO, ho] at h
      | _ => simp [valO, ho] at h
    have h2 : (match c.args.toList, c.argTypes.toList with
    | [x], [t] => (match lenO E x, τ t with
      | some xs, some ti => (match ti.kind with | .slice _ => some (V.d (.sc (.int .i64 xs.length))) | _ => none)
      | _, _ => none)
    | _, _ => none) = some v := by
      obtain ⟨callee, args, ats⟩ := c
      simp only at hc
      subst hc
      simp only [valO, ho] at h
      exact h
    split at h2
    · rename_i x t ha ht
      split at h2
      · rename_i xs ti hx hti
        split at h2
        · rename_i e hk; cases h2; exact .len hF ho hc ha ht (hτ _ _ hti) hk hx hs
        · cases h2
      · cases h2
    · cases h2
  | _ => simp [valO, ho] at h
theorem step_ok (hF : Wide F) (hτ : ∀ t ti, τ t = some ti → mkTI P t = some ti) (h : step τ n K E o = some E') : OpTo P F n K o E E' := by
  unfold step at h
  split at h
  · rename_i v hv
    rw [forceV_eq] at h
    split at h
    · rename_i E1 h1
      split at h
      · rw [force_eq] at h
        cases h
        exact (valO_ok hF hτ hv h1).ent (Ent.take _)
      · cases h
        exact valO_ok hF hτ hv h1
    · cases h
  · split at h
    · rename_i ho; exact step_store hF hτ ho h
    · cases h
theorem AL.opS (hF : Wide F) {ops : Array Oper} {l : List Oper} {Q : Env → Prop} {j d : Nat} {want : Bool} {oj : Oper} {v : V} (hg : o.guard = some (j, want)) (hj : ops[j]? = some oj) (hd : oj.dst = some d) (hlk : look E (.s d) = some v)
    (hv : v = .tu [] ∨ ∃ b, boolV v = some b ∧ b ≠ want) (hs : setO n K o.dst (.tu []) E = some E') (h : AL P F n K ops l Q E') : AL P F n K ops (o :: l) Q E := by
  intro w N L γ R tmps ds hr hn
  have hw : Region.wanted o (yielded ops tmps) = false := by
    simp only [Region.wanted, hg]
    rcases hv with rfl | ⟨b, hb, hne⟩
    · obtain ⟨c, h1, h2⟩ := hr.rep _ _ (look_mem hlk)
      have h1' : tmps[d]? = some c := h1
      cases h2
      simp [yielded, hj, hd, h1']
    · rw [yielded_of hr hj hd hlk hb]
      simpa using hne
  simp only [wpListIn, hw, Bool.false_eq_true, if_false]
  refine ⟨fun f _ => hF.fn f, ?_⟩
  rcases setO_cases hs with ⟨h0, rfl⟩ | ⟨e, h0, hd, hK, hm, rfl⟩
  · rw [h0]; exact (At.start hr hn).continueL h
  · rw [h0]
    have hp := hr.put (d := e) (v := .tu []) (c := undef) (by rw [hn]; exact hd) hm (.tu [] #[] _ rfl (fun i v hi => by simp at hi))
    refine At.continueL (N1 := N) (L1 := L) (γ1 := γ) (R1 := R) ⟨hp, by simp [Act.put, hn], rfl, fun k hk => ?_, Later.refl .., fun _ h => .inl h⟩ h
    have : k ≠ e := by rintro rfl; first | exact hK hk | (simp at hK; exact hK hk)
    simp [Act.put, Array.getElem?_setIfInBounds_ne (Ne.symm this)]
theorem AL.steps (hF : Wide F) (hτ : ∀ t ti, τ t = some ti → mkTI P t = some ti) {ops : Array Oper} {Q : Env → Prop} {rest : List Oper} : ∀ {l : List Oper} {E : Env}, VL.steps τ n K ops E l = (E', rest) → AL P F n K ops rest Q E' → AL P F n K ops l Q E := by
  intro l
  induction l with
  | nil => intro E h hq; cases h; exact hq
  | cons o l ih =>
    intro E h hq
    have stuck : ((E, o :: l) : Env × List Oper) = (E', rest) → AL P F n K ops (o :: l) Q E := by
      intro h; cases h; exact hq
    unfold VL.steps at h
    split at h
    · rename_i hg
      split at h
      · rename_i E1 h1; exact .op hg (step_ok hF hτ h1) (ih h hq)
      · exact stuck h
    · rename_i j want hg
      split at h
      case h_2 => exact stuck h
      rename_i oj hj
      split at h
      case h_2 => exact stuck h
      rename_i d hd
      split at h
      · rename_i hlk
        split at h
        · split at h
          · rename_i E1 h1; exact .opT hg hj hd hlk rfl (step_ok hF hτ h1) (ih h hq)
          · exact stuck h
        · split at h
          · rename_i E1 h1; exact .opS hF hg hj hd hlk (.inr ⟨true, rfl, by decide⟩) h1 (ih h hq)
          · exact stuck h
      · rename_i hlk
        split at h
        · split at h
          · rename_i E1 h1; exact .opT hg hj hd hlk rfl (step_ok hF hτ h1) (ih h hq)
          · exact stuck h
        · split at h
          · rename_i E1 h1; exact .opS hF hg hj hd hlk (.inr ⟨false, rfl, by decide⟩) h1 (ih h hq)
          · exact stuck h
      · rename_i hlk
        split at h
        · rename_i E1 h1; exact .opS hF hg hj hd hlk (.inl rfl) h1 (ih h hq)
        · exact stuck h
      · exact stuck h
end
end Go.Proofs.VL
