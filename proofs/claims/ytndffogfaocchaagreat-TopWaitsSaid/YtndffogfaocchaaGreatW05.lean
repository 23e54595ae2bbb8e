import Derived.Test.YtndffogfaocchaaGreatW04
set_option linter.unusedVariables false
set_option linter.unusedSimpArgs false
set_option linter.unusedSectionVars false
namespace Go.Proofs.VL
open Go Go.RowKit
variable {P : Program}
def VD : V → Option D | .d x => some x | .kt => some (.sc (.bool true)) | .kf => some (.sc (.bool false)) | _ => none
def VDs : List V → Option (List D)
  | [] => some []
  | v :: vs => match VD v, VDs vs with | some d, some ds => some (d :: ds) | _, _ => none
theorem VD_ok {w : World} {N L : Cells} {T : Loc → Option Value} {v : V} {c : Value} {S : Blocks} {d : D} (h : RepV P w N L T v c S) (hd : VD v = some d) : RepD w N d c := by
  cases h <;> simp [VD] at hd
  case d => subst hd; assumption
  case kt => subst hd; exact .sc _ rfl
  case kf => subst hd; exact .sc _ rfl
theorem VDs_get : ∀ {vs : List V} {ds : List D}, VDs vs = some ds → ds.length = vs.length ∧ ∀ (i : Nat) (d : D), ds[i]? = some d → ∃ v, vs[i]? = some v ∧ VD v = some d := by
  intro vs
  induction vs with
  | nil => intro ds h; cases h; exact ⟨rfl, fun i d hi => by simp at hi⟩
  | cons v vs ih =>
    intro ds h
    simp only [VDs] at h
    split at h
    · rename_i d ds' h1 h2
      cases h
      obtain ⟨k1, k2⟩ := ih h2
      refine ⟨by simp [k1], fun i d' hi => ?_⟩
      cases i with
      | zero => simp at hi; subst hi; exact ⟨v, rfl, h1⟩
      | succ i => simpa using k2 i d' (by simpa using hi)
    · cases h
def cellsO (E : Env) (x : Operand) : Option (List D) := match argO E x with
  | some v => (match v with | .tu _ => none | v => VDs (cellsV v))
  | none => none
theorem cellsO_mono {E E' : Env} (hs : Sub E E') {x : Operand} {ds} (h : cellsO E x = some ds) : cellsO E' x = some ds := by
  unfold cellsO at h ⊢
  split at h
  · rename_i h1; rw [argO_mono hs h1]; exact h
  · cases h
theorem cellsO_ok {w : World} {N L : Cells} {γ : Gh} {R : Loc → Blocks} {tmps : Array Value} {E : Env} (hr : Rel P w N L tmps γ R E) {x : Operand} {xs : List D} (h : cellsO E x = some xs) (ds : List Deferred) :
    xs.length = (Act.eval ⟨tmps, ds⟩ x).cells.size ∧ (∀ u ∈ (Act.eval ⟨tmps, ds⟩ x).cells.toList, u.oneCell' = true) ∧ ∀ (i : Nat) (d : D), xs[i]? = some d → RepD w N d ((Act.eval ⟨tmps, ds⟩ x).cells.getD i undef) := by
  unfold cellsO at h
  split at h
  · rename_i v hv
    have h1 := (argO_ok hr hv ds none_).2
    split at h
    · cases h
    · rename_i _ hnt
      have hown : isOwned v = false := by
        cases v <;> first | rfl | (simp only [cellsV, VDs, VD] at h; cases h)
      obtain ⟨k1, k2, k3⟩ := cellsV_ok h1 hown (fun vs e => hnt vs e)
      obtain ⟨m1, m2⟩ := VDs_get h
      have hall : ∀ (i : Nat) (d : D), xs[i]? = some d → RepD w N d ((Act.eval ⟨tmps, ds⟩ x).cells.getD i undef) := fun i d hi => by
        obtain ⟨u, hu, hud⟩ := m2 i d hi
        exact VD_ok (k3 i u hu) hud
      refine ⟨by omega, fun u hu => ?_, hall⟩
      obtain ⟨i, hi, e⟩ := List.getElem_of_mem hu
      have hi' : i < xs.length := by have : i < (Act.eval ⟨tmps, ds⟩ x).cells.size := (by simpa using hi); omega
      have h5 := (hall i _ (List.getElem?_eq_getElem hi')).oneCell
      have e2 : (Act.eval ⟨tmps, ds⟩ x).cells.getD i undef = u := by
        rw [Array.getD_eq_getD_getElem?, show (Act.eval ⟨tmps, ds⟩ x).cells[i]? = some u by rw [Array.getElem?_eq_getElem (by simpa using hi)]; simpa using e]; rfl
      rwa [e2] at h5
  · cases h
section
variable {F : Fence} {n : Nat} {K : List Nat} {o : Oper} {E E' : Env} {τ : Nat → Option TI}
def moreC (N : Cells) (b : Nat) (Z : Nat → Prop) : Cells := fun b' x => N b' x ∨ (b' = b ∧ Z x)
theorem Rel.freeze {w : World} {N L : Cells} {γ : Gh} {R : Loc → Blocks} {tmps : Array Value} (hr : Rel P w N L tmps γ R E) {l : Loc} {b : Nat} {Z : Nat → Prop} (hb : R l b) {v : V} {u0 : V} (hlk : look E l = some u0)
    (hv : ∀ c, Tof tmps γ l = some c → RepV P w N L (Tof tmps γ) u0 c (R l) → RepV P w (moreC N b Z) (moreC L b Z) (Tof tmps γ) v c none_) :
    Rel P w (moreC N b Z) (moreC L b Z) tmps γ (fun x => if x = l then none_ else R x) (VL.upd l v E) ∧ Later w N L (St R) w (moreC N b Z) (moreC L b Z) ∧ ∀ x, St (fun x => if x = l then none_ else R x) x → St R x := by
  refine ⟨⟨?_, by rw [upd_keys]; exact hr.nd, ?_, ?_, ?_, ?_⟩, ⟨rfl, rfl, rfl, Nat.le_refl _, fun _ _ _ => rfl, fun _ _ _ _ h => h, fun _ _ h => .inl h, fun _ _ h => .inl h, fun b' o h => ?_, fun b' o h => ?_⟩, ?_⟩
  · intro s u hm
    rcases upd_mem hr.nd hm with ⟨rfl, rfl, _⟩ | ⟨hm, hne⟩
    · obtain ⟨c, h1, h2⟩ := hr.rep _ _ (look_mem hlk)
      exact ⟨c, h1, by simpa using hv c h1 h2⟩
    · obtain ⟨c, h1, h2⟩ := hr.rep _ _ hm
      refine ⟨c, h1, ?_⟩
      rw [if_neg hne]
      refine h2.world (Nat.le_refl _) (fun _ _ => rfl) hr.NL (fun _ _ _ _ h => h) (fun _ _ h => .inl h) (fun _ _ h => .inl h) (fun b' x hb' h => ?_) (fun b' x hb' h => ?_)
      · rcases h with h | ⟨rfl, _⟩
        · exact h
        · exact absurd hb (hr.dis _ _ _ hne hb')
      · rcases h with h | ⟨rfl, _⟩
        · exact h
        · exact absurd hb (hr.dis _ _ _ hne hb')
  · intro a a' x hab ha ha'
    split at ha
    · exact ha
    · split at ha'
      · exact ha'
      · exact hr.dis _ _ _ hab ha ha'
  · intro l' x hx
    split at hx
    · exact hx.elim
    · exact hr.lt _ _ hx
  · intro b' o h
    rcases h with h | h
    · exact .inl (hr.NL _ _ h)
    · exact .inr h
  · intro b' o h
    rcases h with h | ⟨rfl, _⟩
    · exact hr.Llt _ _ h
    · exact hr.lt _ _ hb
  · rcases h with h | ⟨rfl, _⟩
    · exact .inl h
    · exact .inr (.inl ⟨_, hb⟩)
  · rcases h with h | ⟨rfl, _⟩
    · exact .inl h
    · exact .inr (.inl ⟨_, hb⟩)
  · rintro x ⟨l', hx⟩
    split at hx
    · exact hx.elim
    · exact ⟨_, hx⟩
theorem Ent.row {l : Loc} {m : Bool} {e : Nat} {xs : List (List D)} (hlk : look E l = some (.row m e xs)) : Ent P E (VL.upd l (.d (.sl xs)) E) := by
  intro w N L γ R tmps hr
  obtain ⟨c, h1, h2⟩ := hr.rep _ _ (look_mem hlk)
  cases h2 with
  | row _ _ _ b cap k bl cv _ hb hs hcap hcm hl he hk hc hrd hm hm' hm2 hm3 hRb =>
    have := hr.freeze (Z := fun x => x < xs.length * k) hRb (v := .d (.sl xs)) hlk (fun c' hc' _ => by
      rw [h1] at hc'
      cases hc'
      refine .d _ _ _ (.sl xs b 0 k cap cv hl hcap hk (fun i j hi hj => ⟨.inr ⟨rfl, ?_⟩, ?_⟩) (fun i j cs d hi hj => (hrd i j cs d hi hj).mono (fun _ _ h => .inl h) (fun _ _ _ _ h => h)))
      · rw [Nat.zero_add]
        have : (i + 1) * k ≤ xs.length * k := Nat.mul_le_mul_right _ hi
        rw [Nat.add_mul] at this
        omega
      · simp only [World.cell?, hb, Nat.zero_add]
        exact hc i j hi hj)
    exact ⟨_, _, γ, _, this.1, this.2.1, this.2.2⟩
  | rownil =>
    refine ⟨N, L, γ, R, hr.upd (fun c' hc' => ?_), Later.refl .., fun _ h => h⟩
    rw [h1] at hc'
    cases hc'
    exact .d _ _ _ (.nil _ _)
theorem Ent.box {l : Loc} {e : Nat} {cs : List V} {xs : List D} (hlk : look E l = some (.bx e cs)) (hd : VDs (cs.map (deref1 E)) = some xs) : Ent P E (VL.upd l (.rp xs 0) E) := by
  intro w N L γ R tmps hr
  obtain ⟨c, h1, h2⟩ := hr.rep _ _ (look_mem hlk)
  obtain ⟨b, vals, rfl, hb, hl, hc, hrep, hL, hRb⟩ := bx_inv h2
  obtain ⟨k1, k2⟩ := VDs_get hd
  have := hr.freeze (Z := fun x => x < xs.length) hRb (v := .rp xs 0) hlk (fun c' hc' _ => by
    rw [h1] at hc'
    cases hc'
    refine .rp xs 0 b 0 (fun j => vals.getD j undef) _ (fun j hj => ⟨.inr ⟨rfl, by omega⟩, ?_⟩) (fun j d hj => ?_)
    · simp only [World.cell?, hb, Nat.zero_add]
      simp only [List.length_map] at k1
      exact getD_of (by omega)
    · obtain ⟨v, hv, hvd⟩ := k2 j d hj
      simp only [List.getElem?_map, Option.map_eq_some_iff] at hv
      obtain ⟨u, hu, rfl⟩ := hv
      exact (VD_ok (deref1_ok hr (hrep j u hu)) hvd).mono (fun _ _ h => .inl h) (fun _ _ _ _ h => h))
  exact ⟨_, _, γ, _, this.1, this.2.1, this.2.2⟩
def dead : V := .raw fun _ _ _ _ => True
theorem rep_dead {w : World} {N L : Cells} {T : Loc → Option Value} {c : Value} (hc : c.oneCell' = true) (S : Blocks) : RepV P w N L T dead c S := .raw _ _ _ hc fun _ _ _ _ _ _ _ => trivial
def frz (l : Loc) (E : Env) : Option Env := match look E l with
  | some (.row _ _ xs) => some (upd l (.d (.sl xs)) E)
  | some (.bx _ cs) => (match VDs (cs.map (deref1 E)) with | some xs => some (upd l (.rp xs 0) E) | none => none)
  | _ => none
def frzs : List Loc → Env → Option Env
  | [], E => some E
  | l :: ls, E => match frz l E with | some E' => force E' (frzs ls) | none => none
theorem Ent.frz {l : Loc} (h : VL.frz l E = some E') : Ent P E E' := by
  unfold VL.frz at h
  split at h
  · rename_i hlk; cases h; exact .row hlk
  · rename_i hlk
    split at h
    · rename_i hd; cases h; exact .box hlk hd
    · cases h
  · cases h
theorem Ent.frzs : ∀ {ls : List Loc} {E : Env}, VL.frzs ls E = some E' → Ent P E E' := by
  intro ls
  induction ls with
  | nil => intro E h; cases h; exact .refl
  | cons l ls ih =>
    intro E h
    simp only [VL.frzs] at h
    split at h
    · rename_i E1 h1
      rw [force_eq] at h
      exact (Ent.frz h1).trans (ih h)
    · cases h
theorem OpTo.storeE (hF : Wide F) {t u : Nat} {x : Operand} (ho : o.op = .store t (.tmp u) x) (hd : o.dst = none) {ti : TI} (hti : mkTI P t = some ti) {l : Loc} {y : Nat} (hu : look E (.s u) = some (.elt l y)) {e : Nat} {xs : List (List D)} (hl : look E l = some (.row true e xs))
    {i q : Nat} {cs new : List D} (hi : xs[i]? = some cs) (hxq : y = i * cs.length + q) (hx : cellsO E x = some new) (hn : new.length = ti.size) (hq : q + ti.size ≤ cs.length) : OpTo P F n K o E (VL.upd l (.row true e (xs.set i (cs.take q ++ new ++ cs.drop (q + ti.size)))) E) := by
  intro w N L γ R tmps ds hr hsz
  obtain ⟨c, h1, h2⟩ := hr.rep _ _ (look_mem hu)
  obtain ⟨c2, h3, h4⟩ := hr.rep _ _ (look_mem hl)
  obtain ⟨k1, k2, k3⟩ := cellsO_ok hr hx ds
  generalize hxe : Act.eval ⟨tmps, ds⟩ x = xe at k1 k2 k3
  cases h2 with
  | elt _ _ b nn cap _ hT =>
    rw [hT] at h3
    cases h3
    cases h4 with
    | row _ _ _ b cap kk bl cv _ hb hs hcap hcm hll he hkk hc hrd hm hm' hm2 hm3 hRb =>
      have hlt : i < xs.length := (List.getElem?_eq_some_iff.1 hi).1
      have hkc := hkk i cs hi
      subst hkc
      have hmul : (i + 1) * cs.length ≤ cap * cs.length := Nat.mul_le_mul_right _ (by omega)
      rw [Nat.add_mul, Nat.one_mul] at hmul
      have hst := run_storeCells_at P b y e xe.cells.toList 0 bl w hb (by simp; omega) k2
      simp only [Nat.add_zero, Array.length_toList] at hst
      have hsize : xe.cells.size = ti.size := by omega
      generalize hnew : (bl.toList.take y ++ xe.cells.toList ++ bl.toList.drop (y + xe.cells.size)).toArray = newv at hst
      have hrun : (execOp (Act.eval ⟨tmps, ds⟩) o).run P w = .ok .skip (w.setRow b newv) := by
        simp [execOp, ho, eval_tmp h1, hxe, Instr.storeAt, Instr.sureAddr, storeVar, run_sizeOf_ti hti, hsize, hst]
      refine wpIn_run hF (by simp [ho]) ?_
      rw [hrun]
      show Mid P n K w N L R tmps ds _ (Act.put ⟨tmps, ds⟩ o.dst undef) _
      rw [hd]
      have hheap : (w.setRow b newv).heap[b]? = some (.cells newv e (0, 0)) := setRow_heap w b bl newv e (0, 0) hb
      have hoth : ∀ b', b' ≠ b → (w.setRow b newv).heap[b']? = w.heap[b']? := fun b' hne => setRow_other w b b' newv hne
      have hkeep : Keeps L w (w.setRow b newv) := fun b' o' u hl' hu => by
        rw [cell_of_heap (hoth b' (by rintro rfl; exact hm rfl _ hl'))]; exact hu
      have hnget : ∀ j, newv[j]? = if j < y then bl[j]? else if j < y + xe.cells.size then xe.cells[j - y]? else bl[j]? := by
        intro j
        rw [← hnew]
        simp only [List.getElem?_toArray, List.append_assoc, List.getElem?_append, List.length_take, Array.length_toList]
        by_cases c1 : j < y
        · rw [if_pos (by omega), if_pos c1, List.getElem?_take, if_pos c1]; simp
        · rw [if_neg (by omega), if_neg c1, show min y bl.size = y by omega]
          by_cases c2 : j - y < xe.cells.size
          · rw [if_pos c2, if_pos (by omega)]; simp
          · rw [if_neg c2, if_neg (by omega), List.getElem?_drop]
            rw [show y + xe.cells.size + (j - y - xe.cells.size) = j by omega]; simp
      have hnsz : newv.size = bl.size := by rw [← hnew]; simp; omega
      refine ⟨_, N, L, γ, R, rfl, ⟨?_, by rw [upd_keys]; exact hr.nd, hr.dis, by simpa using hr.lt, hr.NL, by simpa using hr.Llt⟩, hsz, rfl, fun _ _ => rfl, ⟨rfl, rfl, rfl, by simp, fun b' _ hS => hoth b' (by rintro rfl; exact hS ⟨l, hRb⟩), hkeep, fun _ _ h => h, fun _ _ h => h, fun _ _ h => .inl h, fun _ _ h => .inl h⟩, fun _ h => .inl h⟩
      intro s u' hmem
      rcases upd_mem hr.nd hmem with ⟨rfl, rfl, _⟩ | ⟨hmem, hne⟩
      · have hlenset : (xs.set i (cs.take q ++ new ++ cs.drop (q + ti.size))).length = xs.length := by simp
        have hcsl : (cs.take q ++ new ++ cs.drop (q + ti.size)).length = cs.length := by simp; omega
        refine ⟨_, hT, ?_⟩
        rw [← hlenset]
        refine .row true e _ b cap cs.length newv (fun i' j => newv.getD (i' * cs.length + j) undef) _ hheap (by omega) (by omega) hcm (by omega) he ?_ ?_ ?_ hm (by simp) (by simp) (by simp) hRb
        · intro i' cs' hi'
          rw [List.getElem?_set] at hi'
          split at hi'
          · rename_i hii
            subst hii
            first
              | (rw [if_pos hlt] at hi'; cases hi'; exact hcsl)
              | (cases hi'; exact hcsl)
          · exact hkk i' cs' hi'
        · intro i' j hi' hj
          refine getD_of ?_
          have : (i' + 1) * cs.length ≤ cap * cs.length := Nat.mul_le_mul_right _ (by omega)
          rw [Nat.add_mul, Nat.one_mul] at this
          omega
        · intro i' j cs' d hi' hj
          have hold : ∀ (cs'' : List D), xs[i']? = some cs'' → cs''[j]? = some d → newv[i' * cs.length + j]? = bl[i' * cs.length + j]? → RepD (w.setRow b newv) N d (newv.getD (i' * cs.length + j) undef) := by
            intro cs'' hxs hcs hne'
            have hlt' : i' < xs.length := (List.getElem?_eq_some_iff.1 hxs).1
            have hj2 : j < cs.length := by rw [← hkk i' cs'' hxs]; exact (List.getElem?_eq_some_iff.1 hcs).1
            have : newv.getD (i' * cs.length + j) undef = cv i' j := by
              rw [Array.getD_eq_getD_getElem?, hne', hc i' j hlt' hj2]; rfl
            rw [this]
            exact (hrd i' j cs'' d hxs hcs).mono (fun _ _ h => h) (fun b' o' u h1 h2 => hkeep b' o' u (hr.NL _ _ h1) h2)
          rw [List.getElem?_set] at hi'
          split at hi'
          · rename_i hii
            subst hii
            first
              | (rw [if_pos hlt] at hi'; cases hi')
              | cases hi'
            rw [List.getElem?_append] at hj
            split at hj
            · rename_i c1
              rw [List.getElem?_append] at hj
              split at hj
              · rename_i c2
                rw [List.getElem?_take] at hj
                split at hj
                · rename_i c3
                  refine hold cs hi hj ?_
                  rw [hnget, if_pos (by omega)]
                · cases hj
              · rename_i c2
                have e1 : min q cs.length = q := by omega
                simp only [List.length_take, List.length_append, e1] at c1 c2 hj
                have e3 : newv.getD (i * cs.length + j) undef = xe.cells.getD (j - q) undef := by
                  rw [Array.getD_eq_getD_getElem?, Array.getD_eq_getD_getElem?, hnget, if_neg (by omega), if_pos (by omega)]
                  rw [show i * cs.length + j - y = j - q by omega]
                rw [e3]
                exact (k3 _ _ hj).mono (fun _ _ h => h) (fun b' o' u h1 h2 => hkeep b' o' u (hr.NL _ _ h1) h2)
            · rename_i c1
              have e1 : min q cs.length = q := by omega
              simp only [List.length_take, List.length_append, e1] at c1 hj
              rw [List.getElem?_drop] at hj
              rw [show q + ti.size + (j - (q + new.length)) = j by omega] at hj
              refine hold cs hi hj ?_
              rw [hnget, if_neg (by omega), if_neg (by omega)]
          · rename_i hii
            refine hold cs' hi' hj ?_
            have hlt' : i' < xs.length := (List.getElem?_eq_some_iff.1 hi').1
            have hj2 : j < cs.length := by rw [← hkk i' cs' hi']; exact (List.getElem?_eq_some_iff.1 hj).1
            rw [hnget]
            rcases Nat.lt_or_ge i' i with hlt2 | hge
            · have : (i' + 1) * cs.length ≤ i * cs.length := Nat.mul_le_mul_right _ hlt2
              rw [Nat.add_mul, Nat.one_mul] at this
              rw [if_pos (by omega)]
            · have : (i + 1) * cs.length ≤ i' * cs.length := Nat.mul_le_mul_right _ (by omega)
              rw [Nat.add_mul, Nat.one_mul] at this
              rw [if_neg (by omega), if_neg (by omega)]
      · obtain ⟨cu, m1, m2⟩ := hr.rep _ _ hmem
        exact ⟨cu, m1, m2.world (by simp) (fun b' hb' => hoth b' (by rintro rfl; exact hr.dis _ _ _ hne hb' hRb)) hr.NL hkeep (fun _ _ h => h) (fun _ _ h => h) (fun _ _ _ h => h) (fun _ _ _ h => h)⟩
end
end Go.Proofs.VL
namespace Go.Proofs.VL
open Go Go.RowKit
variable {P : Program}
theorem row_mk {w : World} {N L : Cells} {T : Loc → Option Value} {e b cap k : Nat} {xs : List (List D)} {bl : Array Value} {R : Blocks} (hb : w.heap[b]? = some (.cells bl e (0, 0))) (hs : bl.size = cap * k) (hcap : xs.length ≤ cap) (hcm : cap ≤ maxLen) (hl : xs.length ≤ lim)
    (he : (P.info? e).map (·.size) = some k) (hk : ∀ (i : Nat) (cs : List D), xs[i]? = some cs → cs.length = k)
    (hr : ∀ (i j : Nat) (cs : List D) (d : D), xs[i]? = some cs → cs[j]? = some d → RepD w N d (bl.getD (i * k + j) undef)) (hm : ∀ x, ¬ L b x) (hR : R b) : RepV P w N L T (.row true e xs) (.slice (some ⟨b, 0, none⟩) xs.length cap) R :=
  .row true e xs b cap k bl (fun i j => bl.getD (i * k + j) undef) R hb hs hcap hcm hl he hk (fun i j hi hj => getD_of (by
    have : (i + 1) * k ≤ cap * k := Nat.mul_le_mul_right _ (by omega)
    rw [Nat.add_mul, Nat.one_mul] at this
    omega)) hr (fun _ => hm) (by simp) (by simp) (by simp) hR
def Src (w : World) (N : Cells) (k : Nat) (ys : List (List D)) (c : Value) : Prop :=
  ∃ p cap, c = .slice p ys.length cap ∧ (p = none → ys = []) ∧ (∀ cs ∈ ys, cs.length = k) ∧
    ∀ a, p = some a → ∃ news : List Value, news.length = ys.length * k ∧ (∀ j u, news[j]? = some u → w.cell? (a.add j) = some u) ∧ (∀ u ∈ news, u.oneCell' = true) ∧
      ∀ (i j : Nat) (cs : List D) (d : D), ys[i]? = some cs → cs[j]? = some d → RepD w N d (news.getD (i * k + j) undef)
theorem Src.mk {w : World} {N : Cells} {k : Nat} {ys : List (List D)} {b o cap : Nat} {cv : Nat → Nat → Value} (hk : ∀ cs ∈ ys, cs.length = k)
    (hc : ∀ i j : Nat, i < ys.length → j < k → w.cell? ⟨b, o + i * k + j, none⟩ = some (cv i j)) (hr : ∀ (i j : Nat) (cs : List D) (d : D), ys[i]? = some cs → cs[j]? = some d → RepD w N d (cv i j)) :
    Src w N k ys (.slice (some ⟨b, o, none⟩) ys.length cap) := by
  refine ⟨_, cap, rfl, by simp, hk, fun a ha => ?_⟩
  cases ha
  have hdm : ∀ j, j < ys.length * k → j / k < ys.length ∧ j % k < k ∧ j / k * k + j % k = j := by
    intro j hj
    have hk0 : 0 < k := by rcases Nat.eq_zero_or_pos k with h | h; (subst h; simp at hj); exact h
    exact ⟨Nat.div_lt_of_lt_mul (by rwa [Nat.mul_comm]), Nat.mod_lt _ hk0, Nat.div_add_mod' j k⟩
  refine ⟨(List.range (ys.length * k)).map fun j => cv (j / k) (j % k), by simp, fun j u hj => ?_, fun u hu => ?_, fun i j cs d hi hj => ?_⟩
  · simp only [List.getElem?_map, Option.map_eq_some_iff] at hj
    obtain ⟨j', hj', rfl⟩ := hj
    have hj'' := List.getElem?_eq_some_iff.1 hj'
    obtain ⟨hlt, hval⟩ := hj''
    simp at hlt hval
    subst hval
    obtain ⟨h1, h2, h3⟩ := hdm j hlt
    rw [add_none]
    have := hc _ _ h1 h2
    rwa [Nat.add_assoc, h3] at this
  · simp only [List.mem_map, List.mem_range] at hu
    obtain ⟨j, hj, rfl⟩ := hu
    obtain ⟨h1, h2, h3⟩ := hdm j hj
    have hcs := hk ys[j / k] (List.getElem_mem h1)
    exact (hr (j / k) (j % k) ys[j / k] (ys[j / k][j % k]'(by omega)) (List.getElem?_eq_getElem h1) (List.getElem?_eq_getElem _)).oneCell
  · have hi' := (List.getElem?_eq_some_iff.1 hi).1
    have hcs := hk cs (List.mem_of_getElem? hi)
    have hj' : j < k := by rw [← hcs]; exact (List.getElem?_eq_some_iff.1 hj).1
    have hlt : i * k + j < ys.length * k := by
      have : (i + 1) * k ≤ ys.length * k := Nat.mul_le_mul_right _ hi'
      rw [Nat.add_mul, Nat.one_mul] at this
      omega
    have : ((List.range (ys.length * k)).map fun j => cv (j / k) (j % k)).getD (i * k + j) undef = cv i j := by
      rw [List.getD_eq_getElem?_getD, List.getElem?_map, List.getElem?_range hlt]
      simp only [Option.map_some, Option.getD_some]
      rw [show (i * k + j) / k = i by rw [Nat.mul_comm, Nat.mul_add_div (by omega), Nat.div_eq_of_lt hj']; simp, show (i * k + j) % k = j by rw [Nat.mul_comm, Nat.mul_add_mod, Nat.mod_eq_of_lt hj']]
    rw [this]
    exact hr i j cs d hi hj
theorem Src.nil {w : World} {N : Cells} (k : Nat) (p : Option Addr) (cap : Nat) : Src w N k [] (.slice p 0 cap) :=
  ⟨p, cap, rfl, fun _ => rfl, by simp, fun a _ => ⟨[], by simp, by simp, by simp, by simp⟩⟩
theorem Src.data {w : World} {N : Cells} {k : Nat} {ys : List (List D)} {d : D} {c : Value} (hd : d = .sl ys ∨ (d = .nl ∧ ys = [])) (h : RepD w N d c) (hk : ∀ cs ∈ ys, cs.length = k) : Src w N k ys c := by
  rcases hd with rfl | ⟨rfl, rfl⟩
  · cases h with
    | nil p cap => exact .nil k p cap
    | sl _ b o k' cap cv hl hcap hk' hc hr =>
      cases ys with
      | nil => exact .nil k _ cap
      | cons y ys =>
        have e : k' = k := by rw [← hk' 0 y rfl]; exact hk y (.head _)
        subst e
        exact .mk hk (fun i j hi hj => (hc i j hi hj).2) hr
  · cases h; exact .nil k none 0
theorem Src.row {w : World} {N L : Cells} {T : Loc → Option Value} {k : Nat} {m : Bool} {e : Nat} {ys : List (List D)} {c : Value} {S : Blocks} (h : RepV P w N L T (.row m e ys) c S) (he : (P.info? e).map (·.size) = some k) : Src w N k ys c := by
  cases h with
  | row _ _ _ b cap k' bl cv _ hb hs hcap hcm hl he' hk hc hrd hm hm' hm2 hm3 hRb =>
    rw [he] at he'
    cases he'
    refine .mk (fun cs hcs => ?_) (fun i j hi hj => ?_) hrd
    · obtain ⟨i, hi⟩ := List.mem_iff_getElem?.1 hcs
      exact hk i cs hi
    · simp only [World.cell?, hb, Nat.zero_add]
      exact hc i j hi hj
  | rownil => exact .nil k none 0
theorem run_append_none {t ty e : Nat} {i : TypeInfo} (ht : P.underlying t = some (.slice e)) (hi : P.info? e = some i) (base : Option Addr) (n cap c : Nat) (hn : n ≤ cap) (w : World) :
    (Builtin.append_ #[t, t] ty #[.slice base n cap, .slice none 0 c]).run P w = .ok (.slice base n cap) w := by
  cases base <;> simp [Builtin.append_, run_underlying ht, sizeOf, typeInfo, hi, Builtin.lenOf, hn, Builtin.firstCells, storeCells]
def Grown (P : Program) (w w' : World) (N L : Cells) (e k : Nat) (zs : List (List D)) (S : Blocks) (c' : Value) : Prop :=
  (c' = .slice none 0 0 ∧ zs = [] ∧ w' = w) ∨ ∃ g cap bl, c' = .slice (some ⟨g, 0, none⟩) zs.length cap ∧ w'.heap[g]? = some (.cells bl e (0, 0)) ∧ bl.size = cap * k ∧ zs.length ≤ cap ∧ cap ≤ maxLen ∧ (∀ cs ∈ zs, cs.length = k) ∧
    (∀ (i j : Nat) (cs : List D) (d : D), zs[i]? = some cs → cs[j]? = some d → RepD w' N d (bl.getD (i * k + j) undef)) ∧ ((S g ∧ w'.heap.size = w.heap.size) ∨ (g = w.heap.size ∧ w'.heap.size = w.heap.size + 1))
theorem append_sem {w : World} {N L : Cells} {T : Loc → Option Value} {t ty e : Nat} {ti ui : TI} (hti : mkTI P t = some ti) (hk : ti.kind = .slice e) (hui : mkTI P e = some ui) {m : Bool} {xs ys : List (List D)} {c cy : Value} {S : Blocks}
    (hx : RepV P w N L T (.row m e xs) c S) (hy : Src w N ui.size ys cy) (hlen : xs.length + ys.length ≤ lim) (hby : (xs.length + ys.length) * ui.bytes ≤ 140737488355328) (hNL : ∀ b o, N b o → L b o) (hLlt : ∀ b o, L b o → b < w.heap.size) :
    ∃ c' w', (Builtin.append_ #[t, t] ty #[c, cy]).run P w = .ok c' w' ∧ Later w N L (fun b => S b ∧ c.ownBlock = some b) w' N L ∧ Grown P w w' N L e ui.size (xs ++ ys) (fun b => S b ∧ c.ownBlock = some b) c' := by
  obtain ⟨i, d, z, m1, m2, m3, m4, m5, m6, m7, _⟩ := mkTI_ok hui
  have hzs : z.cells.size = i.size := by have := (toDs_get m4).1; simp at this; omega
  have ht := slice_of hti hk
  obtain ⟨p, capy, rfl, hpn, hyk, hsrc⟩ := hy
  have hinf : (P.info? e).map (·.size) = some ui.size := by rw [m1]; simp [m6]
  have refl' : ∀ S : Blocks, Later w N L S w N L := fun S => Later.refl w N L S
  cases p with
  | none =>
    have hys := hpn rfl
    subst hys
    simp only [List.append_nil, List.length_nil]
    cases hx with
    | row _ _ _ b cap k bl cv _ hb hs hcap hcm hl he hkk hc hrd hm hm' hm2 hm3 hRb =>
      rw [hinf] at he
      cases he
      refine ⟨_, w, run_append_none ht m1 _ _ _ _ hcap w, refl' _, .inr ⟨b, cap, bl, rfl, hb, hs, hcap, hcm, fun cs hcs => ?_, fun i' j cs d hi hj => ?_, .inl ⟨⟨hRb, rfl⟩, rfl⟩⟩⟩
      · obtain ⟨j, hj⟩ := List.mem_iff_getElem?.1 hcs
        exact hkk j cs hj
      · have hlt := (List.getElem?_eq_some_iff.1 hi).1
        have hj' : j < ui.size := by rw [← hkk i' cs hi]; exact (List.getElem?_eq_some_iff.1 hj).1
        have e3 : bl.getD (i' * ui.size + j) undef = cv i' j := by rw [Array.getD_eq_getD_getElem?, hc i' j hlt hj']; rfl
        rw [e3]
        exact hrd i' j cs d hi hj
    | rownil => exact ⟨_, w, run_append_none ht m1 none 0 0 _ (Nat.le_refl _) w, refl' _, .inl ⟨rfl, rfl, rfl⟩⟩
  | some a =>
    obtain ⟨news, n1, n2, n3, n4⟩ := hsrc a rfl
    rw [← m6] at n1 n4 hyk hinf
    -- a new row of the cells olds ++ news
    have grown : ∀ (S : Blocks) (olds : List Value) (old : Nat), olds.length = xs.length * i.size → old < xs.length + ys.length → (∀ cs ∈ xs, cs.length = i.size) →
        (∀ (i' j : Nat) (cs : List D) (d : D), xs[i']? = some cs → cs[j]? = some d → RepD w N d (olds.getD (i' * i.size + j) undef)) →
        let w' := w.drew.alloc (.cells (olds.toArray ++ news.toArray ++ Builtin.zeroCells z.cells (grownCap w (xs.length + ys.length) old e - (xs.length + ys.length))) e)
        Later w N L S w' N L ∧ Grown P w w' N L e i.size (xs ++ ys) S (.slice (some ⟨w.heap.size, 0, none⟩) (xs.length + ys.length) (grownCap w (xs.length + ys.length) old e)) := by
      intro S olds old ho holt hxk hxr w'
      have hla : ∀ S : Blocks, Later w N L S w' N L := fun S => ⟨rfl, rfl, rfl, by simp [w'], fun b hb _ => heap_alloc_old w.drew _ hb, fun b o v hl hv => by
          rw [cell_of_heap (w := w.drew) (heap_alloc_old w.drew _ (hLlt b o hl))]; exact hv, fun _ _ h => h, fun _ _ h => h, fun _ _ h => .inl h, fun _ _ h => .inl h⟩
      have hge := grownCap_ge w (xs.length + ys.length) old e
      have hmax : lim ≤ maxLen := by decide
      have hcm := grownCap_le_maxLen w (xs.length + ys.length) old e (by omega)
      refine ⟨hla S, .inr ⟨w.heap.size, _, _, by rw [List.length_append], heap_alloc_at w.drew _, ?_, by simpa using hge, by simpa using hcm, fun cs hcs => ?_, fun i' j cs d hi hj => ?_, .inr ⟨rfl, by simp [w']⟩⟩⟩
      · simp only [Array.size_append, List.size_toArray, size_zeroCells, hzs, ho, n1, ← Nat.add_mul]
        congr 1
        omega
      · rcases List.mem_append.1 hcs with h | h
        · exact hxk cs h
        · exact hyk cs h
      · have hget : ∀ q, q < olds.length + news.length → (olds.toArray ++ news.toArray ++ Builtin.zeroCells z.cells (grownCap w (xs.length + ys.length) old e - (xs.length + ys.length))).getD q undef = if q < olds.length then olds.getD q undef else news.getD (q - olds.length) undef := by
          intro q hq
          rw [Array.getD_eq_getD_getElem?, Array.getElem?_append_left (by simpa using hq), Array.getElem?_append]
          simp only [List.size_toArray, List.getElem?_toArray, List.getD_eq_getElem?_getD]
          split <;> rfl
        rw [List.getElem?_append] at hi
        split at hi
        · rename_i hlt
          have hcs := hxk cs (List.mem_of_getElem? hi)
          have hj' : j < i.size := by rw [← hcs]; exact (List.getElem?_eq_some_iff.1 hj).1
          have : (i' + 1) * i.size ≤ xs.length * i.size := Nat.mul_le_mul_right _ hlt
          rw [Nat.add_mul, Nat.one_mul] at this
          rw [hget _ (by omega), if_pos (by omega)]
          exact (hxr i' j cs d hi hj).mono (fun _ _ h => h) (fun b o v h1 h2 => (hla none_).keeps b o v (hNL _ _ h1) h2)
        · rename_i hge'
          have hcs := hyk cs (List.mem_of_getElem? hi)
          have hj' : j < i.size := by rw [← hcs]; exact (List.getElem?_eq_some_iff.1 hj).1
          have hlt := (List.getElem?_eq_some_iff.1 hi).1
          have : (i' - xs.length + 1) * i.size ≤ ys.length * i.size := Nat.mul_le_mul_right _ hlt
          rw [Nat.add_mul, Nat.one_mul] at this
          have h2 : i' * i.size = xs.length * i.size + (i' - xs.length) * i.size := by rw [← Nat.add_mul]; congr 1; omega
          rw [hget _ (by omega), if_neg (by omega), show i' * i.size + j - olds.length = (i' - xs.length) * i.size + j by omega]
          exact (n4 (i' - xs.length) j cs d hi hj).mono (fun _ _ h => h) (fun b o v h1 h2 => (hla none_).keeps b o v (hNL _ _ h1) h2)
    have h63 : ((xs.length + ys.length : Nat) : Int) ≤ 9223372036854775807 := by
      have : lim ≤ 9223372036854775807 := by decide
      omega
    rw [← m6]
    cases hx with
    | rownil =>
      by_cases hy0 : ys = []
      · subst hy0
        have hn0 : news = [] := List.eq_nil_of_length_eq_zero (by simpa using n1)
        subst hn0
        refine ⟨.slice none 0 0, w, ?_, refl' _, .inl ⟨rfl, rfl, rfl⟩⟩
        simp [Builtin.append_, run_underlying ht, sizeOf, typeInfo, m1, Builtin.lenOf, Builtin.firstCells, loadCells, loadCellsFrom]
      · have hpos : 0 < ys.length := List.length_pos_iff.2 hy0
        have hr := run_append_nil (P := P) w t ty e i z ht m1 m3 a ys.length capy news n1 n2 hpos (by simpa using h63) (by rw [m7]; simp at hby; omega)
        have hg := grown (fun b => S b ∧ (Value.slice none 0 0).ownBlock = some b) [] 0 (by simp) (by simpa using hpos) (by simp) (by simp)
        simp only [List.nil_append, List.length_nil, Nat.zero_add, Array.empty_append] at hg hr ⊢
        exact ⟨_, _, hr, hg.1, hg.2⟩
    | row _ _ _ b cap k bl cv _ hb hs hcap hcm hl he hkk hc hrd hm hm' hm2 hm3 hRb =>
      have e2 : k = i.size := by rw [hinf] at he; cases he; rfl
      subst e2
      have hxk : ∀ cs ∈ xs, cs.length = i.size := fun cs hcs => by
        obtain ⟨j, hj⟩ := List.mem_iff_getElem?.1 hcs
        exact hkk j cs hj
      have hmulx : xs.length * i.size ≤ cap * i.size := Nat.mul_le_mul_right _ hcap
      by_cases hroom : xs.length + ys.length ≤ cap
      · have hmul : (xs.length + ys.length) * i.size ≤ cap * i.size := Nat.mul_le_mul_right _ hroom
        rw [Nat.add_mul] at hmul
        have hr := run_append_room (P := P) w t ty e i ht m1 b xs.length cap bl hb a ys.length capy news n1 n2 n3 hroom (by omega)
        generalize hnew : (bl.toList.take (xs.length * i.size) ++ news ++ bl.toList.drop (xs.length * i.size + news.length)).toArray = newv at hr
        have hget? : ∀ q : Nat, q < xs.length * i.size → newv[q]? = bl[q]? := by
          intro q hq
          rw [← hnew]
          simp only [List.getElem?_toArray, List.append_assoc, List.getElem?_append, List.length_take, Array.length_toList]
          rw [if_pos (by omega), List.getElem?_take, if_pos hq]; simp
        have hoth : ∀ b', b' ≠ b → (w.setRow b newv).heap[b']? = w.heap[b']? := fun b' hne => setRow_other w b b' newv hne
        have hkeep : Keeps L w (w.setRow b newv) := fun b' o' u hl' hu => by
          by_cases hbb : b' = b
          · subst hbb
            cases m with
            | true => exact absurd hl' (hm rfl _)
            | false =>
              have hlt := hm' rfl _ (hm3 rfl _ hl')
              simp only [World.cell?, hb] at hu
              simp only [World.cell?, setRow_heap w b' bl newv e (0, 0) hb]
              rw [hget? _ hlt]; exact hu
          · rw [cell_of_heap (hoth b' hbb)]; exact hu
        refine ⟨_, _, hr, ⟨rfl, rfl, rfl, by simp, fun b' _ hS => hoth b' (by rintro rfl; exact hS ⟨hRb, rfl⟩), hkeep, fun _ _ h => h, fun _ _ h => h, fun _ _ h => .inl h, fun _ _ h => .inl h⟩, .inr ⟨b, cap, newv, by rw [List.length_append], setRow_heap w b bl newv e (0, 0) hb, ?_, by simpa using hroom, hcm, fun cs hcs => ?_, fun i' j cs d hi hj => ?_, .inl ⟨⟨hRb, rfl⟩, by simp⟩⟩⟩
        · rw [← hnew]; simp; omega
        · rcases List.mem_append.1 hcs with h | h
          · exact hxk cs h
          · exact hyk cs h
        · have hget : ∀ q, newv.getD q undef = if q < xs.length * i.size then bl.getD q undef else if q < xs.length * i.size + news.length then news.getD (q - xs.length * i.size) undef else bl.getD q undef := by
            intro q
            rw [← hnew]
            simp only [Array.getD_eq_getD_getElem?, List.getElem?_toArray, List.append_assoc, List.getElem?_append, List.length_take, Array.length_toList, List.getD_eq_getElem?_getD]
            by_cases c1 : q < xs.length * i.size
            · rw [if_pos (by omega), if_pos c1, List.getElem?_take, if_pos c1]; simp
            · rw [if_neg (by omega), if_neg c1, show min (xs.length * i.size) bl.size = xs.length * i.size by omega]
              by_cases c2 : q - xs.length * i.size < news.length
              · rw [if_pos c2, if_pos (by omega)]
              · rw [if_neg c2, if_neg (by omega), List.getElem?_drop]
                rw [show xs.length * i.size + news.length + (q - xs.length * i.size - news.length) = q by omega]; simp
          rw [List.getElem?_append] at hi
          split at hi
          · rename_i hlt
            have hcs := hxk cs (List.mem_of_getElem? hi)
            have hj' : j < i.size := by rw [← hcs]; exact (List.getElem?_eq_some_iff.1 hj).1
            have : (i' + 1) * i.size ≤ xs.length * i.size := Nat.mul_le_mul_right _ hlt
            rw [Nat.add_mul, Nat.one_mul] at this
            rw [hget, if_pos (by omega)]
            have e3 : bl.getD (i' * i.size + j) undef = cv i' j := by rw [Array.getD_eq_getD_getElem?, hc i' j hlt hj']; rfl
            rw [e3]
            exact (hrd i' j cs d hi hj).mono (fun _ _ h => h) (fun b o v h1 h2 => hkeep b o v (hNL _ _ h1) h2)
          · rename_i hge'
            have hcs := hyk cs (List.mem_of_getElem? hi)
            have hj' : j < i.size := by rw [← hcs]; exact (List.getElem?_eq_some_iff.1 hj).1
            have hlt := (List.getElem?_eq_some_iff.1 hi).1
            have : (i' - xs.length + 1) * i.size ≤ ys.length * i.size := Nat.mul_le_mul_right _ hlt
            rw [Nat.add_mul, Nat.one_mul] at this
            have h2 : i' * i.size = xs.length * i.size + (i' - xs.length) * i.size := by rw [← Nat.add_mul]; congr 1; omega
            rw [hget, if_neg (by omega), if_pos (by omega), show i' * i.size + j - xs.length * i.size = (i' - xs.length) * i.size + j by omega]
            exact (n4 (i' - xs.length) j cs d hi hj).mono (fun _ _ h => h) (fun b o v h1 h2 => hkeep b o v (hNL _ _ h1) h2)
      · have hol : (bl.toList.take (xs.length * i.size)).length = xs.length * i.size := by simp; omega
        have hcell : ∀ j u, (bl.toList.take (xs.length * i.size))[j]? = some u → w.cell? ((⟨b, 0, none⟩ : Addr).add j) = some u := by
          intro j u hj
          rw [List.getElem?_take] at hj
          split at hj
          · rw [add_none]
            simp only [World.cell?, hb, Nat.zero_add]
            simpa using hj
          · cases hj
        have hr := run_append_grow (P := P) w t ty e i z ht m1 m3 ⟨b, 0, none⟩ xs.length cap _ hol hcell a ys.length capy news n1 n2 (by omega) h63 (growslice_fits (by omega) (by rw [m7]; exact hby))
        have hg := grown (fun b' => S b' ∧ (Value.slice (some ⟨b, 0, none⟩) xs.length cap).ownBlock = some b') (bl.toList.take (xs.length * i.size)) cap hol (by omega) hxk (fun i' j cs d hi hj => by
          have hlt := (List.getElem?_eq_some_iff.1 hi).1
          have hcs := hkk i' cs hi
          have hj' : j < i.size := by rw [← hcs]; exact (List.getElem?_eq_some_iff.1 hj).1
          have : (i' + 1) * i.size ≤ xs.length * i.size := Nat.mul_le_mul_right _ hlt
          rw [Nat.add_mul, Nat.one_mul] at this
          have e3 : (bl.toList.take (xs.length * i.size)).getD (i' * i.size + j) undef = cv i' j := by
            rw [List.getD_eq_getElem?_getD, List.getElem?_take, if_pos (by omega)]
            have := hc i' j hlt hj'
            simp [this]
          rw [e3]
          exact hrd i' j cs d hi hj)
        exact ⟨_, _, hr, hg.1, hg.2⟩
end Go.Proofs.VL
