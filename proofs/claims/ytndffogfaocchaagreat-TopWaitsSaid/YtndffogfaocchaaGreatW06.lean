import Derived.Test.YtndffogfaocchaaGreatW05
set_option linter.unusedVariables false
set_option linter.unusedSimpArgs false
set_option linter.unusedSectionVars false
namespace Go.Proofs.VL
open Go Go.RowKit
variable {P : Program}
section
variable {F : Fence} {n : Nat} {K : List Nat} {o : Oper} {E E' : Env} {τ : Nat → Option TI}
def srcO (E : Env) (x : Operand) : Option (List (List D)) := match listO E x with
  | some ys => some ys
  | none => (match rowO E x with | some (_, _, _, ys) => some ys | none => none)
inductive Base where
  | own (l : Loc) (m : Bool) (e : Nat) (xs : List (List D))
  | new
def baseO (E : Env) (x : Operand) : Option Base := match rowO E x with
  | some (l, m, e, xs) => some (.own l m e xs)
  | none => (match argO E x with | some (.d .nl) => some .new | _ => none)
def appE (b : Base) (d e : Nat) (ys : List (List D)) (E : Env) : Env := match b with
  | .own l m _ xs => (.s d, .row m e (xs ++ ys)) :: upd l dead E
  | .new => (.s d, .row true e ys) :: E
def Base.xs : Base → List (List D) | .own _ _ _ xs => xs | .new => []
def Base.ok (e : Nat) : Base → Bool | .own _ _ e' _ => Nat.beq e' e | .new => true
theorem Rel.later {w w' : World} {N L N' L' : Cells} {γ : Gh} {R : Loc → Blocks} {tmps : Array Value} (hr : Rel P w N L tmps γ R E) {S : Blocks} (hla : Later w N L S w' N' L') {s : Loc} {u : V} (hm : (s, u) ∈ E) (hS : ∀ x, R s x → ¬ S x) : ∃ c, Tof tmps γ s = some c ∧ RepV P w' N' L' (Tof tmps γ) u c (R s) := by
  obtain ⟨c, h1, h2⟩ := hr.rep s u hm
  refine ⟨c, h1, h2.world hla.size (fun b hb => hla.frame b (hr.lt _ _ hb) (hS b hb)) hr.NL hla.keeps hla.N1 hla.L1 (fun b o hb h => ?_) (fun b o hb h => ?_)⟩
  · rcases hla.N2 b o h with h | h | h
    · exact h
    · exact absurd h (hS b hb)
    · have := hr.lt _ _ hb; omega
  · rcases hla.L2 b o h with h | h | h
    · exact h
    · exact absurd h (hS b hb)
    · have := hr.lt _ _ hb; omega
theorem mid_own {w w' : World} {N L N' L' : Cells} {γ : Gh} {R : Loc → Blocks} {tmps : Array Value} {ds : List Deferred} (hr : Rel P w N L tmps γ R E) (hn : tmps.size = n) {l : Loc} {u0 : V} (hlk : look E l = some u0) (hone : ∀ c, Tof tmps γ l = some c → c.oneCell' = true)
    (hla : Later w N L (R l) w' N' L') {d : Nat} {c : Value} {r : V} {S : Blocks} (hc : ∀ T, RepV P w' N' L' T r c S) (hS : ∀ x, S x → (R l x ∨ w.heap.size ≤ x) ∧ x < w'.heap.size) (hNL : ∀ b o, N' b o → L' b o) (hLlt : ∀ b o, L' b o → b < w'.heap.size)
    (hd : o.dst = some d) (hok : okD n K d r = true) (ha : anyOf (.s d) E = false) : Mid P n K w N L R tmps ds (· = (.s d, r) :: VL.upd l dead E) (Act.put ⟨tmps, ds⟩ o.dst c) w' := by
  simp only [okD, Bool.and_eq_true, Bool.not_eq_true', Nat.blt_eq] at hok
  obtain ⟨⟨hdn, hK⟩, hmen⟩ := hok
  rw [hd]
  have hld : l ≠ .s d := (anyOf_mem ha (look_mem hlk)).1
  let R' : Loc → Blocks := fun z => if z = .s d then S else if z = l then none_ else R z
  have ha' : anyOf (.s d) (VL.upd l dead E) = false := by
    have : ∀ (E : Env), anyOf (.s d) E = false → anyOf (.s d) (VL.upd l dead E) = false := by
      intro E
      induction E with
      | nil => intro h; exact h
      | cons p E ih =>
        obtain ⟨k, u⟩ := p
        intro h
        simp only [anyOf, Bool.or_eq_false_iff] at h
        simp only [VL.upd]
        split
        · simp only [anyOf, Bool.or_eq_false_iff]; exact ⟨⟨h.1.1, rfl⟩, h.2⟩
        · simp only [anyOf, Bool.or_eq_false_iff]; exact ⟨h.1, ih h.2⟩
    exact this E ha
  have hrel : Rel P w' N' L' tmps γ R' (VL.upd l dead E) := by
    refine ⟨fun s u hm => ?_, by rw [upd_keys]; exact hr.nd, fun a b x hab hxa hxb => ?_, fun z x hx => ?_, hNL, hLlt⟩
    · rcases upd_mem hr.nd hm with ⟨rfl, rfl, u1, hu1⟩ | ⟨hm, hne⟩
      · obtain ⟨c, h1, h2⟩ := hr.rep _ _ hu1
        exact ⟨c, h1, rep_dead (hone c h1) _⟩
      · obtain ⟨c, h1, h2⟩ := hr.later hla hm (fun x hx hl => hr.dis _ _ _ hne hx hl)
        have hsd : s ≠ .s d := (anyOf_mem ha hm).1
        exact ⟨c, h1, by simp only [R', if_neg hsd, if_neg hne]; exact h2⟩
    · have aux : ∀ z, z ≠ .s d → R' z x → R z x ∧ z ≠ l := by
        intro z hz h
        simp only [R', if_neg hz] at h
        split at h
        · exact h.elim
        · exact ⟨h, ‹_›⟩
      have one : ∀ z, z ≠ .s d → R' z x → ¬ S x := by
        intro z hz h hs
        obtain ⟨h1, h2⟩ := aux z hz h
        rcases (hS x hs).1 with h3 | h3
        · exact hr.dis _ _ _ h2 h1 h3
        · have := hr.lt _ _ h1; omega
      by_cases ea : a = .s d
      · have eb : b ≠ .s d := fun e => hab (ea.trans e.symm)
        exact one b eb hxb (by simpa [R', ea] using hxa)
      · by_cases eb : b = .s d
        · exact one a ea hxa (by simpa [R', eb] using hxb)
        · exact hr.dis _ _ _ hab (aux a ea hxa).1 (aux b eb hxb).1
    · simp only [R'] at hx
      split at hx
      · exact (hS x hx).2
      · split at hx
        · exact hx.elim
        · exact Nat.lt_of_lt_of_le (hr.lt _ _ hx) hla.size
  have hput := hrel.put (d := d) (v := r) (c := c) (by rw [hn]; exact hdn) hmen (by simp only [R', if_true]; exact hc _)
  rw [show VL.put (.s d) r (VL.upd l dead E) = (.s d, r) :: VL.upd l dead E by simp [VL.put, ha']] at hput
  refine ⟨_, N', L', γ, R', rfl, hput, by simp [Act.put, hn], rfl, fun k hk => ?_, ⟨hla.os, hla.tape, hla.output, hla.size, fun b hb hn => hla.frame b hb (fun h => hn ⟨l, h⟩), hla.keeps, hla.N1, hla.L1, fun b o h => ?_, fun b o h => ?_⟩, fun x hx => ?_⟩
  · have : k ≠ d := by rintro rfl; simp at hK; exact hK hk
    simp [Act.put, Array.getElem?_setIfInBounds_ne (Ne.symm this)]
  · rcases hla.N2 b o h with h | h | h
    · exact .inl h
    · exact .inr (.inl ⟨l, h⟩)
    · exact .inr (.inr h)
  · rcases hla.L2 b o h with h | h | h
    · exact .inl h
    · exact .inr (.inl ⟨l, h⟩)
    · exact .inr (.inr h)
  · obtain ⟨z, hz⟩ := hx
    simp only [R'] at hz
    split at hz
    · rcases (hS x hz).1 with h | h
      · exact .inl ⟨l, h⟩
      · exact .inr h
    · split at hz
      · exact hz.elim
      · exact .inl ⟨z, hz⟩
theorem srcO_ok {w : World} {N L : Cells} {γ : Gh} {R : Loc → Blocks} {tmps : Array Value} (hr : Rel P w N L tmps γ R E) {x : Operand} {ys : List (List D)} (h : srcO E x = some ys) (ds : List Deferred) {k : Nat} (hk : ∀ cs ∈ ys, cs.length = k) (he : ∀ l m e zs, rowO E x = some (l, m, e, zs) → (P.info? e).map (·.size) = some k) : Src w N k ys (Act.eval ⟨tmps, ds⟩ x) := by
  unfold srcO at h
  split at h
  · rename_i zs h1
    cases h
    obtain ⟨d, h2, h3⟩ := listO_ok hr h1 ds
    exact .data h2 h3 hk
  · split at h
    · rename_i l m e zs h1
      cases h
      exact .row (rowO_ok hr h1 ds).2.2 (he _ _ _ _ h1)
    · cases h
def lens (k : Nat) (ys : List (List D)) : Prop := ∀ cs ∈ ys, cs.length = k
def rowE (E : Env) (x : Operand) (e : Nat) : Bool := match rowO E x with | some (_, _, e', _) => Nat.beq e' e | none => true
theorem Later.moreS {w w' : World} {N L N' L' : Cells} {S S' : Blocks} (h : Later w N L S w' N' L') (hs : ∀ b, S b → S' b) : Later w N L S' w' N' L' :=
  ⟨h.os, h.tape, h.output, h.size, fun b hb hn => h.frame b hb (fun h' => hn (hs b h')), h.keeps, h.N1, h.L1, fun b o hb => (h.N2 b o hb).imp id (Or.imp (hs b) id), fun b o hb => (h.L2 b o hb).imp id (Or.imp (hs b) id)⟩
theorem grown_row {w w' : World} {N L : Cells} {T : Loc → Option Value} {e k : Nat} {m : Bool} {xs zs : List (List D)} {c c' : Value} {S0 : Blocks} (hx : RepV P w N L T (.row m e xs) c S0) (he : (P.info? e).map (·.size) = some k) (hz : zs.length ≤ lim) (hxz : xs.length ≤ zs.length)
    (hla : Later w N L (fun b => S0 b ∧ c.ownBlock = some b) w' N L) (hg : Grown P w w' N L e k zs (fun b => S0 b ∧ c.ownBlock = some b) c') (hNL : ∀ b o, N b o → L b o) (hLlt : ∀ b o, L b o → b < w.heap.size) (hSlt : ∀ b, S0 b → b < w.heap.size) :
    ∃ (N' L' : Cells) (S : Blocks), (∀ T, RepV P w' N' L' T (.row m e zs) c' S) ∧ Later w N L S0 w' N' L' ∧ (∀ b o, N' b o → L' b o) ∧ (∀ b o, L' b o → b < w'.heap.size) ∧ ∀ x, S x → (S0 x ∨ w.heap.size ≤ x) ∧ x < w'.heap.size := by
  have hla' := hla.moreS (fun b h => h.1)
  have hLlt' : ∀ b o, L b o → b < w'.heap.size := fun b o h => Nat.lt_of_lt_of_le (hLlt b o h) hla.size
  rcases hg with ⟨rfl, rfl, rfl⟩ | ⟨g, cap, bl, rfl, h1, h2, h3, h4, h5, h6, h7⟩
  · exact ⟨N, L, none_, fun T => .rownil .., hla', hNL, hLlt, fun x h => h.elim⟩
  · have hgS : (S0 g ∨ w.heap.size ≤ g) ∧ g < w'.heap.size := by
      rcases h7 with ⟨h7, h8⟩ | ⟨h7, h8⟩
      · exact ⟨.inl h7.1, by rw [h8]; exact hSlt _ h7.1⟩
      · exact ⟨.inr (by omega), by omega⟩
    have hkk : ∀ (i : Nat) (cs : List D), zs[i]? = some cs → cs.length = k := fun i cs hi => h5 cs (List.mem_of_getElem? hi)
    have hcell : ∀ i j : Nat, i < zs.length → j < k → bl[i * k + j]? = some (bl.getD (i * k + j) undef) := fun i j hi hj => getD_of (by
      have : (i + 1) * k ≤ cap * k := Nat.mul_le_mul_right _ (by omega)
      rw [Nat.add_mul, Nat.one_mul] at this
      omega)
    -- what L has of block g
    have hold : ∀ x, L g x → m = false ∧ N g x ∧ x < zs.length * k := by
      intro x hx'
      rcases h7 with ⟨h7, h8⟩ | ⟨h7, h8⟩
      · cases hx with
        | row _ _ _ b cap' k' bl' cv _ hb hs hcap hcm hl he' hk' hc hrd hm hm' hm2 hm3 hRb =>
          have hgb : b = g := by simpa [Value.ownBlock] using h7.2
          subst hgb
          rw [he] at he'
          cases he'
          cases m with
          | true => exact absurd hx' (hm rfl x)
          | false =>
            have hn := hm3 rfl x hx'
            have := hm' rfl x hn
            have h9 : xs.length * k ≤ zs.length * k := Nat.mul_le_mul_right _ hxz
            exact ⟨rfl, hn, by omega⟩
        | rownil => simp [Value.ownBlock] at h7
      · have := hLlt _ _ hx'; omega
    cases m with
    | true =>
      exact ⟨N, L, fun x => x = g, fun T => row_mk h1 h2 h3 h4 hz he hkk h6 (fun x hx' => by have := (hold x hx').1; cases this) rfl, hla', hNL, hLlt', fun x hx' => hx' ▸ hgS⟩
    | false =>
      refine ⟨moreC N g (· < zs.length * k), moreC L g (· < zs.length * k), fun x => x = g, fun T => .row false e zs g cap k bl (fun i j => bl.getD (i * k + j) undef) _ h1 h2 h3 h4 hz he hkk hcell
        (fun i j cs d hi hj => (h6 i j cs d hi hj).mono (fun _ _ h => .inl h) (fun _ _ _ _ h => h)) (by simp) (fun _ x hx' => ?_) (fun _ x hx' => .inr ⟨rfl, hx'⟩) (fun _ x hx' => ?_) rfl, ?_, ?_, ?_, fun x hx' => hx' ▸ hgS⟩
      · rcases hx' with hx' | hx'
        · exact (hold x (hNL _ _ hx')).2.2
        · exact hx'.2
      · rcases hx' with hx' | hx'
        · exact .inl (hold x hx').2.1
        · exact .inr hx'
      · refine ⟨hla.os, hla.tape, hla.output, hla.size, hla'.frame, hla.keeps, fun _ _ h => .inl h, fun _ _ h => .inl h, fun b o h => ?_, fun b o h => ?_⟩
        · rcases h with h | ⟨rfl, _⟩
          · exact .inl h
          · exact .inr hgS.1
        · rcases h with h | ⟨rfl, _⟩
          · exact .inl h
          · exact .inr hgS.1
      · intro b o h
        rcases h with h | h
        · exact .inl (hNL _ _ h)
        · exact .inr h
      · intro b o h
        rcases h with h | ⟨rfl, _⟩
        · exact hLlt' _ _ h
        · exact hgS.2
theorem OpTo.append (hF : Wide F) {c : Call} (ho : o.op = .call c) (hc : c.callee = .builtin .append) {x y : Operand} (hargs : c.args = #[x, y]) {t : Nat} (hts : c.argTypes = #[t, t]) {ti ui : TI} (hti : mkTI P t = some ti) {e : Nat} (hk : ti.kind = .slice e) (hui : mkTI P e = some ui)
    {b : Base} (hx : baseO E x = some b) (hbe : b.ok e = true) {ys : List (List D)} (hy : srcO E y = some ys) (hye : rowE E y e = true) (hyk : lens ui.size ys) (hlen : b.xs.length + ys.length ≤ lim) (hby : (b.xs.length + ys.length) * ui.bytes ≤ 140737488355328)
    {d : Nat} (hd : o.dst = some d) (hok : okD n K d dead = true) (ha : anyOf (.s d) E = false) : OpTo P F n K o E (appE b d e ys E) := by
  intro w N L γ R tmps ds hr hn
  have hok' : ∀ m xs, okD n K d (.row m e xs) = true := fun m xs => hok
  obtain ⟨i, dd, z, m1, m2, m3, m4, m5, m6, m7, _⟩ := mkTI_ok hui
  have hinf : (P.info? e).map (·.size) = some ui.size := by rw [m1]; simp [m6]
  have hsrc := srcO_ok hr hy ds hyk (fun l m e' zs hrow => by
    simp only [rowE, hrow] at hye
    have := Nat.eq_of_beq_eq_true hye
    subst this
    exact hinf)
  refine wpIn_run hF (by simp [ho]) ?_
  have hrun : (execOp (Act.eval ⟨tmps, ds⟩) o).run P w = ((Builtin.append_ #[t, t] o.type #[Act.eval ⟨tmps, ds⟩ x, Act.eval ⟨tmps, ds⟩ y]).run P w).andThen (fun v w => .ok (.value v) w) := by
    simp [execOp, ho, resolve, hc, hargs, hts, invoke, builtin]
  rw [hrun]
  unfold baseO at hx
  split at hx
  · rename_i l m e' xs hrow
    cases hx
    have := Nat.eq_of_beq_eq_true hbe
    subst this
    obtain ⟨k1, k2, k3⟩ := rowO_ok hr hrow ds
    obtain ⟨c', w', h1, h3, h4⟩ := append_sem (ty := o.type) hti hk hui k3 hsrc hlen hby hr.NL hr.Llt
    obtain ⟨N', L', S, g1, g2, g3, g4, g5⟩ := grown_row k3 hinf (by rw [List.length_append]; exact hlen) (by simp) h3 h4 hr.NL hr.Llt (hr.lt l)
    rw [h1]
    show Mid P n K w N L R tmps ds _ (Act.put ⟨tmps, ds⟩ o.dst c') w'
    have hone : ∀ c, Tof tmps γ l = some c → c.oneCell' = true := fun c hc => by
      rw [k2] at hc; cases hc; exact k3.oneCell rfl
    exact mid_own hr hn k1 hone g2 g1 g5 g3 g4 hd (hok' _ _) ha
  · split at hx
    · rename_i h0
      cases hx
      have hv := (argO_ok hr h0 ds none_).2
      have hev : Act.eval ⟨tmps, ds⟩ x = .slice none 0 0 := by
        generalize Act.eval ⟨tmps, ds⟩ x = q at hv
        cases hv with
        | d _ _ _ h => cases h; rfl
      rw [hev]
      have k3 : RepV P w N L (Tof tmps γ) (.row true e []) (.slice none 0 0) none_ := .rownil true e none_
      obtain ⟨c', w', h1, h3, h4⟩ := append_sem (P := P) (ty := o.type) hti hk hui k3 hsrc (by simpa [Base.xs] using hlen) (by simpa [Base.xs] using hby) hr.NL hr.Llt
      simp only [List.nil_append] at h4
      obtain ⟨N', L', S, g1, g2, g3, g4, g5⟩ := grown_row k3 hinf (by have := hlen; simp only [Base.xs, List.length_nil] at this; omega) (by simp) h3 h4 hr.NL hr.Llt (fun _ h => h.elim)
      rw [h1]
      show Mid P n K w N L R tmps ds _ (Act.put ⟨tmps, ds⟩ o.dst c') w'
      exact mid_ret hr hn g2 g1 (fun x hx => ⟨(g5 x hx).1.resolve_left (fun h => h), (g5 x hx).2⟩) g3 g4 hd (hok' _ _) ha
    · cases hx
theorem Ent.token {l : Loc} {e : Nat} {xs : List (List D)} (hlk : look E l = some (.row true e xs)) : Ent P E (VL.upd l (.row false e xs) E) := by
  intro w N L γ R tmps hr
  obtain ⟨c, h1, h2⟩ := hr.rep _ _ (look_mem hlk)
  cases h2 with
  | row _ _ _ b cap k bl cv _ hb hs hcap hcm hl he hk hc hrd hm hm' hm2 hm3 hRb =>
    refine ⟨moreC N b (· < xs.length * k), moreC L b (· < xs.length * k), γ, R, ⟨?_, by rw [upd_keys]; exact hr.nd, hr.dis, hr.lt, ?_, ?_⟩, ⟨rfl, rfl, rfl, Nat.le_refl _, fun _ _ _ => rfl, fun _ _ _ _ h => h, fun _ _ h => .inl h, fun _ _ h => .inl h, fun b' o h => ?_, fun b' o h => ?_⟩, fun _ h => h⟩
    · intro s u hmem
      rcases upd_mem hr.nd hmem with ⟨rfl, rfl, _⟩ | ⟨hmem, hne⟩
      · refine ⟨_, h1, .row false e xs b cap k bl cv _ hb hs hcap hcm hl he hk hc (fun i j cs d hi hj => (hrd i j cs d hi hj).mono (fun _ _ h => .inl h) (fun _ _ _ _ h => h)) (by simp) (fun _ x hx => ?_) (fun _ x hx => .inr ⟨rfl, hx⟩) (fun _ x hx => ?_) hRb⟩
        · rcases hx with hx | hx
          · exact absurd (hr.NL _ _ hx) (hm rfl x)
          · exact hx.2
        · rcases hx with hx | hx
          · exact absurd hx (hm rfl x)
          · exact .inr hx
      · obtain ⟨cu, m1, m2⟩ := hr.rep _ _ hmem
        refine ⟨cu, m1, m2.world (Nat.le_refl _) (fun _ _ => rfl) hr.NL (fun _ _ _ _ h => h) (fun _ _ h => .inl h) (fun _ _ h => .inl h) (fun b' x hb' h => ?_) (fun b' x hb' h => ?_)⟩
        · rcases h with h | ⟨rfl, _⟩
          · exact h
          · exact absurd hRb (hr.dis _ _ _ hne hb')
        · rcases h with h | ⟨rfl, _⟩
          · exact h
          · exact absurd hRb (hr.dis _ _ _ hne hb')
    · intro b' o h
      rcases h with h | h
      · exact .inl (hr.NL _ _ h)
      · exact .inr h
    · intro b' o h
      rcases h with h | ⟨rfl, _⟩
      · exact hr.Llt _ _ h
      · exact hr.lt _ _ hRb
    · rcases h with h | ⟨rfl, _⟩
      · exact .inl h
      · exact .inr (.inl ⟨_, hRb⟩)
    · rcases h with h | ⟨rfl, _⟩
      · exact .inl h
      · exact .inr (.inl ⟨_, hRb⟩)
  | rownil =>
    refine ⟨N, L, γ, R, hr.upd (fun c' hc' => ?_), Later.refl .., fun _ h => h⟩
    rw [h1] at hc'
    cases hc'
    exact .rownil ..
def chunks (k : Nat) : Nat → List D → List (List D)
  | 0, _ => []
  | n + 1, ds => ds.take k :: chunks k n (ds.drop k)
theorem chunks_len (k : Nat) : ∀ (m : Nat) (ds : List D), (chunks k m ds).length = m := by
  intro m
  induction m with
  | zero => intro ds; rfl
  | succ m ih => intro ds; simp [chunks, ih]
theorem chunks_get (k : Nat) : ∀ (m : Nat) (ds : List D) (i : Nat) (cs : List D), (chunks k m ds)[i]? = some cs → cs = (ds.drop (i * k)).take k ∧ i < m := by
  intro m
  induction m with
  | zero => intro ds i cs h; simp [chunks] at h
  | succ m ih =>
    intro ds i cs h
    cases i with
    | zero => simp [chunks] at h; subst h; simp
    | succ i =>
      simp only [chunks, List.getElem?_cons_succ] at h
      obtain ⟨h1, h2⟩ := ih _ _ _ h
      refine ⟨?_, by omega⟩
      rw [h1, List.drop_drop, Nat.add_mul, Nat.one_mul, Nat.add_comm]
theorem VDs_nameless : ∀ {vs : List V} {ds : List D}, VDs vs = some ds → namelesss vs = true := by
  intro vs
  induction vs with
  | nil => intro ds h; rfl
  | cons v vs ih =>
    intro ds h
    simp only [VDs] at h
    split at h
    · rename_i d ds' h1 h2
      simp only [namelesss, ih h2, Bool.and_true]
      cases v <;> first | rfl | cases h1
    · cases h
theorem flatten_get {α} {l : List α} {k : Nat} (hl : l.length = k) : ∀ {n j : Nat}, j < n * k → (List.replicate n l).flatten[j]? = l[j % k]? := by
  intro n
  induction n with
  | zero => intro j h; simp at h
  | succ n ih =>
    intro j h
    simp only [List.replicate_succ, List.flatten_cons, List.getElem?_append, hl]
    split
    · rename_i h1; rw [Nat.mod_eq_of_lt h1]
    · rename_i h1
      rw [Nat.add_mul, Nat.one_mul] at h
      rw [ih (by omega), Nat.mod_eq_sub_mod (by omega : j ≥ k)]
theorem fill_len {place : Nat → Option (Nat × Nat)} : ∀ {ps : List (Nat × Operand)} {cs cs' : List V}, fillParts E place cs ps = some cs' → cs'.length = cs.length := by
  intro ps
  induction ps with
  | nil => intro cs cs' h; cases h; rfl
  | cons p ps ih =>
    obtain ⟨i, x⟩ := p
    intro cs cs' h
    simp only [fillParts] at h
    split at h
    · split at h
      · rename_i hc
        rw [ih h]
        simp only [Bool.and_eq_true, beq_iff_eq, Nat.ble_eq] at hc
        exact splice_len (by omega)
      · cases h
    · cases h
theorem run_buildSlice {t e len : Nat} {parts : Array (Nat × Value)} {cells : Array Value} {i : TypeInfo} {z : Value} (ht : P.underlying t = some (.slice e)) (hi : P.info? e = some i) (hz : i.zero = some z) (hn : len * i.size ≤ 16777216)
    (h : Instr.fill (fun j => some (j * i.size, i.size)) ((Array.range (len * i.size)).map (fun j => (if len * i.size = 0 then #[] else z.cells)[j % (if len * i.size = 0 then #[] else z.cells).size]!)) parts.toList = some cells) (w : World) :
    (Instr.buildSlice t len parts).run P w = .ok (.slice (some ⟨w.heap.size, 0, none⟩) len len) (w.alloc (.cells cells e)) := by
  have hn' : ¬ (16777216 < len * i.size) := by omega
  unfold Instr.buildSlice
  by_cases h0 : len * i.size = 0
  · simp only [h0, if_true] at h
    have h' := h
    simp at h'
    simp [run_underlying ht, sizeOf, typeInfo, hi, h0, h', newRow]
  · simp only [if_neg h0] at h
    have h' := h
    try simp at h'
    simp [run_underlying ht, sizeOf, typeInfo, zeroValue, hi, hz, h0, hn', h', newRow]
theorem OpM.buildSlice (hF : Wide F) {t len : Nat} {ps : Array (Nat × Operand)} (ho : o.op = .buildSlice t len ps) {ti ui : TI} (hti : mkTI P t = some ti) {e : Nat} (hk : ti.kind = .slice e) (hui : mkTI P e = some ui) (hz : ui.zero.length = ui.size) {cs : List V}
    (hf : fillParts E (fun i => some (i * ui.size, ui.size)) ((List.replicate len ui.zero).flatten.map .d) ps.toList = some cs) {xs : List D} (hd' : VDs (cs.map (deref1 E)) = some xs) (hmax : len * ui.size ≤ 16777216) (hlim : len ≤ lim) {d : Nat} (hd : o.dst = some d) (hok : okD n K d dead = true) :
    OpM P F n K o E d (.row true e (chunks ui.size len xs)) :=
  .new hF (by simp [ho]) hd hok fun E' hs w N L γ R tmps ds hr hn => by
    obtain ⟨i, dd, z, m1, m2, m3, m4, m5, m6, m7, _⟩ := mkTI_ok hui
    have hzs : z.cells.size = i.size := by have := (toDs_get m4).1; simp at this; omega
    have hcs : cs.map (deref1 E') = cs.map (deref1 E) := map_deref1_mono hs (VDs_nameless hd')
    have h0 : CellsRep P w N L (Tof tmps γ) ((List.replicate len ui.zero).flatten.map V.d) ((Array.range (len * i.size)).map (fun j => (if len * i.size = 0 then #[] else z.cells)[j % (if len * i.size = 0 then #[] else z.cells).size]!)) := by
      have hl : (List.replicate len ui.zero).flatten.length = len * i.size := by simp [m5, m6]
      refine ⟨by simp [m5, m6], fun j u hj => ?_, fun j u hj => ?_⟩
      · simp only [List.getElem?_map, Option.map_eq_some_iff] at hj
        obtain ⟨d, _, rfl⟩ := hj
        rfl
      · simp only [List.getElem?_map, Option.map_eq_some_iff] at hj
        obtain ⟨d, hd, rfl⟩ := hj
        have hlt : j < len * i.size := by rw [← hl]; exact (List.getElem?_eq_some_iff.1 hd).1
        have hne : len * i.size ≠ 0 := by omega
        have hpos : 0 < i.size := Nat.pos_of_ne_zero (fun e => hne (by rw [e]; rfl))
        have e1 : ((Array.range (len * i.size)).map (fun j => (if len * i.size = 0 then #[] else z.cells)[j % (if len * i.size = 0 then #[] else z.cells).size]!)).getD j undef = z.cells.getD (j % i.size) undef := by
          rw [Array.getD_eq_getD_getElem?]
          simp only [if_neg hne, Array.getElem?_map, Array.getElem?_range, if_pos hlt, Option.map_some, Option.getD_some, hzs]
          have : j % i.size < z.cells.size := by rw [hzs]; exact Nat.mod_lt _ hpos
          simp [this]
        rw [e1]
        have e2 : ui.zero[j % i.size]? = some d := by
          rw [flatten_get (by rw [m5, m6] : ui.zero.length = i.size) hlt] at hd
          exact hd
        obtain ⟨v, hv, htd⟩ := (toDs_get m4).2 _ _ e2
        have : z.cells.getD (j % i.size) undef = v := by rw [Array.getD_eq_getD_getElem?]; simp at hv; simp [hv]
        rw [this]
        exact .d _ _ _ (toD_ok htd)
    obtain ⟨vals', hfill, hrep⟩ := fill_ok hr ds _ (fun j => some (j * i.size, i.size)) (by intro j x hx; rw [m6]; exact hx) _ _ _ _ h0 (fill_mono hs _ _ _ hf)
    obtain ⟨g1, g2⟩ := VDs_get hd'
    have hlen : cs.length = len * i.size := by
      have := fill_len hf
      simpa [m5, m6] using this
    have hxs : xs.length = len * i.size := by rw [g1]; simpa using hlen
    refine ⟨.slice (some ⟨w.heap.size, 0, none⟩) len len, .cells vals' e, ?_, fun S hS => ?_⟩
    · have ht := slice_of hti hk
      have hfill' : Instr.fill (fun j => some (j * i.size, i.size)) ((Array.range (len * i.size)).map (fun j => (if len * i.size = 0 then #[] else z.cells)[j % (if len * i.size = 0 then #[] else z.cells).size]!)) (ps.map fun p => (p.1, Act.eval ⟨tmps, ds⟩ p.2)).toList = some vals' := by simpa using hfill
      have := run_buildSlice (P := P) ht m1 m3 (by rw [m6]; omega) hfill' w
      simp only [execOp, ho]
      rw [Sem.run_bind, this]
      rfl
    · have hl : (chunks ui.size len xs).length = len := chunks_len _ _ _
      have hvl : vals'.size = len * i.size := by have := hrep.1; omega
      have key := row_mk (P := P) (w := w.alloc (.cells vals' e)) (N := N) (L := L) (T := Tof tmps γ) (e := e) (b := w.heap.size) (cap := len) (k := i.size) (xs := chunks ui.size len xs) (bl := vals') (R := S) (heap_alloc_at w _) hvl (by omega) (Nat.le_trans hlim (by decide)) (by omega) (by rw [m1]; rfl)
        (fun j cs' hj => by
          obtain ⟨h1, h2⟩ := chunks_get _ _ _ _ _ hj
          have : (j + 1) * i.size ≤ len * i.size := Nat.mul_le_mul_right _ h2
          rw [Nat.add_mul, Nat.one_mul] at this
          rw [h1, m6]
          simp only [List.length_take, List.length_drop, hxs, ← m6]
          omega)
        (fun i' j cs' d' hi' hj => by
          obtain ⟨h1, h2⟩ := chunks_get _ _ _ _ _ hi'
          subst h1
          rw [List.getElem?_take] at hj
          split at hj
          · rw [List.getElem?_drop] at hj
            obtain ⟨v, hv, hvd⟩ := g2 _ _ hj
            rw [← hcs] at hv
            simp only [List.getElem?_map, Option.map_eq_some_iff] at hv
            obtain ⟨u, hu, rfl⟩ := hv
            have := VD_ok (deref1_ok hr (hrep.2.2 _ u hu)) hvd
            rw [m6]
            exact this.mono (fun _ _ h => h) (fun b o v h1 h2 => keeps_alloc w _ L hr.Llt b o v (hr.NL _ _ h1) h2)
          · cases hj)
        (fun x h => absurd (hr.Llt _ _ h) (by omega)) hS
      rw [hl] at key
      exact key
end
end Go.Proofs.VL
namespace Go.Proofs.VL
open Go Go.RowKit
variable {P : Program}
section
variable {F : Fence} {n : Nat} {K : List Nat} {o : Oper} {E E' : Env} {τ : Nat → Option TI}
theorem run_slice_bounds {w : World} {len cap l h : Nat} {lo hi : Option Value} (hlo : lo = none ∧ l = 0 ∨ ∃ k, lo = some (.int k (l : Int))) (hhi : hi = none ∧ h = len ∨ ∃ k, hi = some (.int k (h : Int))) (h1 : l ≤ h) (h2 : h ≤ len) (h3 : len ≤ cap) :
    (Instr.sliceBounds true len cap lo hi none).run P w = .ok (l, h, cap) w := by
  have a1 : (l : Int) ≤ (h : Int) := by omega
  have a2 : h ≤ cap := by omega
  rcases hlo with ⟨rfl, rfl⟩ | ⟨k, rfl⟩ <;> rcases hhi with ⟨rfl, rfl⟩ | ⟨k', rfl⟩ <;> simp [Instr.sliceBounds, Instr.sliceBound, asIntOf, *]
theorem RepD.sub {w : World} {N : Cells} {d : D} {xs : List (List D)} {c : Value} (hd : d = .sl xs ∨ (d = .nl ∧ xs = [])) (h : RepD w N d c) {sz l hh : Nat} (hk : lens sz xs) (h1 : l ≤ hh) (h2 : hh ≤ xs.length) :
    ∃ p cap, c = .slice p xs.length cap ∧ xs.length ≤ cap ∧ RepD w N (.sl ((xs.take hh).drop l)) (.slice (if cap = l then p else p.map (·.add (l * sz))) (hh - l) (cap - l)) := by
  have hnil : ∀ p cap, xs.length = 0 → RepD w N (.sl ((xs.take hh).drop l)) (.slice p (hh - l) cap) := by
    intro p cap h0
    have e1 : xs = [] := List.eq_nil_of_length_eq_zero h0
    subst e1
    have e2 : hh - l = 0 := by simp at h2; omega
    rw [e2]
    simpa using RepD.nil p cap
  rcases hd with rfl | ⟨rfl, rfl⟩
  · cases h with
    | nil p cap => exact ⟨p, cap, rfl, Nat.zero_le _, hnil _ _ rfl⟩
    | sl _ b o k cap cv hl hcap hkk hc hr =>
      refine ⟨_, cap, rfl, hcap, ?_⟩
      by_cases hlt : l < hh
      · have hne : cap ≠ l := by omega
        have hx0 : xs.length ≠ 0 := by omega
        have ek : k = sz := by
          have := hkk 0 xs[0] (List.getElem?_eq_getElem (by omega))
          rw [← this]
          exact hk _ (List.getElem_mem _)
        subst ek
        have hlen : ((xs.take hh).drop l).length = hh - l := by simp; omega
        have hget : ∀ i, ((xs.take hh).drop l)[i]? = if l + i < hh then xs[l + i]? else none := by
          intro i
          rw [List.getElem?_drop, List.getElem?_take]
        rw [if_neg hne]
        simp only [Option.map_some, add_none]
        rw [← hlen]
        refine .sl _ b (o + l * k) k (cap - l) (fun i j => cv (l + i) j) (by omega) (by omega) (fun i cs hi => ?_) (fun i j hi hj => ?_) (fun i j cs d hi hj => ?_)
        · rw [hget] at hi
          split at hi
          · exact hkk _ _ hi
          · cases hi
        · have := hc (l + i) j (by omega) hj
          rw [Nat.add_mul] at this
          rw [show o + l * k + i * k + j = o + (l * k + i * k) + j by omega]
          exact this
        · rw [hget] at hi
          split at hi
          · exact hr _ _ _ _ hi hj
          · cases hi
      · have e2 : hh - l = 0 := by omega
        have e3 : (xs.take hh).drop l = [] := List.drop_eq_nil_of_le (by simp; omega)
        rw [e2, e3]
        exact .nil _ _
  · cases h
    exact ⟨none, 0, rfl, Nat.le_refl _, hnil _ _ rfl⟩
theorem OpM.sliceD (hF : Wide F) {t : Nat} {x : Operand} {lo hi : Option Operand} (ho : o.op = .slice t x lo hi none) {ti ui : TI} (hti : mkTI P t = some ti) {e : Nat} (hk : ti.kind = .slice e) (hui : mkTI P e = some ui) {xs : List (List D)} (hx : listO E x = some xs) (hxk : lens ui.size xs)
    {l h : Nat} (hl : lo = none ∧ l = 0 ∨ ∃ y k, lo = some y ∧ intO E y = some (k, (l : Int))) (hh : hi = none ∧ h = xs.length ∨ ∃ y k, hi = some y ∧ intO E y = some (k, (h : Int))) (h1 : l ≤ h) (h2 : h ≤ xs.length) {d : Nat} (hd : o.dst = some d) (hok : okD n K d (.kt) = true) :
    OpM P F n K o E d (.d (.sl ((xs.take h).drop l))) :=
  .pure hF (by simp [ho]) hd hok fun E' hs w N L γ R tmps ds hr hn => by
    obtain ⟨dd, q1, q2⟩ := listO_ok hr (listO_mono hs hx) ds
    obtain ⟨p, cap, he, hcap, hrep⟩ := RepD.sub q1 q2 hxk h1 h2
    have hlo : (lo.map (Act.eval ⟨tmps, ds⟩)) = none ∧ l = 0 ∨ ∃ k, (lo.map (Act.eval ⟨tmps, ds⟩)) = some (.int k (l : Int)) := by
      rcases hl with ⟨rfl, rfl⟩ | ⟨y, k, rfl, hy⟩
      · exact .inl ⟨rfl, rfl⟩
      · exact .inr ⟨k, by simp [intO_ok hr (intO_mono hs hy) ds]⟩
    have hhi : (hi.map (Act.eval ⟨tmps, ds⟩)) = none ∧ h = xs.length ∨ ∃ k, (hi.map (Act.eval ⟨tmps, ds⟩)) = some (.int k (h : Int)) := by
      rcases hh with ⟨rfl, rfl⟩ | ⟨y, k, rfl, hy⟩
      · exact .inl ⟨rfl, rfl⟩
      · exact .inr ⟨k, by simp [intO_ok hr (intO_mono hs hy) ds]⟩
    have hb := run_slice_bounds (P := P) (w := w) hlo hhi h1 h2 hcap
    refine ⟨_, ?_, fun S => .d _ _ _ hrep⟩
    have ht := slice_of hti hk
    simp [execOp, ho, he, Instr.sliceAt, Instr.slice, run_underlying ht, hb, run_sizeOf_ti hui]
theorem OpM.makeSlice (hF : Wide F) {t : Nat} {x y : Operand} (ho : o.op = .makeSlice t x y) {ti ui : TI} (hti : mkTI P t = some ti) {e : Nat} (hk : ti.kind = .slice e) (hui : mkTI P e = some ui) {kx ky : IntKind} {m : Nat} (hx : intO E x = some (kx, (m : Int))) (hy : intO E y = some (ky, (m : Int)))
    (hlim : m ≤ lim) (hby : ui.bytes * m ≤ 281474976710656) {d : Nat} (hd : o.dst = some d) (hok : okD n K d dead = true) : OpM P F n K o E d (.row true e (List.replicate m ui.zero)) :=
  .new hF (by simp [ho]) hd hok fun E' hs w N L γ R tmps ds hr hn => by
    obtain ⟨i, dd, z, m1, m2, m3, m4, m5, m6, m7, _⟩ := mkTI_ok hui
    have hzs : z.cells.size = i.size := by have := (toDs_get m4).1; simp at this; omega
    have h1 := intO_ok hr (intO_mono hs hx) ds
    have h2 := intO_ok hr (intO_mono hs hy) ds
    have hmax : lim ≤ maxLen := by decide
    have h63 : ((m : Nat) : Int) ≤ 9223372036854775807 := by
      have : lim ≤ 9223372036854775807 := by decide
      omega
    have hrun := run_make (P := P) w t e i z (slice_of hti hk) m1 m3 kx ky m m (by omega) (Int.le_refl _) (by rw [m7, ← Int.natCast_mul]; omega) h63
    simp only [Int.toNat_natCast] at hrun
    refine ⟨_, _, by simp only [execOp, ho, h1, h2]; rw [Sem.run_bind, hrun]; rfl, fun S hS => ?_⟩
    have key := row_mk (P := P) (w := w.alloc (.cells (madeCells z.cells (m * i.size)) e)) (N := N) (L := L) (T := Tof tmps γ) (e := e) (b := w.heap.size) (cap := m) (k := i.size) (xs := List.replicate m ui.zero) (bl := madeCells z.cells (m * i.size)) (R := S) (heap_alloc_at w _) (size_madeCells _ _) (by simp) (Nat.le_trans hlim hmax) (by simpa using hlim) (by rw [m1]; rfl)
      (fun j cs hj => by
        have := List.eq_of_mem_replicate (List.mem_of_getElem? hj)
        rw [this, m5, m6])
      (fun i' j cs d' hi' hj => by
        have hcs := List.eq_of_mem_replicate (List.mem_of_getElem? hi')
        subst hcs
        have hi2 : i' < m := by have := (List.getElem?_eq_some_iff.1 hi').1; simpa using this
        have hj2 : j < i.size := by rw [m6, ← m5]; exact (List.getElem?_eq_some_iff.1 hj).1
        have : (i' + 1) * i.size ≤ m * i.size := Nat.mul_le_mul_right _ hi2
        rw [Nat.add_mul, Nat.one_mul] at this
        obtain ⟨v, hv, htd⟩ := (toDs_get m4).2 _ _ hj
        have e1 : (madeCells z.cells (m * i.size)).getD (i' * i.size + j) undef = v := by
          rw [Array.getD_eq_getD_getElem?]
          have hne : m * i.size ≠ 0 := by omega
          have hq : (i' * i.size + j) % z.cells.size = j := by
            rw [hzs, Nat.mul_comm, Nat.mul_add_mod, Nat.mod_eq_of_lt hj2]
          have hjz : j < z.cells.size := by omega
          have hv' : z.cells[j] = v := by
            rw [List.getElem?_eq_getElem (by simpa using hjz)] at hv
            simpa using hv
          simp only [madeCells, Array.getElem?_map, Array.getElem?_range, if_pos (by omega : i' * i.size + j < m * i.size), Option.map_some, Option.getD_some, hq]
          simp [hjz, hv']
        rw [e1]
        exact toD_ok htd)
      (fun x h => absurd (hr.Llt _ _ h) (by omega)) hS
    simp only [List.length_replicate] at key
    exact key
theorem AW.subE {c : Code} {Q : Exit → Env → Prop} (hs : Sub E' E) (hn : (E'.map Prod.fst).Nodup) (h : AW P F n K c Q E') : AW P F n K c Q E := by
  refine AW.sub (fun t v hm => look_mem (hs t v (look_of_mem hn hm))) hn h
def nodupB : List Loc → Bool
  | [] => true
  | l :: ls => !(ls.any (lq l ·)) && nodupB ls
theorem nodupB_ok : ∀ {ls : List Loc}, nodupB ls = true → ls.Nodup := by
  intro ls
  induction ls with
  | nil => intro _; exact List.nodup_nil
  | cons l ls ih =>
    intro h
    simp only [nodupB, Bool.and_eq_true, Bool.not_eq_true', List.any_eq_false] at h
    refine List.nodup_cons.2 ⟨fun hm => ?_, ih h.2⟩
    exact h.1 l hm (lq_iff.2 rfl)
theorem Sub.nil : Sub [] E := fun l u h => by cases h
theorem Sub.put {l : Loc} {v : V} (h : look E l = some v) (hs : Sub E' E) : Sub ((l, v) :: E') E := by
  intro l' u hl
  simp only [look] at hl
  split at hl
  · rename_i hq
    cases hl
    rw [← lq_iff.1 hq]; exact h
  · exact hs _ _ hl
theorem AW.loopI {X : Type} {c : Code} {Q : Exit → Env → Prop} (I : X → Env) (μ : X → Nat) (hn : ∀ x, nodupB ((I x).map Prod.fst) = true) (x₀ : X) (h₀ : Sub (I x₀) E)
    (round : ∀ x, AW P F n K c (thenQ (fun E' => ∃ x', μ x' < μ x ∧ Sub (I x') E') Q) (I x)) : AW P F n K (.loop c) Q E :=
  .loop (fun x E' => Sub (I x) E') μ x₀ h₀ fun x E' hs => AW.subE hs (nodupB_ok (hn x)) (round x)
theorem AW.condT {t : Nat} {x y : Code} {v : V} {Q : Exit → Env → Prop} (hc : look E (.s t) = some v) (hv : boolV v = some true) (h : AW P F n K x Q E) : AW P F n K (.cond (.tmp t) x y) Q E := .cond hc hv (fun _ => h) (fun e => by cases e)
theorem AW.condF {t : Nat} {x y : Code} {v : V} {Q : Exit → Env → Prop} (hc : look E (.s t) = some v) (hv : boolV v = some false) (h : AW P F n K y Q E) : AW P F n K (.cond (.tmp t) x y) Q E := .cond hc hv (fun e => by cases e) (fun _ => h)
end
end Go.Proofs.VL
namespace Go.Proofs.VL
open Go Go.RowKit
variable {P : Program}
def Imp (P : Program) (v' v : V) : Prop := ∀ (w : World) (N L : Cells) (T : Loc → Option Value) (c : Value) (S : Blocks), (∀ b o, N b o → L b o) → RepV P w N L T v' c S → RepV P w N L T v c S
theorem Imp.refl (v : V) : Imp P v v := fun _ _ _ _ _ _ _ h => h
def Imps (P : Program) : List V → List V → Prop
  | [], [] => True
  | v' :: vs', v :: vs => Imp P v' v ∧ Imps P vs' vs
  | _, _ => False
theorem Imps.len : ∀ {vs' vs : List V}, Imps P vs' vs → vs'.length = vs.length
  | [], [], _ => rfl
  | _ :: _, _ :: _, h => by simp [Imps.len h.2]
theorem Imps.get : ∀ {vs' vs : List V}, Imps P vs' vs → ∀ (i : Nat) (v : V), vs[i]? = some v → ∃ v', vs'[i]? = some v' ∧ Imp P v' v
  | [], [], _, i, v, h => by simp at h
  | v' :: vs', u :: vs, h, 0, v, hi => by simp at hi; subst hi; exact ⟨v', rfl, h.1⟩
  | v' :: vs', u :: vs, h, i + 1, v, hi => by simpa using Imps.get h.2 i v (by simpa using hi)
theorem argEnv_of : ∀ (vs : List V) (i j : Nat) (v : V), vs[j]? = some v → (Loc.s (i + j), v) ∈ argEnv i vs := by
  intro vs
  induction vs with
  | nil => intro i j v h; simp at h
  | cons u vs ih =>
    intro i j v h
    cases j with
    | zero => simp at h; subst h; exact .head _
    | succ j =>
      have := ih (i + 1) j v (by simpa using h)
      rw [show i + 1 + j = i + (j + 1) by omega] at this
      exact .tail _ this
section
variable {F : Fence} {n : Nat} {K : List Nat} {o : Oper} {E E' : Env} {τ : Nat → Option TI}
theorem FnV.conseq {f : Nat} {vs vs' : List V} {r : V} (h : FnV P F f vs r) (hi : Imps P vs' vs) : FnV P F f vs' r := by
  refine ⟨h.callable, fun w N L γ R vals hr hsz => ?_⟩
  have hlen := hi.len
  have hrel : Rel P w N L vals γ R (argEnv 0 vs) := by
    refine ⟨fun l v hm => ?_, argEnv_nd _ _, hr.dis, hr.lt, hr.NL, hr.Llt⟩
    obtain ⟨j, rfl, hj⟩ := argEnv_mem _ _ _ _ hm
    obtain ⟨v', hj', himp⟩ := hi.get j v hj
    obtain ⟨c, h1, h2⟩ := hr.rep _ _ (argEnv_of _ _ _ _ hj')
    exact ⟨c, h1, himp w N L _ c _ hr.NL h2⟩
  have := h.run w N L γ R vals hrel (by rw [hsz, hlen])
  rw [hlen]
  exact this
def PFn (P : Program) (F : Fence) (S : List V → V → Prop) : RawP := fun w N L c => ∃ f caps, c = .func (.func f) #[] caps ∧ Callable P f ∧
  ∀ vs r, S vs r → ∀ vals, vals.size = vs.length → Rel P w N L vals γ0 R0 (argEnv 0 vs) → CallsIn F 0 P f (vals ++ caps) w (RPost P w N L R0 (vals ++ caps) (fun E' => E' = [(.s (vals ++ caps).size, r)]))
theorem Imp.fn {f : Nat} {caps : List V} {S : List V → V → Prop} (hf : Callable P f) (hcaps : namelesss caps = true) (h : ∀ vs r, S vs r → FnV P F f (vs ++ caps) r) : Imp P (.fn f caps) (.raw (PFn P F S)) := by
  intro w N L T c S' hNL hrep
  cases hrep with
  | fn _ _ vals _ hl hc =>
    refine .raw _ _ _ rfl fun w' N' L' hw hk hN hL => ⟨f, vals, rfl, hf, fun vs r hs ags hsz hrel => ?_⟩
    have hkeep : Keeps N w w' := fun b o v hb hv => hk b o v (hNL b o hb) hv
    have hsize : (ags ++ vals).size = (vs ++ caps).length := by simp [hsz, hl]
    have hrel' : Rel P w' N' L' (ags ++ vals) γ0 R0 (argEnv 0 (vs ++ caps)) := by
      refine ⟨fun l v hm => ?_, argEnv_nd _ _, fun _ _ _ _ h => h.elim, fun _ _ h => h.elim, hrel.NL, hrel.Llt⟩
      obtain ⟨j, rfl, hj⟩ := argEnv_mem _ _ _ _ hm
      rw [Nat.zero_add]
      rw [List.getElem?_append] at hj
      split at hj
      · rename_i hlt
        obtain ⟨c, h1, h2⟩ := hrel.rep _ _ (argEnv_of vs 0 j v hj)
        rw [Nat.zero_add] at h1 h2
        have hT : ∀ l c, Tof ags γ0 l = some c → Tof (ags ++ vals) γ0 l = some c := by
          intro l c hl
          cases l with
          | s t =>
            simp only [Tof] at hl ⊢
            rw [Array.getElem?_append_left (Array.getElem?_eq_some_iff.1 hl).1]; exact hl
          | c t i => exact hl
        exact ⟨c, hT _ _ h1, h2.congrAll hT⟩
      · rename_i hge
        have hnl := namelesss_get hcaps hj
        have h3 := hc _ _ hj
        have hlt : j - vs.length < vals.size := by rw [← hl]; exact (List.getElem?_eq_some_iff.1 hj).1
        refine ⟨vals.getD (j - vs.length) undef, ?_, ?_⟩
        · simp only [Tof]
          rw [Array.getElem?_append_right (by omega), hsz]
          exact getD_of hlt
        · refine RepV.congrN (T := T) ?_ hnl
          exact h3.world hw (fun _ h => h.elim) hNL (fun b o v hb hv => hk b o v hb hv) hN hL (fun _ _ h => h.elim) (fun _ _ h => h.elim)
    have := (h vs r hs).run w' N' L' γ0 R0 (ags ++ vals) hrel' hsize
    rw [hsize]
    exact this
theorem OpM.callRaw (hF : Wide F) {c : Call} (ho : o.op = .call c) {x : Operand} (hc : c.callee = .value x) {S : List V → V → Prop} (hx : argO E x = some (.raw (PFn P F S))) {vs : List V} (ha : argsO E c.args.toList = some vs) {r : V} (hs : S vs r) (hrn : nameless r = true) {d : Nat} (hd : o.dst = some d) (hok : okD n K d r = true) : OpM P F n K o E d r := by
  intro E' hsub hfr w N L γ R tmps ds hr hn
  have hcl := (argO_ok hr (argO_mono hsub hx) ds none_).2
  obtain ⟨hal, har⟩ := argsO_ok hr ds _ _ (argsO_mono hsub ha)
  refine wpIn_run hF (by simp [ho]) ?_
  generalize hce : Act.eval ⟨tmps, ds⟩ x = cv at hcl
  cases hcl with
  | raw _ _ _ hone hp =>
    obtain ⟨f, caps, rfl, hcal, hrun⟩ := hp w N L (Nat.le_refl _) (fun _ _ _ _ h => h) (fun _ _ h => h) (fun _ _ h => h)
    rw [run_call_value ho hc hce hcal]
    simp only [Oper.uponIn]
    refine ⟨fun h => (by rw [hF.depth] at h; cases h), ?_⟩
    have hsize : (c.args.map (Act.eval ⟨tmps, ds⟩)).size = vs.length := by simp [hal]
    have hargs : Rel P w N L (c.args.map (Act.eval ⟨tmps, ds⟩)) γ0 R0 (argEnv 0 vs) := by
      refine Rel.args hsize.symm hr.NL hr.Llt fun i v hi => ⟨Tof tmps γ, ?_⟩
      have := har i v hi
      rwa [show (c.args.toList.map (Act.eval ⟨tmps, ds⟩)).getD i undef = (c.args.map (Act.eval ⟨tmps, ds⟩)).getD i undef by simp [Array.getD_eq_getD_getElem?, List.getD_eq_getElem?_getD, ← Array.getElem?_toList]] at this
    refine CallsIn.mono (hrun vs r hs _ hsize hargs) fun e w' he => ?_
    cases e with
    | returned cr =>
      obtain ⟨E1, N1, L1, γ1, R1, rfl, h1, h2, h3⟩ := he
      obtain ⟨cr', h4, h5⟩ := h1.rep _ _ (.head _)
      have hcr' : cr' = cr := by
        simp only [Tof] at h4
        rw [Array.getElem?_push_size] at h4
        exact (Option.some.inj h4).symm
      subst hcr'
      have hSt : ∀ x, ¬ St R0 x := fun x ⟨_, h⟩ => h.elim
      refine mid_ret hr hn ⟨h2.os, h2.tape, h2.output, h2.size, fun b hb _ => h2.frame b hb (hSt b), h2.keeps, h2.N1, h2.L1, fun b o h => ?_, fun b o h => ?_⟩ (fun T => h5.congrN hrn) (fun x hx => ⟨?_, h1.lt _ _ hx⟩) h1.NL h1.Llt hd hok hfr
      · rcases h2.N2 b o h with h | h | h
        · exact .inl h
        · exact absurd h (hSt b)
        · exact .inr (.inr h)
      · rcases h2.L2 b o h with h | h | h
        · exact .inl h
        · exact absurd h (hSt b)
        · exact .inr (.inr h)
      · rcases h3 x ⟨_, hx⟩ with h | h
        · exact absurd h (hSt x)
        · exact h
    | _ => exact he.elim
end
end Go.Proofs.VL
namespace Go.Proofs.VL
open Go Go.RowKit
variable {P : Program}
theorem wrap_id {x : Int} (h1 : -9223372036854775808 ≤ x) (h2 : x ≤ 9223372036854775807) : IntKind.wrap .i64 x = x := by rw [IntKind.wrap_i64]; omega
section
variable {F : Fence} {n : Nat} {K : List Nat} {o : Oper} {E E' : Env} {τ : Nat → Option TI}
def rangeXQ (b0 b1 : Nat) (G : Env → Prop) (Q : Exit → Env → Prop) : Exit → Env → Prop := blockQ b1 fun e E' => match e with
  | .normal => G E'
  | e => blockQ b0 Q e E'
def rangeQ (b0 b1 : Nat) (J : Env) (Q : Exit → Env → Prop) : Exit → Env → Prop := rangeXQ b0 b1 (Sub J) Q
def rangeJQ (b0 b1 : Nat) (J : Env) (p : Prop) (Q : Exit → Env → Prop) : Exit → Env → Prop := rangeXQ b0 b1 (fun E' => Sub J E' ∧ p) Q
theorem rangeXQ.mono {b0 b1 : Nat} {G G' : Env → Prop} {Q : Exit → Env → Prop} (h : ∀ E, G E → G' E) : ∀ e E, rangeXQ b0 b1 G Q e E → rangeXQ b0 b1 G' Q e E := by
  intro e E hq
  cases e with
  | normal => exact h E hq
  | exit id =>
    simp only [rangeXQ, blockQ] at hq ⊢
    split
    · rename_i hid; rw [if_pos hid] at hq; exact h E hq
    · rename_i hid; rw [if_neg hid] at hq; exact hq
  | _ => exact hq
def rangeI (idx len : Nat) (k m : Nat) (R : Env) : Env := (.s idx, .d (.sc (.int .i64 (k : Int)))) :: (.s len, .d (.sc (.int .i64 (m : Int)))) :: R
def rangeOK (n : Nat) (K : List Nat) (idx len lt t : Nat) (R : Env) : Bool :=
  nodupB (.s idx :: .s len :: R.map Prod.fst) && !anyOf (.s idx) R && !anyOf (.s lt) R && !anyOf (.s t) R && !Nat.beq lt idx && !Nat.beq lt len && !Nat.beq t idx && !Nat.beq t len && !Nat.beq t lt && !Nat.beq idx len &&
    Nat.blt idx n && Nat.blt lt n && Nat.blt t n && !K.contains idx && !K.contains lt && !K.contains t
theorem lq_self (l : Loc) : lq l l = true := lq_iff.2 rfl
theorem lq_s {a b : Nat} (h : Nat.beq a b = false) : lq (.s a) (.s b) = false := h
theorem AW.rangeX (hF : Wide F) {X : Type} {b0 b1 r1 r2 idx len lt t : Nat} {ty1 ty2 ty3 ty4 : Nat} {o1 o2 o3 : Oper} {body : Code} {Q : Exit → Env → Prop}
    (h1 : o1.op = .binOp .lss ty1 (.tmp idx) (.tmp len) ty2) (h1d : o1.dst = some lt) (h1g : o1.guard = none)
    (h2 : o2.op = .binOp .add ty3 (.tmp idx) (.const (.int .i64 1)) ty4) (h2d : o2.dst = some t) (h2g : o2.guard = none)
    (h3 : o3.op = .move (.tmp t)) (h3d : o3.dst = some idx) (h3g : o3.guard = none)
    (m : Nat) (hm : m ≤ lim) (R : Nat → X → Env) (J : Nat → X → Prop) (x0 : X) (hJ : J 0 x0) (hok : ∀ k x, rangeOK n K idx len lt t (R k x) = true) (h0 : Sub (rangeI idx len 0 m (R 0 x0)) E)
    (hbody : ∀ k x, k < m → J k x → AW P F n K body (rangeXQ b0 b1 (fun E' => ∃ x', J (k + 1) x' ∧ Sub (rangeI idx len k m (R (k + 1) x')) E') Q) ((.s lt, .d (.sc (.bool true))) :: rangeI idx len k m (R k x)))
    (hdone : ∀ x, J m x → Q .normal ((.s lt, .d (.sc (.bool false))) :: rangeI idx len m m (R m x))) :
    AW P F n K (.loop (.seq (.region r1 #[o1] false) (.seq (.cond (.tmp lt) .skip (.exit b0)) (.seq (.block b1 body) (.region r2 #[o2, o3] false))))) (blockQ b0 Q) E := by
  have hR : ∀ k x, nodupB (.s idx :: .s len :: (R k x).map Prod.fst) = true ∧ anyOf (.s idx) (R k x) = false ∧ anyOf (.s lt) (R k x) = false ∧ anyOf (.s t) (R k x) = false := fun k x => by
    have := hok k x
    simp only [rangeOK, Bool.and_eq_true, Bool.not_eq_true'] at this
    obtain ⟨⟨⟨⟨⟨⟨⟨⟨⟨⟨⟨⟨⟨⟨⟨a1, a2⟩, a3⟩, a4⟩, _⟩, _⟩, _⟩, _⟩, _⟩, _⟩, _⟩, _⟩, _⟩, _⟩, _⟩, _⟩ := this
    exact ⟨a1, a2, a3, a4⟩
  have hS := hok 0 x0
  simp only [rangeOK, Bool.and_eq_true, Bool.not_eq_true'] at hS
  obtain ⟨⟨⟨⟨⟨⟨⟨⟨⟨⟨⟨⟨⟨⟨⟨_, _⟩, _⟩, _⟩, c1⟩, c2⟩, c3⟩, c4⟩, c5⟩, c6⟩, d1⟩, d2⟩, d3⟩, e1⟩, e2⟩, e3⟩ := hS
  have sym : ∀ {a b : Nat}, Nat.beq a b = false → Nat.beq b a = false := fun {a b} h => by
    cases hb : Nat.beq b a with
    | false => rfl
    | true => have := Nat.eq_of_beq_eq_true hb; subst this; rw [Nat.beq_refl] at h; cases h
  refine AW.loopI (X := { k : Nat × X // k.1 ≤ m ∧ J k.1 k.2 }) (fun k => rangeI idx len k.1.1 m (R k.1.1 k.1.2)) (fun k => m - k.1.1) (fun k => (hR k.1.1 k.1.2).1) ⟨(0, x0), Nat.zero_le _, hJ⟩ h0 ?_
  rintro ⟨⟨k, x⟩, hk, hJk⟩
  simp only at hk hJk ⊢
  obtain ⟨hnd, hRi, hRl, hRt⟩ := hR k x
  have lki : look (rangeI idx len k m (R k x)) (.s idx) = some (.d (.sc (.int .i64 (k : Int)))) := by simp [rangeI, look, lq_self]
  have lkl : look (rangeI idx len k m (R k x)) (.s len) = some (.d (.sc (.int .i64 (m : Int)))) := by simp [rangeI, look, lq_self, lq_s c6]
  have frl : anyOf (.s lt) (rangeI idx len k m (R k x)) = false := by simp [rangeI, anyOf, hRl, lq_s (sym c1), lq_s (sym c2), V.men]
  refine AW.seq (AW.region (AL.op (E' := (.s lt, .d (.sc (.bool (decide (k < m))))) :: rangeI idx len k m (R k x)) h1g ?_ (AL.nil ?_)))
  · have hv : copyO (rangeI idx len k m (R k x)) (.tmp idx) = some (.d (.sc (.int .i64 (k : Int)))) := by simp [copyO, lki, copyAt, isOwned, plain]
    have hv2 : copyO (rangeI idx len k m (R k x)) (.tmp len) = some (.d (.sc (.int .i64 (m : Int)))) := by simp [copyO, lkl, copyAt, isOwned, plain]
    refine OpTo.cmp hF h1 hv hv2 (r := decide (k < m)) (by simp [cmpI]) ?_
    rw [h1d]
    simp only [setO, d2, e2, V.men, VL.put, frl, Bool.not_false, Bool.and_self]
  show AW P F n K _ _ _
  refine AW.seq ?_
  refine AW.cond (v := .d (.sc (.bool (decide (k < m))))) (b := decide (k < m)) (by simp [look, lq_self]) rfl (fun hc => ?_) (fun hc => ?_)
  · have hlt : k < m := by simpa using hc
    refine AW.skip ?_
    show AW P F n K _ _ _
    refine AW.seq (AW.block ?_)
    have hb := hbody k x hlt hJk
    rw [show decide (k < m) = true from hc]
    refine hb.mono fun e E1 he => ?_
    -- the index goes on
    have hnext : (∃ x', J (k + 1) x' ∧ Sub (rangeI idx len k m (R (k + 1) x')) E1) → AW P F n K (.region r2 #[o2, o3] false) (thenQ (fun E' => ∃ x' : { k : Nat × X // k.1 ≤ m ∧ J k.1 k.2 }, m - x'.1.1 < m - k ∧ Sub (rangeI idx len x'.1.1 m (R x'.1.1 x'.1.2)) E') (blockQ b0 Q)) E1 := by
      rintro ⟨x', hJ1, hsub⟩
      obtain ⟨hnd', hRi', hRl', hRt'⟩ := hR (k + 1) x'
      refine AW.subE hsub (nodupB_ok hnd') ?_
      have lki' : look (rangeI idx len k m (R (k + 1) x')) (.s idx) = some (.d (.sc (.int .i64 (k : Int)))) := by simp [rangeI, look, lq_self]
      have frt : anyOf (.s t) (rangeI idx len k m (R (k + 1) x')) = false := by simp [rangeI, anyOf, hRt', lq_s (sym c3), lq_s (sym c4), V.men]
      have hwr : IntKind.wrap .i64 ((k : Int) + 1) = ((k + 1 : Nat) : Int) := by
        have : lim ≤ 9000000000000000000 := by decide
        exact wrap_id (by omega) (by omega)
      refine AW.region (AL.op (E' := (.s t, .d (.sc (.int .i64 ((k + 1 : Nat) : Int)))) :: rangeI idx len k m (R (k + 1) x')) h2g ?_ (AL.op (E' := (.s idx, .d (.sc (.int .i64 ((k + 1 : Nat) : Int)))) :: (.s t, .d (.sc (.int .i64 ((k + 1 : Nat) : Int)))) :: (.s len, .d (.sc (.int .i64 (m : Int)))) :: R (k + 1) x') h3g ?_ (AL.nil ?_)))
      · have hv : copyO (rangeI idx len k m (R (k + 1) x')) (.tmp idx) = some (.d (.sc (.int .i64 (k : Int)))) := by simp [copyO, lki', copyAt, isOwned, plain]
        refine OpTo.arith hF h2 hv (show copyO _ (.const (.int .i64 1)) = some (.d (.sc (.int .i64 1))) from rfl) (r := ((k + 1 : Nat) : Int)) (by simp only [arI, hwr]) ?_
        rw [h2d]
        simp only [setO, d3, e3, V.men, VL.put, frt, Bool.not_false, Bool.and_self]
      · have hv : copyO ((.s t, .d (.sc (.int .i64 ((k + 1 : Nat) : Int)))) :: rangeI idx len k m (R (k + 1) x')) (.tmp t) = some (.d (.sc (.int .i64 ((k + 1 : Nat) : Int)))) := by simp [copyO, look, lq_self, copyAt, isOwned, plain]
        refine OpTo.move hF h3 hv ?_
        rw [h3d]
        have hpurge : ∀ E : Env, anyOf (.s idx) E = false → purge (.s idx) E = E := by
          intro E
          induction E with
          | nil => intro _; rfl
          | cons p E ih =>
            obtain ⟨l, v⟩ := p
            intro h
            simp only [anyOf, Bool.or_eq_false_iff] at h
            simp [purge, h.1.1, h.1.2, ih h.2]
        have hany : anyOf (.s idx) ((.s t, V.d (.sc (.int .i64 ((k + 1 : Nat) : Int)))) :: rangeI idx len k m (R (k + 1) x')) = true := by simp [rangeI, anyOf, lq_self]
        have hp : purge (.s idx) ((.s t, V.d (.sc (.int .i64 ((k + 1 : Nat) : Int)))) :: rangeI idx len k m (R (k + 1) x')) = (.s t, V.d (.sc (.int .i64 ((k + 1 : Nat) : Int)))) :: (.s len, .d (.sc (.int .i64 (m : Int)))) :: R (k + 1) x' := by
          simp [rangeI, purge, lq_self, lq_s c3, lq_s (sym c6), V.men, hpurge _ hRi']
        simp only [setO, d1, e1, V.men, VL.put, hany, hp, Bool.not_false, Bool.and_self]
      · refine ⟨⟨(k + 1, x'), hlt, hJ1⟩, by simp only; omega, ?_⟩
        refine Sub.put (by simp [look, lq_self]) (Sub.put (by simp [look, lq_self, lq_s c6, lq_s c4]) ?_)
        intro l u hl
        have hml := look_mem hl
        have hli : lq (.s idx) l = false := by
          cases hq : lq (.s idx) l with
          | false => rfl
          | true => exact absurd (lq_iff.1 hq) (fun e => (anyOf_mem hRi' hml).1 e.symm)
        have hlt' : lq (.s t) l = false := by
          cases hq : lq (.s t) l with
          | false => rfl
          | true => exact absurd (lq_iff.1 hq) (fun e => (anyOf_mem hRt' hml).1 e.symm)
        have hll : lq (.s len) l = false := by
          cases hq : lq (.s len) l with
          | false => rfl
          | true =>
            have := lq_iff.1 hq
            subst this
            have hn := nodupB_ok hnd'
            simp only [List.nodup_cons] at hn
            exact absurd (List.mem_map_of_mem (f := Prod.fst) hml) hn.2.1
        simp [look, hli, hlt', hll, hl]
    cases e with
    | normal => exact hnext he
    | exit id =>
      simp only [rangeXQ, blockQ] at he ⊢
      split at he
      · rename_i hid; rw [if_pos hid]; exact hnext he
      · rename_i hid
        rw [if_neg hid]
        split at he
        · rename_i hid0; simp only [thenQ, blockQ, if_pos hid0]; exact he
        · rename_i hid0; simp only [thenQ, blockQ, if_neg hid0]; exact he
    | _ => exact he
  · have hke : k = m := by
      have : ¬ k < m := by simpa using hc
      omega
    subst hke
    refine AW.exit ?_
    show blockQ b0 Q (.exit b0) _
    simp only [blockQ, if_true]
    have hf : decide (k < k) = false := by simp
    rw [hf]
    exact hdone x hJk
theorem AW.range (hF : Wide F) {b0 b1 r1 r2 idx len lt t : Nat} {ty1 ty2 ty3 ty4 : Nat} {o1 o2 o3 : Oper} {body : Code} {Q : Exit → Env → Prop}
    (h1 : o1.op = .binOp .lss ty1 (.tmp idx) (.tmp len) ty2) (h1d : o1.dst = some lt) (h1g : o1.guard = none)
    (h2 : o2.op = .binOp .add ty3 (.tmp idx) (.const (.int .i64 1)) ty4) (h2d : o2.dst = some t) (h2g : o2.guard = none)
    (h3 : o3.op = .move (.tmp t)) (h3d : o3.dst = some idx) (h3g : o3.guard = none)
    (m : Nat) (hm : m ≤ lim) (R : Nat → Env) (hok : ∀ k, rangeOK n K idx len lt t (R k) = true) (h0 : Sub (rangeI idx len 0 m (R 0)) E)
    (hbody : ∀ k, k < m → AW P F n K body (rangeQ b0 b1 (rangeI idx len k m (R (k + 1))) Q) ((.s lt, .d (.sc (.bool true))) :: rangeI idx len k m (R k)))
    (hdone : Q .normal ((.s lt, .d (.sc (.bool false))) :: rangeI idx len m m (R m))) :
    AW P F n K (.loop (.seq (.region r1 #[o1] false) (.seq (.cond (.tmp lt) .skip (.exit b0)) (.seq (.block b1 body) (.region r2 #[o2, o3] false))))) (blockQ b0 Q) E :=
  AW.rangeX (X := Unit) hF h1 h1d h1g h2 h2d h2g h3 h3d h3g m hm (fun k _ => R k) (fun _ _ => True) () trivial (fun k _ => hok k) h0 (fun k _ hk _ => (hbody k hk).mono (rangeXQ.mono fun E h => ⟨(), trivial, h⟩)) (fun _ _ => hdone)
theorem AW.rangeJ (hF : Wide F) {b0 b1 r1 r2 idx len lt t : Nat} {ty1 ty2 ty3 ty4 : Nat} {o1 o2 o3 : Oper} {body : Code} {Q : Exit → Env → Prop}
    (h1 : o1.op = .binOp .lss ty1 (.tmp idx) (.tmp len) ty2) (h1d : o1.dst = some lt) (h1g : o1.guard = none)
    (h2 : o2.op = .binOp .add ty3 (.tmp idx) (.const (.int .i64 1)) ty4) (h2d : o2.dst = some t) (h2g : o2.guard = none)
    (h3 : o3.op = .move (.tmp t)) (h3d : o3.dst = some idx) (h3g : o3.guard = none)
    (m : Nat) (hm : m ≤ lim) (R : Nat → Env) (J : Nat → Prop) (hJ : J 0) (hok : ∀ k, rangeOK n K idx len lt t (R k) = true) (h0 : Sub (rangeI idx len 0 m (R 0)) E)
    (hbody : ∀ k, k < m → J k → AW P F n K body (rangeJQ b0 b1 (rangeI idx len k m (R (k + 1))) (J (k + 1)) Q) ((.s lt, .d (.sc (.bool true))) :: rangeI idx len k m (R k)))
    (hdone : J m → Q .normal ((.s lt, .d (.sc (.bool false))) :: rangeI idx len m m (R m))) :
    AW P F n K (.loop (.seq (.region r1 #[o1] false) (.seq (.cond (.tmp lt) .skip (.exit b0)) (.seq (.block b1 body) (.region r2 #[o2, o3] false))))) (blockQ b0 Q) E :=
  AW.rangeX (X := Unit) hF h1 h1d h1g h2 h2d h2g h3 h3d h3g m hm (fun k _ => R k) (fun k _ => J k) () hJ (fun k _ => hok k) h0 (fun k _ hk hj => (hbody k hk hj).mono (rangeXQ.mono fun E h => ⟨(), h.2, h.1⟩)) (fun _ h => hdone h)
end
abbrev Wq := @AW.seq
abbrev Wb := @AW.block
abbrev Wl := @AW.label
abbrev Wk := @AW.skip
abbrev We := @AW.exit
abbrev Wv := @AL.steps
abbrev Wn := @AL.nil
section
variable {F : Fence} {n : Nat} {K : List Nat} {E E' : Env} {τ : Nat → Option TI} {ops : Array Oper} {Q : Exit → Env → Prop} {id : Nat} {rest : List Oper}
theorem Wr (hF : Wide F) (hτ : ∀ t ti, τ t = some ti → mkTI P t = some ti) (h : VL.steps τ n K ops E ops.toList = (E', [])) (hq : Q .normal E') : AW P F n K (.region id ops false) Q E := AW.region (AL.steps hF hτ h (AL.nil hq))
theorem Ws (hF : Wide F) (hτ : ∀ t ti, τ t = some ti → mkTI P t = some ti) (h : VL.steps τ n K ops E ops.toList = (E', rest)) (hq : AL P F n K ops rest (Q .normal) E') : AW P F n K (.region id ops false) Q E := AW.region (AL.steps hF hτ h hq)
end
end Go.Proofs.VL
