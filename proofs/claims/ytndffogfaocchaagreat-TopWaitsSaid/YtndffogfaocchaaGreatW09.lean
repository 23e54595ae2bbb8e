import Derived.Test.YtndffogfaocchaaGreatW08
set_option linter.unusedVariables false
set_option linter.unusedSimpArgs false
set_option linter.unusedSectionVars false
namespace Go.Proofs.VL
open Go Go.RowKit
variable {P : Program}
def renL (g : Loc → Option Loc) : List Loc → Option (List Loc)
  | [] => some []
  | l :: ls => match g l, renL g ls with | some l', some ls' => some (l' :: ls') | _, _ => none
mutual
def V.ren (g : Loc → Option Loc) : V → Option V
  | .d x => some (.d x)
  | .row m e xs => some (.row m e xs)
  | .mp t es => some (.mp t es)
  | .it t todo cur => some (.it t todo cur)
  | .rp cs o => some (.rp cs o)
  | .raw p => some (.raw p)
  | .kt => some .kt
  | .kf => some .kf
  | .ag cs => (match rens g cs with | some cs' => some (.ag cs') | none => none)
  | .tu cs => (match rens g cs with | some cs' => some (.tu cs') | none => none)
  | .bx e cs => (match rens g cs with | some cs' => some (.bx e cs') | none => none)
  | .fn f cs => (match rens g cs with | some cs' => some (.fn f cs') | none => none)
  | .ob ls p => (match renL g ls with | some ls' => some (.ob ls' p) | none => none)
  | .ref l => (match g l with | some l' => some (.ref l') | none => none)
  | .fld l o => (match g l with | some l' => some (.fld l' o) | none => none)
  | .elt l o => (match g l with | some l' => some (.elt l' o) | none => none)
  | .sub l i o m => (match g l with | some l' => some (.sub l' i o m) | none => none)
def rens (g : Loc → Option Loc) : List V → Option (List V)
  | [] => some []
  | v :: vs => match v.ren g, rens g vs with | some v', some vs' => some (v' :: vs') | _, _ => none
end
theorem rens_get {g : Loc → Option Loc} : ∀ {cs cs' : List V}, rens g cs = some cs' → cs'.length = cs.length ∧ ∀ (i : Nat) (v' : V), cs'[i]? = some v' → ∃ v, cs[i]? = some v ∧ v.ren g = some v'
  | [], cs', h => by cases h; exact ⟨rfl, fun i v h => by simp at h⟩
  | v :: cs, cs', h => by
    simp only [rens] at h
    split at h
    · rename_i v1 cs1 h1 h2
      cases h
      obtain ⟨k1, k2⟩ := rens_get h2
      refine ⟨by simp [k1], fun i v' hi => ?_⟩
      cases i with
      | zero => simp at hi; subst hi; exact ⟨v, rfl, h1⟩
      | succ i => simpa using k2 i v' (by simpa using hi)
    · cases h
theorem renL_get {g : Loc → Option Loc} : ∀ {ls ls' : List Loc}, renL g ls = some ls' → ls'.length = ls.length ∧ ∀ (i : Nat) (l' : Loc), ls'[i]? = some l' → ∃ l, ls[i]? = some l ∧ g l = some l'
  | [], ls', h => by cases h; exact ⟨rfl, fun i v h => by simp at h⟩
  | l :: ls, ls', h => by
    simp only [renL] at h
    split at h
    · rename_i v1 cs1 h1 h2
      cases h
      obtain ⟨k1, k2⟩ := renL_get h2
      refine ⟨by simp [k1], fun i v' hi => ?_⟩
      cases i with
      | zero => simp at hi; subst hi; exact ⟨l, rfl, h1⟩
      | succ i => simpa using k2 i v' (by simpa using hi)
    · cases h
theorem isCell_ren {g : Loc → Option Loc} {v v' : V} (h : v.ren g = some v') : isCell v' = isCell v := by
  cases v <;> simp only [V.ren] at h <;> first
    | (cases h; rfl)
    | (split at h <;> first | (cases h; rfl) | cases h)
theorem RepV.ren {w : World} {N L : Cells} {T T' : Loc → Option Value} {v : V} {c : Value} {R : Blocks} (h : RepV P w N L T v c R) {g : Loc → Option Loc}
    (hT : ∀ l l' c, g l = some l' → T l = some c → T' l' = some c) : ∀ {v' : V}, v.ren g = some v' → RepV P w N L T' v' c R := by
  induction h with
  | d x c R h => intro v' hv; cases hv; exact .d x c R h
  | ag cs vals R hl hc h ih =>
    intro v' hv
    simp only [V.ren] at hv
    split at hv
    · rename_i cs' h1
      cases hv
      obtain ⟨k1, k2⟩ := rens_get h1
      refine .ag cs' vals R (by rw [k1, hl]) (fun i v hi => ?_) (fun i v hi => ?_)
      · obtain ⟨u, hu, hr⟩ := k2 i v hi; rw [isCell_ren hr]; exact hc i u hu
      · obtain ⟨u, hu, hr⟩ := k2 i v hi; exact ih i u hu hr
    · cases hv
  | tu cs vals R hl h ih =>
    intro v' hv
    simp only [V.ren] at hv
    split at hv
    · rename_i cs' h1
      cases hv
      obtain ⟨k1, k2⟩ := rens_get h1
      refine .tu cs' vals R (by rw [k1, hl]) (fun i v hi => ?_)
      obtain ⟨u, hu, hr⟩ := k2 i v hi; exact ih i u hu hr
    · cases hv
  | row m e xs b cap k bl cv R hb hs hcap hcm hl he hk hc hr hm hm' hm2 hm3 hR => intro v' hv; cases hv; exact .row m e xs b cap k bl cv R hb hs hcap hcm hl he hk hc hr hm hm' hm2 hm3 hR
  | rownil m e R => intro v' hv; cases hv; exact .rownil m e R
  | bx e cs b vals R hb hl hc h hL hRb ih =>
    intro v' hv
    simp only [V.ren] at hv
    split at hv
    · rename_i cs' h1
      cases hv
      obtain ⟨k1, k2⟩ := rens_get h1
      refine .bx e cs' b vals R hb (by rw [k1, hl]) (fun i v hi => ?_) (fun i v hi => ?_) hL hRb
      · obtain ⟨u, hu, hr⟩ := k2 i v hi; rw [isCell_ren hr]; exact hc i u hu
      · obtain ⟨u, hu, hr⟩ := k2 i v hi; exact ih i u hu hr
    · cases hv
  | mp t es b ents clock R hb h hst hR => intro v' hv; cases hv; exact .mp t es b ents clock R hb h hst hR
  | it t todo cur rb mb ents clock seen es R hrb hmb hne h hst ht hc h1 h2 => intro v' hv; cases hv; exact .it t todo cur rb mb ents clock seen es R hrb hmb hne h hst ht hc h1 h2
  | rp cs off b o cv R hc hr => intro v' hv; cases hv; exact .rp cs off b o cv R hc hr
  | ref l c R h hc =>
    intro v' hv
    simp only [V.ren] at hv
    split at hv
    · rename_i l' h1; cases hv; exact .ref l' c R (hT _ _ _ h1 h) hc
    · cases hv
  | fld l off b R h =>
    intro v' hv
    simp only [V.ren] at hv
    split at hv
    · rename_i l' h1; cases hv; exact .fld l' off b R (hT _ _ _ h1 h)
    · cases hv
  | elt l x b n cap R h =>
    intro v' hv
    simp only [V.ren] at hv
    split at hv
    · rename_i l' h1; cases hv; exact .elt l' x b n cap R (hT _ _ _ h1 h)
    · cases hv
  | sub l i o m b n cap R h =>
    intro v' hv
    simp only [V.ren] at hv
    split at hv
    · rename_i l' h1; cases hv; exact .sub l' i o m b n cap R (hT _ _ _ h1 h)
    · cases hv
  | fn f cs vals R hl h ih =>
    intro v' hv
    simp only [V.ren] at hv
    split at hv
    · rename_i cs' h1
      cases hv
      obtain ⟨k1, k2⟩ := rens_get h1
      refine .fn f cs' vals R (by rw [k1, hl]) (fun i v hi => ?_)
      obtain ⟨u, hu, hr⟩ := k2 i v hi; exact ih i u hu hr
    · cases hv
  | raw p c R hc h => intro v' hv; cases hv; exact .raw p c R hc h
  | ob ls p c R cs hc hlen hl h =>
    intro v' hv
    simp only [V.ren] at hv
    split at hv
    · rename_i ls' h1
      cases hv
      obtain ⟨k1, k2⟩ := renL_get h1
      exact .ob ls' p c R cs hc (by rw [hlen, k1]) (fun i l' hi => by obtain ⟨l, q1, q2⟩ := k2 i l' hi; exact hT _ _ _ q2 (hl i l q1)) h
    · cases hv
  | kt R => intro v' hv; cases hv; exact .kt R
  | kf R => intro v' hv; cases hv; exact .kf R
abbrev Mv := List (Nat × Loc)
def inN (mv : Mv) : Loc → Option Loc
  | l => match mv.find? (fun p => lq p.2 l) with
    | some p => some (.s p.1)
    | none => (match l with
      | .c j k => (match mv.find? (fun p => lq p.2 (.s j)) with | some p => some (.c p.1 k) | none => none)
      | .s _ => none)
def outN (mv : Mv) : Loc → Option Loc
  | .s i => (match mv.find? (fun p => Nat.beq p.1 i) with | some p => some p.2 | none => none)
  | .c i k => (match mv.find? (fun p => Nat.beq p.1 i) with | some (_, .s j) => some (.c j k) | _ => none)
def rawsO (E : Env) : List Operand → Option (List V)
  | [] => some []
  | x :: xs => match copyO E x, rawsO E xs with | some v, some vs => some (v :: vs) | _, _ => none
def calleeX (E : Env) : Operand → Option (Nat × List V)
  | .func f => some (f, [])
  | .tmp t => (match own E (.s t) with | some (_, .fn f cs) => some (f, cs) | _ => none)
  | _ => none
def mvs (E : Env) : Nat → List V → Mv
  | _, [] => []
  | i, v :: vs => match nameless (derefV E v) with
    | true => mvs E (i + 1) vs
    | false => (match v with
      | .ref l => (match own E l with | some (l', u) => (match isOwned u with | true => (i, l') :: mvs E (i + 1) vs | false => mvs E (i + 1) vs) | none => mvs E (i + 1) vs)
      | _ => mvs E (i + 1) vs)
def argX (E : Env) (mv : Mv) : Nat → List V → Option Env
  | _, [] => some []
  | i, v :: vs => match argX E mv (i + 1) vs with
    | none => none
    | some A => (match nameless (derefV E v) with
      | true => some ((.s i, derefV E v) :: A)
      | false => (match v with
        | .ref l => (match own E l with
          | some (l', u) => (match outN mv (.s i) with
            | some l'' => (match lq l'' l', u.ren (inN mv) with | true, some u' => some ((.s i, u') :: A) | _, _ => none)
            | none => none)
          | none => none)
        | _ => none))
def subX (mv : Mv) : Env → Option Env
  | [] => some []
  | (.s _, _) :: E => subX mv E
  | (.c j k, v) :: E => match mv.find? (fun p => lq p.2 (.c j k)), mv.find? (fun p => lq p.2 (.s j)) with
    | none, some p => (match v.ren (inN mv), subX mv E with | some v', some A => some ((.c p.1 k, v') :: A) | _, _ => none)
    | _, _ => subX mv E
def goes (mv : Mv) (l : Loc) : Bool := match inN mv l with | some _ => true | none => false
def stayX (mv : Mv) : Env → Env
  | [] => []
  | (l, v) :: E => match goes mv l with | true => stayX mv E | false => (l, v) :: stayX mv E
def firm (mv : Mv) (d : Nat) : Loc → Bool
  | .s t => !(Nat.beq t d)
  | .c j k => (match mv.find? (fun p => lq p.2 (.c j k)) with | some _ => true | none => !(mv.any fun p => lq p.2 (.s j)))
def mkA (E : Env) (mv : Mv) (raws : List V) : Option Env := match argX E mv 0 raws, subX mv E with
  | some A, some C => some (A ++ C)
  | _, _ => none
def backX (mv : Mv) : Env → Option Env
  | [] => some []
  | (l, v) :: H => match outN mv l, v.ren (outN mv), backX mv H with | some l', some v', some H' => some ((l', v') :: H') | _, _, _ => none
def FnX (P : Program) (F : Fence) (f na : Nat) (A : Env) (r : V) (H : Env) : Prop := Fn P F f na A (fun E1 => E1 = (.s na, r) :: H)
def locIn (K : List Nat) : Loc → Bool | .s i => K.contains i | .c _ _ => true
mutual
def V.allN (p : Loc → Bool) : V → Bool
  | .d _ | .row .. | .mp .. | .it .. | .rp .. | .raw _ | .kt | .kf => true
  | .ag cs | .tu cs | .bx _ cs | .fn _ cs => allNs p cs
  | .ob ls _ => ls.all p
  | .ref k | .fld k _ | .elt k _ | .sub k _ _ _ => p k
def allNs (p : Loc → Bool) : List V → Bool
  | [] => true
  | v :: vs => v.allN p && allNs p vs
end
theorem allNs_get {p : Loc → Bool} : ∀ {cs : List V}, allNs p cs = true → ∀ (i : Nat) (v : V), cs[i]? = some v → v.allN p = true
  | [], _, i, v, h => by simp at h
  | u :: cs, h, i, v, hi => by
    simp only [allNs, Bool.and_eq_true] at h
    cases i with
    | zero => simp at hi; subst hi; exact h.1
    | succ i => exact allNs_get h.2 i v (by simpa using hi)
theorem RepV.congrIn {w : World} {N L : Cells} {T T' : Loc → Option Value} {v : V} {c : Value} {R : Blocks} {p : Loc → Bool} (h : RepV P w N L T v c R) (hT : ∀ l c, p l = true → T l = some c → T' l = some c) : v.allN p = true → RepV P w N L T' v c R := by
  induction h with
  | d x c R h => intro _; exact .d x c R h
  | ag cs vals R hl hc h ih => intro hv; exact .ag cs vals R hl hc (fun i v hi => ih i v hi (allNs_get (by simpa [V.allN] using hv) i v hi))
  | tu cs vals R hl h ih => intro hv; exact .tu cs vals R hl (fun i v hi => ih i v hi (allNs_get (by simpa [V.allN] using hv) i v hi))
  | row m e xs b cap k bl cv R hb hs hcap hcm hl he hk hc hr hm hm' hm2 hm3 hR => intro _; exact .row m e xs b cap k bl cv R hb hs hcap hcm hl he hk hc hr hm hm' hm2 hm3 hR
  | rownil m e R => intro _; exact .rownil m e R
  | bx e cs b vals R hb hl hc h hL hRb ih => intro hv; exact .bx e cs b vals R hb hl hc (fun i v hi => ih i v hi (allNs_get (by simpa [V.allN] using hv) i v hi)) hL hRb
  | mp t es b ents clock R hb h hst hR => intro _; exact .mp t es b ents clock R hb h hst hR
  | it t todo cur rb mb ents clock seen es R hrb hmb hne h hst ht hc h1 h2 => intro _; exact .it t todo cur rb mb ents clock seen es R hrb hmb hne h hst ht hc h1 h2
  | rp cs off b o cv R hc hr => intro _; exact .rp cs off b o cv R hc hr
  | ref l c R h hc => intro hv; exact .ref l c R (hT l _ (by simpa [V.allN] using hv) h) hc
  | fld l off b R h => intro hv; exact .fld l off b R (hT l _ (by simpa [V.allN] using hv) h)
  | elt l x b n cap R h => intro hv; exact .elt l x b n cap R (hT l _ (by simpa [V.allN] using hv) h)
  | sub l i o m b n cap R h => intro hv; exact .sub l i o m b n cap R (hT l _ (by simpa [V.allN] using hv) h)
  | fn f cs vals R hl h ih => intro hv; exact .fn f cs vals R hl (fun i v hi => ih i v hi (allNs_get (by simpa [V.allN] using hv) i v hi))
  | raw p c R hc h => intro _; exact .raw p c R hc h
  | ob ls q c R cs hc hlen hl h => intro hv; exact .ob ls q c R cs hc hlen (fun i l hi => hT l _ (List.all_eq_true.1 (by simpa [V.allN] using hv) l (List.mem_of_getElem? hi)) (hl i l hi)) h
  | kt R => intro _; exact .kt R
  | kf R => intro _; exact .kf R
section
variable {F : Fence} {n : Nat} {K : List Nat} {o : Oper} {E E' : Env} {τ : Nat → Option TI}
theorem plain_notOwned {v : V} (h : plain v = true) : isOwned v = false := by cases v <;> first | rfl | (simp [plain] at h)
theorem derefV_own {v u : V} (h : derefV E v = u) (ho : isOwned u = true) : v = u := by
  cases v <;> first
    | exact h
    | (simp only [derefV] at h; subst h; cases ho)
    | (simp only [derefV, deref1] at h; split at h <;> (subst h; cases ho))
theorem retV_own {rs : List ResultVar} {v : V} (h : retV τ rs E = some v) (ho : isOwned v = true) : ∃ t, rs = [.tmp t] ∧ look E (.s t) = some v := by
  unfold retV at h
  split at h
  · rename_i r
    cases r with
    | tmp t =>
      simp only [retC] at h
      split at h
      · rename_i u hu
        split at h
        · have e : normK (derefV E u) = v := by simpa using h
          have e2 : derefV E u = v := by
            cases hd : derefV E u <;> rw [hd] at e <;> first | exact e | (simp only [normK] at e; subst e; cases ho)
          have := derefV_own e2 ho
          subst this
          exact ⟨t, rfl, hu⟩
        · cases h
      · cases h
    | cell a t =>
      exfalso
      simp only [retC] at h
      split at h
      · rename_i cs ti h1 h2
        split at h
        · rename_i hc
          simp only [Bool.and_eq_true] at hc
          split at h
          · rename_i u hu
            split at h
            · cases h
              unfold ofCells at hu
              split at hu
              · cases hu; cases ho
              · split at hu
                · split at hu
                  · rename_i c hcs
                    cases hu
                    have := plains_get hc.1.2 (i := 0) (v := v) (by rw [hcs]; rfl)
                    rw [plain_notOwned this] at ho; cases ho
                  · cases hu
                · cases hu
            · cases h
          · cases h
        · cases h
      · cases h
  · split at h
    · cases h; cases ho
    · cases h
def okH (K : List Nat) (na : Nat) (H : Env) : Bool := (H.all fun p => locIn K p.1 && p.2.allN (locIn K)) && (K.all fun k => Nat.blt k na) && nodupB (H.map Prod.fst)
def clearOf (H : Env) : List ResultVar → Bool
  | [.tmp t] => H.all fun p => !(lq p.1 (.s t))
  | _ => true
theorem Fn.of_AWX (hF : Wide F) (hro : F.round = none) (hτ : ∀ t ti, τ t = some ti → mkTI P t = some ti) {f : Nat} {fn : Func} {c : Code} (hf : P.funcs[f]? = some fn) (hb : fn.body = some c) (hnm : (fn.name == "runtime.NumGoroutine") = false) (hn : fn.ntmps = n) {na : Nat} {A : Env} {X : Type} {J : X → Prop} {r0 : X → V} {H0 : X → Env} (hvs : na ≤ n)
    (hok : ∀ x, okH K na (H0 x) = true) (hcl : ∀ x, clearOf (H0 x) fn.results.toList = true)
    (h : AW P F n K c (fun e E => (e = .normal ∨ e = .ret) ∧ ∃ x, J x ∧ retV τ fn.results.toList E = some (r0 x) ∧ Sub (H0 x) E) A) : Fn P F f na A (fun E1 => ∃ x, J x ∧ E1 = (.s na, r0 x) :: H0 x) := by
  refine ⟨⟨fn, hf, hnm, by rw [hb]; rfl⟩, fun w N L γ R vals hr hsz => ?_⟩
  refine callsIn_of_wp hf hb (hF.fn f) ?_ hro
  have hle : vals.size ≤ n := by rw [hsz]; exact hvs
  have hr2 : Rel P w N L (vals ++ Array.replicate (fn.ntmps - vals.size) undef) γ R A := by
    have hT : ∀ l c, Tof vals γ l = some c → Tof (vals ++ Array.replicate (fn.ntmps - vals.size) undef) γ l = some c := by
      intro l c hl
      cases l with
      | s t =>
        simp only [Tof] at hl ⊢
        have := (Array.getElem?_eq_some_iff.1 hl).1
        rw [Array.getElem?_append_left this]; exact hl
      | c t i => exact hl
    exact ⟨fun l v hm => let ⟨c, h1, h2⟩ := hr.rep l v hm; ⟨c, hT _ _ h1, h2.congrAll hT⟩, hr.nd, hr.dis, hr.lt, hr.NL, hr.Llt⟩
  have := h w N L γ R _ [] hr2 (by simp; omega)
  refine wpIn_mono this fun e a' w' hp => ?_
  obtain ⟨E', N', L', γ', R', ⟨he, x1, hJ1, hret, hsub⟩, hA⟩ := hp
  have hok := hok x1
  have hcl := hcl x1
  have hpost : ∀ E1, E1 = (.s na, r0 x1) :: H0 x1 → ∃ x, J x ∧ E1 = (.s na, r0 x) :: H0 x := fun E1 h => ⟨x1, hJ1, h⟩
  generalize r0 x1 = r at *
  generalize H0 x1 = H at *
  obtain ⟨hnl, cr, l, hrun, hrep⟩ := retV_ok hA.rel hτ hret
  simp only [okH, Bool.and_eq_true, List.all_eq_true, Nat.blt_eq] at hok
  obtain ⟨⟨hok1, hok2⟩, hok3⟩ := hok
  have hT : ∀ l c, locIn K l = true → Tof a'.tmps γ' l = some c → Tof (vals.push cr) γ' l = some c := by
    intro l c hl h
    cases l with
    | s t =>
      simp only [locIn, List.contains_eq_mem, decide_eq_true_eq] at hl
      have h1 := hA.kept t hl
      have h2 := hok2 t hl
      simp only [Tof] at h ⊢
      rw [h1, Array.getElem?_append_left (by omega)] at h
      rw [Array.getElem?_push_lt (by omega), ← Array.getElem?_eq_getElem (by omega)]; exact h
    | c t i => exact h
  -- who owns the result
  have hown : ∃ S : Blocks, (∀ T, RepV P w' N' L' T r cr S) ∧ (∀ x, S x → St R' x) ∧ ∀ p ∈ H, ∀ x, R' p.1 x → ¬ S x := by
    cases ho : isOwned r with
    | false => exact ⟨none_, fun T => (hrep.plain ho none_).congrN hnl, fun x h => h.elim, fun _ _ _ _ h => h.elim⟩
    | true =>
      obtain ⟨t, hrs, hlk⟩ := retV_own hret ho
      obtain ⟨c2, q1, q2⟩ := hA.rel.rep _ _ (look_mem hlk)
      have hcr : c2 = cr := by
        have q1' : a'.tmps[t]? = some c2 := q1
        have hx : fn.results = #[.tmp t] := by
          rw [← Array.toArray_toList (xs := fn.results), hrs]
        have : (results fn a'.tmps).run P w' = .ok c2 w' := by
          unfold results
          rw [hx]
          simp [Array.getD_eq_getD_getElem?, q1']
        rw [this] at hrun
        exact (Result.ok.inj hrun).1
      subst hcr
      refine ⟨R' (.s t), fun T => q2.congrN hnl, fun x h => ⟨_, h⟩, fun p hp x hx hx2 => ?_⟩
      rw [hrs] at hcl
      simp only [clearOf, List.all_eq_true, Bool.not_eq_true'] at hcl
      exact hA.rel.dis _ _ _ (lq_ne (hcl p hp)) hx hx2
  obtain ⟨S, hS1, hS2, hS3⟩ := hown
  have hnaH : ∀ p ∈ H, p.1 ≠ .s na := by
    intro p hp e
    have := (hok1 p hp)
    rw [e] at this
    simp only [locIn, List.contains_eq_mem, decide_eq_true_eq] at this
    have := hok2 na this.1
    omega
  let R2 : Loc → Blocks := fun l' => if l' = .s na then S else if (H.any fun p => lq p.1 l') = true then R' l' else none_
  have hR2 : ∀ l' x, l' ≠ .s na → R2 l' x → R' l' x ∧ ∃ p ∈ H, p.1 = l' := by
    intro l' x hne hx
    simp only [R2, if_neg hne] at hx
    split at hx
    · rename_i hany
      obtain ⟨p, hp, hq⟩ := List.any_eq_true.1 hany
      exact ⟨hx, p, hp, lq_iff.1 hq⟩
    · exact hx.elim
  have key : bodyPost P fn (RPost P w N L R vals (fun E1 => ∃ x, J x ∧ E1 = (.s na, r0 x) :: H0 x)) .ret a' w' := by
    refine ⟨hA.defers, cr, hrun, _, N', L', γ', R2, hpost _ rfl, ⟨?_, ?_, ?_, ?_, hA.rel.NL, hA.rel.Llt⟩, hA.later, ?_⟩
    · intro s u hm
      rcases List.mem_cons.1 hm with h | hm
      · cases h
        refine ⟨cr, by rw [← hsz]; simp [Tof], ?_⟩
        have : R2 (.s na) = S := by simp [R2]
        rw [this]
        exact hS1 _
      · have hlk := hsub s u (look_of_mem (nodupB_ok hok3) hm)
        obtain ⟨c2, q1, q2⟩ := hA.rel.rep _ _ (look_mem hlk)
        have hin := hok1 _ hm
        refine ⟨c2, hT _ _ hin.1 q1, ?_⟩
        have : R2 s = R' s := by
          simp only [R2, if_neg (hnaH _ hm)]
          rw [if_pos (List.any_eq_true.2 ⟨_, hm, lq_iff.2 rfl⟩)]
        rw [this]
        exact q2.congrIn hT hin.2
    · show (Loc.s na :: H.map Prod.fst).Nodup
      rw [List.nodup_cons]
      refine ⟨fun hm => ?_, nodupB_ok hok3⟩
      obtain ⟨p, hp, e⟩ := List.mem_map.1 hm
      exact hnaH p hp e
    · intro a b x hab ha hb
      by_cases ea : a = .s na
      · have eb : b ≠ .s na := fun e => hab (ea.trans e.symm)
        obtain ⟨hb1, p, hp, rfl⟩ := hR2 b x eb hb
        have : R2 a = S := by simp [R2, ea]
        rw [this] at ha
        exact hS3 p hp x hb1 ha
      · obtain ⟨ha1, p, hp, rfl⟩ := hR2 a x ea ha
        by_cases eb : b = .s na
        · have : R2 b = S := by simp [R2, eb]
          rw [this] at hb
          exact hS3 p hp x ha1 hb
        · obtain ⟨hb1, _⟩ := hR2 b x eb hb
          exact hA.rel.dis _ _ _ hab ha1 hb1
    · intro l' x hx
      by_cases e : l' = .s na
      · have : R2 l' = S := by simp [R2, e]
        rw [this] at hx
        obtain ⟨z, hz⟩ := hS2 x hx
        exact hA.rel.lt _ _ hz
      · exact hA.rel.lt _ _ (hR2 l' x e hx).1
    · rintro x ⟨l', hx⟩
      by_cases e : l' = .s na
      · have : R2 l' = S := by simp [R2, e]
        rw [this] at hx
        exact hA.own x (hS2 x hx)
      · exact hA.own x ⟨_, (hR2 l' x e hx).1⟩
  rcases he with rfl | rfl
  · exact key
  · exact key
theorem FnX.of_AW (hF : Wide F) (hro : F.round = none) (hτ : ∀ t ti, τ t = some ti → mkTI P t = some ti) {f : Nat} {fn : Func} {c : Code} (hf : P.funcs[f]? = some fn) (hb : fn.body = some c) (hnm : (fn.name == "runtime.NumGoroutine") = false) (hn : fn.ntmps = n) {na : Nat} {A : Env} {r : V} {H : Env} (hvs : na ≤ n)
    (hok : okH K na H = true) (hcl : clearOf H fn.results.toList = true)
    (h : AW P F n K c (fun e E => (e = .normal ∨ e = .ret) ∧ retV τ fn.results.toList E = some r ∧ Sub H E) A) : FnX P F f na A r H := by
  have := Fn.of_AWX (X := Unit) (J := fun _ => True) (r0 := fun _ => r) (H0 := fun _ => H) hF hro hτ hf hb hnm hn hvs (fun _ => hok) (fun _ => hcl) (h.mono fun e E hq => ⟨hq.1, (), trivial, hq.2⟩)
  exact ⟨this.callable, fun w N L γ R vals hr hsz => CallsIn.mono (this.run w N L γ R vals hr hsz) fun e w' he => by
    cases e with
    | returned c => exact let ⟨E', N', L', γ', R', ⟨_, _, h1⟩, h2⟩ := he; ⟨E', N', L', γ', R', h1, h2⟩
    | panicked ch => exact he
    | outgrown => exact he⟩
def okX (n : Nat) (K : List Nat) (E : Env) (mv : Mv) (na d : Nat) : Bool :=
  Nat.blt d n && !(K.contains d) && !(anyOf (.s d) E) && (mv.all fun p => Nat.blt p.1 na) && decide (mv.map Prod.fst).Nodup && nodupB (mv.map Prod.snd) && ((stayX mv E).all fun p => p.2.allN (firm mv d)) &&
  (mv.all fun p => match p.2 with | .s _ => true | .c j _ => !(mv.any fun q => lq q.2 (.s j)))
structure MvOK (mv : Mv) : Prop where
  fst : (mv.map Prod.fst).Nodup
  snd : (mv.map Prod.snd).Nodup
  apart : ∀ i j k, (i, Loc.c j k) ∈ mv → ∀ q ∈ mv, q.2 ≠ .s j
theorem find_some {mv : Mv} {q : Nat × Loc → Bool} {p : Nat × Loc} (h : mv.find? q = some p) : p ∈ mv ∧ q p = true := ⟨List.mem_of_find?_eq_some h, List.find?_some h⟩
theorem find_snd {mv : Mv} (hn : (mv.map Prod.snd).Nodup) {i : Nat} {l : Loc} (h : (i, l) ∈ mv) : mv.find? (fun p => lq p.2 l) = some (i, l) := by
  induction mv with
  | nil => cases h
  | cons p mv ih =>
    simp only [List.map_cons, List.nodup_cons] at hn
    rw [List.find?_cons]
    cases h with
    | head => rw [lq_self]
    | tail _ h =>
      have : lq p.2 l = false := by
        cases hq : lq p.2 l with
        | false => rfl
        | true =>
          have := lq_iff.1 hq
          exact absurd (List.mem_map.2 ⟨_, h, this.symm⟩) hn.1
      rw [this]
      exact ih hn.2 h
theorem find_fst {mv : Mv} (hn : (mv.map Prod.fst).Nodup) {i : Nat} {l : Loc} (h : (i, l) ∈ mv) : mv.find? (fun p => Nat.beq p.1 i) = some (i, l) := by
  induction mv with
  | nil => cases h
  | cons p mv ih =>
    simp only [List.map_cons, List.nodup_cons] at hn
    rw [List.find?_cons]
    cases h with
    | head => simp
    | tail _ h =>
      have : Nat.beq p.1 i = false := by
        cases hq : Nat.beq p.1 i with
        | false => rfl
        | true =>
          have := Nat.eq_of_beq_eq_true hq
          exact absurd (List.mem_map.2 ⟨_, h, this.symm⟩) hn.1
      rw [this]
      exact ih hn.2 h
theorem find_none {mv : Mv} {l : Loc} (h : ∀ q ∈ mv, q.2 ≠ l) : mv.find? (fun p => lq p.2 l) = none := by
  rw [List.find?_eq_none]
  intro p hp hq
  exact h p hp (lq_iff.1 hq)
theorem outN_inN {mv : Mv} (ok : MvOK mv) {h l : Loc} (ho : outN mv h = some l) : inN mv l = some h := by
  cases h with
  | s i =>
    simp only [outN] at ho
    split at ho
    · rename_i p hp
      cases ho
      obtain ⟨h1, h2⟩ := find_some hp
      obtain rfl := Nat.eq_of_beq_eq_true h2
      simp only [inN, find_snd ok.snd (i := p.1) (l := p.2) h1]
    · cases ho
  | c i k =>
    simp only [outN] at ho
    split at ho
    · rename_i i' j hp
      cases ho
      obtain ⟨h1, h2⟩ := find_some hp
      have e : i' = i := Nat.eq_of_beq_eq_true h2
      subst e
      have : mv.find? (fun p => lq p.2 (.c j k)) = none := find_none fun q hq e => by
        obtain ⟨a, b⟩ := q
        simp only at e
        subst e
        exact ok.apart a j k hq _ h1 rfl
      simp only [inN, this, find_snd ok.snd h1]
    · cases ho
theorem inN_outN {mv : Mv} (ok : MvOK mv) {h l : Loc} (ho : inN mv l = some h) : outN mv h = some l := by
  simp only [inN] at ho
  split at ho
  · rename_i p hp
    cases ho
    obtain ⟨h1, h2⟩ := find_some hp
    obtain rfl := lq_iff.1 h2
    simp only [outN, find_fst ok.fst (i := p.1) (l := p.2) h1]
  · split at ho
    · rename_i j k hnone
      split at ho
      · rename_i p hp
        cases ho
        obtain ⟨h1, h2⟩ := find_some hp
        have e := lq_iff.1 h2
        obtain ⟨a, b⟩ := p
        simp only at e
        subst e
        simp only [outN, find_fst ok.fst h1]
      · cases ho
    · cases ho
theorem rawsO_ok {w : World} {N L : Cells} {γ : Gh} {R : Loc → Blocks} {tmps : Array Value} (hr : Rel P w N L tmps γ R E) (ds : List Deferred) : ∀ {xs : List Operand} {vs : List V}, rawsO E xs = some vs → vs.length = xs.length ∧ ∀ (i : Nat) (v : V), vs[i]? = some v → RepV P w N L (Tof tmps γ) v ((xs.map (Act.eval ⟨tmps, ds⟩)).getD i undef) none_
  | [], vs, h => by cases h; exact ⟨rfl, fun i v h => by simp at h⟩
  | x :: xs, vs, h => by
    simp only [rawsO] at h
    split at h
    · rename_i v1 vs1 h1 h2
      cases h
      obtain ⟨k1, k2⟩ := rawsO_ok hr ds h2
      refine ⟨by simp [k1], fun i v hi => ?_⟩
      cases i with
      | zero => simp at hi; subst hi; exact copyO_ok hr h1 ds none_
      | succ i => simpa using k2 i v (by simpa using hi)
    · cases h
theorem calleeX_ok {w : World} {N L : Cells} {γ : Gh} {R : Loc → Blocks} {tmps : Array Value} (hr : Rel P w N L tmps γ R E) {x : Operand} {f : Nat} {cs : List V} (h : calleeX E x = some (f, cs)) (ds : List Deferred) :
    ∃ caps : Array Value, Act.eval ⟨tmps, ds⟩ x = .func (.func f) #[] caps ∧ cs.length = caps.size ∧ ∀ (i : Nat) (v : V), cs[i]? = some v → RepV P w N L (Tof tmps γ) v (caps.getD i undef) none_ := by
  cases x with
  | tmp t =>
    simp only [calleeX] at h
    split at h
    · rename_i l f' cs' ho
      cases h
      obtain ⟨c, h1, h2, h3, h4⟩ := own_ok hr ho
      cases h3 with
      | fn _ _ caps _ hl h => exact ⟨caps, eval_tmp h1, hl, h⟩
    · cases h
  | func f' =>
    simp only [calleeX] at h
    cases h
    exact ⟨#[], rfl, rfl, fun i v hi => by simp at hi⟩
  | _ => simp [calleeX] at h
theorem argX_mem {mv : Mv} : ∀ {vs : List V} {i0 : Nat} {A : Env}, argX E mv i0 vs = some A → (A.map Prod.fst = (List.range' i0 vs.length).map Loc.s) ∧ ∀ h u, (h, u) ∈ A → ∃ i v, h = .s (i0 + i) ∧ vs[i]? = some v ∧
      ((nameless u = true ∧ u = derefV E v) ∨ ∃ l0 l' u0, v = .ref l0 ∧ own E l0 = some (l', u0) ∧ outN mv (.s (i0 + i)) = some l' ∧ u0.ren (inN mv) = some u)
  | [], i0, A, h => by cases h; exact ⟨rfl, fun h u hm => by cases hm⟩
  | v :: vs, i0, A, h => by
    simp only [argX] at h
    split at h
    · cases h
    · rename_i A1 h1
      obtain ⟨k1, k2⟩ := argX_mem h1
      have lift : ∀ h u, (h, u) ∈ A1 → ∃ i w, h = .s (i0 + i) ∧ (v :: vs)[i]? = some w ∧ ((nameless u = true ∧ u = derefV E w) ∨ ∃ l0 l' u0, w = .ref l0 ∧ own E l0 = some (l', u0) ∧ outN mv (.s (i0 + i)) = some l' ∧ u0.ren (inN mv) = some u) := by
        intro h u hm
        obtain ⟨i, w, e1, e2, e3⟩ := k2 h u hm
        refine ⟨i + 1, w, by rw [e1]; congr 1; omega, by simpa using e2, ?_⟩
        rw [show i0 + (i + 1) = i0 + 1 + i by omega]
        exact e3
      split at h
      · rename_i hn
        cases h
        refine ⟨by simp [k1, List.range'_succ], fun h u hm => ?_⟩
        cases hm with
        | head => exact ⟨0, v, rfl, rfl, .inl ⟨hn, rfl⟩⟩
        | tail _ hm => exact lift h u hm
      · split at h
        · rename_i l _
          split at h
          · rename_i l' u0 ho
            split at h
            · rename_i l'' hout
              split at h
              · rename_i u' hq hren
                obtain rfl := lq_iff.1 hq
                cases h
                refine ⟨by simp [k1, List.range'_succ], fun h u hm => ?_⟩
                cases hm with
                | head => exact ⟨0, _, rfl, rfl, .inr ⟨l, l'', u0, rfl, ho, hout, hren⟩⟩
                | tail _ hm => exact lift h u hm
              · cases h
            · cases h
          · cases h
        · cases h
theorem subX_mem {mv : Mv} (ok : MvOK mv) : ∀ {E : Env} {A : Env}, (E.map Prod.fst).Nodup → subX mv E = some A → (A.map Prod.fst).Nodup ∧ ∀ h u, (h, u) ∈ A → ∃ j k v i, h = .c i k ∧ (Loc.c j k, v) ∈ E ∧ (i, Loc.s j) ∈ mv ∧ v.ren (inN mv) = some u
  | [], A, hn, h => by cases h; exact ⟨List.nodup_nil, fun h u hm => by cases hm⟩
  | (.s t, v) :: E, A, hn, h => by
    simp only [subX] at h
    simp only [List.map_cons, List.nodup_cons] at hn
    obtain ⟨k1, k2⟩ := subX_mem ok hn.2 h
    exact ⟨k1, fun h u hm => let ⟨j, k, v, i, e1, e2, e3⟩ := k2 h u hm; ⟨j, k, v, i, e1, .tail _ e2, e3⟩⟩
  | (.c j k, v) :: E, A, hn, h => by
    simp only [subX] at h
    simp only [List.map_cons, List.nodup_cons] at hn
    split at h
    · rename_i p hn1 hp
      split at h
      · rename_i v' A1 h1 h2
        cases h
        obtain ⟨k1, k2⟩ := subX_mem ok hn.2 h2
        obtain ⟨q1, q2⟩ := find_some hp
        have e := lq_iff.1 q2
        obtain ⟨i, l⟩ := p
        simp only at e
        subst e
        refine ⟨?_, fun h u hm => ?_⟩
        · simp only [List.map_cons, List.nodup_cons]
          refine ⟨fun hm => ?_, k1⟩
          obtain ⟨⟨h, u⟩, hm1, e1⟩ := List.mem_map.1 hm
          obtain ⟨j', k', v2, i', e2, e3, e4, e5⟩ := k2 h u hm1
          simp only at e1
          rw [e2] at e1
          simp only [Loc.c.injEq] at e1
          obtain ⟨rfl, rfl⟩ := e1
          have a1 := find_fst ok.fst q1
          have a2 := find_fst ok.fst e4
          rw [a1] at a2
          simp only [Option.some.injEq, Prod.mk.injEq, Loc.s.injEq, true_and] at a2
          subst a2
          exact hn.1 (List.mem_map.2 ⟨_, e3, rfl⟩)
        · cases hm with
          | head => exact ⟨j, k, v, i, rfl, .head _, q1, h1⟩
          | tail _ hm =>
            obtain ⟨j', k', v2, i', e2, e3, e4⟩ := k2 h u hm
            exact ⟨j', k', v2, i', e2, .tail _ e3, e4⟩
      · cases h
    · obtain ⟨k1, k2⟩ := subX_mem ok hn.2 h
      exact ⟨k1, fun h u hm => let ⟨j, k, v, i, e1, e2, e3⟩ := k2 h u hm; ⟨j, k, v, i, e1, .tail _ e2, e3⟩⟩
theorem stayX_mem {mv : Mv} : ∀ {E : Env} {l : Loc} {v : V}, (l, v) ∈ stayX mv E → (l, v) ∈ E ∧ inN mv l = none
  | [], l, v, h => by cases h
  | (k, u) :: E, l, v, h => by
    simp only [stayX] at h
    split at h
    · exact let ⟨h1, h2⟩ := stayX_mem h; ⟨.tail _ h1, h2⟩
    · rename_i hg
      cases h with
      | head =>
        refine ⟨.head _, ?_⟩
        simp only [goes] at hg
        split at hg
        · cases hg
        · assumption
      | tail _ h => exact let ⟨h1, h2⟩ := stayX_mem h; ⟨.tail _ h1, h2⟩
theorem stayX_sub {mv : Mv} : ∀ {E : Env}, (stayX mv E).Sublist E
  | [] => .slnil
  | (k, u) :: E => by
    simp only [stayX]
    split
    · exact stayX_sub.cons _
    · exact stayX_sub.cons_cons _
theorem backX_mem {mv : Mv} : ∀ {H H' : Env}, backX mv H = some H' → ∀ l u, (l, u) ∈ H' → ∃ h v, (h, v) ∈ H ∧ outN mv h = some l ∧ v.ren (outN mv) = some u
  | [], H', h, l, u, hm => by cases h; cases hm
  | (h0, v0) :: H, H', h, l, u, hm => by
    simp only [backX] at h
    split at h
    · rename_i l' v' H1 h1 h2 h3
      cases h
      cases hm with
      | head => exact ⟨h0, v0, .head _, h1, h2⟩
      | tail _ hm => exact let ⟨a, b, c, d⟩ := backX_mem h3 l u hm; ⟨a, b, .tail _ c, d⟩
    · cases h
theorem backX_nd {mv : Mv} (ok : MvOK mv) : ∀ {H H' : Env}, (H.map Prod.fst).Nodup → backX mv H = some H' → (H'.map Prod.fst).Nodup
  | [], H', _, h => by cases h; exact List.nodup_nil
  | (h0, v0) :: H, H', hn, h => by
    simp only [backX] at h
    simp only [List.map_cons, List.nodup_cons] at hn
    split at h
    · rename_i l' v' H1 h1 h2 h3
      cases h
      simp only [List.map_cons, List.nodup_cons]
      refine ⟨fun hm => ?_, backX_nd ok hn.2 h3⟩
      obtain ⟨⟨l2, u2⟩, hm1, e⟩ := List.mem_map.1 hm
      obtain ⟨h', v, q1, q2, q3⟩ := backX_mem h3 _ _ hm1
      simp only at e
      subst e
      have a1 := outN_inN ok h1
      have a2 := outN_inN ok q2
      rw [a1] at a2
      cases a2
      exact hn.1 (List.mem_map.2 ⟨_, q1, rfl⟩)
    · cases h
theorem mvs_mem : ∀ {vs : List V} {i0 i : Nat} {l : Loc}, (i, l) ∈ mvs E i0 vs → ∃ j v l0 u, i = i0 + j ∧ vs[j]? = some v ∧ v = .ref l0 ∧ own E l0 = some (l, u)
  | [], i0, i, l, h => by cases h
  | v :: vs, i0, i, l, h => by
    have lift : (i, l) ∈ mvs E (i0 + 1) vs → ∃ j w l0 u, i = i0 + j ∧ (v :: vs)[j]? = some w ∧ w = .ref l0 ∧ own E l0 = some (l, u) := by
      intro h
      obtain ⟨j, w, l0, u, e1, e2, e3⟩ := mvs_mem h
      exact ⟨j + 1, w, l0, u, by omega, by simpa using e2, e3⟩
    simp only [mvs] at h
    split at h
    · exact lift h
    · split at h
      · rename_i l0 _
        split at h
        · rename_i l' u ho
          split at h
          · cases h with
            | head => exact ⟨0, _, l0, u, rfl, rfl, rfl, ho⟩
            | tail _ h => exact lift h
          · exact lift h
        · exact lift h
      · exact lift h
def OpToX (P : Program) (F : Fence) (n : Nat) (K : List Nat) (o : Oper) (E : Env) (G : Env → Prop) : Prop :=
  ∀ (w : World) (N L : Cells) (γ : Gh) (R : Loc → Blocks) (tmps : Array Value) (ds : List Deferred), Rel P w N L tmps γ R E → tmps.size = n →
    o.wpIn F 0 P ⟨tmps, ds⟩ w (Mid P n K w N L R tmps ds G) (fun _ _ _ => False)
theorem OpToX.callX (hF : Wide F) {c : Call} (ho : o.op = .call c) {x : Operand} (hc : c.callee = .value x) {f : Nat} {caps ags : List V} (hx : calleeX E x = some (f, caps)) (ha : rawsO E c.args.toList = some ags) {mv : Mv} (hmv : mvs E 0 (ags ++ caps) = mv)
    {A : Env} (hA : mkA E mv (ags ++ caps) = some A) {na : Nat} (hna : (ags ++ caps).length = na) {X : Type} {J : X → Prop} {H : X → Env} {r : X → V} (hfn : Fn P F f na A (fun E1 => ∃ x, J x ∧ E1 = (.s na, r x) :: H x)) {H' : X → Env} (hH : ∀ x, backX mv (H x) = some (H' x)) {r' : X → V} (hr' : ∀ x, (r x).ren (outN mv) = some (r' x)) {d : Nat} (hd : o.dst = some d) (hok : okX n K E mv na d = true) :
    OpToX P F n K o E (fun E' => ∃ x, J x ∧ E' = (.s d, r' x) :: (H' x ++ stayX mv E)) := by
  intro w N L γ R tmps ds hr hn
  simp only [okX, Bool.and_eq_true, Bool.not_eq_true', List.all_eq_true, decide_eq_true_eq, Nat.blt_eq] at hok
  obtain ⟨⟨⟨⟨⟨⟨⟨hdn, hdK⟩, hfr⟩, hlt⟩, hnd1⟩, hnd2⟩, hfirm⟩, hap⟩ := hok
  have hdK : d ∉ K := by simpa using hdK
  have ok : MvOK mv := ⟨hnd1, nodupB_ok hnd2, fun i j k hm q hq e => by
    have := hap _ hm
    simp only [Bool.not_eq_true'] at this
    rw [List.any_eq_false] at this
    exact this q hq (by rw [e]; exact lq_iff.2 rfl)⟩
  obtain ⟨cv, hcv, hcl, hcr⟩ := calleeX_ok hr hx ds
  obtain ⟨hal, har⟩ := rawsO_ok hr ds ha
  refine wpIn_run hF (by simp [ho]) ?_
  rw [run_call_value ho hc hcv hfn.callable]
  simp only [Oper.uponIn]
  refine ⟨fun h => (by rw [hF.depth] at h; cases h), ?_⟩
  generalize hvals : c.args.map (Act.eval ⟨tmps, ds⟩) ++ cv = vals
  have hsize : vals.size = na := by rw [← hvals, ← hna]; simp [hal, hcl]
  have hget : ∀ (i : Nat) (v : V), (ags ++ caps)[i]? = some v → i < na ∧ RepV P w N L (Tof tmps γ) v (vals.getD i undef) none_ := by
    intro i v hi
    refine ⟨by rw [← hna]; exact (List.getElem?_eq_some_iff.1 hi).1, ?_⟩
    have e : vals.getD i undef = if i < ags.length then (c.args.toList.map (Act.eval ⟨tmps, ds⟩)).getD i undef else cv.getD (i - ags.length) undef := by
      have := getD_append (c.args.toList.map (Act.eval ⟨tmps, ds⟩)) cv.toList i undef
      simp only [List.length_map, ← hal] at this
      rw [← hvals, show (c.args.map (Act.eval ⟨tmps, ds⟩) ++ cv).getD i undef = (c.args.toList.map (Act.eval ⟨tmps, ds⟩) ++ cv.toList).getD i undef by simp [Array.getD_eq_getD_getElem?, List.getD_eq_getElem?_getD, ← Array.getElem?_toList], this]
      split <;> simp [Array.getD_eq_getD_getElem?, List.getD_eq_getElem?_getD, ← Array.getElem?_toList]
    rw [e]
    rw [List.getElem?_append] at hi
    split at hi
    · rename_i h1; rw [if_pos h1]; exact har i v hi
    · rename_i h1; rw [if_neg h1]; exact hcr _ v hi
  have hvi : ∀ i, i < na → vals[i]? = some (vals.getD i undef) := fun i hi => getD_of (by omega)
  -- what goes is what the argument's slot holds
  have hmvv : ∀ i l, (i, l) ∈ mv → ∃ u cc, vals[i]? = some cc ∧ Tof tmps γ l = some cc ∧ look E l = some u := by
    intro i l hm
    rw [← hmv] at hm
    obtain ⟨j, v, l0, u, rfl, h2, rfl, h4⟩ := mvs_mem hm
    rw [Nat.zero_add]
    obtain ⟨h5, h6⟩ := hget j _ h2
    obtain ⟨cc, q1, q2, q3, q4⟩ := own_ok hr h4
    cases h6 with
    | ref _ _ _ hT _ =>
      rw [q1] at hT
      cases hT
      exact ⟨u, _, hvi j h5, q2, q4⟩
  have hmvd : ∀ i l, (i, l) ∈ mv → l ≠ .s d := by
    intro i l hm
    obtain ⟨u, cc, _, _, h⟩ := hmvv i l hm
    exact (anyOf_mem hfr (look_mem h)).1
  let γc : Gh := fun i k => match outN mv (.c i k) with | some l => Tof tmps γ l | none => none
  let Rc : Loc → Blocks := fun h => match outN mv h with | some l => R l | none => none_
  have hRc : ∀ h l, outN mv h = some l → Rc h = R l := fun h l e => by simp only [Rc, e]
  have hRcn : ∀ h y, Rc h y → ∃ l, outN mv h = some l ∧ R l y := by
    intro h y hy
    cases ho : outN mv h with
    | none =>
      have : Rc h = none_ := by simp only [Rc, ho]
      rw [this] at hy; exact hy.elim
    | some l => exact ⟨l, rfl, by rw [← hRc h l ho]; exact hy⟩
  have hTc : ∀ l l' cc, inN mv l = some l' → Tof tmps γ l = some cc → Tof vals γc l' = some cc := by
    intro l l' cc h1 h2
    have hout := inN_outN ok h1
    cases l' with
    | s i =>
      simp only [outN] at hout
      split at hout
      · rename_i p hp
        cases hout
        obtain ⟨q1, q2⟩ := find_some hp
        obtain rfl := Nat.eq_of_beq_eq_true q2
        obtain ⟨u, c2, k1, k2, k3⟩ := hmvv p.1 p.2 q1
        rw [k2] at h2
        cases h2
        exact k1
      · cases hout
    | c i k => simp only [Tof, γc, hout]; exact h2
  simp only [mkA] at hA
  split at hA
  case h_2 => cases hA
  rename_i A1 A2 hA1 hA2
  cases hA
  obtain ⟨a1, a2⟩ := argX_mem hA1
  obtain ⟨b1, b2⟩ := subX_mem ok hr.nd hA2
  have hdisc : ∀ h h' y, h ≠ h' → Rc h y → ¬ Rc h' y := by
    intro h h' y hne h1 h2
    obtain ⟨l, hl, h1⟩ := hRcn h y h1
    obtain ⟨l', hl', h2⟩ := hRcn h' y h2
    refine hr.dis l l' y (fun e => ?_) h1 h2
    subst e
    have k1 := outN_inN ok hl
    have k2 := outN_inN ok hl'
    rw [k1] at k2
    cases k2
    exact hne rfl
  have hRcSt : ∀ y, St Rc y → St R y := by
    rintro y ⟨h, hy⟩
    obtain ⟨l, _, hl⟩ := hRcn h y hy
    exact ⟨_, hl⟩
  have hrelA : Rel P w N L vals γc Rc (A1 ++ A2) := by
    refine ⟨fun h u hm => ?_, ?_, hdisc, fun h y hy => ?_, hr.NL, hr.Llt⟩
    · rcases List.mem_append.1 hm with hm | hm
      · obtain ⟨i, v, rfl, h2, h3⟩ := a2 h u hm
        rw [Nat.zero_add] at h3 ⊢
        obtain ⟨k1, k2⟩ := hget i v h2
        rcases h3 with ⟨h3, rfl⟩ | ⟨l0, l', u0, rfl, h4, h5, h6⟩
        · exact ⟨_, hvi i k1, ((derefV_ok hr k2).congrN h3).more (fun y hy => hy.elim)⟩
        · obtain ⟨cc, q1, q2, q3, q4⟩ := own_ok hr h4
          have hin := outN_inN ok h5
          refine ⟨cc, hTc _ _ _ hin q2, ?_⟩
          rw [hRc _ _ h5]
          exact q3.ren hTc h6
      · obtain ⟨j, k, v, i, rfl, h2, h3, h4⟩ := b2 h u hm
        obtain ⟨cc, q1, q2⟩ := hr.rep _ _ h2
        have hout : outN mv (.c i k) = some (.c j k) := by simp only [outN, find_fst ok.fst h3]
        refine ⟨cc, hTc _ _ _ (outN_inN ok hout) q1, ?_⟩
        rw [hRc _ _ hout]
        exact q2.ren hTc h4
    · rw [List.map_append, List.nodup_append]
      refine ⟨?_, b1, fun p hp q hq e => ?_⟩
      · rw [a1]
        exact List.Pairwise.map _ (fun a b h e => h (by cases e; rfl)) List.nodup_range'
      · subst e
        rw [a1] at hp
        obtain ⟨j, _, e1⟩ := List.mem_map.1 hp
        obtain ⟨⟨h, u⟩, hm, e2⟩ := List.mem_map.1 hq
        obtain ⟨j', k, v, i, rfl, _⟩ := b2 h u hm
        rw [← e1] at e2
        cases e2
    · obtain ⟨l, hl⟩ := hRcSt y ⟨h, hy⟩
      exact hr.lt _ _ hl
  refine CallsIn.mono (hfn.run w N L γc Rc vals hrelA hsize) fun e w' he => ?_
  cases e with
  | returned cr =>
    obtain ⟨E1, N1, L1, γ1, R1, ⟨x1, hJ1, rfl⟩, g1, g2, g3⟩ := he
    have hnd1' := g1.nd
    have hnaT : ∀ cc, Tof (vals.push cr) γ1 (.s na) = some cc → cc = cr := by
      intro cc h
      simp only [Tof] at h
      rw [← hsize, Array.getElem?_push_size] at h
      exact (Option.some.inj h).symm
    let γ2 : Gh := fun j k => match inN mv (.c j k) with | some (.c i k') => γ1 i k' | _ => γ j k
    let R2 : Loc → Blocks := fun l => if l = .s d then R1 (.s na) else match inN mv l with | some h => R1 h | none => R l
    let tmps2 := tmps.setIfInBounds d cr
    have hR2d : R2 (.s d) = R1 (.s na) := by simp [R2]
    have hR2m : ∀ l h, l ≠ .s d → inN mv l = some h → R2 l = R1 h := fun l h h1 h2 => by simp only [R2, if_neg h1, h2]
    have hR2s : ∀ l, l ≠ .s d → inN mv l = none → R2 l = R l := fun l h1 h2 => by simp only [R2, if_neg h1, h2]
    have hslot : ∀ t, t ≠ d → tmps2[t]? = tmps[t]? := fun t ht => by simp only [tmps2]; rw [Array.getElem?_setIfInBounds_ne (Ne.symm ht)]
    have houtd : ∀ h l, outN mv h = some l → l ≠ .s d := by
      intro h l hl
      cases h with
      | s i =>
        simp only [outN] at hl
        split at hl
        · rename_i p hp; cases hl; exact hmvd p.1 p.2 (find_some hp).1
        · cases hl
      | c i k =>
        simp only [outN] at hl
        split at hl
        · cases hl; intro e; cases e
        · cases hl
    have hT2 : ∀ h l cc, outN mv h = some l → Tof (vals.push cr) γ1 h = some cc → Tof tmps2 γ2 l = some cc := by
      intro h l cc hl hcc
      have hin := outN_inN ok hl
      cases h with
      | s i =>
        simp only [outN] at hl
        split at hl
        · rename_i p hp
          cases hl
          obtain ⟨q1, q2⟩ := find_some hp
          obtain rfl := Nat.eq_of_beq_eq_true q2
          obtain ⟨u, c2, k1, k2, k3⟩ := hmvv p.1 p.2 q1
          have hpl := hlt _ q1
          have hcc' : cc = c2 := by
            simp only [Tof] at hcc
            rw [Array.getElem?_push_lt (by omega)] at hcc
            rw [Array.getElem?_eq_getElem (by omega)] at k1
            rw [hcc] at k1
            exact Option.some.inj k1
          subst hcc'
          obtain ⟨i, l⟩ := p
          cases l with
          | s j =>
            have hjd : j ≠ d := fun e => hmvd _ _ q1 (by rw [e])
            simp only [Tof] at k2 ⊢
            rw [hslot j hjd]; exact k2
          | c j k =>
            simp only [Tof] at k2 ⊢
            simp only [γ2, hin]
            exact k2
        · cases hl
      | c i k =>
        simp only [outN] at hl
        split at hl
        · cases hl
          simp only [Tof, γ2, hin]
          exact hcc
        · cases hl
    have hdisN : ∀ l h, l ≠ .s d → inN mv l = none → ∀ y, R l y → ¬ R1 h y := by
      intro l h hl hln y hy hy1
      rcases g3 y ⟨h, hy1⟩ with ⟨h', hc'⟩ | hge
      · obtain ⟨l', hl', hc'⟩ := hRcn h' y hc'
        refine hr.dis l l' y (fun e => ?_) hy hc'
        subst e
        rw [outN_inN ok hl'] at hln
        cases hln
      · have := hr.lt _ _ hy
        omega
    have hla := g2.moreS hRcSt
    have hne_na : ∀ l h, inN mv l = some h → h ≠ .s na := by
      intro l h hl e
      subst e
      have := inN_outN ok hl
      simp only [outN] at this
      split at this
      · rename_i p hp
        obtain ⟨q1, q2⟩ := find_some hp
        have e := Nat.eq_of_beq_eq_true q2
        have := hlt _ q1
        omega
      · cases this
    show Mid P n K w N L R tmps ds _ (Act.put ⟨tmps, ds⟩ o.dst cr) w'
    rw [hd]
    refine ⟨_, N1, L1, γ2, R2, ⟨x1, hJ1, rfl⟩, ⟨?_, ?_, ?_, ?_, g1.NL, g1.Llt⟩, by simp [Act.put, hn], rfl, fun k hk => ?_, hla, ?_⟩
    · intro l u hm
      rcases List.mem_cons.1 hm with hm | hm
      · cases hm
        obtain ⟨cc, q1, q2⟩ := g1.rep _ _ (.head _)
        obtain rfl := hnaT cc q1
        refine ⟨cc, ?_, ?_⟩
        · show (tmps.setIfInBounds d cc)[d]? = some cc
          simp [hn, hdn]
        · rw [hR2d]; exact q2.ren hT2 (hr' x1)
      · rcases List.mem_append.1 hm with hm | hm
        · obtain ⟨h, v, k1, k2, k3⟩ := backX_mem (hH x1) l u hm
          obtain ⟨cc, q1, q2⟩ := g1.rep _ _ (.tail _ k1)
          refine ⟨cc, hT2 _ _ _ k2 q1, ?_⟩
          rw [hR2m l h (houtd _ _ k2) (outN_inN ok k2)]
          exact q2.ren hT2 k3
        · obtain ⟨k1, k2⟩ := stayX_mem hm
          obtain ⟨hld, hmen⟩ := anyOf_mem hfr k1
          obtain ⟨cc, q1, q2⟩ := hr.rep _ _ k1
          have hfm := hfirm _ hm
          have q3 : RepV P w' N1 L1 (Tof tmps γ) u cc (R l) := by
            refine q2.world g2.size (fun b hb => g2.frame b (hr.lt _ _ hb) (fun ⟨h, hh⟩ => ?_)) hr.NL g2.keeps g2.N1 g2.L1 (fun b y hb h => ?_) (fun b y hb h => ?_)
            · obtain ⟨l', hl', hh⟩ := hRcn h b hh
              refine hr.dis l l' b (fun e => ?_) hb hh
              subst e
              rw [outN_inN ok hl'] at k2
              cases k2
            · rcases g2.N2 b y h with h | h | h
              · exact h
              · obtain ⟨h', hh⟩ := h
                exfalso
                obtain ⟨l', hl', hh⟩ := hRcn h' b hh
                refine hr.dis l l' b (fun e => ?_) hb hh
                subst e
                rw [outN_inN ok hl'] at k2
                cases k2
              · have := hr.lt _ _ hb; omega
            · rcases g2.L2 b y h with h | h | h
              · exact h
              · obtain ⟨h', hh⟩ := h
                exfalso
                obtain ⟨l', hl', hh⟩ := hRcn h' b hh
                refine hr.dis l l' b (fun e => ?_) hb hh
                subst e
                rw [outN_inN ok hl'] at k2
                cases k2
              · have := hr.lt _ _ hb; omega
          have hTs : ∀ l' c', firm mv d l' = true → Tof tmps γ l' = some c' → Tof tmps2 γ2 l' = some c' := by
            intro l' c' hf hT
            cases l' with
            | s t =>
              simp only [firm, Bool.not_eq_true'] at hf
              simp only [Tof] at hT ⊢
              rw [hslot t (fun e => by subst e; simp at hf)]
              exact hT
            | c j k =>
              simp only [firm] at hf
              simp only [Tof] at hT ⊢
              simp only [γ2]
              split at hf
              · rename_i p hp
                simp only [inN, hp]
                exact hT
              · rename_i hp
                have hnone : mv.find? (fun p => lq p.2 (.s j)) = none := by
                  rw [List.find?_eq_none]
                  intro p hp' hq
                  simp only [Bool.not_eq_true', List.any_eq_false] at hf
                  exact hf p hp' hq
                simp only [inN, hp, hnone]
                exact hT
          refine ⟨cc, ?_, ?_⟩
          · refine hTs l cc ?_ q1
            cases l with
            | s t =>
              simp only [firm, Bool.not_eq_true']
              cases hb : Nat.beq t d with
              | false => rfl
              | true => exact absurd (by rw [Nat.eq_of_beq_eq_true hb]) hld
            | c j k =>
              simp only [firm]
              split
              · rfl
              · rename_i hp
                simp only [inN, hp] at k2
                split at k2
                · cases k2
                · rename_i hq
                  rw [List.find?_eq_none] at hq
                  simp only [Bool.not_eq_true', List.any_eq_false]
                  exact fun p hp' => hq p hp'
          · rw [hR2s l hld k2]
            exact q3.congrIn hTs hfm
    · simp only [List.map_cons, List.map_append, List.nodup_cons, List.nodup_append, List.mem_append]
      simp only [List.map_cons, List.nodup_cons] at hnd1'
      refine ⟨fun hm => ?_, backX_nd ok hnd1'.2 (hH x1), hr.nd.sublist (stayX_sub.map _), fun p hp q hq e => ?_⟩
      · rcases hm with hm | hm
        · obtain ⟨⟨l, u⟩, hm, e⟩ := List.mem_map.1 hm
          obtain ⟨h, v, k1, k2, k3⟩ := backX_mem (hH x1) l u hm
          exact houtd _ _ k2 e
        · obtain ⟨⟨l, u⟩, hm, e⟩ := List.mem_map.1 hm
          exact (anyOf_mem hfr (stayX_mem hm).1).1 e
      · subst e
        obtain ⟨⟨l, u⟩, hm, e⟩ := List.mem_map.1 hp
        obtain ⟨⟨l2, u2⟩, hm2, e2⟩ := List.mem_map.1 hq
        simp only at e e2
        rw [← e] at e2
        subst e2
        obtain ⟨h, v, k1, k2, k3⟩ := backX_mem (hH x1) _ u hm
        have := (stayX_mem hm2).2
        rw [outN_inN ok k2] at this
        cases this
    · -- whose a block is
      have hkind : ∀ l y, R2 l y → (l = .s d ∧ R1 (.s na) y) ∨ (l ≠ .s d ∧ ∃ h, inN mv l = some h ∧ R1 h y) ∨ (l ≠ .s d ∧ inN mv l = none ∧ R l y) := by
        intro l y hy
        by_cases e : l = .s d
        · subst e; rw [hR2d] at hy; exact .inl ⟨rfl, hy⟩
        · cases hin : inN mv l with
          | none => rw [hR2s l e hin] at hy; exact .inr (.inr ⟨e, rfl, hy⟩)
          | some h => rw [hR2m l h e hin] at hy; exact .inr (.inl ⟨e, h, rfl, hy⟩)
      intro l l' y hne h1 h2
      rcases hkind l y h1 with ⟨e1, k1⟩ | ⟨e1, h, i1, k1⟩ | ⟨e1, i1, k1⟩ <;> rcases hkind l' y h2 with ⟨e2, k2⟩ | ⟨e2, h', i2, k2⟩ | ⟨e2, i2, k2⟩
      · exact hne (e1.trans e2.symm)
      · exact g1.dis _ _ _ (hne_na _ _ i2).symm k1 k2
      · exact hdisN l' _ e2 i2 y k2 k1
      · exact g1.dis _ _ _ (hne_na _ _ i1) k1 k2
      · refine g1.dis h h' y (fun e => ?_) k1 k2
        subst e
        have j1 := inN_outN ok i1
        have j2 := inN_outN ok i2
        rw [j1] at j2
        cases j2
        exact hne rfl
      · exact hdisN l' _ e2 i2 y k2 k1
      · exact hdisN l _ e1 i1 y k1 k2
      · exact hdisN l _ e1 i1 y k1 k2
      · exact hr.dis _ _ _ hne k1 k2
    · intro l y hy
      by_cases e : l = .s d
      · subst e; rw [hR2d] at hy; exact g1.lt _ _ hy
      · cases hin : inN mv l with
        | none => rw [hR2s l e hin] at hy; exact Nat.lt_of_lt_of_le (hr.lt _ _ hy) g2.size
        | some h => rw [hR2m l h e hin] at hy; exact g1.lt _ _ hy
    · have : k ≠ d := by rintro rfl; exact hdK hk
      simp [Act.put, Array.getElem?_setIfInBounds_ne (Ne.symm this)]
    · rintro y ⟨l, hy⟩
      have hR1 : ∀ h, R1 h y → St R y ∨ w.heap.size ≤ y := fun h hh => (g3 y ⟨h, hh⟩).imp (hRcSt y) id
      by_cases e : l = .s d
      · subst e; rw [hR2d] at hy; exact hR1 _ hy
      · cases hin : inN mv l with
        | none => rw [hR2s l e hin] at hy; exact .inl ⟨_, hy⟩
        | some h => rw [hR2m l h e hin] at hy; exact hR1 _ hy
  | _ => exact he.elim
theorem OpTo.callX (hF : Wide F) {c : Call} (ho : o.op = .call c) {x : Operand} (hc : c.callee = .value x) {f : Nat} {caps ags : List V} (hx : calleeX E x = some (f, caps)) (ha : rawsO E c.args.toList = some ags) {mv : Mv} (hmv : mvs E 0 (ags ++ caps) = mv)
    {A : Env} (hA : mkA E mv (ags ++ caps) = some A) {na : Nat} (hna : (ags ++ caps).length = na) {H : Env} {r : V} (hfn : FnX P F f na A r H) {H' : Env} (hH : backX mv H = some H') {r' : V} (hr' : r.ren (outN mv) = some r') {d : Nat} (hd : o.dst = some d) (hok : okX n K E mv na d = true)
    {E' : Env} (hE' : force ((.s d, r') :: (H' ++ stayX mv E)) some = some E') : OpTo P F n K o E E' := by
  intro w N L γ R tmps ds hr hn
  rw [force_eq] at hE'
  obtain rfl := Option.some.inj hE'
  have hfn' : Fn P F f na A (fun E1 => ∃ _ : Unit, True ∧ E1 = (.s na, r) :: H) := ⟨hfn.callable, fun w N L γ R vals hr hsz => CallsIn.mono (hfn.run w N L γ R vals hr hsz) fun e w' he => by
    cases e with
    | returned c => exact let ⟨E', N', L', γ', R', h1, h2⟩ := he; ⟨E', N', L', γ', R', ⟨(), trivial, h1⟩, h2⟩
    | panicked ch => exact he
    | outgrown => exact he⟩
  refine wpIn_mono_op (OpToX.callX hF ho hc hx ha hmv hA hna hfn' (fun _ => hH) (fun _ => hr') hd hok w N L γ R tmps ds hr hn) (fun a w' h => ?_) (fun _ _ _ h => h)
  exact h.mono fun E h => let ⟨_, _, e⟩ := h; e
theorem AL.opX {X : Type} {J : X → Prop} {ops : Array Oper} {l : List Oper} {Q : Env → Prop} {G : X → Env} (hg : o.guard = none) (ho : OpToX P F n K o E (fun E' => ∃ x, J x ∧ E' = G x)) (h : ∀ x, J x → AL P F n K ops l Q (G x)) : AL P F n K ops (o :: l) Q E := by
  intro w N L γ R tmps ds hr hn
  simp only [wpListIn, Region.wanted, hg, if_true]
  refine wpIn_mono_op (ho w N L γ R tmps ds hr hn) (fun a1 w1 hm => ?_) (fun _ _ _ h => h.elim)
  obtain ⟨E1, N1, L1, γ1, R1, ⟨x, hx, rfl⟩, hA⟩ := hm
  exact hA.continueL (h x hx)
end
end Go.Proofs.VL
