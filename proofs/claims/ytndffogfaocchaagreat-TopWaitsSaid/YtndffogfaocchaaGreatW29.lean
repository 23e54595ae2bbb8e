import Derived.Test.YtndffogfaocchaaGreatW14
import Derived.Test.YtndffogfaocchaaGreatW25
import Derived.Test.YtndffogfaocchaaGreatW28
import Derived.Test.YtndffogfaocchaaGreatRows
import Derived.ProofKit
import Derived.OpenShut
import Derived.ChangeOld
import Derived.Below
import Derived.SizedLaws
import Derived.Carry
import Derived.Lib.SmallJoins
import Derived.Deep.Slices
import Derived.Deep.Strs
set_option linter.unusedVariables false
set_option linter.unusedSimpArgs false
set_option linter.unusedSectionVars false
namespace Go.Proofs.VL
open Go Go.RowKit
variable {F : Fence}
theorem offs_len {s : Ship} {b a : List Stowed} {moved : List Int} (hb : b.length ≤ 12) (h : ∀ bay : Int, (rawNeed s b a moved bay).length ≤ 12) : ∀ k, (offs s b a moved k).length ≤ 36 * k
  | 0 => by simp [offs]
  | k + 1 => by
    have := offs_len hb h k
    have := offBay_len (bay := (k : Int)) hb (h k)
    rw [offs, List.length_append]
    omega
theorem ons_len {s : Ship} {b a : List Stowed} {moved : List Int} (hb : b.length ≤ 12) (ha : a.length ≤ 12) (h : ∀ bay : Int, (rawNeed s b a moved bay).length ≤ 12) : ∀ k, (ons s b a moved k).length ≤ 36 * (40 + k)
  | 0 => by have := offs_len hb h 40; rw [ons]; omega
  | k + 1 => by
    have := ons_len hb ha h k
    have := onBay_len (bay := (k : Int)) ha (h k)
    rw [ons, List.length_append]
    omega
theorem GoodPlan.movesLen {s : Ship} {boxes : List Box} {n : Nat} {ls : List (List Stowed)} (h : GoodPlan s boxes n ls) : ∀ m ∈ movesOf s ls n, m.length ≤ 2880 := by
  intro m hm
  obtain ⟨i, hi, rfl⟩ := List.mem_map.1 hm
  have hi := List.mem_range.1 hi
  have hlen := h.len
  have hl : ls.getD i [] ∈ ls := by rw [List.getD_eq_getElem?_getD, List.getElem?_eq_getElem (by omega)]; exact List.getElem_mem _
  have h1 := (h.state (prev_mem ls i (by omega))).2.1
  have h2 := (h.state (.inr hl)).2.1
  exact ons_len (by omega) (by omega) (fun bay => Nat.le_trans (rawNeed_len s _ _ _ bay) h.covers) 40
theorem GoodPlan.restowsLen (hF : Wide F) (hro : F.round = none) {s : Ship} {boxes : List Box} {n : Nat} {ls : List (List Stowed)} (h : GoodPlan s boxes n ls) : ∀ m ∈ restowsTo s ls n, m.length ≤ 8 := by
  intro m hm
  obtain ⟨i, hi, rfl⟩ := List.mem_map.1 hm
  have hi := List.mem_range.1 hi
  have hlen := h.len
  have hl : ls.getD i [] ∈ ls := by rw [List.getD_eq_getElem?_getD, List.getElem?_eq_getElem (by omega)]; exact List.getElem_mem _
  exact Nat.le_trans (List.length_filter_le _ _) (h.f53 hF hro (prev_mem ls i (by omega)) (.inr hl)).2
theorem findLoop_small (t H N : Nat) (p : Group → Prop) : ∀ (f : Nat) (cs : List Count) (acc : List (List Group) × Int), cs.length ≤ N → (∀ c ∈ cs, p c.g) → (∀ l ∈ acc.1, l.length ≤ N ∧ ∀ g ∈ l, p g) →
    (findLoop t H f cs acc).1.length ≤ acc.1.length + f ∧ ∀ l ∈ (findLoop t H f cs acc).1, l.length ≤ N ∧ ∀ g ∈ l, p g
  | 0, cs, acc, h1, h2, h3 => ⟨Nat.le_refl _, h3⟩
  | f + 1, cs, acc, h1, h2, h3 => by
    rw [findLoop]
    split
    · exact ⟨by omega, h3⟩
    · rename_i hz
      obtain ⟨q1, q2, q3⟩ := (pick_ok t H cs).resolve_left hz
      have := findLoop_small t H N p f (dropG ((pickOf t H cs).1.map (·.g)) cs) (acc.1 ++ [(pickOf t H cs).1.map (·.g)], w64 (acc.2 + (pickOf t H cs).2)) (Nat.le_trans (List.length_filter_le _ _) h1) (fun c hc => h2 c (List.mem_filter.1 hc).1) (fun l hl => by
        rcases List.mem_append.1 hl with hl | hl
        · exact h3 l hl
        · simp at hl
          subst hl
          refine ⟨by simp; omega, fun g hg => ?_⟩
          obtain ⟨c, hc, rfl⟩ := List.mem_map.1 hg
          exact h2 c (q3 c hc))
      refine ⟨?_, this.2⟩
      have := this.1
      simp at this
      omega
theorem findOf_small {s : Ship} {boxes : List Box} {calls : Nat} (hc : calls ≤ 6) (hf : VoyFit calls boxes) :
    (findOf s boxes).1.1.length ≤ 20 ∧ ∀ l ∈ (findOf s boxes).1.1, l.length ≤ 8 ∧ ∀ g ∈ l, (0 ≤ g.load ∧ g.load ≤ 20) ∧ 0 ≤ g.disch ∧ g.disch ≤ 20 := by
  rw [findOf]
  split
  · have hl := countsOf_length boxes
    have hb := hf.1
    have hg : (groupsOf boxes).length ≤ 8 := by rw [groupsOf, (isort_perm _ _).length_eq]; omega
    have := findLoop_small (tallN s) (2 * s.cols.length) 8 (fun g => (0 ≤ g.load ∧ g.load ≤ 20) ∧ 0 ≤ g.disch ∧ g.disch ≤ 20) ((groupsOf boxes).length + 1) (groupsOf boxes) ([], 0) hg (fun c hcm => by
      obtain ⟨b, hb, e⟩ := countsOf_g boxes c ((isort_perm _ _).mem_iff.1 hcm)
      have h1 := (hf.2.2 b hb).load
      have h2 := (hf.2.2 b hb).stay
      have h3 := (hf.2.2 b hb).disch
      rw [e]
      simp only [Box.g]; omega) (fun l hl => by cases hl)
    refine ⟨?_, this.2⟩
    have := this.1
    simp at this
    simp only
    omega
  · exact ⟨by simp, fun l hl => by cases hl⟩
set_option maxHeartbeats 2000000 in
theorem f16L (hF : Wide F) (hro : F.round = none) (a b : List Move) (ha : a.length ≤ 100000) (hb : b.length ≤ 100000) : FnV Tryz.prog F 16 [Vs (a.map Move.enc), Vs (b.map Move.enc)] (Vb (sameBy Move.same a b)) := by
  refine FnV.of_AW hF hro hτ Tryz.func16 rfl (by decide) rfl (by simp [Tryz.f16]) ?_
  (repeat' first | apply Wq | refine Ws hF hτ rfl ?_ | apply Wb | apply Wl | apply Wk | apply We | apply Wn)
  refine AW.cond rfl rfl (fun hc => ?_) (fun hc => ?_)
  · (repeat' first | apply Wq | refine Ws hF hτ rfl ?_ | apply Wb | apply Wl | apply Wk | apply We | apply Wn)
    refine AW.ret ⟨.inr rfl, ?_⟩
    refine congrArg (fun z => some (Vb z)) ?_
    have hne : a.length ≠ b.length := by
      intro e
      simp [e] at hc
    cases hs : sameBy Move.same a b with
    | false => rfl
    | true => exact absurd (sameBy_len _ hs) hne
  (repeat' first | apply Wq | refine Ws hF hτ rfl ?_ | apply Wb | apply Wl | apply Wk | apply We | apply Wn)
  have hlen : a.length = b.length := by
    simp at hc
    omega
  refine AW.loopI (X := { k : Nat // k ≤ a.length ∧ sameBy Move.same a b = sameBy Move.same (a.drop k) (b.drop k) }) (fun k => [(.s 5, Iv64 k.1), (.s 0, Vs (a.map Move.enc)), (.s 1, Vs (b.map Move.enc))]) (fun k => a.length - k.1) (fun k => rfl) ⟨0, Nat.zero_le _, rfl⟩ ?_ ?_
  · (repeat' first | exact Sub.nil | refine Sub.put rfl ?_ | refine Sub.put ?_ ?_)
  rintro ⟨k, hk, hpre⟩
  (repeat' first | apply Wq | refine Ws hF hτ rfl ?_ | apply Wb | apply Wl | apply Wk | apply We | apply Wn)
  refine AW.cond rfl rfl (fun hc => ?_) (fun hc => ?_)
  · (repeat' first | apply Wq | refine Ws hF hτ rfl ?_ | apply Wb | apply Wl | apply Wk | apply We | apply Wn)
    have hka : k < a.length := by simpa using hc
    have hkb : k < b.length := by omega
    obtain ⟨x, hx⟩ : ∃ x, a[k]? = some x := ⟨_, List.getElem?_eq_getElem hka⟩
    obtain ⟨y, hy⟩ : ∃ y, b[k]? = some y := ⟨_, List.getElem?_eq_getElem hkb⟩
    rw [sameBy_drop _ hx hy] at hpre
    refine AW.draw hmix (AD.start [] [0, 1, 2, 3, 4, 5, 6, 7, 8] ?_)
    refine AD.vals hF hτ rfl ?_
    refine AD.op (o := _) rfl rfl rfl (OpM.indexD hF rfl (hτ _ _ rfl) rfl (hτ _ _ rfl) rfl (i := k) rfl (get_enc Move.enc hx) rfl rfl rfl) ?_
    refine AD.vals hF hτ rfl ?_
    refine AD.op (o := _) rfl rfl rfl (OpM.indexD hF rfl (hτ _ _ rfl) rfl (hτ _ _ rfl) rfl (i := k) rfl (get_enc Move.enc hy) rfl rfl rfl) ?_
    refine AD.vals hF hτ rfl ?_
    refine AD.fin (by kernel_rfl) rfl rfl (AA.done (by kernel_rfl) ?_)
    refine AW.cond rfl rfl (fun hb => ?_) (fun hb => ?_)
    · (repeat' first | apply Wq | refine Ws hF hτ rfl ?_ | apply Wb | apply Wl | apply Wk | apply We | apply Wn)
      refine AW.ret ⟨.inr rfl, ?_⟩
      refine congrArg (fun z => some (Vb z)) ?_
      have hxy : Move.same x y = false := by
        have : (!(Move.same x y)) = true := hb
        simpa using this
      rw [hpre, hxy]
      rfl
    · (repeat' first | apply Wq | refine Ws hF hτ rfl ?_ | apply Wb | apply Wl | apply Wk | apply We | apply Wn)
      have hxy : Move.same x y = true := by
        have : (!(Move.same x y)) = false := hb
        simpa using this
      refine ⟨⟨k + 1, hka, by rw [hpre, hxy, Bool.true_and]⟩, by simp only; omega, ?_⟩
      (repeat' first | exact Sub.nil | refine Sub.put rfl ?_ | refine Sub.put ?_ ?_)
      exact congrArg (fun z => some (Iv64 z)) (wrap_id (x := (k : Int) + 1) (by omega) (by omega))
  · (repeat' first | apply Wq | refine Ws hF hτ rfl ?_ | apply Wb | apply Wl | apply Wk | apply We | apply Wn)
    refine AW.ret ⟨.inr rfl, ?_⟩
    refine congrArg (fun z => some (Vb z)) ?_
    have hke : k = a.length := by
      have : ¬ k < a.length := by simpa using hc
      omega
    subst hke
    rw [hpre, List.drop_length, hlen, List.drop_length]
    rfl
end Go.Proofs.VL
namespace Go.Proofs.VL
open Go Go.RowKit
variable {F : Fence}
theorem wrap_nat (n : Nat) (h : n < 1000000) : IntKind.wrap .i64 (n : Int) = (n : Int) := wrap_id (by omega) (by omega)
theorem remN (n m : Nat) (h : n < 256) : Iv64 ((IntKind.wrap .i64 (n : Int)).tmod (m : Int)) = Iv64 ((n % m : Nat) : Int) := by rw [wrap_nat _ (by omega)]; rfl
def mixB (at_ : Int) (boxes : List Box) (k : Nat) : List Box := (boxes.take k).map (latB at_) ++ boxes.drop k
variable {P : Program} {n : Nat} {K : List Nat} {E : Env}
theorem AW.endE {c : Code} {Q : Exit → Env → Prop} (h : AW P F n K c (fun e E' => ∃ E2, Ent P E' E2 ∧ Q e E2) E) : AW P F n K c Q E := fun w N L γ R tmps ds hr hn =>
  wpIn_mono (h w N L γ R tmps ds hr hn) fun e a w' hp => by
    obtain ⟨E', N', L', γ', R', ⟨E2, he, hq⟩, ha⟩ := hp
    obtain ⟨N2, L2, γ2, R2, k1, k2, k3⟩ := he w' N' L' γ' R' a.tmps ha.rel
    exact ⟨E2, N2, L2, γ2, R2, hq, ha.trans ⟨k1, ha.size, ha.defers, fun _ _ => rfl, k2, fun x hx => .inl (k3 x hx)⟩⟩
def mixF (at_ : Int) (fs : List (List Group)) (k : Nat) : List (List Group) := (fs.take k).map (List.map (latG at_)) ++ fs.drop k
theorem mixF_get {at_ : Int} {fs : List (List Group)} {k : Nat} {gs : List Group} (h : fs[k]? = some gs) : (encGs (mixF at_ fs k))[k]? = some (gs.map Group.enc) := by
  have hk := get_lt h
  rw [encGs, List.getElem?_map, mixF, List.getElem?_append_right (by simp; omega)]
  simp [Nat.min_eq_left (Nat.le_of_lt hk), h]
theorem mixF_set (at_ : Int) {fs : List (List Group)} {k : Nat} {gs : List Group} (h : fs[k]? = some gs) : encGs (mixF at_ fs (k + 1)) = (encGs (mixF at_ fs k)).set k ((gs.map (latG at_)).map Group.enc) := by
  have hk := get_lt h
  obtain ⟨h1, h2⟩ := List.getElem?_eq_some_iff.1 h
  rw [encGs, encGs, mixF, mixF, take_snoc h, List.map_append, List.map_append, List.map_append, List.map_append, List.set_append_right _ _ (by simp; omega)]
  simp [Nat.min_eq_left (Nat.le_of_lt hk)]
  rw [List.drop_eq_getElem_cons (i := k) (l := fs.map fun l => l.map Group.enc) (by simpa using hk), List.set_cons_zero]
def mixG (at_ : Int) (gs : List Group) (k : Nat) : List Group := (gs.take k).map (latG at_) ++ gs.drop k
theorem mixG_get {at_ : Int} {gs : List Group} {k : Nat} {g : Group} (h : gs[k]? = some g) : (mixG at_ gs k)[k]? = some g := by
  have hk := get_lt h
  rw [mixG, List.getElem?_append_right (by simp; omega)]
  simp [Nat.min_eq_left (Nat.le_of_lt hk), h]
theorem mixG_set (at_ : Int) {gs : List Group} {k : Nat} {g : Group} (h : gs[k]? = some g) : mixG at_ gs (k + 1) = (mixG at_ gs k).set k (latG at_ g) := by
  have hk := get_lt h
  rw [mixG, mixG, take_snoc h, List.map_append, List.set_append_right _ _ (by simp; omega)]
  simp [Nat.min_eq_left (Nat.le_of_lt hk)]
  rw [List.drop_eq_getElem_cons hk]; rfl
set_option maxRecDepth 100000 in
set_option maxHeartbeats 8000000 in
theorem f3 (hF : Wide F) (hro : F.round = none) (l : List Place) (covers : Int) (items : List Item) (n call : Nat) (hn : n < 256) (hcall : call < 256) :
    FnV Tryz.prog F 3 [Vs (l.map Place.enc), .d (.sc (.int .u32 covers)), Vs (items.map Item.enc), Uv n, Uv call] (Vb true) := by
  have hsr := built_right l covers
  have hs := built_small l covers
  have h8 := f8 hF hro
  refine FnV.of_AW hF hro hτ Tryz.func3 rfl (by decide) rfl (by simp [Tryz.f3]) ?_
  (repeat' first | apply Wq | refine Ws hF hτ rfl ?_ | apply Wb | apply Wl | apply Wk | apply We | apply Wc | apply Wd | refine Wt rfl rfl ?_ | refine Wf rfl rfl ?_ | refine Wi rfl rfl (fun h => ?_) (fun h => ?_) | refine Wx hF hτ rfl rfl rfl rfl rfl rfl rfl rfl (fun h => ?_) (fun h => ?_) | apply Wn)
  refine AL.opM (OpM.call hF rfl rfl rfl rfl (f6 hF hro l covers) rfl rfl rfl) rfl rfl ?_
  refine Wv hF hτ rfl ?_
  have hcov : (built l covers).covers.length ≤ 12 := by have := coversTo_len covers 5; rw [show (built l covers).covers = coversTo covers 5 from rfl]; omega
  generalize built l covers = s at hsr hs hcov
  have hc5 : n % 5 < 5 := Nat.mod_lt _ (by decide)
  refine AL.opM (OpM.eq (remN n 5 hn) (OpM.rem hF rfl rfl rfl (by decide) rfl rfl)) rfl rfl ?_
  refine Wv hF hτ rfl ?_
  refine Wn ?_
  obtain ⟨calls, hcalls⟩ : ∃ calls, calls = 2 + n % 5 := ⟨_, rfl⟩
  refine AW.subE (E' := [(.s 10, Vb false), (.s 2, Vs (items.map Item.enc)), (.s 4, Uv call), (.s 11, .bx 35 (s.enc.map .d)), (.s 12, Iv64 calls)]) ?_ (nodupB_ok rfl) ?_
  · (repeat' first | exact Sub.nil | refine Sub.put rfl ?_ | refine Sub.put ?_ ?_)
    refine congrArg (fun z => some (Iv64 z)) ?_
    rw [hcalls]
    exact (wrap_id (by omega) (by omega)).trans (by simp)
  have hc2 : 2 ≤ calls := by omega
  have hc6 : calls ≤ 6 := by omega
  clear hcalls
  (repeat' first | apply Wq | refine Ws hF hτ rfl ?_ | apply Wb | apply Wl | apply Wk | apply We | apply Wc | apply Wd | refine Wt rfl rfl ?_ | refine Wf rfl rfl ?_ | refine Wi rfl rfl (fun h => ?_) (fun h => ?_) | refine Wx hF hτ rfl rfl rfl rfl rfl rfl rfl rfl (fun h => ?_) (fun h => ?_) | apply Wn)
  refine AL.opX rfl (OpToX.callX (na := 4) (J := VoyJ s calls) (r := voyR2) (H := fun _ => []) hF rfl rfl rfl rfl rfl rfl rfl (f7 hF hro s items calls hs hsr hc2 hc6) (H' := fun _ => []) (fun _ => rfl) (r' := voyR2) (fun _ => rfl) rfl rfl) (fun x hx => ?_)
  obtain ⟨boxes, ls⟩ := x
  obtain ⟨hfit, hlen, hgood⟩ := hx
  simp only at hfit hlen hgood
  refine Wv hF hτ rfl ?_
  (repeat' first | apply Wq | refine Ws hF hτ rfl ?_ | apply Wb | apply Wl | apply Wk | apply We | apply Wc | apply Wd | refine Wt rfl rfl ?_ | refine Wf rfl rfl ?_ | refine Wi rfl rfl (fun h => ?_) (fun h => ?_) | refine Wx hF hτ rfl rfl rfl rfl rfl rfl rfl rfl (fun h => ?_) (fun h => ?_) | apply Wn)
  have hr2 : (IntKind.wrap .i64 (call : Int)).tmod (calls : Int) = ((call % calls : Nat) : Int) := by rw [wrap_nat _ (by omega)]; rfl
  refine AL.opM (OpM.eq (congrArg Iv64 hr2) (OpM.rem hF rfl rfl rfl (by omega) rfl rfl)) rfl rfl ?_
  refine Wv hF hτ rfl ?_
  refine Wn ?_
  obtain ⟨at_, hat⟩ : ∃ at_, at_ = 1 + call % calls := ⟨_, rfl⟩
  have hmod : call % calls < calls := Nat.mod_lt _ (by omega)
  refine AW.subE (E' := [(.s 10, Vb false), (.s 11, .bx 35 (s.enc.map .d)), (.s 12, Iv64 calls), (.s 13, Vs (boxes.map Box.enc)), (.s 14, .bx 41 ((planEnc ls).map .d)), (.s 15, Iv64 at_)]) ?_ (nodupB_ok rfl) ?_
  · (repeat' first | exact Sub.nil | refine Sub.put rfl ?_ | refine Sub.put ?_ ?_)
    refine congrArg (fun z => some (Iv64 z)) ?_
    rw [hat]
    exact (wrap_id (by omega) (by omega)).trans (by simp)
  have ha1 : 1 ≤ at_ := by omega
  have ha2 : at_ ≤ calls := by omega
  clear hat hr2 hmod
  have hb8 := hfit.1
  (repeat' first | apply Wq | refine Ws hF hτ rfl ?_ | apply Wb | apply Wl | apply Wk | apply We | apply Wc | apply Wd | refine Wt rfl rfl ?_ | refine Wf rfl rfl ?_ | refine Wi rfl rfl (fun h => ?_) (fun h => ?_) | refine Wx hF hτ rfl rfl rfl rfl rfl rfl rfl rfl (fun h => ?_) (fun h => ?_) | apply Wn)
  · exact absurd h (by simp [hlen])
  refine AL.opMT (OpM.call hF rfl rfl rfl rfl (h8) rfl rfl rfl) rfl rfl rfl rfl rfl rfl ?_
  refine Wv hF hτ rfl ?_
  (repeat' first | apply Wq | refine Ws hF hτ rfl ?_ | apply Wb | apply Wl | apply Wk | apply We | apply Wc | apply Wd | refine Wt rfl rfl ?_ | refine Wf rfl rfl ?_ | refine Wi rfl rfl (fun h => ?_) (fun h => ?_) | refine Wx hF hτ rfl rfl rfl rfl rfl rfl rfl rfl (fun h => ?_) (fun h => ?_) | apply Wn)
  refine AL.opM (OpM.buildSlice hF rfl (hτ _ _ rfl) rfl (hτ _ _ rfl) rfl rfl rfl (by decide) (by decide) rfl rfl) rfl rfl ?_
  refine Wv hF hτ rfl ?_
  refine AL.op rfl (OpTo.append hF rfl rfl rfl rfl (hτ _ _ rfl) rfl (hτ _ _ rfl) rfl rfl rfl rfl (lens_map (enc := Box.enc) (fun _ => rfl) boxes) (by simp [Base.xs, chunks, lim]; omega) (by simp [Base.xs, chunks]; omega) rfl rfl rfl) ?_
  refine Wv hF hτ rfl ?_
  (repeat' first | apply Wq | refine Ws hF hτ rfl ?_ | apply Wb | apply Wl | apply Wk | apply We | apply Wc | apply Wd | refine Wt rfl rfl ?_ | refine Wf rfl rfl ?_ | refine Wi rfl rfl (fun h => ?_) (fun h => ?_) | refine Wx hF hτ rfl rfl rfl rfl rfl rfl rfl rfl (fun h => ?_) (fun h => ?_) | apply Wn)
  refine AW.range hF rfl rfl rfl rfl rfl rfl rfl rfl rfl (boxes.map Box.enc).length (by simp [lim]; omega) (fun k => [(.s 10, Vb false), (.s 11, .bx 35 (s.enc.map .d)), (.s 12, Iv64 calls), (.s 13, Vs (boxes.map Box.enc)), (.s 14, .bx 41 ((planEnc ls).map .d)), (.s 15, Iv64 at_), (.s 16, .row true 46 ((mixB at_ boxes k).map Box.enc)), (.s 71, Vs (boxes.map Box.enc))]) ?_ ?_ (fun k hk => ?_) ?_
  · exact fun _ => rfl
  · (repeat' first | exact Sub.nil | refine Sub.put rfl ?_ | refine Sub.put ?_ ?_)
  · obtain ⟨b, hbk⟩ := get_ex hk
    have hbf := hfit.2.2 b (List.mem_of_getElem? hbk)
    have q2 := hbf.load
    have q3 := hbf.stay
    have q4 := hbf.disch
    have hk8 : k < boxes.length := by simpa using hk
    have hml : (mixB at_ boxes k).length = boxes.length := by simp [mixB]; omega
    have hget : (mixB at_ boxes k)[k]? = some b := by
      rw [mixB, List.getElem?_append_right (by simp; omega)]
      simp [Nat.min_eq_left (Nat.le_of_lt hk8), hbk]
    have hset : mixB at_ boxes (k + 1) = (mixB at_ boxes k).set k (latB at_ b) := by
      rw [mixB, mixB, take_snoc hbk, List.map_append, List.set_append_right _ _ (by simp; omega)]
      simp [Nat.min_eq_left (Nat.le_of_lt hk8)]
      rw [List.drop_eq_getElem_cons hk8]; rfl
    generalize mixB at_ boxes k = mx at *
    have hget2 : ((mx.map Box.enc).set k (b.enc.take 5 ++ [di (lat at_ b.load)] ++ b.enc.drop (5 + 1)))[k]? = some (b.enc.take 5 ++ [di (lat at_ b.load)] ++ b.enc.drop (5 + 1)) := List.getElem?_set_self (by simp; omega)
    (repeat' first | apply Wq | refine Ws hF hτ rfl ?_ | apply Wb | apply Wl | apply Wk | apply We | apply Wn)
    refine AL.opM (OpM.indexD hF rfl (hτ _ _ rfl) rfl (hτ _ _ rfl) rfl (i := k) rfl ( get_enc Box.enc hbk) rfl rfl rfl) rfl rfl ?_
    refine Wv hF hτ rfl ?_
    (repeat' first | apply Wq | refine Ws hF hτ rfl ?_ | apply Wb | apply Wl | apply Wk | apply We | apply Wc | apply Wd | refine Wt rfl rfl ?_ | refine Wf rfl rfl ?_ | refine Wi rfl rfl (fun h => ?_) (fun h => ?_) | refine Wx hF hτ rfl rfl rfl rfl rfl rfl rfl rfl (fun h => ?_) (fun h => ?_) | apply Wn)
    refine AW.draw hmix (AD.start [] [0, 1, 2, 3, 4, 5, 6, 7, 8, 9, 10, 11, 12, 13] ?_)
    refine AD.vals hF hτ rfl ?_
    refine AD.op (o := _) rfl rfl rfl (OpM.call hF rfl rfl rfl rfl (f9 hF hro b.load at_ (by omega) (by omega)) rfl rfl rfl) ?_
    refine AD.vals hF hτ rfl ?_
    refine AD.op (o := _) rfl rfl rfl (OpM.call hF rfl rfl rfl rfl (f9 hF hro b.disch at_ (by omega) (by omega)) rfl rfl rfl) ?_
    refine AD.vals hF hτ rfl ?_
    refine AD.op (o := _) rfl rfl rfl (OpM.indexR hF rfl (hτ _ _ rfl) rfl (hτ _ _ rfl) rfl (k := .i64) (i := k) rfl (by simp; omega) rfl rfl) ?_
    refine AD.vals hF hτ rfl ?_
    refine AD.finC 14 [] (fuel2 := 3) rfl rfl rfl (OpF.storeE hF rfl rfl (hτ _ _ rfl) rfl rfl (q := 5) (get_enc Box.enc hget) rfl rfl rfl (Nat.le_of_ble_eq_true rfl) rfl) (by kernel_rfl) (by kernel_rfl) rfl rfl rfl (DS.ofVals hF hτ (is := [2, 3]) rfl (newD_of (by kernel_rfl))) (by kernel_rfl) (AA.tail (fuel := 0) [15, 16, 17] _ (by kernel_rfl) ?_) rfl
    refine AL.opM (OpM.indexR hF rfl (hτ _ _ rfl) rfl (hτ _ _ rfl) rfl (k := .i64) (i := k) rfl (by simp; omega) rfl rfl) rfl rfl ?_
    refine Wv hF hτ rfl ?_
    refine AL.op rfl (OpTo.storeE hF rfl rfl (hτ _ _ rfl) rfl rfl (q := 6) hget2 rfl rfl rfl (Nat.le_of_ble_eq_true rfl)) ?_
    refine Wv hF hτ rfl ?_
    (repeat' first | apply Wq | refine Ws hF hτ rfl ?_ | apply Wb | apply Wl | apply Wk | apply We | apply Wc | apply Wd | refine Wt rfl rfl ?_ | refine Wf rfl rfl ?_ | refine Wi rfl rfl (fun h => ?_) (fun h => ?_) | refine Wx hF hτ rfl rfl rfl rfl rfl rfl rfl rfl (fun h => ?_) (fun h => ?_) | apply Wn)
    (repeat' first | exact Sub.nil | refine Sub.put rfl ?_ | refine Sub.put ?_ ?_)
    refine congrArg (fun z => some (V.row true 46 z)) ?_
    rw [hset, List.set_set, List.map_set]
    rfl
  have hmxb : mixB at_ boxes (boxes.map Box.enc).length = boxes.map (latB at_) := by simp [mixB]
  rw [hmxb]
  have hol : (boxes.map (latB at_)).length ≤ 8 := by simpa using hb8
  have hofit := voyFit_lat ha1 hfit
  have hogood := planGood_wait ha1 (by omega) hgood
  have hqlen : (waitP at_ ls).length = calls + 1 := by rw [waitP_len ha1 (by omega), hlen]
  (repeat' first | apply Wq | refine Ws hF hτ rfl ?_ | apply Wb | apply Wl | apply Wk | apply We | apply Wc | apply Wd | refine Wt rfl rfl ?_ | refine Wf rfl rfl ?_ | refine Wi rfl rfl (fun h => ?_) (fun h => ?_) | refine Wx hF hτ rfl rfl rfl rfl rfl rfl rfl rfl (fun h => ?_) (fun h => ?_) | apply Wn)
  refine AW.ent ((Ent.frzs (ls := [.s 16]) rfl).trans (Ent.nilRow (t := 19) (i := 0) (m := true) (e := 86) rfl)) ?_
  have hs1 : Vs (((ls.map encS).take at_).drop 0) = Vs ((ls.take at_).map encS) := by simp [List.map_take]
  have hs2 : Vs (((ls.map encS).take (ls.map encS).length).drop (at_ - 1)) = Vs ((ls.drop (at_ - 1)).map encS) := by
    rw [List.take_length, List.map_drop]
  have hw : IntKind.wrap .i64 ((at_ : Int) - 1) = ((at_ - 1 : Nat) : Int) := (wrap_id (by omega) (by omega)).trans (by omega)
  refine AW.draw hmix (AD.start [] [0, 1, 2, 3, 4, 5] ?_)
  refine AD.vals hF hτ rfl ?_
  refine AD.op (o := _) rfl rfl rfl (OpM.eq hs1 (OpM.sliceD hF rfl (hτ _ _ rfl) rfl (hτ _ _ rfl) rfl (lens_map (enc := encS) (fun _ => rfl) ls) (l := 0) (h := at_) (.inl ⟨rfl, rfl⟩) (.inr ⟨_, .i64, rfl, rfl⟩) (by omega) (by rw [List.length_map]; omega) rfl rfl)) ?_
  refine AD.vals hF hτ rfl ?_
  refine AD.fin (by kernel_rfl) rfl rfl (AA.tail (fuel := 0) [6, 7, 8] _ (by kernel_rfl) ?_)
  refine Wv hF hτ rfl ?_
  refine AL.op rfl (OpTo.append hF rfl rfl rfl rfl (hτ _ _ rfl) rfl (hτ _ _ rfl) rfl rfl rfl rfl (lens_map (enc := encS) (fun _ => rfl) (ls.take at_)) (by simp [Base.xs, lim]; omega) (by simp [Base.xs]; omega) rfl rfl rfl) ?_
  refine Wv hF hτ rfl ?_
  (repeat' first | apply Wq | refine Ws hF hτ rfl ?_ | apply Wb | apply Wl | apply Wk | apply We | apply Wc | apply Wd | refine Wt rfl rfl ?_ | refine Wf rfl rfl ?_ | refine Wi rfl rfl (fun h => ?_) (fun h => ?_) | refine Wx hF hτ rfl rfl rfl rfl rfl rfl rfl rfl (fun h => ?_) (fun h => ?_) | apply Wn)
  refine AW.draw hmix (AD.start [] [0, 1, 2, 3, 4, 5, 6] ?_)
  refine AD.vals hF hτ rfl ?_
  refine AD.op (o := _) rfl rfl rfl (OpM.eq hs2 (OpM.sliceD hF rfl (hτ _ _ rfl) rfl (hτ _ _ rfl) rfl (lens_map (enc := encS) (fun _ => rfl) ls) (l := at_ - 1) (h := (ls.map encS).length) (.inr ⟨_, .i64, rfl, by exact congrArg (fun z => some (IntKind.i64, z)) hw⟩) (.inl ⟨rfl, rfl⟩) (by rw [List.length_map]; omega) (Nat.le_refl _) rfl rfl)) ?_
  refine AD.vals hF hτ rfl ?_
  refine AD.fin (by kernel_rfl) rfl rfl (AA.tail (fuel := 0) [7, 8, 9] _ (by kernel_rfl) ?_)
  refine Wv hF hτ rfl ?_
  refine AL.op rfl (OpTo.append hF rfl rfl rfl rfl (hτ _ _ rfl) rfl (hτ _ _ rfl) rfl rfl rfl rfl (lens_map (enc := encS) (fun _ => rfl) (ls.drop (at_ - 1))) (by simp [Base.xs, lim]; omega) (by simp [Base.xs]; omega) rfl rfl rfl) ?_
  refine Wv hF hτ rfl ?_
  refine Wn ?_
  refine AW.ent (Ent.frzs (ls := [.c 19 0]) rfl) ?_
  have hall : (boxes.map (latB at_)).map Box.enc = (boxes.map (latB at_)).map Box.enc := rfl
  have hpl : [] ++ (ls.take at_).map encS ++ (ls.drop (at_ - 1)).map encS = (waitP at_ ls).map encS := by simp [waitP]
  rw [hpl]
  obtain ⟨ob, hob⟩ : ∃ ob, ob = boxes.map (latB at_) := ⟨_, rfl⟩
  obtain ⟨ql, hql⟩ : ∃ ql, ql = waitP at_ ls := ⟨_, rfl⟩
  refine AW.subE (E' := [(.s 10, Vb false), (.s 11, .bx 35 (s.enc.map .d)), (.s 12, Iv64 calls), (.s 13, Vs (boxes.map Box.enc)), (.s 14, .bx 41 ((planEnc ls).map .d)), (.s 15, Iv64 at_), (.s 16, Vs (ob.map Box.enc)), (.s 19, .bx 41 [.ref (.c 19 0), .d .nl]), (.c 19 0, Vs (ql.map encS))]) ?_ (nodupB_ok rfl) ?_
  · rw [hob, hql]
    (repeat' first | exact Sub.nil | refine Sub.put rfl ?_ | refine Sub.put ?_ ?_)
  have gp : GoodPlan s boxes calls ls := ⟨hsr, hs, hcov, by omega, by omega, hfit, hlen, hgood⟩
  have gq := gp.wait (by omega) ha1 ha2
  rw [← hob, ← hql] at gq
  have hw1 : IntKind.wrap .i64 ((calls : Int) + 1) = ((calls + 1 : Nat) : Int) := (wrap_id (by omega) (by omega)).trans (by simp)
  have c10 := gq.f10 hF hro
  have c11 := gp.f11 hF hro
  have c11q := gq.f11 hF hro
  have c12 := gp.f12 hF hro
  have c12q := gq.f12 hF hro
  rw [← hw1] at c10 c11q c12q
  (repeat' first | apply Wq | refine Ws hF hτ rfl ?_ | apply Wb | apply Wl | apply Wk | apply We | apply Wc | apply Wd | refine Wt rfl rfl ?_ | refine Wf rfl rfl ?_ | refine Wi rfl rfl (fun h => ?_) (fun h => ?_) | refine Wx hF hτ rfl rfl rfl rfl rfl rfl rfl rfl (fun h => ?_) (fun h => ?_) | apply Wn)
  refine AL.opM (OpM.call hF rfl rfl rfl rfl (c10) rfl rfl rfl) rfl rfl ?_
  refine Wv hF hτ rfl ?_
  (repeat' first | apply Wq | refine Ws hF hτ rfl ?_ | apply Wb | apply Wl | apply Wk | apply We | apply Wc | apply Wd | refine Wt rfl rfl ?_ | refine Wf rfl rfl ?_ | refine Wi rfl rfl (fun h => ?_) (fun h => ?_) | refine Wx hF hτ rfl rfl rfl rfl rfl rfl rfl rfl (fun h => ?_) (fun h => ?_) | apply Wn)
  · exact absurd h (by decide)
  refine AL.opM (OpM.call hF rfl rfl rfl rfl (c11) rfl rfl rfl) rfl rfl ?_
  refine Wv hF hτ rfl ?_
  (repeat' first | apply Wq | refine Ws hF hτ rfl ?_ | apply Wb | apply Wl | apply Wk | apply We | apply Wc | apply Wd | refine Wt rfl rfl ?_ | refine Wf rfl rfl ?_ | refine Wi rfl rfl (fun h => ?_) (fun h => ?_) | refine Wx hF hτ rfl rfl rfl rfl rfl rfl rfl rfl (fun h => ?_) (fun h => ?_) | apply Wn)
  refine AL.opM (OpM.call hF rfl rfl rfl rfl (c11q) rfl rfl rfl) rfl rfl ?_
  refine Wv hF hτ rfl ?_
  (repeat' first | apply Wq | refine Ws hF hτ rfl ?_ | apply Wb | apply Wl | apply Wk | apply We | apply Wc | apply Wd | refine Wt rfl rfl ?_ | refine Wf rfl rfl ?_ | refine Wi rfl rfl (fun h => ?_) (fun h => ?_) | refine Wx hF hτ rfl rfl rfl rfl rfl rfl rfl rfl (fun h => ?_) (fun h => ?_) | apply Wn)
  refine AL.opM (OpM.call hF rfl rfl rfl rfl (c12) rfl rfl rfl) rfl rfl ?_
  refine Wv hF hτ rfl ?_
  (repeat' first | apply Wq | refine Ws hF hτ rfl ?_ | apply Wb | apply Wl | apply Wk | apply We | apply Wc | apply Wd | refine Wt rfl rfl ?_ | refine Wf rfl rfl ?_ | refine Wi rfl rfl (fun h => ?_) (fun h => ?_) | refine Wx hF hτ rfl rfl rfl rfl rfl rfl rfl rfl (fun h => ?_) (fun h => ?_) | apply Wn)
  refine AL.opM (OpM.call hF rfl rfl rfl rfl (c12q) rfl rfl rfl) rfl rfl ?_
  refine Wv hF hτ rfl ?_
  refine Wn ?_
  have hz := findOf_lat ha1 (by omega) hsr hc6 hfit
  have hfs := findOf_small (s := s) hc6 hfit
  have h13 := f13 hF hro s boxes hs (by omega)
  have h13q := f13 hF hro s ob hs (by rw [hob]; omega)
  rw [← hob] at hz
  obtain ⟨hz1, hz2⟩ := hz
  rw [hz2] at h13q
  rw [hz1] at h13
  generalize (findOf s boxes).1.1 = fs at h13 h13q hfs
  generalize (findOf s boxes).1.2 = fsum at h13 h13q
  clear hz1 hz2 c10 c11 c11q c12 c12q
  have hrl := gp.restowsLen hF hro
  have hrlq := gq.restowsLen hF hro
  have hml := gp.movesLen
  have hmlq := gq.movesLen
  obtain ⟨hw2, hw3⟩ := restows_wait (s := s) hlen ha1 ha2
  obtain ⟨hw4, hw5⟩ := moves_wait (s := s) hlen ha1 ha2
  rw [← hql] at hw2 hw3 hw4 hw5
  have hlr : (restowsTo s ls calls).length = calls := by simp [restowsTo]
  have hlq : (restowsTo s ql (calls + 1)).length = calls + 1 := by simp [restowsTo]
  have hlm : (movesOf s ls calls).length = calls := by simp [movesOf]
  have hlmq : (movesOf s ql (calls + 1)).length = calls + 1 := by simp [movesOf]
  generalize restowsTo s ls calls = rs at *
  generalize restowsTo s ql (calls + 1) = rq at *
  generalize movesOf s ls calls = ms at *
  generalize movesOf s ql (calls + 1) = mq at *
  refine AW.subE (E' := [(.s 10, Vb false), (.s 11, .bx 35 (s.enc.map .d)), (.s 12, Iv64 calls), (.s 13, Vs (boxes.map Box.enc)), (.s 15, Iv64 at_), (.s 16, Vs (ob.map Box.enc)), (.s 22, Vs (rs.map encI)), (.s 23, Iv64 0), (.s 24, Vs (rq.map encI)), (.s 25, Iv64 0), (.s 26, Vs (ms.map encM)), (.s 27, Iv64 0), (.s 28, Vs (mq.map encM)), (.s 29, Iv64 0)]) ?_ (nodupB_ok rfl) ?_
  · (repeat' first | exact Sub.nil | refine Sub.put rfl ?_ | refine Sub.put ?_ ?_)
  (repeat' first | apply Wq | refine Ws hF hτ rfl ?_ | apply Wb | apply Wl | apply Wk | apply We | apply Wc | apply Wd | refine Wt rfl rfl ?_ | refine Wf rfl rfl ?_ | refine Wi rfl rfl (fun h => ?_) (fun h => ?_) | refine Wx hF hτ rfl rfl rfl rfl rfl rfl rfl rfl (fun h => ?_) (fun h => ?_) | apply Wn)
  refine AL.opX rfl (OpToX.callO (na := 2) hF rfl rfl rfl rfl rfl h13 900 0 rfl rfl rfl rfl) (fun _ _ => ?_)
  refine Wv hF hτ rfl ?_
  (repeat' first | apply Wq | refine Ws hF hτ rfl ?_ | apply Wb | apply Wl | apply Wk | apply We | apply Wc | apply Wd | refine Wt rfl rfl ?_ | refine Wf rfl rfl ?_ | refine Wi rfl rfl (fun h => ?_) (fun h => ?_) | refine Wx hF hτ rfl rfl rfl rfl rfl rfl rfl rfl (fun h => ?_) (fun h => ?_) | apply Wn)
  dsimp only at h13q
  refine AL.opX rfl (OpToX.callO (na := 2) hF rfl rfl rfl rfl rfl h13q 901 0 rfl rfl rfl rfl) (fun _ _ => ?_)
  refine Wv hF hτ rfl ?_
  refine Wn ?_
  refine AW.ent (Ent.rowsFrz (l := .c 901 0) rfl) ?_
  refine AW.entX (EntX.rowsOpen (l := .c 900 0) 902 0 rfl rfl) (fun vs hvs => ?_)
  have hvl : vs.length = fs.length := by simpa using hvs
  have hfd : rowsD ((fs.map (List.map (latG at_))).map fun l => l.map Group.enc) = (fs.map (List.map (latG at_))).map encFam := by
    rw [rowsD, List.map_map]; rfl
  rw [hfd]
  refine AW.subE (E' := [(.s 10, Vb false), (.s 12, Iv64 calls), (.s 15, Iv64 at_), (.s 30, .ref (.c 900 0)), (.c 900 0, .row true 59 (scs vs)), (.c 902 0, .ob [] (InnerP Tryz.prog 61 vs (encGs (mixF at_ fs 0)) none)), (.s 31, Iv64 fsum), (.s 32, Iv64 0), (.s 33, .ref (.c 901 0)), (.c 901 0, Vs ((fs.map (List.map (latG at_))).map encFam)), (.s 34, Iv64 fsum), (.s 35, Iv64 0), (.s 22, Vs (rs.map encI)), (.s 23, Iv64 0), (.s 24, Vs (rq.map encI)), (.s 25, Iv64 0), (.s 26, Vs (ms.map encM)), (.s 27, Iv64 0), (.s 28, Vs (mq.map encM)), (.s 29, Iv64 0)]) ?_ (nodupB_ok rfl) ?_
  · (repeat' first | exact Sub.nil | refine Sub.put rfl ?_ | refine Sub.put ?_ ?_)
  clear hfd
  (repeat' first | apply Wq | refine Ws hF hτ rfl ?_ | apply Wb | apply Wl | apply Wk | apply We | apply Wc | apply Wd | refine Wt rfl rfl ?_ | refine Wf rfl rfl ?_ | refine Wi rfl rfl (fun h => ?_) (fun h => ?_) | refine Wx hF hτ rfl rfl rfl rfl rfl rfl rfl rfl (fun h => ?_) (fun h => ?_) | apply Wn)
  refine AW.range hF rfl rfl rfl rfl rfl rfl rfl rfl rfl (scs vs).length (by simp [scs, lim]; omega) (fun k => [(.s 175, .ref (.c 900 0)), (.s 10, Vb false), (.s 12, Iv64 calls), (.s 15, Iv64 at_), (.s 30, .ref (.c 900 0)), (.c 900 0, .row true 59 (scs vs)), (.c 902 0, .ob [] (InnerP Tryz.prog 61 vs (encGs (mixF at_ fs k)) none)), (.s 31, Iv64 fsum), (.s 32, Iv64 0), (.s 33, .ref (.c 901 0)), (.c 901 0, Vs ((fs.map (List.map (latG at_))).map encFam)), (.s 34, Iv64 fsum), (.s 35, Iv64 0), (.s 22, Vs (rs.map encI)), (.s 23, Iv64 0), (.s 24, Vs (rq.map encI)), (.s 25, Iv64 0), (.s 26, Vs (ms.map encM)), (.s 27, Iv64 0), (.s 28, Vs (mq.map encM)), (.s 29, Iv64 0)]) ?_ ?_ (fun k hk => ?_) ?_
  · exact fun _ => rfl
  · (repeat' first | exact Sub.nil | refine Sub.put rfl ?_ | refine Sub.put ?_ ?_)
  · have hkv : k < vs.length := by simpa [scs] using hk
    obtain ⟨v, hv⟩ : ∃ v, vs[k]? = some v := ⟨_, List.getElem?_eq_getElem hkv⟩
    obtain ⟨gs, hgs⟩ : ∃ gs, fs[k]? = some gs := ⟨_, List.getElem?_eq_getElem (by omega)⟩
    have hvk : (scs vs)[k]? = some [.sc v] := by simp [scs, hv]
    have hgk : (encGs (mixF at_ fs k))[k]? = some (gs.map Group.enc) := mixF_get hgs
    have hnext := mixF_set at_ hgs
    obtain ⟨hgl, hgb⟩ := hfs.2 gs (List.mem_of_getElem? hgs)
    generalize encGs (mixF at_ fs k) = xs at *
    generalize encGs (mixF at_ fs (k + 1)) = xs' at *
    clear hgood hogood gp gq
    (repeat' first | apply Wq | refine Ws hF hτ rfl ?_ | apply Wb | apply Wl | apply Wk | apply We | apply Wn)
    refine AL.opM (OpM.indexR hF rfl (hτ _ _ rfl) rfl (hτ _ _ rfl) rfl (k := .i64) (i := k) (by exact  rfl) ( hk) rfl rfl) rfl rfl ?_
    refine Wv hF hτ rfl ?_
    refine AL.opM (OpM.loadE hF rfl (hτ _ _ rfl) rfl rfl (q := 0) (hvk) rfl (Nat.le_of_ble_eq_true rfl) rfl rfl rfl) rfl rfl ?_
    refine Wv hF hτ rfl ?_
    refine Wn ?_
    refine AW.ent (Ent.innerPull (g := .c 902 0) (t := .s 37) rfl rfl hv hgk rfl) ?_
    refine AW.endE ?_
    (repeat' first | apply Wq | refine Ws hF hτ rfl ?_ | apply Wb | apply Wl | apply Wk | apply We | apply Wn)
    refine AW.range hF rfl rfl rfl rfl rfl rfl rfl rfl rfl (gs.map Group.enc).length (by simp [lim]; omega) (fun j => [(.s 181, .ref (.s 37)), (.s 37, .row true 61 ((mixG at_ gs j).map Group.enc)), (.c 902 0, .ob [.s 37] (InnerP Tryz.prog 61 vs xs (some k))), (.s 177, Iv64 k), (.s 176, Iv64 (scs vs).length), (.s 175, .ref (.c 900 0)), (.s 10, Vb false), (.s 12, Iv64 calls), (.s 15, Iv64 at_), (.s 30, .ref (.c 900 0)), (.c 900 0, .row true 59 (scs vs)), (.s 31, Iv64 fsum), (.s 32, Iv64 0), (.s 33, .ref (.c 901 0)), (.c 901 0, Vs ((fs.map (List.map (latG at_))).map encFam)), (.s 34, Iv64 fsum), (.s 35, Iv64 0), (.s 22, Vs (rs.map encI)), (.s 23, Iv64 0), (.s 24, Vs (rq.map encI)), (.s 25, Iv64 0), (.s 26, Vs (ms.map encM)), (.s 27, Iv64 0), (.s 28, Vs (mq.map encM)), (.s 29, Iv64 0)]) ?_ ?_ (fun j hj => ?_) ?_
    · exact fun _ => rfl
    · (repeat' first | exact Sub.nil | refine Sub.put rfl ?_ | refine Sub.put ?_ ?_)
    · obtain ⟨g, hg⟩ := get_ex hj
      have hgg := mixG_get (at_ := at_) hg
      have hgn := mixG_set at_ hg
      have hgl2 : (mixG at_ gs j).length = gs.length := by have := get_lt hg; simp [mixG]; omega
      obtain ⟨⟨g1, g2⟩, g3, g4⟩ := hgb g (List.mem_of_getElem? hg)
      generalize mixG at_ gs j = mx at *
      generalize mixG at_ gs (j + 1) = mx' at *
      have hjm : j < mx.length := get_lt hgg
      (repeat' first | apply Wq | refine Ws hF hτ rfl ?_ | apply Wb | apply Wl | apply Wk | apply We | apply Wn)
      refine AW.draw hmix (AD.start [] [0, 1, 2, 3, 4, 5, 6, 7, 8, 9, 10, 11, 12, 13, 14, 15, 16] ?_)
      refine AD.vals hF hτ rfl ?_
      refine AD.op (o := _) rfl rfl rfl (OpM.indexR hF rfl (hτ _ _ rfl) rfl (hτ _ _ rfl) rfl (k := .i64) (i := j) rfl (by simp; omega) rfl rfl) ?_
      refine AD.vals hF hτ rfl ?_
      refine AD.op (o := _) rfl rfl rfl (OpM.loadE hF rfl (hτ _ _ rfl) rfl rfl (q := 0) (get_enc Group.enc hgg) rfl (Nat.le_of_ble_eq_true rfl) rfl rfl rfl) ?_
      refine AD.vals hF hτ rfl ?_
      refine AD.op (o := _) rfl rfl rfl (OpM.call hF rfl rfl rfl rfl (f9 hF hro g.load at_ (by omega) (by omega)) rfl rfl rfl) ?_
      refine AD.vals hF hτ rfl ?_
      refine AD.op (o := _) rfl rfl rfl (OpM.indexR hF rfl (hτ _ _ rfl) rfl (hτ _ _ rfl) rfl (k := .i64) (i := j) rfl (by simp; omega) rfl rfl) ?_
      refine AD.vals hF hτ rfl ?_
      refine AD.op (o := _) rfl rfl rfl (OpM.loadE hF rfl (hτ _ _ rfl) rfl rfl (q := 1) (get_enc Group.enc hgg) rfl (Nat.le_of_ble_eq_true rfl) rfl rfl rfl) ?_
      refine AD.vals hF hτ rfl ?_
      refine AD.op (o := _) rfl rfl rfl (OpM.call hF rfl rfl rfl rfl (f9 hF hro g.disch at_ (by omega) (by omega)) rfl rfl rfl) ?_
      refine AD.vals hF hτ rfl ?_
      refine AD.fin (by kernel_rfl) rfl rfl (AA.tail (fuel := 0) [17, 18] _ (by kernel_rfl) ?_)
      refine Wv hF hτ rfl ?_
      refine AL.opM (OpM.indexR hF rfl (hτ _ _ rfl) rfl (hτ _ _ rfl) rfl (k := .i64) (i := j) (by exact  rfl) ( by simp; omega) rfl rfl) rfl rfl ?_
      refine Wv hF hτ rfl ?_
      refine AL.op rfl (OpTo.storeE hF rfl rfl (hτ _ _ rfl) rfl rfl (q := 0) (get_enc Group.enc hgg) rfl rfl rfl (Nat.le_of_ble_eq_true rfl)) ?_
      refine Wv hF hτ rfl ?_
      refine Wv hF hτ rfl ?_
      (repeat' first | apply Wq | refine Ws hF hτ rfl ?_ | apply Wb | apply Wl | apply Wk | apply We | apply Wc | apply Wd | refine Wt rfl rfl ?_ | refine Wf rfl rfl ?_ | refine Wi rfl rfl (fun h => ?_) (fun h => ?_) | refine Wx hF hτ rfl rfl rfl rfl rfl rfl rfl rfl (fun h => ?_) (fun h => ?_) | apply Wn)
      (repeat' first | exact Sub.nil | refine Sub.put rfl ?_ | refine Sub.put ?_ ?_)
      refine congrArg (fun z => some (V.row true 61 z)) ?_
      rw [hgn, List.map_set]
      rfl
    · have hmg : mixG at_ gs (gs.map Group.enc).length = gs.map (latG at_) := by simp [mixG]
      rw [hmg]
      refine ⟨_, Ent.innerPut (g := .c 902 0) (t := .s 37) (t' := .s 37) rfl rfl rfl, ?_⟩
      (repeat' first | exact Sub.nil | refine Sub.put rfl ?_ | refine Sub.put ?_ ?_)
      refine congrArg (fun z => some (V.ob [] (InnerP Tryz.prog 61 vs z none))) ?_
      exact hnext.symm
  have hmf : mixF at_ fs (scs vs).length = fs.map (List.map (latG at_)) := by simp [mixF, scs, hvl]
  rw [hmf]
  refine AW.ent (Ent.rowsPack (l := .c 900 0) (g := .c 902 0) rfl rfl rfl) ?_
  refine AW.ent (Ent.rowsFrz (l := .c 900 0) rfl) ?_
  have hfd : rowsD (encGs (fs.map (List.map (latG at_)))) = (fs.map (List.map (latG at_))).map encFam := by
    rw [rowsD, encGs, List.map_map]; rfl
  rw [hfd]
  obtain ⟨ft, hft⟩ : ∃ ft, ft = fs.map (List.map (latG at_)) := ⟨_, rfl⟩
  have hftl : ft.length ≤ 1000 ∧ ∀ l ∈ ft, l.length ≤ 1000 := by
    rw [hft]
    refine ⟨by simp; omega, fun l hl => ?_⟩
    obtain ⟨l', hl', rfl⟩ := List.mem_map.1 hl
    have := (hfs.2 l' hl').1
    simp; omega
  have h14 := f14 hF hro ft ft hftl.1 hftl.1 hftl.2 hftl.2
  have h14e : sameBy (sameBy Group.same) ft ft = true := (sameBy_iff (fun x y => sameBy_iff Group.same_iff)).2 rfl
  rw [h14e] at h14
  refine AW.subE (E' := [(.s 10, Vb false), (.s 12, Iv64 calls), (.s 15, Iv64 at_), (.s 30, .ref (.c 900 0)), (.c 900 0, Vs (ft.map encFam)), (.s 31, Iv64 fsum), (.s 32, Iv64 0), (.s 33, .ref (.c 901 0)), (.c 901 0, Vs (ft.map encFam)), (.s 34, Iv64 fsum), (.s 35, Iv64 0), (.s 22, Vs (rs.map encI)), (.s 23, Iv64 0), (.s 24, Vs (rq.map encI)), (.s 25, Iv64 0), (.s 26, Vs (ms.map encM)), (.s 27, Iv64 0), (.s 28, Vs (mq.map encM)), (.s 29, Iv64 0)]) ?_ (nodupB_ok rfl) ?_
  · rw [hft]
    (repeat' first | exact Sub.nil | refine Sub.put rfl ?_ | refine Sub.put ?_ ?_)
  clear hfd hft hfs h14e hmf hvs hvl
  have hgr : (rq.map encI)[at_]? = some (encI []) := get_enc encI hw2
  have hgm : (mq.map encM)[at_]? = some (encM []) := get_enc encM hw4
  have hw1' : IntKind.wrap .i64 ((calls : Int) + 1) = ((calls + 1 : Nat) : Int) := hw1
  (repeat' first | apply Wq | refine Ws hF hτ rfl ?_ | apply Wb | apply Wl | apply Wk | apply We | apply Wc | apply Wd | refine Wt rfl rfl ?_ | refine Wf rfl rfl ?_ | refine Wi rfl rfl (fun h => ?_) (fun h => ?_) | refine Wx hF hτ rfl rfl rfl rfl rfl rfl rfl rfl (fun h => ?_) (fun h => ?_) | apply Wn)
  · exact absurd h (by decide)
  · exact absurd h (by simp)
  refine AL.opMT (OpM.call hF rfl rfl rfl rfl (h14) rfl rfl rfl) rfl rfl rfl rfl rfl rfl ?_
  refine Wv hF hτ rfl ?_
  (repeat' first | apply Wq | refine Ws hF hτ rfl ?_ | apply Wb | apply Wl | apply Wk | apply We | apply Wc | apply Wd | refine Wt rfl rfl ?_ | refine Wf rfl rfl ?_ | refine Wi rfl rfl (fun h => ?_) (fun h => ?_) | refine Wx hF hτ rfl rfl rfl rfl rfl rfl rfl rfl (fun h => ?_) (fun h => ?_) | apply Wn)
  · exact absurd h (by simp)
  · exact absurd h (by rw [hw1']; simp [hlq])
  · exact absurd h (by rw [hw1']; simp [hlmq])
  refine AL.opMT (OpM.indexD hF rfl (hτ _ _ rfl) rfl (hτ _ _ rfl) rfl (i := at_) rfl ( hgr) rfl rfl rfl) rfl rfl rfl rfl rfl rfl ?_
  refine Wv hF hτ rfl ?_
  (repeat' first | apply Wq | refine Ws hF hτ rfl ?_ | apply Wb | apply Wl | apply Wk | apply We | apply Wc | apply Wd | refine Wt rfl rfl ?_ | refine Wf rfl rfl ?_ | refine Wi rfl rfl (fun h => ?_) (fun h => ?_) | refine Wx hF hτ rfl rfl rfl rfl rfl rfl rfl rfl (fun h => ?_) (fun h => ?_) | apply Wn)
  · exact absurd h (by decide)
  refine AL.opMT (OpM.indexD hF rfl (hτ _ _ rfl) rfl (hτ _ _ rfl) rfl (i := at_) rfl ( hgm) rfl rfl rfl) rfl rfl rfl rfl rfl rfl ?_
  refine Wv hF hτ rfl ?_
  (repeat' first | apply Wq | refine Ws hF hτ rfl ?_ | apply Wb | apply Wl | apply Wk | apply We | apply Wc | apply Wd | refine Wt rfl rfl ?_ | refine Wf rfl rfl ?_ | refine Wi rfl rfl (fun h => ?_) (fun h => ?_) | refine Wx hF hτ rfl rfl rfl rfl rfl rfl rfl rfl (fun h => ?_) (fun h => ?_) | apply Wn)
  refine AW.range hF rfl rfl rfl rfl rfl rfl rfl rfl rfl calls (by simp [lim]; omega) (fun k => [(.s 10, Vb false), (.s 15, Iv64 at_), (.s 22, Vs (rs.map encI)), (.s 24, Vs (rq.map encI)), (.s 26, Vs (ms.map encM)), (.s 28, Vs (mq.map encM))]) ?_ ?_ (fun k hk => ?_) ?_
  · exact fun _ => rfl
  · (repeat' first | exact Sub.nil | refine Sub.put rfl ?_ | refine Sub.put ?_ ?_)
  · have hk1 := hw3 k hk
    have hk2 := hw5 k hk
    have c9 := f9 hF hro k at_ (by omega) (by omega)
    have hcast : (if (k : Int) ≥ (at_ : Int) then (k : Int) + 1 else (k : Int)) = ((if k ≥ at_ then k + 1 else k : Nat) : Int) := by split <;> split <;> omega
    rw [hcast] at c9
    obtain ⟨r, hr⟩ : ∃ r, rs[k]? = some r := ⟨_, List.getElem?_eq_getElem (by omega)⟩
    obtain ⟨m, hm⟩ : ∃ m, ms[k]? = some m := ⟨_, List.getElem?_eq_getElem (by omega)⟩
    rw [hr] at hk1
    rw [hm] at hk2
    generalize (if k ≥ at_ then k + 1 else k : Nat) = k2 at c9 hk1 hk2
    have hrl8 := hrl r (List.mem_of_getElem? hr)
    have hml8 := hml m (List.mem_of_getElem? hm)
    have c15 := f15 hF hro r r (by omega) (by omega)
    rw [show (r == r) = true from beq_self_eq_true r] at c15
    have c16 := f16L hF hro m m (by omega) (by omega)
    rw [show sameBy Move.same m m = true from (sameBy_iff Move.same_iff).2 rfl] at c16
    (repeat' first | apply Wq | refine Ws hF hτ rfl ?_ | apply Wb | apply Wl | apply Wk | apply We | apply Wn)
    refine AW.draw hmix (AD.start [] [0, 1, 2, 3, 4, 5, 6, 7, 8, 9, 10, 11, 12] ?_)
    refine AD.vals hF hτ rfl ?_
    refine AD.op (o := _) rfl rfl rfl (OpM.indexD hF rfl (hτ _ _ rfl) rfl (hτ _ _ rfl) rfl (i := k) rfl ( get_enc encI hr) rfl rfl rfl) ?_
    refine AD.vals hF hτ rfl ?_
    refine AD.op (o := _) rfl rfl rfl (OpM.call hF rfl rfl rfl rfl c9 rfl rfl rfl) ?_
    refine AD.vals hF hτ rfl ?_
    refine AD.op (o := _) rfl rfl rfl (OpM.indexD hF rfl (hτ _ _ rfl) rfl (hτ _ _ rfl) rfl (i := k2) rfl ( get_enc encI hk1) rfl rfl rfl) ?_
    refine AD.vals hF hτ rfl ?_
    refine AD.op (o := _) rfl rfl rfl (OpM.call hF rfl rfl rfl rfl c15 rfl rfl rfl) ?_
    refine AD.vals hF hτ rfl ?_
    refine AD.fin (by kernel_rfl) rfl rfl ?_
    refine AA.split 275 rfl rfl (fun e1 => absurd e1 (by decide)) (fun e1 => ?_)
    refine AD.start [0, 1, 2, 3, 4, 5, 6, 7, 8, 9, 10, 11, 12] [13, 14, 15, 16, 17, 18, 19, 20, 21, 22, 23, 24, 25] ?_
    refine AD.vals hF hτ rfl ?_
    refine AD.op (o := _) rfl rfl rfl (OpM.indexD hF rfl (hτ _ _ rfl) rfl (hτ _ _ rfl) rfl (i := k) rfl ( get_enc encM hm) rfl rfl rfl) ?_
    refine AD.vals hF hτ rfl ?_
    refine AD.op (o := _) rfl rfl rfl (OpM.call hF rfl rfl rfl rfl c9 rfl rfl rfl) ?_
    refine AD.vals hF hτ rfl ?_
    refine AD.op (o := _) rfl rfl rfl (OpM.indexD hF rfl (hτ _ _ rfl) rfl (hτ _ _ rfl) rfl (i := k2) rfl ( get_enc encM hk2) rfl rfl rfl) ?_
    refine AD.vals hF hτ rfl ?_
    refine AD.op (o := _) rfl rfl rfl (OpM.call hF rfl rfl rfl rfl c16 rfl rfl rfl) ?_
    refine AD.vals hF hτ rfl ?_
    refine AD.fin (by kernel_rfl) rfl rfl (AA.done (by kernel_rfl) ?_)
    (repeat' first | apply Wq | refine Ws hF hτ rfl ?_ | apply Wb | apply Wl | apply Wk | apply We | apply Wc | apply Wd | refine Wt rfl rfl ?_ | refine Wf rfl rfl ?_ | refine Wi rfl rfl (fun h => ?_) (fun h => ?_) | refine Wx hF hτ rfl rfl rfl rfl rfl rfl rfl rfl (fun h => ?_) (fun h => ?_) | apply Wn)
    (repeat' first | exact Sub.nil | refine Sub.put rfl ?_ | refine Sub.put ?_ ?_)
  (repeat' first | apply Wq | refine Ws hF hτ rfl ?_ | apply Wb | apply Wl | apply Wk | apply We | apply Wc | apply Wd | refine Wt rfl rfl ?_ | refine Wf rfl rfl ?_ | refine Wi rfl rfl (fun h => ?_) (fun h => ?_) | refine Wx hF hτ rfl rfl rfl rfl rfl rfl rfl rfl (fun h => ?_) (fun h => ?_) | apply Wn)
  refine AW.ret ⟨.inr rfl, ?_⟩
  rfl
end Go.Proofs.VL
namespace Go.Proofs.VL
open Go Go.RowKit Go.ChangeShapes Go.WideShapes Go.ChangeAt Go.Deep Go.Joins
section
variable {P : Program}
def oldC (w : World) : Cells := fun b _ => b < w.heap.size
theorem FnV.bool {f : Nat} {vs : List V} {b : Bool} (h : FnV P Fence.wide f vs (Vb b)) {w : World} {vals : Array Value} (hl : vs.length = vals.size)
    (ha : ∀ (i : Nat) (v : V), vs[i]? = some v → ∃ x, v = .d x ∧ RepD w (oldC w) x (vals.getD i undef)) : Calls P f vals w fun e w' => e = .returned (.bool b) ∧ Below w.heap.size w w' := by
  have h0 := h.run w (oldC w) (oldC w) γ0 R0 vals (Rel.args hl (fun _ _ h => h) (fun _ _ h => h) fun i v hi => by
    obtain ⟨x, rfl, hx⟩ := ha i v hi
    exact ⟨fun _ => none, rfl, .d _ _ _ hx⟩) hl.symm
  refine (callsIn_wide.1 h0).mono fun e w' hr => ?_
  cases e with
  | returned c =>
    obtain ⟨E', N', L', γ', R', rfl, hrel, hlat, _⟩ := hr
    obtain ⟨c', h1, h2⟩ := hrel.rep (.s vs.length) _ (.head _)
    have hc : c' = c := by
      simp only [Tof] at h1
      rw [hl, Array.getElem?_push_size] at h1
      exact (Option.some.inj h1).symm
    subst hc
    refine ⟨?_, hlat.os, hlat.tape, hlat.output, hlat.size, fun k hk => hlat.frame k hk (fun ⟨l, hl⟩ => hl)⟩
    cases h2 with
    | d _ _ _ h3 => cases h3; rfl
  | _ => exact hr.elim
theorem cell_lt {w : World} {a : Addr} {v : Value} (h : w.cell? a = some v) : a.block < w.heap.size := by
  unfold World.cell? at h
  split at h
  · rename_i hb
    exact (Array.getElem?_eq_some_iff.1 hb).1
  · cases h
theorem add_off (b o n : Nat) : (Addr.mk b o none).add n = ⟨b, o + n, none⟩ := by
  unfold Addr.add
  split
  · subst n; rfl
  · rfl
variable {H : Type} {encH : TypeId × Value → H} {w : World} {spare : Nat → Bool} {held : Bool}
theorem rep_slice {α : Type} (enc : α → List D) (k : Nat) {t e : TypeId} (ht : P.underlying t = some (.slice e)) (hk : P.cellsOf e = k) (hk0 : 0 < k)
    (hel : ∀ (n : Nat) (cs : List Value) (x : DataW H × List MemPlace), DataW.trod encH P w 0 spare held n e cs = some x → ∃ a : α, (enc a).length = k ∧ ∀ (j : Nat) (d : D), (enc a)[j]? = some d → ∃ v, cs[j]? = some v ∧ d = .sc v ∧ scal v = true)
    {v : Value} {fuel : Nat} {x : DataW H × List MemPlace} (h : DataW.trod encH P w 0 spare held fuel t [v] = some x) (hsz : ∀ els sp, x.1 = .slice els sp → els.length ≤ lim) : ∃ l : List α, RepD w (oldC w) (.sl (l.map enc)) v := by
  rcases open_slice ht h with ⟨hcs, _⟩ | ⟨a, len, cap, m, n, Dt, Pl, hcs, hb, hl, hm, hmm, hx, hc⟩
  · simp at hcs
    subst hcs
    exact ⟨[], .nil none 0⟩
  simp at hcs
  subst hcs
  rcases Nat.eq_zero_or_pos len with h0 | h0
  · subst h0
    exact ⟨[], .nil (some a) cap⟩
  have hall : ∀ i : Fin len, ∃ y : α, (enc y).length = k ∧ ∀ (j : Nat) (d : D), (enc y)[j]? = some d → ∃ v, w.cell? ((a.add (i * k)).add j) = some v ∧ d = .sc v ∧ scal v = true := fun i => by
    obtain ⟨cs', h1, h2⟩ := hc i (by have := i.2; rw [hmm]; split <;> omega)
    rw [hk] at h1
    obtain ⟨y, h3, h4⟩ := hel _ _ _ h2
    obtain ⟨_, h5, h6⟩ := World.cells?_some h1
    refine ⟨y, h3, fun j d hd => ?_⟩
    obtain ⟨v, q1, q2, q3⟩ := h4 j d hd
    exact ⟨v, by rw [h6 j (by have := (List.getElem?_eq_some_iff.1 hd).1; omega), q1], q2, q3⟩
  have hll : len ≤ lim := by
    have := hsz ((List.range len).map Dt) _ (by rw [hx])
    simpa using this
  obtain ⟨b, o, spot⟩ := a
  have hsp : spot = none := by
    obtain ⟨y, h1, h2⟩ := hall ⟨0, h0⟩
    obtain ⟨v, h3, _⟩ := h2 0 _ (List.getElem?_eq_getElem (by omega))
    have := World.cell?_spot h3
    simpa [Addr.add] using this
  subst hsp
  have hlen : ((List.ofFn fun i : Fin len => Classical.choose (hall i)).map enc).length = len := by simp
  refine ⟨List.ofFn fun i : Fin len => Classical.choose (hall i), ?_⟩
  have hget : ∀ (i : Nat) (cs : List D), ((List.ofFn fun i : Fin len => Classical.choose (hall i)).map enc)[i]? = some cs → ∃ hi : i < len, cs = enc (Classical.choose (hall ⟨i, hi⟩)) := fun i cs h => by
    have hi : i < len := by have := (List.getElem?_eq_some_iff.1 h).1; simpa using this
    refine ⟨hi, ?_⟩
    simp [List.getElem?_ofFn, hi] at h
    exact h.symm
  generalize hxs : (List.ofFn fun i : Fin len => Classical.choose (hall i)).map enc = xs at hlen hget
  have key := RepD.sl (w := w) (N := oldC w) xs b o k cap (fun i j => (w.cell? ⟨b, o + i * k + j, none⟩).getD undef) (by rw [hlen]; exact hll) (by omega) (fun i cs hi => by
    obtain ⟨h1, rfl⟩ := hget i cs hi
    exact (Classical.choose_spec (hall ⟨i, h1⟩)).1) (fun i j hi hj => by
    obtain ⟨cs, hcs⟩ : ∃ cs, xs[i]? = some cs := ⟨_, List.getElem?_eq_getElem hi⟩
    obtain ⟨h1, rfl⟩ := hget i cs hcs
    obtain ⟨h2, h3⟩ := Classical.choose_spec (hall ⟨i, h1⟩)
    obtain ⟨v, h4, _⟩ := h3 j _ (List.getElem?_eq_getElem (by omega))
    rw [add_off, add_off] at h4
    have h4 : w.cell? ⟨b, o + i * k + j, none⟩ = some v := h4
    refine ⟨cell_lt h4, by rw [h4]; rfl⟩) (fun i j cs d hi hd => by
    obtain ⟨h1, rfl⟩ := hget i cs hi
    obtain ⟨v, h4, h5, h6⟩ := (Classical.choose_spec (hall ⟨i, h1⟩)).2 j d hd
    rw [add_off, add_off] at h4
    have h4 : w.cell? ⟨b, o + i * k + j, none⟩ = some v := h4
    simp only [h4]
    rw [h5]
    exact .sc _ h6)
  rw [hlen] at key
  exact key
theorem u8_of {t : TypeId} {n : Nat} {cs : List Value} {x : DataW H × List MemPlace} (ht : P.underlying t = some (.int .u8)) (h : DataW.trod encH P w 0 spare held n t cs = some x) : ∃ u : UInt8, cs = [.int .u8 u.toNat] := by
  obtain ⟨m, h1, _, h2⟩ := DataW.trod_int ht h
  have h3 := bounds_u8 h2
  refine ⟨UInt8.ofNat m.toNat, ?_⟩
  rw [h1]
  have : ((UInt8.ofNat m.toNat).toNat : Int) = m := by
    simp [UInt8.toNat_ofNat']
    omega
  rw [this]
theorem tbool_of {t : TypeId} {n : Nat} {cs : List Value} {x : DataW H × List MemPlace} (ht : P.underlying t = some .bool) (h : DataW.trod encH P w 0 spare held n t cs = some x) : ∃ u : Bool, cs = [.bool u] := by
  obtain ⟨m, h1, _⟩ := DataW.trod_bool ht h
  exact ⟨m, h1⟩
theorem cell_at {cs : List Value} {o : Nat} {v : Value} (h : (cs.drop o).take 1 = [v]) : cs[o]? = some v := by
  have h1 : ((cs.drop o).take 1)[0]? = some v := by rw [h]; rfl
  simpa [List.getElem?_take, List.getElem?_drop] using h1
theorem trod_struct6 {t : TypeId} {f0 f1 f2 f3 f4 f5 : Field} {fuel : Nat} {cs : List Value} {x : DataW H × List MemPlace} (ht : P.underlying t = some (.struct #[f0, f1, f2, f3, f4, f5])) (h : DataW.trod encH P w 0 spare held fuel t cs = some x) :
    ∃ n y0 y1 y2 y3 y4 y5, DataW.trod encH P w 0 spare held n f0.type ((cs.drop f0.offset).take (P.cellsOf f0.type)) = some y0 ∧ DataW.trod encH P w 0 spare held n f1.type ((cs.drop f1.offset).take (P.cellsOf f1.type)) = some y1 ∧
      DataW.trod encH P w 0 spare held n f2.type ((cs.drop f2.offset).take (P.cellsOf f2.type)) = some y2 ∧ DataW.trod encH P w 0 spare held n f3.type ((cs.drop f3.offset).take (P.cellsOf f3.type)) = some y3 ∧
      DataW.trod encH P w 0 spare held n f4.type ((cs.drop f4.offset).take (P.cellsOf f4.type)) = some y4 ∧ DataW.trod encH P w 0 spare held n f5.type ((cs.drop f5.offset).take (P.cellsOf f5.type)) = some y5 := by
  obtain ⟨xs, n, _, rfl, hl, hlen, hf⟩ := DataW.trod_struct ht h
  match xs, hlen with
  | [y0, y1, y2, y3, y4, y5], _ => exact ⟨n, y0, y1, y2, y3, y4, y5, by simpa using hf 0 f0 rfl, by simpa using hf 1 f1 rfl, by simpa using hf 2 f2 rfl, by simpa using hf 3 f3 rfl, by simpa using hf 4 f4 rfl, by simpa using hf 5 f5 rfl⟩
end
section
variable {H : Type} {encH : TypeId × Value → H} {w : World} {spare : Nat → Bool} {held : Bool}
theorem Tryz.c5 : Tryz.prog.cellsOf 5 = 1 := by kernel_rfl
theorem Tryz.c4 : Tryz.prog.cellsOf 4 = 1 := by kernel_rfl
set_option maxRecDepth 100000 in
theorem place_of (n : Nat) (cs : List Value) (x : DataW H × List MemPlace) (h : DataW.trod encH Tryz.prog w 0 spare held n 110 cs = some x) : ∃ a : Place, (Place.enc a).length = 4 ∧ ∀ (j : Nat) (d : D), (Place.enc a)[j]? = some d → ∃ v, cs[j]? = some v ∧ d = .sc v ∧ scal v = true := by
  obtain ⟨y0, y1, y2, y3, n, _, _, h0, h1, h2, h3⟩ := trod_struct4 Tryz.underlying110 h
  obtain ⟨u0, h0⟩ := u8_of Tryz.underlying5 h0
  obtain ⟨u1, h1⟩ := u8_of Tryz.underlying5 h1
  obtain ⟨u2, h2⟩ := u8_of Tryz.underlying5 h2
  obtain ⟨u3, h3⟩ := tbool_of Tryz.underlying4 h3
  simp only [Tryz.c5, Tryz.c4] at h0 h1 h2 h3
  refine ⟨⟨u0, u1, u2, u3⟩, rfl, fun j d hd => ?_⟩
  match j, hd with
  | 0, hd => cases hd; exact ⟨_, cell_at h0, rfl, rfl⟩
  | 1, hd => cases hd; exact ⟨_, cell_at h1, rfl, rfl⟩
  | 2, hd => cases hd; exact ⟨_, cell_at h2, rfl, rfl⟩
  | 3, hd => cases hd; exact ⟨_, cell_at h3, rfl, rfl⟩
set_option maxRecDepth 100000 in
theorem item_of (n : Nat) (cs : List Value) (x : DataW H × List MemPlace) (h : DataW.trod encH Tryz.prog w 0 spare held n 119 cs = some x) : ∃ a : Item, (Item.enc a).length = 6 ∧ ∀ (j : Nat) (d : D), (Item.enc a)[j]? = some d → ∃ v, cs[j]? = some v ∧ d = .sc v ∧ scal v = true := by
  obtain ⟨n, y0, y1, y2, y3, y4, y5, h0, h1, h2, h3, h4, h5⟩ := trod_struct6 Tryz.underlying119 h
  obtain ⟨u0, h0⟩ := u8_of Tryz.underlying5 h0
  obtain ⟨u1, h1⟩ := u8_of Tryz.underlying5 h1
  obtain ⟨u2, h2⟩ := u8_of Tryz.underlying5 h2
  obtain ⟨u3, h3⟩ := u8_of Tryz.underlying5 h3
  obtain ⟨u4, h4⟩ := tbool_of Tryz.underlying4 h4
  obtain ⟨u5, h5⟩ := tbool_of Tryz.underlying4 h5
  simp only [Tryz.c5, Tryz.c4] at h0 h1 h2 h3 h4 h5
  refine ⟨⟨u0, u1, u2, u3, u4, u5⟩, rfl, fun j d hd => ?_⟩
  match j, hd with
  | 0, hd => cases hd; exact ⟨_, cell_at h0, rfl, rfl⟩
  | 1, hd => cases hd; exact ⟨_, cell_at h1, rfl, rfl⟩
  | 2, hd => cases hd; exact ⟨_, cell_at h2, rfl, rfl⟩
  | 3, hd => cases hd; exact ⟨_, cell_at h3, rfl, rfl⟩
  | 4, hd => cases hd; exact ⟨_, cell_at h4, rfl, rfl⟩
  | 5, hd => cases hd; exact ⟨_, cell_at h5, rfl, rfl⟩
end
end Go.Proofs.VL
