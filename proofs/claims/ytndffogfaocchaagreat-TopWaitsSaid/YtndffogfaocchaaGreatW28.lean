import Derived.Test.YtndffogfaocchaaGreatW07
import Derived.Test.YtndffogfaocchaaGreatW14
import Derived.Test.YtndffogfaocchaaGreatW24
import Derived.Test.YtndffogfaocchaaGreatW25
import Derived.Test.YtndffogfaocchaaGreatW27
set_option linter.unusedVariables false
set_option linter.unusedSimpArgs false
set_option linter.unusedSectionVars false
namespace Go.Proofs.VL
open Go Go.RowKit
theorem latG_inj {at_ : Int} {g h : Group} (e : latG at_ g = latG at_ h) : g = h := by
  cases g; cases h
  simp only [latG, Group.mk.injEq] at e
  rw [lat_inj e.1, lat_inj e.2]
theorem gkey_lat (at_ : Int) (g h : Group) : gkey (latG at_ g) = gkey (latG at_ h) ↔ gkey g = gkey h := by
  simp only [gkey, latG, List.cons.injEq, and_true]
  exact ⟨fun e => ⟨lat_inj e.1, lat_inj e.2⟩, fun e => by rw [e.1, e.2]; exact ⟨rfl, rfl⟩⟩
theorem lat0 {at_ : Int} (h : 1 ≤ at_) : lat at_ 0 = 0 := by unfold lat; split <;> omega
theorem latC_noC {at_ : Int} (h : 1 ≤ at_) : latC at_ noC = noC := by simp [latC, latG, noC, lat0 h]
theorem findC_lat {at_ : Int} (h1 : 1 ≤ at_) (g : Group) : ∀ cs : List Count, findC (latG at_ g) (cs.map (latC at_)) = latC at_ (findC g cs)
  | [] => (latC_noC h1).symm
  | c :: cs => by
    rw [List.map_cons, findC, findC]
    show (if gkey (latG at_ c.g) = gkey (latG at_ g) then _ else _) = _
    have := gkey_lat at_ c.g g
    by_cases e : gkey c.g = gkey g
    · rw [if_pos e, if_pos (this.2 e)]
    · rw [if_neg e, if_neg (fun h => e (this.1 h)), findC_lat h1 g cs]
theorem setC_lat (at_ : Int) (x : Count) : ∀ cs : List Count, setC (latC at_ x) (cs.map (latC at_)) = (setC x cs).map (latC at_)
  | [] => rfl
  | c :: cs => by
    rw [List.map_cons, setC, setC]
    show (if gkey (latG at_ c.g) = gkey (latG at_ x.g) then _ else _) = _
    have := gkey_lat at_ c.g x.g
    by_cases e : gkey c.g = gkey x.g
    · rw [if_pos e, if_pos (this.2 e)]; rfl
    · rw [if_neg e, if_neg (fun h => e (this.1 h)), setC_lat at_ x cs]; rfl
theorem addBox_lat {at_ : Int} (h1 : 1 ≤ at_) (cs : List Count) (b : Box) : addBox (cs.map (latC at_)) (latB at_ b) = (addBox cs b).map (latC at_) := by
  have hg : (latB at_ b).g = latG at_ b.g := rfl
  rw [addBox, addBox, hg, findC_lat h1]
  by_cases e : b.size = 40
  · rw [if_pos (show (latB at_ b).size = 40 from e), if_pos e]
    exact setC_lat at_ ⟨b.g, _, _⟩ cs
  · rw [if_neg (show ¬ (latB at_ b).size = 40 from e), if_neg e]
    by_cases e2 : b.size = 20
    · rw [if_pos (show (latB at_ b).size = 20 from e2), if_pos e2]
      exact setC_lat at_ ⟨b.g, _, _⟩ cs
    · rw [if_neg (show ¬ (latB at_ b).size = 20 from e2), if_neg e2]
theorem countsOf_lat {at_ : Int} (h1 : 1 ≤ at_) (boxes : List Box) : countsOf (boxes.map (latB at_)) = (countsOf boxes).map (latC at_) := by
  have key : ∀ (l : List Box) (cs : List Count), (l.map (latB at_)).foldl addBox (cs.map (latC at_)) = (l.foldl addBox cs).map (latC at_) := by
    intro l
    induction l with
    | nil => intro cs; rfl
    | cons b l ih => intro cs; rw [List.map_cons, List.foldl_cons, List.foldl_cons, addBox_lat h1, ih]
  exact key boxes []
theorem insAt_map {α β : Type} {f : α → β} {c : α → α → Int} {c' : β → β → Int} (hc : ∀ a b, c' (f a) (f b) = c a b) : ∀ (j : Nat) (l : List α), insAt c' (l.map f) j = (insAt c l j).map f
  | 0, l => by cases l <;> rfl
  | j + 1, l => by
    rw [insAt, insAt, List.getElem?_map, List.getElem?_map]
    cases l[j + 1]? with
    | none => rfl
    | some a =>
      cases l[j]? with
      | none => rfl
      | some b =>
        simp only [Option.map_some, hc]
        split
        · rw [← List.map_set, ← List.map_set, insAt_map hc j]
        · rfl
theorem insTo_map {α β : Type} {f : α → β} {c : α → α → Int} {c' : β → β → Int} (hc : ∀ a b, c' (f a) (f b) = c a b) (l : List α) : ∀ k, insTo c' (l.map f) k = (insTo c l k).map f
  | 0 => rfl
  | k + 1 => by rw [insTo, insTo, insTo_map hc l k, insAt_map hc]
theorem isort_map {α β : Type} {f : α → β} {c : α → α → Int} {c' : β → β → Int} (hc : ∀ a b, c' (f a) (f b) = c a b) (l : List α) : isort c' (l.map f) = (isort c l).map f := by
  rw [isort, isort, List.length_map, insTo_map hc]
theorem groupCmp_lat (at_ : Int) (a b : Group) : groupCmp (latG at_ a) (latG at_ b) = groupCmp a b := by simp only [groupCmp, latG, lat_cmp]
theorem groupsOf_lat {at_ : Int} (h1 : 1 ≤ at_) (boxes : List Box) : groupsOf (boxes.map (latB at_)) = (groupsOf boxes).map (latC at_) := by
  rw [groupsOf, groupsOf, countsOf_lat h1]
  exact isort_map (f := latC at_) (c := fun a b => groupCmp a.g b.g) (c' := fun a b => groupCmp a.g b.g) (fun a b => groupCmp_lat at_ a.g b.g) _
theorem hereAt_lat {at_ : Nat} (h1 : 1 ≤ at_) (cs : List Count) (k : Nat) : hereAt (cs.map (latC at_)) k = (hereAt cs (befr at_ k : Nat)).map (latC at_) := by
  rw [hereAt, hereAt, List.filter_map]
  congr 1
  congr 1
  funext c
  simp only [Function.comp, latC, latG, lat, befr]
  congr 1 <;> (congr 1; apply propext; split <;> split <;> omega)
theorem getD_lat {at_ : Int} (h1 : 1 ≤ at_) (l : List Count) (i : Nat) : (l.map (latC at_)).getD i noC = latC at_ (l.getD i noC) := by
  rw [List.getD_eq_getElem?_getD, List.getD_eq_getElem?_getD, List.getElem?_map]
  cases l[i]? with
  | none => exact (latC_noC h1).symm
  | some c => rfl
theorem chainHere_lat {at_ : Int} (h1 : 1 ≤ at_) (l : List Count) : chainHere (l.map (latC at_)) = (chainHere l).map (latC at_) := by
  have ha : aboveC (l.map (latC at_)) = aboveC l := by
    funext j i
    simp only [aboveC, getD_lat h1]
    simp only [latC, latG, lat_lt]
  have hw : (fun i => ((l.map (latC at_)).getD i noC).weight) = fun i => (l.getD i noC).weight := by
    funext i
    rw [getD_lat h1]; rfl
  rw [chainHere, chainHere, ha, hw, List.length_map, List.map_map]
  congr 1
  funext i
  exact getD_lat h1 l i
theorem chainOf_lat {at_ : Nat} (h1 : 1 ≤ at_) (cs : List Count) (k : Nat) : chainOf (cs.map (latC at_)) k = (chainOf cs (befr at_ k : Nat)).map (latC at_) := by
  rw [chainOf, chainOf, hereAt_lat h1, chainHere_lat (by omega)]
theorem bound_lat (t H : Nat) (at_ : Int) (l : List Count) : bound t H (l.map (latC at_)) = bound t H l := by
  have hf : ∀ (left : List Int) (c : Count), fill t H left (latC at_ c) = fill t H left c := by
    intro left c
    have : ∀ (m : Nat) (next : List Int) (q : Nat), fillOut (latC at_ c) t H left m next q = fillOut c t H left m next q := by
      intro m
      induction m with
      | zero => intro _ _; rfl
      | succ m ih => intro next q; rw [fillOut, fillOut, ih]; rfl
    rw [fill, fill, this]
  have : ∀ (l : List Count) (left : List Int), (l.map (latC at_)).foldl (fill t H) left = l.foldl (fill t H) left := by
    intro l
    induction l with
    | nil => intro _; rfl
    | cons c l ih => intro left; rw [List.map_cons, List.foldl_cons, List.foldl_cons, hf, ih]
  rw [bound, bound, boundRow, boundRow, this]
def gstep {α : Type} (f : List α → Int) (b : List α × Int) (l : List α) : List α × Int := if f l > b.2 then (l, f l) else b
theorem greatest_fold {α : Type} (f : List α → Int) (ll : List (List α)) : greatest f ll = ll.foldl (gstep f) ([], 0) := by cases ll <;> rfl
theorem gstep_twice {α : Type} (f : List α → Int) (b : List α × Int) (l : List α) : gstep f (gstep f b l) l = gstep f b l := by
  unfold gstep
  by_cases h : f l > b.2
  · rw [if_pos h, if_neg (by simp)]
  · rw [if_neg h, if_neg h]
theorem gstep_snd {α : Type} (f : List α → Int) : ∀ (ll : List (List α)) (b : List α × Int), b.2 ≤ (ll.foldl (gstep f) b).2
  | [], b => Int.le_refl _
  | l :: ll, b => by
    rw [List.foldl_cons]
    refine Int.le_trans ?_ (gstep_snd f ll _)
    unfold gstep
    split
    · simp only; omega
    · exact Int.le_refl _
theorem foldl_gmap {α β : Type} {f : List α → Int} {f' : List β → Int} {m : α → β} (hf : ∀ l, f' (l.map m) = f l) : ∀ (ll : List (List α)) (b : List α × Int), (ll.map (List.map m)).foldl (gstep f') (b.1.map m, b.2) = ((ll.foldl (gstep f) b).1.map m, (ll.foldl (gstep f) b).2)
  | [], b => rfl
  | l :: ll, b => by
    rw [List.map_cons, List.foldl_cons, List.foldl_cons]
    have : gstep f' (b.1.map m, b.2) (l.map m) = ((gstep f b l).1.map m, (gstep f b l).2) := by
      unfold gstep
      rw [hf]
      split <;> rfl
    rw [this]
    exact foldl_gmap hf ll _
theorem range_split {β : Type} (g : Nat → β) {at_ : Nat} (h1 : 1 ≤ at_) (h2 : at_ ≤ 6) :
    (List.range 20).map (fun k => g (befr at_ k)) = (List.range (at_ - 1)).map g ++ g (at_ - 1) :: g (at_ - 1) :: (List.range (19 - at_)).map (fun k => g (at_ + k)) ∧
    (List.range 20).map g = ((List.range (at_ - 1)).map g ++ g (at_ - 1) :: (List.range (19 - at_)).map (fun k => g (at_ + k))) ++ [g 19] := by
  match at_, h1, h2 with
  | 1, _, _ => exact ⟨rfl, rfl⟩
  | 2, _, _ => exact ⟨rfl, rfl⟩
  | 3, _, _ => exact ⟨rfl, rfl⟩
  | 4, _, _ => exact ⟨rfl, rfl⟩
  | 5, _, _ => exact ⟨rfl, rfl⟩
  | 6, _, _ => exact ⟨rfl, rfl⟩
  | n + 7, _, h => omega
theorem pickOf_lat {at_ : Nat} (h1 : 1 ≤ at_) (h2 : at_ ≤ 6) (t H : Nat) {cs : List Count} (hd : ∀ c ∈ cs, c.g.disch ≤ 19) : pickOf t H (cs.map (latC at_)) = ((pickOf t H cs).1.map (latC at_), (pickOf t H cs).2) := by
  obtain ⟨e1, e2⟩ := range_split (fun k => chainOf cs (k : Int)) h1 h2
  have e0 : chainsOf (cs.map (latC at_)) = ((List.range 20).map (fun k => chainOf cs (befr at_ k : Nat))).map (List.map (latC at_)) := by
    rw [chainsOf, List.map_map]
    exact List.map_congr_left fun k _ => chainOf_lat h1 cs k
  have e3 : chainOf cs ((19 : Nat) : Int) = [] := by
    have : hereAt cs ((19 : Nat) : Int) = [] := List.filter_eq_nil_iff.2 (fun c hc => by have := hd c hc; simp; omega)
    rw [chainOf, this]; rfl
  have hm := foldl_gmap (f := bound t H) (f' := bound t H) (m := latC at_) (fun l => bound_lat t H _ l)
  rw [pickOf, pickOf, e0, e1, greatest_fold, greatest_fold, chainsOf, e2, e3]
  generalize (List.range (at_ - 1)).map (fun k : Nat => chainOf cs (k : Int)) = A
  generalize (List.range (19 - at_)).map (fun k => chainOf cs ((at_ + k : Nat) : Int)) = B
  generalize chainOf cs ((at_ - 1 : Nat) : Int) = x
  rw [show (([], 0) : List Count × Int) = ((([] : List Count).map (latC at_)), 0) from rfl, hm _ ([], 0)]
  have hz : ∀ b : List Count × Int, 0 ≤ b.2 → gstep (bound t H) b [] = b := fun b hb => by
    unfold gstep
    rw [bound_nil, if_neg (by omega)]
  simp only [List.foldl_append, List.foldl_cons, List.foldl_nil, gstep_twice, List.map_nil]
  have h0 := gstep_snd (bound t H) (A ++ x :: B) ([], 0)
  simp only [List.foldl_append, List.foldl_cons] at h0
  rw [hz _ h0]
theorem same_lat (at_ : Int) (g h : Group) : Group.same (latG at_ g) (latG at_ h) = Group.same g h := by
  cases e : Group.same g h with
  | true => rw [(Group.same_iff _ _).1 e]; exact (Group.same_iff _ _).2 rfl
  | false =>
    cases e2 : Group.same (latG at_ g) (latG at_ h) with
    | false => rfl
    | true => rw [latG_inj ((Group.same_iff _ _).1 e2), (Group.same_iff h h).2 rfl] at e; cases e
theorem dropG_lat (at_ : Int) (gs : List Group) (cs : List Count) : dropG (gs.map (latG at_)) (cs.map (latC at_)) = (dropG gs cs).map (latC at_) := by
  rw [dropG, dropG, List.filter_map]
  congr 1
  congr 1
  funext c
  simp only [Function.comp, List.any_map]
  congr 1
  congr 1
  funext y
  exact same_lat at_ c.g y
theorem findLoop_lat {at_ : Nat} (h1 : 1 ≤ at_) (h2 : at_ ≤ 6) (t H : Nat) : ∀ (f : Nat) (cs : List Count) (xs : List (List Group)) (sum : Int), (∀ c ∈ cs, c.g.disch ≤ 19) →
    findLoop t H f (cs.map (latC at_)) (xs.map (List.map (latG at_)), sum) = ((findLoop t H f cs (xs, sum)).1.map (List.map (latG at_)), (findLoop t H f cs (xs, sum)).2)
  | 0, _, _, _, _ => rfl
  | f + 1, cs, xs, sum, hd => by
    rw [findLoop, findLoop, pickOf_lat h1 h2 t H hd]
    simp only
    by_cases e : (pickOf t H cs).2 = 0
    · rw [if_pos e, if_pos e]
    · rw [if_neg e, if_neg e]
      have hg : ((pickOf t H cs).1.map (latC at_)).map (·.g) = ((pickOf t H cs).1.map (·.g)).map (latG at_) := by rw [List.map_map, List.map_map]; rfl
      rw [hg, dropG_lat]
      have := findLoop_lat h1 h2 t H f (dropG ((pickOf t H cs).1.map (·.g)) cs) (xs ++ [(pickOf t H cs).1.map (·.g)]) (w64 (sum + (pickOf t H cs).2)) (fun c hc => hd c (List.mem_filter.1 hc).1)
      rw [List.map_append] at this
      exact this
theorem countsOf_g (l : List Box) : ∀ c ∈ countsOf l, ∃ b ∈ l, c.g = b.g := by
  have key : ∀ (l : List Box) (cs : List Count) (p : Group → Prop), (∀ c ∈ cs, p c.g) → (∀ b ∈ l, p b.g) → ∀ c ∈ l.foldl addBox cs, p c.g := by
    intro l
    induction l with
    | nil => intro cs p h _ c hc; exact h c hc
    | cons b l ih =>
      intro cs p h hb c hc
      refine ih (addBox cs b) p (fun d hd => ?_) (fun x hx => hb x (.tail _ hx)) c hc
      rw [addBox] at hd
      split at hd
      · rcases mem_setC hd with rfl | hd
        · exact hb b (.head _)
        · exact h d hd
      · split at hd
        · rcases mem_setC hd with rfl | hd
          · exact hb b (.head _)
          · exact h d hd
        · exact h d hd
  exact fun c hc => key l [] (fun g => ∃ b ∈ l, g = b.g) (fun c h => by cases h) (fun b hb => ⟨b, hb, rfl⟩) c hc
theorem findOf_lat {at_ : Nat} (h1 : 1 ≤ at_) (h2 : at_ ≤ 6) {s : Ship} {boxes : List Box} (hs : ShipRight s) {calls : Nat} (hc : calls ≤ 6) (hf : VoyFit calls boxes) :
    (findOf s boxes).2 = 0 ∧ findOf s (boxes.map (latB at_)) = (((findOf s boxes).1.1.map (List.map (latG at_)), (findOf s boxes).1.2), 0) := by
  have e1 : (shipRight s && boxesOK 20 boxes) = true := by rw [shipRight_iff.2 hs, show boxesOK 20 boxes = true from boxesOK_of (calls := 20) (by omega) (by omega) (voyFit_mono (by omega) hf)]; rfl
  have e2 : (shipRight s && boxesOK 20 (boxes.map (latB at_))) = true := by rw [shipRight_iff.2 hs, show boxesOK 20 (boxes.map (latB at_)) = true from boxesOK_of (calls := 20) (by omega) (by omega) (voyFit_mono (by omega) (voyFit_lat h1 hf))]; rfl
  rw [findOf, findOf, if_pos e1, if_pos e2]
  refine ⟨rfl, ?_⟩
  have hd : ∀ c ∈ groupsOf boxes, c.g.disch ≤ 19 := fun c hcm => by
    obtain ⟨b, hb, e⟩ := countsOf_g boxes c ((isort_perm _ _).mem_iff.1 hcm)
    have := (hf.2.2 b hb).disch
    rw [e]
    simp only [Box.g]; omega
  have := findLoop_lat h1 h2 (tallN s) (2 * s.cols.length) ((groupsOf boxes).length + 1) (groupsOf boxes) [] 0 hd
  rw [List.map_nil] at this
  rw [groupsOf_lat (by omega), List.length_map, this]
end Go.Proofs.VL
namespace Go.Proofs.VL
open Go Go.RowKit
variable {F : Fence}
structure Place where
  bay : UInt8
  row : UInt8
  tiers : UInt8
  deck : Bool
def Place.enc (p : Place) : List D := [du p.bay.toNat, du p.row.toNat, du p.tiers.toNat, db p.deck]
def Place.col (p : Place) : Column :=
  let bay : Int := ((p.bay.toNat % 5 : Nat) : Int)
  let row : Int := ((p.row.toNat % 5 : Nat) : Int)
  ⟨bay, row, p.deck, ((2 + p.tiers.toNat % 4 : Nat) : Int), 0, 500000000, 500000000, 0, 13000 * bay - 26000, 2500 * row - 5000, if p.deck then 20000 else 2000⟩
def addCol (cols : List Column) (c : Column) : List Column := if (firstOf (fun d : Column => d.bay == c.bay && d.row == c.row && d.deck == c.deck) cols).2 then cols else cols ++ [c]
def builtCols (l : List Place) : List Column := l.foldl (fun cols p => addCol cols p.col) []
theorem builtCols_snoc (l : List Place) (p : Place) : builtCols (l ++ [p]) = addCol (builtCols l) p.col := by simp [builtCols, List.foldl_append]
theorem addCol_len (cols : List Column) (c : Column) : (addCol cols c).length ≤ cols.length + 1 := by
  unfold addCol; split <;> simp
theorem builtCols_len (l : List Place) : (builtCols l).length ≤ l.length := by
  have : ∀ (l : List Place) (cols : List Column), (l.foldl (fun cols p => addCol cols p.col) cols).length ≤ cols.length + l.length := by
    intro l
    induction l with
    | nil => intro cols; simp
    | cons p l ih =>
      intro cols
      have h1 := ih (addCol cols p.col)
      have h2 := addCol_len cols p.col
      simp only [List.foldl_cons, List.length_cons]
      omega
  have := this l []
  simp only [List.length_nil, Nat.zero_add] at this
  exact this
theorem rem8 (n m : Nat) (h : n < 256) : Iv64 ((IntKind.wrap .i64 (n : Int)).tmod (m : Int)) = Iv64 ((n % m : Nat) : Int) := by rw [wrap_id (by omega) (by omega)]; rfl
def colsOf (l : List Place) : List Column := match builtCols (l.take 12) with | [] => [⟨0, 0, false, 3, 0, 500000000, 500000000, 0, 0, 0, 2000⟩] | c :: cs => c :: cs
def cbit (c : Int) (i : Nat) : Bool := IntKind.wrap .u32 (((BitVec.ofInt (IntKind.bits .u32) (c.fdiv (2 ^ min i (IntKind.bits .u32)))) &&& BitVec.ofInt (IntKind.bits .u32) 1).toNat : Int) == 1
def coversTo (c : Int) : Nat → List Cover
  | 0 => []
  | k + 1 => coversTo c k ++ (if cbit c (2 * k) then [⟨k, [0, 1]⟩] else []) ++ (if cbit c (2 * k + 1) then [⟨k, [2, 3, 4]⟩] else [])
theorem coversTo_len (c : Int) (k : Nat) : (coversTo c k).length ≤ 2 * k := by
  induction k with
  | zero => simp [coversTo]
  | succ k ih =>
    simp only [coversTo, List.length_append]
    split <;> split <;> simp <;> omega
def built (l : List Place) (covers : Int) : Ship := ⟨colsOf l, coversTo covers 5⟩
theorem lens_place (l : List Place) : lens 4 (l.map Place.enc) := lens_map (enc := Place.enc) (fun _ => rfl) l
abbrev z35 : List V := [.d .nl, .d .nl, Iv64 0, Iv64 0, Iv64 0, Iv64 0, .d .nl, .d .nl, .d .nl, Iv64 0, Iv64 0, Iv64 0, Iv64 0]
abbrev Rb (l : List Place) (covers : Int) (k : Nat) : Env := [(.s 16, Vs ((l.take 12).map Place.enc)), (.s 1, .d (.sc (.int .u32 covers))), (.s 4, .bx 35 z35), (.s 5, .bx 35 (.ref (.c 5 0) :: .ref (.c 5 1) :: z35.drop 2)), (.c 5 0, .row false 112 ((builtCols ((l.take 12).take k)).map Column.enc)), (.c 5 1, .row false 116 [])]
theorem f6 (hF : Wide F) (hro : F.round = none) (l : List Place) (covers : Int) :
    FnV Tryz.prog F 6 [Vs (l.map Place.enc), .d (.sc (.int .u32 covers))] (Vd (built l covers).enc) := by
  refine FnV.of_AW hF hro hτ Tryz.func6 rfl (by decide) rfl (by simp [Tryz.f6]) ?_
  (repeat' first | apply Wq | refine Ws hF hτ rfl ?_ | apply Wb | apply Wl | apply Wk | apply We | apply Wn)
  have hlen : (if (12 : Int) < ((l.map Place.enc).length : Int) then (12 : Int) else ((l.map Place.enc).length : Int)) = ((l.take 12).length : Int) := by
    simp only [List.length_map, List.length_take]
    split <;> omega
  refine AL.opM (OpM.eq (congrArg Iv64 hlen) (OpM.min hF rfl rfl rfl rfl rfl rfl rfl)) rfl rfl ?_
  refine AL.opM (OpM.eq (v' := Vs ((l.take 12).map Place.enc)) ?_ (OpM.sliceD hF rfl (hτ _ _ rfl) rfl (hτ _ _ rfl) rfl (lens_place l) (l := 0) (h := (l.take 12).length) (.inl ⟨rfl, rfl⟩) (.inr ⟨_, .i64, rfl, rfl⟩) ?_ ?_ rfl rfl)) rfl rfl ?_
  · simp [List.map_take, List.take_take]
  · omega
  · simp; omega
  refine Wv hF hτ rfl (Wn ?_)
  refine AW.ent ((Ent.nilRow (t := 5) (i := 0) (m := false) (e := 112) rfl).trans (Ent.nilRow (t := 5) (i := 1) (m := false) (e := 116) rfl)) ?_
  (repeat' first | apply Wq | refine Ws hF hτ rfl ?_ | apply Wb | apply Wl | apply Wk | apply We | apply Wn)
  refine AW.range hF rfl rfl rfl rfl rfl rfl rfl rfl rfl ((l.take 12).map Place.enc).length (by simp [lim]; omega) (Rb l covers) ?_ ?_ (fun k hk => ?_) ?_
  · exact fun k => rfl
  · (repeat' first | exact Sub.nil | refine Sub.put rfl ?_ | refine Sub.put ?_ ?_)
  · obtain ⟨p, hp⟩ : ∃ p, (l.take 12)[k]? = some p := ⟨_, List.getElem?_eq_getElem (by simpa using hk)⟩
    have hk12 : k < 12 := by simp at hk; omega
    have hb5 : p.bay.toNat % 5 < 5 := Nat.mod_lt _ (by decide)
    have hr5 : p.row.toNat % 5 < 5 := Nat.mod_lt _ (by decide)
    have ht4 : p.tiers.toNat % 4 < 4 := Nat.mod_lt _ (by decide)
    have hx : IntKind.wrap .i64 (IntKind.wrap .i64 (13000 * ((p.bay.toNat % 5 : Nat) : Int)) - 26000) = 13000 * ((p.bay.toNat % 5 : Nat) : Int) - 26000 := by rw [wrap_id (x := 13000 * ((p.bay.toNat % 5 : Nat) : Int)) (by omega) (by omega), wrap_id (by omega) (by omega)]
    have hy : IntKind.wrap .i64 (IntKind.wrap .i64 (2500 * ((p.row.toNat % 5 : Nat) : Int)) - 5000) = 2500 * ((p.row.toNat % 5 : Nat) : Int) - 5000 := by rw [wrap_id (x := 2500 * ((p.row.toNat % 5 : Nat) : Int)) (by omega) (by omega), wrap_id (by omega) (by omega)]
    have htt : IntKind.wrap .i64 (2 + ((p.tiers.toNat % 4 : Nat) : Int)) = ((2 + p.tiers.toNat % 4 : Nat) : Int) := by rw [wrap_id (by omega) (by omega)]; omega
    (repeat' first | apply Wq | refine Ws hF hτ rfl ?_ | apply Wb | apply Wl | apply Wk | apply We | apply Wn)
    refine AL.opM (OpM.indexD hF rfl (hτ _ _ rfl) rfl (hτ _ _ rfl) rfl (i := k) rfl (get_enc Place.enc hp) rfl rfl rfl) rfl rfl ?_
    refine Wv hF hτ rfl (Wn ?_)
    (repeat' first | apply Wq | refine Ws hF hτ rfl ?_ | apply Wb | apply Wl | apply Wk | apply We | apply Wn)
    refine AL.opM (OpM.eq (rem8 _ 5 (UInt8.toNat_lt _)) (OpM.rem hF rfl rfl rfl (by decide) rfl rfl)) rfl rfl ?_
    refine Wv hF hτ rfl ?_
    refine AL.opM (OpM.eq (rem8 _ 5 (UInt8.toNat_lt _)) (OpM.rem hF rfl rfl rfl (by decide) rfl rfl)) rfl rfl ?_
    refine Wv hF hτ rfl ?_
    refine AL.opM (OpM.eq (rem8 _ 4 (UInt8.toNat_lt _)) (OpM.rem hF rfl rfl rfl (by decide) rfl rfl)) rfl rfl ?_
    refine Wv hF hτ rfl (Wn ?_)
    (repeat' first | apply Wq | refine Ws hF hτ rfl ?_ | apply Wb | apply Wl | apply Wk | apply We | apply Wn)
    refine AW.to ((.s 8, .bx 112 (p.col.enc.map .d)) :: rangeI 18 17 k ((l.take 12).map Place.enc).length (Rb l covers k)) rfl (AW.cond rfl rfl (fun hd => ?_) (fun hd => ?_)) ?_
    · (repeat' first | apply Wq | refine Ws hF hτ rfl ?_ | apply Wb | apply Wl | apply Wk | apply We | apply Wn)
      (repeat' first | exact Sub.nil | refine Sub.put rfl ?_ | refine Sub.put ?_ ?_)
      refine congrArg (fun z => some (V.bx 112 z)) ?_
      rw [hx, hy, htt]
      simp [Place.col, Column.enc, hd]
    · (repeat' first | apply Wq | refine Ws hF hτ rfl ?_ | apply Wb | apply Wl | apply Wk | apply We | apply Wn)
      (repeat' first | exact Sub.nil | refine Sub.put rfl ?_ | refine Sub.put ?_ ?_)
      refine congrArg (fun z => some (V.bx 112 z)) ?_
      rw [hx, hy, htt]
      simp [Place.col, Column.enc, hd]
    (repeat' first | apply Wq | refine Ws hF hτ rfl ?_ | apply Wb | apply Wl | apply Wk | apply We | apply Wn)
    have hcl : (builtCols ((l.take 12).take k)).length ≤ k := Nat.le_trans (builtCols_len _) (by simp; omega)
    refine AL.opM (OpM.call hF rfl rfl rfl rfl (f42 hF hro ⟨builtCols ((l.take 12).take k), []⟩ p.col.bay p.col.row p.col.deck (by simp only; omega)) rfl rfl rfl) rfl rfl ?_
    refine Wv hF hτ rfl (Wn ?_)
    (repeat' first | apply Wq | refine Ws hF hτ rfl ?_ | apply Wb | apply Wl | apply Wk | apply We | apply Wn)
    refine AW.cond rfl rfl (fun hc => ?_) (fun hc => ?_)
    · (repeat' first | apply Wq | refine Ws hF hτ rfl ?_ | apply Wb | apply Wl | apply Wk | apply We | apply Wn)
      refine AL.opM (OpM.buildSlice hF rfl (hτ _ _ rfl) rfl (hτ _ _ rfl) rfl rfl rfl (by decide) (by decide) rfl rfl) rfl rfl ?_
      refine AL.op rfl (OpTo.append hF rfl rfl rfl rfl (hτ _ _ rfl) rfl (hτ _ _ rfl) rfl rfl rfl rfl (by intro cs h; cases h with | head => rfl | tail _ h => cases h) ?_ ?_ rfl rfl rfl) ?_
      · simp [Base.xs, chunks, lim]; omega
      · simp [Base.xs, chunks]; omega
      refine Wv hF hτ rfl (Wn ?_)
      (repeat' first | exact Sub.nil | refine Sub.put rfl ?_ | refine Sub.put ?_ ?_)
      refine congrArg (fun z => some (V.row false 112 z)) ?_
      have hc' : (firstOf (fun d : Column => d.bay == p.col.bay && d.row == p.col.row && d.deck == p.col.deck) (builtCols ((l.take 12).take k))).2 = false := by simpa [Ship.find] using hc
      rw [take_snoc hp, builtCols_snoc, addCol, if_neg (by rw [hc']; decide), List.map_append]
      rfl
    · (repeat' first | apply Wq | refine Ws hF hτ rfl ?_ | apply Wb | apply Wl | apply Wk | apply We | apply Wn)
      (repeat' first | exact Sub.nil | refine Sub.put rfl ?_ | refine Sub.put ?_ ?_)
      refine congrArg (fun z => some (V.row false 112 z)) ?_
      have hc' : (firstOf (fun d : Column => d.bay == p.col.bay && d.row == p.col.row && d.deck == p.col.deck) (builtCols ((l.take 12).take k))).2 = true := by simpa [Ship.find] using hc
      rw [take_snoc hp, builtCols_snoc, addCol, if_pos hc']
  have htk : (l.take 12).take ((l.take 12).map Place.enc).length = l.take 12 := by rw [List.length_map, List.take_length]
  (repeat' first | apply Wq | refine Ws hF hτ rfl ?_ | apply Wb | apply Wl | apply Wk | apply We | apply Wn)
  refine AW.to [(.s 1, .d (.sc (.int .u32 covers))), (.s 4, .bx 35 z35), (.s 5, .bx 35 (.ref (.c 5 0) :: .ref (.c 5 1) :: z35.drop 2)), (.c 5 0, .row false 112 ((colsOf l).map Column.enc)), (.c 5 1, .row false 116 [])] rfl (AW.cond rfl rfl (fun hc => ?_) (fun hc => ?_)) ?_
  · (repeat' first | apply Wq | refine Ws hF hτ rfl ?_ | apply Wb | apply Wl | apply Wk | apply We | apply Wn)
    refine AL.opM (OpM.buildSlice hF rfl (hτ _ _ rfl) rfl (hτ _ _ rfl) rfl rfl rfl (by decide) (by decide) rfl rfl) rfl rfl ?_
    refine AL.steps hF hτ rfl (AL.ent (Ent.tok (l := .c 5 0) rfl) (AL.nil ?_))
    (repeat' first | exact Sub.nil | refine Sub.put rfl ?_ | refine Sub.put ?_ ?_)
    refine congrArg (fun z => some (V.row false 112 z)) ?_
    have he : builtCols (l.take 12) = [] := by
      rw [htk] at hc
      simpa using hc
    rw [colsOf, he]
    rfl
  · (repeat' first | apply Wq | refine Ws hF hτ rfl ?_ | apply Wb | apply Wl | apply Wk | apply We | apply Wn)
    (repeat' first | exact Sub.nil | refine Sub.put rfl ?_ | refine Sub.put ?_ ?_)
    refine congrArg (fun z => some (V.row false 112 z)) ?_
    rw [htk] at hc ⊢
    rw [colsOf]
    cases hb : builtCols (l.take 12) with
    | nil => simp [hb] at hc
    | cons c cs => rfl
  (repeat' first | apply Wq | refine Ws hF hτ rfl ?_ | apply Wb | apply Wl | apply Wk | apply We | apply Wn)
  refine AW.loopI (X := { k : Nat // k ≤ 5 }) (fun k => [(.s 11, Iv64 k.1), (.s 1, .d (.sc (.int .u32 covers))), (.s 4, .bx 35 z35), (.s 5, .bx 35 (.ref (.c 5 0) :: .ref (.c 5 1) :: z35.drop 2)), (.c 5 0, .row false 112 ((colsOf l).map Column.enc)), (.c 5 1, .row false 116 ((coversTo covers k.1).map Cover.enc))]) (fun k => 5 - k.1) (fun k => rfl) ⟨0, Nat.zero_le _⟩ ?_ ?_
  · (repeat' first | exact Sub.nil | refine Sub.put rfl ?_ | refine Sub.put ?_ ?_)
  rintro ⟨k, hk⟩
  (repeat' first | apply Wq | refine Ws hF hτ rfl ?_ | apply Wb | apply Wl | apply Wk | apply We | apply Wn)
  refine AW.cond rfl rfl (fun hc => ?_) (fun hc => ?_)
  · (repeat' first | apply Wq | refine Ws hF hτ rfl ?_ | apply Wb | apply Wl | apply Wk | apply We | apply Wn)
    have hk5 : k < 5 := by have := of_decide_eq_true hc; simp only at this; omega
    have hw1 : IntKind.wrap .i64 (2 * (k : Int)) = ((2 * k : Nat) : Int) := by rw [wrap_id (by omega) (by omega)]; omega
    have hw2 : IntKind.wrap .i64 (IntKind.wrap .i64 (2 * (k : Int)) + 1) = ((2 * k + 1 : Nat) : Int) := by rw [hw1, wrap_id (by omega) (by omega)]; omega
    have hw3 : IntKind.wrap .i64 ((k : Int) + 1) = ((k + 1 : Nat) : Int) := wrap_id (by omega) (by omega)
    have hcv := coversTo_len covers k
    refine AL.opM (OpM.eq (congrArg (fun z => Iv .u32 (covers.fdiv (2 ^ min (Int.toNat z) (IntKind.bits .u32)))) hw1) (OpM.shr hF rfl rfl rfl (by show (0 : Int) ≤ IntKind.wrap .i64 (2 * (k : Int)); rw [hw1]; omega) rfl rfl)) rfl rfl ?_
    refine AL.opM (OpM.and hF rfl rfl rfl rfl rfl) rfl rfl ?_
    refine Wv hF hτ rfl (Wn ?_)
    (repeat' first | apply Wq | refine Ws hF hτ rfl ?_ | apply Wb | apply Wl | apply Wk | apply We | apply Wn)
    refine AW.to [(.s 11, Iv64 k), (.s 1, .d (.sc (.int .u32 covers))), (.s 4, .bx 35 z35), (.s 5, .bx 35 (.ref (.c 5 0) :: .ref (.c 5 1) :: z35.drop 2)), (.c 5 0, .row false 112 ((colsOf l).map Column.enc)), (.c 5 1, .row false 116 ((coversTo covers k ++ (if cbit covers (2 * k) then [(⟨k, [0, 1]⟩ : Cover)] else [])).map Cover.enc))] rfl (AW.cond rfl rfl (fun hb => ?_) (fun hb => ?_)) ?_
    · (repeat' first | apply Wq | refine Ws hF hτ rfl ?_ | apply Wb | apply Wl | apply Wk | apply We | apply Wn)
      refine AL.opM (OpM.buildSlice hF rfl (hτ _ _ rfl) rfl (hτ _ _ rfl) rfl rfl rfl (by decide) (by decide) rfl rfl) rfl rfl ?_
      refine Wv hF hτ rfl ?_
      refine AL.ent (Ent.frzs (ls := [.s 92]) rfl) ?_
      refine AL.opM (OpM.buildSlice hF rfl (hτ _ _ rfl) rfl (hτ _ _ rfl) rfl rfl rfl (by decide) (by decide) rfl rfl) rfl rfl ?_
      refine AL.op rfl (OpTo.append hF rfl rfl rfl rfl (hτ _ _ rfl) rfl (hτ _ _ rfl) rfl rfl rfl rfl (by intro cs h; cases h with | head => rfl | tail _ h => cases h) ?_ ?_ rfl rfl rfl) ?_
      · simp [Base.xs, chunks, lim]; omega
      · simp [Base.xs, chunks]; omega
      refine Wv hF hτ rfl (Wn ?_)
      (repeat' first | exact Sub.nil | refine Sub.put rfl ?_ | refine Sub.put ?_ ?_)
      refine congrArg (fun z => some (V.row false 116 z)) ?_
      have hb' : cbit covers (2 * k) = true := hb
      rw [if_pos hb', List.map_append]
      rfl
    · (repeat' first | apply Wq | refine Ws hF hτ rfl ?_ | apply Wb | apply Wl | apply Wk | apply We | apply Wn)
      (repeat' first | exact Sub.nil | refine Sub.put rfl ?_ | refine Sub.put ?_ ?_)
      refine congrArg (fun z => some (V.row false 116 z)) ?_
      have hb' : cbit covers (2 * k) = false := hb
      rw [if_neg (by rw [hb']; decide), List.append_nil]
    have hcv2 : (coversTo covers k ++ (if cbit covers (2 * k) then [(⟨k, [0, 1]⟩ : Cover)] else [])).length ≤ 2 * k + 1 := by
      rw [List.length_append]; split <;> simp <;> omega
    (repeat' first | apply Wq | refine Ws hF hτ rfl ?_ | apply Wb | apply Wl | apply Wk | apply We | apply Wn)
    refine AL.opM (OpM.eq (congrArg (fun z => Iv .u32 (covers.fdiv (2 ^ min (Int.toNat z) (IntKind.bits .u32)))) hw2) (OpM.shr hF rfl rfl rfl (by show (0 : Int) ≤ IntKind.wrap .i64 (IntKind.wrap .i64 (2 * (k : Int)) + 1); rw [hw2]; omega) rfl rfl)) rfl rfl ?_
    refine AL.opM (OpM.and hF rfl rfl rfl rfl rfl) rfl rfl ?_
    refine Wv hF hτ rfl (Wn ?_)
    (repeat' first | apply Wq | refine Ws hF hτ rfl ?_ | apply Wb | apply Wl | apply Wk | apply We | apply Wn)
    refine AW.toN [(.s 11, Iv64 k), (.s 1, .d (.sc (.int .u32 covers))), (.s 4, .bx 35 z35), (.s 5, .bx 35 (.ref (.c 5 0) :: .ref (.c 5 1) :: z35.drop 2)), (.c 5 0, .row false 112 ((colsOf l).map Column.enc)), (.c 5 1, .row false 116 ((coversTo covers (k + 1)).map Cover.enc))] (AW.cond rfl rfl (fun hb => ?_) (fun hb => ?_)) (fun E' hs => AW.subE hs (nodupB_ok rfl) ?_)
    · (repeat' first | apply Wq | refine Ws hF hτ rfl ?_ | apply Wb | apply Wl | apply Wk | apply We | apply Wn)
      refine AL.opM (OpM.buildSlice hF rfl (hτ _ _ rfl) rfl (hτ _ _ rfl) rfl rfl rfl (by decide) (by decide) rfl rfl) rfl rfl ?_
      refine Wv hF hτ rfl ?_
      refine AL.ent (Ent.frzs (ls := [.s 107]) rfl) ?_
      refine AL.opM (OpM.buildSlice hF rfl (hτ _ _ rfl) rfl (hτ _ _ rfl) rfl rfl rfl (by decide) (by decide) rfl rfl) rfl rfl ?_
      refine AL.op rfl (OpTo.append hF rfl rfl rfl rfl (hτ _ _ rfl) rfl (hτ _ _ rfl) rfl rfl rfl rfl (by intro cs h; cases h with | head => rfl | tail _ h => cases h) ?_ ?_ rfl rfl rfl) ?_
      · simp only [List.length_append] at hcv2; simp [Base.xs, chunks, lim]; omega
      · simp only [List.length_append] at hcv2; simp [Base.xs, chunks]; omega
      refine Wv hF hτ rfl (Wn ?_)
      (repeat' first | exact Sub.nil | refine Sub.put rfl ?_ | refine Sub.put ?_ ?_)
      refine congrArg (fun z => some (V.row false 116 z)) ?_
      have hb' : cbit covers (2 * k + 1) = true := hb
      rw [coversTo, if_pos hb', List.map_append, List.map_append, List.map_append]
      rfl
    · (repeat' first | apply Wq | refine Ws hF hτ rfl ?_ | apply Wb | apply Wl | apply Wk | apply We | apply Wn)
      (repeat' first | exact Sub.nil | refine Sub.put rfl ?_ | refine Sub.put ?_ ?_)
      refine congrArg (fun z => some (V.row false 116 z)) ?_
      have hb' : cbit covers (2 * k + 1) = false := hb
      rw [coversTo, if_neg (by rw [hb']; decide : ¬ cbit covers (2 * k + 1) = true), List.append_nil]
    (repeat' first | apply Wq | refine Ws hF hτ rfl ?_ | apply Wb | apply Wl | apply Wk | apply We | apply Wn)
    refine ⟨⟨k + 1, hk5⟩, by simp only; omega, ?_⟩
    (repeat' first | exact Sub.nil | refine Sub.put rfl ?_ | refine Sub.put ?_ ?_)
    exact congrArg (fun z => some (Iv64 z)) hw3
  · (repeat' first | apply Wq | refine Ws hF hτ rfl ?_ | apply Wb | apply Wl | apply Wk | apply We | apply Wn)
    have hk5 : k = 5 := by have := of_decide_eq_false hc; simp only at this; omega
    subst hk5
    refine AW.ret ⟨.inr rfl, ?_⟩
    rfl
end Go.Proofs.VL
namespace Go.Proofs.VL
open Go Go.RowKit
def allCovers : Nat → List Cover
  | 0 => []
  | k + 1 => allCovers k ++ [⟨k, [0, 1]⟩] ++ [⟨k, [2, 3, 4]⟩]
theorem coversTo_sub (c : Int) : ∀ k, (coversTo c k).Sublist (allCovers k)
  | 0 => .slnil
  | k + 1 => by
    rw [coversTo, allCovers]
    refine ((coversTo_sub c k).append ?_).append ?_ <;> split <;> first | exact List.Sublist.refl _ | exact List.nil_sublist _
theorem place_right (p : Place) : p.col.right = true ∧ 1 ≤ p.col.tiers := by
  have h1 : p.bay.toNat % 5 < 5 := Nat.mod_lt _ (by decide)
  have h2 : p.row.toNat % 5 < 5 := Nat.mod_lt _ (by decide)
  have h3 : p.tiers.toNat % 4 < 4 := Nat.mod_lt _ (by decide)
  refine ⟨?_, by simp only [Place.col]; omega⟩
  simp only [Column.right, Column.spans, Place.col, Span.in_, List.all_cons, List.all_nil, Bool.and_true, Bool.and_eq_true, Bool.not_eq_true', Bool.or_eq_false_iff, decide_eq_false_iff_not]
  refine ⟨⟨?_, ?_⟩, ⟨?_, ?_⟩, ⟨?_, ?_⟩, ⟨?_, ?_⟩, ⟨?_, ?_⟩, ⟨?_, ?_⟩, ⟨?_, ?_⟩, ⟨?_, ?_⟩, ⟨?_, ?_⟩, ?_, ?_⟩ <;> first | omega | (split <;> omega)
theorem addCol_key {cols : List Column} {c : Column} (h : (cols.map Column.key).Nodup) : ((addCol cols c).map Column.key).Nodup := by
  rw [addCol]
  split
  · exact h
  · rename_i hf
    rw [List.map_append, List.nodup_append]
    refine ⟨h, by simp, fun a ha b hb => ?_⟩
    simp at hb
    subst hb
    obtain ⟨d, hd, rfl⟩ := List.mem_map.1 ha
    intro e
    refine hf ?_
    have he : (fun d : Column => d.bay == c.bay && d.row == c.row && d.deck == c.deck) d = true := by
      simp only [Column.key, List.cons.injEq, and_true] at e
      obtain ⟨e1, e2, e3⟩ := e
      have e4 : d.deck = c.deck := by cases h1 : d.deck <;> cases h2 : c.deck <;> simp_all
      simp [e1, e2, e4]
    have hany : cols.any (fun d : Column => d.bay == c.bay && d.row == c.row && d.deck == c.deck) = true := List.any_eq_true.2 ⟨d, hd, he⟩
    rw [firstOf]
    have := placesOf_any (fun d : Column => d.bay == c.bay && d.row == c.row && d.deck == c.deck) cols 0
    rw [hany] at this
    cases hp : placesOf (fun d : Column => d.bay == c.bay && d.row == c.row && d.deck == c.deck) 0 cols with
    | nil => rw [hp] at this; simp at this
    | cons k ks => rfl
theorem addCol_mem {cols : List Column} {c d : Column} (h : d ∈ addCol cols c) : d = c ∨ d ∈ cols := by
  rw [addCol] at h
  split at h
  · exact .inr h
  · simp at h; exact h.symm
theorem builtCols_ok (l : List Place) : ((builtCols l).map Column.key).Nodup ∧ ∀ c ∈ builtCols l, ∃ p : Place, c = p.col := by
  have key : ∀ (l : List Place) (cols : List Column), (cols.map Column.key).Nodup → (∀ c ∈ cols, ∃ p : Place, c = p.col) → ((l.foldl (fun cols p => addCol cols p.col) cols).map Column.key).Nodup ∧ ∀ c ∈ l.foldl (fun cols p => addCol cols p.col) cols, ∃ p : Place, c = p.col := by
    intro l
    induction l with
    | nil => intro cols h1 h2; exact ⟨h1, h2⟩
    | cons p l ih =>
      intro cols h1 h2
      refine ih _ (addCol_key h1) (fun c hc => ?_)
      rcases addCol_mem hc with rfl | hc
      · exact ⟨p, rfl⟩
      · exact h2 c hc
  exact key l [] List.nodup_nil (fun c h => by cases h)
theorem colsOf_ok (l : List Place) : ((colsOf l).map Column.key).Nodup ∧ (∀ c ∈ colsOf l, c.right = true) ∧ 1 ≤ (colsOf l).length ∧ (colsOf l).length ≤ 12 := by
  obtain ⟨h1, h2⟩ := builtCols_ok (l.take 12)
  have h3 := builtCols_len (l.take 12)
  rw [colsOf]
  generalize builtCols (l.take 12) = cs at *
  cases cs with
  | nil => exact ⟨by simp, fun c hc => by simp at hc; subst hc; decide +kernel, by simp, by simp⟩
  | cons c cs =>
    refine ⟨h1, fun d hd => ?_, by simp, ?_⟩
    · obtain ⟨p, rfl⟩ := h2 d hd; exact (place_right p).1
    · simp at h3 ⊢; omega
theorem bump_once {ns : List Int} : ∀ {m : Met}, (∀ p ∈ m, p.1 ≠ ns) → bump ns m = m ++ [(ns, IntKind.wrap .i64 1)] := by
  intro m h
  have hg : getK ns m = none := by
    induction m with
    | nil => rfl
    | cons p m ih => rw [getK, if_neg (h p (.head _)), ih (fun q hq => h q (.tail _ hq))]
  have hs : ∀ (m : Met) (x : Int), (∀ p ∈ m, p.1 ≠ ns) → setK ns x m = m ++ [(ns, x)] := by
    intro m
    induction m with
    | nil => intro x _; rfl
    | cons p m ih => intro x h; rw [setK, if_neg (h p (.head _)), ih x (fun q hq => h q (.tail _ hq))]; rfl
  rw [bump, met0, hg, hs m _ h]
  rfl
theorem bumps_once : ∀ (kss : List (List Int)) (m : Met), (m.map (·.1) ++ kss).Nodup → (∀ p ∈ m, p.2 ≤ 1) → ∀ p ∈ kss.foldl (fun m ns => bump ns m) m, p.2 ≤ 1
  | [], m, _, h => h
  | ns :: kss, m, hn, h => by
    have hne : ∀ p ∈ m, p.1 ≠ ns := fun p hp e => by
      rw [List.nodup_append] at hn
      exact hn.2.2 p.1 (List.mem_map_of_mem hp) ns (.head _) e
    rw [List.foldl_cons, bump_once hne]
    refine bumps_once kss _ ?_ (fun p hp => ?_)
    · rw [List.map_append, List.append_assoc]
      exact hn
    · rcases List.mem_append.1 hp with hp | hp
      · exact h p hp
      · simp at hp
        subst hp
        show IntKind.wrap .i64 1 ≤ 1
        decide +kernel
theorem sub_flat {α β : Type} (f : α → List β) {l m : List α} (h : l.Sublist m) : (l.flatMap f).Sublist (m.flatMap f) := by
  induction h with
  | slnil => exact .slnil
  | cons a h ih => rw [List.flatMap_cons]; exact ih.trans (List.sublist_append_right _ _)
  | cons_cons a h ih => rw [List.flatMap_cons, List.flatMap_cons]; exact (List.Sublist.refl _).append ih
theorem built_right (l : List Place) (covers : Int) : ShipRight (built l covers) := by
  obtain ⟨h1, h2, h3, h4⟩ := colsOf_ok l
  have hsub := coversTo_sub covers 5
  have hcl := coversTo_len covers 5
  have hmem : ∀ v ∈ coversTo covers 5, v ∈ allCovers 5 := fun v hv => hsub.subset hv
  refine ⟨?_, fun k c hk => h2 c (List.mem_of_getElem? hk), fun k v hk => ?_, ?_⟩
  · simp only [built, sizesOK, Bool.not_eq_true', Bool.or_eq_false_iff, decide_eq_false_iff_not]
    exact ⟨⟨decide_eq_false (by omega), decide_eq_false (by omega)⟩, decide_eq_false (by omega)⟩
  · have hv := hmem v (List.mem_of_getElem? hk)
    have : ∀ v ∈ allCovers 5, (0 ≤ v.bay ∧ v.bay < 40) ∧ (v.rows = [0, 1] ∨ v.rows = [2, 3, 4]) := by decide +kernel
    obtain ⟨⟨q1, q2⟩, q3⟩ := this v hv
    refine ⟨q1, q2, ?_, fun j x hj => ?_⟩
    · rcases q3 with e | e <;> rw [e] <;> simp
    · rcases q3 with e | e <;> rw [e] at hj <;> rw [RowRight, e]
      · match j, hj with
        | 0, hj => simp at hj; subst hj; exact ⟨by omega, by omega, fun q h => by omega⟩
        | 1, hj => simp at hj; subst hj; exact ⟨by omega, by omega, fun q _ h => by simp at h; omega⟩
        | j + 2, hj => simp at hj
      · match j, hj with
        | 0, hj => simp at hj; subst hj; exact ⟨by omega, by omega, fun q h => by omega⟩
        | 1, hj => simp at hj; subst hj; exact ⟨by omega, by omega, fun q _ h => by simp at h; omega⟩
        | 2, hj => simp at hj; subst hj; exact ⟨by omega, by omega, fun q _ h => by simp at h; omega⟩
        | j + 3, hj => simp at hj
  · rw [metCov, metCols, ← List.foldl_append]
    refine bumps_once _ [] ?_ (fun p hp => by cases hp)
    simp only [List.map_nil, List.nil_append, built]
    rw [List.nodup_append]
    have hall : ((allCovers 5).flatMap Cover.keys).Nodup := by decide +kernel
    have hks : ((coversTo covers 5).flatMap Cover.keys).Sublist ((allCovers 5).flatMap Cover.keys) := sub_flat Cover.keys hsub
    refine ⟨h1, hall.sublist hks, fun a ha b hb e => ?_⟩
    obtain ⟨c, _, rfl⟩ := List.mem_map.1 ha
    have hb2 := hks.subset hb
    have : ∀ b ∈ (allCovers 5).flatMap Cover.keys, b.getD 2 0 = 2 := by decide +kernel
    have := this b hb2
    rw [← e] at this
    simp only [Column.key] at this
    simp at this
    split at this <;> omega
theorem built_small (l : List Place) (covers : Int) : (built l covers).small := by
  obtain ⟨h1, h2, h3, h4⟩ := colsOf_ok l
  have hcl := coversTo_len covers 5
  refine ⟨by simp only [built]; omega, by simp only [built]; omega, fun v hv => ?_⟩
  have : ∀ v ∈ allCovers 5, v.rows.length ≤ 1000 := by decide +kernel
  exact this v ((coversTo_sub covers 5).subset hv)
end Go.Proofs.VL
namespace Go.Proofs.VL
open Go Go.RowKit
variable {F : Fence}
structure GoodPlan (s : Ship) (boxes : List Box) (n : Nat) (ls : List (List Stowed)) : Prop where
  ship : ShipRight s
  small : s.small
  covers : s.covers.length ≤ 12
  n1 : 1 ≤ n
  n2 : n ≤ 20
  fit : VoyFit n boxes
  len : ls.length = n
  good : PlanGood s boxes ls
theorem GoodPlan.state {s : Ship} {boxes : List Box} {n : Nat} {ls : List (List Stowed)} (h : GoodPlan s boxes n ls) {l : List Stowed} (hl : l = [] ∨ l ∈ ls) :
    StowRight s boxes l ∧ l.length ≤ 8 ∧ (∀ x ∈ l, x.slot.tier ≤ 100000) ∧ (∀ x ∈ l, x.on s) ∧ ∀ x ∈ l, x.box ∈ boxes.map (·.id) := by
  rcases hl with rfl | hl
  · exact ⟨(GoodAt.nil h.ship boxes 0).1, by simp, (fun x hx => by cases hx), (fun x hx => by cases hx), (fun x hx => by cases hx)⟩
  · obtain ⟨k, hk⟩ := List.mem_iff_getElem?.1 hl
    obtain ⟨h1, h2⟩ := h.good k l hk
    have hlen : l.length = (aboard boxes k).length := by rw [← h2]; simp
    have := aboard_len boxes k
    refine ⟨h1, by have := h.fit.1; omega, fun x hx => by have := (h1.slots x hx).2.1; omega, fun x hx => (h1.slots x hx).2.2, fun x hx => ?_⟩
    have hx2 : x.box ∈ aboard boxes k := by rw [← h2]; exact List.mem_map_of_mem hx
    obtain ⟨b, hb, _, _, e⟩ := mem_aboard.1 hx2
    rw [← e]; exact List.mem_map_of_mem hb
theorem prev_mem (ls : List (List Stowed)) (k : Nat) (hk : k < ls.length + 1) : prevAt ls k = [] ∨ prevAt ls k ∈ ls := by
  cases k with
  | zero => exact .inl rfl
  | succ k =>
    refine .inr ?_
    rw [prevAt, List.getD_eq_getElem?_getD, List.getElem?_eq_getElem (by omega)]
    exact List.getElem_mem _
theorem GoodPlan.f53 (hF : Wide F) (hro : F.round = none) {s : Ship} {boxes : List Box} {n : Nat} {ls : List (List Stowed)} (h : GoodPlan s boxes n ls) {b a : List Stowed} (hb : b = [] ∨ b ∈ ls) (ha : a = [] ∨ a ∈ ls) :
    FnV Tryz.prog F 53 [Vd s.enc, Vs (b.map Stowed.enc), Vs (a.map Stowed.enc)] (.row true 3 (ints (liftedL s b a))) ∧ (liftedL s b a).length ≤ 8 := by
  obtain ⟨b1, b2, b3, b4, b5⟩ := h.state hb
  obtain ⟨a1, a2, a3, a4, a5⟩ := h.state ha
  have hU : ∀ x ∈ b ++ a, x.box ∈ boxes.map (·.id) := fun x hx => (List.mem_append.1 hx).elim (b5 x) (a5 x)
  have hl : (boxes.map (·.id)).length ≤ 8 := by simpa using h.fit.1
  exact ⟨VL.f53 hF hro s b a h.small (by omega) (by omega) b4 a4 (boxes.map (·.id)) (by omega) hU, Nat.le_trans (liftedL_len hU) hl⟩
theorem GoodPlan.check {s : Ship} {boxes : List Box} {n : Nat} {ls : List (List Stowed)} (h : GoodPlan s boxes n ls) : planCheck s boxes n ls = (0, 0) := planCheck_good h.ship h.n1 h.n2 h.fit h.len h.good
theorem GoodPlan.lists {s : Ship} {boxes : List Box} {n : Nat} {ls : List (List Stowed)} (h : GoodPlan s boxes n ls) : ∀ l ∈ ls, l.length ≤ 1000 ∧ ∀ x ∈ l, x.slot.tier ≤ 100000 := fun l hl => by
  obtain ⟨_, b2, b3, _⟩ := h.state (.inr hl)
  exact ⟨by omega, b3⟩
theorem GoodPlan.f11 (hF : Wide F) (hro : F.round = none) {s : Ship} {boxes : List Box} {n : Nat} {ls : List (List Stowed)} (h : GoodPlan s boxes n ls) :
    FnV Tryz.prog F 11 [Vd s.enc, Vs (boxes.map Box.enc), Iv64 n, Vd (planEnc ls)] (.tu [Vs ((restowsTo s ls n).map encI), Iv64 0]) := by
  have hb := h.fit.1
  have hn := h.n2
  have hlen := h.len
  have := VL.f11 hF hro s boxes n ls h.small (by omega) (by omega) h.lists (fun _ k l hk => by
    have hkl := get_lt hk
    obtain ⟨q1, q2⟩ := h.f53 hF hro (prev_mem ls k (by omega)) (.inr (List.mem_of_getElem? hk))
    exact ⟨q1, by omega⟩)
  rw [restowsOf, h.check, if_neg (by decide), hlen] at this
  exact this
theorem addCover_good (s : Ship) {acc : List Int} (h : acc.Nodup ∧ ∀ x ∈ acc, 0 ≤ x ∧ x < s.covers.length) (x : Stowed) : (addCover s acc x).Nodup ∧ ∀ y ∈ addCover s acc x, 0 ≤ y ∧ y < s.covers.length := by
  rw [addCover]
  split
  · rename_i hc
    simp only [Bool.and_eq_true, decide_eq_true_eq, Bool.not_eq_true'] at hc
    obtain ⟨h1, h2⟩ := hc
    refine ⟨?_, fun y hy => ?_⟩
    · rw [List.nodup_append]
      refine ⟨h.1, by simp, fun a ha b hb e => ?_⟩
      simp at hb
      rw [hb] at e
      have : acc.any (fun y => coverOf s (colAt s x) == y) = true := List.any_eq_true.2 ⟨a, ha, by simp [e]⟩
      rw [h2] at this; cases this
    · rcases List.mem_append.1 hy with hy | hy
      · exact h.2 y hy
      · simp at hy
        subst hy
        refine ⟨h1, ?_⟩
        have hp : ∀ (p : Cover → Bool) (l : List Cover) (k : Nat), ∀ i ∈ placesOf p k l, i < ((k + l.length : Nat) : Int) := by
          intro p l
          induction l with
          | nil => intro k i hi; cases hi
          | cons c l ih =>
            intro k i hi
            rw [placesOf] at hi
            split at hi
            · rcases List.mem_cons.1 hi with rfl | hi
              · simp; omega
              · have := ih (k + 1) i hi; simp at this ⊢; omega
            · have := ih (k + 1) i hi; simp at this ⊢; omega
        have := hp (fun x_1 : Cover => x_1.covers (colAt s x)) s.covers 0
        rw [coverOf] at h1 ⊢
        split
        · rename_i hz; rw [hz] at h1; omega
        · rename_i i is hz
          have := this i (by rw [hz]; exact .head _)
          simpa using this
  · exact h
theorem rawNeed_len (s : Ship) (b a : List Stowed) (moved : List Int) (bay : Int) : (rawNeed s b a moved bay).length ≤ s.covers.length := by
  have key : ∀ (l : List Stowed) (acc : List Int), (acc.Nodup ∧ ∀ x ∈ acc, 0 ≤ x ∧ x < s.covers.length) → ((l.foldl (addCover s) acc).Nodup ∧ ∀ x ∈ l.foldl (addCover s) acc, 0 ≤ x ∧ x < s.covers.length) := by
    intro l
    induction l with
    | nil => intro acc h; exact h
    | cons x l ih => intro acc h; exact ih _ (addCover_good s h x)
  have h0 : ((rawNeed s b a moved bay).Nodup ∧ ∀ x ∈ rawNeed s b a moved bay, 0 ≤ x ∧ x < s.covers.length) := by
    simp only [rawNeed, List.foldl_cons, List.foldl_nil, coversFor]
    exact key _ _ (key _ _ ⟨List.nodup_nil, fun x h => by cases h⟩)
  have := nodup_len h0.1 (U := (List.range s.covers.length).map fun k : Nat => (k : Int)) (fun x hx => by
    obtain ⟨h1, h2⟩ := h0.2 x hx
    exact List.mem_map.2 ⟨x.toNat, List.mem_range.2 (by omega), by omega⟩)
  simpa using this
theorem GoodPlan.callOut {s : Ship} {boxes : List Box} {n : Nat} {ls : List (List Stowed)} (h : GoodPlan s boxes n ls) {b a : List Stowed} (hb : b = [] ∨ b ∈ ls) (ha : a = [] ∨ a ∈ ls) :
    VL.callOut (liftedL s) s boxes b a = (callMoves s b a (liftedL s b a), 0) ∧ liftCheck (liftedL s) s boxes b a = (liftedL s b a, 0) := by
  have e : liftCheck (liftedL s) s boxes b a = (liftedL s b a, 0) := by
    rw [liftCheck, stowRight_iff.2 (h.state hb).1, if_neg (by decide), stowRight_iff.2 (h.state ha).1, if_neg (by decide)]
  exact ⟨by rw [VL.callOut, e, if_neg (by simp)], e⟩
def movesOf (s : Ship) (ls : List (List Stowed)) (n : Nat) : List (List Move) := (List.range n).map fun i => callMoves s (prevAt ls i) (ls.getD i []) (liftedL s (prevAt ls i) (ls.getD i []))
theorem GoodPlan.f12 (hF : Wide F) (hro : F.round = none) {s : Ship} {boxes : List Box} {n : Nat} {ls : List (List Stowed)} (h : GoodPlan s boxes n ls) :
    FnV Tryz.prog F 12 [Vd s.enc, Vs (boxes.map Box.enc), Iv64 n, Vd (planEnc ls)] (.tu [Vs ((movesOf s ls n).map encM), Iv64 0]) := by
  have hb := h.fit.1
  have hn := h.n2
  have hlen := h.len
  have := VL.f12 hF hro (liftedL s) s boxes n ls h.small (by omega) (by omega) h.lists (fun _ k l hk => by
    have hkl := get_lt hk
    have hp := prev_mem ls k (by omega)
    have hl : l = [] ∨ l ∈ ls := .inr (List.mem_of_getElem? hk)
    obtain ⟨b1, b2, b3, b4, b5⟩ := h.state hp
    obtain ⟨a1, a2, a3, a4, a5⟩ := h.state hl
    obtain ⟨q1, q2⟩ := h.f53 hF hro hp hl
    have e := (h.callOut hp hl).2
    refine f56 hF hro (liftedL s) s boxes _ l h.small (by omega) (by omega) (by omega) b3 a3 (fun _ _ => q1) ?_ (fun _ => b4) (fun _ => a4) (fun bay => Nat.le_trans (rawNeed_len s _ _ _ bay) h.covers)
    rw [e]
    simp only
    omega)
  rw [voyMoves, h.check, if_neg (by decide), hlen] at this
  have e : movesTo (liftedL s) s boxes ls n = movesOf s ls n := by
    rw [movesTo, movesOf]
    refine List.map_congr_left fun i hi => ?_
    have hi := List.mem_range.1 hi
    have hl : ls.getD i [] ∈ ls := by rw [List.getD_eq_getElem?_getD, List.getElem?_eq_getElem (by omega)]; exact List.getElem_mem _
    rw [(h.callOut (prev_mem ls i (by omega)) (.inr hl)).1]
  rw [e] at this
  exact this
theorem GoodPlan.f10 (hF : Wide F) (hro : F.round = none) {s : Ship} {boxes : List Box} {n : Nat} {ls : List (List Stowed)} (h : GoodPlan s boxes n ls) :
    FnV Tryz.prog F 10 [Vd s.enc, Vs (boxes.map Box.enc), Iv64 n, Vd (planEnc ls)] (.tu [Iv64 0, Iv64 0]) := by
  have hb := h.fit.1
  have hn := h.n2
  have hlen := h.len
  have := VL.f10 hF hro s boxes n ls h.small (by omega) (by omega) h.lists
  rw [h.check] at this
  exact this
theorem GoodPlan.wait {s : Ship} {boxes : List Box} {n : Nat} {ls : List (List Stowed)} (h : GoodPlan s boxes n ls) (hn : n ≤ 19) {at_ : Nat} (h1 : 1 ≤ at_) (h2 : at_ ≤ n) : GoodPlan s (boxes.map (latB at_)) (n + 1) (waitP at_ ls) :=
  ⟨h.ship, h.small, h.covers, by omega, by omega, voyFit_lat h1 h.fit, by rw [waitP_len h1 (by rw [h.len]; exact h2), h.len], planGood_wait h1 (by rw [h.len]; exact h2) h.good⟩
theorem restows_wait {s : Ship} {ls : List (List Stowed)} {n at_ : Nat} (hl : ls.length = n) (h1 : 1 ≤ at_) (h2 : at_ ≤ n) :
    (restowsTo s (waitP at_ ls) (n + 1))[at_]? = some [] ∧ ∀ k, k < n → (restowsTo s (waitP at_ ls) (n + 1))[if k ≥ at_ then k + 1 else k]? = (restowsTo s ls n)[k]? := by
  have get : ∀ i, i < n + 1 → (restowsTo s (waitP at_ ls) (n + 1))[i]? = some (restowAt s (prevAt (waitP at_ ls) i) ((waitP at_ ls).getD i [])) := fun i hi => by simp [restowsTo, hi]
  have get2 : ∀ i, i < n → (restowsTo s ls n)[i]? = some (restowAt s (prevAt ls i) (ls.getD i [])) := fun i hi => by simp [restowsTo, hi]
  refine ⟨?_, fun k hk => ?_⟩
  · rw [get at_ (by omega), waitP_prev h1 (by omega), if_pos rfl, waitP_getD h1 (by omega), befr, if_neg (by omega), restowAt_self]
  · rw [get2 k hk]
    split
    · rw [get (k + 1) (by omega), waitP_prev h1 (by omega), if_neg (by omega), waitP_getD h1 (by omega), befr, if_neg (by omega)]; rfl
    · rw [get k (by omega), waitP_prev h1 (by omega), if_neg (by omega), waitP_getD h1 (by omega), befr, if_pos (by omega)]
theorem moves_wait {s : Ship} {ls : List (List Stowed)} {n at_ : Nat} (hl : ls.length = n) (h1 : 1 ≤ at_) (h2 : at_ ≤ n) :
    (movesOf s (waitP at_ ls) (n + 1))[at_]? = some [] ∧ ∀ k, k < n → (movesOf s (waitP at_ ls) (n + 1))[if k ≥ at_ then k + 1 else k]? = (movesOf s ls n)[k]? := by
  have get : ∀ i, i < n + 1 → (movesOf s (waitP at_ ls) (n + 1))[i]? = some (callMoves s (prevAt (waitP at_ ls) i) ((waitP at_ ls).getD i []) (liftedL s (prevAt (waitP at_ ls) i) ((waitP at_ ls).getD i []))) := fun i hi => by simp [movesOf, hi]
  have get2 : ∀ i, i < n → (movesOf s ls n)[i]? = some (callMoves s (prevAt ls i) (ls.getD i []) (liftedL s (prevAt ls i) (ls.getD i []))) := fun i hi => by simp [movesOf, hi]
  refine ⟨?_, fun k hk => ?_⟩
  · rw [get at_ (by omega), waitP_prev h1 (by omega), if_pos rfl, waitP_getD h1 (by omega), befr, if_neg (by omega), liftedL_self, callMoves_nil]
  · rw [get2 k hk]
    split
    · rw [get (k + 1) (by omega), waitP_prev h1 (by omega), if_neg (by omega), waitP_getD h1 (by omega), befr, if_neg (by omega)]; rfl
    · rw [get k (by omega), waitP_prev h1 (by omega), if_neg (by omega), waitP_getD h1 (by omega), befr, if_pos (by omega)]
end Go.Proofs.VL
