import Derived.Test.YtndffogfaocchaaGreatW12
import Derived.Test.YtndffogfaocchaaGreatW15
import Derived.Test.YtndffogfaocchaaGreatW23
import Derived.Test.YtndffogfaocchaaGreatW24
set_option linter.unusedVariables false
set_option linter.unusedSimpArgs false
set_option linter.unusedSectionVars false
namespace Go.Proofs.VL
open Go Go.RowKit
variable {F : Fence}
def moved (b a : List Stowed) (id : Int) : Bool := ((slotOf b id).isSome != (slotOf a id).isSome) || !(Slot.same ((slotOf b id).getD slot0) ((slotOf a id).getD slot0))
def liftOne (s : Ship) (b a : List Stowed) (st : LSt) (x : Stowed) : LSt := if moved b a x.box then lift s b a 25 x.box st else st
def liftAll (s : Ship) (b a : List Stowed) : LSt := [b, a].foldl (fun st l => l.foldl (liftOne s b a) st) ([], [])
def liftedL (s : Ship) (b a : List Stowed) : List Int := isort cmpZ (liftAll s b a).2
def LGood (U : List Int) (st : LSt) : Prop := st.1 = st.2 ∧ st.2.Nodup ∧ ∀ x ∈ st.2, x ∈ U
theorem lift_good {s : Ship} {b a : List Stowed} {U : List Int} (hU : ∀ x ∈ b ++ a, x.box ∈ U) : ∀ (f : Nat) (id : Int) (st : LSt), id ∈ U → LGood U st → LGood U (lift s b a f id st)
  | 0, _, _, _, h => h
  | f + 1, id, st, hid, h => by
    rw [lift]
    cases h1 : st.1.any (fun y => y == id) with
    | true => rw [liftBody, if_pos h1]; exact h
    | false =>
      refine liftBody_inv (Inv := LGood U) (fun l y st1 hl hy h => lift_good hU f y.box st1 (hU y ?_) h) h1 ?_
      · simp at hl
        rcases hl with rfl | rfl
        · exact List.mem_append_left _ hy
        · exact List.mem_append_right _ hy
      · refine ⟨by simp [h.1], ?_, fun x hx => ?_⟩
        · rw [List.nodup_append]
          refine ⟨h.2.1, by simp, fun x hx y hy => ?_⟩
          simp at hy
          subst hy
          rintro rfl
          rw [← h.1] at hx
          have : st.1.any (fun y => y == x) = true := List.any_eq_true.2 ⟨x, hx, by simp⟩
          rw [h1] at this; cases this
        · rcases List.mem_append.1 hx with hx | hx
          · exact h.2.2 x hx
          · simp at hx; subst hx; exact hid
theorem nodup_len {α : Type} [DecidableEq α] : ∀ {l U : List α}, l.Nodup → (∀ x ∈ l, x ∈ U) → l.length ≤ U.length
  | [], _, _, _ => Nat.zero_le _
  | x :: l, U, hn, h => by
    rw [List.nodup_cons] at hn
    have hx := h x (.head _)
    have := nodup_len (l := l) (U := U.erase x) hn.2 (fun y hy => (List.mem_erase_of_ne (by rintro rfl; exact hn.1 hy)).2 (h y (.tail _ hy)))
    rw [List.length_erase_of_mem hx] at this
    have : 0 < U.length := List.length_pos_of_mem hx
    simp; omega
theorem liftOne_good {s : Ship} {b a : List Stowed} {U : List Int} (hU : ∀ x ∈ b ++ a, x.box ∈ U) {st : LSt} {x : Stowed} (hx : x ∈ b ++ a) (h : LGood U st) : LGood U (liftOne s b a st x) := by
  rw [liftOne]; split
  · exact lift_good hU _ _ _ (hU x hx) h
  · exact h
theorem liftAll_good {s : Ship} {b a : List Stowed} {U : List Int} (hU : ∀ x ∈ b ++ a, x.box ∈ U) : LGood U (liftAll s b a) := by
  refine foldl_inv _ _ (fun l hl z hz => foldl_inv _ _ (fun y hy z hz => liftOne_good hU ?_ hz) hz) ⟨rfl, List.nodup_nil, fun x hx => by cases hx⟩
  simp at hl
  rcases hl with rfl | rfl
  · exact List.mem_append_left _ hy
  · exact List.mem_append_right _ hy
theorem liftedL_len {s : Ship} {b a : List Stowed} {U : List Int} (hU : ∀ x ∈ b ++ a, x.box ∈ U) : (liftedL s b a).length ≤ U.length := by
  rw [liftedL, (isort_perm _ _).length_eq]
  exact nodup_len (liftAll_good hU).2.1 (liftAll_good hU).2.2
set_option maxHeartbeats 4000000 in
theorem f53 (hF : Wide F) (hro : F.round = none) (s : Ship) (b a : List Stowed) (hs : s.small) (hb : b.length ≤ 12) (ha : a.length ≤ 12) (hbo : ∀ x ∈ b, x.on s) (hao : ∀ x ∈ a, x.on s) (U : List Int) (hUl : U.length ≤ 12) (hU : ∀ x ∈ b ++ a, x.box ∈ U) :
    FnV Tryz.prog F 53 [Vd s.enc, Vs (b.map Stowed.enc), Vs (a.map Stowed.enc)] (.row true 3 (ints (liftedL s b a))) := by
  have hmem : ∀ l ∈ [b, a], l.length ≤ 12 ∧ ∀ x ∈ l, x ∈ b ++ a := by
    intro l hl
    simp at hl
    rcases hl with rfl | rfl
    · exact ⟨hb, fun x hx => List.mem_append_left _ hx⟩
    · exact ⟨ha, fun x hx => List.mem_append_right _ hx⟩
  refine FnV.of_AW hF hro hτ Tryz.func53 rfl (by decide) rfl (by simp [Tryz.f53]) ?_
  (repeat' first | apply Wq | refine Ws hF hτ rfl ?_ | apply Wb | apply Wl | apply Wk | apply We | apply Wc | apply Wd | refine Wt rfl rfl ?_ | refine Wf rfl rfl ?_ | refine Wi rfl rfl (fun h => ?_) (fun h => ?_) | refine Wx hF hτ rfl rfl rfl rfl rfl rfl rfl rfl (fun h => ?_) (fun h => ?_) | apply Wn)
  refine AL.opM (OpM.buildSlice hF rfl (hτ _ _ rfl) rfl (hτ _ _ rfl) rfl rfl rfl (by decide) (by decide) rfl rfl) rfl rfl ?_
  refine AL.ent (Ent.frzs (ls := [.s 21]) rfl) ?_
  refine Wv hF hτ rfl ?_
  (repeat' first | apply Wq | refine Ws hF hτ rfl ?_ | apply Wb | apply Wl | apply Wk | apply We | apply Wc | apply Wd | refine Wt rfl rfl ?_ | refine Wf rfl rfl ?_ | refine Wi rfl rfl (fun h => ?_) (fun h => ?_) | refine Wx hF hτ rfl rfl rfl rfl rfl rfl rfl rfl (fun h => ?_) (fun h => ?_) | apply Wn)
  refine AL.opM (OpM.makeMap hF rfl 2 rfl rfl) rfl rfl ?_
  refine Wv hF hτ rfl ?_
  (repeat' first | apply Wq | refine Ws hF hτ rfl ?_ | apply Wb | apply Wl | apply Wk | apply We | apply Wc | apply Wd | refine Wt rfl rfl ?_ | refine Wf rfl rfl ?_ | refine Wi rfl rfl (fun h => ?_) (fun h => ?_) | refine Wx hF hτ rfl rfl rfl rfl rfl rfl rfl rfl (fun h => ?_) (fun h => ?_) | apply Wn)
  refine AW.ent (Ent.nilRow (t := 9) (i := 0) (m := true) (e := 3) rfl) ?_
  have hbase : ∀ st : LSt, LGood U st → st.2.length ≤ 12 := fun st h => Nat.le_trans (nodup_len h.2.1 h.2.2) hUl
  refine AW.rangeJ hF rfl rfl rfl rfl rfl rfl rfl rfl rfl 2 (by decide) (fun k => [(.s 1, Vs (b.map Stowed.enc)), (.s 2, Vs (a.map Stowed.enc)), (.s 3, .bx 35 (s.enc.map .d)), (.s 7, .bx 38 [.d (.sl ([b, a].map encS))]), (.s 8, .bx 206 [.ref (.c 8 0)]), (.c 8 0, mpS (([b, a].take k).foldl (fun st l => l.foldl (liftOne s b a) st) ([], [])).1), (.s 9, .bx 63 [.ref (.c 9 0)]), (.c 9 0, .row true 3 (ints (([b, a].take k).foldl (fun st l => l.foldl (liftOne s b a) st) ([], [])).2)), (.s 10, .bx 207 [.fn 105 [.ref (.s 8), .ref (.s 9), .ref (.s 7), .ref (.s 3), .ref (.s 10)]]), (.s 24, Vs ([b, a].map encS))]) (fun k => LInv b a 24 (([b, a].take k).foldl (fun st l => l.foldl (liftOne s b a) st) ([], []))) ?_ ?_ ?_ (fun k hk hJ => ?_) (fun hJ => ?_)
  · refine ⟨?_, ?_⟩
    · refine Nat.le_trans List.countP_le_length ?_
      simp; omega
    · have : unl b a (([b, a].take 0).foldl (fun st l => l.foldl (liftOne s b a) st) ([], [])) ≤ 24 := by
        refine Nat.le_trans List.countP_le_length ?_
        simp; omega
      simp at this ⊢
      omega
  · exact fun k => rfl
  · (repeat' first | exact Sub.nil | refine Sub.put rfl ?_ | refine Sub.put ?_ ?_)
  · obtain ⟨l, hl⟩ : ∃ l, [b, a][k]? = some l := ⟨_, List.getElem?_eq_getElem (by simpa using hk)⟩
    obtain ⟨hll, hlm⟩ := hmem l (List.mem_of_getElem? hl)
    have hsn : ([b, a].take (k + 1)).foldl (fun st l => l.foldl (liftOne s b a) st) ([], []) = l.foldl (liftOne s b a) (([b, a].take k).foldl (fun st l => l.foldl (liftOne s b a) st) ([], [])) := by
      rw [take_snoc hl, List.foldl_append]; rfl
    generalize ([b, a].take k).foldl (fun st l => l.foldl (liftOne s b a) st) ([], []) = s1 at hsn hJ
    (repeat' first | apply Wq | refine Ws hF hτ rfl ?_ | apply Wb | apply Wl | apply Wk | apply We | apply Wn)
    refine AL.opM (OpM.indexD hF rfl (hτ _ _ rfl) rfl (hτ _ _ rfl) rfl (i := k) rfl ( get_enc encS hl) rfl rfl rfl) rfl rfl ?_
    refine Wv hF hτ rfl ?_
    (repeat' first | apply Wq | refine Ws hF hτ rfl ?_ | apply Wb | apply Wl | apply Wk | apply We | apply Wc | apply Wd | refine Wt rfl rfl ?_ | refine Wf rfl rfl ?_ | refine Wi rfl rfl (fun h => ?_) (fun h => ?_) | refine Wx hF hτ rfl rfl rfl rfl rfl rfl rfl rfl (fun h => ?_) (fun h => ?_) | apply Wn)
    refine AW.rangeJ hF rfl rfl rfl rfl rfl rfl rfl rfl rfl (l.map Stowed.enc).length (by simp [lim]; omega) (fun j => [(.s 1, Vs (b.map Stowed.enc)), (.s 2, Vs (a.map Stowed.enc)), (.s 3, .bx 35 (s.enc.map .d)), (.s 7, .bx 38 [.d (.sl ([b, a].map encS))]), (.s 8, .bx 206 [.ref (.c 8 0)]), (.c 8 0, mpS ((l.take j).foldl (liftOne s b a) s1).1), (.s 9, .bx 63 [.ref (.c 9 0)]), (.c 9 0, .row true 3 (ints ((l.take j).foldl (liftOne s b a) s1).2)), (.s 10, .bx 207 [.fn 105 [.ref (.s 8), .ref (.s 9), .ref (.s 7), .ref (.s 3), .ref (.s 10)]]), (.s 24, Vs ([b, a].map encS)), (.s 25, Iv64 2), (.s 26, Iv64 k), (.s 30, Vs (l.map Stowed.enc))]) (fun j => LInv b a 24 ((l.take j).foldl (liftOne s b a) s1)) hJ ?_ ?_ (fun j hj hJ2 => ?_) (fun hJ2 => ?_)
    · exact fun k => rfl
    · (repeat' first | exact Sub.nil | refine Sub.put rfl ?_ | refine Sub.put ?_ ?_)
    · obtain ⟨y, hy⟩ := get_ex hj
      have hsn2 : (l.take (j + 1)).foldl (liftOne s b a) s1 = liftOne s b a ((l.take j).foldl (liftOne s b a) s1) y := by rw [take_snoc hy, List.foldl_append]; rfl
      rw [hsn2]
      generalize (l.take j).foldl (liftOne s b a) s1 = s2 at hJ2
      obtain ⟨g1, g2⟩ := f105 hF hro s b a hs hb ha hbo hao 24 s2 y.box (List.mem_map.2 ⟨y, hlm y (List.mem_of_getElem? hy), rfl⟩) hJ2
      simp only [liftEnv] at g1
      have yes : moved b a y.box = true → liftOne s b a s2 y = lift s b a 25 y.box s2 := fun h => by rw [liftOne, if_pos h]
      have no : moved b a y.box = false → liftOne s b a s2 y = s2 := fun h => by rw [liftOne, if_neg (by rw [h]; decide)]
      rw [moved] at yes no
      (repeat' first | apply Wq | refine Ws hF hτ rfl ?_ | apply Wb | apply Wl | apply Wk | apply We | apply Wn)
      refine AL.opM (OpM.indexD hF rfl (hτ _ _ rfl) rfl (hτ _ _ rfl) rfl (i := j) rfl ( get_enc Stowed.enc hy) rfl rfl rfl) rfl rfl ?_
      refine Wv hF hτ rfl ?_
      (repeat' first | apply Wq | refine Ws hF hτ rfl ?_ | apply Wb | apply Wl | apply Wk | apply We | apply Wc | apply Wd | refine Wt rfl rfl ?_ | refine Wf rfl rfl ?_ | refine Wi rfl rfl (fun h => ?_) (fun h => ?_) | refine Wx hF hτ rfl rfl rfl rfl rfl rfl rfl rfl (fun h => ?_) (fun h => ?_) | apply Wn)
      refine AL.opM (OpM.call hF rfl rfl rfl rfl (f55 hF hro b y.box (by omega)) rfl rfl rfl) rfl rfl ?_
      refine Wv hF hτ rfl ?_
      (repeat' first | apply Wq | refine Ws hF hτ rfl ?_ | apply Wb | apply Wl | apply Wk | apply We | apply Wc | apply Wd | refine Wt rfl rfl ?_ | refine Wf rfl rfl ?_ | refine Wi rfl rfl (fun h => ?_) (fun h => ?_) | refine Wx hF hτ rfl rfl rfl rfl rfl rfl rfl rfl (fun h => ?_) (fun h => ?_) | apply Wn)
      refine AL.opM (OpM.call hF rfl rfl rfl rfl (f55 hF hro a y.box (by omega)) rfl rfl rfl) rfl rfl ?_
      refine Wv hF hτ rfl ?_
      generalize slotOf b y.box = p at yes no
      generalize slotOf a y.box = q at yes no
      (repeat' first | apply Wq | refine Ws hF hτ rfl ?_ | apply Wb | apply Wl | apply Wk | apply We | apply Wc | apply Wd | refine Wt rfl rfl ?_ | refine Wf rfl rfl ?_ | refine Wi rfl rfl (fun h => ?_) (fun h => ?_) | refine Wx hF hτ rfl rfl rfl rfl rfl rfl rfl rfl (fun h => ?_) (fun h => ?_) | apply Wn)
      · refine AL.op rfl (OpTo.callX hF rfl rfl rfl rfl rfl rfl rfl (g1) rfl rfl rfl rfl rfl) ?_
        refine Wv hF hτ rfl ?_
        (repeat' first | apply Wq | refine Ws hF hτ rfl ?_ | apply Wb | apply Wl | apply Wk | apply We | apply Wc | apply Wd | refine Wt rfl rfl ?_ | refine Wf rfl rfl ?_ | refine Wi rfl rfl (fun h => ?_) (fun h => ?_) | refine Wx hF hτ rfl rfl rfl rfl rfl rfl rfl rfl (fun h => ?_) (fun h => ?_) | apply Wn)
        rw [yes (by rw [bne, h]; rfl)]
        refine ⟨?_, g2⟩
        (repeat' first | exact Sub.nil | refine Sub.put rfl ?_ | refine Sub.put ?_ ?_)
      · refine AL.op rfl (OpTo.callX hF rfl rfl rfl rfl rfl rfl rfl (g1) rfl rfl rfl rfl rfl) ?_
        refine Wv hF hτ rfl ?_
        (repeat' first | apply Wq | refine Ws hF hτ rfl ?_ | apply Wb | apply Wl | apply Wk | apply We | apply Wc | apply Wd | refine Wt rfl rfl ?_ | refine Wf rfl rfl ?_ | refine Wi rfl rfl (fun h => ?_) (fun h => ?_) | refine Wx hF hτ rfl rfl rfl rfl rfl rfl rfl rfl (fun h => ?_) (fun h => ?_) | apply Wn)
        rename_i h1
        rw [yes (by rw [bne, h1, Slot.same, h]; rfl)]
        refine ⟨?_, g2⟩
        (repeat' first | exact Sub.nil | refine Sub.put rfl ?_ | refine Sub.put ?_ ?_)
      · rename_i h1
        rw [no (by rw [bne, h1, Slot.same, h]; rfl)]
        refine ⟨?_, hJ2⟩
        (repeat' first | exact Sub.nil | refine Sub.put rfl ?_ | refine Sub.put ?_ ?_)
    · rw [show List.take (l.map Stowed.enc).length l = l by simp] at hJ2 ⊢
      rw [hsn]
      refine ⟨?_, hJ2⟩
      (repeat' first | exact Sub.nil | refine Sub.put rfl ?_ | refine Sub.put ?_ ?_)
  · have hg := liftAll_good (s := s) hU
    have hlen := hbase _ hg
    rw [show ([b, a].take 2).foldl (fun st l => l.foldl (liftOne s b a) st) ([], []) = liftAll s b a from rfl]
    rw [liftedL]
    generalize liftAll s b a = st at hlen
    (repeat' first | apply Wq | refine Ws hF hτ rfl ?_ | apply Wb | apply Wl | apply Wk | apply We | apply Wc | apply Wd | refine Wt rfl rfl ?_ | refine Wf rfl rfl ?_ | refine Wi rfl rfl (fun h => ?_) (fun h => ?_) | refine Wx hF hτ rfl rfl rfl rfl rfl rfl rfl rfl (fun h => ?_) (fun h => ?_) | apply Wn)
    refine AL.op rfl (OpTo.callX hF rfl rfl rfl rfl rfl rfl rfl (f32 hF hro st.2 hlen) rfl rfl rfl rfl rfl) ?_
    refine Wv hF hτ rfl ?_
    (repeat' first | apply Wq | refine Ws hF hτ rfl ?_ | apply Wb | apply Wl | apply Wk | apply We | apply Wc | apply Wd | refine Wt rfl rfl ?_ | refine Wf rfl rfl ?_ | refine Wi rfl rfl (fun h => ?_) (fun h => ?_) | refine Wx hF hτ rfl rfl rfl rfl rfl rfl rfl rfl (fun h => ?_) (fun h => ?_) | apply Wn)
    refine AW.ret ⟨.inr rfl, ?_⟩
    rfl
end Go.Proofs.VL
namespace Go.Proofs.VL
open Go Go.RowKit
variable {F : Fence}
theorem FnX.iter {P : Program} {f na : Nat} {A : Env} {r : V} {H : Env} (h : FnX P F f na A r H) : Fn P F f na A (fun E1 => ∃ r, E1 = (.s na, r) :: H) :=
  ⟨h.callable, fun w N L γ R vals hr hsz => CallsIn.mono (h.run w N L γ R vals hr hsz) fun e w' he => by
    cases e with
    | returned c => exact let ⟨E', N', L', γ', R', h1, h2⟩ := he; ⟨E', N', L', γ', R', ⟨r, h1⟩, h2⟩
    | panicked ch => exact he
    | outgrown => exact he⟩
theorem Fn.inRound {P : Program} {f na : Nat} {A : Env} {Q : Env → Prop} (h : Fn P F f na A Q) (l : Nat) : Fn P (F.inRound l) f na A Q := ⟨h.callable, fun w N L γ R vals hr hsz => (h.run w N L γ R vals hr hsz).inRound l⟩
theorem FnV.inRound {P : Program} {f : Nat} {vs : List V} {r : V} (h : FnV P F f vs r) (l : Nat) : FnV P (F.inRound l) f vs r := Fn.inRound h l
theorem FnX.inRound {P : Program} {f na : Nat} {A : Env} {r : V} {H : Env} (h : FnX P F f na A r H) (l : Nat) : FnX P (F.inRound l) f na A r H := Fn.inRound h l
def pairsOf (ls : List (List Stowed)) : List (List Stowed × List Stowed) := (List.range ls.length).map fun k => (prevAt ls k, ls.getD k [])
def encP (p : List Stowed × List Stowed) : List V := [Vs (p.1.map Stowed.enc), Vs (p.2.map Stowed.enc)]
theorem pairsOf_get {ls : List (List Stowed)} {k : Nat} {l : List Stowed} (h : ls[k]? = some l) : (pairsOf ls)[k]? = some (prevAt ls k, l) := by
  have hk := (List.getElem?_eq_some_iff.1 h).1
  have h2 : ls.getD k [] = l := by rw [List.getD_eq_getElem?_getD, h]; rfl
  rw [pairsOf, List.getElem?_map, List.getElem?_range hk]
  simp only [Option.map_some, h2]
theorem f103 (hF : Wide F) (hro : F.round = none) (ls : List (List Stowed)) (hls : ls.length ≤ 1000) : IterV Tryz.prog F 103 [.rp (planEnc ls) 0] encP (pairsOf ls) := by
  intro Y hY
  have hlen : (pairsOf ls).length = ls.length := by simp [pairsOf]
  rw [hlen]
  refine FnX.iter (r := .tu []) ?_
  show FnX Tryz.prog F 103 2 [(.s 0, .ob [] (Y 0)), (.s 1, .rp (planEnc ls) 0)] (.tu []) [(.s 0, .ob [] (Y ls.length))]
  refine FnX.of_AW hF hro hτ (K := [0]) Tryz.func103 rfl (by decide) rfl (Nat.le_of_ble_eq_true rfl) rfl rfl ?_
  (repeat' first | apply Wq | refine Ws hF hτ rfl ?_ | apply Wb | apply Wl | apply Wk | apply We | apply Wc | apply Wd | refine Wt rfl rfl ?_ | refine Wf rfl rfl ?_ | refine Wi rfl rfl (fun h => ?_) (fun h => ?_) | refine Wx hF hτ rfl rfl rfl rfl rfl rfl rfl rfl (fun h => ?_) (fun h => ?_) | apply Wn)
  refine AW.ent (Ent.frzs (ls := [.s 3]) rfl) ?_
  refine AW.range hF rfl rfl rfl rfl rfl rfl rfl rfl rfl (ls.map encS).length (by simp [lim]; omega) (fun k => [(.s 0, .ob [] (Y k)), (.s 7, Vs (ls.map encS)), (.s 3, Vs ((prevAt ls k).map Stowed.enc))]) ?_ ?_ (fun k hk => ?_) ?_
  · exact fun k => rfl
  · (repeat' first | exact Sub.nil | refine Sub.put rfl ?_ | refine Sub.put ?_ ?_)
  · obtain ⟨l, hlk⟩ := get_ex hk
    have hk' : k < ls.length := by simpa using hk
    have hgl : ls.getD k [] = l := by rw [List.getD_eq_getElem?_getD, hlk]; rfl
    have hpr : prevAt ls (k + 1) = l := hgl
    (repeat' first | apply Wq | refine Ws hF hτ rfl ?_ | apply Wb | apply Wl | apply Wk | apply We | apply Wn)
    refine AL.opM (OpM.indexD hF rfl (hτ _ _ rfl) rfl (hτ _ _ rfl) rfl (i := k) rfl ( get_enc encS hlk) rfl rfl rfl) rfl rfl ?_
    refine Wv hF hτ rfl ?_
    (repeat' first | apply Wq | refine Ws hF hτ rfl ?_ | apply Wb | apply Wl | apply Wk | apply We | apply Wc | apply Wd | refine Wt rfl rfl ?_ | refine Wf rfl rfl ?_ | refine Wi rfl rfl (fun h => ?_) (fun h => ?_) | refine Wx hF hτ rfl rfl rfl rfl rfl rfl rfl rfl (fun h => ?_) (fun h => ?_) | apply Wn)
    refine AL.op rfl (OpTo.yield hF rfl rfl rfl (vs := encP (prevAt ls k, l)) rfl (hY k _ (pairsOf_get hlk)) rfl rfl rfl rfl) ?_
    refine Wv hF hτ rfl ?_
    (repeat' first | apply Wq | refine Ws hF hτ rfl ?_ | apply Wb | apply Wl | apply Wk | apply We | apply Wc | apply Wd | refine Wt rfl rfl ?_ | refine Wf rfl rfl ?_ | refine Wi rfl rfl (fun h => ?_) (fun h => ?_) | refine Wx hF hτ rfl rfl rfl rfl rfl rfl rfl rfl (fun h => ?_) (fun h => ?_) | apply Wn)
    (repeat' first | exact Sub.nil | refine Sub.put rfl ?_ | refine Sub.put ?_ ?_)
    rw [hpr]
    rfl
  · (repeat' first | apply Wq | refine Ws hF hτ rfl ?_ | apply Wb | apply Wl | apply Wk | apply We | apply Wc | apply Wd | refine Wt rfl rfl ?_ | refine Wf rfl rfl ?_ | refine Wi rfl rfl (fun h => ?_) (fun h => ?_) | refine Wx hF hτ rfl rfl rfl rfl rfl rfl rfl rfl (fun h => ?_) (fun h => ?_) | apply Wn)
    refine ⟨.inl rfl, rfl, ?_⟩
    (repeat' first | exact Sub.nil | refine Sub.put rfl ?_ | refine Sub.put ?_ ?_)
    rw [List.length_map]; rfl
theorem f51 (hF : Wide F) (hro : F.round = none) (ls : List (List Stowed)) : FnV Tryz.prog F 51 [Vd (planEnc ls)] (.fn 103 [.rp (planEnc ls) 0]) := by
  refine FnV.of_AW hF hro hτ Tryz.func51 rfl (by decide) rfl (by simp [Tryz.f51]) ?_
  (repeat' first | apply Wq | refine Ws hF hτ rfl ?_ | apply Wb | apply Wl | apply Wk | apply We | apply Wc | apply Wd | refine Wt rfl rfl ?_ | refine Wf rfl rfl ?_ | refine Wi rfl rfl (fun h => ?_) (fun h => ?_) | refine Wx hF hτ rfl rfl rfl rfl rfl rfl rfl rfl (fun h => ?_) (fun h => ?_) | apply Wn)
  refine AW.ent (Ent.frzs (ls := [.s 1]) rfl) ?_
  refine AW.ret ⟨.inr rfl, ?_⟩
  rfl
def stays (b a : List Stowed) (id : Int) : Bool := (slotOf b id).isSome && (slotOf a id).isSome
def restowAt (s : Ship) (b a : List Stowed) : List Int := (liftedL s b a).filter (stays b a)
def restowsTo (s : Ship) (ls : List (List Stowed)) (k : Nat) : List (List Int) := (List.range k).map fun i => restowAt s (prevAt ls i) (ls.getD i [])
noncomputable def restowsOf (s : Ship) (boxes : List Box) (n : Int) (ls : List (List Stowed)) : List (List Int) × Int :=
  if (planCheck s boxes n ls).2 ≠ 0 then ([], (planCheck s boxes n ls).2) else (restowsTo s ls ls.length, 0)
set_option maxRecDepth 100000 in
set_option maxHeartbeats 2000000 in
theorem f11 (hF : Wide F) (hro : F.round = none) (s : Ship) (boxes : List Box) (n : Int) (ls : List (List Stowed)) (hs : s.small) (hb : boxes.length ≤ 1000) (hls : ls.length ≤ 1000) (hl : ∀ l ∈ ls, l.length ≤ 1000 ∧ ∀ x ∈ l, x.slot.tier ≤ 100000)
    (h53 : (planCheck s boxes n ls).2 = 0 → ∀ k l, ls[k]? = some l → FnV Tryz.prog F 53 [Vd s.enc, Vs ((prevAt ls k).map Stowed.enc), Vs (l.map Stowed.enc)] (.row true 3 (ints (liftedL s (prevAt ls k) l))) ∧ (liftedL s (prevAt ls k) l).length ≤ 1000) :
    FnV Tryz.prog F 11 [Vd s.enc, Vs (boxes.map Box.enc), Iv64 n, Vd (planEnc ls)] (.tu [Vs ((restowsOf s boxes n ls).1.map encI), Iv64 (restowsOf s boxes n ls).2]) := by
  have h10 := f10 hF hro s boxes n ls hs hb hls hl
  have h51 := f51 hF hro ls
  have hit := f103 hF hro ls hls
  rw [restowsOf]
  generalize planCheck s boxes n ls = q at h10 h53
  refine FnV.of_AWR hF hro hτ (show Tryz.prog.funcs[11]? = some Tryz.f11 from Tryz.func11) rfl (by decide) rfl (by simp [Tryz.f11]) ?_
  refine AWR.seqL ?_
  (repeat' first | apply Wq | refine Ws hF hτ rfl ?_ | apply Wb | apply Wl | apply Wk | apply We | apply Wc | apply Wd | refine Wt rfl rfl ?_ | refine Wf rfl rfl ?_ | refine Wi rfl rfl (fun h => ?_) (fun h => ?_) | refine Wx hF hτ rfl rfl rfl rfl rfl rfl rfl rfl (fun h => ?_) (fun h => ?_) | apply Wn)
  refine AWR.seqL ?_
  (repeat' first | apply Wq | refine Ws hF hτ rfl ?_ | apply Wb | apply Wl | apply Wk | apply We | apply Wc | apply Wd | refine Wt rfl rfl ?_ | refine Wf rfl rfl ?_ | refine Wi rfl rfl (fun h => ?_) (fun h => ?_) | refine Wx hF hτ rfl rfl rfl rfl rfl rfl rfl rfl (fun h => ?_) (fun h => ?_) | apply Wn)
  refine AL.opM (OpM.call hF rfl rfl rfl rfl (h10) rfl rfl rfl) rfl rfl ?_
  refine Wv hF hτ rfl ?_
  (repeat' first | apply Wq | refine Ws hF hτ rfl ?_ | apply Wb | apply Wl | apply Wk | apply We | apply Wc | apply Wd | refine Wt rfl rfl ?_ | refine Wf rfl rfl ?_ | refine Wi rfl rfl (fun h => ?_) (fun h => ?_) | refine Wx hF hτ rfl rfl rfl rfl rfl rfl rfl rfl (fun h => ?_) (fun h => ?_) | apply Wn)
  · refine AW.ent (Ent.frzs (ls := [.s 8]) rfl) ?_
    refine AW.ret ⟨.inr rfl, ?_⟩
    rw [if_pos (by simpa using h)]; rfl
  · have h53 := h53 (by simpa using h)
    rw [if_neg (by simpa using h)]
    refine AWR.seqL ?_
    (repeat' first | apply Wq | refine Ws hF hτ rfl ?_ | apply Wb | apply Wl | apply Wk | apply We | apply Wc | apply Wd | refine Wt rfl rfl ?_ | refine Wf rfl rfl ?_ | refine Wi rfl rfl (fun h => ?_) (fun h => ?_) | refine Wx hF hτ rfl rfl rfl rfl rfl rfl rfl rfl (fun h => ?_) (fun h => ?_) | apply Wn)
    refine AWR.seqR ?_
    refine AWR.seqL ?_
    (repeat' first | apply Wq | refine Ws hF hτ rfl ?_ | apply Wb | apply Wl | apply Wk | apply We | apply Wc | apply Wd | refine Wt rfl rfl ?_ | refine Wf rfl rfl ?_ | refine Wi rfl rfl (fun h => ?_) (fun h => ?_) | refine Wx hF hτ rfl rfl rfl rfl rfl rfl rfl rfl (fun h => ?_) (fun h => ?_) | apply Wn)
    refine AL.opM (OpM.call hF rfl rfl rfl rfl (h51) rfl rfl rfl) rfl rfl ?_
    refine Wv hF hτ rfl ?_
    (repeat' first | apply Wq | refine Ws hF hτ rfl ?_ | apply Wb | apply Wl | apply Wk | apply We | apply Wc | apply Wd | refine Wt rfl rfl ?_ | refine Wf rfl rfl ?_ | refine Wi rfl rfl (fun h => ?_) (fun h => ?_) | refine Wx hF hτ rfl rfl rfl rfl rfl rfl rfl rfl (fun h => ?_) (fun h => ?_) | apply Wn)
    refine AWR.block ?_
    refine AWR.ent (Ent.nilRow (t := 12) (i := 0) (m := true) (e := 63) rfl) ?_
    refine AWR.range hF hro (K := [4, 12]) rfl hit (fun k => [(.s 4, .bx 35 (s.enc.map .d)), (.s 12, .bx 39 [.ref (.c 12 0)]), (.c 12 0, .row true 63 ((restowsTo s ls k).map encI))]) ?_ (fun k => rfl) (by decide) (fun x => rfl) (fun k => rfl) ?_ ?_
    · (repeat' first | exact Sub.nil | refine Sub.put rfl ?_ | refine Sub.put ?_ ?_)
    · intro k p hp lp
      have hk : k < ls.length := by have := (List.getElem?_eq_some_iff.1 hp).1; simpa [pairsOf] using this
      obtain ⟨l, hlk⟩ : ∃ l, ls[k]? = some l := ⟨_, List.getElem?_eq_getElem hk⟩
      rw [pairsOf_get hlk] at hp
      obtain rfl := Option.some.inj hp
      obtain ⟨g53, glen⟩ := h53 k l hlk
      have hll := hl l (List.mem_of_getElem? hlk)
      have hpl : (prevAt ls k).length ≤ 1000 := by
        cases k with
        | zero => simp [prevAt]
        | succ k => 
          have : ls.getD k [] ∈ ls := by rw [List.getD_eq_getElem?_getD, List.getElem?_eq_getElem (by omega)]; exact List.getElem_mem _
          exact (hl _ this).1
      have h54 := fun id => f54 hF hro (prevAt ls k) l id hpl hll.1
      have h52 := f52 hF hro (liftedL s (prevAt ls k) l) (fun id => !(slotOf (prevAt ls k) id).isSome || !(slotOf l id).isSome) glen
      have hfil : (liftedL s (prevAt ls k) l).filter (fun x => !(!(slotOf (prevAt ls k) x).isSome || !(slotOf l x).isSome)) = restowAt s (prevAt ls k) l := by
        rw [restowAt]; congr 1; funext x; simp [stays]
      rw [hfil] at h52
      have hsn : restowsTo s ls (k + 1) = restowsTo s ls k ++ [restowAt s (prevAt ls k) l] := by
        have hgl : ls.getD k [] = l := by rw [List.getD_eq_getElem?_getD, hlk]; rfl
        rw [restowsTo, List.range_succ, List.map_append]; simp only [restowsTo, List.map_cons, List.map_nil, hgl]
      have hlen : (restowsTo s ls k).length ≤ 1000 := by simp [restowsTo]; omega
      generalize restowsTo s ls k = acc at hsn hlen
      have h52' : FnX Tryz.prog (F.inRound lp) 52 2 [(.s 0, .row true 3 (ints (liftedL s (prevAt ls k) l))), (.s 1, .fn 54 [.rp [.sl ((prevAt ls k).map Stowed.enc)] 0, .rp [.sl (l.map Stowed.enc)] 0])] (.row true 3 (ints (restowAt s (prevAt ls k) l))) [] := by
        refine (h52.conseq (A' := [(.s 0, .row true 3 (ints (liftedL s (prevAt ls k) l))), (.s 1, .fn 54 [.rp [.sl ((prevAt ls k).map Stowed.enc)] 0, .rp [.sl (l.map Stowed.enc)] 0])]) ⟨rfl, .refl _, rfl, .fn (h54 0).callable rfl ?_, trivial⟩).inRound lp
        rintro vs r ⟨x, rfl, rfl⟩
        exact h54 x
      have hF := hF.round lp
      refine AW.subE (E' := [(.s 28, Vs ((prevAt ls k).map Stowed.enc)), (.s 29, Vs (l.map Stowed.enc)), (.s 4, .bx 35 (s.enc.map .d)), (.s 12, .bx 39 [.ref (.c 12 0)]), (.c 12 0, .row true 63 (acc.map encI))]) ?_ (nodupB_ok rfl) ?_
      · (repeat' first | exact Sub.nil | refine Sub.put rfl ?_ | refine Sub.put ?_ ?_)
      (repeat' first | apply Wq | refine Ws hF hτ rfl ?_ | apply Wb | apply Wl | apply Wk | apply We | apply Wc | apply Wd | refine Wt rfl rfl ?_ | refine Wf rfl rfl ?_ | refine Wi rfl rfl (fun h => ?_) (fun h => ?_) | refine Wx hF hτ rfl rfl rfl rfl rfl rfl rfl rfl (fun h => ?_) (fun h => ?_) | apply Wn)
      refine ⟨rfl, ?_⟩
      refine AW.ent (Ent.frzs (ls := [.s 13, .s 14]) rfl) ?_
      (repeat' first | apply Wq | refine Ws hF hτ rfl ?_ | apply Wb | apply Wl | apply Wk | apply We | apply Wc | apply Wd | refine Wt rfl rfl ?_ | refine Wf rfl rfl ?_ | refine Wi rfl rfl (fun h => ?_) (fun h => ?_) | refine Wx hF hτ rfl rfl rfl rfl rfl rfl rfl rfl (fun h => ?_) (fun h => ?_) | apply Wn)
      refine AW.draw hmix (AD.start [] [0, 1, 2, 3, 5, 4] ?_)
      refine AD.vals hF hτ rfl ?_
      refine AD.op (o := _) rfl rfl rfl (OpM.call hF rfl rfl rfl rfl (g53.inRound lp) rfl rfl rfl) ?_
      refine AD.vals hF hτ rfl ?_
      refine AD.finCS 6 [⟨7, some 37, some (.row true 63 [encI (restowAt s (prevAt ls k) l)])⟩] (fuel2 := 2) rfl rfl rfl (OpFS.one (z := (.s 30, .ref (.c 12 0))) ((OpTo.callX hF rfl rfl rfl rfl rfl rfl rfl h52' rfl rfl rfl rfl rfl).ent (Ent.frzs (ls := [.s 36]) rfl)) (((OpTo.callX hF rfl rfl rfl rfl rfl rfl rfl h52' rfl rfl rfl rfl rfl).ent (Ent.frzs (ls := [.s 36]) rfl)).permR (.swap _ _ _))) (by kernel_rfl) (by kernel_rfl) rfl rfl rfl (DS.run (DS.ofVals hF hτ (is := [0]) rfl (newD_of (by kernel_rfl))) (newD_of (by kernel_rfl)) rfl rfl (OpM.buildSlice (len := 1) (xs := encI (restowAt s (prevAt ls k) l)) hF rfl (hτ 39 _ rfl) rfl (hτ 63 _ rfl) rfl rfl rfl (Nat.le_of_ble_eq_true rfl) (Nat.le_of_ble_eq_true rfl) rfl rfl)) (by kernel_rfl) (AA.tail (fuel := 0) [8, 9] _ (by kernel_rfl) ?_) rfl
      refine AL.op rfl (OpTo.append hF rfl rfl rfl rfl (hτ _ _ rfl) rfl (hτ _ _ rfl) rfl rfl rfl rfl (by intro cs h; cases h with | head => rfl | tail _ h => cases h) (by simp [Base.xs, lim]; omega) (by simp [Base.xs]; omega) rfl rfl rfl) ?_
      refine Wv hF hτ rfl ?_
      (repeat' first | apply Wq | refine Ws hF hτ rfl ?_ | apply Wb | apply Wl | apply Wk | apply We | apply Wc | apply Wd | refine Wt rfl rfl ?_ | refine Wf rfl rfl ?_ | refine Wi rfl rfl (fun h => ?_) (fun h => ?_) | refine Wx hF hτ rfl rfl rfl rfl rfl rfl rfl rfl (fun h => ?_) (fun h => ?_) | apply Wn)
      refine ⟨rfl, ?_⟩
      (repeat' first | exact Sub.nil | refine Sub.put rfl ?_ | refine Sub.put ?_ ?_)
      rw [hsn]
      simp [chunks]
      rfl
    · have hpl : (pairsOf ls).length = ls.length := by simp [pairsOf]
      rw [hpl]
      (repeat' first | apply Wq | refine Ws hF hτ rfl ?_ | apply Wb | apply Wl | apply Wk | apply We | apply Wc | apply Wd | refine Wt rfl rfl ?_ | refine Wf rfl rfl ?_ | refine Wi rfl rfl (fun h => ?_) (fun h => ?_) | refine Wx hF hτ rfl rfl rfl rfl rfl rfl rfl rfl (fun h => ?_) (fun h => ?_) | apply Wn)
      refine AW.ent (Ent.frzs (ls := [.s 8]) rfl) ?_
      refine AW.ret ⟨.inr rfl, ?_⟩
      rfl
end Go.Proofs.VL
namespace Go.Proofs.VL
open Go Go.RowKit
variable {F : Fence}
theorem OpM.max {P : Program} {n : Nat} {K : List Nat} {o : Oper} {E : Env} (hF : Wide F) {c : Call} (ho : o.op = .call c) (hc : c.callee = .builtin .max) {x y : Operand} (ha : c.args = #[x, y]) {k k' : IntKind} {a b : Int} (hx : intO E x = some (k, a)) (hy : intO E y = some (k', b)) {d : Nat} (hd : o.dst = some d)
    (hok : okD n K d (Iv k (if a < b then b else a)) = true) : OpM P F n K o E d (Iv k (if a < b then b else a)) :=
  .pure hF (by simp [ho]) hd hok fun E' hs w N L γ R tmps ds hr hn => by
    have h1 := intO_ok hr (intO_mono hs hx) ds
    have h2 := intO_ok hr (intO_mono hs hy) ds
    refine ⟨.int k (if a < b then b else a), ?_, fun S => rep_int ..⟩
    simp only [execOp, ho, resolve, hc, ha]
    simp [invoke, builtin, h1, h2, run_max_int2]
def tierSlots (size : Int) (c t : Nat) : List Slot := (halves size).map fun h => ⟨c, t, h⟩
def colSlotsTo (size : Int) (c n : Nat) : List Slot := (List.range n).flatMap (tierSlots size c)
def slotsTo (cols : List Column) (size : Int) (n : Nat) : List Slot := (List.range n).flatMap fun c => colSlotsTo size c (cols.getD c noCol).tiers.toNat
def allSlots (s : Ship) (size : Int) : List Slot := slotsTo s.cols size s.cols.length
theorem flat_get {β : Type} (f : Nat → List β) {n c j : Nat} {x : β} (hc : c < n) (h : (f c)[j]? = some x) : ((List.range n).flatMap f)[((List.range c).flatMap f).length + j]? = some x := by
  obtain ⟨m, rfl⟩ : ∃ m, n = c + (m + 1) := ⟨n - c - 1, by omega⟩
  rw [List.range_add, List.range_succ_eq_map, List.map_cons, List.flatMap_append, List.flatMap_cons, Nat.add_zero, List.getElem?_append_right (by omega), Nat.add_sub_cancel_left, List.getElem?_append_left (List.getElem?_eq_some_iff.1 h).1]
  exact h
theorem flat_snoc {β : Type} (f : Nat → List β) (c : Nat) : (List.range (c + 1)).flatMap f = (List.range c).flatMap f ++ f c := by
  rw [List.range_succ, List.flatMap_append]; simp
def encSl (x : Slot) : List V := [Vd x.enc]
theorem f229 (hF : Wide F) (hro : F.round = none) (s : Ship) (size : Int) (hl : s.cols.length ≤ 1000) (ht : ∀ c ∈ s.cols, c.tiers ≤ 1000) : IterV Tryz.prog F 229 [.rp s.enc 0, .rp [du size] 0] encSl (allSlots s size) := by
  intro Y hY
  refine FnX.iter (r := .tu []) ?_
  show FnX Tryz.prog F 229 3 [(.s 0, .ob [] (Y 0)), (.s 1, .rp s.enc 0), (.s 2, .rp [du size] 0)] (.tu []) [(.s 0, .ob [] (Y (allSlots s size).length))]
  refine FnX.of_AW hF hro hτ (K := [0]) Tryz.func229 rfl (by decide) rfl (Nat.le_of_ble_eq_true rfl) rfl rfl ?_
  (repeat' first | apply Wq | refine Ws hF hτ rfl ?_ | apply Wb | apply Wl | apply Wk | apply We | apply Wc | apply Wd | refine Wt rfl rfl ?_ | refine Wf rfl rfl ?_ | refine Wi rfl rfl (fun h => ?_) (fun h => ?_) | refine Wx hF hτ rfl rfl rfl rfl rfl rfl rfl rfl (fun h => ?_) (fun h => ?_) | apply Wn)
  refine AW.range hF rfl rfl rfl rfl rfl rfl rfl rfl rfl (s.cols.map Column.enc).length (by simp [lim]; omega) (fun k => [(.s 0, .ob [] (Y (slotsTo s.cols size k).length)), (.s 2, .rp [du size] 0), (.s 10, Vs (s.cols.map Column.enc))]) ?_ ?_ (fun k hk => ?_) ?_
  · exact fun k => rfl
  · (repeat' first | exact Sub.nil | refine Sub.put rfl ?_ | refine Sub.put ?_ ?_)
  · obtain ⟨c, hc⟩ := get_ex hk
    have hk' : k < s.cols.length := by simpa using hk
    have hct := ht c (List.mem_of_getElem? hc)
    have hgc : s.cols.getD k noCol = c := by rw [List.getD_eq_getElem?_getD, hc]; rfl
    have hsn : (slotsTo s.cols size (k + 1)).length = (slotsTo s.cols size k ++ colSlotsTo size k c.tiers.toNat).length := by
      rw [slotsTo, flat_snoc, hgc]; rfl
    have hat : ∀ j x, (colSlotsTo size k c.tiers.toNat)[j]? = some x → YStep Tryz.prog F (Y ((slotsTo s.cols size k).length + j)) (encSl x) (Y ((slotsTo s.cols size k).length + j + 1)) := fun j x hx =>
      hY _ x (flat_get (fun c => colSlotsTo size c (s.cols.getD c noCol).tiers.toNat) hk' (by simp only [hgc]; exact hx))
    rw [hsn, List.length_append]
    generalize (slotsTo s.cols size k).length = a0 at hat
    (repeat' first | apply Wq | refine Ws hF hτ rfl ?_ | apply Wb | apply Wl | apply Wk | apply We | apply Wn)
    refine AL.opM (OpM.indexD hF rfl (hτ _ _ rfl) rfl (hτ _ _ rfl) rfl (i := k) rfl ( get_enc Column.enc hc) rfl rfl rfl) rfl rfl ?_
    refine Wv hF hτ rfl ?_
    (repeat' first | apply Wq | refine Ws hF hτ rfl ?_ | apply Wb | apply Wl | apply Wk | apply We | apply Wc | apply Wd | refine Wt rfl rfl ?_ | refine Wf rfl rfl ?_ | refine Wi rfl rfl (fun h => ?_) (fun h => ?_) | refine Wx hF hτ rfl rfl rfl rfl rfl rfl rfl rfl (fun h => ?_) (fun h => ?_) | apply Wn)
    refine AL.opM (OpM.max hF rfl rfl rfl rfl rfl rfl rfl) rfl rfl ?_
    refine Wv hF hτ rfl ?_
    (repeat' first | apply Wq | refine Ws hF hτ rfl ?_ | apply Wb | apply Wl | apply Wk | apply We | apply Wc | apply Wd | refine Wt rfl rfl ?_ | refine Wf rfl rfl ?_ | refine Wi rfl rfl (fun h => ?_) (fun h => ?_) | refine Wx hF hτ rfl rfl rfl rfl rfl rfl rfl rfl (fun h => ?_) (fun h => ?_) | apply Wn)
    have hm : Iv .i64 (if c.tiers < 0 then 0 else c.tiers) = Iv64 (c.tiers.toNat : Int) := by
      refine congrArg Iv64 ?_
      split <;> omega
    have htn : c.tiers.toNat ≤ 1000 := by omega
    generalize c.tiers.toNat = tn at hm hat htn
    refine AW.range hF rfl rfl rfl rfl rfl rfl rfl rfl rfl tn (by simp [lim]; omega) (fun t => [(.s 0, .ob [] (Y (a0 + (colSlotsTo size k t).length))), (.s 2, .rp [du size] 0), (.s 10, Vs (s.cols.map Column.enc)), (.s 4, Iv64 k), (.s 12, Iv64 k), (.s 11, Iv64 (s.cols.map Column.enc).length)]) ?_ ?_ (fun t ht' => ?_) ?_
    · exact fun k => rfl
    · (repeat' first | exact Sub.nil | refine Sub.put rfl ?_ | refine Sub.put ?_ ?_)
      exact congrArg some hm
    · have hsn2 : (colSlotsTo size k (t + 1)).length = (colSlotsTo size k t ++ tierSlots size k t).length := by
        rw [colSlotsTo, flat_snoc]; rfl
      have hat2 : ∀ j x, (tierSlots size k t)[j]? = some x → YStep Tryz.prog F (Y (a0 + (colSlotsTo size k t).length + j)) (encSl x) (Y (a0 + (colSlotsTo size k t).length + j + 1)) := fun j x hx => by
        have := hat _ x (flat_get (tierSlots size k) ht' hx)
        rw [← Nat.add_assoc] at this
        exact this
      rw [hsn2, List.length_append, ← Nat.add_assoc]
      generalize a0 + (colSlotsTo size k t).length = a1 at hat2
      have hhl : (halves size).length ≤ 1000 := halves_len size
      have htl : (tierSlots size k t).length = (halves size).length := by simp [tierSlots]
      rw [htl]
      (repeat' first | apply Wq | refine Ws hF hτ rfl ?_ | apply Wb | apply Wl | apply Wk | apply We | apply Wn)
      refine AL.opM (OpM.call hF rfl rfl rfl rfl (f176 hF hro size) rfl rfl rfl) rfl rfl ?_
      refine Wv hF hτ rfl ?_
      (repeat' first | apply Wq | refine Ws hF hτ rfl ?_ | apply Wb | apply Wl | apply Wk | apply We | apply Wc | apply Wd | refine Wt rfl rfl ?_ | refine Wf rfl rfl ?_ | refine Wi rfl rfl (fun h => ?_) (fun h => ?_) | refine Wx hF hτ rfl rfl rfl rfl rfl rfl rfl rfl (fun h => ?_) (fun h => ?_) | apply Wn)
      refine AW.range hF rfl rfl rfl rfl rfl rfl rfl rfl rfl (u8s (halves size)).length (by simp [u8s, lim]; omega) (fun j => [(.s 0, .ob [] (Y (a1 + j))), (.s 2, .rp [du size] 0), (.s 10, Vs (s.cols.map Column.enc)), (.s 4, Iv64 k), (.s 12, Iv64 k), (.s 11, Iv64 (s.cols.map Column.enc).length), (.s 6, Iv64 t), (.s 20, Iv64 t), (.s 19, Iv64 tn), (.s 24, .row true 5 (u8s (halves size)))]) ?_ ?_ (fun j hj => ?_) ?_
      · exact fun k => rfl
      · (repeat' first | exact Sub.nil | refine Sub.put rfl ?_ | refine Sub.put ?_ ?_)
      · obtain ⟨x, hx⟩ : ∃ x, (halves size)[j]? = some x := ⟨_, List.getElem?_eq_getElem (by simpa [u8s] using hj)⟩
        have hst := hat2 j ⟨k, t, x⟩ (by simp [tierSlots, hx])
        (repeat' first | apply Wq | refine Ws hF hτ rfl ?_ | apply Wb | apply Wl | apply Wk | apply We | apply Wn)
        refine AL.opM (OpM.indexR hF rfl (hτ _ _ rfl) rfl (hτ _ _ rfl) rfl (k := .i64) (i := j ) (by exact  rfl ) ( hj) rfl rfl) rfl rfl ?_
        refine Wv hF hτ rfl ?_
        refine AL.opM (OpM.loadE hF rfl (hτ _ _ rfl) rfl rfl (q := 0) (get_enc (fun n : Int => [du n]) hx) rfl (Nat.le_of_ble_eq_true rfl) rfl rfl rfl) rfl rfl ?_
        refine Wv hF hτ rfl ?_
        (repeat' first | apply Wq | refine Ws hF hτ rfl ?_ | apply Wb | apply Wl | apply Wk | apply We | apply Wc | apply Wd | refine Wt rfl rfl ?_ | refine Wf rfl rfl ?_ | refine Wi rfl rfl (fun h => ?_) (fun h => ?_) | refine Wx hF hτ rfl rfl rfl rfl rfl rfl rfl rfl (fun h => ?_) (fun h => ?_) | apply Wn)
        refine AL.op rfl (OpTo.yield hF rfl rfl rfl (vs := encSl ⟨k, t, x⟩) rfl hst rfl rfl rfl rfl) ?_
        refine Wv hF hτ rfl ?_
        (repeat' first | apply Wq | refine Ws hF hτ rfl ?_ | apply Wb | apply Wl | apply Wk | apply We | apply Wc | apply Wd | refine Wt rfl rfl ?_ | refine Wf rfl rfl ?_ | refine Wi rfl rfl (fun h => ?_) (fun h => ?_) | refine Wx hF hτ rfl rfl rfl rfl rfl rfl rfl rfl (fun h => ?_) (fun h => ?_) | apply Wn)
        (repeat' first | exact Sub.nil | refine Sub.put rfl ?_ | refine Sub.put ?_ ?_)
      · (repeat' first | apply Wq | refine Ws hF hτ rfl ?_ | apply Wb | apply Wl | apply Wk | apply We | apply Wc | apply Wd | refine Wt rfl rfl ?_ | refine Wf rfl rfl ?_ | refine Wi rfl rfl (fun h => ?_) (fun h => ?_) | refine Wx hF hτ rfl rfl rfl rfl rfl rfl rfl rfl (fun h => ?_) (fun h => ?_) | apply Wn)
        (repeat' first | exact Sub.nil | refine Sub.put rfl ?_ | refine Sub.put ?_ ?_)
        simp [u8s]; rfl
    · (repeat' first | apply Wq | refine Ws hF hτ rfl ?_ | apply Wb | apply Wl | apply Wk | apply We | apply Wc | apply Wd | refine Wt rfl rfl ?_ | refine Wf rfl rfl ?_ | refine Wi rfl rfl (fun h => ?_) (fun h => ?_) | refine Wx hF hτ rfl rfl rfl rfl rfl rfl rfl rfl (fun h => ?_) (fun h => ?_) | apply Wn)
      (repeat' first | exact Sub.nil | refine Sub.put rfl ?_ | refine Sub.put ?_ ?_)
  · (repeat' first | apply Wq | refine Ws hF hτ rfl ?_ | apply Wb | apply Wl | apply Wk | apply We | apply Wc | apply Wd | refine Wt rfl rfl ?_ | refine Wf rfl rfl ?_ | refine Wi rfl rfl (fun h => ?_) (fun h => ?_) | refine Wx hF hτ rfl rfl rfl rfl rfl rfl rfl rfl (fun h => ?_) (fun h => ?_) | apply Wn)
    refine ⟨.inl rfl, rfl, ?_⟩
    (repeat' first | exact Sub.nil | refine Sub.put rfl ?_ | refine Sub.put ?_ ?_)
    rw [List.length_map]; rfl
theorem f171 (hF : Wide F) (hro : F.round = none) (s : Ship) (size : Int) : FnV Tryz.prog F 171 [Vd s.enc, Uv size] (.fn 229 [.rp s.enc 0, .rp [du size] 0]) := by
  refine FnV.of_AW hF hro hτ Tryz.func171 rfl (by decide) rfl (by simp [Tryz.f171]) ?_
  (repeat' first | apply Wq | refine Ws hF hτ rfl ?_ | apply Wb | apply Wl | apply Wk | apply We | apply Wc | apply Wd | refine Wt rfl rfl ?_ | refine Wf rfl rfl ?_ | refine Wi rfl rfl (fun h => ?_) (fun h => ?_) | refine Wx hF hτ rfl rfl rfl rfl rfl rfl rfl rfl (fun h => ?_) (fun h => ?_) | apply Wn)
  refine AW.ent (Ent.frzs (ls := [.s 2, .s 3]) rfl) ?_
  refine AW.ret ⟨.inr rfl, ?_⟩
  rfl
theorem slotsTo_len (cols : List Column) (size : Int) (ht : ∀ c ∈ cols, c.tiers ≤ 1000) : ∀ k, (slotsTo cols size k).length ≤ 2000 * k := by
  have hh : (halves size).length ≤ 2 := by
    unfold halves
    split
    · simp
    · split <;> simp
  have h1 : ∀ c n, (colSlotsTo size c n).length ≤ 2 * n := by
    intro c n
    induction n with
    | zero => simp [colSlotsTo]
    | succ n ih => rw [colSlotsTo, flat_snoc, List.length_append, tierSlots, List.length_map, ← colSlotsTo]; omega
  intro k
  induction k with
  | zero => simp [slotsTo]
  | succ k ih =>
    rw [slotsTo, flat_snoc, List.length_append, ← slotsTo]
    have := h1 k (cols.getD k noCol).tiers.toNat
    have h2 : (cols.getD k noCol).tiers ≤ 1000 := by
      rw [List.getD_eq_getElem?_getD]
      cases h : cols[k]? with
      | none => simp [noCol]
      | some c => exact ht c (List.mem_of_getElem? h)
    omega
set_option maxHeartbeats 2000000 in
theorem f95 (hF : Wide F) (hro : F.round = none) (s : Ship) (size : Int) (hl : s.cols.length ≤ 1000) (ht : ∀ c ∈ s.cols, c.tiers ≤ 1000) : FnV Tryz.prog F 95 [Vd s.enc, Uv size] (Vs ((allSlots s size).map Slot.enc)) := by
  have h171 := f171 hF hro s size
  have hit := f229 hF hro s size hl ht
  have hlen := slotsTo_len s.cols size ht s.cols.length
  rw [← allSlots] at hlen
  refine FnV.of_AWR hF hro hτ (show Tryz.prog.funcs[95]? = some Tryz.f95 from Tryz.func95) rfl (by decide) rfl (by simp [Tryz.f95]) ?_
  refine AWR.seqL ?_
  (repeat' first | apply Wq | refine Ws hF hτ rfl ?_ | apply Wb | apply Wl | apply Wk | apply We | apply Wc | apply Wd | refine Wt rfl rfl ?_ | refine Wf rfl rfl ?_ | refine Wi rfl rfl (fun h => ?_) (fun h => ?_) | refine Wx hF hτ rfl rfl rfl rfl rfl rfl rfl rfl (fun h => ?_) (fun h => ?_) | apply Wn)
  refine AWR.seqL ?_
  (repeat' first | apply Wq | refine Ws hF hτ rfl ?_ | apply Wb | apply Wl | apply Wk | apply We | apply Wc | apply Wd | refine Wt rfl rfl ?_ | refine Wf rfl rfl ?_ | refine Wi rfl rfl (fun h => ?_) (fun h => ?_) | refine Wx hF hτ rfl rfl rfl rfl rfl rfl rfl rfl (fun h => ?_) (fun h => ?_) | apply Wn)
  refine AWR.seqR ?_
  refine AWR.seqL ?_
  (repeat' first | apply Wq | refine Ws hF hτ rfl ?_ | apply Wb | apply Wl | apply Wk | apply We | apply Wc | apply Wd | refine Wt rfl rfl ?_ | refine Wf rfl rfl ?_ | refine Wi rfl rfl (fun h => ?_) (fun h => ?_) | refine Wx hF hτ rfl rfl rfl rfl rfl rfl rfl rfl (fun h => ?_) (fun h => ?_) | apply Wn)
  refine AL.opM (OpM.call hF rfl rfl rfl rfl (h171) rfl rfl rfl) rfl rfl ?_
  refine Wv hF hτ rfl ?_
  (repeat' first | apply Wq | refine Ws hF hτ rfl ?_ | apply Wb | apply Wl | apply Wk | apply We | apply Wc | apply Wd | refine Wt rfl rfl ?_ | refine Wf rfl rfl ?_ | refine Wi rfl rfl (fun h => ?_) (fun h => ?_) | refine Wx hF hτ rfl rfl rfl rfl rfl rfl rfl rfl (fun h => ?_) (fun h => ?_) | apply Wn)
  refine AWR.block ?_
  refine AWR.ent (Ent.nilRow (t := 5) (i := 0) (m := true) (e := 88) rfl) ?_
  refine AWR.range hF hro (K := [5]) rfl hit (fun k => [(.s 5, .bx 195 [.ref (.c 5 0)]), (.c 5 0, .row true 88 (((allSlots s size).take k).map Slot.enc))]) ?_ (fun k => rfl) (by decide) (fun x => rfl) (fun k => rfl) ?_ ?_
  · (repeat' first | exact Sub.nil | refine Sub.put rfl ?_ | refine Sub.put ?_ ?_)
  · intro k x hx lp
    have hk : k < (allSlots s size).length := (List.getElem?_eq_some_iff.1 hx).1
    have hF := hF.round lp
    have hsn := take_snoc hx
    have htl : ((allSlots s size).take k).length ≤ 2000000 := by simp; omega
    rw [hsn]
    generalize (allSlots s size).take k = acc at htl
    refine AW.subE (E' := [(.s 10, Vd x.enc), (.s 5, .bx 195 [.ref (.c 5 0)]), (.c 5 0, .row true 88 (acc.map Slot.enc))]) ?_ (nodupB_ok rfl) ?_
    · (repeat' first | exact Sub.nil | refine Sub.put rfl ?_ | refine Sub.put ?_ ?_)
    (repeat' first | apply Wq | refine Ws hF hτ rfl ?_ | apply Wb | apply Wl | apply Wk | apply We | apply Wc | apply Wd | refine Wt rfl rfl ?_ | refine Wf rfl rfl ?_ | refine Wi rfl rfl (fun h => ?_) (fun h => ?_) | refine Wx hF hτ rfl rfl rfl rfl rfl rfl rfl rfl (fun h => ?_) (fun h => ?_) | apply Wn)
    refine ⟨rfl, ?_⟩
    (repeat' first | apply Wq | refine Ws hF hτ rfl ?_ | apply Wb | apply Wl | apply Wk | apply We | apply Wc | apply Wd | refine Wt rfl rfl ?_ | refine Wf rfl rfl ?_ | refine Wi rfl rfl (fun h => ?_) (fun h => ?_) | refine Wx hF hτ rfl rfl rfl rfl rfl rfl rfl rfl (fun h => ?_) (fun h => ?_) | apply Wn)
    refine AL.opM (OpM.buildSlice hF rfl (hτ _ _ rfl) rfl (hτ _ _ rfl) rfl rfl rfl (by decide) (by decide) rfl rfl) rfl rfl ?_
    refine AL.op rfl (OpTo.append hF rfl rfl rfl rfl (hτ _ _ rfl) rfl (hτ _ _ rfl) rfl rfl rfl rfl (by intro cs h; cases h with | head => rfl | tail _ h => cases h) (by simp [Base.xs, chunks, lim]; omega) (by simp [Base.xs, chunks, lim]; omega) rfl rfl rfl) ?_
    refine Wv hF hτ rfl ?_
    (repeat' first | apply Wq | refine Ws hF hτ rfl ?_ | apply Wb | apply Wl | apply Wk | apply We | apply Wc | apply Wd | refine Wt rfl rfl ?_ | refine Wf rfl rfl ?_ | refine Wi rfl rfl (fun h => ?_) (fun h => ?_) | refine Wx hF hτ rfl rfl rfl rfl rfl rfl rfl rfl (fun h => ?_) (fun h => ?_) | apply Wn)
    refine ⟨rfl, ?_⟩
    (repeat' first | exact Sub.nil | refine Sub.put rfl ?_ | refine Sub.put ?_ ?_)
    simp [chunks]
    rfl
  · rw [List.take_length]
    (repeat' first | apply Wq | refine Ws hF hτ rfl ?_ | apply Wb | apply Wl | apply Wk | apply We | apply Wc | apply Wd | refine Wt rfl rfl ?_ | refine Wf rfl rfl ?_ | refine Wi rfl rfl (fun h => ?_) (fun h => ?_) | refine Wx hF hτ rfl rfl rfl rfl rfl rfl rfl rfl (fun h => ?_) (fun h => ?_) | apply Wn)
    refine AW.ent (Ent.frzs (ls := [.s 4]) rfl) ?_
    refine AW.ret ⟨.inr rfl, ?_⟩
    rfl
end Go.Proofs.VL
namespace Go.Proofs.VL
open Go Go.RowKit
variable {F : Fence}
theorem right_in {n lo hi : Int} (h : (Span.mk n lo hi).in_ = true) : lo ≤ n ∧ n ≤ hi := by
  simp [Span.in_] at h; omega
theorem Column.tiers_of {c : Column} (h : c.right = true) : 1 ≤ c.tiers ∧ c.tiers ≤ 10 := by
  simp only [Column.right, Column.spans, List.all_cons, Bool.and_eq_true] at h
  exact right_in h.2.2.1
theorem ShipRight.tiers {s : Ship} (h : ShipRight s) : ∀ c ∈ s.cols, 1 ≤ c.tiers ∧ c.tiers ≤ 10 := fun c hc => by
  obtain ⟨k, hk⟩ := List.mem_iff_getElem?.1 hc
  exact Column.tiers_of (h.2.1 k c hk)
theorem ShipRight.len {s : Ship} (h : ShipRight s) : 0 < s.cols.length ∧ s.cols.length ≤ 200 := by
  have := h.1
  simp [sizesOK] at this
  omega
theorem slotRight_of {s : Ship} (h : ShipRight s) {x : Slot} {size : Int} (hx : slotRight s x size = true) : 0 ≤ x.tier ∧ x.tier ≤ 10 ∧ (⟨0, x⟩ : Stowed).on s := by
  simp only [slotRight, Bool.and_eq_true, decide_eq_true_eq] at hx
  obtain ⟨⟨⟨⟨h1, h2⟩, h3⟩, h4⟩, _⟩ := hx
  have hlt : x.col.toNat < s.cols.length := by omega
  have ht := h.tiers (s.cols.getD x.col.toNat noCol) (by rw [List.getD_eq_getElem?_getD, List.getElem?_eq_getElem hlt]; exact List.getElem_mem _)
  exact ⟨h3, by omega, x.col.toNat, by simp; omega, hlt⟩
theorem shipRight_iff {s : Ship} : shipRight s = true ↔ ShipRight s := by simp [shipRight]
theorem stowRight_iff {s : Ship} {boxes : List Box} {l : List Stowed} : stowRight s boxes l = true ↔ StowRight s boxes l := by simp [stowRight]
theorem StowRight.slots {s : Ship} {boxes : List Box} {l : List Stowed} (h : StowRight s boxes l) : ∀ x ∈ l, 0 ≤ x.slot.tier ∧ x.slot.tier ≤ 10 ∧ x.on s := fun x hx => by
  obtain ⟨k, hk⟩ := List.mem_iff_getElem?.1 hx
  obtain ⟨a, b, c⟩ := slotRight_of (shipRight_iff.1 h.1) (h.2.1 k x hk).2.2.1
  exact ⟨a, b, c⟩
theorem adj_sorted {l : List Int} (h : ∀ k a b, l[k]? = some a → l[k + 1]? = some b → a < b) : l.Pairwise (· < ·) := by
  induction l with
  | nil => exact .nil
  | cons x l ih =>
    have hl := ih (fun k a b ha hb => h (k + 1) a b (by simpa using ha) (by simpa using hb))
    refine List.Pairwise.cons (fun y hy => ?_) hl
    cases l with
    | nil => cases hy
    | cons z l =>
      have hz := h 0 x z rfl rfl
      rcases List.mem_cons.1 hy with rfl | hy
      · exact hz
      · have := (List.pairwise_cons.1 hl).1 y hy; omega
theorem StowRight.sorted {s : Ship} {boxes : List Box} {l : List Stowed} (h : StowRight s boxes l) : (l.map (·.box)).Pairwise (· < ·) := by
  refine adj_sorted fun k a b ha hb => ?_
  simp only [List.getElem?_map, Option.map_eq_some_iff] at ha hb
  obtain ⟨x, hx, rfl⟩ := ha
  obtain ⟨y, hy, rfl⟩ := hb
  exact (h.2.1 (k + 1) y hy).2.1 x (by omega) hx
theorem sorted_eq : ∀ {l m : List Int}, l.Pairwise (· < ·) → m.Pairwise (· < ·) → (∀ x, x ∈ l ↔ x ∈ m) → l = m
  | [], [], _, _, _ => rfl
  | [], y :: m, _, _, h => by have := (h y).2 (.head _); cases this
  | x :: l, [], _, _, h => by have := (h x).1 (.head _); cases this
  | x :: l, y :: m, hl, hm, h => by
    rw [List.pairwise_cons] at hl hm
    have hxy : x = y := by
      have h1 := (h x).1 (.head _)
      have h2 := (h y).2 (.head _)
      rcases List.mem_cons.1 h1 with h1 | h1
      · exact h1
      · rcases List.mem_cons.1 h2 with h2 | h2
        · exact h2.symm
        · have := hl.1 y h2; have := hm.1 x h1; omega
    subst hxy
    congr 1
    refine sorted_eq hl.2 hm.2 fun z => ⟨fun hz => ?_, fun hz => ?_⟩
    · rcases List.mem_cons.1 ((h z).1 (.tail _ hz)) with e | hz'
      · subst e; have := hl.1 z hz; omega
      · exact hz'
    · rcases List.mem_cons.1 ((h z).2 (.tail _ hz)) with e | hz'
      · subst e; have := hm.1 z hz; omega
      · exact hz'
def BoxesUp (boxes : List Box) : Prop := (boxes.map (·.id)).Pairwise (· < ·)
theorem aboard_sorted {boxes : List Box} (h : BoxesUp boxes) (k : Int) : (aboard boxes k).Pairwise (· < ·) := h.sublist ((List.filter_sublist).map _)
def GoodAt (s : Ship) (boxes : List Box) (k : Int) (l : List Stowed) : Prop := StowRight s boxes l ∧ ∀ x ∈ l, x.box ∈ aboard boxes k
theorem GoodAt.len {s : Ship} {boxes : List Box} {k : Int} {l : List Stowed} (h : GoodAt s boxes k l) : l.length ≤ boxes.length := by
  have h1 : (l.map (·.box)).Nodup := h.1.sorted.imp (fun h => by omega)
  have := nodup_len h1 (U := aboard boxes k) (fun x hx => by obtain ⟨y, hy, rfl⟩ := List.mem_map.1 hx; exact h.2 y hy)
  have h2 := aboard_len boxes k
  simp at this; omega
theorem GoodAt.full {s : Ship} {boxes : List Box} {k : Int} {l : List Stowed} (hb : BoxesUp boxes) (h : GoodAt s boxes k l) (hf : ∀ i ∈ aboard boxes k, i ∈ l.map (·.box)) : l.map (·.box) = aboard boxes k :=
  sorted_eq h.1.sorted (aboard_sorted hb k) fun x => ⟨fun hx => by obtain ⟨y, hy, rfl⟩ := List.mem_map.1 hx; exact h.2 y hy, hf x⟩
theorem mem_withBox {l : List Stowed} {x y : Stowed} (h : y ∈ withBox l x) : y = x ∨ y ∈ l := by
  simp only [withBox, List.mem_append, List.mem_filter, List.mem_cons] at h
  rcases h with h | h | h
  · exact .inr h.1
  · exact .inl h
  · exact .inr h.1
theorem withBox_ids {l : List Stowed} {x : Stowed} {i : Int} (h : i = x.box ∨ i ∈ l.map (·.box)) : i ∈ (withBox l x).map (·.box) := by
  rw [List.mem_map]
  by_cases e : i = x.box
  · exact ⟨x, by simp [withBox], e.symm⟩
  · obtain ⟨y, hy, rfl⟩ := List.mem_map.1 (h.resolve_left e)
    refine ⟨y, ?_, rfl⟩
    simp only [withBox, List.mem_append, List.mem_filter, List.mem_cons, hy, true_and, decide_eq_true_eq]
    rcases Int.lt_trichotomy y.box x.box with h | h | h
    · exact .inl h
    · exact absurd h e
    · exact .inr (.inr h)
theorem withBox_len (l : List Stowed) (x : Stowed) : (withBox l x).length ≤ 2 * l.length + 1 := by
  have h1 := List.length_filter_le (fun y : Stowed => decide (y.box < x.box)) l
  have h2 := List.length_filter_le (fun y : Stowed => decide (x.box < y.box)) l
  simp [withBox]; omega
theorem mem_aboard {boxes : List Box} {k i : Int} : i ∈ aboard boxes k ↔ ∃ b ∈ boxes, b.load ≤ k ∧ k < b.disch ∧ b.id = i := by
  simp only [aboard, List.mem_map, List.mem_filter, Box.aboard, Bool.and_eq_true, decide_eq_true_eq]
  exact ⟨fun ⟨b, ⟨h1, h2, h3⟩, h4⟩ => ⟨b, h1, h2, h3, h4⟩, fun ⟨b, h1, h2, h3, h4⟩ => ⟨b, ⟨h1, h2, h3⟩, h4⟩⟩
theorem GoodAt.with {s : Ship} {boxes : List Box} {k : Int} {l : List Stowed} (h : GoodAt s boxes k l) {b : Box} (hb : b ∈ boxes) (h1 : b.load ≤ k) (h2 : k < b.disch) {x : Slot} (hr : stowRight s boxes (withBox l ⟨b.id, x⟩) = true) : GoodAt s boxes k (withBox l ⟨b.id, x⟩) := by
  refine ⟨stowRight_iff.1 hr, fun y hy => ?_⟩
  rcases mem_withBox hy with rfl | hy
  · exact mem_aboard.2 ⟨b, hb, h1, h2, rfl⟩
  · exact h.2 y hy
theorem GoodAt.nil {s : Ship} (h : ShipRight s) (boxes : List Box) (k : Int) : GoodAt s boxes k [] := by
  refine ⟨⟨shipRight_iff.2 h, fun k x hx => by simp at hx, fun i c hc => ?_⟩, fun x hx => by cases hx⟩
  by_cases h : c.c4 ≤ 0
  · simp [fitsAt, h]
  · simp [fitsAt, heightOf]; exact .inr ⟨decide_eq_true (by omega), decide_eq_true (by omega)⟩
end Go.Proofs.VL
