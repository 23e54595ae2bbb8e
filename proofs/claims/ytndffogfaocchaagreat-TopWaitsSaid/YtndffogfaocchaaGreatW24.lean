import Derived.Test.YtndffogfaocchaaGreatW23
set_option linter.unusedVariables false
set_option linter.unusedSimpArgs false
set_option linter.unusedSectionVars false
namespace Go.Proofs.VL
open Go Go.RowKit
variable {F : Fence}
def planEnc (ls : List (List Stowed)) : List D := [.sl (ls.map encS), .nl]
noncomputable def checkFrom (s : Ship) (boxes : List Box) : Nat → List (List Stowed) → Int × Int
  | _, [] => (0, 0)
  | k, l :: ls => if stowRight s boxes l = false then ((k : Int), 232) else if eqBy (fun x id => x.box == id) l (aboard boxes k) = false then ((k : Int), 233) else checkFrom s boxes (k + 1) ls
noncomputable def planCheck (s : Ship) (boxes : List Box) (n : Int) (ls : List (List Stowed)) : Int × Int :=
  if shipRight s = false then (0, 2) else if boxesOK n boxes = false then (0, 230) else if (ls.length : Int) ≠ n then (0, 231) else checkFrom s boxes 0 ls
theorem checkFrom_drop {s : Ship} {boxes : List Box} {ls : List (List Stowed)} {k : Nat} {l : List Stowed} (h : ls[k]? = some l) : checkFrom s boxes k (ls.drop k) = if stowRight s boxes l = false then ((k : Int), 232) else if eqBy (fun x id => x.box == id) l (aboard boxes k) = false then ((k : Int), 233) else checkFrom s boxes (k + 1) (ls.drop (k + 1)) := by
  obtain ⟨hk, rfl⟩ := List.getElem?_eq_some_iff.1 h
  rw [List.drop_eq_getElem_cons hk, checkFrom]
theorem aboard_len (boxes : List Box) (k : Int) : (aboard boxes k).length ≤ boxes.length := by
  simp [aboard]; exact List.length_filter_le _ _
set_option maxHeartbeats 2000000 in
theorem f10 (hF : Wide F) (hro : F.round = none) (s : Ship) (boxes : List Box) (n : Int) (ls : List (List Stowed)) (hs : s.small) (hb : boxes.length ≤ 1000) (hls : ls.length ≤ 1000) (hl : ∀ l ∈ ls, l.length ≤ 1000 ∧ ∀ x ∈ l, x.slot.tier ≤ 100000) :
    FnV Tryz.prog F 10 [Vd s.enc, Vs (boxes.map Box.enc), Iv64 n, Vd (planEnc ls)] (.tu [Iv64 (planCheck s boxes n ls).1, Iv64 (planCheck s boxes n ls).2]) := by
  refine FnV.of_AW hF hro hτ Tryz.func10 rfl (by decide) rfl (by simp [Tryz.f10]) ?_
  (repeat' first | apply Wq | refine Ws hF hτ rfl ?_ | apply Wb | apply Wl | apply Wk | apply We | apply Wc | apply Wd | refine Wt rfl rfl ?_ | refine Wf rfl rfl ?_ | refine Wi rfl rfl (fun h => ?_) (fun h => ?_) | refine Wx hF hτ rfl rfl rfl rfl rfl rfl rfl rfl (fun h => ?_) (fun h => ?_) | apply Wn)
  refine AL.opM (OpM.call hF rfl rfl rfl rfl (f45 hF hro s hs) rfl rfl rfl) rfl rfl ?_
  refine Wv hF hτ rfl ?_
  (repeat' first | apply Wq | refine Ws hF hτ rfl ?_ | apply Wb | apply Wl | apply Wk | apply We | apply Wc | apply Wd | refine Wt rfl rfl ?_ | refine Wf rfl rfl ?_ | refine Wi rfl rfl (fun h => ?_) (fun h => ?_) | refine Wx hF hτ rfl rfl rfl rfl rfl rfl rfl rfl (fun h => ?_) (fun h => ?_) | apply Wn)
  · refine AW.ret ⟨.inr rfl, ?_⟩
    rw [planCheck, if_pos (by simpa using h)]; rfl
  · refine AL.opM (OpM.call hF rfl rfl rfl rfl (f46 hF hro boxes n hb) rfl rfl rfl) rfl rfl ?_
    refine Wv hF hτ rfl ?_
    (repeat' first | apply Wq | refine Ws hF hτ rfl ?_ | apply Wb | apply Wl | apply Wk | apply We | apply Wc | apply Wd | refine Wt rfl rfl ?_ | refine Wf rfl rfl ?_ | refine Wi rfl rfl (fun h => ?_) (fun h => ?_) | refine Wx hF hτ rfl rfl rfl rfl rfl rfl rfl rfl (fun h => ?_) (fun h => ?_) | apply Wn)
    · refine AW.ret ⟨.inr rfl, ?_⟩
      rename_i h1
      rw [planCheck, if_neg (by simpa using h1), if_pos (by simpa using h)]; rfl
    · refine AW.ret ⟨.inr rfl, ?_⟩
      rename_i h1 h2
      rw [planCheck, if_neg (by simpa using h1), if_neg (by simpa using h2), if_pos (by simpa using h)]; rfl
    · rename_i h1 h2
      have hpc : planCheck s boxes n ls = checkFrom s boxes 0 ls := by
        rw [planCheck, if_neg (by simpa using h1), if_neg (by simpa using h2), if_neg (by simpa using h)]
      rw [hpc]
      refine AW.rangeJ hF rfl rfl rfl rfl rfl rfl rfl rfl rfl (ls.map encS).length (by simp [lim]; omega) (fun k => [(.s 28, Vs (ls.map encS)), (.s 4, .bx 35 (s.enc.map .d)), (.s 1, Vs (boxes.map Box.enc))]) (fun k => checkFrom s boxes 0 ls = checkFrom s boxes k (ls.drop k)) rfl ?_ ?_ (fun k hk hJ => ?_) (fun hJ => ?_)
      · exact fun k => rfl
      · (repeat' first | exact Sub.nil | refine Sub.put rfl ?_ | refine Sub.put ?_ ?_)
      · obtain ⟨l, hlk⟩ := get_ex hk
        obtain ⟨hl1, hl2⟩ := hl l (List.mem_of_getElem? hlk)
        rw [checkFrom_drop hlk] at hJ
        (repeat' first | apply Wq | refine Ws hF hτ rfl ?_ | apply Wb | apply Wl | apply Wk | apply We | apply Wn)
        refine AL.opM (OpM.indexD hF rfl (hτ _ _ rfl) rfl (hτ _ _ rfl) rfl (i := k) rfl ( get_enc encS hlk) rfl rfl rfl) rfl rfl ?_
        refine Wv hF hτ rfl ?_
        (repeat' first | apply Wq | refine Ws hF hτ rfl ?_ | apply Wb | apply Wl | apply Wk | apply We | apply Wc | apply Wd | refine Wt rfl rfl ?_ | refine Wf rfl rfl ?_ | refine Wi rfl rfl (fun h => ?_) (fun h => ?_) | refine Wx hF hτ rfl rfl rfl rfl rfl rfl rfl rfl (fun h => ?_) (fun h => ?_) | apply Wn)
        refine AL.opM (OpM.call hF rfl rfl rfl rfl (f47 hF hro s boxes l hs hb hl1 hl2) rfl rfl rfl) rfl rfl ?_
        refine Wv hF hτ rfl ?_
        (repeat' first | apply Wq | refine Ws hF hτ rfl ?_ | apply Wb | apply Wl | apply Wk | apply We | apply Wc | apply Wd | refine Wt rfl rfl ?_ | refine Wf rfl rfl ?_ | refine Wi rfl rfl (fun h => ?_) (fun h => ?_) | refine Wx hF hτ rfl rfl rfl rfl rfl rfl rfl rfl (fun h => ?_) (fun h => ?_) | apply Wn)
        · refine AW.ret ⟨.inr rfl, ?_⟩
          rw [hJ, if_pos (by simpa using h)]; rfl
        · refine AL.opM (OpM.call hF rfl rfl rfl rfl (f49 hF hro boxes k hb) rfl rfl rfl) rfl rfl ?_
          refine AL.ent (Ent.frzs (ls := [.s 44]) rfl) ?_
          refine AL.opM (OpM.call hF rfl rfl rfl rfl (f48 hF hro l (aboard boxes k) hl1 (Nat.le_trans (aboard_len _ _) hb)) rfl rfl rfl) rfl rfl ?_
          refine Wv hF hτ rfl ?_
          (repeat' first | apply Wq | refine Ws hF hτ rfl ?_ | apply Wb | apply Wl | apply Wk | apply We | apply Wc | apply Wd | refine Wt rfl rfl ?_ | refine Wf rfl rfl ?_ | refine Wi rfl rfl (fun h => ?_) (fun h => ?_) | refine Wx hF hτ rfl rfl rfl rfl rfl rfl rfl rfl (fun h => ?_) (fun h => ?_) | apply Wn)
          · refine AW.ret ⟨.inr rfl, ?_⟩
            rename_i h3
            rw [hJ, if_neg (by simpa using h3), if_pos (by simpa using h)]; rfl
          · refine ⟨?_, ?_⟩
            · (repeat' first | exact Sub.nil | refine Sub.put rfl ?_ | refine Sub.put ?_ ?_)
            · rename_i h3
              rw [hJ, if_neg (by simpa using h3), if_neg (by simpa using h)]
      · (repeat' first | apply Wq | refine Ws hF hτ rfl ?_ | apply Wb | apply Wl | apply Wk | apply We | apply Wc | apply Wd | refine Wt rfl rfl ?_ | refine Wf rfl rfl ?_ | refine Wi rfl rfl (fun h => ?_) (fun h => ?_) | refine Wx hF hτ rfl rfl rfl rfl rfl rfl rfl rfl (fun h => ?_) (fun h => ?_) | apply Wn)
        refine AW.ret ⟨.inr rfl, ?_⟩
        rw [hJ, show List.drop (ls.map encS).length ls = [] by simp, checkFrom]
        rfl
end Go.Proofs.VL
namespace Go.Proofs.VL
open Go Go.RowKit
variable {F : Fence}
noncomputable def liftCheck (lft : List Stowed → List Stowed → List Int) (s : Ship) (boxes : List Box) (b a : List Stowed) : List Int × Int :=
  if stowRight s boxes b = false then ([], 2) else if stowRight s boxes a = false then ([], 2) else (lft b a, 0)
set_option maxHeartbeats 2000000 in
theorem f111 (hF : Wide F) (hro : F.round = none) (lft : List Stowed → List Stowed → List Int) (s : Ship) (boxes : List Box) (b a : List Stowed) (hs : s.small) (hbx : boxes.length ≤ 1000) (hb : b.length ≤ 1000) (ha : a.length ≤ 1000) (hbt : ∀ x ∈ b, x.slot.tier ≤ 100000) (hat : ∀ x ∈ a, x.slot.tier ≤ 100000)
    (h53 : stowRight s boxes b = true → stowRight s boxes a = true → FnV Tryz.prog F 53 [Vd s.enc, Vs (b.map Stowed.enc), Vs (a.map Stowed.enc)] (.row true 3 (ints (lft b a)))) :
    FnV Tryz.prog F 111 [Vd s.enc, Vs (boxes.map Box.enc), Vs (b.map Stowed.enc), Vs (a.map Stowed.enc)] (.tu [Vs (ints (liftCheck lft s boxes b a).1), Iv64 (liftCheck lft s boxes b a).2]) := by
  refine FnV.of_AW hF hro hτ Tryz.func111 rfl (by decide) rfl (by simp [Tryz.f111]) ?_
  (repeat' first | apply Wq | refine Ws hF hτ rfl ?_ | apply Wb | apply Wl | apply Wk | apply We | apply Wc | apply Wd | refine Wt rfl rfl ?_ | refine Wf rfl rfl ?_ | refine Wi rfl rfl (fun h => ?_) (fun h => ?_) | refine Wx hF hτ rfl rfl rfl rfl rfl rfl rfl rfl (fun h => ?_) (fun h => ?_) | apply Wn)
  refine AL.opM (OpM.call hF rfl rfl rfl rfl (f47 hF hro s boxes b hs hbx hb hbt) rfl rfl rfl) rfl rfl ?_
  refine Wv hF hτ rfl ?_
  (repeat' first | apply Wq | refine Ws hF hτ rfl ?_ | apply Wb | apply Wl | apply Wk | apply We | apply Wc | apply Wd | refine Wt rfl rfl ?_ | refine Wf rfl rfl ?_ | refine Wi rfl rfl (fun h => ?_) (fun h => ?_) | refine Wx hF hτ rfl rfl rfl rfl rfl rfl rfl rfl (fun h => ?_) (fun h => ?_) | apply Wn)
  · refine AW.ent (Ent.frzs (ls := [.s 8]) rfl) ?_
    refine AW.ret ⟨.inr rfl, ?_⟩
    rw [liftCheck, if_pos (by simpa using h)]; rfl
  · have h1 := h
    refine AL.opMT (OpM.call hF rfl rfl rfl rfl (f47 hF hro s boxes a hs hbx ha hat) rfl rfl rfl) rfl rfl rfl rfl rfl rfl ?_
    refine Wv hF hτ rfl ?_
    (repeat' first | apply Wq | refine Ws hF hτ rfl ?_ | apply Wb | apply Wl | apply Wk | apply We | apply Wc | apply Wd | refine Wt rfl rfl ?_ | refine Wf rfl rfl ?_ | refine Wi rfl rfl (fun h => ?_) (fun h => ?_) | refine Wx hF hτ rfl rfl rfl rfl rfl rfl rfl rfl (fun h => ?_) (fun h => ?_) | apply Wn)
    · refine AW.ent (Ent.frzs (ls := [.s 8]) rfl) ?_
      refine AW.ret ⟨.inr rfl, ?_⟩
      rw [liftCheck, if_neg (by simpa using h1), if_pos (by simpa using h)]; rfl
    · refine AL.opM (OpM.call hF rfl rfl rfl rfl (h53 (by simpa using h1) (by simpa using h)) rfl rfl rfl) rfl rfl ?_
      refine Wv hF hτ rfl ?_
      (repeat' first | apply Wq | refine Ws hF hτ rfl ?_ | apply Wb | apply Wl | apply Wk | apply We | apply Wc | apply Wd | refine Wt rfl rfl ?_ | refine Wf rfl rfl ?_ | refine Wi rfl rfl (fun h => ?_) (fun h => ?_) | refine Wx hF hτ rfl rfl rfl rfl rfl rfl rfl rfl (fun h => ?_) (fun h => ?_) | apply Wn)
      refine AW.ent (Ent.frzs (ls := [.s 8]) rfl) ?_
      refine AW.ret ⟨.inr rfl, ?_⟩
      rw [liftCheck, if_neg (by simpa using h1), if_neg (by simpa using h)]; rfl
noncomputable def callOut (lft : List Stowed → List Stowed → List Int) (s : Ship) (boxes : List Box) (b a : List Stowed) : List Move × Int :=
  if (liftCheck lft s boxes b a).2 ≠ 0 then ([], (liftCheck lft s boxes b a).2) else (callMoves s b a (liftCheck lft s boxes b a).1, 0)
set_option maxHeartbeats 2000000 in
theorem f56 (hF : Wide F) (hro : F.round = none) (lft : List Stowed → List Stowed → List Int) (s : Ship) (boxes : List Box) (b a : List Stowed) (hs : s.small) (hbx : boxes.length ≤ 1000) (hb : b.length ≤ 12) (ha : a.length ≤ 12) (hbt : ∀ x ∈ b, x.slot.tier ≤ 100000) (hat : ∀ x ∈ a, x.slot.tier ≤ 100000)
    (h53 : stowRight s boxes b = true → stowRight s boxes a = true → FnV Tryz.prog F 53 [Vd s.enc, Vs (b.map Stowed.enc), Vs (a.map Stowed.enc)] (.row true 3 (ints (lft b a))))
    (hm : (liftCheck lft s boxes b a).1.length ≤ 1000) (hbn : (liftCheck lft s boxes b a).2 = 0 → ∀ x ∈ b, x.on s) (han : (liftCheck lft s boxes b a).2 = 0 → ∀ x ∈ a, x.on s) (hn : ∀ bay : Int, (rawNeed s b a (liftCheck lft s boxes b a).1 bay).length ≤ 12) :
    FnV Tryz.prog F 56 [Vd s.enc, Vs (boxes.map Box.enc), Vs (b.map Stowed.enc), Vs (a.map Stowed.enc)] (.tu [Vs ((callOut lft s boxes b a).1.map Move.enc), Iv64 (callOut lft s boxes b a).2]) := by
  have h111 := f111 hF hro lft s boxes b a hs hbx (by omega) (by omega) hbt hat h53
  rw [callOut]
  generalize liftCheck lft s boxes b a = q at h111 hm hbn han hn
  refine FnV.of_AW hF hro hτ Tryz.func56 rfl (by decide) rfl (by simp [Tryz.f56]) ?_
  (repeat' first | apply Wq | refine Ws hF hτ rfl ?_ | apply Wb | apply Wl | apply Wk | apply We | apply Wc | apply Wd | refine Wt rfl rfl ?_ | refine Wf rfl rfl ?_ | refine Wi rfl rfl (fun h => ?_) (fun h => ?_) | refine Wx hF hτ rfl rfl rfl rfl rfl rfl rfl rfl (fun h => ?_) (fun h => ?_) | apply Wn)
  refine AL.opM (OpM.call hF rfl rfl rfl rfl (h111) rfl rfl rfl) rfl rfl ?_
  refine Wv hF hτ rfl ?_
  (repeat' first | apply Wq | refine Ws hF hτ rfl ?_ | apply Wb | apply Wl | apply Wk | apply We | apply Wc | apply Wd | refine Wt rfl rfl ?_ | refine Wf rfl rfl ?_ | refine Wi rfl rfl (fun h => ?_) (fun h => ?_) | refine Wx hF hτ rfl rfl rfl rfl rfl rfl rfl rfl (fun h => ?_) (fun h => ?_) | apply Wn)
  · refine AW.ent (Ent.frzs (ls := [.s 8]) rfl) ?_
    refine AW.ret ⟨.inr rfl, ?_⟩
    rw [if_pos (by simpa using h)]; rfl
  · have h0 : q.2 = 0 := by simpa using h
    refine AL.opM (OpM.call hF rfl rfl rfl rfl (f112 hF hro s b a q.1 hs hb ha hm (hbn h0) (han h0) hn) rfl rfl rfl) rfl rfl ?_
    refine Wv hF hτ rfl ?_
    (repeat' first | apply Wq | refine Ws hF hτ rfl ?_ | apply Wb | apply Wl | apply Wk | apply We | apply Wc | apply Wd | refine Wt rfl rfl ?_ | refine Wf rfl rfl ?_ | refine Wi rfl rfl (fun h => ?_) (fun h => ?_) | refine Wx hF hτ rfl rfl rfl rfl rfl rfl rfl rfl (fun h => ?_) (fun h => ?_) | apply Wn)
    refine AW.ent (Ent.frzs (ls := [.s 8]) rfl) ?_
    refine AW.ret ⟨.inr rfl, ?_⟩
    rw [if_neg (by simpa using h)]; rfl
end Go.Proofs.VL
namespace Go.Proofs.VL
open Go Go.RowKit
variable {F : Fence}
def encM (ms : List Move) : List D := [.sl (ms.map Move.enc)]
def prevAt (ls : List (List Stowed)) : Nat → List Stowed
  | 0 => []
  | k + 1 => ls.getD k []
noncomputable def movesTo (lft : List Stowed → List Stowed → List Int) (s : Ship) (boxes : List Box) (ls : List (List Stowed)) (k : Nat) : List (List Move) :=
  (List.range k).map fun i => (callOut lft s boxes (prevAt ls i) (ls.getD i [])).1
noncomputable def voyMoves (lft : List Stowed → List Stowed → List Int) (s : Ship) (boxes : List Box) (n : Int) (ls : List (List Stowed)) : List (List Move) × Int :=
  if (planCheck s boxes n ls).2 ≠ 0 then ([], (planCheck s boxes n ls).2) else (movesTo lft s boxes ls ls.length, 0)
set_option maxHeartbeats 2000000 in
theorem f12 (hF : Wide F) (hro : F.round = none) (lft : List Stowed → List Stowed → List Int) (s : Ship) (boxes : List Box) (n : Int) (ls : List (List Stowed)) (hs : s.small) (hb : boxes.length ≤ 1000) (hls : ls.length ≤ 1000) (hl : ∀ l ∈ ls, l.length ≤ 1000 ∧ ∀ x ∈ l, x.slot.tier ≤ 100000)
    (h56 : (planCheck s boxes n ls).2 = 0 → ∀ k l, ls[k]? = some l → FnV Tryz.prog F 56 [Vd s.enc, Vs (boxes.map Box.enc), Vs ((prevAt ls k).map Stowed.enc), Vs (l.map Stowed.enc)] (.tu [Vs ((callOut lft s boxes (prevAt ls k) l).1.map Move.enc), Iv64 (callOut lft s boxes (prevAt ls k) l).2])) :
    FnV Tryz.prog F 12 [Vd s.enc, Vs (boxes.map Box.enc), Iv64 n, Vd (planEnc ls)] (.tu [Vs ((voyMoves lft s boxes n ls).1.map encM), Iv64 (voyMoves lft s boxes n ls).2]) := by
  have h10 := f10 hF hro s boxes n ls hs hb hls hl
  rw [voyMoves]
  generalize planCheck s boxes n ls = q at h10 h56
  refine FnV.of_AW hF hro hτ Tryz.func12 rfl (by decide) rfl (by simp [Tryz.f12]) ?_
  (repeat' first | apply Wq | refine Ws hF hτ rfl ?_ | apply Wb | apply Wl | apply Wk | apply We | apply Wc | apply Wd | refine Wt rfl rfl ?_ | refine Wf rfl rfl ?_ | refine Wi rfl rfl (fun h => ?_) (fun h => ?_) | refine Wx hF hτ rfl rfl rfl rfl rfl rfl rfl rfl (fun h => ?_) (fun h => ?_) | apply Wn)
  refine AL.opM (OpM.call hF rfl rfl rfl rfl (h10) rfl rfl rfl) rfl rfl ?_
  refine Wv hF hτ rfl ?_
  (repeat' first | apply Wq | refine Ws hF hτ rfl ?_ | apply Wb | apply Wl | apply Wk | apply We | apply Wc | apply Wd | refine Wt rfl rfl ?_ | refine Wf rfl rfl ?_ | refine Wi rfl rfl (fun h => ?_) (fun h => ?_) | refine Wx hF hτ rfl rfl rfl rfl rfl rfl rfl rfl (fun h => ?_) (fun h => ?_) | apply Wn)
  · refine AW.ent (Ent.frzs (ls := [.s 8]) rfl) ?_
    refine AW.ret ⟨.inr rfl, ?_⟩
    rw [if_pos (by simpa using h)]; rfl
  · have h56 := h56 (by simpa using h)
    rw [if_neg (by simpa using h)]
    refine AW.ent (Ent.frzs (ls := [.s 13]) rfl) ?_
    refine AW.range hF rfl rfl rfl rfl rfl rfl rfl rfl rfl (ls.map encS).length (by simp [lim]; omega) (fun k => [(.s 30, Vs (ls.map encS)), (.s 4, .bx 35 (s.enc.map .d)), (.s 1, Vs (boxes.map Box.enc)), (.s 13, Vs ((prevAt ls k).map Stowed.enc)), (.s 12, .row true 64 ((movesTo lft s boxes ls k).map encM))]) ?_ ?_ (fun k hk => ?_) ?_
    · exact fun k => rfl
    · (repeat' first | exact Sub.nil | refine Sub.put rfl ?_ | refine Sub.put ?_ ?_)
    · obtain ⟨l, hlk⟩ := get_ex hk
      have hk' : k < ls.length := by simpa using hk
      have hgl : ls.getD k [] = l := by rw [List.getD_eq_getElem?_getD, hlk]; rfl
      have hsn : movesTo lft s boxes ls (k + 1) = movesTo lft s boxes ls k ++ [(callOut lft s boxes (prevAt ls k) l).1] := by
        rw [movesTo, List.range_succ, List.map_append]; simp [movesTo, hgl, hlk]
      have hpr : prevAt ls (k + 1) = l := hgl
      have hlen : (movesTo lft s boxes ls k).length ≤ 1000 := by simp [movesTo]; omega
      generalize movesTo lft s boxes ls k = acc at hsn hlen
      (repeat' first | apply Wq | refine Ws hF hτ rfl ?_ | apply Wb | apply Wl | apply Wk | apply We | apply Wn)
      refine AL.opM (OpM.indexD hF rfl (hτ _ _ rfl) rfl (hτ _ _ rfl) rfl (i := k) rfl ( get_enc encS hlk) rfl rfl rfl) rfl rfl ?_
      refine Wv hF hτ rfl ?_
      (repeat' first | apply Wq | refine Ws hF hτ rfl ?_ | apply Wb | apply Wl | apply Wk | apply We | apply Wc | apply Wd | refine Wt rfl rfl ?_ | refine Wf rfl rfl ?_ | refine Wi rfl rfl (fun h => ?_) (fun h => ?_) | refine Wx hF hτ rfl rfl rfl rfl rfl rfl rfl rfl (fun h => ?_) (fun h => ?_) | apply Wn)
      refine AL.opM (OpM.call hF rfl rfl rfl rfl (h56 k l hlk) rfl rfl rfl) rfl rfl ?_
      refine Wv hF hτ rfl ?_
      (repeat' first | apply Wq | refine Ws hF hτ rfl ?_ | apply Wb | apply Wl | apply Wk | apply We | apply Wc | apply Wd | refine Wt rfl rfl ?_ | refine Wf rfl rfl ?_ | refine Wi rfl rfl (fun h => ?_) (fun h => ?_) | refine Wx hF hτ rfl rfl rfl rfl rfl rfl rfl rfl (fun h => ?_) (fun h => ?_) | apply Wn)
      refine AL.opM (OpM.buildSlice hF rfl (hτ _ _ rfl) rfl (hτ _ _ rfl) rfl rfl rfl (by decide) (by decide) rfl rfl) rfl rfl ?_
      refine AL.op rfl (OpTo.append hF rfl rfl rfl rfl (hτ _ _ rfl) rfl (hτ _ _ rfl) rfl rfl rfl rfl (by intro cs h; cases h with | head => rfl | tail _ h => cases h) (by simp [Base.xs, chunks, lim]; omega) (by simp [Base.xs, chunks, lim]; omega) rfl rfl rfl) ?_
      refine Wv hF hτ rfl ?_
      (repeat' first | apply Wq | refine Ws hF hτ rfl ?_ | apply Wb | apply Wl | apply Wk | apply We | apply Wc | apply Wd | refine Wt rfl rfl ?_ | refine Wf rfl rfl ?_ | refine Wi rfl rfl (fun h => ?_) (fun h => ?_) | refine Wx hF hτ rfl rfl rfl rfl rfl rfl rfl rfl (fun h => ?_) (fun h => ?_) | apply Wn)
      (repeat' first | exact Sub.nil | refine Sub.put rfl ?_ | refine Sub.put ?_ ?_)
      · rw [hpr]
        rfl
      · refine congrArg (fun z => some (V.row true 64 z)) ?_
        rw [hsn]
        simp [chunks]
        rfl
    · (repeat' first | apply Wq | refine Ws hF hτ rfl ?_ | apply Wb | apply Wl | apply Wk | apply We | apply Wc | apply Wd | refine Wt rfl rfl ?_ | refine Wf rfl rfl ?_ | refine Wi rfl rfl (fun h => ?_) (fun h => ?_) | refine Wx hF hτ rfl rfl rfl rfl rfl rfl rfl rfl (fun h => ?_) (fun h => ?_) | apply Wn)
      refine AW.ent (Ent.frzs (ls := [.s 8]) rfl) ?_
      refine AW.ret ⟨.inr rfl, ?_⟩
      rw [List.length_map]
      rfl
end Go.Proofs.VL
namespace Go.Proofs.VL
open Go Go.RowKit
variable {F : Fence}
def encI (l : List Int) : List D := [.sl (ints l)]
def sumLen (rs : List (List Int)) : Nat := (rs.map List.length).sum
theorem sumLen_snoc (rs : List (List Int)) (r : List Int) : sumLen (rs ++ [r]) = sumLen rs + r.length := by simp [sumLen]
set_option maxHeartbeats 1000000 in
theorem f44 (hF : Wide F) (hro : F.round = none) (s : Ship) (boxes : List Box) (n : Int) (ls : List (List Stowed)) (rs : List (List Int)) (e : Int) (hrs : rs.length ≤ 1000) (hsum : ∀ k, sumLen (rs.take k) ≤ 1000000)
    (h11 : FnV Tryz.prog F 11 [Vd s.enc, Vs (boxes.map Box.enc), Iv64 n, Vd (planEnc ls)] (.tu [Vs (rs.map encI), Iv64 e])) :
    FnV Tryz.prog F 44 [Vd s.enc, Vs (boxes.map Box.enc), Iv64 n, Vd (planEnc ls)] (.tu [Iv64 (sumLen rs), Iv64 e]) := by
  refine FnV.of_AW hF hro hτ Tryz.func44 rfl (by decide) rfl (by simp [Tryz.f44]) ?_
  (repeat' first | apply Wq | refine Ws hF hτ rfl ?_ | apply Wb | apply Wl | apply Wk | apply We | apply Wc | apply Wd | refine Wt rfl rfl ?_ | refine Wf rfl rfl ?_ | refine Wi rfl rfl (fun h => ?_) (fun h => ?_) | refine Wx hF hτ rfl rfl rfl rfl rfl rfl rfl rfl (fun h => ?_) (fun h => ?_) | apply Wn)
  refine AL.opM (OpM.call hF rfl rfl rfl rfl (h11) rfl rfl rfl) rfl rfl ?_
  refine Wv hF hτ rfl ?_
  (repeat' first | apply Wq | refine Ws hF hτ rfl ?_ | apply Wb | apply Wl | apply Wk | apply We | apply Wc | apply Wd | refine Wt rfl rfl ?_ | refine Wf rfl rfl ?_ | refine Wi rfl rfl (fun h => ?_) (fun h => ?_) | refine Wx hF hτ rfl rfl rfl rfl rfl rfl rfl rfl (fun h => ?_) (fun h => ?_) | apply Wn)
  refine AW.range hF rfl rfl rfl rfl rfl rfl rfl rfl rfl (rs.map encI).length (by simp [lim]; omega) (fun k => [(.s 23, Vs (rs.map encI)), (.s 11, Iv64 e), (.s 12, Iv64 (sumLen (rs.take k)))]) ?_ ?_ (fun k hk => ?_) ?_
  · exact fun k => rfl
  · (repeat' first | exact Sub.nil | refine Sub.put rfl ?_ | refine Sub.put ?_ ?_)
  · obtain ⟨r, hr⟩ := get_ex hk
    have hsn : sumLen (rs.take (k + 1)) = sumLen (rs.take k) + r.length := by rw [take_snoc hr, sumLen_snoc]
    have hb := hsum (k + 1)
    (repeat' first | apply Wq | refine Ws hF hτ rfl ?_ | apply Wb | apply Wl | apply Wk | apply We | apply Wn)
    refine AL.opM (OpM.indexD hF rfl (hτ _ _ rfl) rfl (hτ _ _ rfl) rfl (i := k) rfl ( get_enc encI hr) rfl rfl rfl) rfl rfl ?_
    refine Wv hF hτ rfl ?_
    (repeat' first | apply Wq | refine Ws hF hτ rfl ?_ | apply Wb | apply Wl | apply Wk | apply We | apply Wc | apply Wd | refine Wt rfl rfl ?_ | refine Wf rfl rfl ?_ | refine Wi rfl rfl (fun h => ?_) (fun h => ?_) | refine Wx hF hτ rfl rfl rfl rfl rfl rfl rfl rfl (fun h => ?_) (fun h => ?_) | apply Wn)
    (repeat' first | exact Sub.nil | refine Sub.put rfl ?_ | refine Sub.put ?_ ?_)
    refine congrArg (fun z => some (Iv64 z)) ?_
    rw [hsn] at hb ⊢
    rw [show (ints r).length = r.length by simp [ints]]
    rw [wrap_id (by omega) (by omega)]
    omega
  · (repeat' first | apply Wq | refine Ws hF hτ rfl ?_ | apply Wb | apply Wl | apply Wk | apply We | apply Wc | apply Wd | refine Wt rfl rfl ?_ | refine Wf rfl rfl ?_ | refine Wi rfl rfl (fun h => ?_) (fun h => ?_) | refine Wx hF hτ rfl rfl rfl rfl rfl rfl rfl rfl (fun h => ?_) (fun h => ?_) | apply Wn)
    refine AW.ret ⟨.inr rfl, ?_⟩
    rw [show List.take (rs.map encI).length rs = rs by simp]
    rfl
end Go.Proofs.VL
namespace Go.Proofs.VL
open Go Go.RowKit
variable {F : Fence}
theorem f54 (hF : Wide F) (hro : F.round = none) (b a : List Stowed) (id : Int) (hb : b.length ≤ 1000) (ha : a.length ≤ 1000) :
    FnV Tryz.prog F 54 [Iv64 id, .rp [.sl (b.map Stowed.enc)] 0, .rp [.sl (a.map Stowed.enc)] 0] (Vb (!(slotOf b id).isSome || !(slotOf a id).isSome)) := by
  refine FnV.of_AW hF hro hτ Tryz.func54 rfl (by decide) rfl (by simp [Tryz.f54]) ?_
  (repeat' first | apply Wq | refine Ws hF hτ rfl ?_ | apply Wb | apply Wl | apply Wk | apply We | apply Wc | apply Wd | refine Wt rfl rfl ?_ | refine Wf rfl rfl ?_ | refine Wi rfl rfl (fun h => ?_) (fun h => ?_) | refine Wx hF hτ rfl rfl rfl rfl rfl rfl rfl rfl (fun h => ?_) (fun h => ?_) | apply Wn)
  refine AL.opM (OpM.call hF rfl rfl rfl rfl (f55 hF hro b id hb) rfl rfl rfl) rfl rfl ?_
  refine Wv hF hτ rfl ?_
  (repeat' first | apply Wq | refine Ws hF hτ rfl ?_ | apply Wb | apply Wl | apply Wk | apply We | apply Wc | apply Wd | refine Wt rfl rfl ?_ | refine Wf rfl rfl ?_ | refine Wi rfl rfl (fun h => ?_) (fun h => ?_) | refine Wx hF hτ rfl rfl rfl rfl rfl rfl rfl rfl (fun h => ?_) (fun h => ?_) | apply Wn)
  refine AL.opM (OpM.call hF rfl rfl rfl rfl (f55 hF hro a id ha) rfl rfl rfl) rfl rfl ?_
  refine Wv hF hτ rfl ?_
  (repeat' first | apply Wq | refine Ws hF hτ rfl ?_ | apply Wb | apply Wl | apply Wk | apply We | apply Wc | apply Wd | refine Wt rfl rfl ?_ | refine Wf rfl rfl ?_ | refine Wi rfl rfl (fun h => ?_) (fun h => ?_) | refine Wx hF hτ rfl rfl rfl rfl rfl rfl rfl rfl (fun h => ?_) (fun h => ?_) | apply Wn)
  · refine AW.ent (Ent.imp (l := .s 4) rfl Imp.kt) ?_
    refine AW.ret ⟨.inr rfl, congrArg (fun z => some (Vb z)) ?_⟩
    rw [h, Bool.true_or]
  · refine AW.ret ⟨.inr rfl, congrArg (fun z => some (Vb z)) ?_⟩
    rw [h, Bool.false_or]
abbrev LSt := List Int × List Int
def liftEnv (s : Ship) (b a : List Stowed) (st : LSt) : Env :=
  [(.s 1, .bx 206 [.ref (.c 1 0)]), (.s 2, .bx 63 [.ref (.c 2 0)]), (.s 3, .bx 38 [.d (.sl ([b, a].map encS))]), (.s 4, .bx 35 (s.enc.map .d)), (.s 5, .bx 207 [.fn 105 [.ref (.s 1), .ref (.s 2), .ref (.s 3), .ref (.s 4), .ref (.s 5)]]), (.c 1 0, mpS st.1), (.c 2 0, .row true 3 (ints st.2))]
def coverIf (s : Ship) (x : Slot) : Int := if (colAt s ⟨0, x⟩).deck then -1 else coverOf s (colAt s ⟨0, x⟩)
def overOne (G : Int → LSt → LSt) (x : Slot) (st : LSt) (y : Stowed) : LSt := if y.slot.over x then G y.box st else st
def coverOne (s : Ship) (G : Int → LSt → LSt) (c : Int) (st : LSt) (y : Stowed) : LSt := if (decide (0 ≤ c) && (colAt s y).deck) && coverOf s (colAt s y) == c then G y.box st else st
def liftFrom (s : Ship) (b a : List Stowed) (G : Int → LSt → LSt) (id : Int) (st : LSt) (l : List Stowed) : LSt := match slotOf l id with
  | none => st
  | some x => [b, a].foldl (fun st l2 => l2.foldl (coverOne s G (coverIf s x)) st) (l.foldl (overOne G x) st)
def liftBody (s : Ship) (b a : List Stowed) (G : Int → LSt → LSt) (id : Int) (st : LSt) : LSt :=
  if st.1.any (fun y => y == id) then st else [b, a].foldl (liftFrom s b a G id) (st.1 ++ [id], st.2 ++ [id])
set_option maxHeartbeats 4000000 in
theorem f105x (hF : Wide F) (hro : F.round = none) (s : Ship) (b a : List Stowed) (hs : s.small) (hb : b.length ≤ 12) (ha : a.length ≤ 12) (hbo : ∀ x ∈ b, x.on s) (hao : ∀ x ∈ a, x.on s) (G : Int → LSt → LSt) (Inv : LSt → Prop)
    (hG : ∀ (l : List Stowed) (y : Stowed) (st1 : LSt), l ∈ [b, a] → y ∈ l → Inv st1 → FnX Tryz.prog F 105 6 ((.s 0, Iv64 y.box) :: liftEnv s b a st1) (.tu []) (liftEnv s b a (G y.box st1)) ∧ Inv (G y.box st1))
    (st : LSt) (id : Int) (hst : st.2.length ≤ 1000) (hI : st.1.any (fun y => y == id) = false → Inv (st.1 ++ [id], st.2 ++ [id])) :
    FnX Tryz.prog F 105 6 ((.s 0, Iv64 id) :: liftEnv s b a st) (.tu []) (liftEnv s b a (liftBody s b a G id st)) := by
  have hlist : ∀ l ∈ [b, a], l.length ≤ 12 ∧ ∀ x ∈ l, x.on s := by
    intro l hl
    simp at hl
    rcases hl with rfl | rfl
    · exact ⟨hb, hbo⟩
    · exact ⟨ha, hao⟩
  refine FnX.of_AW hF hro hτ (K := [1, 2, 3, 4, 5]) Tryz.func105 rfl (by decide) rfl (Nat.le_of_ble_eq_true rfl) rfl rfl ?_
  show AW Tryz.prog F Tryz.f105.ntmps [1, 2, 3, 4, 5] _ _ [(.s 0, Iv64 id), (.s 1, .bx 206 [.ref (.c 1 0)]), (.s 2, .bx 63 [.ref (.c 2 0)]), (.s 3, .bx 38 [.d (.sl ([b, a].map encS))]), (.s 4, .bx 35 (s.enc.map .d)), (.s 5, .bx 207 [.fn 105 [.ref (.s 1), .ref (.s 2), .ref (.s 3), .ref (.s 4), .ref (.s 5)]]), (.c 1 0, mpS st.1), (.c 2 0, .row true 3 (ints st.2))]
  (repeat' first | apply Wq | refine Ws hF hτ rfl ?_ | apply Wb | apply Wl | apply Wk | apply We | apply Wc | apply Wd | refine Wt rfl rfl ?_ | refine Wf rfl rfl ?_ | refine Wi rfl rfl (fun h => ?_) (fun h => ?_) | refine Wx hF hτ rfl rfl rfl rfl rfl rfl rfl rfl (fun h => ?_) (fun h => ?_) | apply Wn)
  refine AL.op rfl (OpTo.callX hF rfl rfl rfl rfl rfl rfl rfl (f106 hF hro st.1 id) rfl rfl rfl rfl rfl) ?_
  refine Wv hF hτ rfl ?_
  (repeat' first | apply Wq | refine Ws hF hτ rfl ?_ | apply Wb | apply Wl | apply Wk | apply We | apply Wc | apply Wd | refine Wt rfl rfl ?_ | refine Wf rfl rfl ?_ | refine Wi rfl rfl (fun h => ?_) (fun h => ?_) | refine Wx hF hτ rfl rfl rfl rfl rfl rfl rfl rfl (fun h => ?_) (fun h => ?_) | apply Wn)
  · have h1 : st.1.any (fun y => y == id) = true := by simpa using h
    refine AW.ret ⟨.inr rfl, rfl, ?_⟩
    rw [liftBody, if_pos h1]
    (repeat' first | exact Sub.nil | refine Sub.put rfl ?_ | refine Sub.put ?_ ?_)
    rw [addTo, if_pos h1]; rfl
  · have h1 : st.1.any (fun y => y == id) = false := by simpa using h
    have hnb : liftBody s b a G id st = [b, a].foldl (liftFrom s b a G id) (st.1 ++ [id], st.2 ++ [id]) := by rw [liftBody, if_neg (by rw [h1]; decide)]
    rw [hnb]
    refine AL.opM (OpM.buildSlice hF rfl (hτ _ _ rfl) rfl (hτ _ _ rfl) rfl rfl rfl (by decide) (by decide) rfl rfl) rfl rfl ?_
    refine AL.op rfl (OpTo.append hF rfl rfl rfl rfl (hτ _ _ rfl) rfl (hτ _ _ rfl) rfl rfl rfl rfl (by intro cs h; cases h with | head => rfl | tail _ h => cases h) (by simp [Base.xs, ints, chunks, lim]; omega) (by simp [Base.xs, ints, chunks, lim]; omega) rfl rfl rfl) ?_
    refine Wv hF hτ rfl ?_
    (repeat' first | apply Wq | refine Ws hF hτ rfl ?_ | apply Wb | apply Wl | apply Wk | apply We | apply Wc | apply Wd | refine Wt rfl rfl ?_ | refine Wf rfl rfl ?_ | refine Wi rfl rfl (fun h => ?_) (fun h => ?_) | refine Wx hF hτ rfl rfl rfl rfl rfl rfl rfl rfl (fun h => ?_) (fun h => ?_) | apply Wn)
    refine AW.rangeJ hF rfl rfl rfl rfl rfl rfl rfl rfl rfl 2 (by decide) (fun k => [(.s 0, Iv64 id), (.s 1, .bx 206 [.ref (.c 1 0)]), (.c 1 0, mpS (([b, a].take k).foldl (liftFrom s b a G id) (st.1 ++ [id], st.2 ++ [id])).1), (.s 2, .bx 63 [.ref (.c 2 0)]), (.c 2 0, .row true 3 (ints (([b, a].take k).foldl (liftFrom s b a G id) (st.1 ++ [id], st.2 ++ [id])).2)), (.s 3, .bx 38 [.d (.sl ([b, a].map encS))]), (.s 4, .bx 35 (s.enc.map .d)), (.s 5, .bx 207 [.fn 105 [.ref (.s 1), .ref (.s 2), .ref (.s 3), .ref (.s 4), .ref (.s 5)]]), (.s 26, Vs ([b, a].map encS))]) (fun k => Inv (([b, a].take k).foldl (liftFrom s b a G id) (st.1 ++ [id], st.2 ++ [id]))) (hI h1) ?_ ?_ (fun k hk hJ => ?_) (fun hJ => ?_)
    · exact fun k => rfl
    · (repeat' first | exact Sub.nil | refine Sub.put rfl ?_ | refine Sub.put ?_ ?_)
      · refine congrArg (fun z => some (mpS z)) ?_
        rw [addTo, if_neg (by rw [h1]; decide)]
        rfl
      · refine congrArg (fun z => some (V.row true 3 z)) ?_
        simp [ints, chunks]
    · obtain ⟨l, hl⟩ : ∃ l, [b, a][k]? = some l := ⟨_, List.getElem?_eq_getElem (by simpa using hk)⟩
      obtain ⟨hll, hlo⟩ := hlist l (List.mem_of_getElem? hl)
      have hsn : ([b, a].take (k + 1)).foldl (liftFrom s b a G id) (st.1 ++ [id], st.2 ++ [id]) = liftFrom s b a G id (([b, a].take k).foldl (liftFrom s b a G id) (st.1 ++ [id], st.2 ++ [id])) l := by
        rw [take_snoc hl, List.foldl_append]; rfl
      generalize ([b, a].take k).foldl (liftFrom s b a G id) (st.1 ++ [id], st.2 ++ [id]) = s1 at hsn hJ
      (repeat' first | apply Wq | refine Ws hF hτ rfl ?_ | apply Wb | apply Wl | apply Wk | apply We | apply Wn)
      refine AL.opM (OpM.indexD hF rfl (hτ _ _ rfl) rfl (hτ _ _ rfl) rfl (i := k) rfl ( get_enc encS hl) rfl rfl rfl) rfl rfl ?_
      refine Wv hF hτ rfl ?_
      (repeat' first | apply Wq | refine Ws hF hτ rfl ?_ | apply Wb | apply Wl | apply Wk | apply We | apply Wc | apply Wd | refine Wt rfl rfl ?_ | refine Wf rfl rfl ?_ | refine Wi rfl rfl (fun h => ?_) (fun h => ?_) | refine Wx hF hτ rfl rfl rfl rfl rfl rfl rfl rfl (fun h => ?_) (fun h => ?_) | apply Wn)
      refine AL.opM (OpM.call hF rfl rfl rfl rfl (f55 hF hro l id (by omega)) rfl rfl rfl) rfl rfl ?_
      refine Wv hF hτ rfl ?_
      (repeat' first | apply Wq | refine Ws hF hτ rfl ?_ | apply Wb | apply Wl | apply Wk | apply We | apply Wc | apply Wd | refine Wt rfl rfl ?_ | refine Wf rfl rfl ?_ | refine Wi rfl rfl (fun h => ?_) (fun h => ?_) | refine Wx hF hτ rfl rfl rfl rfl rfl rfl rfl rfl (fun h => ?_) (fun h => ?_) | apply Wn)
      · have h0 : slotOf l id = none := by simpa using h
        have hlf : liftFrom s b a G id s1 l = s1 := by rw [liftFrom, h0]
        rw [hsn, hlf]
        refine ⟨?_, hJ⟩
        (repeat' first | exact Sub.nil | refine Sub.put rfl ?_ | refine Sub.put ?_ ?_)
      · obtain ⟨x, hx⟩ : ∃ x, slotOf l id = some x := by
          cases hq : slotOf l id with
          | none => rw [hq] at h; cases h
          | some x => exact ⟨x, rfl⟩
        rw [hx]
        have hxon : (⟨0, x⟩ : Stowed).on s := by
          rw [slotOf, Option.map_eq_some_iff] at hx
          obtain ⟨y, hy1, rfl⟩ := hx
          exact hlo y (List.mem_of_find?_eq_some hy1)
        obtain ⟨q, hq1, hq2⟩ := hxon
        obtain ⟨c, hc⟩ : ∃ c, s.cols[q]? = some c := ⟨_, List.getElem?_eq_getElem hq2⟩
        have hcol : colAt s ⟨0, x⟩ = c := by rw [colAt, hq1, List.getD_eq_getElem?_getD]; show (s.cols[q]?).getD noCol = c; rw [hc]; rfl
        have hlf : liftFrom s b a G id s1 l = [b, a].foldl (fun st l2 => l2.foldl (coverOne s G (coverIf s x)) st) (l.foldl (overOne G x) s1) := by rw [liftFrom, hx]
        have hci : coverIf s x = if c.deck then -1 else coverOf s c := by rw [coverIf, hcol]
        have h107 := f107 hF hro s q c hc hs
        rw [← hq1] at h107
        rw [hlf] at hsn
        refine AL.opM (OpM.indexD hF rfl (hτ _ _ rfl) rfl (hτ _ _ rfl) rfl (i := q) (by exact congrArg (fun z => some (IntKind.i64, z)) hq1) (get_enc Column.enc hc) rfl rfl rfl) rfl rfl ?_
        refine Wv hF hτ rfl ?_
        refine AL.nil ?_
        refine AW.to [(.s 0, Iv64 id), (.s 1, .bx 206 [.ref (.c 1 0)]), (.c 1 0, mpS (s1).1), (.s 2, .bx 63 [.ref (.c 2 0)]), (.c 2 0, .row true 3 (ints (s1).2)), (.s 3, .bx 38 [.d (.sl ([b, a].map encS))]), (.s 4, .bx 35 (s.enc.map .d)), (.s 5, .bx 207 [.fn 105 [.ref (.s 1), .ref (.s 2), .ref (.s 3), .ref (.s 4), .ref (.s 5)]]), (.s 26, Vs ([b, a].map encS)), (.s 27, Iv64 2), (.s 28, Iv64 k), (.s 8, Vs (l.map Stowed.enc)), (.s 9, .bx 88 (x.enc.map .d)), (.s 11, Iv64 (coverIf s x))] rfl ?_ ?_
        · (repeat' first | apply Wq | refine Ws hF hτ rfl ?_ | apply Wb | apply Wl | apply Wk | apply We | apply Wc | apply Wd | refine Wt rfl rfl ?_ | refine Wf rfl rfl ?_ | refine Wi rfl rfl (fun h => ?_) (fun h => ?_) | refine Wx hF hτ rfl rfl rfl rfl rfl rfl rfl rfl (fun h => ?_) (fun h => ?_) | apply Wn)
          · refine AL.opM (OpM.call hF rfl rfl rfl rfl (h107) rfl rfl rfl) rfl rfl ?_
            refine Wv hF hτ rfl ?_
            (repeat' first | apply Wq | refine Ws hF hτ rfl ?_ | apply Wb | apply Wl | apply Wk | apply We | apply Wc | apply Wd | refine Wt rfl rfl ?_ | refine Wf rfl rfl ?_ | refine Wi rfl rfl (fun h => ?_) (fun h => ?_) | refine Wx hF hτ rfl rfl rfl rfl rfl rfl rfl rfl (fun h => ?_) (fun h => ?_) | apply Wn)
            (repeat' first | exact Sub.nil | refine Sub.put rfl ?_ | refine Sub.put ?_ ?_)
            rw [hci, if_neg (by simpa using h)]
            rfl
          · (repeat' first | exact Sub.nil | refine Sub.put rfl ?_ | refine Sub.put ?_ ?_)
            rw [hci, if_pos (by simpa using h)]
            rfl
        generalize coverIf s x = cov at hsn
        (repeat' first | apply Wq | refine Ws hF hτ rfl ?_ | apply Wb | apply Wl | apply Wk | apply We | apply Wc | apply Wd | refine Wt rfl rfl ?_ | refine Wf rfl rfl ?_ | refine Wi rfl rfl (fun h => ?_) (fun h => ?_) | refine Wx hF hτ rfl rfl rfl rfl rfl rfl rfl rfl (fun h => ?_) (fun h => ?_) | apply Wn)
        refine AW.rangeJ hF rfl rfl rfl rfl rfl rfl rfl rfl rfl (l.map Stowed.enc).length (by simp [lim]; omega) (fun j => [(.s 0, Iv64 id), (.s 1, .bx 206 [.ref (.c 1 0)]), (.c 1 0, mpS ((l.take j).foldl (overOne G x) s1).1), (.s 2, .bx 63 [.ref (.c 2 0)]), (.c 2 0, .row true 3 (ints ((l.take j).foldl (overOne G x) s1).2)), (.s 3, .bx 38 [.d (.sl ([b, a].map encS))]), (.s 4, .bx 35 (s.enc.map .d)), (.s 5, .bx 207 [.fn 105 [.ref (.s 1), .ref (.s 2), .ref (.s 3), .ref (.s 4), .ref (.s 5)]]), (.s 26, Vs ([b, a].map encS)), (.s 27, Iv64 2), (.s 28, Iv64 k), (.s 52, Vs (l.map Stowed.enc)), (.s 9, .bx 88 (x.enc.map .d)), (.s 11, Iv64 cov)]) (fun j => Inv ((l.take j).foldl (overOne G x) s1)) hJ ?_ ?_ (fun j hj hJ2 => ?_) (fun hJ2 => ?_)
        · exact fun k => rfl
        · (repeat' first | exact Sub.nil | refine Sub.put rfl ?_ | refine Sub.put ?_ ?_)
        · obtain ⟨y, hy⟩ := get_ex hj
          have hsn2 : (l.take (j + 1)).foldl (overOne G x) s1 = overOne G x ((l.take j).foldl (overOne G x) s1) y := by rw [take_snoc hy, List.foldl_append]; rfl
          rw [hsn2]
          generalize (l.take j).foldl (overOne G x) s1 = s2 at hJ2
          obtain ⟨g1, g2⟩ := hG l y s2 (List.mem_of_getElem? hl) (List.mem_of_getElem? hy) hJ2
          simp only [liftEnv] at g1
          (repeat' first | apply Wq | refine Ws hF hτ rfl ?_ | apply Wb | apply Wl | apply Wk | apply We | apply Wn)
          refine AL.opM (OpM.indexD hF rfl (hτ _ _ rfl) rfl (hτ _ _ rfl) rfl (i := j) rfl ( get_enc Stowed.enc hy) rfl rfl rfl) rfl rfl ?_
          refine Wv hF hτ rfl ?_
          (repeat' first | apply Wq | refine Ws hF hτ rfl ?_ | apply Wb | apply Wl | apply Wk | apply We | apply Wc | apply Wd | refine Wt rfl rfl ?_ | refine Wf rfl rfl ?_ | refine Wi rfl rfl (fun h => ?_) (fun h => ?_) | refine Wx hF hτ rfl rfl rfl rfl rfl rfl rfl rfl (fun h => ?_) (fun h => ?_) | apply Wn)
          refine AL.opM (OpM.call hF rfl rfl rfl rfl (f108 hF hro y.slot x) rfl rfl rfl) rfl rfl ?_
          refine Wv hF hτ rfl ?_
          (repeat' first | apply Wq | refine Ws hF hτ rfl ?_ | apply Wb | apply Wl | apply Wk | apply We | apply Wc | apply Wd | refine Wt rfl rfl ?_ | refine Wf rfl rfl ?_ | refine Wi rfl rfl (fun h => ?_) (fun h => ?_) | refine Wx hF hτ rfl rfl rfl rfl rfl rfl rfl rfl (fun h => ?_) (fun h => ?_) | apply Wn)
          · refine AL.op rfl (OpTo.callX hF rfl rfl rfl rfl rfl rfl rfl (g1) rfl rfl rfl rfl rfl) ?_
            refine Wv hF hτ rfl ?_
            (repeat' first | apply Wq | refine Ws hF hτ rfl ?_ | apply Wb | apply Wl | apply Wk | apply We | apply Wc | apply Wd | refine Wt rfl rfl ?_ | refine Wf rfl rfl ?_ | refine Wi rfl rfl (fun h => ?_) (fun h => ?_) | refine Wx hF hτ rfl rfl rfl rfl rfl rfl rfl rfl (fun h => ?_) (fun h => ?_) | apply Wn)
            have ho : overOne G x s2 y = G y.box s2 := by rw [overOne, if_pos h]
            rw [ho]
            refine ⟨?_, g2⟩
            (repeat' first | exact Sub.nil | refine Sub.put rfl ?_ | refine Sub.put ?_ ?_)
          · have ho : overOne G x s2 y = s2 := by rw [overOne, if_neg (by rw [h]; decide)]
            rw [ho]
            refine ⟨?_, hJ2⟩
            (repeat' first | exact Sub.nil | refine Sub.put rfl ?_ | refine Sub.put ?_ ?_)
        · rw [show List.take (l.map Stowed.enc).length l = l by simp] at hJ2 ⊢
          generalize l.foldl (overOne G x) s1 = s2 at hJ2 hsn
          (repeat' first | apply Wq | refine Ws hF hτ rfl ?_ | apply Wb | apply Wl | apply Wk | apply We | apply Wc | apply Wd | refine Wt rfl rfl ?_ | refine Wf rfl rfl ?_ | refine Wi rfl rfl (fun h => ?_) (fun h => ?_) | refine Wx hF hτ rfl rfl rfl rfl rfl rfl rfl rfl (fun h => ?_) (fun h => ?_) | apply Wn)
          refine AW.rangeJ hF rfl rfl rfl rfl rfl rfl rfl rfl rfl 2 (by decide) (fun m => [(.s 0, Iv64 id), (.s 1, .bx 206 [.ref (.c 1 0)]), (.c 1 0, mpS (([b, a].take m).foldl (fun st l2 => l2.foldl (coverOne s G cov) st) s2).1), (.s 2, .bx 63 [.ref (.c 2 0)]), (.c 2 0, .row true 3 (ints (([b, a].take m).foldl (fun st l2 => l2.foldl (coverOne s G cov) st) s2).2)), (.s 3, .bx 38 [.d (.sl ([b, a].map encS))]), (.s 4, .bx 35 (s.enc.map .d)), (.s 5, .bx 207 [.fn 105 [.ref (.s 1), .ref (.s 2), .ref (.s 3), .ref (.s 4), .ref (.s 5)]]), (.s 26, Vs ([b, a].map encS)), (.s 27, Iv64 2), (.s 28, Iv64 k), (.s 67, Vs ([b, a].map encS)), (.s 11, Iv64 cov)]) (fun m => Inv (([b, a].take m).foldl (fun st l2 => l2.foldl (coverOne s G cov) st) s2)) hJ2 ?_ ?_ (fun m hm hJ3 => ?_) (fun hJ3 => ?_)
          · exact fun k => rfl
          · (repeat' first | exact Sub.nil | refine Sub.put rfl ?_ | refine Sub.put ?_ ?_)
          · obtain ⟨l2, hl2⟩ : ∃ l, [b, a][m]? = some l := ⟨_, List.getElem?_eq_getElem (by simpa using hm)⟩
            obtain ⟨hll2, hlo2⟩ := hlist l2 (List.mem_of_getElem? hl2)
            have hsn3 : ([b, a].take (m + 1)).foldl (fun st l2 => l2.foldl (coverOne s G cov) st) s2 = l2.foldl (coverOne s G cov) (([b, a].take m).foldl (fun st l2 => l2.foldl (coverOne s G cov) st) s2) := by
              rw [take_snoc hl2, List.foldl_append]; rfl
            rw [hsn3]
            generalize ([b, a].take m).foldl (fun st l2 => l2.foldl (coverOne s G cov) st) s2 = s3 at hJ3
            (repeat' first | apply Wq | refine Ws hF hτ rfl ?_ | apply Wb | apply Wl | apply Wk | apply We | apply Wn)
            refine AL.opM (OpM.indexD hF rfl (hτ _ _ rfl) rfl (hτ _ _ rfl) rfl (i := m) rfl ( get_enc encS hl2) rfl rfl rfl) rfl rfl ?_
            refine Wv hF hτ rfl ?_
            (repeat' first | apply Wq | refine Ws hF hτ rfl ?_ | apply Wb | apply Wl | apply Wk | apply We | apply Wc | apply Wd | refine Wt rfl rfl ?_ | refine Wf rfl rfl ?_ | refine Wi rfl rfl (fun h => ?_) (fun h => ?_) | refine Wx hF hτ rfl rfl rfl rfl rfl rfl rfl rfl (fun h => ?_) (fun h => ?_) | apply Wn)
            refine AW.rangeJ hF rfl rfl rfl rfl rfl rfl rfl rfl rfl (l2.map Stowed.enc).length (by simp [lim]; omega) (fun j => [(.s 0, Iv64 id), (.s 1, .bx 206 [.ref (.c 1 0)]), (.c 1 0, mpS ((l2.take j).foldl (coverOne s G cov) s3).1), (.s 2, .bx 63 [.ref (.c 2 0)]), (.c 2 0, .row true 3 (ints ((l2.take j).foldl (coverOne s G cov) s3).2)), (.s 3, .bx 38 [.d (.sl ([b, a].map encS))]), (.s 4, .bx 35 (s.enc.map .d)), (.s 5, .bx 207 [.fn 105 [.ref (.s 1), .ref (.s 2), .ref (.s 3), .ref (.s 4), .ref (.s 5)]]), (.s 26, Vs ([b, a].map encS)), (.s 27, Iv64 2), (.s 28, Iv64 k), (.s 67, Vs ([b, a].map encS)), (.s 11, Iv64 cov), (.s 69, Iv64 m), (.s 68, Iv64 2), (.s 73, Vs (l2.map Stowed.enc))]) (fun j => Inv ((l2.take j).foldl (coverOne s G cov) s3)) hJ3 ?_ ?_ (fun j hj hJ4 => ?_) (fun hJ4 => ?_)
            · exact fun k => rfl
            · (repeat' first | exact Sub.nil | refine Sub.put rfl ?_ | refine Sub.put ?_ ?_)
            · obtain ⟨y, hy⟩ := get_ex hj
              have hsn4 : (l2.take (j + 1)).foldl (coverOne s G cov) s3 = coverOne s G cov ((l2.take j).foldl (coverOne s G cov) s3) y := by rw [take_snoc hy, List.foldl_append]; rfl
              rw [hsn4]
              generalize (l2.take j).foldl (coverOne s G cov) s3 = s4 at hJ4
              obtain ⟨g1, g2⟩ := hG l2 y s4 (List.mem_of_getElem? hl2) (List.mem_of_getElem? hy) hJ4
              simp only [liftEnv] at g1
              obtain ⟨p, hp1, hp2⟩ := hlo2 y (List.mem_of_getElem? hy)
              obtain ⟨d, hd⟩ : ∃ c, s.cols[p]? = some c := ⟨_, List.getElem?_eq_getElem hp2⟩
              have hcd : colAt s y = d := by rw [colAt, hp1, List.getD_eq_getElem?_getD]; show (s.cols[p]?).getD noCol = d; rw [hd]; rfl
              have h107b := f107 hF hro s p d hd hs
              rw [← hp1] at h107b
              have hone : coverOne s G cov s4 y = if (decide (0 ≤ cov) && d.deck) && coverOf s d == cov then G y.box s4 else s4 := by rw [coverOne, hcd]
              rw [hone]
              (repeat' first | apply Wq | refine Ws hF hτ rfl ?_ | apply Wb | apply Wl | apply Wk | apply We | apply Wn)
              refine AL.opM (OpM.indexD hF rfl (hτ _ _ rfl) rfl (hτ _ _ rfl) rfl (i := j) rfl ( get_enc Stowed.enc hy) rfl rfl rfl) rfl rfl ?_
              refine Wv hF hτ rfl ?_
              (repeat' first | apply Wq | refine Ws hF hτ rfl ?_ | apply Wb | apply Wl | apply Wk | apply We | apply Wc | apply Wd | refine Wt rfl rfl ?_ | refine Wf rfl rfl ?_ | refine Wi rfl rfl (fun h => ?_) (fun h => ?_) | refine Wx hF hτ rfl rfl rfl rfl rfl rfl rfl rfl (fun h => ?_) (fun h => ?_) | apply Wn)
              · refine AL.opMT (OpM.indexD hF rfl (hτ _ _ rfl) rfl (hτ _ _ rfl) rfl (i := p) (by exact congrArg (fun z => some (IntKind.i64, z)) hp1) (get_enc Column.enc hd) rfl rfl rfl) rfl rfl rfl rfl rfl rfl ?_
                refine Wv hF hτ rfl ?_
                (repeat' first | apply Wq | refine Ws hF hτ rfl ?_ | apply Wb | apply Wl | apply Wk | apply We | apply Wc | apply Wd | refine Wt rfl rfl ?_ | refine Wf rfl rfl ?_ | refine Wi rfl rfl (fun h => ?_) (fun h => ?_) | refine Wx hF hτ rfl rfl rfl rfl rfl rfl rfl rfl (fun h => ?_) (fun h => ?_) | apply Wn)
                · refine AL.opMT (OpM.call hF rfl rfl rfl rfl (h107b) rfl rfl rfl) rfl rfl rfl rfl rfl rfl ?_
                  refine Wv hF hτ rfl ?_
                  (repeat' first | apply Wq | refine Ws hF hτ rfl ?_ | apply Wb | apply Wl | apply Wk | apply We | apply Wc | apply Wd | refine Wt rfl rfl ?_ | refine Wf rfl rfl ?_ | refine Wi rfl rfl (fun h => ?_) (fun h => ?_) | refine Wx hF hτ rfl rfl rfl rfl rfl rfl rfl rfl (fun h => ?_) (fun h => ?_) | apply Wn)
                  · refine AL.op rfl (OpTo.callX hF rfl rfl rfl rfl rfl rfl rfl (g1) rfl rfl rfl rfl rfl) ?_
                    refine Wv hF hτ rfl ?_
                    (repeat' first | apply Wq | refine Ws hF hτ rfl ?_ | apply Wb | apply Wl | apply Wk | apply We | apply Wc | apply Wd | refine Wt rfl rfl ?_ | refine Wf rfl rfl ?_ | refine Wi rfl rfl (fun h => ?_) (fun h => ?_) | refine Wx hF hτ rfl rfl rfl rfl rfl rfl rfl rfl (fun h => ?_) (fun h => ?_) | apply Wn)
                    rename_i e1 e2
                    rw [if_pos (by rw [e1, e2, h]; rfl)]
                    refine ⟨?_, g2⟩
                    (repeat' first | exact Sub.nil | refine Sub.put rfl ?_ | refine Sub.put ?_ ?_)
                  · rename_i e1 e2
                    rw [if_neg (by rw [e1, e2, h]; decide)]
                    refine ⟨?_, hJ4⟩
                    (repeat' first | exact Sub.nil | refine Sub.put rfl ?_ | refine Sub.put ?_ ?_)
                · rename_i e1
                  rw [if_neg (by rw [e1, h]; intro e; cases e)]
                  refine ⟨?_, hJ4⟩
                  (repeat' first | exact Sub.nil | refine Sub.put rfl ?_ | refine Sub.put ?_ ?_)
              · rw [if_neg (by rw [h]; intro e; cases e)]
                refine ⟨?_, hJ4⟩
                (repeat' first | exact Sub.nil | refine Sub.put rfl ?_ | refine Sub.put ?_ ?_)
            · rw [show List.take (l2.map Stowed.enc).length l2 = l2 by simp] at hJ4 ⊢
              refine ⟨?_, hJ4⟩
              (repeat' first | exact Sub.nil | refine Sub.put rfl ?_ | refine Sub.put ?_ ?_)
          · rw [hsn]
            refine ⟨?_, hJ3⟩
            (repeat' first | exact Sub.nil | refine Sub.put rfl ?_ | refine Sub.put ?_ ?_)
    · refine ⟨.inl rfl, rfl, ?_⟩
      (repeat' first | exact Sub.nil | refine Sub.put rfl ?_ | refine Sub.put ?_ ?_)
end Go.Proofs.VL
namespace Go.Proofs.VL
open Go Go.RowKit
variable {F : Fence}
def lift (s : Ship) (b a : List Stowed) : Nat → Int → LSt → LSt
  | 0, _, st => st
  | f + 1, id, st => liftBody s b a (lift s b a f) id st
theorem foldl_inv {α β : Type} {f : β → α → β} {Inv : β → Prop} : ∀ (l : List α) (x : β), (∀ y ∈ l, ∀ z, Inv z → Inv (f z y)) → Inv x → Inv (l.foldl f x)
  | [], x, _, h => h
  | y :: l, x, hf, h => foldl_inv l (f x y) (fun y hy => hf y (.tail _ hy)) (hf y (.head _) x h)
theorem liftBody_inv {s : Ship} {b a : List Stowed} {G : Int → LSt → LSt} {Inv : LSt → Prop} (hG : ∀ (l : List Stowed) (y : Stowed) (st1 : LSt), l ∈ [b, a] → y ∈ l → Inv st1 → Inv (G y.box st1)) {st : LSt} {id : Int}
    (h1 : st.1.any (fun y => y == id) = false) (hI : Inv (st.1 ++ [id], st.2 ++ [id])) : Inv (liftBody s b a G id st) := by
  rw [liftBody, if_neg (by rw [h1]; decide)]
  refine foldl_inv _ _ (fun l hl z hz => ?_) hI
  rw [liftFrom]
  split
  · exact hz
  · refine foldl_inv _ _ (fun l2 hl2 z hz => foldl_inv _ _ (fun y hy z hz => ?_) hz) (foldl_inv _ _ (fun y hy z hz => ?_) hz)
    · rw [coverOne]; split
      · exact hG l2 y z hl2 hy hz
      · exact hz
    · rw [overOne]; split
      · exact hG l y z hl hy hz
      · exact hz
theorem countP_lt {α : Type} {p q : α → Bool} {y : α} (hp : p y = true) (hq : q y = false) : ∀ {l : List α}, (∀ x ∈ l, q x = true → p x = true) → y ∈ l → l.countP q < l.countP p
  | [], _, hy => by cases hy
  | x :: l, h, hy => by
    have hle : l.countP q ≤ l.countP p := List.countP_mono_left (fun z hz => h z (.tail _ hz))
    rcases List.mem_cons.1 hy with rfl | hy
    · rw [List.countP_cons_of_pos hp, List.countP_cons_of_neg (by rw [hq]; decide)]; omega
    · have ih := countP_lt hp hq (fun z hz => h z (.tail _ hz)) hy
      have hx := h x (.head _)
      simp only [List.countP_cons]
      cases hqx : q x
      · simp; omega
      · rw [hx hqx]; simp; omega
def unl (b a : List Stowed) (st : LSt) : Nat := ((b ++ a).map (·.box)).countP fun i => !(st.1.any fun y => y == i)
def LInv (b a : List Stowed) (f : Nat) (st : LSt) : Prop := unl b a st ≤ f ∧ st.2.length + unl b a st ≤ 100
theorem unl_add {b a : List Stowed} {st : LSt} {id : Int} (hid : id ∈ (b ++ a).map (·.box)) (h1 : st.1.any (fun y => y == id) = false) : unl b a (st.1 ++ [id], st.2 ++ [id]) < unl b a st := by
  refine countP_lt (y := id) (by rw [h1]; rfl) (by simp) (fun i hi h => ?_) hid
  simp at h ⊢
  exact fun z hz => h.1 z hz
theorem f105 (hF : Wide F) (hro : F.round = none) (s : Ship) (b a : List Stowed) (hs : s.small) (hb : b.length ≤ 12) (ha : a.length ≤ 12) (hbo : ∀ x ∈ b, x.on s) (hao : ∀ x ∈ a, x.on s) : ∀ (f : Nat) (st : LSt) (id : Int), id ∈ (b ++ a).map (·.box) → LInv b a f st →
    FnX Tryz.prog F 105 6 ((.s 0, Iv64 id) :: liftEnv s b a st) (.tu []) (liftEnv s b a (lift s b a (f + 1) id st)) ∧ LInv b a f (lift s b a (f + 1) id st) := by
  have hmem : ∀ (l : List Stowed) (y : Stowed), l ∈ [b, a] → y ∈ l → y.box ∈ (b ++ a).map (·.box) := by
    intro l y hl hy
    simp at hl
    rcases hl with rfl | rfl
    · exact List.mem_map.2 ⟨y, List.mem_append_left _ hy, rfl⟩
    · exact List.mem_map.2 ⟨y, List.mem_append_right _ hy, rfl⟩
  intro f
  induction f with
  | zero =>
    intro st id hid hI
    have hin : st.1.any (fun y => y == id) = true := by
      cases h1 : st.1.any (fun y => y == id) with
      | true => rfl
      | false => have := unl_add hid h1; have := hI.1; omega
    refine ⟨f105x hF hro s b a hs hb ha hbo hao (lift s b a 0) (fun _ => False) (fun _ _ _ _ _ h => h.elim) st id (by have := hI.2; omega) (fun h => Bool.noConfusion (hin.symm.trans h)), ?_⟩
    rw [lift, liftBody, if_pos hin]; exact hI
  | succ f ih =>
    intro st id hid hI
    have hadd : st.1.any (fun y => y == id) = false → LInv b a f (st.1 ++ [id], st.2 ++ [id]) := fun h1 => by
      have h2 := unl_add hid h1
      refine ⟨by have := hI.1; omega, by have := hI.2; simp; omega⟩
    refine ⟨f105x hF hro s b a hs hb ha hbo hao (lift s b a (f + 1)) (LInv b a f) (fun l y st1 hl hy h => ih st1 y.box (hmem l y hl hy) h) st id (by have := hI.2; omega) hadd, ?_⟩
    rw [lift]
    cases h1 : st.1.any (fun y => y == id) with
    | true => rw [liftBody, if_pos h1]; exact hI
    | false =>
      have := liftBody_inv (s := s) (Inv := LInv b a f) (fun l y st1 hl hy h => (ih st1 y.box (hmem l y hl hy) h).2) h1 (hadd h1)
      exact ⟨by have := this.1; omega, this.2⟩
end Go.Proofs.VL
