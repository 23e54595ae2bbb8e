import Derived.Test.YtndffogfaocchaaGreatW19
import Derived.Test.YtndffogfaocchaaGreatW25
import Derived.Test.YtndffogfaocchaaGreatW26
set_option linter.unusedVariables false
set_option linter.unusedSimpArgs false
set_option linter.unusedSectionVars false
namespace Go.Proofs.VL
open Go Go.RowKit
variable {F : Fence}
abbrev Was := List (Int × Slot)
def ek1 (n : Int) : List Int := [n]
theorem ek1_inj (a b : Int) (h : ek1 a = ek1 b) : a = b := by simpa [ek1] using h
abbrev mpWas (m : Was) : V := .mp 2 (mkE [.i64] (imap ek1 Slot.enc m))
theorem was_lens (m : Was) : ∀ p ∈ imap ek1 Slot.enc m, p.1.length = [IntKind.i64].length := imap_lens (k := 1) (fun _ => rfl) m
theorem was_look (id : Int) (m : Was) : (lookI [id] (imap ek1 Slot.enc m)).getD [di 0, di 0, du 0] = ((getK id m).getD slot0).enc := by
  rw [show [id] = ek1 id from rfl, look_imap ek1_inj]
  cases getK id m <;> rfl
def Low (m : Was) : Prop := ∀ p ∈ m, p.2.tier ≤ 1000
theorem getK_low {m : Was} (h : Low m) (id : Int) : ((getK id m).getD slot0).tier ≤ 1000 := by
  induction m with
  | nil => simp [getK, slot0]
  | cons p m ih =>
    simp only [getK]
    split
    · exact h p (.head _)
    · exact ih (fun q hq => h q (.tail _ hq))
theorem setK_low {m : Was} (h : Low m) (id : Int) {x : Slot} (hx : x.tier ≤ 1000) : Low (setK id x m) := by
  induction m with
  | nil => intro p hp; simp [setK] at hp; subst hp; exact hx
  | cons q m ih =>
    intro p hp
    simp only [setK] at hp
    split at hp
    · rcases List.mem_cons.1 hp with rfl | hp
      · exact hx
      · exact h p (.tail _ hp)
    · rcases List.mem_cons.1 hp with rfl | hp
      · exact h _ (.head _)
      · exact ih (fun q hq => h q (.tail _ hq)) p hp
abbrev mpHome (m : List (Int × Int)) : V := .mp 0 (mkE [.i64] (imap ek1 evN m))
theorem home_lens (m : List (Int × Int)) : ∀ p ∈ imap ek1 evN m, p.1.length = [IntKind.i64].length := imap_lens (k := 1) (fun _ => rfl) m
theorem home_look (id : Int) (m : List (Int × Int)) : (lookI [id] (imap ek1 evN m)).getD [di 0] = [di ((getK id m).getD 0)] := by
  rw [show [id] = ek1 id from rfl, look_imap ek1_inj]
  cases getK id m <;> rfl
def PlanGood (s : Ship) (boxes : List Box) (ls : List (List Stowed)) : Prop := ∀ (k : Nat) (l : List Stowed), ls[k]? = some l → StowRight s boxes l ∧ l.map (·.box) = aboard boxes k
theorem allSlots_tier {s : Ship} (h : ShipRight s) {size : Int} {x : Slot} (hx : x ∈ allSlots s size) : x.tier ≤ 1000 := by
  simp only [allSlots, slotsTo, colSlotsTo, tierSlots, List.mem_flatMap, List.mem_map, List.mem_range] at hx
  obtain ⟨c, hc, t, ht, y, _, rfl⟩ := hx
  have := h.tiers (s.cols.getD c noCol) (by rw [List.getD_eq_getElem?_getD, List.getElem?_eq_getElem hc]; exact List.getElem_mem _)
  simp only
  omega
theorem turn_next {n : Nat} (h : n ≤ 1000) : IntKind.wrap .i64 ((n : Int) + 1) = ((n + 1 : Nat) : Int) := (wrap_id (by omega) (by omega)).trans (by simp)
def voyR : List (List Stowed) ⊕ Int → V
  | .inl ls => .tu [Vd (planEnc ls), Iv64 0]
  | .inr id => .tu [Vd [.nl, .nl], Iv64 id]
def voyJ (s : Ship) (boxes : List Box) (calls : Nat) : List (List Stowed) ⊕ Int → Prop
  | .inl ls => ls.length = calls ∧ PlanGood s boxes ls
  | .inr id => ∃ b ∈ boxes, b.id = id
abbrev voyE (s : Ship) (boxes : List Box) (home : List (Int × Int)) (calls k : Nat) (ls : List (List Stowed)) : Env := [(.s 1, Vs (boxes.map Box.enc)), (.s 2, mpHome home), (.s 3, Iv64 calls), (.s 4, .bx 35 (s.enc.map .d)), (.s 8, .bx 41 [.d .nl, .d .nl]), (.s 9, Iv64 0), (.s 10, .bx 41 [.ref (.c 10 0), .d .nl]), (.c 10 0, .row true 86 (ls.map encS)), (.s 12, Iv64 k)]
set_option maxRecDepth 100000 in
set_option maxHeartbeats 4000000 in
theorem f43 (hF : Wide F) (hro : F.round = none) (s : Ship) (boxes : List Box) (home : List (Int × Int)) (calls : Nat) (hs : s.small) (hsr : ShipRight s) (hb : boxes.length ≤ 100) (hup : BoxesUp boxes) (hcalls : calls ≤ 1000) :
    FnE Tryz.prog F 43 4 [(.s 0, Vd s.enc), (.s 1, Vs (boxes.map Box.enc)), (.s 2, mpHome home), (.s 3, Iv64 calls)] (voyJ s boxes calls) voyR (fun _ => [(.s 2, mpHome home)]) := by
  refine Fn.of_AWX (K := [2]) hF hro hτ (show Tryz.prog.funcs[43]? = some Tryz.f43 from Tryz.func43) rfl (by decide) rfl (Nat.le_of_ble_eq_true rfl) (fun _ => rfl) (fun _ => rfl) ?_
  (repeat' first | apply Wq | refine Ws hF hτ rfl ?_ | apply Wb | apply Wl | apply Wk | apply We | apply Wc | apply Wd | refine Wt rfl rfl ?_ | refine Wf rfl rfl ?_ | refine Wi rfl rfl (fun h => ?_) (fun h => ?_) | refine Wx hF hτ rfl rfl rfl rfl rfl rfl rfl rfl (fun h => ?_) (fun h => ?_) | apply Wn)
  refine AL.opM (OpM.makeMap hF rfl 2 rfl rfl) rfl rfl ?_
  refine Wv hF hτ rfl ?_
  (repeat' first | apply Wq | refine Ws hF hτ rfl ?_ | apply Wb | apply Wl | apply Wk | apply We | apply Wc | apply Wd | refine Wt rfl rfl ?_ | refine Wf rfl rfl ?_ | refine Wi rfl rfl (fun h => ?_) (fun h => ?_) | refine Wx hF hτ rfl rfl rfl rfl rfl rfl rfl rfl (fun h => ?_) (fun h => ?_) | apply Wn)
  refine AW.ent (Ent.nilRow (t := 10) (i := 0) (m := true) (e := 86) rfl) ?_
  refine AW.loopX (X := (Nat × List (List Stowed)) × Was) (fun x => (.s 11, mpWas x.2) :: voyE s boxes home calls x.1.1 x.1.2) (fun x => x.1.1 ≤ calls ∧ x.1.2.length = x.1.1 ∧ PlanGood s boxes x.1.2 ∧ Low x.2) (fun x => calls - x.1.1) (fun _ => rfl) ((0, []), []) ⟨Nat.zero_le _, rfl, fun k l h => by simp at h, fun p hp => by cases hp⟩ ?_ ?_
  · (repeat' first | exact Sub.nil | refine Sub.put rfl ?_ | refine Sub.put ?_ ?_)
  rintro ⟨⟨k, ls⟩, m⟩ ⟨hk, hlen, hpg, hlow⟩
  simp only at hk hlen hpg hlow ⊢
  (repeat' first | apply Wq | refine Ws hF hτ rfl ?_ | apply Wb | apply Wl | apply Wk | apply We | apply Wc | apply Wd | refine Wt rfl rfl ?_ | refine Wf rfl rfl ?_ | refine Wi rfl rfl (fun h => ?_) (fun h => ?_) | refine Wx hF hτ rfl rfl rfl rfl rfl rfl rfl rfl (fun h => ?_) (fun h => ?_) | apply Wn)
  · have hkc : k < calls := by have := of_decide_eq_true h; omega
    have hlc : ls.length ≤ 1000 := by omega
    refine AW.ent (Ent.frzs (ls := [.s 13]) rfl) ?_
    refine AW.loopX (X := Nat × List Stowed) (fun x => (.s 13, Vs (x.2.map Stowed.enc)) :: (.s 14, Iv64 x.1) :: (.s 11, mpWas m) :: voyE s boxes home calls k ls) (fun x => x.1 ≤ 10 ∧ GoodAt s boxes k x.2) (fun x => 10 - x.1) (fun _ => rfl) (0, []) ⟨Nat.zero_le _, .nil hsr _ _⟩ ?_ ?_
    · (repeat' first | exact Sub.nil | refine Sub.put rfl ?_ | refine Sub.put ?_ ?_)
    rintro ⟨tier, l⟩ ⟨ht, hg⟩
    simp only at ht hg ⊢
    (repeat' first | apply Wq | refine Ws hF hτ rfl ?_ | apply Wb | apply Wl | apply Wk | apply We | apply Wc | apply Wd | refine Wt rfl rfl ?_ | refine Wf rfl rfl ?_ | refine Wi rfl rfl (fun h => ?_) (fun h => ?_) | refine Wx hF hτ rfl rfl rfl rfl rfl rfl rfl rfl (fun h => ?_) (fun h => ?_) | apply Wn)
    · have ht10 : tier < 10 := by have := of_decide_eq_true h; omega
      refine AW.rangeX hF rfl rfl rfl rfl rfl rfl rfl rfl rfl (X := List Stowed) (boxes.map Box.enc).length (by simp [lim]; omega) (fun j l => (.s 13, Vs (l.map Stowed.enc)) :: (.s 14, Iv64 tier) :: (.s 39, Vs (boxes.map Box.enc)) :: (.s 11, mpWas m) :: voyE s boxes home calls k ls) (fun j l => GoodAt s boxes k l) l hg ?_ ?_ (fun j l hj hg => ?_) (fun l hg => ?_)
      · exact fun _ _ => rfl
      · (repeat' first | exact Sub.nil | refine Sub.put rfl ?_ | refine Sub.put ?_ ?_)
      · obtain ⟨b, hbj⟩ := get_ex hj
        have hbm := List.mem_of_getElem? hbj
        have hll := hg.len
        have keep : ∃ x', GoodAt s boxes k x' := ⟨l, hg⟩
        (repeat' first | apply Wq | refine Ws hF hτ rfl ?_ | apply Wb | apply Wl | apply Wk | apply We | apply Wn)
        refine AL.opM (OpM.indexD hF rfl (hτ _ _ rfl) rfl (hτ _ _ rfl) rfl (i := j) rfl ( get_enc Box.enc hbj) rfl rfl rfl) rfl rfl ?_
        refine Wv hF hτ rfl ?_
        (repeat' first | apply Wq | refine Ws hF hτ rfl ?_ | apply Wb | apply Wl | apply Wk | apply We | apply Wc | apply Wd | refine Wt rfl rfl ?_ | refine Wf rfl rfl ?_ | refine Wi rfl rfl (fun h => ?_) (fun h => ?_) | refine Wx hF hτ rfl rfl rfl rfl rfl rfl rfl rfl (fun h => ?_) (fun h => ?_) | apply Wn)
        refine AL.opM (OpM.lookup (ok := true) hF rfl (hτ _ _ rfl) rfl (hτ _ _ rfl) zs88 kl3 (m := imap ek1 Slot.enc m) (tm := 2) rfl rfl rfl (ns := [b.id]) rfl rfl (was_lens m) (was_look b.id m) rfl rfl rfl) rfl rfl ?_
        refine Wv hF hτ rfl ?_
        (repeat' first | apply Wq | refine Ws hF hτ rfl ?_ | apply Wb | apply Wl | apply Wk | apply We | apply Wc | apply Wd | refine Wt rfl rfl ?_ | refine Wf rfl rfl ?_ | refine Wi rfl rfl (fun h => ?_) (fun h => ?_) | refine Wx hF hτ rfl rfl rfl rfl rfl rfl rfl rfl (fun h => ?_) (fun h => ?_) | apply Wn)
        · rename_i e1 e2 e3
          have hx1 := getK_low hlow b.id
          generalize (getK b.id m).getD slot0 = x at *
          have hwl := withBox_len l ⟨b.id, x⟩
          have hwt : ∀ y ∈ withBox l ⟨b.id, x⟩, y.slot.tier ≤ 100000 := fun y hy => by
            rcases mem_withBox hy with rfl | hy
            · simp only; omega
            · have := hg.1.slots y hy; omega
          refine AL.opM (OpM.call hF rfl rfl rfl rfl (f93 hF hro l ⟨b.id, x⟩ (by omega)) rfl rfl rfl) rfl rfl ?_
          refine Wv hF hτ rfl ?_
          (repeat' first | apply Wq | refine Ws hF hτ rfl ?_ | apply Wb | apply Wl | apply Wk | apply We | apply Wc | apply Wd | refine Wt rfl rfl ?_ | refine Wf rfl rfl ?_ | refine Wi rfl rfl (fun h => ?_) (fun h => ?_) | refine Wx hF hτ rfl rfl rfl rfl rfl rfl rfl rfl (fun h => ?_) (fun h => ?_) | apply Wn)
          refine AL.ent (Ent.frzs (ls := [.s 19]) rfl) ?_
          refine AL.opM (OpM.call hF rfl rfl rfl rfl (f47 hF hro s boxes (withBox l ⟨b.id, x⟩) hs (by omega) (by omega) hwt) rfl rfl rfl) rfl rfl ?_
          refine Wv hF hτ rfl ?_
          (repeat' first | apply Wq | refine Ws hF hτ rfl ?_ | apply Wb | apply Wl | apply Wk | apply We | apply Wc | apply Wd | refine Wt rfl rfl ?_ | refine Wf rfl rfl ?_ | refine Wi rfl rfl (fun h => ?_) (fun h => ?_) | refine Wx hF hτ rfl rfl rfl rfl rfl rfl rfl rfl (fun h => ?_) (fun h => ?_) | apply Wn)
          · refine ⟨withBox l ⟨b.id, x⟩, hg.with hbm (by have := of_decide_eq_true e3; omega) (of_decide_eq_true ‹_›) h, ?_⟩
            (repeat' first | exact Sub.nil | refine Sub.put rfl ?_ | refine Sub.put ?_ ?_)
          · refine ⟨l, hg, ?_⟩
            (repeat' first | exact Sub.nil | refine Sub.put rfl ?_ | refine Sub.put ?_ ?_)
        all_goals refine ⟨l, hg, ?_⟩
        all_goals (repeat' first | exact Sub.nil | refine Sub.put rfl ?_ | refine Sub.put ?_ ?_)
      · (repeat' first | apply Wq | refine Ws hF hτ rfl ?_ | apply Wb | apply Wl | apply Wk | apply We | apply Wc | apply Wd | refine Wt rfl rfl ?_ | refine Wf rfl rfl ?_ | refine Wi rfl rfl (fun h => ?_) (fun h => ?_) | refine Wx hF hτ rfl rfl rfl rfl rfl rfl rfl rfl (fun h => ?_) (fun h => ?_) | apply Wn)
        refine ⟨(tier + 1, l), by simp only; omega, ⟨by simp only; omega, hg⟩, ?_⟩
        (repeat' first | exact Sub.nil | refine Sub.put rfl ?_ | refine Sub.put ?_ ?_)
        exact congrArg (fun z => some (Iv64 z)) (turn_next (by omega))
    · -- what is not aboard yet
      refine AW.rangeX hF rfl rfl rfl rfl rfl rfl rfl rfl rfl (X := List Stowed) (boxes.map Box.enc).length (by simp [lim]; omega) (fun j l => (.s 13, Vs (l.map Stowed.enc)) :: (.s 83, Vs (boxes.map Box.enc)) :: voyE s boxes home calls k ls) (fun j l => GoodAt s boxes k l ∧ ∀ (i : Nat) (b : Box), i < j → boxes[i]? = some b → b.load ≤ k → (k : Int) < b.disch → b.id ∈ l.map (·.box)) l ⟨hg, fun i b h => absurd h (Nat.not_lt_zero i)⟩ ?_ ?_ (fun j l hj hgj => ?_) (fun l hgj => ?_)
      · exact fun _ _ => rfl
      · (repeat' first | exact Sub.nil | refine Sub.put rfl ?_ | refine Sub.put ?_ ?_)
      · obtain ⟨hg, hin⟩ := hgj
        obtain ⟨b, hbj⟩ := get_ex hj
        have hbm := List.mem_of_getElem? hbj
        have hll := hg.len
        have next : ∀ l' : List Stowed, GoodAt s boxes k l' → (∀ i ∈ l.map (·.box), i ∈ l'.map (·.box)) → (b.load ≤ k → (k : Int) < b.disch → b.id ∈ l'.map (·.box)) → GoodAt s boxes k l' ∧ ∀ (i : Nat) (c : Box), i < j + 1 → boxes[i]? = some c → c.load ≤ k → (k : Int) < c.disch → c.id ∈ l'.map (·.box) := by
          intro l' h1 h2 h3
          refine ⟨h1, fun i c hi hc q1 q2 => ?_⟩
          rcases Nat.lt_or_ge i j with h | h
          · exact h2 _ (hin i c h hc q1 q2)
          · obtain rfl : i = j := by omega
            rw [hbj] at hc
            cases hc
            exact h3 q1 q2
        (repeat' first | apply Wq | refine Ws hF hτ rfl ?_ | apply Wb | apply Wl | apply Wk | apply We | apply Wn)
        refine AL.opM (OpM.indexD hF rfl (hτ _ _ rfl) rfl (hτ _ _ rfl) rfl (i := j) rfl ( get_enc Box.enc hbj) rfl rfl rfl) rfl rfl ?_
        refine Wv hF hτ rfl ?_
        (repeat' first | apply Wq | refine Ws hF hτ rfl ?_ | apply Wb | apply Wl | apply Wk | apply We | apply Wc | apply Wd | refine Wt rfl rfl ?_ | refine Wf rfl rfl ?_ | refine Wi rfl rfl (fun h => ?_) (fun h => ?_) | refine Wx hF hτ rfl rfl rfl rfl rfl rfl rfl rfl (fun h => ?_) (fun h => ?_) | apply Wn)
        · refine ⟨l, next l hg (fun _ h => h) (fun q1 _ => absurd q1 (by have := of_decide_eq_true h; omega)), ?_⟩
          (repeat' first | exact Sub.nil | refine Sub.put rfl ?_ | refine Sub.put ?_ ?_)
        · refine ⟨l, next l hg (fun _ h => h) (fun _ q2 => absurd q2 (by have := of_decide_eq_true h; omega)), ?_⟩
          (repeat' first | exact Sub.nil | refine Sub.put rfl ?_ | refine Sub.put ?_ ?_)
        · refine AL.opMT (OpM.call hF rfl rfl rfl rfl (f94 hF hro l b.id (by omega)) rfl rfl rfl) rfl rfl rfl rfl rfl rfl ?_
          refine Wv hF hτ rfl ?_
          rename_i ha1
          have hld : b.load ≤ k := by have := of_decide_eq_false ha1; omega
          have hdd : (k : Int) < b.disch := by have := of_decide_eq_false h; omega
          (repeat' first | apply Wq | refine Ws hF hτ rfl ?_ | apply Wb | apply Wl | apply Wk | apply We | apply Wc | apply Wd | refine Wt rfl rfl ?_ | refine Wf rfl rfl ?_ | refine Wi rfl rfl (fun h => ?_) (fun h => ?_) | refine Wx hF hτ rfl rfl rfl rfl rfl rfl rfl rfl (fun h => ?_) (fun h => ?_) | apply Wn)
          · refine ⟨l, next l hg (fun _ h => h) (fun _ _ => by
              obtain ⟨y, hy, e⟩ := List.any_eq_true.1 ‹_›
              exact List.mem_map.2 ⟨y, hy, by simpa using e⟩), ?_⟩
            (repeat' first | exact Sub.nil | refine Sub.put rfl ?_ | refine Sub.put ?_ ?_)
          · refine AW.loopX (X := Nat × Bool × List Stowed) (fun x => (.s 13, Vs (x.2.2.map Stowed.enc)) :: (.s 22, Vb x.2.1) :: (.s 23, Iv64 x.1) :: (.s 21, .bx 46 (b.enc.map .d)) :: rangeI 85 84 j (boxes.map Box.enc).length ((.s 83, Vs (boxes.map Box.enc)) :: voyE s boxes home calls k ls)) (fun x => x.1 ≤ s.cols.length ∧ GoodAt s boxes k x.2.2 ∧ (∀ i ∈ l.map (·.box), i ∈ x.2.2.map (·.box)) ∧ (x.2.1 = true → b.id ∈ x.2.2.map (·.box))) (fun x => s.cols.length - x.1) (fun _ => rfl) (0, false, l) ⟨Nat.zero_le _, hg, fun _ h => h, fun h => by cases h⟩ ?_ ?_
            · (repeat' first | exact Sub.nil | refine Sub.put rfl ?_ | refine Sub.put ?_ ?_)
            rintro ⟨turn, done, l'⟩ ⟨ht1, hg', hk1, hk2⟩
            simp only at ht1 hg' hk1 hk2 ⊢
            (repeat' first | apply Wq | refine Ws hF hτ rfl ?_ | apply Wb | apply Wl | apply Wk | apply We | apply Wc | apply Wd | refine Wt rfl rfl ?_ | refine Wf rfl rfl ?_ | refine Wi rfl rfl (fun h => ?_) (fun h => ?_) | refine Wx hF hτ rfl rfl rfl rfl rfl rfl rfl rfl (fun h => ?_) (fun h => ?_) | apply Wn)
            · have hd0 : done = false := by simpa using h
              subst hd0
              have ht2 : turn < s.cols.length := by have := of_decide_eq_true ‹decide ((turn : Int) < _) = true›; rw [List.length_map] at this; omega
              have hll' := hg'.len
              refine AL.opM (OpM.call hF rfl rfl rfl rfl (f95 hF hro s b.size (by have := hsr.len; omega) (fun c hc => by have := hsr.tiers c hc; omega)) rfl rfl rfl) rfl rfl ?_
              refine Wv hF hτ rfl ?_
              (repeat' first | apply Wq | refine Ws hF hτ rfl ?_ | apply Wb | apply Wl | apply Wk | apply We | apply Wc | apply Wd | refine Wt rfl rfl ?_ | refine Wf rfl rfl ?_ | refine Wi rfl rfl (fun h => ?_) (fun h => ?_) | refine Wx hF hτ rfl rfl rfl rfl rfl rfl rfl rfl (fun h => ?_) (fun h => ?_) | apply Wn)
              have hal : ∀ x ∈ allSlots s b.size, x.tier ≤ 1000 := fun x hx => allSlots_tier hsr hx
              have hal2 : (allSlots s b.size).length ≤ 1000000 := by
                have := slotsTo_len s.cols b.size (fun c hc => by have := hsr.tiers c hc; omega) s.cols.length
                have := hsr.len
                rw [allSlots]; omega
              generalize allSlots s b.size = sl at hal hal2
              refine AW.range hF rfl rfl rfl rfl rfl rfl rfl rfl rfl (sl.map Slot.enc).length (by simp [lim]; omega) (fun _ => (.s 119, Vs (sl.map Slot.enc)) :: (.s 13, Vs (l'.map Stowed.enc)) :: (.s 22, Vb false) :: (.s 23, Iv64 turn) :: (.s 21, .bx 46 (b.enc.map .d)) :: rangeI 85 84 j (boxes.map Box.enc).length ((.s 83, Vs (boxes.map Box.enc)) :: voyE s boxes home calls k ls)) ?_ ?_ (fun i hi => ?_) ?_
              · exact fun _ => rfl
              · (repeat' first | exact Sub.nil | refine Sub.put rfl ?_ | refine Sub.put ?_ ?_)
              · obtain ⟨x, hx⟩ := get_ex hi
                have hxt := hal x (List.mem_of_getElem? hx)
                have hwl := withBox_len l' ⟨b.id, x⟩
                have hwt : ∀ y ∈ withBox l' ⟨b.id, x⟩, y.slot.tier ≤ 100000 := fun y hy => by
                  rcases mem_withBox hy with rfl | hy
                  · simp only; omega
                  · have := hg'.1.slots y hy; omega
                have h47 := f47 hF hro s boxes (withBox l' ⟨b.id, x⟩) hs (by omega) (by omega) hwt
                (repeat' first | apply Wq | refine Ws hF hτ rfl ?_ | apply Wb | apply Wl | apply Wk | apply We | apply Wn)
                refine AL.opM (OpM.indexD hF rfl (hτ _ _ rfl) rfl (hτ _ _ rfl) rfl (i := i) rfl ( get_enc Slot.enc hx) rfl rfl rfl) rfl rfl ?_
                refine Wv hF hτ rfl ?_
                (repeat' first | apply Wq | refine Ws hF hτ rfl ?_ | apply Wb | apply Wl | apply Wk | apply We | apply Wc | apply Wd | refine Wt rfl rfl ?_ | refine Wf rfl rfl ?_ | refine Wi rfl rfl (fun h => ?_) (fun h => ?_) | refine Wx hF hτ rfl rfl rfl rfl rfl rfl rfl rfl (fun h => ?_) (fun h => ?_) | apply Wn)
                refine AL.opM (OpM.call hF rfl rfl rfl rfl (f93 hF hro l' ⟨b.id, x⟩ (by omega)) rfl rfl rfl) rfl rfl ?_
                refine Wv hF hτ rfl ?_
                (repeat' first | apply Wq | refine Ws hF hτ rfl ?_ | apply Wb | apply Wl | apply Wk | apply We | apply Wc | apply Wd | refine Wt rfl rfl ?_ | refine Wf rfl rfl ?_ | refine Wi rfl rfl (fun h => ?_) (fun h => ?_) | refine Wx hF hτ rfl rfl rfl rfl rfl rfl rfl rfl (fun h => ?_) (fun h => ?_) | apply Wn)
                refine AW.ent (Ent.frzs (ls := [.s 26]) rfl) ?_
                refine AW.draw hmix (AD.start [] [0, 1, 2, 3, 4, 5, 6, 7, 8, 9, 10, 11, 12, 13] ?_)
                refine AD.vals hF hτ rfl ?_
                refine AD.op (o := _) rfl rfl rfl (OpM.lookup (ok := false) hF rfl (hτ 117 _ rfl) rfl (hτ 3 _ rfl) zs3 kl3 (m := imap ek1 evN home) (tm := 0) rfl rfl rfl (ns := [b.id]) rfl rfl (home_lens home) (home_look b.id home) rfl rfl rfl) ?_
                refine AD.vals hF hτ rfl ?_
                refine AD.op (o := _) rfl rfl rfl (OpM.rem hF rfl rfl rfl (by have := hsr.len; rw [List.length_map]; omega) rfl rfl) ?_
                refine AD.vals hF hτ rfl ?_
                refine AD.fin (by kernel_rfl) rfl rfl ?_
                refine AA.split 144 rfl rfl (fun h => ?_) (fun h => ?_)
                · refine AD.start [0, 1, 2, 3, 4, 5, 6, 7, 8, 9, 10, 11, 12, 13] [14, 15, 16, 17, 18] ?_
                  refine AD.vals hF hτ rfl ?_
                  refine AD.op (o := _) rfl rfl rfl (OpM.call hF rfl rfl rfl rfl h47 rfl rfl rfl) ?_
                  refine AD.vals hF hτ rfl ?_
                  refine AD.fin (by kernel_rfl) rfl rfl (AA.done (by kernel_rfl) ?_)
                  (repeat' first | apply Wq | refine Ws hF hτ rfl ?_ | apply Wb | apply Wl | apply Wk | apply We | apply Wc | apply Wd | refine Wt rfl rfl ?_ | refine Wf rfl rfl ?_ | refine Wi rfl rfl (fun h => ?_) (fun h => ?_) | refine Wx hF hτ rfl rfl rfl rfl rfl rfl rfl rfl (fun h => ?_) (fun h => ?_) | apply Wn)
                  · refine ⟨(turn + 1, true, withBox l' ⟨b.id, x⟩), by simp only; omega, ⟨by simp only; omega, hg'.with hbm hld hdd h, fun i hi => withBox_ids (.inr (hk1 i hi)), fun _ => withBox_ids (.inl rfl)⟩, ?_⟩
                    (repeat' first | exact Sub.nil | refine Sub.put rfl ?_ | refine Sub.put ?_ ?_)
                    exact congrArg (fun z => some (Iv64 z)) (turn_next (by have := hsr.len; omega))
                  · (repeat' first | exact Sub.nil | refine Sub.put rfl ?_ | refine Sub.put ?_ ?_)
                · refine AD.start [0, 1, 2, 3, 4, 5, 6, 7, 8, 9, 10, 11, 12, 13] [14, 15, 16, 17, 18] ?_
                  refine AD.vals hF hτ rfl ?_
                  refine AD.fin (by kernel_rfl) rfl rfl (AA.done (by kernel_rfl) ?_)
                  (repeat' first | apply Wq | refine Ws hF hτ rfl ?_ | apply Wb | apply Wl | apply Wk | apply We | apply Wc | apply Wd | refine Wt rfl rfl ?_ | refine Wf rfl rfl ?_ | refine Wi rfl rfl (fun h => ?_) (fun h => ?_) | refine Wx hF hτ rfl rfl rfl rfl rfl rfl rfl rfl (fun h => ?_) (fun h => ?_) | apply Wn)
                  (repeat' first | exact Sub.nil | refine Sub.put rfl ?_ | refine Sub.put ?_ ?_)
              · (repeat' first | apply Wq | refine Ws hF hτ rfl ?_ | apply Wb | apply Wl | apply Wk | apply We | apply Wc | apply Wd | refine Wt rfl rfl ?_ | refine Wf rfl rfl ?_ | refine Wi rfl rfl (fun h => ?_) (fun h => ?_) | refine Wx hF hτ rfl rfl rfl rfl rfl rfl rfl rfl (fun h => ?_) (fun h => ?_) | apply Wn)
                refine ⟨(turn + 1, false, l'), by simp only; omega, ⟨by simp only; omega, hg', hk1, fun h => by cases h⟩, ?_⟩
                (repeat' first | exact Sub.nil | refine Sub.put rfl ?_ | refine Sub.put ?_ ?_)
                exact congrArg (fun z => some (Iv64 z)) (turn_next (by have := hsr.len; omega))
            · rename_i e1
              rw [e1] at h; cases h
            · have hd1 : done = true := by simpa using h
              refine ⟨l', next l' hg' hk1 (fun _ _ => hk2 hd1), ?_⟩
              (repeat' first | exact Sub.nil | refine Sub.put rfl ?_ | refine Sub.put ?_ ?_)
            · refine AW.draw hmix (AD.start [] [0, 1, 2] ?_)
              refine AD.vals hF hτ rfl ?_
              refine AD.finC 3 [] (fuel2 := 1) rfl rfl rfl (OpF.store hF rfl rfl (hτ _ _ rfl) rfl rfl rfl rfl (Nat.le_of_ble_eq_true rfl) rfl) (by kernel_rfl) (by kernel_rfl) rfl rfl rfl (DS.ofVals hF hτ (is := [1, 2]) rfl (newD_of (by kernel_rfl))) (by kernel_rfl) (AA.tail (fuel := 0) [4] _ (by kernel_rfl) ?_) rfl
              refine Wv hF hτ rfl ?_
              (repeat' first | apply Wq | refine Ws hF hτ rfl ?_ | apply Wb | apply Wl | apply Wk | apply We | apply Wc | apply Wd | refine Wt rfl rfl ?_ | refine Wf rfl rfl ?_ | refine Wi rfl rfl (fun h => ?_) (fun h => ?_) | refine Wx hF hτ rfl rfl rfl rfl rfl rfl rfl rfl (fun h => ?_) (fun h => ?_) | apply Wn)
              refine AW.ret ⟨.inr rfl, .inr b.id, ⟨b, hbm, rfl⟩, rfl, ?_⟩
              (repeat' first | exact Sub.nil | refine Sub.put rfl ?_ | refine Sub.put ?_ ?_)
            · have hd1 : done = true := by simpa using h
              refine ⟨l', next l' hg' hk1 (fun _ _ => hk2 hd1), ?_⟩
              (repeat' first | exact Sub.nil | refine Sub.put rfl ?_ | refine Sub.put ?_ ?_)
      · obtain ⟨hg2, hin⟩ := hgj
        have hfull := hg2.full hup (fun i hi => by
          obtain ⟨b, hbm, q1, q2, rfl⟩ := mem_aboard.1 hi
          obtain ⟨n, hn⟩ := List.mem_iff_getElem?.1 hbm
          exact hin n b (by have := (List.getElem?_eq_some_iff.1 hn).1; simpa using this) hn q1 q2)
        have hll := hg2.len
        (repeat' first | apply Wq | refine Ws hF hτ rfl ?_ | apply Wb | apply Wl | apply Wk | apply We | apply Wc | apply Wd | refine Wt rfl rfl ?_ | refine Wf rfl rfl ?_ | refine Wi rfl rfl (fun h => ?_) (fun h => ?_) | refine Wx hF hτ rfl rfl rfl rfl rfl rfl rfl rfl (fun h => ?_) (fun h => ?_) | apply Wn)
        refine AL.opM (OpM.makeMap hF rfl 2 rfl rfl) rfl rfl ?_
        refine Wv hF hτ rfl ?_
        (repeat' first | apply Wq | refine Ws hF hτ rfl ?_ | apply Wb | apply Wl | apply Wk | apply We | apply Wc | apply Wd | refine Wt rfl rfl ?_ | refine Wf rfl rfl ?_ | refine Wi rfl rfl (fun h => ?_) (fun h => ?_) | refine Wx hF hτ rfl rfl rfl rfl rfl rfl rfl rfl (fun h => ?_) (fun h => ?_) | apply Wn)
        refine AW.rangeX hF rfl rfl rfl rfl rfl rfl rfl rfl rfl (X := Was) (l.map Stowed.enc).length (by simp [lim]; omega) (fun i m' => (.s 11, mpWas m') :: (.s 13, Vs (l.map Stowed.enc)) :: (.s 159, Vs (l.map Stowed.enc)) :: voyE s boxes home calls k ls) (fun i m' => Low m') [] (fun p hp => by cases hp) ?_ ?_ (fun i m' hi hm' => ?_) (fun m' hm' => ?_)
        · exact fun _ _ => rfl
        · (repeat' first | exact Sub.nil | refine Sub.put rfl ?_ | refine Sub.put ?_ ?_)
        · obtain ⟨x, hx⟩ := get_ex hi
          have hxt := hg2.1.slots x (List.mem_of_getElem? hx)
          (repeat' first | apply Wq | refine Ws hF hτ rfl ?_ | apply Wb | apply Wl | apply Wk | apply We | apply Wn)
          refine AL.opM (OpM.indexD hF rfl (hτ _ _ rfl) rfl (hτ _ _ rfl) rfl (i := i) rfl ( get_enc Stowed.enc hx) rfl rfl rfl) rfl rfl ?_
          refine Wv hF hτ rfl ?_
          (repeat' first | apply Wq | refine Ws hF hτ rfl ?_ | apply Wb | apply Wl | apply Wk | apply We | apply Wc | apply Wd | refine Wt rfl rfl ?_ | refine Wf rfl rfl ?_ | refine Wi rfl rfl (fun h => ?_) (fun h => ?_) | refine Wx hF hτ rfl rfl rfl rfl rfl rfl rfl rfl (fun h => ?_) (fun h => ?_) | apply Wn)
          refine AL.op rfl (OpTo.mapUpdate hF rfl rfl (hτ _ _ rfl) rfl kl3 (m := imap ek1 Slot.enc m') (tm := 2) rfl rfl (ns := [x.box]) rfl rfl (was_lens m') rfl rfl (ds := x.slot.enc) rfl rfl) ?_
          (repeat' first | apply Wq | refine Ws hF hτ rfl ?_ | apply Wb | apply Wl | apply Wk | apply We | apply Wc | apply Wd | refine Wt rfl rfl ?_ | refine Wf rfl rfl ?_ | refine Wi rfl rfl (fun h => ?_) (fun h => ?_) | refine Wx hF hτ rfl rfl rfl rfl rfl rfl rfl rfl (fun h => ?_) (fun h => ?_) | apply Wn)
          refine ⟨setK x.box x.slot m', setK_low hm' _ (by omega), ?_⟩
          (repeat' first | exact Sub.nil | refine Sub.put rfl ?_ | refine Sub.put ?_ ?_)
          exact congrArg (fun z => some (V.mp 2 (mkE [.i64] z))) (set_imap ek1_inj x.box x.slot m')
        · (repeat' first | apply Wq | refine Ws hF hτ rfl ?_ | apply Wb | apply Wl | apply Wk | apply We | apply Wc | apply Wd | refine Wt rfl rfl ?_ | refine Wf rfl rfl ?_ | refine Wi rfl rfl (fun h => ?_) (fun h => ?_) | refine Wx hF hτ rfl rfl rfl rfl rfl rfl rfl rfl (fun h => ?_) (fun h => ?_) | apply Wn)
          refine AL.opM (OpM.buildSlice hF rfl (hτ _ _ rfl) rfl (hτ _ _ rfl) rfl rfl rfl (by decide) (by decide) rfl rfl) rfl rfl ?_
          refine AL.op rfl (OpTo.append hF rfl rfl rfl rfl (hτ _ _ rfl) rfl (hτ _ _ rfl) rfl rfl rfl rfl (by intro cs h; cases h with | head => rfl | tail _ h => cases h) (by simp [Base.xs, chunks, lim]; omega) (by simp [Base.xs, chunks, lim]; omega) rfl rfl rfl) ?_
          refine Wv hF hτ rfl ?_
          (repeat' first | apply Wq | refine Ws hF hτ rfl ?_ | apply Wb | apply Wl | apply Wk | apply We | apply Wc | apply Wd | refine Wt rfl rfl ?_ | refine Wf rfl rfl ?_ | refine Wi rfl rfl (fun h => ?_) (fun h => ?_) | refine Wx hF hτ rfl rfl rfl rfl rfl rfl rfl rfl (fun h => ?_) (fun h => ?_) | apply Wn)
          refine ⟨((k + 1, ls ++ [l]), m'), by simp only; omega, ⟨by simp only; omega, by simp [hlen], ?_, hm'⟩, ?_⟩
          · intro i x hx
            rcases Nat.lt_or_ge i ls.length with h1 | h1
            · rw [List.getElem?_append_left h1] at hx
              exact hpg i x hx
            · rw [List.getElem?_append_right h1] at hx
              have : i = ls.length := by
                have := (List.getElem?_eq_some_iff.1 hx).1
                simp at this; omega
              subst this
              simp at hx
              subst hx
              rw [hlen]
              exact ⟨hg2.1, hfull⟩
          · (repeat' first | exact Sub.nil | refine Sub.put rfl ?_ | refine Sub.put ?_ ?_)
            · refine congrArg (fun z => some (V.row true 86 z)) ?_
              simp [chunks, encS]
            · exact congrArg (fun z => some (Iv64 z)) (turn_next (n := k) (by omega))
  · refine AW.ent (Ent.frzs (ls := [.c 8 0]) rfl) ?_
    refine AW.ret ⟨.inr rfl, .inl ls, ⟨by have := of_decide_eq_false h; omega, hpg⟩, rfl, ?_⟩
    (repeat' first | exact Sub.nil | refine Sub.put rfl ?_ | refine Sub.put ?_ ?_)
end Go.Proofs.VL
namespace Go.Proofs.VL
open Go Go.RowKit
variable {F : Fence}
structure Item where
  column : UInt8
  kilos : UInt8
  load : UInt8
  stay : UInt8
  small : Bool
  high : Bool
def Item.enc (x : Item) : List D := [du x.column.toNat, du x.kilos.toNat, du x.load.toNat, du x.stay.toNat, db x.small, db x.high]
theorem lens_item (l : List Item) : lens 6 (l.map Item.enc) := lens_map (enc := Item.enc) (fun _ => rfl) l
structure BoxFit (calls : Nat) (b : Box) : Prop where
  id0 : 1 ≤ b.id
  id1 : b.id ≤ 1000
  size : b.size = 40 ∨ (b.size = 20 ∧ b.reefer = false)
  load : 0 ≤ b.load
  stay : b.load < b.disch
  disch : b.disch < calls
def VoyFit (calls : Nat) (boxes : List Box) : Prop := boxes.length ≤ 8 ∧ BoxesUp boxes ∧ ∀ b ∈ boxes, BoxFit calls b
def VoyJ (s : Ship) (calls : Nat) (x : List Box × List (List Stowed)) : Prop := VoyFit calls x.1 ∧ x.2.length = calls ∧ PlanGood s x.1 x.2
def voyR2 (x : List Box × List (List Stowed)) : V := .tu [Vs (x.1.map Box.enc), Vd (planEnc x.2)]
def boxLd (calls : Nat) (it : Item) : Nat := it.load.toNat % (calls - 1)
def boxDc (calls : Nat) (it : Item) : Nat := boxLd calls it + 1 + it.stay.toNat % (calls - 1 - boxLd calls it)
def boxAt (calls k : Nat) (it : Item) : Box := ⟨5 * ((k : Int) + 1), ByteArray.empty, if it.small then 20 else 40, if it.small then false else it.high, 1000 + 100 * (it.kilos.toNat : Int), boxLd calls it, boxDc calls it, 0, false⟩
theorem boxLd_lt {calls : Nat} (h : 2 ≤ calls) (it : Item) : boxLd calls it < calls - 1 := Nat.mod_lt _ (by omega)
theorem boxDc_lt {calls : Nat} (h : 2 ≤ calls) (it : Item) : boxDc calls it < calls := by
  have h1 := boxLd_lt h it
  have := Nat.mod_lt it.stay.toNat (show 0 < calls - 1 - boxLd calls it by omega)
  rw [boxDc]; omega
theorem boxAt_fit {calls k : Nat} (h : 2 ≤ calls) (hk : k < 8) (it : Item) : BoxFit calls (boxAt calls k it) where
  id0 := by simp only [boxAt]; omega
  id1 := by simp only [boxAt]; omega
  size := by cases hs : it.small <;> simp [boxAt, hs]
  load := by simp only [boxAt]; omega
  stay := by simp only [boxAt, boxDc]; omega
  disch := by have := boxDc_lt h it; simp only [boxAt]; omega
theorem tmod8 (n m : Nat) (h : n < 256) : (IntKind.wrap .i64 (n : Int)).tmod (m : Int) = ((n % m : Nat) : Int) := by rw [wrap_id (by omega) (by omega)]; rfl
set_option maxRecDepth 100000 in
set_option maxHeartbeats 4000000 in
theorem f7 (hF : Wide F) (hro : F.round = none) (s : Ship) (items : List Item) (calls : Nat) (hs : s.small) (hsr : ShipRight s) (hc2 : 2 ≤ calls) (hc6 : calls ≤ 6) :
    FnE Tryz.prog F 7 4 [(.s 0, Vd s.enc), (.s 1, Vs (items.map Item.enc)), (.s 2, Iv64 calls), (.s 3, Iv64 8)] (VoyJ s calls) voyR2 (fun _ => []) := by
  refine Fn.of_AWX (K := []) hF hro hτ (show Tryz.prog.funcs[7]? = some Tryz.f7 from Tryz.func7) rfl (by decide) rfl (Nat.le_of_ble_eq_true rfl) (fun _ => rfl) (fun _ => rfl) ?_
  (repeat' first | apply Wq | refine Ws hF hτ rfl ?_ | apply Wb | apply Wl | apply Wk | apply We | apply Wc | apply Wd | refine Wt rfl rfl ?_ | refine Wf rfl rfl ?_ | refine Wi rfl rfl (fun h => ?_) (fun h => ?_) | refine Wx hF hτ rfl rfl rfl rfl rfl rfl rfl rfl (fun h => ?_) (fun h => ?_) | apply Wn)
  refine AL.opM (OpM.makeMap hF rfl 0 rfl rfl) rfl rfl ?_
  refine Wv hF hτ rfl ?_
  (repeat' first | apply Wq | refine Ws hF hτ rfl ?_ | apply Wb | apply Wl | apply Wk | apply We | apply Wc | apply Wd | refine Wt rfl rfl ?_ | refine Wf rfl rfl ?_ | refine Wi rfl rfl (fun h => ?_) (fun h => ?_) | refine Wx hF hτ rfl rfl rfl rfl rfl rfl rfl rfl (fun h => ?_) (fun h => ?_) | apply Wn)
  have hlen : (if (8 : Int) < ((items.map Item.enc).length : Int) then (8 : Int) else ((items.map Item.enc).length : Int)) = ((items.take 8).length : Int) := by
    simp only [List.length_map, List.length_take]
    split <;> omega
  refine AL.opM (OpM.eq (congrArg Iv64 hlen) (OpM.min hF rfl rfl rfl rfl rfl rfl rfl)) rfl rfl ?_
  refine AL.opM (OpM.eq (v' := Vs ((items.take 8).map Item.enc)) ?_ (OpM.sliceD hF rfl (hτ _ _ rfl) rfl (hτ _ _ rfl) rfl (lens_item items) (l := 0) (h := (items.take 8).length) (.inl ⟨rfl, rfl⟩) (.inr ⟨_, .i64, rfl, rfl⟩) ?_ ?_ rfl rfl)) rfl rfl ?_
  · simp [List.map_take, List.take_take]
  · omega
  · simp; omega
  refine Wv hF hτ rfl ?_
  (repeat' first | apply Wq | refine Ws hF hτ rfl ?_ | apply Wb | apply Wl | apply Wk | apply We | apply Wc | apply Wd | refine Wt rfl rfl ?_ | refine Wf rfl rfl ?_ | refine Wi rfl rfl (fun h => ?_) (fun h => ?_) | refine Wx hF hτ rfl rfl rfl rfl rfl rfl rfl rfl (fun h => ?_) (fun h => ?_) | apply Wn)
  have hit8 : (items.take 8).length ≤ 8 := by simp; omega
  generalize items.take 8 = its at hit8
  refine AW.rangeX hF rfl rfl rfl rfl rfl rfl rfl rfl rfl (X := List Box × List (Int × Int)) (its.map Item.enc).length (by simp [lim]; omega) (fun k x => [(.s 26, Vs (its.map Item.enc)), (.s 2, Iv64 calls), (.s 4, .bx 35 (s.enc.map .d)), (.s 8, .row true 46 []), (.s 9, .bx 41 [.d .nl, .d .nl]), (.s 10, .row true 46 (x.1.map Box.enc)), (.s 11, mpHome x.2)]) (fun k x => x.1.length = k ∧ (∀ (i : Nat) (b : Box), x.1[i]? = some b → b.id = 5 * ((i : Int) + 1)) ∧ ∀ b ∈ x.1, BoxFit calls b) ([], []) ⟨rfl, fun i b h => by simp at h, fun b h => by cases h⟩ ?_ ?_ (fun k x hk hJ => ?_) (fun x hJ => ?_)
  · exact fun _ _ => rfl
  · (repeat' first | exact Sub.nil | refine Sub.put rfl ?_ | refine Sub.put ?_ ?_)
  · obtain ⟨boxes, home⟩ := x
    obtain ⟨hbl, hid, hfit⟩ := hJ
    simp only at hbl hid hfit ⊢
    obtain ⟨it, hit⟩ := get_ex hk
    have hk8 : k < 8 := by simp at hk; omega
    (repeat' first | apply Wq | refine Ws hF hτ rfl ?_ | apply Wb | apply Wl | apply Wk | apply We | apply Wn)
    refine AL.opM (OpM.indexD hF rfl (hτ _ _ rfl) rfl (hτ _ _ rfl) rfl (i := k) rfl ( get_enc Item.enc hit) rfl rfl rfl) rfl rfl ?_
    refine Wv hF hτ rfl ?_
    (repeat' first | apply Wq | refine Ws hF hτ rfl ?_ | apply Wb | apply Wl | apply Wk | apply We | apply Wc | apply Wd | refine Wt rfl rfl ?_ | refine Wf rfl rfl ?_ | refine Wi rfl rfl (fun h => ?_) (fun h => ?_) | refine Wx hF hτ rfl rfl rfl rfl rfl rfl rfl rfl (fun h => ?_) (fun h => ?_) | apply Wn)
    refine AW.draw hmix (AD.start [] [0, 1, 2, 3, 4, 5, 6, 7, 8, 9, 10, 11, 12, 13, 14, 15, 16, 17] ?_)
    refine AD.vals hF hτ rfl ?_
    have hn1 := UInt8.toNat_lt it.load
    have hn2 := UInt8.toNat_lt it.stay
    have hn3 := UInt8.toNat_lt it.kilos
    have hn4 := UInt8.toNat_lt it.column
    have hld := boxLd_lt hc2 it
    have hdc := boxDc_lt hc2 it
    have hc1 : IntKind.wrap .i64 ((calls : Int) - 1) = ((calls - 1 : Nat) : Int) := (wrap_id (by omega) (by omega)).trans (by omega)
    have hr1 : (IntKind.wrap .i64 (it.load.toNat : Int)).tmod (IntKind.wrap .i64 ((calls : Int) - 1)) = (boxLd calls it : Int) := by rw [hc1, tmod8 _ _ hn1]; rfl
    have hc3 : IntKind.wrap .i64 (IntKind.wrap .i64 ((calls : Int) - 1) - (boxLd calls it : Int)) = ((calls - 1 - boxLd calls it : Nat) : Int) := by rw [hc1]; exact (wrap_id (by omega) (by omega)).trans (by omega)
    have hr2 : (IntKind.wrap .i64 (it.stay.toNat : Int)).tmod (IntKind.wrap .i64 (IntKind.wrap .i64 ((calls : Int) - 1) - (boxLd calls it : Int))) = ((it.stay.toNat % (calls - 1 - boxLd calls it) : Nat) : Int) := by rw [hc3, tmod8 _ _ hn2]
    refine AD.op (o := _) rfl rfl rfl (OpM.eq (congrArg Iv64 hr1) (OpM.rem hF rfl rfl rfl (by rw [hc1]; omega) rfl rfl)) ?_
    refine AD.vals hF hτ rfl ?_
    refine AD.fin (by kernel_rfl) rfl rfl (AA.tail (fuel := 0) [18] _ (by kernel_rfl) ?_)
    refine Wv hF hτ rfl ?_
    (repeat' first | apply Wq | refine Ws hF hτ rfl ?_ | apply Wb | apply Wl | apply Wk | apply We | apply Wc | apply Wd | refine Wt rfl rfl ?_ | refine Wf rfl rfl ?_ | refine Wi rfl rfl (fun h => ?_) (fun h => ?_) | refine Wx hF hτ rfl rfl rfl rfl rfl rfl rfl rfl (fun h => ?_) (fun h => ?_) | apply Wn)
    refine AW.subE (E' := [(.s 14, .bx 46 ((⟨5 * ((k : Int) + 1), ByteArray.empty, 40, it.high, 1000 + 100 * (it.kilos.toNat : Int), boxLd calls it, 0, 0, false⟩ : Box).enc.map .d)), (.s 13, .bx 119 (it.enc.map .d)), (.s 28, Iv64 k), (.s 27, Iv64 (its.map Item.enc).length), (.s 26, Vs (its.map Item.enc)), (.s 2, Iv64 calls), (.s 4, .bx 35 (s.enc.map .d)), (.s 8, .row true 46 []), (.s 9, .bx 41 [.d .nl, .d .nl]), (.s 10, .row true 46 (boxes.map Box.enc)), (.s 11, mpHome home)]) ?_ (nodupB_ok rfl) ?_
    · (repeat' first | exact Sub.nil | refine Sub.put rfl ?_ | refine Sub.put ?_ ?_)
      refine congrArg (fun z => some (V.bx 46 z)) ?_
      rw [show IntKind.wrap .i64 ((k : Int) + 1) = (k : Int) + 1 from wrap_id (by omega) (by omega), show IntKind.wrap .i64 (5 * ((k : Int) + 1)) = 5 * ((k : Int) + 1) from wrap_id (by omega) (by omega), show IntKind.wrap .i64 (it.kilos.toNat : Int) = (it.kilos.toNat : Int) from wrap_id (by omega) (by omega), show IntKind.wrap .i64 (100 * (it.kilos.toNat : Int)) = 100 * (it.kilos.toNat : Int) from wrap_id (by omega) (by omega), show IntKind.wrap .i64 (1000 + 100 * (it.kilos.toNat : Int)) = 1000 + 100 * (it.kilos.toNat : Int) from wrap_id (by omega) (by omega)]
      rfl
    refine AW.draw hmix (AD.start [] [0, 1, 2, 3, 4, 5, 6, 7, 8, 9, 10, 11, 12] ?_)
    refine AD.vals hF hτ rfl ?_
    refine AD.op (o := _) rfl rfl rfl (OpM.eq (congrArg Iv64 hr2) (OpM.rem hF rfl rfl rfl (by rw [hc3]; omega) rfl rfl)) ?_
    refine AD.vals hF hτ rfl ?_
    refine AD.fin (by kernel_rfl) rfl rfl (AA.tail (fuel := 0) [13, 14] _ (by kernel_rfl) ?_)
    refine Wv hF hτ rfl ?_
    refine Wn ?_
    (repeat' first | apply Wq | refine Ws hF hτ rfl ?_ | apply Wb | apply Wl | apply Wk | apply We | apply Wn)
    have hdv : IntKind.wrap .i64 (IntKind.wrap .i64 ((boxLd calls it : Int) + 1) + ((it.stay.toNat % (calls - 1 - boxLd calls it) : Nat) : Int)) = (boxDc calls it : Int) := by
      rw [boxDc] at hdc ⊢
      rw [show IntKind.wrap .i64 ((boxLd calls it : Int) + 1) = (boxLd calls it : Int) + 1 from wrap_id (by omega) (by omega)]
      exact (wrap_id (by omega) (by omega)).trans (by omega)
    refine AW.to [(.s 14, .bx 46 ((boxAt calls k it).enc.map .d)), (.s 13, .bx 119 (it.enc.map .d)), (.s 28, Iv64 k), (.s 27, Iv64 (its.map Item.enc).length), (.s 26, Vs (its.map Item.enc)), (.s 2, Iv64 calls), (.s 4, .bx 35 (s.enc.map .d)), (.s 8, .row true 46 []), (.s 9, .bx 41 [.d .nl, .d .nl]), (.s 10, .row true 46 (boxes.map Box.enc)), (.s 11, mpHome home)] rfl (AW.cond rfl rfl (fun hd => ?_) (fun hd => ?_)) ?_
    · (repeat' first | apply Wq | refine Ws hF hτ rfl ?_ | apply Wb | apply Wl | apply Wk | apply We | apply Wn)
      (repeat' first | exact Sub.nil | refine Sub.put rfl ?_ | refine Sub.put ?_ ?_)
      refine congrArg (fun z => some (V.bx 46 z)) ?_
      rw [boxAt, hd, ← hdv]
      rfl
    · (repeat' first | apply Wq | refine Ws hF hτ rfl ?_ | apply Wb | apply Wl | apply Wk | apply We | apply Wn)
      (repeat' first | exact Sub.nil | refine Sub.put rfl ?_ | refine Sub.put ?_ ?_)
      refine congrArg (fun z => some (V.bx 46 z)) ?_
      rw [boxAt, hd, ← hdv]
      rfl
    generalize hb1 : boxAt calls k it = b1
    have hbf : BoxFit calls b1 := hb1 ▸ boxAt_fit hc2 hk8 it
    have hbi : b1.id = 5 * ((k : Int) + 1) := by rw [← hb1]; rfl
    (repeat' first | apply Wq | refine Ws hF hτ rfl ?_ | apply Wb | apply Wl | apply Wk | apply We | apply Wn)
    refine AW.draw hmix (AD.start [] [0, 1, 2, 3, 4, 5, 6, 7, 8, 9] ?_)
    refine AD.vals hF hτ rfl ?_
    refine AD.op (o := _) rfl rfl rfl (OpM.rem hF rfl rfl rfl (by have := hsr.len; rw [List.length_map]; omega) rfl rfl) ?_
    refine AD.vals hF hτ rfl ?_
    refine AD.fin (by kernel_rfl) rfl rfl (AA.tail (fuel := 0) [10] _ (by kernel_rfl) ?_)
    refine Wv hF hτ rfl ?_
    refine AL.op rfl (OpTo.mapUpdate hF rfl rfl (hτ _ _ rfl) rfl kl3 (m := imap ek1 evN home) (tm := 0) rfl rfl (ns := [b1.id]) rfl rfl (home_lens home) rfl rfl rfl rfl) ?_
    (repeat' first | apply Wq | refine Ws hF hτ rfl ?_ | apply Wb | apply Wl | apply Wk | apply We | apply Wc | apply Wd | refine Wt rfl rfl ?_ | refine Wf rfl rfl ?_ | refine Wi rfl rfl (fun h => ?_) (fun h => ?_) | refine Wx hF hτ rfl rfl rfl rfl rfl rfl rfl rfl (fun h => ?_) (fun h => ?_) | apply Wn)
    refine AL.opM (OpM.buildSlice hF rfl (hτ _ _ rfl) rfl (hτ _ _ rfl) rfl rfl rfl (by decide) (by decide) rfl rfl) rfl rfl ?_
    refine AL.op rfl (OpTo.append hF rfl rfl rfl rfl (hτ _ _ rfl) rfl (hτ _ _ rfl) rfl rfl rfl rfl (by intro cs h; cases h with | head => rfl | tail _ h => cases h) (by simp [Base.xs, chunks, lim]; omega) (by simp [Base.xs, chunks, lim]; omega) rfl rfl rfl) ?_
    refine Wv hF hτ rfl ?_
    (repeat' first | apply Wq | refine Ws hF hτ rfl ?_ | apply Wb | apply Wl | apply Wk | apply We | apply Wc | apply Wd | refine Wt rfl rfl ?_ | refine Wf rfl rfl ?_ | refine Wi rfl rfl (fun h => ?_) (fun h => ?_) | refine Wx hF hτ rfl rfl rfl rfl rfl rfl rfl rfl (fun h => ?_) (fun h => ?_) | apply Wn)
    refine ⟨(boxes ++ [b1], setK b1.id ((IntKind.wrap .i64 (it.column.toNat : Int)).tmod ((s.cols.map Column.enc).length : Nat)) home), ⟨by simp [hbl], fun i b hb => ?_, fun b hb => ?_⟩, ?_⟩
    · simp only at hb
      rcases Nat.lt_or_ge i boxes.length with h1 | h1
      · rw [List.getElem?_append_left h1] at hb
        exact hid i b hb
      · rw [List.getElem?_append_right h1] at hb
        have : i = boxes.length := by
          have := (List.getElem?_eq_some_iff.1 hb).1
          simp at this; omega
        subst this
        simp at hb
        subst hb
        rw [hbi, hbl]
    · rcases List.mem_append.1 hb with hb | hb
      · exact hfit b hb
      · simp at hb; subst hb; exact hbf
    · (repeat' first | exact Sub.nil | refine Sub.put rfl ?_ | refine Sub.put ?_ ?_)
      · refine congrArg (fun z => some (V.row true 46 z)) ?_
        simp [chunks]
        rfl
      · exact congrArg (fun z => some (V.mp 0 (mkE [.i64] z))) (set_imap (ev := evN) ek1_inj b1.id _ home)
  · obtain ⟨boxes, home⟩ := x
    obtain ⟨hbl, hid, hfit⟩ := hJ
    simp only at hbl hid hfit ⊢
    have hup : BoxesUp boxes := by
      refine adj_sorted fun k a b ha hb => ?_
      simp only [List.getElem?_map, Option.map_eq_some_iff] at ha hb
      obtain ⟨x, hx, rfl⟩ := ha
      obtain ⟨y, hy, rfl⟩ := hb
      rw [hid k x hx, hid (k + 1) y hy]
      omega
    have hb8 : boxes.length ≤ 8 := by simp at hbl; omega
    (repeat' first | apply Wq | refine Ws hF hτ rfl ?_ | apply Wb | apply Wl | apply Wk | apply We | apply Wc | apply Wd | refine Wt rfl rfl ?_ | refine Wf rfl rfl ?_ | refine Wi rfl rfl (fun h => ?_) (fun h => ?_) | refine Wx hF hτ rfl rfl rfl rfl rfl rfl rfl rfl (fun h => ?_) (fun h => ?_) | apply Wn)
    refine AW.ent (Ent.frzs (ls := [.s 10]) rfl) ?_
    refine AW.rangeX hF rfl rfl rfl rfl rfl rfl rfl rfl rfl (X := List Box) ((boxes.map Box.enc).length + 1) (by simp [lim]; omega) (fun k bx => [(.s 2, Iv64 calls), (.s 4, .bx 35 (s.enc.map .d)), (.s 8, .row true 46 []), (.s 9, .bx 41 [.d .nl, .d .nl]), (.s 10, Vs (bx.map Box.enc)), (.s 11, mpHome home)]) (fun k bx => VoyFit calls bx ∧ bx.length + k ≤ boxes.length) boxes ⟨⟨hb8, hup, hfit⟩, Nat.le_refl _⟩ ?_ ?_ (fun k bx hk hJ => ?_) (fun bx hJ => ?_)
    · exact fun _ _ => rfl
    · (repeat' first | exact Sub.nil | refine Sub.put rfl ?_ | refine Sub.put ?_ ?_)
      exact congrArg (fun z => some (Iv64 z)) (turn_next (by simp; omega))
    · obtain ⟨⟨hb8', hup', hfit'⟩, hlk⟩ := hJ
      (repeat' first | apply Wq | refine Ws hF hτ rfl ?_ | apply Wb | apply Wl | apply Wk | apply We | apply Wn)
      refine AL.opX rfl (OpToX.callX (na := 4) (J := voyJ s bx calls) (r := voyR) (H := fun _ => [(.s 2, mpHome home)]) hF rfl rfl rfl rfl rfl rfl rfl (f43 hF hro s bx home calls hs hsr (by omega) hup' (by omega)) (H' := fun _ => [(.s 11, mpHome home)]) (fun _ => rfl) (r' := voyR) (fun x => by cases x <;> rfl) rfl rfl) (fun x hx => ?_)
      rcases x with ls | id
      · refine Wv hF hτ rfl ?_
        (repeat' first | apply Wq | refine Ws hF hτ rfl ?_ | apply Wb | apply Wl | apply Wk | apply We | apply Wc | apply Wd | refine Wt rfl rfl ?_ | refine Wf rfl rfl ?_ | refine Wi rfl rfl (fun h => ?_) (fun h => ?_) | refine Wx hF hτ rfl rfl rfl rfl rfl rfl rfl rfl (fun h => ?_) (fun h => ?_) | apply Wn)
        refine AW.forget (.s 8) rfl ?_
        refine AW.draw hmix (AD.start [] [0, 1, 2] ?_)
        refine AD.vals hF hτ rfl ?_
        refine AD.fin (by kernel_rfl) rfl rfl (AA.tail (fuel := 0) [3] _ (by kernel_rfl) ?_)
        refine Wv hF hτ rfl ?_
        (repeat' first | apply Wq | refine Ws hF hτ rfl ?_ | apply Wb | apply Wl | apply Wk | apply We | apply Wc | apply Wd | refine Wt rfl rfl ?_ | refine Wf rfl rfl ?_ | refine Wi rfl rfl (fun h => ?_) (fun h => ?_) | refine Wx hF hτ rfl rfl rfl rfl rfl rfl rfl rfl (fun h => ?_) (fun h => ?_) | apply Wn)
        refine AW.ret ⟨.inr rfl, (bx, ls), ⟨⟨hb8', hup', hfit'⟩, hx.1, hx.2⟩, rfl, Sub.nil⟩
      · obtain ⟨b0, hb0, hid0⟩ := hx
        have hpos := (hfit' b0 hb0).id0
        refine Wv hF hτ rfl ?_
        (repeat' first | apply Wq | refine Ws hF hτ rfl ?_ | apply Wb | apply Wl | apply Wk | apply We | apply Wc | apply Wd | refine Wt rfl rfl ?_ | refine Wf rfl rfl ?_ | refine Wi rfl rfl (fun h => ?_) (fun h => ?_) | refine Wx hF hτ rfl rfl rfl rfl rfl rfl rfl rfl (fun h => ?_) (fun h => ?_) | apply Wn)
        · exact absurd h (by simp; omega)
        refine AW.range hF rfl rfl rfl rfl rfl rfl rfl rfl rfl (bx.map Box.enc).length (by simp [lim]; omega) (fun j => [(.s 100, Vs (bx.map Box.enc)), (.s 16, Iv64 id), (.s 17, .row true 46 (((bx.take j).filter (fun b => !(b.id == id))).map Box.enc)), (.s 86, Iv64 k), (.s 85, Iv64 ((boxes.map Box.enc).length + 1 : Nat)), (.s 2, Iv64 calls), (.s 4, .bx 35 (s.enc.map .d)), (.s 8, .row true 46 []), (.s 9, .bx 41 [.d .nl, .d .nl]), (.s 11, mpHome home)]) ?_ ?_ (fun j hj => ?_) ?_
        · exact fun _ => rfl
        · (repeat' first | exact Sub.nil | refine Sub.put rfl ?_ | refine Sub.put ?_ ?_)
        · obtain ⟨b, hbj⟩ := get_ex hj
          have hsn := take_snoc hbj
          have hfl : ((bx.take j).filter (fun b => !(b.id == id))).length ≤ 8 := by
            refine Nat.le_trans (List.length_filter_le _ _) ?_
            simp; omega
          rw [hsn, List.filter_append, List.map_append]
          generalize (bx.take j).filter (fun b => !(b.id == id)) = acc at hfl
          (repeat' first | apply Wq | refine Ws hF hτ rfl ?_ | apply Wb | apply Wl | apply Wk | apply We | apply Wn)
          refine AL.opM (OpM.indexD hF rfl (hτ _ _ rfl) rfl (hτ _ _ rfl) rfl (i := j) rfl ( get_enc Box.enc hbj) rfl rfl rfl) rfl rfl ?_
          refine Wv hF hτ rfl ?_
          (repeat' first | apply Wq | refine Ws hF hτ rfl ?_ | apply Wb | apply Wl | apply Wk | apply We | apply Wc | apply Wd | refine Wt rfl rfl ?_ | refine Wf rfl rfl ?_ | refine Wi rfl rfl (fun h => ?_) (fun h => ?_) | refine Wx hF hτ rfl rfl rfl rfl rfl rfl rfl rfl (fun h => ?_) (fun h => ?_) | apply Wn)
          · refine AL.opM (OpM.buildSlice hF rfl (hτ _ _ rfl) rfl (hτ _ _ rfl) rfl rfl rfl (by decide) (by decide) rfl rfl) rfl rfl ?_
            refine AL.op rfl (OpTo.append hF rfl rfl rfl rfl (hτ _ _ rfl) rfl (hτ _ _ rfl) rfl rfl rfl rfl (by intro cs h; cases h with | head => rfl | tail _ h => cases h) (by simp [Base.xs, chunks, lim]; omega) (by simp [Base.xs, chunks, lim]; omega) rfl rfl rfl) ?_
            refine Wv hF hτ rfl ?_
            (repeat' first | apply Wq | refine Ws hF hτ rfl ?_ | apply Wb | apply Wl | apply Wk | apply We | apply Wc | apply Wd | refine Wt rfl rfl ?_ | refine Wf rfl rfl ?_ | refine Wi rfl rfl (fun h => ?_) (fun h => ?_) | refine Wx hF hτ rfl rfl rfl rfl rfl rfl rfl rfl (fun h => ?_) (fun h => ?_) | apply Wn)
            (repeat' first | exact Sub.nil | refine Sub.put rfl ?_ | refine Sub.put ?_ ?_)
            refine congrArg (fun z => some (V.row true 46 z)) ?_
            simp [chunks, List.filter_cons, h]
            rfl
          · (repeat' first | exact Sub.nil | refine Sub.put rfl ?_ | refine Sub.put ?_ ?_)
            refine congrArg (fun z => some (V.row true 46 z)) ?_
            simp [List.filter_cons, h]
        · rw [show List.take (bx.map Box.enc).length bx = bx by simp]
          refine AW.ent (Ent.frzs (ls := [.s 17]) rfl) ?_
          (repeat' first | apply Wq | refine Ws hF hτ rfl ?_ | apply Wb | apply Wl | apply Wk | apply We | apply Wc | apply Wd | refine Wt rfl rfl ?_ | refine Wf rfl rfl ?_ | refine Wi rfl rfl (fun h => ?_) (fun h => ?_) | refine Wx hF hτ rfl rfl rfl rfl rfl rfl rfl rfl (fun h => ?_) (fun h => ?_) | apply Wn)
          refine ⟨bx.filter (fun b => !(b.id == id)), ⟨⟨Nat.le_trans (List.length_filter_le _ _) hb8', hup'.sublist ((List.filter_sublist).map _), fun b hb => hfit' b (List.mem_filter.1 hb).1⟩, ?_⟩, ?_⟩
          · have : (bx.filter (fun b => !(b.id == id))).length < bx.length := List.length_filter_lt_length_iff_exists.2 ⟨b0, hb0, by simp [hid0]⟩
            omega
          · (repeat' first | exact Sub.nil | refine Sub.put rfl ?_ | refine Sub.put ?_ ?_)
    · have := hJ.2
      rw [List.length_map] at this
      omega
end Go.Proofs.VL
namespace Go.Proofs.VL
open Go Go.RowKit
def lat (at_ a : Int) : Int := if a ≥ at_ then a + 1 else a
def latB (at_ : Int) (b : Box) : Box := { b with load := lat at_ b.load, disch := lat at_ b.disch }
def latG (at_ : Int) (g : Group) : Group := ⟨lat at_ g.load, lat at_ g.disch⟩
def latC (at_ : Int) (c : Count) : Count := ⟨latG at_ c.g, c.n40, c.n20⟩
theorem lat_lt {at_ a b : Int} : lat at_ a < lat at_ b ↔ a < b := by unfold lat; split <;> split <;> omega
theorem lat_inj {at_ a b : Int} (h : lat at_ a = lat at_ b) : a = b := by unfold lat at h; split at h <;> split at h <;> omega
theorem lat_cmp (at_ a b : Int) : cmpZ (lat at_ a) (lat at_ b) = cmpZ a b := by
  unfold cmpZ
  simp only [lat_lt]
theorem boxOf_lat (at_ : Int) (boxes : List Box) (id : Int) : boxOf (boxes.map (latB at_)) id = (boxOf boxes id).map (latB at_) := by
  rw [boxOf, boxOf, List.find?_map]
  rfl
theorem heightOf_lat (at_ : Int) (boxes : List Box) (half col : Int) (l : List Stowed) : heightOf (boxes.map (latB at_)) half col l = heightOf boxes half col l := by
  induction l with
  | nil => rfl
  | cons x l ih =>
    rw [heightOf, heightOf, ih, boxOf_lat]
    cases boxOf boxes x.box <;> rfl
theorem stowRight_lat (at_ : Int) {s : Ship} {boxes : List Box} {l : List Stowed} (h : StowRight s boxes l) : StowRight s (boxes.map (latB at_)) l := by
  refine ⟨h.1, fun k x hk => ?_, fun k c hk => ?_⟩
  · obtain ⟨h1, h2, h3, h4, h5⟩ := h.2.1 k x hk
    obtain ⟨b, hb⟩ := Option.isSome_iff_exists.1 h1
    refine ⟨by rw [boxOf_lat, hb]; rfl, h2, ?_, h4, h5⟩
    rw [hb] at h3
    rw [boxOf_lat, hb]
    exact h3
  · have := h.2.2 k c hk
    rw [fitsAt] at this ⊢
    rw [heightOf_lat, heightOf_lat]
    exact this
theorem boxesFrom_of {calls : Nat} : ∀ {l : List Box} {last : Int}, (∀ b ∈ l, last < b.id) → BoxesUp l → (∀ b ∈ l, BoxFit calls b) → boxesFrom calls last l = true
  | [], _, _, _, _ => rfl
  | b :: l, last, h1, h2, h3 => by
    have hb := h3 b (.head _)
    have hl := h1 b (.head _)
    rw [BoxesUp, List.map_cons, List.pairwise_cons] at h2
    rw [boxesFrom, boxesFrom_of (fun c hc => h2.1 _ (List.mem_map_of_mem hc)) h2.2 (fun c hc => h3 c (.tail _ hc)), Bool.and_true]
    have q1 := hb.id1
    have q2 := hb.load
    have q3 := hb.stay
    have q4 := hb.disch
    have e1 : decide (b.id ≤ last) = false := decide_eq_false (by omega)
    have e2 : decide (999999 < b.id) = false := decide_eq_false (by omega)
    have e3 : decide (b.load < 0) = false := decide_eq_false (by omega)
    have e4 : decide (b.disch ≤ b.load) = false := decide_eq_false (by omega)
    have e5 : decide ((calls : Int) ≤ b.disch) = false := decide_eq_false (by omega)
    rw [Box.bad, e1, e2, e3, e4, e5]
    rcases hb.size with h | ⟨h, h'⟩
    · simp [h]
    · simp [h, h']
theorem boxesOK_of {calls : Nat} {l : List Box} (h1 : 1 ≤ calls) (h2 : calls ≤ 20) (h : VoyFit calls l) : boxesOK calls l = true := by
  rw [boxesOK, boxesFrom_of (fun b hb => by have := (h.2.2 b hb).id0; omega) h.2.1 h.2.2]
  simp; omega
theorem voyFit_lat {calls at_ : Nat} (h1 : 1 ≤ at_) {l : List Box} (h : VoyFit calls l) : VoyFit (calls + 1) (l.map (latB at_)) := by
  refine ⟨by simpa using h.1, ?_, fun b hb => ?_⟩
  · have : (l.map (latB at_)).map (·.id) = l.map (·.id) := by simp [latB]
    rw [BoxesUp, this]; exact h.2.1
  · obtain ⟨c, hc, rfl⟩ := List.mem_map.1 hb
    have hf := h.2.2 c hc
    have q2 := hf.load
    have q3 := hf.stay
    have q4 := hf.disch
    refine ⟨hf.id0, hf.id1, hf.size, ?_, lat_lt.2 q3, ?_⟩
    · simp only [latB, lat]; split <;> omega
    · simp only [latB, lat]; split <;> omega
theorem voyFit_mono {a b : Nat} (h : a ≤ b) {l : List Box} (hf : VoyFit a l) : VoyFit b l :=
  ⟨hf.1, hf.2.1, fun x hx => ⟨(hf.2.2 x hx).id0, (hf.2.2 x hx).id1, (hf.2.2 x hx).size, (hf.2.2 x hx).load, (hf.2.2 x hx).stay, by have := (hf.2.2 x hx).disch; omega⟩⟩
def waitP (at_ : Nat) (ls : List (List Stowed)) : List (List Stowed) := ls.take at_ ++ ls.drop (at_ - 1)
def befr (at_ k : Nat) : Nat := if k < at_ then k else k - 1
theorem waitP_get {at_ : Nat} {ls : List (List Stowed)} (h1 : 1 ≤ at_) (h2 : at_ ≤ ls.length) (k : Nat) : (waitP at_ ls)[k]? = ls[befr at_ k]? := by
  rw [waitP, befr, List.getElem?_append]
  have hl : (ls.take at_).length = at_ := by simp; omega
  rw [hl]
  split
  · rw [List.getElem?_take, if_pos (by assumption)]
  · rw [List.getElem?_drop]; congr 1; omega
theorem waitP_len {at_ : Nat} {ls : List (List Stowed)} (h1 : 1 ≤ at_) (h2 : at_ ≤ ls.length) : (waitP at_ ls).length = ls.length + 1 := by
  simp [waitP]; omega
theorem aboard_lat {at_ : Nat} (h1 : 1 ≤ at_) (boxes : List Box) (k : Nat) : aboard (boxes.map (latB at_)) k = aboard boxes (befr at_ k : Nat) := by
  rw [aboard, aboard, List.filter_map, List.map_map]
  have : (Box.aboard (k : Int) ∘ latB at_) = Box.aboard ((befr at_ k : Nat) : Int) := by
    funext b
    simp only [Function.comp, Box.aboard, latB, lat, befr]
    congr 1 <;> (congr 1; apply propext; split <;> split <;> omega)
  rw [this]
  rfl
theorem planGood_wait {s : Ship} {boxes : List Box} {ls : List (List Stowed)} {at_ : Nat} (h1 : 1 ≤ at_) (h2 : at_ ≤ ls.length) (h : PlanGood s boxes ls) : PlanGood s (boxes.map (latB at_)) (waitP at_ ls) := by
  intro k l hk
  rw [waitP_get h1 h2] at hk
  obtain ⟨a, b⟩ := h _ l hk
  exact ⟨stowRight_lat _ a, by rw [b, aboard_lat h1]⟩
theorem eqBy_ids : ∀ {l : List Stowed} {m : List Int}, l.map (·.box) = m → eqBy (fun x id => x.box == id) l m = true
  | [], [], _ => rfl
  | x :: l, y :: m, h => by
    simp only [List.map_cons, List.cons.injEq] at h
    rw [eqBy, h.1, eqBy_ids h.2]; simp
  | [], y :: m, h => by cases h
  | x :: l, [], h => by cases h
theorem checkFrom_good {s : Ship} {boxes : List Box} : ∀ (ls : List (List Stowed)) (k : Nat), (∀ (i : Nat) (l : List Stowed), ls[i]? = some l → StowRight s boxes l ∧ l.map (·.box) = aboard boxes ((k + i : Nat) : Int)) → checkFrom s boxes k ls = (0, 0)
  | [], _, _ => rfl
  | l :: ls, k, h => by
    obtain ⟨h1, h2⟩ := h 0 l rfl
    rw [Nat.add_zero] at h2
    rw [checkFrom, stowRight_yes h1, if_neg (by decide), eqBy_ids h2, if_neg (by decide)]
    exact checkFrom_good ls (k + 1) (fun i l hi => by
      have := h (i + 1) l (by simpa using hi)
      rw [show k + 1 + i = k + (i + 1) by omega]; exact this)
theorem planCheck_good {s : Ship} {boxes : List Box} {n : Nat} {ls : List (List Stowed)} (hs : ShipRight s) (h1 : 1 ≤ n) (h2 : n ≤ 20) (hf : VoyFit n boxes) (hl : ls.length = n) (hg : PlanGood s boxes ls) : planCheck s boxes n ls = (0, 0) := by
  rw [planCheck, shipRight_iff.2 hs, if_neg (by decide), boxesOK_of h1 h2 hf, if_neg (by decide), if_neg (by rw [hl]; simp)]
  exact checkFrom_good ls 0 (fun i l hi => by rw [Nat.zero_add]; exact hg i l hi)
theorem moved_self (l : List Stowed) (id : Int) : moved l l id = false := by
  have : (Slot.same ((slotOf l id).getD slot0) ((slotOf l id).getD slot0)) = true := (Slot.same_iff _ _).2 rfl
  simp [moved, this]
theorem liftedL_self (s : Ship) (l : List Stowed) : liftedL s l l = [] := by
  have hone : ∀ (m : List Stowed) (st : LSt), m.foldl (liftOne s l l) st = st := by
    intro m
    induction m with
    | nil => intro st; rfl
    | cons x m ih => intro st; rw [List.foldl_cons, liftOne, moved_self, if_neg (by decide), ih]
  have : liftAll s l l = ([], []) := by simp [liftAll, hone]
  rw [liftedL, this]
  rfl
theorem restowAt_self (s : Ship) (l : List Stowed) : restowAt s l l = [] := by rw [restowAt, liftedL_self]; rfl
theorem part_nil (s : Ship) (l : List Stowed) (bay : Int) (deck : Bool) : partOf s l [] bay deck = [] := by
  have : l.filter (inPart s [] bay deck) = [] := List.filter_eq_nil_iff.2 (fun x _ => by simp [inPart])
  rw [partOf, this]; rfl
theorem isort_nil {α : Type} (c : α → α → Int) : isort c [] = [] := rfl
theorem needed_nil (s : Ship) (b a : List Stowed) (bay : Int) : needed s b a [] bay = [] := by
  have : rawNeed s b a [] bay = [] := by simp [rawNeed, coversFor, part_nil]
  rw [needed, this]; rfl
theorem offs_nil (s : Ship) (b a : List Stowed) : ∀ k, offs s b a [] k = []
  | 0 => rfl
  | k + 1 => by rw [offs, offs_nil s b a k]; simp [offBay, part_nil, needed_nil, isort_nil, moveBoxes, moveCovers]
theorem ons_nil (s : Ship) (b a : List Stowed) : ∀ k, ons s b a [] k = []
  | 0 => offs_nil s b a 40
  | k + 1 => by rw [ons, ons_nil s b a k]; simp [onBay, part_nil, needed_nil, moveBoxes, moveCovers]
theorem callMoves_nil (s : Ship) (b a : List Stowed) : callMoves s b a [] = [] := ons_nil s b a 40
theorem waitP_getD {at_ : Nat} {ls : List (List Stowed)} (h1 : 1 ≤ at_) (h2 : at_ ≤ ls.length) (k : Nat) : (waitP at_ ls).getD k [] = ls.getD (befr at_ k) [] := by
  rw [List.getD_eq_getElem?_getD, List.getD_eq_getElem?_getD, waitP_get h1 h2]
theorem waitP_prev {at_ : Nat} {ls : List (List Stowed)} (h1 : 1 ≤ at_) (h2 : at_ ≤ ls.length) (k : Nat) : prevAt (waitP at_ ls) k = if k = at_ then ls.getD (at_ - 1) [] else prevAt ls (befr at_ k) := by
  cases k with
  | zero => rw [if_neg (by omega)]; simp [prevAt, befr, show 0 < at_ by omega]
  | succ k =>
    rw [prevAt, waitP_getD h1 h2]
    by_cases e : k + 1 = at_
    · rw [if_pos e, befr, if_pos (by omega)]; congr 1; omega
    · rw [if_neg e, befr, befr]
      by_cases hk : k + 1 < at_
      · rw [if_pos (by omega), if_pos hk]; rfl
      · rw [if_neg (by omega), if_neg hk, Nat.add_sub_cancel]
        cases k with
        | zero => omega
        | succ k => rfl
end Go.Proofs.VL
