import Derived.Test.YtndffogfaocchaaGreatW07
import Derived.Test.YtndffogfaocchaaGreatW14
set_option linter.unusedVariables false
set_option linter.unusedSimpArgs false
set_option linter.unusedSectionVars false
namespace Go.Proofs.VL
open Go Go.RowKit
variable {F : Fence}
theorem sameBy_drop {α : Type} (eq : α → α → Bool) {a b : List α} {k : Nat} {x y : α} (hx : a[k]? = some x) (hy : b[k]? = some y) : sameBy eq (a.drop k) (b.drop k) = (eq x y && sameBy eq (a.drop (k + 1)) (b.drop (k + 1))) := by
  obtain ⟨h1, e1⟩ := List.getElem?_eq_some_iff.1 hx
  obtain ⟨h2, e2⟩ := List.getElem?_eq_some_iff.1 hy
  rw [List.drop_eq_getElem_cons h1, List.drop_eq_getElem_cons h2, e1, e2]
  rfl
theorem sameBy_len {α : Type} (eq : α → α → Bool) : ∀ {a b : List α}, sameBy eq a b = true → a.length = b.length
  | [], [], _ => rfl
  | x :: a, y :: b, h => by
    simp only [sameBy, Bool.and_eq_true] at h
    simp [sameBy_len eq h.2]
  | [], _ :: _, h => by cases h
  | _ :: _, [], h => by cases h
theorem sameBy_iff {α : Type} {eq : α → α → Bool} (he : ∀ x y, eq x y = true ↔ x = y) : ∀ {a b : List α}, sameBy eq a b = true ↔ a = b
  | [], [] => by simp [sameBy]
  | x :: a, y :: b => by simp [sameBy, he, sameBy_iff he (a := a) (b := b)]
  | [], _ :: _ => by simp [sameBy]
  | _ :: _, [] => by simp [sameBy]
def Group.same (g h : Group) : Bool := g.load == h.load && (g.disch == h.disch && true)
def Move.same (m n : Move) : Bool := m.kind == n.kind && (m.box == n.box && ((m.slot.col == n.slot.col && (m.slot.tier == n.slot.tier && (m.slot.half == n.slot.half && true))) && (m.cover == n.cover && true)))
theorem Group.same_iff (g h : Group) : g.same h = true ↔ g = h := by
  cases g; cases h; simp [Group.same]
theorem Move.same_iff (m n : Move) : m.same n = true ↔ m = n := by
  obtain ⟨k, b, ⟨c, t, h⟩, v⟩ := m
  obtain ⟨k', b', ⟨c', t', h'⟩, v'⟩ := n
  simp [Move.same, and_assoc]
theorem f16 (hF : Wide F) (hro : F.round = none) (a b : List Move) (ha : a.length ≤ 1000) (hb : b.length ≤ 1000) : FnV Tryz.prog F 16 [Vs (a.map Move.enc), Vs (b.map Move.enc)] (Vb (sameBy Move.same a b)) := by
  refine FnV.of_AW hF hro hτ Tryz.func16 rfl (by decide) rfl (by simp [Tryz.f16]) ?_
  (repeat' first | apply Wq | refine Ws hF hτ rfl ?_ | apply Wb | apply Wl | apply Wk | apply We | apply Wn)
  refine AW.cond rfl rfl (fun hc => ?_) (fun hc => ?_)
  · (repeat' first | apply Wq | refine Ws hF hτ rfl ?_ | apply Wb | apply Wl | apply Wk | apply We | apply Wn)
    refine AW.ret ⟨.inr rfl, ?_⟩
    refine congrArg (fun z => some (Vb z)) ?_
    have hne : a.length ≠ b.length := by
      intro e
      simp [e] at hc
    cases hs : sameBy Move.same a b with
    | false => rfl
    | true => exact absurd (sameBy_len _ hs) hne
  (repeat' first | apply Wq | refine Ws hF hτ rfl ?_ | apply Wb | apply Wl | apply Wk | apply We | apply Wn)
  have hlen : a.length = b.length := by
    simp at hc
    omega
  refine AW.loopI (X := { k : Nat // k ≤ a.length ∧ sameBy Move.same a b = sameBy Move.same (a.drop k) (b.drop k) }) (fun k => [(.s 5, Iv64 k.1), (.s 0, Vs (a.map Move.enc)), (.s 1, Vs (b.map Move.enc))]) (fun k => a.length - k.1) (fun k => rfl) ⟨0, Nat.zero_le _, rfl⟩ ?_ ?_
  · (repeat' first | exact Sub.nil | refine Sub.put rfl ?_ | refine Sub.put ?_ ?_)
  rintro ⟨k, hk, hpre⟩
  (repeat' first | apply Wq | refine Ws hF hτ rfl ?_ | apply Wb | apply Wl | apply Wk | apply We | apply Wn)
  refine AW.cond rfl rfl (fun hc => ?_) (fun hc => ?_)
  · (repeat' first | apply Wq | refine Ws hF hτ rfl ?_ | apply Wb | apply Wl | apply Wk | apply We | apply Wn)
    have hka : k < a.length := by simpa using hc
    have hkb : k < b.length := by omega
    obtain ⟨x, hx⟩ : ∃ x, a[k]? = some x := ⟨_, List.getElem?_eq_getElem hka⟩
    obtain ⟨y, hy⟩ : ∃ y, b[k]? = some y := ⟨_, List.getElem?_eq_getElem hkb⟩
    rw [sameBy_drop _ hx hy] at hpre
    refine AW.draw hmix (AD.start [] [0, 1, 2, 3, 4, 5, 6, 7, 8] ?_)
    refine AD.vals hF hτ rfl ?_
    refine AD.op (o := _) rfl rfl rfl (OpM.indexD hF rfl (hτ _ _ rfl) rfl (hτ _ _ rfl) rfl (i := k) rfl (get_enc Move.enc hx) rfl rfl rfl) ?_
    refine AD.vals hF hτ rfl ?_
    refine AD.op (o := _) rfl rfl rfl (OpM.indexD hF rfl (hτ _ _ rfl) rfl (hτ _ _ rfl) rfl (i := k) rfl (get_enc Move.enc hy) rfl rfl rfl) ?_
    refine AD.vals hF hτ rfl ?_
    refine AD.fin (by kernel_rfl) rfl rfl (AA.done (by kernel_rfl) ?_)
    refine AW.cond rfl rfl (fun hb => ?_) (fun hb => ?_)
    · (repeat' first | apply Wq | refine Ws hF hτ rfl ?_ | apply Wb | apply Wl | apply Wk | apply We | apply Wn)
      refine AW.ret ⟨.inr rfl, ?_⟩
      refine congrArg (fun z => some (Vb z)) ?_
      have hxy : Move.same x y = false := by
        have : (!(Move.same x y)) = true := hb
        simpa using this
      rw [hpre, hxy]
      rfl
    · (repeat' first | apply Wq | refine Ws hF hτ rfl ?_ | apply Wb | apply Wl | apply Wk | apply We | apply Wn)
      have hxy : Move.same x y = true := by
        have : (!(Move.same x y)) = false := hb
        simpa using this
      refine ⟨⟨k + 1, hka, by rw [hpre, hxy, Bool.true_and]⟩, by simp only; omega, ?_⟩
      (repeat' first | exact Sub.nil | refine Sub.put rfl ?_ | refine Sub.put ?_ ?_)
      exact congrArg (fun z => some (Iv64 z)) (wrap_id (x := (k : Int) + 1) (by omega) (by omega))
  · (repeat' first | apply Wq | refine Ws hF hτ rfl ?_ | apply Wb | apply Wl | apply Wk | apply We | apply Wn)
    refine AW.ret ⟨.inr rfl, ?_⟩
    refine congrArg (fun z => some (Vb z)) ?_
    have hke : k = a.length := by
      have : ¬ k < a.length := by simpa using hc
      omega
    subst hke
    rw [hpre, List.drop_length, hlen, List.drop_length]
    rfl
theorem f66 (hF : Wide F) (hro : F.round = none) (a b : List Group) (ha : a.length ≤ 1000) (hb : b.length ≤ 1000) : FnV Tryz.prog F 66 [Vs (a.map Group.enc), Vs (b.map Group.enc)] (Vb (sameBy Group.same a b)) := by
  refine FnV.of_AW hF hro hτ Tryz.func66 rfl (by decide) rfl (by simp [Tryz.f66]) ?_
  (repeat' first | apply Wq | refine Ws hF hτ rfl ?_ | apply Wb | apply Wl | apply Wk | apply We | apply Wn)
  refine AW.cond rfl rfl (fun hc => ?_) (fun hc => ?_)
  · (repeat' first | apply Wq | refine Ws hF hτ rfl ?_ | apply Wb | apply Wl | apply Wk | apply We | apply Wn)
    refine AW.ret ⟨.inr rfl, ?_⟩
    refine congrArg (fun z => some (Vb z)) ?_
    have hne : a.length ≠ b.length := by
      intro e
      simp [e] at hc
    cases hs : sameBy Group.same a b with
    | false => rfl
    | true => exact absurd (sameBy_len _ hs) hne
  (repeat' first | apply Wq | refine Ws hF hτ rfl ?_ | apply Wb | apply Wl | apply Wk | apply We | apply Wn)
  have hlen : a.length = b.length := by
    simp at hc
    omega
  refine AW.loopI (X := { k : Nat // k ≤ a.length ∧ sameBy Group.same a b = sameBy Group.same (a.drop k) (b.drop k) }) (fun k => [(.s 5, Iv64 k.1), (.s 0, Vs (a.map Group.enc)), (.s 1, Vs (b.map Group.enc))]) (fun k => a.length - k.1) (fun k => rfl) ⟨0, Nat.zero_le _, rfl⟩ ?_ ?_
  · (repeat' first | exact Sub.nil | refine Sub.put rfl ?_ | refine Sub.put ?_ ?_)
  rintro ⟨k, hk, hpre⟩
  (repeat' first | apply Wq | refine Ws hF hτ rfl ?_ | apply Wb | apply Wl | apply Wk | apply We | apply Wn)
  refine AW.cond rfl rfl (fun hc => ?_) (fun hc => ?_)
  · (repeat' first | apply Wq | refine Ws hF hτ rfl ?_ | apply Wb | apply Wl | apply Wk | apply We | apply Wn)
    have hka : k < a.length := by simpa using hc
    have hkb : k < b.length := by omega
    obtain ⟨x, hx⟩ : ∃ x, a[k]? = some x := ⟨_, List.getElem?_eq_getElem hka⟩
    obtain ⟨y, hy⟩ : ∃ y, b[k]? = some y := ⟨_, List.getElem?_eq_getElem hkb⟩
    rw [sameBy_drop _ hx hy] at hpre
    refine AW.draw hmix (AD.start [] [0, 1, 2, 3, 4, 5, 6, 7, 8] ?_)
    refine AD.vals hF hτ rfl ?_
    refine AD.op (o := _) rfl rfl rfl (OpM.indexD hF rfl (hτ _ _ rfl) rfl (hτ _ _ rfl) rfl (i := k) rfl (get_enc Group.enc hx) rfl rfl rfl) ?_
    refine AD.vals hF hτ rfl ?_
    refine AD.op (o := _) rfl rfl rfl (OpM.indexD hF rfl (hτ _ _ rfl) rfl (hτ _ _ rfl) rfl (i := k) rfl (get_enc Group.enc hy) rfl rfl rfl) ?_
    refine AD.vals hF hτ rfl ?_
    refine AD.fin (by kernel_rfl) rfl rfl (AA.done (by kernel_rfl) ?_)
    refine AW.cond rfl rfl (fun hb => ?_) (fun hb => ?_)
    · (repeat' first | apply Wq | refine Ws hF hτ rfl ?_ | apply Wb | apply Wl | apply Wk | apply We | apply Wn)
      refine AW.ret ⟨.inr rfl, ?_⟩
      refine congrArg (fun z => some (Vb z)) ?_
      have hxy : Group.same x y = false := by
        have : (!(Group.same x y)) = true := hb
        simpa using this
      rw [hpre, hxy]
      rfl
    · (repeat' first | apply Wq | refine Ws hF hτ rfl ?_ | apply Wb | apply Wl | apply Wk | apply We | apply Wn)
      have hxy : Group.same x y = true := by
        have : (!(Group.same x y)) = false := hb
        simpa using this
      refine ⟨⟨k + 1, hka, by rw [hpre, hxy, Bool.true_and]⟩, by simp only; omega, ?_⟩
      (repeat' first | exact Sub.nil | refine Sub.put rfl ?_ | refine Sub.put ?_ ?_)
      exact congrArg (fun z => some (Iv64 z)) (wrap_id (x := (k : Int) + 1) (by omega) (by omega))
  · (repeat' first | apply Wq | refine Ws hF hτ rfl ?_ | apply Wb | apply Wl | apply Wk | apply We | apply Wn)
    refine AW.ret ⟨.inr rfl, ?_⟩
    refine congrArg (fun z => some (Vb z)) ?_
    have hke : k = a.length := by
      have : ¬ k < a.length := by simpa using hc
      omega
    subst hke
    rw [hpre, List.drop_length, hlen, List.drop_length]
    rfl
def encFam (l : List Group) : List D := [.sl (l.map Group.enc)]
theorem f14 (hF : Wide F) (hro : F.round = none) (a b : List (List Group)) (ha : a.length ≤ 1000) (hb : b.length ≤ 1000) (hal : ∀ l ∈ a, l.length ≤ 1000) (hbl : ∀ l ∈ b, l.length ≤ 1000) : FnV Tryz.prog F 14 [Vs (a.map encFam), Vs (b.map encFam)] (Vb (sameBy (sameBy Group.same) a b)) := by
  refine FnV.of_AW hF hro hτ Tryz.func14 rfl (by decide) rfl (by simp [Tryz.f14]) ?_
  (repeat' first | apply Wq | refine Ws hF hτ rfl ?_ | apply Wb | apply Wl | apply Wk | apply We | apply Wn)
  refine AW.cond rfl rfl (fun hc => ?_) (fun hc => ?_)
  · (repeat' first | apply Wq | refine Ws hF hτ rfl ?_ | apply Wb | apply Wl | apply Wk | apply We | apply Wn)
    refine AW.ret ⟨.inr rfl, ?_⟩
    refine congrArg (fun z => some (Vb z)) ?_
    have hne : a.length ≠ b.length := by
      intro e
      simp [e] at hc
    cases hs : sameBy (sameBy Group.same) a b with
    | false => rfl
    | true => exact absurd (sameBy_len _ hs) hne
  (repeat' first | apply Wq | refine Ws hF hτ rfl ?_ | apply Wb | apply Wl | apply Wk | apply We | apply Wn)
  have hlen : a.length = b.length := by
    simp at hc
    omega
  refine AW.loopI (X := { k : Nat // k ≤ a.length ∧ sameBy (sameBy Group.same) a b = sameBy (sameBy Group.same) (a.drop k) (b.drop k) }) (fun k => [(.s 5, Iv64 k.1), (.s 0, Vs (a.map encFam)), (.s 1, Vs (b.map encFam))]) (fun k => a.length - k.1) (fun k => rfl) ⟨0, Nat.zero_le _, rfl⟩ ?_ ?_
  · (repeat' first | exact Sub.nil | refine Sub.put rfl ?_ | refine Sub.put ?_ ?_)
  rintro ⟨k, hk, hpre⟩
  (repeat' first | apply Wq | refine Ws hF hτ rfl ?_ | apply Wb | apply Wl | apply Wk | apply We | apply Wn)
  refine AW.cond rfl rfl (fun hc => ?_) (fun hc => ?_)
  · (repeat' first | apply Wq | refine Ws hF hτ rfl ?_ | apply Wb | apply Wl | apply Wk | apply We | apply Wn)
    have hka : k < a.length := by simpa using hc
    have hkb : k < b.length := by omega
    obtain ⟨x, hx⟩ : ∃ x, a[k]? = some x := ⟨_, List.getElem?_eq_getElem hka⟩
    obtain ⟨y, hy⟩ : ∃ y, b[k]? = some y := ⟨_, List.getElem?_eq_getElem hkb⟩
    rw [sameBy_drop _ hx hy] at hpre
    refine AW.draw hmix (AD.start [] [0, 1, 2, 3, 4, 5, 6, 7, 8, 9] ?_)
    refine AD.vals hF hτ rfl ?_
    refine AD.op (o := _) rfl rfl rfl (OpM.indexD hF rfl (hτ _ _ rfl) rfl (hτ _ _ rfl) rfl (i := k) rfl (get_enc encFam hx) rfl rfl rfl) ?_
    refine AD.vals hF hτ rfl ?_
    refine AD.op (o := _) rfl rfl rfl (OpM.indexD hF rfl (hτ _ _ rfl) rfl (hτ _ _ rfl) rfl (i := k) rfl (get_enc encFam hy) rfl rfl rfl) ?_
    refine AD.vals hF hτ rfl ?_
    refine AD.op (o := _) rfl rfl rfl (OpM.call hF rfl rfl rfl rfl (f66 hF hro x y (hal x (List.mem_of_getElem? hx)) (hbl y (List.mem_of_getElem? hy))) rfl rfl rfl) ?_
    refine AD.vals hF hτ rfl ?_
    refine AD.fin (by kernel_rfl) rfl rfl (AA.done (by kernel_rfl) ?_)
    refine AW.cond rfl rfl (fun hb => ?_) (fun hb => ?_)
    · (repeat' first | apply Wq | refine Ws hF hτ rfl ?_ | apply Wb | apply Wl | apply Wk | apply We | apply Wn)
      refine AW.ret ⟨.inr rfl, ?_⟩
      refine congrArg (fun z => some (Vb z)) ?_
      have hxy : (sameBy Group.same) x y = false := by
        have : (!((sameBy Group.same) x y)) = true := hb
        simpa using this
      rw [hpre, hxy]
      rfl
    · (repeat' first | apply Wq | refine Ws hF hτ rfl ?_ | apply Wb | apply Wl | apply Wk | apply We | apply Wn)
      have hxy : (sameBy Group.same) x y = true := by
        have : (!((sameBy Group.same) x y)) = false := hb
        simpa using this
      refine ⟨⟨k + 1, hka, by rw [hpre, hxy, Bool.true_and]⟩, by simp only; omega, ?_⟩
      (repeat' first | exact Sub.nil | refine Sub.put rfl ?_ | refine Sub.put ?_ ?_)
      exact congrArg (fun z => some (Iv64 z)) (wrap_id (x := (k : Int) + 1) (by omega) (by omega))
  · (repeat' first | apply Wq | refine Ws hF hτ rfl ?_ | apply Wb | apply Wl | apply Wk | apply We | apply Wn)
    refine AW.ret ⟨.inr rfl, ?_⟩
    refine congrArg (fun z => some (Vb z)) ?_
    have hke : k = a.length := by
      have : ¬ k < a.length := by simpa using hc
      omega
    subst hke
    rw [hpre, List.drop_length, hlen, List.drop_length]
    rfl
end Go.Proofs.VL
namespace Go.Proofs.VL
open Go Go.RowKit
variable {F : Fence}
def Slot.same (a b : Slot) : Bool := a.col == b.col && (a.tier == b.tier && (a.half == b.half && true))
theorem Slot.same_iff (a b : Slot) : a.same b = true ↔ a = b := by
  cases a; cases b; simp [Slot.same]
theorem idxFrom_geq {α : Type} (p : α → Bool) : ∀ (l : List α) (k : Nat), decide (idxFrom p k l ≥ 0) = l.any p
  | [], k => by simp [idxFrom]
  | x :: xs, k => by
    cases hp : p x with
    | true => simp [idxFrom, hp]
    | false => simpa [idxFrom, hp] using idxFrom_geq p xs (k + 1)
theorem f122 (hF : Wide F) (hro : F.round = none) (l : List Group) (x : Group) (hl : l.length ≤ 1000) :
    FnV Tryz.prog F 122 [Vs (l.map Group.enc), Vd x.enc] (Iv64 (idxFrom (fun y => Group.same x y) 0 l)) := by
  refine FnV.of_AW hF hro hτ Tryz.func122 rfl (by decide) rfl (by simp [Tryz.f122]) ?_
  (repeat' first | apply Wq | refine Ws hF hτ rfl ?_ | apply Wb | apply Wl | apply Wk | apply We | apply Wn)
  refine AW.rangeJ hF rfl rfl rfl rfl rfl rfl rfl rfl rfl (l.map Group.enc).length (by simp [lim]; omega) (fun k => [(.s 0, Vs (l.map Group.enc)), (.s 3, .bx 61 (x.enc.map .d))]) (fun k => idxFrom (fun y => Group.same x y) 0 l = idxFrom (fun y => Group.same x y) k (l.drop k)) rfl ?_ ?_ (fun k hk hJ => ?_) (fun hJ => ?_)
  · exact fun k => rfl
  · (repeat' first | exact Sub.nil | refine Sub.put rfl ?_ | refine Sub.put ?_ ?_)
  · obtain ⟨y, hx⟩ := get_ex hk
    rw [idxFrom_drop (fun y => Group.same x y) hx] at hJ
    (repeat' first | apply Wq | refine Ws hF hτ rfl ?_ | apply Wb | apply Wl | apply Wk | apply We | apply Wn)
    refine AW.draw hmix (AD.start [] [0, 1, 2, 3, 4, 5] ?_)
    refine AD.vals hF hτ rfl ?_
    refine AD.op (o := _) rfl rfl rfl (OpM.indexD hF rfl (hτ _ _ rfl) rfl (hτ _ _ rfl) rfl (i := k) rfl (get_enc Group.enc hx) rfl rfl rfl) ?_
    refine AD.vals hF hτ rfl ?_
    refine AD.fin (by kernel_rfl) rfl rfl (AA.done (by kernel_rfl) ?_)
    refine AW.cond rfl rfl (fun hc => ?_) (fun hc => ?_)
    · (repeat' first | apply Wq | refine Ws hF hτ rfl ?_ | apply Wb | apply Wl | apply Wk | apply We | apply Wn)
      refine AW.ret ⟨.inr rfl, ?_⟩
      refine congrArg (fun z => some (Iv64 z)) ?_
      have hc' : (Group.same x y) = true := hc
      rw [hJ, if_pos hc']
    · (repeat' first | apply Wq | refine Ws hF hτ rfl ?_ | apply Wb | apply Wl | apply Wk | apply We | apply Wn)
      have hc' : (Group.same x y) = false := hc
      refine ⟨?_, by rw [hJ, if_neg (by rw [hc']; decide)]⟩
      (repeat' first | exact Sub.nil | refine Sub.put rfl ?_ | refine Sub.put ?_ ?_)
  · (repeat' first | apply Wq | refine Ws hF hτ rfl ?_ | apply Wb | apply Wl | apply Wk | apply We | apply Wn)
    refine AW.ret ⟨.inr rfl, ?_⟩
    refine congrArg (fun z => some (Iv64 z)) ?_
    rw [hJ, List.drop_eq_nil_of_le (by simp)]
    rfl
theorem f65 (hF : Wide F) (hro : F.round = none) (l : List Group) (x : Group) (hl : l.length ≤ 1000) :
    FnV Tryz.prog F 65 [Vs (l.map Group.enc), Vd x.enc] (Vb (l.any fun y => Group.same x y)) := by
  refine FnV.of_AW hF hro hτ Tryz.func65 rfl (by decide) rfl (by simp [Tryz.f65]) ?_
  (repeat' first | apply Wq | refine Ws hF hτ rfl ?_ | apply Wb | apply Wl | apply Wk | apply We | apply Wn)
  refine AL.opM (OpM.call hF rfl rfl rfl rfl (f122 hF hro l x hl) rfl rfl rfl) rfl rfl ?_
  refine Wv hF hτ rfl (Wn ?_)
  refine AW.ret ⟨.inr rfl, ?_⟩
  exact congrArg (fun z => some (Vb z)) (idxFrom_geq _ l 0)
theorem f270 (hF : Wide F) (hro : F.round = none) (l : List Int) (x : Int) (hl : l.length ≤ 1000) :
    FnV Tryz.prog F 270 [Vs (l.map (fun n : Int => [di n])), Iv64 x] (Iv64 (idxFrom (fun y => (fun a b : Int => a == b) x y) 0 l)) := by
  refine FnV.of_AW hF hro hτ Tryz.func270 rfl (by decide) rfl (by simp [Tryz.f270]) ?_
  (repeat' first | apply Wq | refine Ws hF hτ rfl ?_ | apply Wb | apply Wl | apply Wk | apply We | apply Wn)
  refine AW.rangeJ hF rfl rfl rfl rfl rfl rfl rfl rfl rfl (l.map (fun n : Int => [di n])).length (by simp [lim]; omega) (fun k => [(.s 0, Vs (l.map (fun n : Int => [di n]))), (.s 1, Iv64 x)]) (fun k => idxFrom (fun y => (fun a b : Int => a == b) x y) 0 l = idxFrom (fun y => (fun a b : Int => a == b) x y) k (l.drop k)) rfl ?_ ?_ (fun k hk hJ => ?_) (fun hJ => ?_)
  · exact fun k => rfl
  · (repeat' first | exact Sub.nil | refine Sub.put rfl ?_ | refine Sub.put ?_ ?_)
  · obtain ⟨y, hx⟩ := get_ex hk
    rw [idxFrom_drop (fun y => (fun a b : Int => a == b) x y) hx] at hJ
    (repeat' first | apply Wq | refine Ws hF hτ rfl ?_ | apply Wb | apply Wl | apply Wk | apply We | apply Wn)
    refine AL.opM (OpM.indexD hF rfl (hτ _ _ rfl) rfl (hτ _ _ rfl) rfl (i := k) rfl (get_enc (fun n : Int => [di n]) hx) rfl rfl rfl) rfl rfl ?_
    refine Wv hF hτ rfl (Wn ?_)
    refine AW.cond rfl rfl (fun hc => ?_) (fun hc => ?_)
    · (repeat' first | apply Wq | refine Ws hF hτ rfl ?_ | apply Wb | apply Wl | apply Wk | apply We | apply Wn)
      refine AW.ret ⟨.inr rfl, ?_⟩
      refine congrArg (fun z => some (Iv64 z)) ?_
      have hc' : ((fun a b : Int => a == b) x y) = true := hc
      rw [hJ, if_pos hc']
    · (repeat' first | apply Wq | refine Ws hF hτ rfl ?_ | apply Wb | apply Wl | apply Wk | apply We | apply Wn)
      have hc' : ((fun a b : Int => a == b) x y) = false := hc
      refine ⟨?_, by rw [hJ, if_neg (by rw [hc']; decide)]⟩
      (repeat' first | exact Sub.nil | refine Sub.put rfl ?_ | refine Sub.put ?_ ?_)
  · (repeat' first | apply Wq | refine Ws hF hτ rfl ?_ | apply Wb | apply Wl | apply Wk | apply We | apply Wn)
    refine AW.ret ⟨.inr rfl, ?_⟩
    refine congrArg (fun z => some (Iv64 z)) ?_
    rw [hJ, List.drop_eq_nil_of_le (by simp)]
    rfl
theorem f237 (hF : Wide F) (hro : F.round = none) (l : List Int) (x : Int) (hl : l.length ≤ 1000) :
    FnV Tryz.prog F 237 [Vs (l.map (fun n : Int => [di n])), Iv64 x] (Vb (l.any fun y => (fun a b : Int => a == b) x y)) := by
  refine FnV.of_AW hF hro hτ Tryz.func237 rfl (by decide) rfl (by simp [Tryz.f237]) ?_
  (repeat' first | apply Wq | refine Ws hF hτ rfl ?_ | apply Wb | apply Wl | apply Wk | apply We | apply Wn)
  refine AL.opM (OpM.call hF rfl rfl rfl rfl (f270 hF hro l x hl) rfl rfl rfl) rfl rfl ?_
  refine Wv hF hτ rfl (Wn ?_)
  refine AW.ret ⟨.inr rfl, ?_⟩
  exact congrArg (fun z => some (Vb z)) (idxFrom_geq _ l 0)
theorem f230 (hF : Wide F) (hro : F.round = none) (l : List Int) (x : Int) (hl : l.length ≤ 1000) :
    FnV Tryz.prog F 230 [Vs (l.map (fun n : Int => [du n])), .d (du x)] (Iv64 (idxFrom (fun y => (fun a b : Int => a == b) x y) 0 l)) := by
  refine FnV.of_AW hF hro hτ Tryz.func230 rfl (by decide) rfl (by simp [Tryz.f230]) ?_
  (repeat' first | apply Wq | refine Ws hF hτ rfl ?_ | apply Wb | apply Wl | apply Wk | apply We | apply Wn)
  refine AW.rangeJ hF rfl rfl rfl rfl rfl rfl rfl rfl rfl (l.map (fun n : Int => [du n])).length (by simp [lim]; omega) (fun k => [(.s 0, Vs (l.map (fun n : Int => [du n]))), (.s 1, .d (du x))]) (fun k => idxFrom (fun y => (fun a b : Int => a == b) x y) 0 l = idxFrom (fun y => (fun a b : Int => a == b) x y) k (l.drop k)) rfl ?_ ?_ (fun k hk hJ => ?_) (fun hJ => ?_)
  · exact fun k => rfl
  · (repeat' first | exact Sub.nil | refine Sub.put rfl ?_ | refine Sub.put ?_ ?_)
  · obtain ⟨y, hx⟩ := get_ex hk
    rw [idxFrom_drop (fun y => (fun a b : Int => a == b) x y) hx] at hJ
    (repeat' first | apply Wq | refine Ws hF hτ rfl ?_ | apply Wb | apply Wl | apply Wk | apply We | apply Wn)
    refine AL.opM (OpM.indexD hF rfl (hτ _ _ rfl) rfl (hτ _ _ rfl) rfl (i := k) rfl (get_enc (fun n : Int => [du n]) hx) rfl rfl rfl) rfl rfl ?_
    refine Wv hF hτ rfl (Wn ?_)
    refine AW.cond rfl rfl (fun hc => ?_) (fun hc => ?_)
    · (repeat' first | apply Wq | refine Ws hF hτ rfl ?_ | apply Wb | apply Wl | apply Wk | apply We | apply Wn)
      refine AW.ret ⟨.inr rfl, ?_⟩
      refine congrArg (fun z => some (Iv64 z)) ?_
      have hc' : ((fun a b : Int => a == b) x y) = true := hc
      rw [hJ, if_pos hc']
    · (repeat' first | apply Wq | refine Ws hF hτ rfl ?_ | apply Wb | apply Wl | apply Wk | apply We | apply Wn)
      have hc' : ((fun a b : Int => a == b) x y) = false := hc
      refine ⟨?_, by rw [hJ, if_neg (by rw [hc']; decide)]⟩
      (repeat' first | exact Sub.nil | refine Sub.put rfl ?_ | refine Sub.put ?_ ?_)
  · (repeat' first | apply Wq | refine Ws hF hτ rfl ?_ | apply Wb | apply Wl | apply Wk | apply We | apply Wn)
    refine AW.ret ⟨.inr rfl, ?_⟩
    refine congrArg (fun z => some (Iv64 z)) ?_
    rw [hJ, List.drop_eq_nil_of_le (by simp)]
    rfl
theorem f175 (hF : Wide F) (hro : F.round = none) (l : List Int) (x : Int) (hl : l.length ≤ 1000) :
    FnV Tryz.prog F 175 [Vs (l.map (fun n : Int => [du n])), .d (du x)] (Vb (l.any fun y => (fun a b : Int => a == b) x y)) := by
  refine FnV.of_AW hF hro hτ Tryz.func175 rfl (by decide) rfl (by simp [Tryz.f175]) ?_
  (repeat' first | apply Wq | refine Ws hF hτ rfl ?_ | apply Wb | apply Wl | apply Wk | apply We | apply Wn)
  refine AL.opM (OpM.call hF rfl rfl rfl rfl (f230 hF hro l x hl) rfl rfl rfl) rfl rfl ?_
  refine Wv hF hτ rfl (Wn ?_)
  refine AW.ret ⟨.inr rfl, ?_⟩
  exact congrArg (fun z => some (Vb z)) (idxFrom_geq _ l 0)
theorem f231 (hF : Wide F) (hro : F.round = none) (l : List Slot) (x : Slot) (hl : l.length ≤ 1000) :
    FnV Tryz.prog F 231 [Vs (l.map Slot.enc), Vd x.enc] (Iv64 (idxFrom (fun y => Slot.same x y) 0 l)) := by
  refine FnV.of_AW hF hro hτ Tryz.func231 rfl (by decide) rfl (by simp [Tryz.f231]) ?_
  (repeat' first | apply Wq | refine Ws hF hτ rfl ?_ | apply Wb | apply Wl | apply Wk | apply We | apply Wn)
  refine AW.rangeJ hF rfl rfl rfl rfl rfl rfl rfl rfl rfl (l.map Slot.enc).length (by simp [lim]; omega) (fun k => [(.s 0, Vs (l.map Slot.enc)), (.s 3, .bx 88 (x.enc.map .d))]) (fun k => idxFrom (fun y => Slot.same x y) 0 l = idxFrom (fun y => Slot.same x y) k (l.drop k)) rfl ?_ ?_ (fun k hk hJ => ?_) (fun hJ => ?_)
  · exact fun k => rfl
  · (repeat' first | exact Sub.nil | refine Sub.put rfl ?_ | refine Sub.put ?_ ?_)
  · obtain ⟨y, hx⟩ := get_ex hk
    rw [idxFrom_drop (fun y => Slot.same x y) hx] at hJ
    (repeat' first | apply Wq | refine Ws hF hτ rfl ?_ | apply Wb | apply Wl | apply Wk | apply We | apply Wn)
    refine AW.draw hmix (AD.start [] [0, 1, 2, 3, 4, 5] ?_)
    refine AD.vals hF hτ rfl ?_
    refine AD.op (o := _) rfl rfl rfl (OpM.indexD hF rfl (hτ _ _ rfl) rfl (hτ _ _ rfl) rfl (i := k) rfl (get_enc Slot.enc hx) rfl rfl rfl) ?_
    refine AD.vals hF hτ rfl ?_
    refine AD.fin (by kernel_rfl) rfl rfl (AA.done (by kernel_rfl) ?_)
    refine AW.cond rfl rfl (fun hc => ?_) (fun hc => ?_)
    · (repeat' first | apply Wq | refine Ws hF hτ rfl ?_ | apply Wb | apply Wl | apply Wk | apply We | apply Wn)
      refine AW.ret ⟨.inr rfl, ?_⟩
      refine congrArg (fun z => some (Iv64 z)) ?_
      have hc' : (Slot.same x y) = true := hc
      rw [hJ, if_pos hc']
    · (repeat' first | apply Wq | refine Ws hF hτ rfl ?_ | apply Wb | apply Wl | apply Wk | apply We | apply Wn)
      have hc' : (Slot.same x y) = false := hc
      refine ⟨?_, by rw [hJ, if_neg (by rw [hc']; decide)]⟩
      (repeat' first | exact Sub.nil | refine Sub.put rfl ?_ | refine Sub.put ?_ ?_)
  · (repeat' first | apply Wq | refine Ws hF hτ rfl ?_ | apply Wb | apply Wl | apply Wk | apply We | apply Wn)
    refine AW.ret ⟨.inr rfl, ?_⟩
    refine congrArg (fun z => some (Iv64 z)) ?_
    rw [hJ, List.drop_eq_nil_of_le (by simp)]
    rfl
theorem f178 (hF : Wide F) (hro : F.round = none) (l : List Slot) (x : Slot) (hl : l.length ≤ 1000) :
    FnV Tryz.prog F 178 [Vs (l.map Slot.enc), Vd x.enc] (Vb (l.any fun y => Slot.same x y)) := by
  refine FnV.of_AW hF hro hτ Tryz.func178 rfl (by decide) rfl (by simp [Tryz.f178]) ?_
  (repeat' first | apply Wq | refine Ws hF hτ rfl ?_ | apply Wb | apply Wl | apply Wk | apply We | apply Wn)
  refine AL.opM (OpM.call hF rfl rfl rfl rfl (f231 hF hro l x hl) rfl rfl rfl) rfl rfl ?_
  refine Wv hF hτ rfl (Wn ?_)
  refine AW.ret ⟨.inr rfl, ?_⟩
  exact congrArg (fun z => some (Vb z)) (idxFrom_geq _ l 0)
end Go.Proofs.VL
namespace Go.Proofs.VL
open Go Go.RowKit
variable {F : Fence}
def cmpZ (a b : Int) : Int := if a < b then -1 else if b < a then 1 else 0
def orZ : List Int → Int
  | [] => 0
  | x :: xs => if x ≠ 0 then x else orZ xs
theorem orZ_drop {l : List Int} {k : Nat} {x : Int} (hx : l[k]? = some x) : orZ (l.drop k) = if x ≠ 0 then x else orZ (l.drop (k + 1)) := by
  obtain ⟨h1, e1⟩ := List.getElem?_eq_some_iff.1 hx
  rw [List.drop_eq_getElem_cons h1, e1]
  rfl
theorem f76 (hF : Wide F) (hro : F.round = none) (a : Int) : FnV Tryz.prog F 76 [Iv64 a] (Vb false) := by
  refine FnV.of_AW hF hro hτ Tryz.func76 rfl (by decide) rfl (by simp [Tryz.f76]) ?_
  (repeat' first | apply Wq | refine Ws hF hτ rfl ?_ | apply Wb | apply Wl | apply Wk | apply We | apply Wn)
  refine AW.ret ⟨.inr rfl, ?_⟩
  exact congrArg (fun z => some (Vb z)) (show (!(a == a)) = false by simp)
theorem f29 (hF : Wide F) (hro : F.round = none) (a b : Int) : FnV Tryz.prog F 29 [Iv64 a, Iv64 b] (Iv64 (cmpZ a b)) := by
  refine FnV.of_AW hF hro hτ Tryz.func29 rfl (by decide) rfl (by simp [Tryz.f29]) ?_
  (repeat' first | apply Wq | refine Ws hF hτ rfl ?_ | apply Wb | apply Wl | apply Wk | apply We | apply Wn)
  refine AL.opM (OpM.call hF rfl rfl rfl rfl (f76 hF hro a) rfl rfl rfl) rfl rfl ?_
  refine Wv hF hτ rfl (Wn ?_)
  (repeat' first | apply Wq | refine Ws hF hτ rfl ?_ | apply Wb | apply Wl | apply Wk | apply We | apply Wn)
  refine AL.opM (OpM.call hF rfl rfl rfl rfl (f76 hF hro b) rfl rfl rfl) rfl rfl ?_
  refine Wv hF hτ rfl (Wn ?_)
  (repeat' first | apply Wq | refine Ws hF hτ rfl ?_ | apply Wb | apply Wl | apply Wk | apply We | apply Wn)
  refine AW.condF rfl rfl ?_
  (repeat' first | apply Wq | refine Ws hF hτ rfl ?_ | apply Wb | apply Wl | apply Wk | apply We | apply Wn)
  refine AW.condF rfl rfl ?_
  (repeat' first | apply Wq | refine Ws hF hτ rfl ?_ | apply Wb | apply Wl | apply Wk | apply We | apply Wn)
  refine AW.cond rfl rfl (fun hc => ?_) (fun hc => ?_)
  · (repeat' first | apply Wq | refine Ws hF hτ rfl ?_ | apply Wb | apply Wl | apply Wk | apply We | apply Wn)
    refine AW.ret ⟨.inr rfl, ?_⟩
    refine congrArg (fun z => some (Iv64 z)) ?_
    rw [cmpZ, if_pos (of_decide_eq_true hc)]
  (repeat' first | apply Wq | refine Ws hF hτ rfl ?_ | apply Wb | apply Wl | apply Wk | apply We | apply Wn)
  refine AW.cond rfl rfl (fun hd => ?_) (fun hd => ?_)
  · (repeat' first | apply Wq | refine Ws hF hτ rfl ?_ | apply Wb | apply Wl | apply Wk | apply We | apply Wn)
    refine AW.ret ⟨.inr rfl, ?_⟩
    refine congrArg (fun z => some (Iv64 z)) ?_
    rw [cmpZ, if_neg (of_decide_eq_false hc), if_pos (of_decide_eq_true hd)]
  (repeat' first | apply Wq | refine Ws hF hτ rfl ?_ | apply Wb | apply Wl | apply Wk | apply We | apply Wn)
  refine AW.ret ⟨.inr rfl, ?_⟩
  refine congrArg (fun z => some (Iv64 z)) ?_
  rw [cmpZ, if_neg (of_decide_eq_false hc), if_neg (of_decide_eq_false hd)]
abbrev Uv (n : Int) : V := .d (du n)
theorem f280 (hF : Wide F) (hro : F.round = none) (a : Int) : FnV Tryz.prog F 280 [Uv a] (Vb false) := by
  refine FnV.of_AW hF hro hτ Tryz.func280 rfl (by decide) rfl (by simp [Tryz.f280]) ?_
  (repeat' first | apply Wq | refine Ws hF hτ rfl ?_ | apply Wb | apply Wl | apply Wk | apply We | apply Wn)
  refine AW.ret ⟨.inr rfl, ?_⟩
  exact congrArg (fun z => some (Vb z)) (show (!(a == a)) = false by simp)
theorem f271 (hF : Wide F) (hro : F.round = none) (a b : Int) : FnV Tryz.prog F 271 [Uv a, Uv b] (Iv64 (cmpZ a b)) := by
  refine FnV.of_AW hF hro hτ Tryz.func271 rfl (by decide) rfl (by simp [Tryz.f271]) ?_
  (repeat' first | apply Wq | refine Ws hF hτ rfl ?_ | apply Wb | apply Wl | apply Wk | apply We | apply Wn)
  refine AL.opM (OpM.call hF rfl rfl rfl rfl (f280 hF hro a) rfl rfl rfl) rfl rfl ?_
  refine Wv hF hτ rfl (Wn ?_)
  (repeat' first | apply Wq | refine Ws hF hτ rfl ?_ | apply Wb | apply Wl | apply Wk | apply We | apply Wn)
  refine AL.opM (OpM.call hF rfl rfl rfl rfl (f280 hF hro b) rfl rfl rfl) rfl rfl ?_
  refine Wv hF hτ rfl (Wn ?_)
  (repeat' first | apply Wq | refine Ws hF hτ rfl ?_ | apply Wb | apply Wl | apply Wk | apply We | apply Wn)
  refine AW.condF rfl rfl ?_
  (repeat' first | apply Wq | refine Ws hF hτ rfl ?_ | apply Wb | apply Wl | apply Wk | apply We | apply Wn)
  refine AW.condF rfl rfl ?_
  (repeat' first | apply Wq | refine Ws hF hτ rfl ?_ | apply Wb | apply Wl | apply Wk | apply We | apply Wn)
  refine AW.cond rfl rfl (fun hc => ?_) (fun hc => ?_)
  · (repeat' first | apply Wq | refine Ws hF hτ rfl ?_ | apply Wb | apply Wl | apply Wk | apply We | apply Wn)
    refine AW.ret ⟨.inr rfl, ?_⟩
    refine congrArg (fun z => some (Iv64 z)) ?_
    rw [cmpZ, if_pos (of_decide_eq_true hc)]
  (repeat' first | apply Wq | refine Ws hF hτ rfl ?_ | apply Wb | apply Wl | apply Wk | apply We | apply Wn)
  refine AW.cond rfl rfl (fun hd => ?_) (fun hd => ?_)
  · (repeat' first | apply Wq | refine Ws hF hτ rfl ?_ | apply Wb | apply Wl | apply Wk | apply We | apply Wn)
    refine AW.ret ⟨.inr rfl, ?_⟩
    refine congrArg (fun z => some (Iv64 z)) ?_
    rw [cmpZ, if_neg (of_decide_eq_false hc), if_pos (of_decide_eq_true hd)]
  (repeat' first | apply Wq | refine Ws hF hτ rfl ?_ | apply Wb | apply Wl | apply Wk | apply We | apply Wn)
  refine AW.ret ⟨.inr rfl, ?_⟩
  refine congrArg (fun z => some (Iv64 z)) ?_
  rw [cmpZ, if_neg (of_decide_eq_false hc), if_neg (of_decide_eq_false hd)]
theorem f70 (hF : Wide F) (hro : F.round = none) (l : List Int) (hl : l.length ≤ 1000) : FnV Tryz.prog F 70 [Vs (ints l)] (Iv64 (orZ l)) := by
  refine FnV.of_AW hF hro hτ Tryz.func70 rfl (by decide) rfl (by simp [Tryz.f70]) ?_
  (repeat' first | apply Wq | refine Ws hF hτ rfl ?_ | apply Wb | apply Wl | apply Wk | apply We | apply Wn)
  refine AW.rangeJ hF rfl rfl rfl rfl rfl rfl rfl rfl rfl (ints l).length (by simp [lim, ints]; omega) (fun k => [(.s 6, Vs (ints l)), (.s 3, Iv64 0)]) (fun k => orZ l = orZ (l.drop k)) rfl ?_ ?_ (fun k hk hJ => ?_) (fun hJ => ?_)
  · exact fun k => rfl
  · (repeat' first | exact Sub.nil | refine Sub.put rfl ?_ | refine Sub.put ?_ ?_)
  · obtain ⟨x, hx⟩ := get_ex (enc := fun n : Int => [di n]) hk
    rw [orZ_drop hx] at hJ
    (repeat' first | apply Wq | refine Ws hF hτ rfl ?_ | apply Wb | apply Wl | apply Wk | apply We | apply Wn)
    refine AL.opM (OpM.indexD hF rfl (hτ _ _ rfl) rfl (hτ _ _ rfl) rfl (i := k) rfl (get_enc (fun n : Int => [di n]) hx) rfl rfl rfl) rfl rfl ?_
    refine Wv hF hτ rfl (Wn ?_)
    (repeat' first | apply Wq | refine Ws hF hτ rfl ?_ | apply Wb | apply Wl | apply Wk | apply We | apply Wn)
    refine AW.cond rfl rfl (fun hc => ?_) (fun hc => ?_)
    · (repeat' first | apply Wq | refine Ws hF hτ rfl ?_ | apply Wb | apply Wl | apply Wk | apply We | apply Wn)
      refine AW.ret ⟨.inr rfl, ?_⟩
      refine congrArg (fun z => some (Iv64 z)) ?_
      have hc' : x ≠ 0 := by simpa using hc
      rw [hJ, if_pos hc']
    · (repeat' first | apply Wq | refine Ws hF hτ rfl ?_ | apply Wb | apply Wl | apply Wk | apply We | apply Wn)
      have hc' : ¬ x ≠ 0 := by simpa using hc
      refine ⟨?_, by rw [hJ, if_neg hc']⟩
      (repeat' first | exact Sub.nil | refine Sub.put rfl ?_ | refine Sub.put ?_ ?_)
  · (repeat' first | apply Wq | refine Ws hF hτ rfl ?_ | apply Wb | apply Wl | apply Wk | apply We | apply Wn)
    refine AW.ret ⟨.inr rfl, ?_⟩
    refine congrArg (fun z => some (Iv64 z)) ?_
    rw [hJ, List.drop_eq_nil_of_le (by simp [ints])]
    rfl
def slotCmp (a b : Slot) : Int := orZ [cmpZ a.col b.col, cmpZ a.tier b.tier, cmpZ a.half b.half]
theorem f240 (hF : Wide F) (hro : F.round = none) (a b : Slot) : FnV Tryz.prog F 240 [Vd a.enc, Vd b.enc] (Iv64 (slotCmp a b)) := by
  refine FnV.of_AW hF hro hτ Tryz.func240 rfl (by decide) rfl (by simp [Tryz.f240]) ?_
  (repeat' first | apply Wq | refine Ws hF hτ rfl ?_ | apply Wb | apply Wl | apply Wk | apply We | apply Wn)
  refine AW.draw hmix (AD.start [] [0, 1, 2, 3, 4, 5, 6, 7, 8, 9, 10, 11, 12, 13, 14] ?_)
  refine AD.vals hF hτ rfl ?_
  refine AD.op (o := _) rfl rfl rfl (OpM.call hF rfl rfl rfl rfl (f29 hF hro a.col b.col) rfl rfl rfl) ?_
  refine AD.vals hF hτ rfl ?_
  refine AD.op (o := _) rfl rfl rfl (OpM.call hF rfl rfl rfl rfl (f29 hF hro a.tier b.tier) rfl rfl rfl) ?_
  refine AD.vals hF hτ rfl ?_
  refine AD.op (o := _) rfl rfl rfl (OpM.call hF rfl rfl rfl rfl (f271 hF hro a.half b.half) rfl rfl rfl) ?_
  refine AD.vals hF hτ rfl ?_
  refine AD.fin (by kernel_rfl) rfl rfl (AA.tail (fuel := 0) [15, 16, 17] _ (by kernel_rfl) ?_)
  refine AL.opM (OpM.buildSlice hF rfl (hτ _ _ rfl) rfl (hτ _ _ rfl) rfl rfl rfl (by decide) (by decide) rfl rfl) rfl rfl ?_
  refine AL.ent (Ent.frzs (ls := [.s 20]) rfl) ?_
  refine AL.opM (OpM.call hF rfl rfl rfl rfl (f70 hF hro [cmpZ a.col b.col, cmpZ a.tier b.tier, cmpZ a.half b.half] (by simp)) rfl rfl rfl) rfl rfl ?_
  refine Wv hF hτ rfl (Wn ?_)
  (repeat' first | apply Wq | refine Ws hF hτ rfl ?_ | apply Wb | apply Wl | apply Wk | apply We | apply Wn)
  refine AW.ret ⟨.inr rfl, ?_⟩
  rfl
def groupCmp (a b : Group) : Int := orZ [cmpZ a.load b.load, cmpZ a.disch b.disch]
theorem f115 (hF : Wide F) (hro : F.round = none) (a b : Group) : FnV Tryz.prog F 115 [Vd a.enc, Vd b.enc] (Iv64 (groupCmp a b)) := by
  refine FnV.of_AW hF hro hτ Tryz.func115 rfl (by decide) rfl (by simp [Tryz.f115]) ?_
  (repeat' first | apply Wq | refine Ws hF hτ rfl ?_ | apply Wb | apply Wl | apply Wk | apply We | apply Wn)
  refine AW.draw hmix (AD.start [] [0, 1, 2, 3, 4, 5, 6, 7, 8, 9] ?_)
  refine AD.vals hF hτ rfl ?_
  refine AD.op (o := _) rfl rfl rfl (OpM.call hF rfl rfl rfl rfl (f29 hF hro a.load b.load) rfl rfl rfl) ?_
  refine AD.vals hF hτ rfl ?_
  refine AD.op (o := _) rfl rfl rfl (OpM.call hF rfl rfl rfl rfl (f29 hF hro a.disch b.disch) rfl rfl rfl) ?_
  refine AD.vals hF hτ rfl ?_
  refine AD.fin (by kernel_rfl) rfl rfl (AA.tail (fuel := 0) [10, 11, 12] _ (by kernel_rfl) ?_)
  refine AL.opM (OpM.buildSlice hF rfl (hτ _ _ rfl) rfl (hτ _ _ rfl) rfl rfl rfl (by decide) (by decide) rfl rfl) rfl rfl ?_
  refine AL.ent (Ent.frzs (ls := [.s 15]) rfl) ?_
  refine AL.opM (OpM.call hF rfl rfl rfl rfl (f70 hF hro [cmpZ a.load b.load, cmpZ a.disch b.disch] (by simp)) rfl rfl rfl) rfl rfl ?_
  refine Wv hF hτ rfl (Wn ?_)
  (repeat' first | apply Wq | refine Ws hF hτ rfl ?_ | apply Wb | apply Wl | apply Wk | apply We | apply Wn)
  refine AW.ret ⟨.inr rfl, ?_⟩
  rfl
def stowedCmp (a b : Stowed) : Int := orZ [cmpZ a.slot.tier b.slot.tier, slotCmp a.slot b.slot]
theorem f239 (hF : Wide F) (hro : F.round = none) (a b : Stowed) : FnV Tryz.prog F 239 [Vd a.enc, Vd b.enc] (Iv64 (stowedCmp a b)) := by
  refine FnV.of_AW hF hro hτ Tryz.func239 rfl (by decide) rfl (by simp [Tryz.f239]) ?_
  (repeat' first | apply Wq | refine Ws hF hτ rfl ?_ | apply Wb | apply Wl | apply Wk | apply We | apply Wn)
  refine AW.draw hmix (AD.start [] [0, 1, 2, 3, 4, 5, 6, 7, 8, 9, 10, 11] ?_)
  refine AD.vals hF hτ rfl ?_
  refine AD.op (o := _) rfl rfl rfl (OpM.call hF rfl rfl rfl rfl (f29 hF hro a.slot.tier b.slot.tier) rfl rfl rfl) ?_
  refine AD.vals hF hτ rfl ?_
  refine AD.op (o := _) rfl rfl rfl (OpM.call hF rfl rfl rfl rfl (f240 hF hro a.slot b.slot) rfl rfl rfl) ?_
  refine AD.vals hF hτ rfl ?_
  refine AD.fin (by kernel_rfl) rfl rfl (AA.tail (fuel := 0) [12, 13, 14] _ (by kernel_rfl) ?_)
  refine AL.opM (OpM.buildSlice hF rfl (hτ _ _ rfl) rfl (hτ _ _ rfl) rfl rfl rfl (by decide) (by decide) rfl rfl) rfl rfl ?_
  refine AL.ent (Ent.frzs (ls := [.s 17]) rfl) ?_
  refine AL.opM (OpM.call hF rfl rfl rfl rfl (f70 hF hro [cmpZ a.slot.tier b.slot.tier, slotCmp a.slot b.slot] (by simp)) rfl rfl rfl) rfl rfl ?_
  refine Wv hF hτ rfl (Wn ?_)
  (repeat' first | apply Wq | refine Ws hF hτ rfl ?_ | apply Wb | apply Wl | apply Wk | apply We | apply Wn)
  refine AW.ret ⟨.inr rfl, ?_⟩
  rfl
end Go.Proofs.VL
namespace Go.Proofs.VL
open Go Go.RowKit
variable {F : Fence}
def shares (a b : Int) : Bool := a == b || a == 0 || b == 0
theorem f179 (hF : Wide F) (hro : F.round = none) (a b : Int) : FnV Tryz.prog F 179 [Uv a, Uv b] (Vb (shares a b)) := by
  refine FnV.of_AW hF hro hτ Tryz.func179 rfl (by decide) rfl (by simp [Tryz.f179]) ?_
  (repeat' first | apply Wq | refine Ws hF hτ rfl ?_ | apply Wb | apply Wl | apply Wk | apply We | apply Wn)
  refine AL.split 8 rfl rfl (fun h1 => ?_) (fun h1 => ?_)
  · refine Wv hF hτ rfl (Wn ?_)
    refine AW.ret ⟨.inr rfl, ?_⟩
    refine congrArg (fun z => some (Vb z)) ?_
    simp [shares, h1]
  · refine Wv hF hτ rfl ?_
    refine AL.split 12 rfl rfl (fun h2 => ?_) (fun h2 => ?_)
    · refine Wv hF hτ rfl (Wn ?_)
      refine AW.ret ⟨.inr rfl, ?_⟩
      refine congrArg (fun z => some (Vb z)) ?_
      simp [shares, h1, h2]
    · refine Wv hF hτ rfl (Wn ?_)
      refine AW.ret ⟨.inr rfl, ?_⟩
      refine congrArg (fun z => some (Vb z)) ?_
      simp [shares, h1, h2]
def Slot.meet (a b : Slot) : Bool := a.col == b.col && a.tier == b.tier && shares a.half b.half
def Slot.over (a b : Slot) : Bool := a.col == b.col && decide (b.tier < a.tier) && shares a.half b.half
theorem f101 (hF : Wide F) (hro : F.round = none) (a b : Slot) : FnV Tryz.prog F 101 [Vd a.enc, Vd b.enc] (Vb (a.meet b)) := by
  refine FnV.of_AW hF hro hτ Tryz.func101 rfl (by decide) rfl (by simp [Tryz.f101]) ?_
  (repeat' first | apply Wq | refine Ws hF hτ rfl ?_ | apply Wb | apply Wl | apply Wk | apply We | apply Wn)
  refine AL.split 10 rfl rfl (fun h1 => ?_) (fun h1 => ?_)
  · refine Wv hF hτ rfl ?_
    refine AL.split 17 rfl rfl (fun h2 => ?_) (fun h2 => ?_)
    · refine Wv hF hτ rfl ?_
      refine AL.opMT (OpM.call hF rfl rfl rfl rfl (f179 hF hro a.half b.half) rfl rfl rfl) rfl rfl rfl rfl rfl rfl ?_
      refine Wv hF hτ rfl (Wn ?_)
      refine AW.ret ⟨.inr rfl, ?_⟩
      refine congrArg (fun z => some (Vb z)) ?_
      simp [Slot.meet, h1, h2]
    · refine Wv hF hτ rfl (Wn ?_)
      refine AW.ret ⟨.inr rfl, ?_⟩
      refine congrArg (fun z => some (Vb z)) ?_
      simp [Slot.meet, h1, h2]
  · refine Wv hF hτ rfl (Wn ?_)
    refine AW.ret ⟨.inr rfl, ?_⟩
    refine congrArg (fun z => some (Vb z)) ?_
    simp [Slot.meet, h1]
theorem f108 (hF : Wide F) (hro : F.round = none) (a b : Slot) : FnV Tryz.prog F 108 [Vd a.enc, Vd b.enc] (Vb (a.over b)) := by
  refine FnV.of_AW hF hro hτ Tryz.func108 rfl (by decide) rfl (by simp [Tryz.f108]) ?_
  (repeat' first | apply Wq | refine Ws hF hτ rfl ?_ | apply Wb | apply Wl | apply Wk | apply We | apply Wn)
  refine AL.split 10 rfl rfl (fun h1 => ?_) (fun h1 => ?_)
  · refine Wv hF hτ rfl ?_
    refine AL.split 17 rfl rfl (fun h2 => ?_) (fun h2 => ?_)
    · refine Wv hF hτ rfl ?_
      refine AL.opMT (OpM.call hF rfl rfl rfl rfl (f179 hF hro a.half b.half) rfl rfl rfl) rfl rfl rfl rfl rfl rfl ?_
      refine Wv hF hτ rfl (Wn ?_)
      refine AW.ret ⟨.inr rfl, ?_⟩
      refine congrArg (fun z => some (Vb z)) ?_
      simp [Slot.over, h1, h2]
    · refine Wv hF hτ rfl (Wn ?_)
      refine AW.ret ⟨.inr rfl, ?_⟩
      refine congrArg (fun z => some (Vb z)) ?_
      simp [Slot.over, h1, h2]
  · refine Wv hF hτ rfl (Wn ?_)
    refine AW.ret ⟨.inr rfl, ?_⟩
    refine congrArg (fun z => some (Vb z)) ?_
    simp [Slot.over, h1]
end Go.Proofs.VL
namespace Go.Proofs.VL
open Go Go.RowKit
variable {F : Fence}
def Box.tall (b : Box) : Int := if b.reefer then 2896 else 2591
theorem f232 (hF : Wide F) (hro : F.round = none) (b : Box) : FnV Tryz.prog F 232 [Vd b.enc] (Iv64 b.tall) := by
  refine FnV.of_AW hF hro hτ Tryz.func232 rfl (by decide) rfl (by simp [Tryz.f232]) ?_
  (repeat' first | apply Wq | refine Ws hF hτ rfl ?_ | apply Wb | apply Wl | apply Wk | apply We | apply Wn)
  refine AW.cond rfl rfl (fun hc => ?_) (fun hc => ?_)
  · (repeat' first | apply Wq | refine Ws hF hτ rfl ?_ | apply Wb | apply Wl | apply Wk | apply We | apply Wn)
    refine AW.ret ⟨.inr rfl, ?_⟩
    refine congrArg (fun z => some (Iv64 z)) ?_
    rw [Box.tall, if_pos hc]
  · (repeat' first | apply Wq | refine Ws hF hτ rfl ?_ | apply Wb | apply Wl | apply Wk | apply We | apply Wn)
    refine AW.ret ⟨.inr rfl, ?_⟩
    refine congrArg (fun z => some (Iv64 z)) ?_
    rw [Box.tall, if_neg (by rw [hc]; decide)]
structure Count where
  g : Group
  n40 : Int
  n20 : Int
def Count.enc (c : Count) : List D := [di c.g.load, di c.g.disch, di c.n40, di c.n20]
theorem f116 (hF : Wide F) (hro : F.round = none) (c : Count) (h1 : 0 ≤ c.n40) (h2 : c.n40 ≤ 100000) (h3 : 0 ≤ c.n20) (h4 : c.n20 ≤ 100000) : FnV Tryz.prog F 116 [Vd c.enc] (Iv64 (2 * c.n40 + c.n20)) := by
  refine FnV.of_AW hF hro hτ Tryz.func116 rfl (by decide) rfl (by simp [Tryz.f116]) ?_
  (repeat' first | apply Wq | refine Ws hF hτ rfl ?_ | apply Wb | apply Wl | apply Wk | apply We | apply Wn)
  refine AW.ret ⟨.inr rfl, ?_⟩
  refine congrArg (fun z => some (Iv64 z)) ?_
  rw [wrap_id (x := 2 * c.n40) (by omega) (by omega), wrap_id (by omega) (by omega)]
def halves (size : Int) : List Int := if size == 40 then [0] else if size == 20 then [1, 2] else []
def u8s (l : List Int) : List (List D) := l.map fun n => [du n]
theorem f176 (hF : Wide F) (hro : F.round = none) (size : Int) : FnV Tryz.prog F 176 [Uv size] (.row true 5 (u8s (halves size))) := by
  refine FnV.of_AW hF hro hτ Tryz.func176 rfl (by decide) rfl (by simp [Tryz.f176]) ?_
  (repeat' first | apply Wq | refine Ws hF hτ rfl ?_ | apply Wb | apply Wl | apply Wk | apply We | apply Wn)
  refine AW.cond rfl rfl (fun hc => ?_) (fun hc => ?_)
  · (repeat' first | apply Wq | refine Ws hF hτ rfl ?_ | apply Wb | apply Wl | apply Wk | apply We | apply Wn)
    refine AL.opM (OpM.buildSlice hF rfl (hτ _ _ rfl) rfl (hτ _ _ rfl) rfl rfl rfl (by decide) (by decide) rfl rfl) rfl rfl ?_
    refine Wv hF hτ rfl (Wn ?_)
    refine AW.ret ⟨.inr rfl, ?_⟩
    refine congrArg (fun z => some (V.row true 5 z)) ?_
    rw [halves, if_pos hc]
    rfl
  · (repeat' first | apply Wq | refine Ws hF hτ rfl ?_ | apply Wb | apply Wl | apply Wk | apply We | apply Wn)
    refine AW.cond rfl rfl (fun hd => ?_) (fun hd => ?_)
    · (repeat' first | apply Wq | refine Ws hF hτ rfl ?_ | apply Wb | apply Wl | apply Wk | apply We | apply Wn)
      refine AL.opM (OpM.buildSlice hF rfl (hτ _ _ rfl) rfl (hτ _ _ rfl) rfl rfl rfl (by decide) (by decide) rfl rfl) rfl rfl ?_
      refine Wv hF hτ rfl (Wn ?_)
      refine AW.ret ⟨.inr rfl, ?_⟩
      refine congrArg (fun z => some (V.row true 5 z)) ?_
      rw [halves, if_neg (by rw [hc]; decide), if_pos hd]
      rfl
    · (repeat' first | apply Wq | refine Ws hF hτ rfl ?_ | apply Wb | apply Wl | apply Wk | apply We | apply Wn)
      refine AW.ret ⟨.inr rfl, ?_⟩
      refine congrArg (fun z => some (V.row true 5 z)) ?_
      rw [halves, if_neg (by rw [hc]; decide), if_neg (by rw [hd]; decide)]
      rfl
end Go.Proofs.VL
namespace Go.Proofs.VL
open Go Go.RowKit
variable {F : Fence}
def tallest : List Column → Int
  | [] => 0
  | c :: cs => cs.foldl (fun m c => if m < c.tiers then c.tiers else m) c.tiers
theorem tallest_snoc (l : List Column) (c : Column) : tallest (l ++ [c]) = if l.length = 0 then c.tiers else if tallest l < c.tiers then c.tiers else tallest l := by
  cases l with
  | nil => rfl
  | cons d l =>
    rw [if_neg (by simp)]
    simp only [List.cons_append, tallest, List.foldl_append, List.foldl_cons, List.foldl_nil]
    first | rfl | (split <;> rename_i h <;> first | rw [if_pos h] | rw [if_neg h])
theorem f117 (hF : Wide F) (hro : F.round = none) (s : Ship) (hl : s.cols.length ≤ 1000) : FnV Tryz.prog F 117 [Vd s.enc] (Iv64 (tallest s.cols)) := by
  refine FnV.of_AW hF hro hτ Tryz.func117 rfl (by decide) rfl (by simp [Tryz.f117]) ?_
  (repeat' first | apply Wq | refine Ws hF hτ rfl ?_ | apply Wb | apply Wl | apply Wk | apply We | apply Wn)
  refine AW.range hF rfl rfl rfl rfl rfl rfl rfl rfl rfl (s.cols.map Column.enc).length (by simp [lim]; omega) (fun k => [(.s 7, Vs (s.cols.map Column.enc)), (.s 3, Iv64 (tallest (s.cols.take k)))]) ?_ ?_ (fun k hk => ?_) ?_
  · exact fun k => rfl
  · (repeat' first | exact Sub.nil | refine Sub.put rfl ?_ | refine Sub.put ?_ ?_)
  · obtain ⟨c, hcs⟩ := get_ex hk
    have hk' : k < s.cols.length := by simpa using hk
    have hlen : (s.cols.take k).length = k := by simp; omega
    (repeat' first | apply Wq | refine Ws hF hτ rfl ?_ | apply Wb | apply Wl | apply Wk | apply We | apply Wn)
    refine AL.opM (OpM.indexD hF rfl (hτ _ _ rfl) rfl (hτ _ _ rfl) rfl (i := k) rfl (get_enc Column.enc hcs) rfl rfl rfl) rfl rfl ?_
    refine Wv hF hτ rfl (Wn ?_)
    (repeat' first | apply Wq | refine Ws hF hτ rfl ?_ | apply Wb | apply Wl | apply Wk | apply We | apply Wn)
    refine AL.split 16 rfl rfl (fun h1 => ?_) (fun h1 => ?_)
    · have hk0 : k = 0 := by simpa using h1
      refine Wv hF hτ rfl (Wn ?_)
      refine AW.condT rfl rfl ?_
      (repeat' first | apply Wq | refine Ws hF hτ rfl ?_ | apply Wb | apply Wl | apply Wk | apply We | apply Wn)
      (repeat' first | exact Sub.nil | refine Sub.put rfl ?_ | refine Sub.put ?_ ?_)
      refine congrArg (fun z => some (Iv64 z)) ?_
      rw [take_snoc hcs, tallest_snoc, if_pos (by rw [hlen]; exact hk0)]
    · have hk0 : k ≠ 0 := by simpa using h1
      refine Wv hF hτ rfl (Wn ?_)
      refine AW.cond rfl rfl (fun h2 => ?_) (fun h2 => ?_)
      · (repeat' first | apply Wq | refine Ws hF hτ rfl ?_ | apply Wb | apply Wl | apply Wk | apply We | apply Wn)
        (repeat' first | exact Sub.nil | refine Sub.put rfl ?_ | refine Sub.put ?_ ?_)
        refine congrArg (fun z => some (Iv64 z)) ?_
        rw [take_snoc hcs, tallest_snoc, if_neg (by rw [hlen]; exact hk0), if_pos (of_decide_eq_true h2)]
      · (repeat' first | apply Wq | refine Ws hF hτ rfl ?_ | apply Wb | apply Wl | apply Wk | apply We | apply Wn)
        (repeat' first | exact Sub.nil | refine Sub.put rfl ?_ | refine Sub.put ?_ ?_)
        refine congrArg (fun z => some (Iv64 z)) ?_
        rw [take_snoc hcs, tallest_snoc, if_neg (by rw [hlen]; exact hk0), if_neg (of_decide_eq_false h2)]
  · (repeat' first | apply Wq | refine Ws hF hτ rfl ?_ | apply Wb | apply Wl | apply Wk | apply We | apply Wn)
    refine AW.ret ⟨.inr rfl, ?_⟩
    refine congrArg (fun z => some (Iv64 z)) ?_
    simp
end Go.Proofs.VL
namespace Go.Proofs.VL
open Go Go.RowKit
variable {F : Fence}
theorem f174 (hF : Wide F) (hro : F.round = none) (b : Box) (id : Int) : FnV Tryz.prog F 174 [Vd b.enc, .rp [di id] 0] (Vb (b.id == id)) := by
  refine FnV.of_AW hF hro hτ Tryz.func174 rfl (by decide) rfl (by simp [Tryz.f174]) ?_
  (repeat' first | apply Wq | refine Ws hF hτ rfl ?_ | apply Wb | apply Wl | apply Wk | apply We | apply Wc | apply Wd | refine Wt rfl rfl ?_ | refine Wf rfl rfl ?_ | refine Wi rfl rfl (fun h => ?_) (fun h => ?_) | refine Wx hF hτ rfl rfl rfl rfl rfl rfl rfl rfl (fun h => ?_) (fun h => ?_) | apply Wn)
  refine AW.ret ⟨.inr rfl, congrArg (fun z => some (Vb z)) ?_⟩
  rfl
theorem f110 (hF : Wide F) (hro : F.round = none) (b : Stowed) (id : Int) : FnV Tryz.prog F 110 [Vd b.enc, .rp [di id] 0] (Vb (b.box == id)) := by
  refine FnV.of_AW hF hro hτ Tryz.func110 rfl (by decide) rfl (by simp [Tryz.f110]) ?_
  (repeat' first | apply Wq | refine Ws hF hτ rfl ?_ | apply Wb | apply Wl | apply Wk | apply We | apply Wc | apply Wd | refine Wt rfl rfl ?_ | refine Wf rfl rfl ?_ | refine Wi rfl rfl (fun h => ?_) (fun h => ?_) | refine Wx hF hτ rfl rfl rfl rfl rfl rfl rfl rfl (fun h => ?_) (fun h => ?_) | apply Wn)
  refine AW.ret ⟨.inr rfl, congrArg (fun z => some (Vb z)) ?_⟩
  rfl
theorem idxFrom_cases {α : Type} (p : α → Bool) : ∀ (l : List α) (k : Nat), (idxFrom p k l = -1 ∧ l.find? p = none) ∨ ∃ (i : Nat) (x : α), idxFrom p k l = ((k + i : Nat) : Int) ∧ l[i]? = some x ∧ l.find? p = some x := by
  intro l
  induction l with
  | nil => intro k; exact .inl ⟨rfl, rfl⟩
  | cons y l ih =>
    intro k
    simp only [idxFrom, List.find?_cons]
    by_cases h : p y = true
    · simp only [h, if_true]
      exact .inr ⟨0, y, rfl, rfl, rfl⟩
    · have h' : p y = false := by simpa using h
      simp only [h', Bool.false_eq_true, if_false]
      rcases ih (k + 1) with ⟨h1, h2⟩ | ⟨i, x, h1, h2, h3⟩
      · exact .inl ⟨h1, h2⟩
      · exact .inr ⟨i + 1, x, by rw [h1]; congr 1; omega, by simpa using h2, h3⟩
def box0 : Box := ⟨0, ByteArray.empty, 0, false, 0, 0, 0, 0, false⟩
def boxOf (l : List Box) (id : Int) : Option Box := l.find? (fun b => b.id == id)
theorem f98 (hF : Wide F) (hro : F.round = none) (l : List Box) (id : Int) (hl : l.length ≤ 1000) :
    FnV Tryz.prog F 98 [Vs (l.map Box.enc), Iv64 id] (.tu [Vd ((boxOf l id).getD box0).enc, Vb (boxOf l id).isSome]) := by
  refine FnV.of_AW hF hro hτ Tryz.func98 rfl (by decide) rfl (by simp [Tryz.f98]) ?_
  (repeat' first | apply Wq | refine Ws hF hτ rfl ?_ | apply Wb | apply Wl | apply Wk | apply We | apply Wn)
  refine AL.ent (Ent.frzs (ls := [.s 3]) rfl) ?_
  refine AL.opM (OpM.call hF rfl rfl rfl rfl ((f173 hF hro l (fun b => b.id == id) hl).conseq (vs' := [Vs (l.map Box.enc), .fn 174 [.rp [di id] 0]]) ⟨.refl _, .fn (f174 hF hro box0 id).callable rfl ?_, trivial⟩) rfl rfl rfl) rfl rfl ?_
  · rintro vs r ⟨c, rfl, rfl⟩
    exact f174 hF hro c id
  refine Wv hF hτ rfl (Wn ?_)
  rcases idxFrom_cases (fun b : Box => b.id == id) l 0 with ⟨h1, h2⟩ | ⟨i, x, h1, h2, h3⟩
  · rw [h1]
    (repeat' first | apply Wq | refine Ws hF hτ rfl ?_ | apply Wb | apply Wl | apply Wk | apply We | apply Wc | apply Wd | refine Wt rfl rfl ?_ | refine Wf rfl rfl ?_ | refine Wi rfl rfl (fun h => ?_) (fun h => ?_) | refine Wx hF hτ rfl rfl rfl rfl rfl rfl rfl rfl (fun h => ?_) (fun h => ?_) | apply Wn)
    refine AW.ret ⟨.inr rfl, ?_⟩
    rw [boxOf, h2]; rfl
  · rw [h1, Nat.zero_add]
    (repeat' first | apply Wq | refine Ws hF hτ rfl ?_ | apply Wb | apply Wl | apply Wk | apply We | apply Wc | apply Wd | refine Wt rfl rfl ?_ | refine Wf rfl rfl ?_ | refine Wi rfl rfl (fun h => ?_) (fun h => ?_) | refine Wx hF hτ rfl rfl rfl rfl rfl rfl rfl rfl (fun h => ?_) (fun h => ?_) | apply Wn)
    refine AL.opM (OpM.indexD hF rfl (hτ _ _ rfl) rfl (hτ _ _ rfl) rfl (i := i) rfl ( get_enc Box.enc h2) rfl rfl rfl) rfl rfl ?_
    refine Wv hF hτ rfl ?_
    refine AL.nil ?_
    refine AW.ret ⟨.inr rfl, ?_⟩
    rw [boxOf, h3]; rfl
end Go.Proofs.VL
