import Derived.Test.YtndffogfaocchaaGreatW04
import Derived.Test.YtndffogfaocchaaGreatW06
import Derived.Test.YtndffogfaocchaaGreatW07
import Derived.Test.YtndffogfaocchaaGreatProg
set_option linter.unusedVariables false
set_option linter.unusedSimpArgs false
set_option linter.unusedSectionVars false
namespace Go.Proofs.VL
open Go Go.RowKit
def tab : List (Nat × TI) := [
  (3, { size := 1, bytes := 8, eq := true, zero := [D.sc (Value.int IntKind.i64 (0))], kind := TKind.int IntKind.i64 }),
  (4, { size := 1, bytes := 1, eq := true, zero := [D.sc (Value.bool false)], kind := TKind.bool }),
  (5, { size := 1, bytes := 1, eq := true, zero := [D.sc (Value.int IntKind.u8 (0))], kind := TKind.int IntKind.u8 }),
  (9, { size := 1, bytes := 16, eq := true, zero := [D.sc (Value.string ByteArray.empty)], kind := TKind.str }),
  (20, { size := 1, bytes := 16, eq := true, zero := [D.sc Value.nilIface], kind := TKind.sca }),
  (22, { size := 1, bytes := 24, eq := true, zero := [D.nl], kind := TKind.slice 110 }),
  (23, { size := 1, bytes := 4, eq := true, zero := [D.sc (Value.int IntKind.u32 (0))], kind := TKind.int IntKind.u32 }),
  (24, { size := 1, bytes := 24, eq := true, zero := [D.nl], kind := TKind.slice 119 }),
  (25, { size := 1, bytes := 24, eq := true, zero := [D.nl], kind := TKind.slice 112 }),
  (26, { size := 1, bytes := 24, eq := true, zero := [D.nl], kind := TKind.slice 116 }),
  (28, { size := 4, bytes := 32, eq := true, zero := [D.sc (Value.int IntKind.i64 (0)), D.sc (Value.int IntKind.i64 (0)), D.sc (Value.int IntKind.i64 (0)), D.sc (Value.int IntKind.i64 (0))], kind := TKind.struct [0, 1, 2, 3] [3, 3, 3, 3] }),
  (29, { size := 1, bytes := 24, eq := true, zero := [D.nl], kind := TKind.slice 381 }),
  (30, { size := 1, bytes := 24, eq := true, zero := [D.nl], kind := TKind.slice 383 }),
  (31, { size := 1, bytes := 24, eq := true, zero := [D.nl], kind := TKind.slice 385 }),
  (33, { size := 4, bytes := 32, eq := true, zero := [D.sc (Value.int IntKind.i64 (0)), D.sc (Value.int IntKind.i64 (0)), D.sc (Value.int IntKind.i64 (0)), D.sc (Value.int IntKind.i64 (0))], kind := TKind.struct [0, 1, 2, 3] [3, 3, 3, 3] }),
  (35, { size := 13, bytes := 184, eq := true, zero := [D.nl, D.nl, D.sc (Value.int IntKind.i64 (0)), D.sc (Value.int IntKind.i64 (0)), D.sc (Value.int IntKind.i64 (0)), D.sc (Value.int IntKind.i64 (0)), D.nl, D.nl, D.nl, D.sc (Value.int IntKind.i64 (0)), D.sc (Value.int IntKind.i64 (0)), D.sc (Value.int IntKind.i64 (0)), D.sc (Value.int IntKind.i64 (0))], kind := TKind.struct [0, 1, 2, 6, 7, 8, 9] [25, 26, 28, 29, 30, 31, 33] }),
  (37, { size := 1, bytes := 24, eq := true, zero := [D.nl], kind := TKind.slice 46 }),
  (38, { size := 1, bytes := 24, eq := true, zero := [D.nl], kind := TKind.slice 86 }),
  (39, { size := 1, bytes := 24, eq := true, zero := [D.nl], kind := TKind.slice 63 }),
  (41, { size := 2, bytes := 48, eq := true, zero := [D.nl, D.nl], kind := TKind.struct [0, 1] [38, 39] }),
  (44, { size := 1, bytes := 8, eq := true, zero := [D.sc Value.nilFunc], kind := TKind.func }),
  (46, { size := 9, bytes := 64, eq := true, zero := [D.sc (Value.int IntKind.i64 (0)), D.sc (Value.string ByteArray.empty), D.sc (Value.int IntKind.u8 (0)), D.sc (Value.bool false), D.sc (Value.int IntKind.i64 (0)), D.sc (Value.int IntKind.i64 (0)), D.sc (Value.int IntKind.i64 (0)), D.sc (Value.int IntKind.u8 (0)), D.sc (Value.bool false)], kind := TKind.struct [0, 1, 2, 3, 4, 5, 6, 7, 8] [3, 9, 5, 4, 3, 3, 3, 5, 4] }),
  (47, { size := 1, bytes := 8, eq := true, zero := [D.sc Value.nilFunc], kind := TKind.func }),
  (48, { size := 1, bytes := 8, eq := true, zero := [D.sc (Value.int IntKind.i64 (0))], kind := TKind.int IntKind.i64 }),
  (53, { size := 1, bytes := 24, eq := true, zero := [D.nl], kind := TKind.slice 64 }),
  (56, { size := 1, bytes := 24, eq := true, zero := [D.nl], kind := TKind.slice 59 }),
  (59, { size := 1, bytes := 24, eq := true, zero := [D.nl], kind := TKind.slice 61 }),
  (61, { size := 2, bytes := 16, eq := true, zero := [D.sc (Value.int IntKind.i64 (0)), D.sc (Value.int IntKind.i64 (0))], kind := TKind.struct [0, 1] [3, 3] }),
  (63, { size := 1, bytes := 24, eq := true, zero := [D.nl], kind := TKind.slice 3 }),
  (64, { size := 1, bytes := 24, eq := true, zero := [D.nl], kind := TKind.slice 97 }),
  (69, { size := 2, bytes := 16, eq := true, zero := [D.sc (Value.int IntKind.i64 (0)), D.sc (Value.int IntKind.i64 (0))], kind := TKind.struct [0, 1] [3, 3] }),
  (74, { size := 1, bytes := 24, eq := true, zero := [D.nl], kind := TKind.slice 158 }),
  (85, { size := 1, bytes := 8, eq := true, zero := [D.sc Value.nilFunc], kind := TKind.func }),
  (86, { size := 1, bytes := 24, eq := true, zero := [D.nl], kind := TKind.slice 90 }),
  (88, { size := 3, bytes := 24, eq := true, zero := [D.sc (Value.int IntKind.i64 (0)), D.sc (Value.int IntKind.i64 (0)), D.sc (Value.int IntKind.u8 (0))], kind := TKind.struct [0, 1, 2] [3, 3, 5] }),
  (90, { size := 4, bytes := 32, eq := true, zero := [D.sc (Value.int IntKind.i64 (0)), D.sc (Value.int IntKind.i64 (0)), D.sc (Value.int IntKind.i64 (0)), D.sc (Value.int IntKind.u8 (0))], kind := TKind.struct [0, 1] [3, 88] }),
  (92, { size := 1, bytes := 8, eq := true, zero := [D.sc Value.nilFunc], kind := TKind.func }),
  (97, { size := 6, bytes := 48, eq := true, zero := [D.sc (Value.int IntKind.u8 (0)), D.sc (Value.int IntKind.i64 (0)), D.sc (Value.int IntKind.i64 (0)), D.sc (Value.int IntKind.i64 (0)), D.sc (Value.int IntKind.u8 (0)), D.sc (Value.int IntKind.i64 (0))], kind := TKind.struct [0, 1, 2, 5] [5, 3, 88, 3] }),
  (101, { size := 1, bytes := 8, eq := true, zero := [D.sc (Value.pointer none)], kind := TKind.ptr 177 }),
  (105, { size := 1, bytes := 8, eq := true, zero := [D.sc Value.nilFunc], kind := TKind.func }),
  (110, { size := 4, bytes := 4, eq := true, zero := [D.sc (Value.int IntKind.u8 (0)), D.sc (Value.int IntKind.u8 (0)), D.sc (Value.int IntKind.u8 (0)), D.sc (Value.bool false)], kind := TKind.struct [0, 1, 2, 3] [5, 5, 5, 4] }),
  (112, { size := 12, bytes := 112, eq := true, zero := [D.sc (Value.int IntKind.i64 (0)), D.sc (Value.int IntKind.i64 (0)), D.sc (Value.bool false), D.sc (Value.int IntKind.i64 (0)), D.sc (Value.int IntKind.i64 (0)), D.sc (Value.int IntKind.i64 (0)), D.sc (Value.int IntKind.i64 (0)), D.sc (Value.int IntKind.i64 (0)), D.nl, D.sc (Value.int IntKind.i64 (0)), D.sc (Value.int IntKind.i64 (0)), D.sc (Value.int IntKind.i64 (0))], kind := TKind.struct [0, 1, 2, 3, 4, 5, 6, 7, 8, 9, 10, 11] [3, 3, 4, 3, 3, 3, 3, 3, 63, 3, 3, 3] }),
  (116, { size := 2, bytes := 32, eq := true, zero := [D.sc (Value.int IntKind.i64 (0)), D.nl], kind := TKind.struct [0, 1] [3, 63] }),
  (117, { size := 1, bytes := 8, eq := true, zero := [D.sc (Value.map none)], kind := TKind.map 3 3 }),
  (119, { size := 6, bytes := 6, eq := true, zero := [D.sc (Value.int IntKind.u8 (0)), D.sc (Value.int IntKind.u8 (0)), D.sc (Value.int IntKind.u8 (0)), D.sc (Value.int IntKind.u8 (0)), D.sc (Value.bool false), D.sc (Value.bool false)], kind := TKind.struct [0, 1, 2, 3, 4, 5] [5, 5, 5, 5, 4, 4] }),
  (127, { size := 1, bytes := 8, eq := true, zero := [D.sc Value.nilFunc], kind := TKind.func }),
  (128, { size := 1, bytes := 8, eq := true, zero := [D.sc Value.nilFunc], kind := TKind.func }),
  (129, { size := 1, bytes := 8, eq := true, zero := [D.sc Value.nilFunc], kind := TKind.func }),
  (135, { size := 1, bytes := 8, eq := true, zero := [D.sc Value.nilFunc], kind := TKind.func }),
  (139, { size := 1, bytes := 24, eq := true, zero := [D.nl], kind := TKind.slice 148 }),
  (141, { size := 1, bytes := 24, eq := true, zero := [D.nl], kind := TKind.slice 139 }),
  (146, { size := 1, bytes := 8, eq := true, zero := [D.sc Value.nilFunc], kind := TKind.func }),
  (148, { size := 4, bytes := 32, eq := true, zero := [D.sc (Value.int IntKind.i64 (0)), D.sc (Value.int IntKind.i64 (0)), D.sc (Value.int IntKind.i64 (0)), D.sc (Value.int IntKind.i64 (0))], kind := TKind.struct [0, 2, 3] [61, 3, 3] }),
  (151, { size := 1, bytes := 8, eq := true, zero := [D.sc Value.nilFunc], kind := TKind.func }),
  (153, { size := 1, bytes := 8, eq := true, zero := [D.sc (Value.map none)], kind := TKind.map 61 3 }),
  (156, { size := 1, bytes := 8, eq := true, zero := [D.sc (Value.map none)], kind := TKind.map 159 158 }),
  (158, { size := 4, bytes := 32, eq := true, zero := [D.sc (Value.int IntKind.i64 (0)), D.sc (Value.int IntKind.i64 (0)), D.sc (Value.int IntKind.i64 (0)), D.sc (Value.int IntKind.i64 (0))], kind := TKind.struct [0, 1, 2, 3] [3, 3, 3, 3] }),
  (159, { size := 2, bytes := 16, eq := true, zero := [D.sc (Value.int IntKind.i64 (0)), D.sc (Value.int IntKind.i64 (0))], kind := TKind.array 2 3 }),
  (162, { size := 1, bytes := 8, eq := true, zero := [D.sc Value.nilFunc], kind := TKind.func }),
  (163, { size := 1, bytes := 24, eq := true, zero := [D.nl], kind := TKind.slice 234 }),
  (170, { size := 1, bytes := 8, eq := true, zero := [D.sc (Value.int IntKind.u64 (0))], kind := TKind.int IntKind.u64 }),
  (174, { size := 1, bytes := 8, eq := true, zero := [D.sc (Value.map none)], kind := TKind.map 88 46 }),
  (175, { size := 1, bytes := 8, eq := true, zero := [D.sc (Value.map none)], kind := TKind.map 3 46 }),
  (177, { size := 17, bytes := 216, eq := true, zero := [D.nl, D.nl, D.sc (Value.int IntKind.i64 (0)), D.sc (Value.int IntKind.i64 (0)), D.sc (Value.int IntKind.i64 (0)), D.sc (Value.int IntKind.i64 (0)), D.nl, D.nl, D.nl, D.sc (Value.int IntKind.i64 (0)), D.sc (Value.int IntKind.i64 (0)), D.sc (Value.int IntKind.i64 (0)), D.sc (Value.int IntKind.i64 (0)), D.sc (Value.map none), D.sc (Value.map none), D.sc (Value.map none), D.sc (Value.int IntKind.i64 (0))], kind := TKind.struct [0, 13, 14, 15, 16] [35, 174, 175, 117, 3] }),
  (184, { size := 1, bytes := 8, eq := true, zero := [D.sc Value.nilFunc], kind := TKind.func }),
  (187, { size := 1, bytes := 8, eq := true, zero := [D.sc Value.nilFunc], kind := TKind.func }),
  (188, { size := 1, bytes := 8, eq := true, zero := [D.sc Value.nilFunc], kind := TKind.func }),
  (191, { size := 1, bytes := 8, eq := true, zero := [D.sc Value.nilFunc], kind := TKind.func }),
  (192, { size := 1, bytes := 8, eq := true, zero := [D.sc (Value.map none)], kind := TKind.map 3 88 }),
  (195, { size := 1, bytes := 24, eq := true, zero := [D.nl], kind := TKind.slice 88 }),
  (197, { size := 1, bytes := 8, eq := true, zero := [D.sc (Value.map none)], kind := TKind.map 198 3 }),
  (198, { size := 3, bytes := 24, eq := true, zero := [D.sc (Value.int IntKind.i64 (0)), D.sc (Value.int IntKind.i64 (0)), D.sc (Value.int IntKind.i64 (0))], kind := TKind.array 3 3 }),
  (206, { size := 1, bytes := 8, eq := true, zero := [D.sc (Value.map none)], kind := TKind.map 3 276 }),
  (207, { size := 1, bytes := 8, eq := true, zero := [D.sc Value.nilFunc], kind := TKind.func }),
  (213, { size := 1, bytes := 8, eq := true, zero := [D.sc (Value.map none)], kind := TKind.map 61 148 }),
  (216, { size := 1, bytes := 8, eq := true, zero := [D.sc Value.nilFunc], kind := TKind.func }),
  (221, { size := 1, bytes := 8, eq := true, zero := [D.sc Value.nilFunc], kind := TKind.func }),
  (226, { size := 1, bytes := 8, eq := true, zero := [D.sc Value.nilFunc], kind := TKind.func }),
  (231, { size := 1, bytes := 8, eq := true, zero := [D.sc Value.nilFunc], kind := TKind.func }),
  (234, { size := 5, bytes := 40, eq := true, zero := [D.sc (Value.int IntKind.i64 (0)), D.sc (Value.int IntKind.i64 (0)), D.sc (Value.int IntKind.i64 (0)), D.sc (Value.int IntKind.i64 (0)), D.sc (Value.int IntKind.i64 (0))], kind := TKind.struct [0, 1, 2, 3, 4] [3, 3, 3, 3, 3] }),
  (237, { size := 1, bytes := 8, eq := true, zero := [D.sc Value.nilFunc], kind := TKind.func }),
  (240, { size := 1, bytes := 8, eq := true, zero := [D.sc (Value.int IntKind.i64 (0))], kind := TKind.int IntKind.i64 }),
  (248, { size := 1, bytes := 8, eq := true, zero := [D.sc (Value.int IntKind.u64 (0))], kind := TKind.int IntKind.u64 }),
  (260, { size := 1, bytes := 8, eq := true, zero := [D.sc Value.nilFunc], kind := TKind.func }),
  (261, { size := 1, bytes := 8, eq := true, zero := [D.sc Value.nilFunc], kind := TKind.func }),
  (263, { size := 1, bytes := 24, eq := true, zero := [D.nl], kind := TKind.slice 265 }),
  (265, { size := 3, bytes := 24, eq := true, zero := [D.sc (Value.int IntKind.i64 (0)), D.sc (Value.int IntKind.i64 (0)), D.sc (Value.int IntKind.i64 (0))], kind := TKind.struct [0, 1, 2] [3, 3, 3] }),
  (266, { size := 1, bytes := 8, eq := true, zero := [D.sc Value.nilFunc], kind := TKind.func }),
  (268, { size := 1, bytes := 8, eq := true, zero := [D.sc Value.nilFunc], kind := TKind.func }),
  (270, { size := 1, bytes := 24, eq := true, zero := [D.nl], kind := TKind.slice 5 }),
  (273, { size := 1, bytes := 8, eq := true, zero := [D.sc Value.nilFunc], kind := TKind.func }),
  (276, { size := 0, bytes := 0, eq := true, zero := [], kind := TKind.struct [] [] }),
  (280, { size := 1, bytes := 8, eq := true, zero := [D.sc Value.nilFunc], kind := TKind.func }),
  (281, { size := 1, bytes := 8, eq := true, zero := [D.sc Value.nilFunc], kind := TKind.func }),
  (282, { size := 1, bytes := 8, eq := true, zero := [D.sc Value.nilFunc], kind := TKind.func }),
  (296, { size := 1, bytes := 8, eq := true, zero := [D.sc (Value.int IntKind.u64 (0))], kind := TKind.int IntKind.u64 }),
  (300, { size := 1, bytes := 8, eq := true, zero := [D.sc (Value.pointer none)], kind := TKind.ptr 3 }),
  (307, { size := 1, bytes := 8, eq := true, zero := [D.sc Value.nilFunc], kind := TKind.func }),
  (310, { size := 2, bytes := 16, eq := true, zero := [D.sc Value.nilFunc, D.sc (Value.int IntKind.i64 (0))], kind := TKind.struct [0, 1] [44, 48] }),
  (318, { size := 1, bytes := 8, eq := true, zero := [D.sc Value.nilFunc], kind := TKind.func }),
  (337, { size := 1, bytes := 8, eq := true, zero := [D.sc (Value.map none)], kind := TKind.map 159 3 }),
  (339, { size := 1, bytes := 8, eq := true, zero := [D.sc Value.nilFunc], kind := TKind.func }),
  (340, { size := 1, bytes := 8, eq := true, zero := [D.sc (Value.pointer none)], kind := TKind.ptr 296 }),
  (344, { size := 1, bytes := 24, eq := true, zero := [D.nl], kind := TKind.slice 310 }),
  (381, { size := 5, bytes := 40, eq := true, zero := [D.sc (Value.int IntKind.i64 (0)), D.sc (Value.int IntKind.i64 (0)), D.sc (Value.int IntKind.i64 (0)), D.sc (Value.int IntKind.i64 (0)), D.sc (Value.int IntKind.i64 (0))], kind := TKind.struct [0, 1, 2, 3, 4] [3, 3, 3, 3, 3] }),
  (383, { size := 5, bytes := 40, eq := true, zero := [D.sc (Value.int IntKind.i64 (0)), D.sc (Value.int IntKind.i64 (0)), D.sc (Value.int IntKind.i64 (0)), D.sc (Value.int IntKind.i64 (0)), D.sc (Value.int IntKind.i64 (0))], kind := TKind.struct [0, 1, 2, 3, 4] [3, 3, 3, 3, 3] }),
  (385, { size := 6, bytes := 64, eq := true, zero := [D.sc (Value.int IntKind.i64 (0)), D.sc (Value.int IntKind.i64 (0)), D.sc (Value.int IntKind.i64 (0)), D.sc (Value.int IntKind.i64 (0)), D.sc (Value.int IntKind.i64 (0)), D.nl], kind := TKind.struct [0, 1, 2, 3, 4, 5] [3, 3, 3, 3, 3, 63] })]
def find (t : Nat) : List (Nat × TI) → Option TI
  | [] => none
  | (u, ti) :: l => match Nat.beq u t with | true => some ti | false => find t l
def τ (t : Nat) : Option TI := find t tab
def TabOK (P : Program) : List (Nat × TI) → Prop
  | [] => True
  | p :: l => mkTI P p.1 = some p.2 ∧ TabOK P l
theorem find_ok {P : Program} : ∀ {l : List (Nat × TI)}, TabOK P l → ∀ t ti, find t l = some ti → mkTI P t = some ti := by
  intro l
  induction l with
  | nil => intro _ t ti h; cases h
  | cons p l ih =>
    intro hl t ti h
    obtain ⟨u, ui⟩ := p
    simp only [find] at h
    split at h
    · rename_i hb
      cases h
      have := Nat.eq_of_beq_eq_true hb
      subst this
      exact hl.1
    · exact ih hl.2 t ti h
theorem ti3 : mkTI Tryz.prog 3 = some { size := 1, bytes := 8, eq := true, zero := [D.sc (Value.int IntKind.i64 (0))], kind := TKind.int IntKind.i64 } := by kernel_rfl
theorem ti4 : mkTI Tryz.prog 4 = some { size := 1, bytes := 1, eq := true, zero := [D.sc (Value.bool false)], kind := TKind.bool } := by kernel_rfl
theorem ti5 : mkTI Tryz.prog 5 = some { size := 1, bytes := 1, eq := true, zero := [D.sc (Value.int IntKind.u8 (0))], kind := TKind.int IntKind.u8 } := by kernel_rfl
theorem ti9 : mkTI Tryz.prog 9 = some { size := 1, bytes := 16, eq := true, zero := [D.sc (Value.string ByteArray.empty)], kind := TKind.str } := by kernel_rfl
theorem ti20 : mkTI Tryz.prog 20 = some { size := 1, bytes := 16, eq := true, zero := [D.sc Value.nilIface], kind := TKind.sca } := by kernel_rfl
theorem ti22 : mkTI Tryz.prog 22 = some { size := 1, bytes := 24, eq := true, zero := [D.nl], kind := TKind.slice 110 } := by kernel_rfl
theorem ti23 : mkTI Tryz.prog 23 = some { size := 1, bytes := 4, eq := true, zero := [D.sc (Value.int IntKind.u32 (0))], kind := TKind.int IntKind.u32 } := by kernel_rfl
theorem ti24 : mkTI Tryz.prog 24 = some { size := 1, bytes := 24, eq := true, zero := [D.nl], kind := TKind.slice 119 } := by kernel_rfl
theorem ti25 : mkTI Tryz.prog 25 = some { size := 1, bytes := 24, eq := true, zero := [D.nl], kind := TKind.slice 112 } := by kernel_rfl
theorem ti26 : mkTI Tryz.prog 26 = some { size := 1, bytes := 24, eq := true, zero := [D.nl], kind := TKind.slice 116 } := by kernel_rfl
theorem ti28 : mkTI Tryz.prog 28 = some { size := 4, bytes := 32, eq := true, zero := [D.sc (Value.int IntKind.i64 (0)), D.sc (Value.int IntKind.i64 (0)), D.sc (Value.int IntKind.i64 (0)), D.sc (Value.int IntKind.i64 (0))], kind := TKind.struct [0, 1, 2, 3] [3, 3, 3, 3] } := by kernel_rfl
theorem ti29 : mkTI Tryz.prog 29 = some { size := 1, bytes := 24, eq := true, zero := [D.nl], kind := TKind.slice 381 } := by kernel_rfl
theorem ti30 : mkTI Tryz.prog 30 = some { size := 1, bytes := 24, eq := true, zero := [D.nl], kind := TKind.slice 383 } := by kernel_rfl
theorem ti31 : mkTI Tryz.prog 31 = some { size := 1, bytes := 24, eq := true, zero := [D.nl], kind := TKind.slice 385 } := by kernel_rfl
theorem ti33 : mkTI Tryz.prog 33 = some { size := 4, bytes := 32, eq := true, zero := [D.sc (Value.int IntKind.i64 (0)), D.sc (Value.int IntKind.i64 (0)), D.sc (Value.int IntKind.i64 (0)), D.sc (Value.int IntKind.i64 (0))], kind := TKind.struct [0, 1, 2, 3] [3, 3, 3, 3] } := by kernel_rfl
theorem ti35 : mkTI Tryz.prog 35 = some { size := 13, bytes := 184, eq := true, zero := [D.nl, D.nl, D.sc (Value.int IntKind.i64 (0)), D.sc (Value.int IntKind.i64 (0)), D.sc (Value.int IntKind.i64 (0)), D.sc (Value.int IntKind.i64 (0)), D.nl, D.nl, D.nl, D.sc (Value.int IntKind.i64 (0)), D.sc (Value.int IntKind.i64 (0)), D.sc (Value.int IntKind.i64 (0)), D.sc (Value.int IntKind.i64 (0))], kind := TKind.struct [0, 1, 2, 6, 7, 8, 9] [25, 26, 28, 29, 30, 31, 33] } := by kernel_rfl
theorem ti37 : mkTI Tryz.prog 37 = some { size := 1, bytes := 24, eq := true, zero := [D.nl], kind := TKind.slice 46 } := by kernel_rfl
theorem ti38 : mkTI Tryz.prog 38 = some { size := 1, bytes := 24, eq := true, zero := [D.nl], kind := TKind.slice 86 } := by kernel_rfl
theorem ti39 : mkTI Tryz.prog 39 = some { size := 1, bytes := 24, eq := true, zero := [D.nl], kind := TKind.slice 63 } := by kernel_rfl
theorem ti41 : mkTI Tryz.prog 41 = some { size := 2, bytes := 48, eq := true, zero := [D.nl, D.nl], kind := TKind.struct [0, 1] [38, 39] } := by kernel_rfl
theorem ti44 : mkTI Tryz.prog 44 = some { size := 1, bytes := 8, eq := true, zero := [D.sc Value.nilFunc], kind := TKind.func } := by kernel_rfl
theorem ti46 : mkTI Tryz.prog 46 = some { size := 9, bytes := 64, eq := true, zero := [D.sc (Value.int IntKind.i64 (0)), D.sc (Value.string ByteArray.empty), D.sc (Value.int IntKind.u8 (0)), D.sc (Value.bool false), D.sc (Value.int IntKind.i64 (0)), D.sc (Value.int IntKind.i64 (0)), D.sc (Value.int IntKind.i64 (0)), D.sc (Value.int IntKind.u8 (0)), D.sc (Value.bool false)], kind := TKind.struct [0, 1, 2, 3, 4, 5, 6, 7, 8] [3, 9, 5, 4, 3, 3, 3, 5, 4] } := by kernel_rfl
theorem ti47 : mkTI Tryz.prog 47 = some { size := 1, bytes := 8, eq := true, zero := [D.sc Value.nilFunc], kind := TKind.func } := by kernel_rfl
theorem ti48 : mkTI Tryz.prog 48 = some { size := 1, bytes := 8, eq := true, zero := [D.sc (Value.int IntKind.i64 (0))], kind := TKind.int IntKind.i64 } := by kernel_rfl
theorem ti53 : mkTI Tryz.prog 53 = some { size := 1, bytes := 24, eq := true, zero := [D.nl], kind := TKind.slice 64 } := by kernel_rfl
theorem ti56 : mkTI Tryz.prog 56 = some { size := 1, bytes := 24, eq := true, zero := [D.nl], kind := TKind.slice 59 } := by kernel_rfl
theorem ti59 : mkTI Tryz.prog 59 = some { size := 1, bytes := 24, eq := true, zero := [D.nl], kind := TKind.slice 61 } := by kernel_rfl
theorem ti61 : mkTI Tryz.prog 61 = some { size := 2, bytes := 16, eq := true, zero := [D.sc (Value.int IntKind.i64 (0)), D.sc (Value.int IntKind.i64 (0))], kind := TKind.struct [0, 1] [3, 3] } := by kernel_rfl
theorem ti63 : mkTI Tryz.prog 63 = some { size := 1, bytes := 24, eq := true, zero := [D.nl], kind := TKind.slice 3 } := by kernel_rfl
theorem ti64 : mkTI Tryz.prog 64 = some { size := 1, bytes := 24, eq := true, zero := [D.nl], kind := TKind.slice 97 } := by kernel_rfl
theorem ti69 : mkTI Tryz.prog 69 = some { size := 2, bytes := 16, eq := true, zero := [D.sc (Value.int IntKind.i64 (0)), D.sc (Value.int IntKind.i64 (0))], kind := TKind.struct [0, 1] [3, 3] } := by kernel_rfl
theorem ti74 : mkTI Tryz.prog 74 = some { size := 1, bytes := 24, eq := true, zero := [D.nl], kind := TKind.slice 158 } := by kernel_rfl
theorem ti85 : mkTI Tryz.prog 85 = some { size := 1, bytes := 8, eq := true, zero := [D.sc Value.nilFunc], kind := TKind.func } := by kernel_rfl
theorem ti86 : mkTI Tryz.prog 86 = some { size := 1, bytes := 24, eq := true, zero := [D.nl], kind := TKind.slice 90 } := by kernel_rfl
theorem ti88 : mkTI Tryz.prog 88 = some { size := 3, bytes := 24, eq := true, zero := [D.sc (Value.int IntKind.i64 (0)), D.sc (Value.int IntKind.i64 (0)), D.sc (Value.int IntKind.u8 (0))], kind := TKind.struct [0, 1, 2] [3, 3, 5] } := by kernel_rfl
theorem ti90 : mkTI Tryz.prog 90 = some { size := 4, bytes := 32, eq := true, zero := [D.sc (Value.int IntKind.i64 (0)), D.sc (Value.int IntKind.i64 (0)), D.sc (Value.int IntKind.i64 (0)), D.sc (Value.int IntKind.u8 (0))], kind := TKind.struct [0, 1] [3, 88] } := by kernel_rfl
theorem ti92 : mkTI Tryz.prog 92 = some { size := 1, bytes := 8, eq := true, zero := [D.sc Value.nilFunc], kind := TKind.func } := by kernel_rfl
theorem ti97 : mkTI Tryz.prog 97 = some { size := 6, bytes := 48, eq := true, zero := [D.sc (Value.int IntKind.u8 (0)), D.sc (Value.int IntKind.i64 (0)), D.sc (Value.int IntKind.i64 (0)), D.sc (Value.int IntKind.i64 (0)), D.sc (Value.int IntKind.u8 (0)), D.sc (Value.int IntKind.i64 (0))], kind := TKind.struct [0, 1, 2, 5] [5, 3, 88, 3] } := by kernel_rfl
theorem ti101 : mkTI Tryz.prog 101 = some { size := 1, bytes := 8, eq := true, zero := [D.sc (Value.pointer none)], kind := TKind.ptr 177 } := by kernel_rfl
theorem ti105 : mkTI Tryz.prog 105 = some { size := 1, bytes := 8, eq := true, zero := [D.sc Value.nilFunc], kind := TKind.func } := by kernel_rfl
theorem ti110 : mkTI Tryz.prog 110 = some { size := 4, bytes := 4, eq := true, zero := [D.sc (Value.int IntKind.u8 (0)), D.sc (Value.int IntKind.u8 (0)), D.sc (Value.int IntKind.u8 (0)), D.sc (Value.bool false)], kind := TKind.struct [0, 1, 2, 3] [5, 5, 5, 4] } := by kernel_rfl
theorem ti112 : mkTI Tryz.prog 112 = some { size := 12, bytes := 112, eq := true, zero := [D.sc (Value.int IntKind.i64 (0)), D.sc (Value.int IntKind.i64 (0)), D.sc (Value.bool false), D.sc (Value.int IntKind.i64 (0)), D.sc (Value.int IntKind.i64 (0)), D.sc (Value.int IntKind.i64 (0)), D.sc (Value.int IntKind.i64 (0)), D.sc (Value.int IntKind.i64 (0)), D.nl, D.sc (Value.int IntKind.i64 (0)), D.sc (Value.int IntKind.i64 (0)), D.sc (Value.int IntKind.i64 (0))], kind := TKind.struct [0, 1, 2, 3, 4, 5, 6, 7, 8, 9, 10, 11] [3, 3, 4, 3, 3, 3, 3, 3, 63, 3, 3, 3] } := by kernel_rfl
theorem ti116 : mkTI Tryz.prog 116 = some { size := 2, bytes := 32, eq := true, zero := [D.sc (Value.int IntKind.i64 (0)), D.nl], kind := TKind.struct [0, 1] [3, 63] } := by kernel_rfl
theorem ti117 : mkTI Tryz.prog 117 = some { size := 1, bytes := 8, eq := true, zero := [D.sc (Value.map none)], kind := TKind.map 3 3 } := by kernel_rfl
theorem ti119 : mkTI Tryz.prog 119 = some { size := 6, bytes := 6, eq := true, zero := [D.sc (Value.int IntKind.u8 (0)), D.sc (Value.int IntKind.u8 (0)), D.sc (Value.int IntKind.u8 (0)), D.sc (Value.int IntKind.u8 (0)), D.sc (Value.bool false), D.sc (Value.bool false)], kind := TKind.struct [0, 1, 2, 3, 4, 5] [5, 5, 5, 5, 4, 4] } := by kernel_rfl
theorem ti127 : mkTI Tryz.prog 127 = some { size := 1, bytes := 8, eq := true, zero := [D.sc Value.nilFunc], kind := TKind.func } := by kernel_rfl
theorem ti128 : mkTI Tryz.prog 128 = some { size := 1, bytes := 8, eq := true, zero := [D.sc Value.nilFunc], kind := TKind.func } := by kernel_rfl
theorem ti129 : mkTI Tryz.prog 129 = some { size := 1, bytes := 8, eq := true, zero := [D.sc Value.nilFunc], kind := TKind.func } := by kernel_rfl
theorem ti135 : mkTI Tryz.prog 135 = some { size := 1, bytes := 8, eq := true, zero := [D.sc Value.nilFunc], kind := TKind.func } := by kernel_rfl
theorem ti139 : mkTI Tryz.prog 139 = some { size := 1, bytes := 24, eq := true, zero := [D.nl], kind := TKind.slice 148 } := by kernel_rfl
theorem ti141 : mkTI Tryz.prog 141 = some { size := 1, bytes := 24, eq := true, zero := [D.nl], kind := TKind.slice 139 } := by kernel_rfl
theorem ti146 : mkTI Tryz.prog 146 = some { size := 1, bytes := 8, eq := true, zero := [D.sc Value.nilFunc], kind := TKind.func } := by kernel_rfl
theorem ti148 : mkTI Tryz.prog 148 = some { size := 4, bytes := 32, eq := true, zero := [D.sc (Value.int IntKind.i64 (0)), D.sc (Value.int IntKind.i64 (0)), D.sc (Value.int IntKind.i64 (0)), D.sc (Value.int IntKind.i64 (0))], kind := TKind.struct [0, 2, 3] [61, 3, 3] } := by kernel_rfl
theorem ti151 : mkTI Tryz.prog 151 = some { size := 1, bytes := 8, eq := true, zero := [D.sc Value.nilFunc], kind := TKind.func } := by kernel_rfl
theorem ti153 : mkTI Tryz.prog 153 = some { size := 1, bytes := 8, eq := true, zero := [D.sc (Value.map none)], kind := TKind.map 61 3 } := by kernel_rfl
theorem ti156 : mkTI Tryz.prog 156 = some { size := 1, bytes := 8, eq := true, zero := [D.sc (Value.map none)], kind := TKind.map 159 158 } := by kernel_rfl
theorem ti158 : mkTI Tryz.prog 158 = some { size := 4, bytes := 32, eq := true, zero := [D.sc (Value.int IntKind.i64 (0)), D.sc (Value.int IntKind.i64 (0)), D.sc (Value.int IntKind.i64 (0)), D.sc (Value.int IntKind.i64 (0))], kind := TKind.struct [0, 1, 2, 3] [3, 3, 3, 3] } := by kernel_rfl
theorem ti159 : mkTI Tryz.prog 159 = some { size := 2, bytes := 16, eq := true, zero := [D.sc (Value.int IntKind.i64 (0)), D.sc (Value.int IntKind.i64 (0))], kind := TKind.array 2 3 } := by kernel_rfl
theorem ti162 : mkTI Tryz.prog 162 = some { size := 1, bytes := 8, eq := true, zero := [D.sc Value.nilFunc], kind := TKind.func } := by kernel_rfl
theorem ti163 : mkTI Tryz.prog 163 = some { size := 1, bytes := 24, eq := true, zero := [D.nl], kind := TKind.slice 234 } := by kernel_rfl
theorem ti170 : mkTI Tryz.prog 170 = some { size := 1, bytes := 8, eq := true, zero := [D.sc (Value.int IntKind.u64 (0))], kind := TKind.int IntKind.u64 } := by kernel_rfl
theorem ti174 : mkTI Tryz.prog 174 = some { size := 1, bytes := 8, eq := true, zero := [D.sc (Value.map none)], kind := TKind.map 88 46 } := by kernel_rfl
theorem ti175 : mkTI Tryz.prog 175 = some { size := 1, bytes := 8, eq := true, zero := [D.sc (Value.map none)], kind := TKind.map 3 46 } := by kernel_rfl
theorem ti177 : mkTI Tryz.prog 177 = some { size := 17, bytes := 216, eq := true, zero := [D.nl, D.nl, D.sc (Value.int IntKind.i64 (0)), D.sc (Value.int IntKind.i64 (0)), D.sc (Value.int IntKind.i64 (0)), D.sc (Value.int IntKind.i64 (0)), D.nl, D.nl, D.nl, D.sc (Value.int IntKind.i64 (0)), D.sc (Value.int IntKind.i64 (0)), D.sc (Value.int IntKind.i64 (0)), D.sc (Value.int IntKind.i64 (0)), D.sc (Value.map none), D.sc (Value.map none), D.sc (Value.map none), D.sc (Value.int IntKind.i64 (0))], kind := TKind.struct [0, 13, 14, 15, 16] [35, 174, 175, 117, 3] } := by kernel_rfl
theorem ti184 : mkTI Tryz.prog 184 = some { size := 1, bytes := 8, eq := true, zero := [D.sc Value.nilFunc], kind := TKind.func } := by kernel_rfl
theorem ti187 : mkTI Tryz.prog 187 = some { size := 1, bytes := 8, eq := true, zero := [D.sc Value.nilFunc], kind := TKind.func } := by kernel_rfl
theorem ti188 : mkTI Tryz.prog 188 = some { size := 1, bytes := 8, eq := true, zero := [D.sc Value.nilFunc], kind := TKind.func } := by kernel_rfl
theorem ti191 : mkTI Tryz.prog 191 = some { size := 1, bytes := 8, eq := true, zero := [D.sc Value.nilFunc], kind := TKind.func } := by kernel_rfl
theorem ti192 : mkTI Tryz.prog 192 = some { size := 1, bytes := 8, eq := true, zero := [D.sc (Value.map none)], kind := TKind.map 3 88 } := by kernel_rfl
theorem ti195 : mkTI Tryz.prog 195 = some { size := 1, bytes := 24, eq := true, zero := [D.nl], kind := TKind.slice 88 } := by kernel_rfl
theorem ti197 : mkTI Tryz.prog 197 = some { size := 1, bytes := 8, eq := true, zero := [D.sc (Value.map none)], kind := TKind.map 198 3 } := by kernel_rfl
theorem ti198 : mkTI Tryz.prog 198 = some { size := 3, bytes := 24, eq := true, zero := [D.sc (Value.int IntKind.i64 (0)), D.sc (Value.int IntKind.i64 (0)), D.sc (Value.int IntKind.i64 (0))], kind := TKind.array 3 3 } := by kernel_rfl
theorem ti206 : mkTI Tryz.prog 206 = some { size := 1, bytes := 8, eq := true, zero := [D.sc (Value.map none)], kind := TKind.map 3 276 } := by kernel_rfl
theorem ti207 : mkTI Tryz.prog 207 = some { size := 1, bytes := 8, eq := true, zero := [D.sc Value.nilFunc], kind := TKind.func } := by kernel_rfl
theorem ti213 : mkTI Tryz.prog 213 = some { size := 1, bytes := 8, eq := true, zero := [D.sc (Value.map none)], kind := TKind.map 61 148 } := by kernel_rfl
theorem ti216 : mkTI Tryz.prog 216 = some { size := 1, bytes := 8, eq := true, zero := [D.sc Value.nilFunc], kind := TKind.func } := by kernel_rfl
theorem ti221 : mkTI Tryz.prog 221 = some { size := 1, bytes := 8, eq := true, zero := [D.sc Value.nilFunc], kind := TKind.func } := by kernel_rfl
theorem ti226 : mkTI Tryz.prog 226 = some { size := 1, bytes := 8, eq := true, zero := [D.sc Value.nilFunc], kind := TKind.func } := by kernel_rfl
theorem ti231 : mkTI Tryz.prog 231 = some { size := 1, bytes := 8, eq := true, zero := [D.sc Value.nilFunc], kind := TKind.func } := by kernel_rfl
theorem ti234 : mkTI Tryz.prog 234 = some { size := 5, bytes := 40, eq := true, zero := [D.sc (Value.int IntKind.i64 (0)), D.sc (Value.int IntKind.i64 (0)), D.sc (Value.int IntKind.i64 (0)), D.sc (Value.int IntKind.i64 (0)), D.sc (Value.int IntKind.i64 (0))], kind := TKind.struct [0, 1, 2, 3, 4] [3, 3, 3, 3, 3] } := by kernel_rfl
theorem ti237 : mkTI Tryz.prog 237 = some { size := 1, bytes := 8, eq := true, zero := [D.sc Value.nilFunc], kind := TKind.func } := by kernel_rfl
theorem ti240 : mkTI Tryz.prog 240 = some { size := 1, bytes := 8, eq := true, zero := [D.sc (Value.int IntKind.i64 (0))], kind := TKind.int IntKind.i64 } := by kernel_rfl
theorem ti248 : mkTI Tryz.prog 248 = some { size := 1, bytes := 8, eq := true, zero := [D.sc (Value.int IntKind.u64 (0))], kind := TKind.int IntKind.u64 } := by kernel_rfl
theorem ti260 : mkTI Tryz.prog 260 = some { size := 1, bytes := 8, eq := true, zero := [D.sc Value.nilFunc], kind := TKind.func } := by kernel_rfl
theorem ti261 : mkTI Tryz.prog 261 = some { size := 1, bytes := 8, eq := true, zero := [D.sc Value.nilFunc], kind := TKind.func } := by kernel_rfl
theorem ti263 : mkTI Tryz.prog 263 = some { size := 1, bytes := 24, eq := true, zero := [D.nl], kind := TKind.slice 265 } := by kernel_rfl
theorem ti265 : mkTI Tryz.prog 265 = some { size := 3, bytes := 24, eq := true, zero := [D.sc (Value.int IntKind.i64 (0)), D.sc (Value.int IntKind.i64 (0)), D.sc (Value.int IntKind.i64 (0))], kind := TKind.struct [0, 1, 2] [3, 3, 3] } := by kernel_rfl
theorem ti266 : mkTI Tryz.prog 266 = some { size := 1, bytes := 8, eq := true, zero := [D.sc Value.nilFunc], kind := TKind.func } := by kernel_rfl
theorem ti268 : mkTI Tryz.prog 268 = some { size := 1, bytes := 8, eq := true, zero := [D.sc Value.nilFunc], kind := TKind.func } := by kernel_rfl
theorem ti270 : mkTI Tryz.prog 270 = some { size := 1, bytes := 24, eq := true, zero := [D.nl], kind := TKind.slice 5 } := by kernel_rfl
theorem ti273 : mkTI Tryz.prog 273 = some { size := 1, bytes := 8, eq := true, zero := [D.sc Value.nilFunc], kind := TKind.func } := by kernel_rfl
theorem ti276 : mkTI Tryz.prog 276 = some { size := 0, bytes := 0, eq := true, zero := [], kind := TKind.struct [] [] } := by kernel_rfl
theorem ti280 : mkTI Tryz.prog 280 = some { size := 1, bytes := 8, eq := true, zero := [D.sc Value.nilFunc], kind := TKind.func } := by kernel_rfl
theorem ti281 : mkTI Tryz.prog 281 = some { size := 1, bytes := 8, eq := true, zero := [D.sc Value.nilFunc], kind := TKind.func } := by kernel_rfl
theorem ti282 : mkTI Tryz.prog 282 = some { size := 1, bytes := 8, eq := true, zero := [D.sc Value.nilFunc], kind := TKind.func } := by kernel_rfl
theorem ti296 : mkTI Tryz.prog 296 = some { size := 1, bytes := 8, eq := true, zero := [D.sc (Value.int IntKind.u64 (0))], kind := TKind.int IntKind.u64 } := by kernel_rfl
theorem ti300 : mkTI Tryz.prog 300 = some { size := 1, bytes := 8, eq := true, zero := [D.sc (Value.pointer none)], kind := TKind.ptr 3 } := by kernel_rfl
theorem ti307 : mkTI Tryz.prog 307 = some { size := 1, bytes := 8, eq := true, zero := [D.sc Value.nilFunc], kind := TKind.func } := by kernel_rfl
theorem ti310 : mkTI Tryz.prog 310 = some { size := 2, bytes := 16, eq := true, zero := [D.sc Value.nilFunc, D.sc (Value.int IntKind.i64 (0))], kind := TKind.struct [0, 1] [44, 48] } := by kernel_rfl
theorem ti318 : mkTI Tryz.prog 318 = some { size := 1, bytes := 8, eq := true, zero := [D.sc Value.nilFunc], kind := TKind.func } := by kernel_rfl
theorem ti337 : mkTI Tryz.prog 337 = some { size := 1, bytes := 8, eq := true, zero := [D.sc (Value.map none)], kind := TKind.map 159 3 } := by kernel_rfl
theorem ti339 : mkTI Tryz.prog 339 = some { size := 1, bytes := 8, eq := true, zero := [D.sc Value.nilFunc], kind := TKind.func } := by kernel_rfl
theorem ti340 : mkTI Tryz.prog 340 = some { size := 1, bytes := 8, eq := true, zero := [D.sc (Value.pointer none)], kind := TKind.ptr 296 } := by kernel_rfl
theorem ti344 : mkTI Tryz.prog 344 = some { size := 1, bytes := 24, eq := true, zero := [D.nl], kind := TKind.slice 310 } := by kernel_rfl
theorem ti381 : mkTI Tryz.prog 381 = some { size := 5, bytes := 40, eq := true, zero := [D.sc (Value.int IntKind.i64 (0)), D.sc (Value.int IntKind.i64 (0)), D.sc (Value.int IntKind.i64 (0)), D.sc (Value.int IntKind.i64 (0)), D.sc (Value.int IntKind.i64 (0))], kind := TKind.struct [0, 1, 2, 3, 4] [3, 3, 3, 3, 3] } := by kernel_rfl
theorem ti383 : mkTI Tryz.prog 383 = some { size := 5, bytes := 40, eq := true, zero := [D.sc (Value.int IntKind.i64 (0)), D.sc (Value.int IntKind.i64 (0)), D.sc (Value.int IntKind.i64 (0)), D.sc (Value.int IntKind.i64 (0)), D.sc (Value.int IntKind.i64 (0))], kind := TKind.struct [0, 1, 2, 3, 4] [3, 3, 3, 3, 3] } := by kernel_rfl
theorem ti385 : mkTI Tryz.prog 385 = some { size := 6, bytes := 64, eq := true, zero := [D.sc (Value.int IntKind.i64 (0)), D.sc (Value.int IntKind.i64 (0)), D.sc (Value.int IntKind.i64 (0)), D.sc (Value.int IntKind.i64 (0)), D.sc (Value.int IntKind.i64 (0)), D.nl], kind := TKind.struct [0, 1, 2, 3, 4, 5] [3, 3, 3, 3, 3, 63] } := by kernel_rfl
theorem tab_ok : TabOK Tryz.prog tab := ⟨ti3, ti4, ti5, ti9, ti20, ti22, ti23, ti24, ti25, ti26, ti28, ti29, ti30, ti31, ti33, ti35, ti37, ti38, ti39, ti41, ti44, ti46, ti47, ti48, ti53, ti56, ti59, ti61, ti63, ti64, ti69, ti74, ti85, ti86, ti88, ti90, ti92, ti97, ti101, ti105, ti110, ti112, ti116, ti117, ti119, ti127, ti128, ti129, ti135, ti139, ti141, ti146, ti148, ti151, ti153, ti156, ti158, ti159, ti162, ti163, ti170, ti174, ti175, ti177, ti184, ti187, ti188, ti191, ti192, ti195, ti197, ti198, ti206, ti207, ti213, ti216, ti221, ti226, ti231, ti234, ti237, ti240, ti248, ti260, ti261, ti263, ti265, ti266, ti268, ti270, ti273, ti276, ti280, ti281, ti282, ti296, ti300, ti307, ti310, ti318, ti337, ti339, ti340, ti344, ti381, ti383, ti385, trivial⟩
theorem hτ : ∀ t ti, τ t = some ti → mkTI Tryz.prog t = some ti := find_ok tab_ok
end Go.Proofs.VL
namespace Go.Proofs.VL
open Go Go.RowKit
abbrev di (n : Int) : D := .sc (.int .i64 n)
abbrev du (n : Int) : D := .sc (.int .u8 n)
abbrev db (b : Bool) : D := .sc (.bool b)
abbrev Iv64 (n : Int) : V := .d (di n)
abbrev Vb (b : Bool) : V := .d (db b)
abbrev Vd (xs : List D) : V := .ag (xs.map .d)
abbrev Vs (xs : List (List D)) : V := .d (.sl xs)
def ints (l : List Int) : List (List D) := l.map fun n => [di n]
structure Column where
  bay : Int
  row : Int
  deck : Bool
  tiers : Int
  c4 : Int
  k20 : Int
  k40 : Int
  c7 : Int
  x : Int
  y : Int
  z : Int
def Column.enc (c : Column) : List D := [di c.bay, di c.row, db c.deck, di c.tiers, di c.c4, di c.k20, di c.k40, di c.c7, .nl, di c.x, di c.y, di c.z]
structure Cover where
  bay : Int
  rows : List Int
def Cover.enc (c : Cover) : List D := [di c.bay, .sl (ints c.rows)]
structure Ship where
  cols : List Column
  covers : List Cover
def Ship.enc (s : Ship) : List D := [.sl (s.cols.map Column.enc), .sl (s.covers.map Cover.enc), di 0, di 0, di 0, di 0, .nl, .nl, .nl, di 0, di 0, di 0, di 0]
structure Slot where
  col : Int
  tier : Int
  half : Int
def Slot.enc (s : Slot) : List D := [di s.col, di s.tier, du s.half]
structure Stowed where
  box : Int
  slot : Slot
def Stowed.enc (s : Stowed) : List D := [di s.box, di s.slot.col, di s.slot.tier, du s.slot.half]
structure Box where
  id : Int
  port : ByteArray
  size : Int
  reefer : Bool
  kilos : Int
  load : Int
  disch : Int
  b7 : Int
  b8 : Bool
def Box.enc (b : Box) : List D := [di b.id, .sc (.string b.port), du b.size, db b.reefer, di b.kilos, di b.load, di b.disch, du b.b7, db b.b8]
structure Group where
  load : Int
  disch : Int
def Group.enc (g : Group) : List D := [di g.load, di g.disch]
structure Move where
  kind : Int
  box : Int
  slot : Slot
  cover : Int
def Move.enc (m : Move) : List D := [du m.kind, di m.box, di m.slot.col, di m.slot.tier, du m.slot.half, di m.cover]
def placesOf {α : Type} (p : α → Bool) : Nat → List α → List Int
  | _, [] => []
  | k, x :: xs => if p x then (k : Int) :: placesOf p (k + 1) xs else placesOf p (k + 1) xs
def PredS {α : Type} (enc : α → V) (p : α → Bool) : List V → V → Prop := fun vs r => ∃ x, vs = [enc x] ∧ r = Vb (p x)
theorem placesOf_snoc {α : Type} (p : α → Bool) (x : α) : ∀ (l : List α) (k : Nat), placesOf p k (l ++ [x]) = placesOf p k l ++ (if p x then [((k + l.length : Nat) : Int)] else []) := by
  intro l
  induction l with
  | nil => intro k; simp [placesOf]
  | cons y l ih =>
    intro k
    simp only [List.cons_append, placesOf, ih, List.length_cons]
    rw [show k + 1 + l.length = k + (l.length + 1) by omega]
    split <;> simp
theorem placesOf_len {α : Type} (p : α → Bool) : ∀ (l : List α) (k : Nat), (placesOf p k l).length ≤ l.length := by
  intro l
  induction l with
  | nil => intro k; simp [placesOf]
  | cons y l ih =>
    intro k
    simp only [placesOf, List.length_cons]
    split
    · have := ih (k + 1); simp; exact this
    · have := ih (k + 1); omega
theorem lens_ints (l : List Int) : lens 1 (ints l) := by
  intro cs h
  simp only [ints, List.mem_map] at h
  obtain ⟨n, _, rfl⟩ := h
  rfl
theorem lens_map {α : Type} {enc : α → List D} {k : Nat} (h : ∀ x, (enc x).length = k) (l : List α) : lens k (l.map enc) := by
  intro cs hcs
  simp only [List.mem_map] at hcs
  obtain ⟨x, _, rfl⟩ := hcs
  exact h x
theorem take_snoc {α : Type} {l : List α} {k : Nat} {x : α} (h : l[k]? = some x) : l.take (k + 1) = l.take k ++ [x] := by
  rw [List.take_add_one, h]; rfl
theorem get_enc {α : Type} {l : List α} {k : Nat} {x : α} (enc : α → List D) (h : l[k]? = some x) : (l.map enc)[k]? = some (enc x) := by simp [h]
theorem get_ex {α : Type} {l : List α} {enc : α → List D} {k : Nat} (h : k < (l.map enc).length) : ∃ x, l[k]? = some x := ⟨_, List.getElem?_eq_getElem (by simpa using h)⟩
variable {F : Fence}
theorem f92 (hF : Wide F) (hro : F.round = none) (c : Column) (bay row : Int) (deck : Bool) :
    FnV Tryz.prog F 92 [Vd c.enc, .rp [di bay] 0, .rp [di row] 0, .rp [db deck] 0] (Vb (c.bay == bay && c.row == row && c.deck == deck)) := by
  refine FnV.of_AW hF hro hτ Tryz.func92 rfl (by decide) rfl (by simp [Tryz.f92]) ?_
  (repeat' first | apply Wq | refine Ws hF hτ rfl ?_ | apply Wb | apply Wl | apply Wk | apply We | apply Wn)
  refine AL.split 10 rfl rfl (fun h1 => ?_) (fun h1 => ?_)
  · refine Wv hF hτ rfl ?_
    refine AL.split 16 rfl rfl (fun h2 => ?_) (fun h2 => ?_)
    · refine AL.steps hF hτ rfl (AL.nil (AW.ret ⟨.inr rfl, ?_⟩))
      refine (show (some _ : Option V) = some _ from congrArg some ?_)
      rw [h1, h2]; rfl
    · refine AL.steps hF hτ rfl (AL.nil (AW.ret ⟨.inr rfl, ?_⟩))
      refine (show (some _ : Option V) = some _ from congrArg some ?_)
      rw [h1, h2]; rfl
  · refine Wv hF hτ rfl ?_
    refine AL.split 16 rfl rfl (fun h2 => ?_) (fun h2 => ?_)
    · cases h2
    · refine AL.steps hF hτ rfl (AL.nil (AW.ret ⟨.inr rfl, ?_⟩))
      refine (show (some _ : Option V) = some _ from congrArg some ?_)
      rw [h1]; rfl
theorem f91 (hF : Wide F) (hro : F.round = none) (cols : List Column) (p : Column → Bool) (hl : cols.length ≤ 1000) :
    FnV Tryz.prog F 91 [Vs (cols.map Column.enc), .raw (PFn Tryz.prog F (PredS (fun c : Column => Vd c.enc) p))] (.row true 3 (ints (placesOf p 0 cols))) := by
  refine FnV.of_AW hF hro hτ Tryz.func91 rfl (by decide) rfl (by simp [Tryz.f91]) ?_
  (repeat' first | apply Wq | refine Ws hF hτ rfl ?_ | apply Wb | apply Wl | apply Wk | apply We | apply Wn)
  refine AW.range hF rfl rfl rfl rfl rfl rfl rfl rfl rfl (cols.map Column.enc).length (by simp [lim]; omega) (fun k => [(.s 8, Vs (cols.map Column.enc)), (.s 1, .raw (PFn Tryz.prog F (PredS (fun c : Column => Vd c.enc) p))), (.s 5, .row true 3 (ints (placesOf p 0 (cols.take k))))]) ?_ ?_ (fun k hk => ?_) ?_
  · exact fun k => rfl
  · (repeat' first | exact Sub.nil | refine Sub.put rfl ?_ | refine Sub.put ?_ ?_)
  · obtain ⟨c, hcs⟩ := get_ex hk
    have hlen := placesOf_len p (cols.take k) 0
    have hk' : k < cols.length := by simpa using hk
    simp only [List.length_take] at hlen
    (repeat' first | apply Wq | refine Ws hF hτ rfl ?_ | apply Wb | apply Wl | apply Wk | apply We | apply Wn)
    refine AL.opM (OpM.indexD hF rfl (hτ _ _ rfl) rfl (hτ _ _ rfl) rfl (i := k) rfl (get_enc Column.enc hcs) rfl rfl rfl) rfl rfl ?_
    refine Wv hF hτ rfl (Wn ?_)
    (repeat' first | apply Wq | refine Ws hF hτ rfl ?_ | apply Wb | apply Wl | apply Wk | apply We | apply Wn)
    refine AL.opM (OpM.callRaw hF rfl rfl rfl rfl ⟨c, rfl, rfl⟩ rfl rfl rfl) rfl rfl ?_
    refine AL.nil ?_
    (repeat' first | apply Wq | refine Ws hF hτ rfl ?_ | apply Wb | apply Wl | apply Wk | apply We | apply Wn)
    refine AW.cond rfl rfl (fun hc => ?_) (fun hc => ?_)
    · (repeat' first | apply Wq | refine Ws hF hτ rfl ?_ | apply Wb | apply Wl | apply Wk | apply We | apply Wn)
      refine AL.opM (OpM.buildSlice hF rfl (hτ _ _ rfl) rfl (hτ _ _ rfl) rfl rfl rfl (by decide) (by decide) rfl rfl) rfl rfl ?_
      refine AL.op rfl (OpTo.append hF rfl rfl rfl rfl (hτ _ _ rfl) rfl (hτ _ _ rfl) rfl rfl rfl rfl (by intro cs h; cases h with | head => rfl | tail _ h => cases h) ?_ ?_ rfl rfl rfl) ?_
      · simp [Base.xs, ints, chunks, lim]; omega
      · simp [Base.xs, ints, chunks]; omega
      refine Wv hF hτ rfl (Wn ?_)
      (repeat' first | exact Sub.nil | refine Sub.put rfl ?_ | refine Sub.put ?_ ?_)
      refine (congrArg (fun z => some (V.row true 3 z)) ?_)
      simp [take_snoc hcs, placesOf_snoc, hc, ints, chunks, Nat.min_eq_left (Nat.le_of_lt hk')]
    · (repeat' first | apply Wq | refine Ws hF hτ rfl ?_ | apply Wb | apply Wl | apply Wk | apply We | apply Wn)
      (repeat' first | exact Sub.nil | refine Sub.put rfl ?_ | refine Sub.put ?_ ?_)
      refine (congrArg (fun z => some (V.row true 3 z)) ?_)
      simp [take_snoc hcs, placesOf_snoc, hc, ints]
  · (repeat' first | apply Wq | refine Ws hF hτ rfl ?_ | apply Wb | apply Wl | apply Wk | apply We | apply Wn)
    refine AW.ret ⟨.inr rfl, ?_⟩
    refine (congrArg (fun z => some (V.row true 3 z)) ?_)
    simp
def firstOf {α : Type} (p : α → Bool) (l : List α) : Int × Bool := match placesOf p 0 l with | [] => (0, false) | k :: _ => (k, true)
def Ship.find (s : Ship) (bay row : Int) (deck : Bool) : Int × Bool := firstOf (fun c => c.bay == bay && c.row == row && c.deck == deck) s.cols
theorem f42 (hF : Wide F) (hro : F.round = none) (s : Ship) (bay row : Int) (deck : Bool) (hl : s.cols.length ≤ 1000) :
    FnV Tryz.prog F 42 [Vd s.enc, Iv64 bay, Iv64 row, Vb deck] (.tu [Iv64 (s.find bay row deck).1, Vb (s.find bay row deck).2]) := by
  refine FnV.of_AW hF hro hτ Tryz.func42 rfl (by decide) rfl (by simp [Tryz.f42]) ?_
  (repeat' first | apply Wq | refine Ws hF hτ rfl ?_ | apply Wb | apply Wl | apply Wk | apply We | apply Wn)
  refine AL.ent (Ent.frzs (ls := [.s 5, .s 6, .s 7]) rfl) ?_
  refine AL.opM (OpM.call hF rfl rfl rfl rfl ((f91 hF hro s.cols (fun c => c.bay == bay && c.row == row && c.deck == deck) hl).conseq (vs' := [Vs (s.cols.map Column.enc), .fn 92 [.rp [di bay] 0, .rp [di row] 0, .rp [db deck] 0]]) ⟨.refl _, .fn ?_ rfl ?_, trivial⟩) rfl rfl rfl) rfl rfl ?_
  · exact (f92 hF hro ⟨0,0,false,0,0,0,0,0,0,0,0⟩ bay row deck).callable
  · rintro vs r ⟨c, rfl, rfl⟩
    exact f92 hF hro c bay row deck
  refine Wv hF hτ rfl (Wn ?_)
  (repeat' first | apply Wq | refine Ws hF hτ rfl ?_ | apply Wb | apply Wl | apply Wk | apply We | apply Wn)
  refine AW.cond rfl rfl (fun hc => ?_) (fun hc => ?_)
  · (repeat' first | apply Wq | refine Ws hF hτ rfl ?_ | apply Wb | apply Wl | apply Wk | apply We | apply Wn)
    refine AW.ret ⟨.inr rfl, ?_⟩
    have : placesOf (fun c : Column => c.bay == bay && c.row == row && c.deck == deck) 0 s.cols = [] := by
      simpa [ints] using hc
    simp only [Ship.find, firstOf, this]
    rfl
  · (repeat' first | apply Wq | refine Ws hF hτ rfl ?_ | apply Wb | apply Wl | apply Wk | apply We | apply Wn)
    obtain ⟨i, l, hp⟩ : ∃ i l, placesOf (fun c : Column => c.bay == bay && c.row == row && c.deck == deck) 0 s.cols = i :: l := by
      cases hp : placesOf (fun c : Column => c.bay == bay && c.row == row && c.deck == deck) 0 s.cols with
      | nil => simp [hp, ints] at hc
      | cons i l => exact ⟨i, l, rfl⟩
    refine AL.ent (Ent.frzs (ls := [.s 10]) rfl) ?_
    refine AL.opM (OpM.indexD hF rfl (hτ _ _ rfl) rfl (hτ _ _ rfl) rfl (i := 0) (cs := [di i]) rfl (by simp [hp, ints]) rfl rfl rfl) rfl rfl ?_
    refine Wv hF hτ rfl (Wn ?_)
    refine AW.ret ⟨.inr rfl, ?_⟩
    simp only [Ship.find, firstOf, hp]
    rfl
end Go.Proofs.VL
namespace Go.Proofs.VL
open Go Go.RowKit
variable {F : Fence}
theorem hmix : Tryz.prog.follows .mixedOrders = true := by kernel_rfl
theorem f9 (hF : Wide F) (hro : F.round = none) (a b : Int) (ha : -1000000 ≤ a) (hb : a ≤ 1000000) : FnV Tryz.prog F 9 [Iv64 a, Iv64 b] (Iv64 (if a ≥ b then a + 1 else a)) := by
  refine FnV.of_AW hF hro hτ Tryz.func9 rfl (by decide) rfl (by simp [Tryz.f9]) ?_
  (repeat' first | apply Wq | refine Ws hF hτ rfl ?_ | apply Wb | apply Wl | apply Wk | apply We | apply Wn)
  refine AW.cond rfl rfl (fun hc => ?_) (fun hc => ?_)
  · (repeat' first | apply Wq | refine Ws hF hτ rfl ?_ | apply Wb | apply Wl | apply Wk | apply We | apply Wn)
    refine AW.ret ⟨.inr rfl, ?_⟩
    refine congrArg (fun z => some (Iv64 z)) ?_
    rw [if_pos (of_decide_eq_true hc), wrap_id (by omega) (by omega)]
  · (repeat' first | apply Wq | refine Ws hF hτ rfl ?_ | apply Wb | apply Wl | apply Wk | apply We | apply Wn)
    refine AW.ret ⟨.inr rfl, ?_⟩
    refine congrArg (fun z => some (Iv64 z)) ?_
    rw [if_neg (of_decide_eq_false hc)]
def sameBy {α : Type} (eq : α → α → Bool) : List α → List α → Bool
  | [], [] => true
  | x :: xs, y :: ys => eq x y && sameBy eq xs ys
  | _, _ => false
theorem f15 (hF : Wide F) (hro : F.round = none) (a b : List Int) (ha : a.length ≤ 1000) (hb : b.length ≤ 1000) : FnV Tryz.prog F 15 [Vs (ints a), Vs (ints b)] (Vb (a == b)) := by
  refine FnV.of_AW hF hro hτ Tryz.func15 rfl (by decide) rfl (by simp [Tryz.f15]) ?_
  (repeat' first | apply Wq | refine Ws hF hτ rfl ?_ | apply Wb | apply Wl | apply Wk | apply We | apply Wn)
  refine AW.cond rfl rfl (fun hc => ?_) (fun hc => ?_)
  · (repeat' first | apply Wq | refine Ws hF hτ rfl ?_ | apply Wb | apply Wl | apply Wk | apply We | apply Wn)
    refine AW.ret ⟨.inr rfl, ?_⟩
    refine congrArg (fun z => some (Vb z)) ?_
    have : a.length ≠ b.length := by
      intro e
      simp [ints, e] at hc
    exact (beq_eq_false_iff_ne.2 (fun e => this (by rw [e]))).symm
  (repeat' first | apply Wq | refine Ws hF hτ rfl ?_ | apply Wb | apply Wl | apply Wk | apply We | apply Wn)
  have hlen : a.length = b.length := by
    simp [ints] at hc
    omega
  refine AW.loopI (X := { k : Nat // k ≤ a.length ∧ a.take k = b.take k }) (fun k => [(.s 5, Iv64 k.1), (.s 0, Vs (ints a)), (.s 1, Vs (ints b))]) (fun k => a.length - k.1) (fun k => rfl) ⟨0, Nat.zero_le _, rfl⟩ ?_ ?_
  · (repeat' first | exact Sub.nil | refine Sub.put rfl ?_ | refine Sub.put ?_ ?_)
  rintro ⟨k, hk, hpre⟩
  (repeat' first | apply Wq | refine Ws hF hτ rfl ?_ | apply Wb | apply Wl | apply Wk | apply We | apply Wn)
  refine AW.cond rfl rfl (fun hc => ?_) (fun hc => ?_)
  · (repeat' first | apply Wq | refine Ws hF hτ rfl ?_ | apply Wb | apply Wl | apply Wk | apply We | apply Wn)
    have hka : k < a.length := by simpa [ints] using hc
    have hkb : k < b.length := by omega
    obtain ⟨x, hx⟩ : ∃ x, a[k]? = some x := ⟨_, List.getElem?_eq_getElem hka⟩
    obtain ⟨y, hy⟩ : ∃ y, b[k]? = some y := ⟨_, List.getElem?_eq_getElem hkb⟩
    refine AW.draw hmix (AD.start [] [0, 1, 2, 3, 4, 5, 6, 7, 8] ?_)
    refine AD.vals hF hτ rfl ?_
    refine AD.op (o := _) rfl rfl rfl (OpM.indexD hF rfl (hτ _ _ rfl) rfl (hτ _ _ rfl) rfl (i := k) rfl (get_enc (fun n => [di n]) hx) rfl rfl rfl) ?_
    refine AD.vals hF hτ rfl ?_
    refine AD.op (o := _) rfl rfl rfl (OpM.indexD hF rfl (hτ _ _ rfl) rfl (hτ _ _ rfl) rfl (i := k) rfl (get_enc (fun n => [di n]) hy) rfl rfl rfl) ?_
    refine AD.vals hF hτ rfl ?_
    refine AD.fin (by kernel_rfl) rfl rfl (AA.done (by kernel_rfl) ?_)
    refine AW.cond rfl rfl (fun hb => ?_) (fun hb => ?_)
    · (repeat' first | apply Wq | refine Ws hF hτ rfl ?_ | apply Wb | apply Wl | apply Wk | apply We | apply Wn)
      refine AW.ret ⟨.inr rfl, ?_⟩
      refine congrArg (fun z => some (Vb z)) ?_
      have hxy : x ≠ y := by simpa using hb
      refine (beq_eq_false_iff_ne.2 (fun e => ?_)).symm
      subst e
      rw [hx] at hy
      exact hxy (Option.some.inj hy)
    · (repeat' first | apply Wq | refine Ws hF hτ rfl ?_ | apply Wb | apply Wl | apply Wk | apply We | apply Wn)
      have hxy : x = y := by simpa using hb
      refine ⟨⟨k + 1, hka, by rw [take_snoc hx, take_snoc hy, hpre, hxy]⟩, by simp only; omega, ?_⟩
      (repeat' first | exact Sub.nil | refine Sub.put rfl ?_ | refine Sub.put ?_ ?_)
      exact congrArg (fun z => some (Iv64 z)) (wrap_id (x := (k : Int) + 1) (by omega) (by omega))
  · (repeat' first | apply Wq | refine Ws hF hτ rfl ?_ | apply Wb | apply Wl | apply Wk | apply We | apply Wn)
    refine AW.ret ⟨.inr rfl, ?_⟩
    refine congrArg (fun z => some (Vb z)) ?_
    have hke : k = a.length := by
      have : ¬ k < a.length := by simpa [ints] using hc
      omega
    subst hke
    rw [List.take_length, hlen, List.take_length] at hpre
    rw [hpre]
    exact (beq_self_eq_true b).symm
end Go.Proofs.VL
namespace Go.Proofs.VL
open Go Go.RowKit
variable {F : Fence}
def idxFrom {α : Type} (p : α → Bool) : Nat → List α → Int
  | _, [] => -1
  | k, x :: xs => if p x then (k : Int) else idxFrom p (k + 1) xs
theorem idxFrom_drop {α : Type} (p : α → Bool) {l : List α} {k : Nat} {x : α} (hx : l[k]? = some x) : idxFrom p k (l.drop k) = if p x then (k : Int) else idxFrom p (k + 1) (l.drop (k + 1)) := by
  obtain ⟨h1, e1⟩ := List.getElem?_eq_some_iff.1 hx
  rw [List.drop_eq_getElem_cons h1, e1]
  rfl
theorem f104 (hF : Wide F) (hro : F.round = none) (l : List Int) (p : Int → Bool) (hl : l.length ≤ 1000) :
    FnV Tryz.prog F 104 [Vs (l.map (fun n => [di n])), .raw (PFn Tryz.prog F (PredS (fun x : Int => Iv64 x) p))] (Iv64 (idxFrom p 0 l)) := by
  refine FnV.of_AW hF hro hτ Tryz.func104 rfl (by decide) rfl (by simp [Tryz.f104]) ?_
  (repeat' first | apply Wq | refine Ws hF hτ rfl ?_ | apply Wb | apply Wl | apply Wk | apply We | apply Wn)
  refine AW.rangeJ hF rfl rfl rfl rfl rfl rfl rfl rfl rfl (l.map (fun n => [di n])).length (by simp [lim]; omega) (fun k => [(.s 0, Vs (l.map (fun n => [di n]))), (.s 1, .raw (PFn Tryz.prog F (PredS (fun x : Int => Iv64 x) p)))]) (fun k => idxFrom p 0 l = idxFrom p k (l.drop k)) rfl ?_ ?_ (fun k hk hJ => ?_) (fun hJ => ?_)
  · exact fun k => rfl
  · (repeat' first | exact Sub.nil | refine Sub.put rfl ?_ | refine Sub.put ?_ ?_)
  · obtain ⟨x, hx⟩ := get_ex hk
    rw [idxFrom_drop p hx] at hJ
    (repeat' first | apply Wq | refine Ws hF hτ rfl ?_ | apply Wb | apply Wl | apply Wk | apply We | apply Wn)
    refine AL.opM (OpM.indexD hF rfl (hτ _ _ rfl) rfl (hτ _ _ rfl) rfl (i := k) rfl (get_enc (fun n => [di n]) hx) rfl rfl rfl) rfl rfl ?_
    refine Wv hF hτ rfl ?_
    refine AL.opM (OpM.callRaw hF rfl rfl rfl rfl ⟨x, rfl, rfl⟩ rfl rfl rfl) rfl rfl ?_
    refine AL.nil ?_
    refine AW.cond rfl rfl (fun hc => ?_) (fun hc => ?_)
    · (repeat' first | apply Wq | refine Ws hF hτ rfl ?_ | apply Wb | apply Wl | apply Wk | apply We | apply Wn)
      refine AW.ret ⟨.inr rfl, ?_⟩
      refine congrArg (fun z => some (Iv64 z)) ?_
      rw [hJ, if_pos hc]
    · (repeat' first | apply Wq | refine Ws hF hτ rfl ?_ | apply Wb | apply Wl | apply Wk | apply We | apply Wn)
      refine ⟨?_, by rw [hJ, if_neg (by rw [hc]; decide)]⟩
      (repeat' first | exact Sub.nil | refine Sub.put rfl ?_ | refine Sub.put ?_ ?_)
  · (repeat' first | apply Wq | refine Ws hF hτ rfl ?_ | apply Wb | apply Wl | apply Wk | apply We | apply Wn)
    refine AW.ret ⟨.inr rfl, ?_⟩
    refine congrArg (fun z => some (Iv64 z)) ?_
    rw [hJ, List.drop_eq_nil_of_le (by simp)]
    rfl
theorem f109 (hF : Wide F) (hro : F.round = none) (l : List Stowed) (p : Stowed → Bool) (hl : l.length ≤ 1000) :
    FnV Tryz.prog F 109 [Vs (l.map Stowed.enc), .raw (PFn Tryz.prog F (PredS (fun x : Stowed => Vd x.enc) p))] (Iv64 (idxFrom p 0 l)) := by
  refine FnV.of_AW hF hro hτ Tryz.func109 rfl (by decide) rfl (by simp [Tryz.f109]) ?_
  (repeat' first | apply Wq | refine Ws hF hτ rfl ?_ | apply Wb | apply Wl | apply Wk | apply We | apply Wn)
  refine AW.rangeJ hF rfl rfl rfl rfl rfl rfl rfl rfl rfl (l.map Stowed.enc).length (by simp [lim]; omega) (fun k => [(.s 0, Vs (l.map Stowed.enc)), (.s 1, .raw (PFn Tryz.prog F (PredS (fun x : Stowed => Vd x.enc) p)))]) (fun k => idxFrom p 0 l = idxFrom p k (l.drop k)) rfl ?_ ?_ (fun k hk hJ => ?_) (fun hJ => ?_)
  · exact fun k => rfl
  · (repeat' first | exact Sub.nil | refine Sub.put rfl ?_ | refine Sub.put ?_ ?_)
  · obtain ⟨x, hx⟩ := get_ex hk
    rw [idxFrom_drop p hx] at hJ
    (repeat' first | apply Wq | refine Ws hF hτ rfl ?_ | apply Wb | apply Wl | apply Wk | apply We | apply Wn)
    refine AL.opM (OpM.indexD hF rfl (hτ _ _ rfl) rfl (hτ _ _ rfl) rfl (i := k) rfl (get_enc Stowed.enc hx) rfl rfl rfl) rfl rfl ?_
    refine Wv hF hτ rfl ?_
    refine AL.opM (OpM.callRaw hF rfl rfl rfl rfl ⟨x, rfl, rfl⟩ rfl rfl rfl) rfl rfl ?_
    refine AL.nil ?_
    refine AW.cond rfl rfl (fun hc => ?_) (fun hc => ?_)
    · (repeat' first | apply Wq | refine Ws hF hτ rfl ?_ | apply Wb | apply Wl | apply Wk | apply We | apply Wn)
      refine AW.ret ⟨.inr rfl, ?_⟩
      refine congrArg (fun z => some (Iv64 z)) ?_
      rw [hJ, if_pos hc]
    · (repeat' first | apply Wq | refine Ws hF hτ rfl ?_ | apply Wb | apply Wl | apply Wk | apply We | apply Wn)
      refine ⟨?_, by rw [hJ, if_neg (by rw [hc]; decide)]⟩
      (repeat' first | exact Sub.nil | refine Sub.put rfl ?_ | refine Sub.put ?_ ?_)
  · (repeat' first | apply Wq | refine Ws hF hτ rfl ?_ | apply Wb | apply Wl | apply Wk | apply We | apply Wn)
    refine AW.ret ⟨.inr rfl, ?_⟩
    refine congrArg (fun z => some (Iv64 z)) ?_
    rw [hJ, List.drop_eq_nil_of_le (by simp)]
    rfl
theorem f173 (hF : Wide F) (hro : F.round = none) (l : List Box) (p : Box → Bool) (hl : l.length ≤ 1000) :
    FnV Tryz.prog F 173 [Vs (l.map Box.enc), .raw (PFn Tryz.prog F (PredS (fun x : Box => Vd x.enc) p))] (Iv64 (idxFrom p 0 l)) := by
  refine FnV.of_AW hF hro hτ Tryz.func173 rfl (by decide) rfl (by simp [Tryz.f173]) ?_
  (repeat' first | apply Wq | refine Ws hF hτ rfl ?_ | apply Wb | apply Wl | apply Wk | apply We | apply Wn)
  refine AW.rangeJ hF rfl rfl rfl rfl rfl rfl rfl rfl rfl (l.map Box.enc).length (by simp [lim]; omega) (fun k => [(.s 0, Vs (l.map Box.enc)), (.s 1, .raw (PFn Tryz.prog F (PredS (fun x : Box => Vd x.enc) p)))]) (fun k => idxFrom p 0 l = idxFrom p k (l.drop k)) rfl ?_ ?_ (fun k hk hJ => ?_) (fun hJ => ?_)
  · exact fun k => rfl
  · (repeat' first | exact Sub.nil | refine Sub.put rfl ?_ | refine Sub.put ?_ ?_)
  · obtain ⟨x, hx⟩ := get_ex hk
    rw [idxFrom_drop p hx] at hJ
    (repeat' first | apply Wq | refine Ws hF hτ rfl ?_ | apply Wb | apply Wl | apply Wk | apply We | apply Wn)
    refine AL.opM (OpM.indexD hF rfl (hτ _ _ rfl) rfl (hτ _ _ rfl) rfl (i := k) rfl (get_enc Box.enc hx) rfl rfl rfl) rfl rfl ?_
    refine Wv hF hτ rfl ?_
    refine AL.opM (OpM.callRaw hF rfl rfl rfl rfl ⟨x, rfl, rfl⟩ rfl rfl rfl) rfl rfl ?_
    refine AL.nil ?_
    refine AW.cond rfl rfl (fun hc => ?_) (fun hc => ?_)
    · (repeat' first | apply Wq | refine Ws hF hτ rfl ?_ | apply Wb | apply Wl | apply Wk | apply We | apply Wn)
      refine AW.ret ⟨.inr rfl, ?_⟩
      refine congrArg (fun z => some (Iv64 z)) ?_
      rw [hJ, if_pos hc]
    · (repeat' first | apply Wq | refine Ws hF hτ rfl ?_ | apply Wb | apply Wl | apply Wk | apply We | apply Wn)
      refine ⟨?_, by rw [hJ, if_neg (by rw [hc]; decide)]⟩
      (repeat' first | exact Sub.nil | refine Sub.put rfl ?_ | refine Sub.put ?_ ?_)
  · (repeat' first | apply Wq | refine Ws hF hτ rfl ?_ | apply Wb | apply Wl | apply Wk | apply We | apply Wn)
    refine AW.ret ⟨.inr rfl, ?_⟩
    refine congrArg (fun z => some (Iv64 z)) ?_
    rw [hJ, List.drop_eq_nil_of_le (by simp)]
    rfl
end Go.Proofs.VL
