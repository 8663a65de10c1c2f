/-
  The evaluator's tables for this program: which reads have no order beside an effect in a region that draws; the types; the types that are compared cell by cell; methods; what a loop drops. And each row as an equation.
-/
import Derived.Test.YtcalhkhkiahecaaS2
import Derived.Test.YtcalhkhkiahecaaProg
import Derived.KernelRfl
namespace Go.Ab
set_option linter.unusedSimpArgs false
set_option linter.unusedVariables false
set_option maxRecDepth 100000

def planL : List (Nat × List (Nat × List (Nat × Nat))) := [
  (3, [(4, [(1, 0), (2, 0), (3, 1000), (4, 1000), (5, 1000), (6, 1000), (7, 1000), (8, 1000), (4, 1003), (5, 1003), (6, 1003), (7, 1003), (8, 1003)])]),
  (4, [(40, [(0, 4), (5, 1004), (6, 1004), (7, 1004), (8, 1004), (9, 1004), (10, 1004), (11, 1004), (6, 1005), (7, 1005), (8, 1005), (9, 1005), (10, 1005), (11, 1005), (7, 1006), (8, 1006), (9, 1006), (10, 1006), (11, 1006)])]),
  (5, [(7, [])]),
  (6, [(9, []),
    (24, []),
    (27, [])]),
  (10, [(5, [(3, 2), (3, 10), (4, 2), (4, 10), (4, 11), (5, 2), (5, 10), (5, 11), (5, 12), (10, 1002), (11, 1002), (12, 1002), (13, 1002)]),
    (8, []),
    (9, []),
    (15, []),
    (23, [(5, 3), (6, 3)]),
    (51, [])]),
  (13, [(2, [(3, 2), (5, 2), (5, 4), (4, 1002), (6, 1002), (8, 1002), (6, 1004), (8, 1004), (8, 1006)]),
    (3, [])]),
  (14, [(4, [(0, 2), (3, 1002)])]),
  (16, [(3, [(3, 2), (4, 1002), (5, 1002), (5, 1004)])]),
  (17, [(3, [(3, 2), (4, 1002), (5, 1002), (5, 1004)])]),
  (22, [(6, [])]),
  (23, [(3, [(0, 3), (1, 3), (4, 1003), (5, 1003), (6, 1003), (7, 1003), (8, 1003)]),
    (14, [(0, 8), (0, 10), (1, 8), (1, 10), (9, 1008), (10, 1008), (11, 1008), (12, 1008), (13, 1008), (14, 1008), (11, 1010), (12, 1010), (13, 1010), (14, 1010)])]),
  (27, [(1, [(4, 3)])]),
  (31, [(4, [(0, 4), (5, 1004), (6, 1004), (7, 1004), (8, 1004), (9, 1004), (10, 1004), (11, 1004), (6, 1005), (7, 1005), (8, 1005), (9, 1005), (10, 1005), (11, 1005), (7, 1006), (8, 1006), (9, 1006), (10, 1006), (11, 1006)])]),
  (34, [(6, [])]),
  (40, [(1, [(0, 2), (3, 1002), (4, 1002), (5, 1002), (4, 1003), (5, 1003), (5, 1004)])]),
  (48, [(1, [])]),
  (55, [(6, [(4, 6), (4, 1003), (5, 1003), (6, 1003), (7, 1003), (8, 1003)])]),
  (63, [(1, [(0, 2), (4, 1002), (5, 1002), (6, 1002), (6, 1005)])]),
  (70, [(4, [])]),
  (85, [(1, [])]),
  (87, [(2, [])]),
  (107, [(4, [(15, 1014), (16, 1014)]),
    (6, [])]),
  (108, [(5, [(10, 1009)]),
    (11, []),
    (17, [(10, 1009), (11, 1009)]),
    (23, []),
    (35, [(12, 1011), (13, 1011)])]),
  (111, [(3, [])])]
def tyL : List (Nat × Ty) := [
  (1, ⟨.other, 1, 8, some (.nilFunc)⟩),
  (2, ⟨.int .i64, 1, 8, some (.int .i64 0)⟩),
  (3, ⟨.int .i64, 1, 8, some (.int .i64 0)⟩),
  (4, ⟨.bool, 1, 1, some (.bool false)⟩),
  (5, ⟨.int .u8, 1, 1, some (.int .u8 0)⟩),
  (6, ⟨.int .u8, 1, 1, some (.int .u8 0)⟩),
  (8, ⟨.struct [(0, 2), (1, 3), (2, 4), (3, 6)], 4, 24, some (.agg #[.int .i64 0, .int .i64 0, .bool false, .int .u8 0])⟩),
  (12, ⟨.int .u64, 1, 8, some (.int .u64 0)⟩),
  (15, ⟨.other, 1, 8, some (.pointer none)⟩),
  (16, ⟨.other, 1, 8, some (.pointer none)⟩),
  (17, ⟨.other, 1, 8, some (.pointer none)⟩),
  (19, ⟨.struct [(0, 17)], 1, 8, some (.agg #[.pointer none])⟩),
  (20, ⟨.iface, 1, 16, some (.nilIface)⟩),
  (22, ⟨.struct [(0, 3), (1, 3)], 2, 16, some (.agg #[.int .i64 0, .int .i64 0])⟩),
  (23, ⟨.slice 22, 1, 24, some (.slice none 0 0)⟩),
  (24, ⟨.int .i64, 1, 8, some (.int .i64 0)⟩),
  (27, ⟨.slice 3, 1, 24, some (.slice none 0 0)⟩),
  (29, ⟨.struct [(0, 3), (1, 3)], 2, 16, some (.agg #[.int .i64 0, .int .i64 0])⟩),
  (30, ⟨.slice 38, 1, 24, some (.slice none 0 0)⟩),
  (32, ⟨.struct [(0, 27), (1, 29), (3, 30)], 4, 64, some (.agg #[.slice none 0 0, .int .i64 0, .int .i64 0, .slice none 0 0])⟩),
  (38, ⟨.struct [(0, 3), (1, 29)], 3, 24, some (.agg #[.int .i64 0, .int .i64 0, .int .i64 0])⟩),
  (43, ⟨.slice 29, 1, 24, some (.slice none 0 0)⟩),
  (48, ⟨.slice 57, 1, 24, some (.slice none 0 0)⟩),
  (51, ⟨.other, 1, 8, some (.nilFunc)⟩),
  (53, ⟨.other, 1, 8, some (.nilFunc)⟩),
  (54, ⟨.int .u64, 1, 8, some (.int .u64 0)⟩),
  (57, ⟨.int .u16, 1, 2, some (.int .u16 0)⟩),
  (61, ⟨.other, 1, 8, some (.nilFunc)⟩),
  (63, ⟨.other, 1, 8, some (.nilFunc)⟩),
  (64, ⟨.other, 1, 8, some (.pointer none)⟩),
  (65, ⟨.slice 32, 1, 24, some (.slice none 0 0)⟩),
  (69, ⟨.other, 1, 8, some (.pointer none)⟩),
  (71, ⟨.struct [(0, 32)], 4, 64, some (.agg #[.slice none 0 0, .int .i64 0, .int .i64 0, .slice none 0 0])⟩),
  (73, ⟨.other, 1, 8, some (.nilFunc)⟩),
  (78, ⟨.struct [(0, 3), (1, 3)], 2, 16, some (.agg #[.int .i64 0, .int .i64 0])⟩),
  (79, ⟨.int .i64, 1, 8, some (.int .i64 0)⟩),
  (81, ⟨.other, 1, 8, some (.nilFunc)⟩),
  (82, ⟨.other, 1, 8, some (.nilFunc)⟩),
  (83, ⟨.other, 1, 8, some (.nilFunc)⟩),
  (86, ⟨.map 78 3, 1, 8, some (.map none)⟩),
  (92, ⟨.slice 54, 1, 24, some (.slice none 0 0)⟩),
  (94, ⟨.other, 1, 8, some (.nilFunc)⟩),
  (96, ⟨.struct [(0, 94)], 1, 8, some (.agg #[.nilFunc])⟩),
  (99, ⟨.array 20 3, 20, 160, some (.agg #[.int .i64 0, .int .i64 0, .int .i64 0, .int .i64 0, .int .i64 0, .int .i64 0, .int .i64 0, .int .i64 0, .int .i64 0, .int .i64 0, .int .i64 0, .int .i64 0, .int .i64 0, .int .i64 0, .int .i64 0, .int .i64 0, .int .i64 0, .int .i64 0, .int .i64 0, .int .i64 0])⟩),
  (101, ⟨.slice 79, 1, 24, some (.slice none 0 0)⟩),
  (106, ⟨.struct [(0, 24)], 1, 8, some (.agg #[.int .i64 0])⟩),
  (109, ⟨.slice 112, 1, 24, some (.slice none 0 0)⟩),
  (112, ⟨.iface, 1, 16, some (.nilIface)⟩),
  (115, ⟨.other, 1, 8, some (.nilFunc)⟩),
  (117, ⟨.int .u32, 1, 4, some (.int .u32 0)⟩),
  (119, ⟨.int .u64, 1, 8, some (.int .u64 0)⟩),
  (120, ⟨.other, 1, 8, some (.nilFunc)⟩),
  (124, ⟨.struct [(0, 79)], 1, 8, some (.agg #[.int .i64 0])⟩),
  (126, ⟨.struct [(0, 124), (1, 29)], 3, 24, some (.agg #[.int .i64 0, .int .i64 0, .int .i64 0])⟩),
  (155, ⟨.int .u8, 1, 1, some (.int .u8 0)⟩)]
def eqL : List (Nat × (Bool × List (Option IntKind))) := [
  (2, (false, [some .i64])),
  (3, (false, [some .i64])),
  (4, (false, [none])),
  (5, (false, [some .u8])),
  (6, (false, [some .u8])),
  (8, (true, [some .i64, some .i64, none, some .u8])),
  (12, (false, [some .u64])),
  (22, (true, [some .i64, some .i64])),
  (24, (false, [some .i64])),
  (29, (true, [some .i64, some .i64])),
  (38, (true, [some .i64, some .i64, some .i64])),
  (54, (false, [some .u64])),
  (57, (false, [some .u16])),
  (78, (true, [some .i64, some .i64])),
  (79, (false, [some .i64])),
  (99, (true, [some .i64, some .i64, some .i64, some .i64, some .i64, some .i64, some .i64, some .i64, some .i64, some .i64, some .i64, some .i64, some .i64, some .i64, some .i64, some .i64, some .i64, some .i64, some .i64, some .i64])),
  (106, (true, [some .i64])),
  (117, (false, [some .u32])),
  (119, (false, [some .u64])),
  (124, (true, [some .i64])),
  (126, (true, [some .i64, some .i64, some .i64])),
  (155, (false, [some .u8]))]
def methL : List (Nat × List (String × FuncId)) := [
  (8, [("Error", 112), ("RuntimeError", 113)]),
  (10, [("Error", 114), ("RuntimeError", 115)]),
  (11, [("Error", 116), ("RuntimeError", 117)]),
  (14, [("Error", 118), ("RuntimeError", 119)]),
  (19, [("Error", 125), ("RuntimeError", 126)]),
  (71, [("blockworks/fringe.can", 64), ("blockworks/fringe.counts", 55), ("blockworks/fringe.every", 52), ("blockworks/fringe.isColour", 46), ("blockworks/fringe.lengths", 51), ("blockworks/fringe.readings", 80), ("blockworks/fringe.sets", 62), ("blockworks/fringe.told", 40), ("blockworks/fringe.wave", 47)]),
  (79, [("blockworks/fringe.divisor", 87), ("blockworks/fringe.of", 48)]),
  (124, [("blockworks/fringe.right", 127)]),
  (126, [("blockworks/fringe.right", 128)]),
  (155, [("String", 129)])]
noncomputable def fnL : List (Nat × Func) := [
  (0, Go.Proofs.Try.f0),
  (1, Go.Proofs.Try.f1),
  (2, Go.Proofs.Try.f2),
  (3, Go.Proofs.Try.f3),
  (4, Go.Proofs.Try.f4),
  (5, Go.Proofs.Try.f5),
  (6, Go.Proofs.Try.f6),
  (7, Go.Proofs.Try.f7),
  (8, Go.Proofs.Try.f8),
  (9, Go.Proofs.Try.f9),
  (10, Go.Proofs.Try.f10),
  (11, Go.Proofs.Try.f11),
  (12, Go.Proofs.Try.f12),
  (13, Go.Proofs.Try.f13),
  (14, Go.Proofs.Try.f14),
  (15, Go.Proofs.Try.f15),
  (16, Go.Proofs.Try.f16),
  (17, Go.Proofs.Try.f17),
  (18, Go.Proofs.Try.f18),
  (19, Go.Proofs.Try.f19),
  (20, Go.Proofs.Try.f20),
  (21, Go.Proofs.Try.f21),
  (22, Go.Proofs.Try.f22),
  (23, Go.Proofs.Try.f23),
  (24, Go.Proofs.Try.f24),
  (25, Go.Proofs.Try.f25),
  (26, Go.Proofs.Try.f26),
  (27, Go.Proofs.Try.f27),
  (28, Go.Proofs.Try.f28),
  (29, Go.Proofs.Try.f29),
  (30, Go.Proofs.Try.f30),
  (31, Go.Proofs.Try.f31),
  (32, Go.Proofs.Try.f32),
  (33, Go.Proofs.Try.f33),
  (34, Go.Proofs.Try.f34),
  (35, Go.Proofs.Try.f35),
  (36, Go.Proofs.Try.f36),
  (37, Go.Proofs.Try.f37),
  (38, Go.Proofs.Try.f38),
  (39, Go.Proofs.Try.f39),
  (40, Go.Proofs.Try.f40),
  (41, Go.Proofs.Try.f41),
  (42, Go.Proofs.Try.f42),
  (43, Go.Proofs.Try.f43),
  (44, Go.Proofs.Try.f44),
  (45, Go.Proofs.Try.f45),
  (46, Go.Proofs.Try.f46),
  (47, Go.Proofs.Try.f47),
  (48, Go.Proofs.Try.f48),
  (49, Go.Proofs.Try.f49),
  (50, Go.Proofs.Try.f50),
  (51, Go.Proofs.Try.f51),
  (52, Go.Proofs.Try.f52),
  (53, Go.Proofs.Try.f53),
  (54, Go.Proofs.Try.f54),
  (55, Go.Proofs.Try.f55),
  (58, Go.Proofs.Try.f58),
  (59, Go.Proofs.Try.f59),
  (60, Go.Proofs.Try.f60),
  (61, Go.Proofs.Try.f61),
  (62, Go.Proofs.Try.f62),
  (63, Go.Proofs.Try.f63),
  (64, Go.Proofs.Try.f64),
  (65, Go.Proofs.Try.f65),
  (66, Go.Proofs.Try.f66),
  (67, Go.Proofs.Try.f67),
  (68, Go.Proofs.Try.f68),
  (69, Go.Proofs.Try.f69),
  (70, Go.Proofs.Try.f70),
  (71, Go.Proofs.Try.f71),
  (72, Go.Proofs.Try.f72),
  (73, Go.Proofs.Try.f73),
  (74, Go.Proofs.Try.f74),
  (75, Go.Proofs.Try.f75),
  (76, Go.Proofs.Try.f76),
  (77, Go.Proofs.Try.f77),
  (78, Go.Proofs.Try.f78),
  (79, Go.Proofs.Try.f79),
  (80, Go.Proofs.Try.f80),
  (83, Go.Proofs.Try.f83),
  (84, Go.Proofs.Try.f84),
  (85, Go.Proofs.Try.f85),
  (86, Go.Proofs.Try.f86),
  (87, Go.Proofs.Try.f87),
  (88, Go.Proofs.Try.f88),
  (100, Go.Proofs.Try.f100),
  (107, Go.Proofs.Try.f107),
  (108, Go.Proofs.Try.f108),
  (110, Go.Proofs.Try.f110),
  (111, Go.Proofs.Try.f111),
  (112, Go.Proofs.Try.f112),
  (113, Go.Proofs.Try.f113),
  (114, Go.Proofs.Try.f114),
  (115, Go.Proofs.Try.f115),
  (116, Go.Proofs.Try.f116),
  (117, Go.Proofs.Try.f117),
  (118, Go.Proofs.Try.f118),
  (119, Go.Proofs.Try.f119),
  (120, Go.Proofs.Try.f120),
  (121, Go.Proofs.Try.f121),
  (122, Go.Proofs.Try.f122),
  (123, Go.Proofs.Try.f123),
  (124, Go.Proofs.Try.f124),
  (125, Go.Proofs.Try.f125),
  (126, Go.Proofs.Try.f126),
  (127, Go.Proofs.Try.f127),
  (128, Go.Proofs.Try.f128),
  (129, Go.Proofs.Try.f129)]
def gcL : List (Nat × List (Nat × (List Nat × Nat))) := [
  (4, [(11, ([3, 4, 7, 16, 105, 106, 107], 3))]),
  (6, [(12, ([3, 7, 8, 9, 11, 12, 14, 15, 104, 105, 106], 1)), (22, ([3, 7, 8, 9, 11, 12, 14, 15, 21, 22, 23, 24, 160, 161, 162], 1))]),
  (7, [(16, ([2, 5, 6, 8, 16, 17, 101, 102, 103], 2))]),
  (10, [(10, ([2, 3, 7, 8, 9, 10, 11, 12], 6)), (12, ([3, 7, 8, 9, 10, 11, 12], 6)), (18, ([3, 7, 8, 9, 10, 11, 12, 142, 143], 8)), (23, ([3, 7, 8, 9, 10, 11, 12], 6)), (31, ([3, 7, 8, 9, 10, 11, 12, 17, 18, 19, 20, 21, 22, 23, 24, 25, 27, 28, 29], 6)), (32, ([3, 7, 8, 12, 17, 18, 19, 20, 21, 22, 23, 24, 25, 27, 28, 29, 223, 224, 225], 6))]),
  (16, [(4, ([5, 6, 14], 7)), (7, ([5, 6], 4))]),
  (17, [(4, ([5, 6, 14], 6)), (7, ([5, 6], 3))]),
  (23, [(1, ([0, 2, 3], 1)), (16, ([2, 3], 1))]),
  (26, [(5, ([2, 3, 4, 5, 6, 7, 19, 20], 3)), (9, ([2, 3, 4, 5, 6, 7, 8, 9, 19, 20, 26], 7)), (12, ([2, 3, 4, 5, 6, 7, 8, 9, 19, 20], 3))]),
  (32, [(3, ([0, 1, 4], 1)), (4, ([0, 4, 12, 13, 14], 2)), (9, ([4], 1))]),
  (37, [(10, ([1, 4, 5, 65, 66, 67], 3))]),
  (80, [(2, ([1, 2, 4, 10, 11, 12], 2))])]
def nilsL : List (Nat × List (Nat × List NT)) := [
  (10, [(10, []), (12, [⟨12, some 0, 1⟩, ⟨12, some 3, 3⟩]), (23, []), (31, [])]),
  (23, [(1, [⟨2, some 0, 1⟩, ⟨2, some 3, 3⟩]), (16, [])]),
  (26, [(12, [])]),
  (32, [(3, [⟨4, some 3, 3⟩]), (9, [])])]
def growL : List (Nat × List Nat) := [
  (7, [16]),
  (16, [6]),
  (20, [4]),
  (24, [999999]),
  (29, [5]),
  (55, [999999]),
  (80, [4]),
  (88, [2])]
def at2 {α : Type} (l : List (Nat × List (Nat × α))) (f id : Nat) : Option α :=
  match getAt l f with
  | some r => getAt r id
  | none => none
def methT (t : TypeId) (n : String) : Option FuncId :=
  match getAt methL t with
  | some r => (r.find? fun x => x.1 == n).map (·.2)
  | none => none
def growT (f x : Nat) : Bool :=
  match getAt growL f with
  | some r => r.contains x
  | none => false
noncomputable def cfg0 : Cfg := ⟨at2 gcL, at2 nilsL, growT, at2 planL, getAt globL, getAt tyL, getAt eqL, methT, getAt fnL, (fun g => g == 56), (fun g => g == 57)⟩
noncomputable abbrev prog0 : Program := Go.Proofs.Try.prog

theorem globO (C : Cfg) (e : Env) (g : Nat) : opd C e (.global g) = match C.glob g with
    | some v => .vptr v 0
    | none => .undef := rfl
theorem ty1 : cfg0.ty 1 = some ⟨.other, 1, 8, some (.nilFunc)⟩ := rfl
theorem ty2 : cfg0.ty 2 = some ⟨.int .i64, 1, 8, some (.int .i64 0)⟩ := rfl
theorem ty3 : cfg0.ty 3 = some ⟨.int .i64, 1, 8, some (.int .i64 0)⟩ := rfl
theorem ty4 : cfg0.ty 4 = some ⟨.bool, 1, 1, some (.bool false)⟩ := rfl
theorem ty5 : cfg0.ty 5 = some ⟨.int .u8, 1, 1, some (.int .u8 0)⟩ := rfl
theorem ty6 : cfg0.ty 6 = some ⟨.int .u8, 1, 1, some (.int .u8 0)⟩ := rfl
theorem ty8 : cfg0.ty 8 = some ⟨.struct [(0, 2), (1, 3), (2, 4), (3, 6)], 4, 24, some (.agg #[.int .i64 0, .int .i64 0, .bool false, .int .u8 0])⟩ := rfl
theorem ty12 : cfg0.ty 12 = some ⟨.int .u64, 1, 8, some (.int .u64 0)⟩ := rfl
theorem ty15 : cfg0.ty 15 = some ⟨.other, 1, 8, some (.pointer none)⟩ := rfl
theorem ty16 : cfg0.ty 16 = some ⟨.other, 1, 8, some (.pointer none)⟩ := rfl
theorem ty17 : cfg0.ty 17 = some ⟨.other, 1, 8, some (.pointer none)⟩ := rfl
theorem ty19 : cfg0.ty 19 = some ⟨.struct [(0, 17)], 1, 8, some (.agg #[.pointer none])⟩ := rfl
theorem ty20 : cfg0.ty 20 = some ⟨.iface, 1, 16, some (.nilIface)⟩ := rfl
theorem ty22 : cfg0.ty 22 = some ⟨.struct [(0, 3), (1, 3)], 2, 16, some (.agg #[.int .i64 0, .int .i64 0])⟩ := rfl
theorem ty23 : cfg0.ty 23 = some ⟨.slice 22, 1, 24, some (.slice none 0 0)⟩ := rfl
theorem ty24 : cfg0.ty 24 = some ⟨.int .i64, 1, 8, some (.int .i64 0)⟩ := rfl
theorem ty27 : cfg0.ty 27 = some ⟨.slice 3, 1, 24, some (.slice none 0 0)⟩ := rfl
theorem ty29 : cfg0.ty 29 = some ⟨.struct [(0, 3), (1, 3)], 2, 16, some (.agg #[.int .i64 0, .int .i64 0])⟩ := rfl
theorem ty30 : cfg0.ty 30 = some ⟨.slice 38, 1, 24, some (.slice none 0 0)⟩ := rfl
theorem ty32 : cfg0.ty 32 = some ⟨.struct [(0, 27), (1, 29), (3, 30)], 4, 64, some (.agg #[.slice none 0 0, .int .i64 0, .int .i64 0, .slice none 0 0])⟩ := rfl
theorem ty38 : cfg0.ty 38 = some ⟨.struct [(0, 3), (1, 29)], 3, 24, some (.agg #[.int .i64 0, .int .i64 0, .int .i64 0])⟩ := rfl
theorem ty43 : cfg0.ty 43 = some ⟨.slice 29, 1, 24, some (.slice none 0 0)⟩ := rfl
theorem ty48 : cfg0.ty 48 = some ⟨.slice 57, 1, 24, some (.slice none 0 0)⟩ := rfl
theorem ty51 : cfg0.ty 51 = some ⟨.other, 1, 8, some (.nilFunc)⟩ := rfl
theorem ty53 : cfg0.ty 53 = some ⟨.other, 1, 8, some (.nilFunc)⟩ := rfl
theorem ty54 : cfg0.ty 54 = some ⟨.int .u64, 1, 8, some (.int .u64 0)⟩ := rfl
theorem ty57 : cfg0.ty 57 = some ⟨.int .u16, 1, 2, some (.int .u16 0)⟩ := rfl
theorem ty61 : cfg0.ty 61 = some ⟨.other, 1, 8, some (.nilFunc)⟩ := rfl
theorem ty63 : cfg0.ty 63 = some ⟨.other, 1, 8, some (.nilFunc)⟩ := rfl
theorem ty64 : cfg0.ty 64 = some ⟨.other, 1, 8, some (.pointer none)⟩ := rfl
theorem ty65 : cfg0.ty 65 = some ⟨.slice 32, 1, 24, some (.slice none 0 0)⟩ := rfl
theorem ty69 : cfg0.ty 69 = some ⟨.other, 1, 8, some (.pointer none)⟩ := rfl
theorem ty71 : cfg0.ty 71 = some ⟨.struct [(0, 32)], 4, 64, some (.agg #[.slice none 0 0, .int .i64 0, .int .i64 0, .slice none 0 0])⟩ := rfl
theorem ty73 : cfg0.ty 73 = some ⟨.other, 1, 8, some (.nilFunc)⟩ := rfl
theorem ty78 : cfg0.ty 78 = some ⟨.struct [(0, 3), (1, 3)], 2, 16, some (.agg #[.int .i64 0, .int .i64 0])⟩ := rfl
theorem ty79 : cfg0.ty 79 = some ⟨.int .i64, 1, 8, some (.int .i64 0)⟩ := rfl
theorem ty81 : cfg0.ty 81 = some ⟨.other, 1, 8, some (.nilFunc)⟩ := rfl
theorem ty82 : cfg0.ty 82 = some ⟨.other, 1, 8, some (.nilFunc)⟩ := rfl
theorem ty83 : cfg0.ty 83 = some ⟨.other, 1, 8, some (.nilFunc)⟩ := rfl
theorem ty86 : cfg0.ty 86 = some ⟨.map 78 3, 1, 8, some (.map none)⟩ := rfl
theorem ty92 : cfg0.ty 92 = some ⟨.slice 54, 1, 24, some (.slice none 0 0)⟩ := rfl
theorem ty94 : cfg0.ty 94 = some ⟨.other, 1, 8, some (.nilFunc)⟩ := rfl
theorem ty96 : cfg0.ty 96 = some ⟨.struct [(0, 94)], 1, 8, some (.agg #[.nilFunc])⟩ := rfl
theorem ty99 : cfg0.ty 99 = some ⟨.array 20 3, 20, 160, some (.agg #[.int .i64 0, .int .i64 0, .int .i64 0, .int .i64 0, .int .i64 0, .int .i64 0, .int .i64 0, .int .i64 0, .int .i64 0, .int .i64 0, .int .i64 0, .int .i64 0, .int .i64 0, .int .i64 0, .int .i64 0, .int .i64 0, .int .i64 0, .int .i64 0, .int .i64 0, .int .i64 0])⟩ := rfl
theorem ty101 : cfg0.ty 101 = some ⟨.slice 79, 1, 24, some (.slice none 0 0)⟩ := rfl
theorem ty106 : cfg0.ty 106 = some ⟨.struct [(0, 24)], 1, 8, some (.agg #[.int .i64 0])⟩ := rfl
theorem ty109 : cfg0.ty 109 = some ⟨.slice 112, 1, 24, some (.slice none 0 0)⟩ := rfl
theorem ty112 : cfg0.ty 112 = some ⟨.iface, 1, 16, some (.nilIface)⟩ := rfl
theorem ty115 : cfg0.ty 115 = some ⟨.other, 1, 8, some (.nilFunc)⟩ := rfl
theorem ty117 : cfg0.ty 117 = some ⟨.int .u32, 1, 4, some (.int .u32 0)⟩ := rfl
theorem ty119 : cfg0.ty 119 = some ⟨.int .u64, 1, 8, some (.int .u64 0)⟩ := rfl
theorem ty120 : cfg0.ty 120 = some ⟨.other, 1, 8, some (.nilFunc)⟩ := rfl
theorem ty124 : cfg0.ty 124 = some ⟨.struct [(0, 79)], 1, 8, some (.agg #[.int .i64 0])⟩ := rfl
theorem ty126 : cfg0.ty 126 = some ⟨.struct [(0, 124), (1, 29)], 3, 24, some (.agg #[.int .i64 0, .int .i64 0, .int .i64 0])⟩ := rfl
theorem ty155 : cfg0.ty 155 = some ⟨.int .u8, 1, 1, some (.int .u8 0)⟩ := rfl
theorem ifc20 : isIfc prog0 20 = true := by kernel_rfl
theorem ifc112 : isIfc prog0 112 = true := by kernel_rfl
theorem eqt2 : cfg0.eqt 2 = some (false, [some .i64]) := rfl
theorem eqt3 : cfg0.eqt 3 = some (false, [some .i64]) := rfl
theorem eqt4 : cfg0.eqt 4 = some (false, [none]) := rfl
theorem eqt5 : cfg0.eqt 5 = some (false, [some .u8]) := rfl
theorem eqt6 : cfg0.eqt 6 = some (false, [some .u8]) := rfl
theorem eqt8 : cfg0.eqt 8 = some (true, [some .i64, some .i64, none, some .u8]) := rfl
theorem eqt12 : cfg0.eqt 12 = some (false, [some .u64]) := rfl
theorem eqt22 : cfg0.eqt 22 = some (true, [some .i64, some .i64]) := rfl
theorem eqt24 : cfg0.eqt 24 = some (false, [some .i64]) := rfl
theorem eqt29 : cfg0.eqt 29 = some (true, [some .i64, some .i64]) := rfl
theorem eqt38 : cfg0.eqt 38 = some (true, [some .i64, some .i64, some .i64]) := rfl
theorem eqt54 : cfg0.eqt 54 = some (false, [some .u64]) := rfl
theorem eqt57 : cfg0.eqt 57 = some (false, [some .u16]) := rfl
theorem eqt78 : cfg0.eqt 78 = some (true, [some .i64, some .i64]) := rfl
theorem eqt79 : cfg0.eqt 79 = some (false, [some .i64]) := rfl
theorem eqt99 : cfg0.eqt 99 = some (true, [some .i64, some .i64, some .i64, some .i64, some .i64, some .i64, some .i64, some .i64, some .i64, some .i64, some .i64, some .i64, some .i64, some .i64, some .i64, some .i64, some .i64, some .i64, some .i64, some .i64]) := rfl
theorem eqt106 : cfg0.eqt 106 = some (true, [some .i64]) := rfl
theorem eqt117 : cfg0.eqt 117 = some (false, [some .u32]) := rfl
theorem eqt119 : cfg0.eqt 119 = some (false, [some .u64]) := rfl
theorem eqt124 : cfg0.eqt 124 = some (true, [some .i64]) := rfl
theorem eqt126 : cfg0.eqt 126 = some (true, [some .i64, some .i64, some .i64]) := rfl
theorem eqt155 : cfg0.eqt 155 = some (false, [some .u8]) := rfl
theorem meth64 : cfg0.meth 71 "blockworks/fringe.can" = some 64 := rfl
theorem meth55 : cfg0.meth 71 "blockworks/fringe.counts" = some 55 := rfl
theorem meth52 : cfg0.meth 71 "blockworks/fringe.every" = some 52 := rfl
theorem meth46 : cfg0.meth 71 "blockworks/fringe.isColour" = some 46 := rfl
theorem meth51 : cfg0.meth 71 "blockworks/fringe.lengths" = some 51 := rfl
theorem meth80 : cfg0.meth 71 "blockworks/fringe.readings" = some 80 := rfl
theorem meth62 : cfg0.meth 71 "blockworks/fringe.sets" = some 62 := rfl
theorem meth40 : cfg0.meth 71 "blockworks/fringe.told" = some 40 := rfl
theorem meth47 : cfg0.meth 71 "blockworks/fringe.wave" = some 47 := rfl
theorem meth87 : cfg0.meth 79 "blockworks/fringe.divisor" = some 87 := rfl
theorem meth48 : cfg0.meth 79 "blockworks/fringe.of" = some 48 := rfl
theorem meth127 : cfg0.meth 124 "blockworks/fringe.right" = some 127 := rfl
theorem meth128 : cfg0.meth 126 "blockworks/fringe.right" = some 128 := rfl
theorem fn56 : cfg0.fns 56 = none := rfl
theorem fn57 : cfg0.fns 57 = none := rfl
theorem fn0 : cfg0.fns 0 = some Go.Proofs.Try.f0 := rfl
theorem fn10 : cfg0.fns 10 = some Go.Proofs.Try.f10 := rfl
theorem fn11 : cfg0.fns 11 = some Go.Proofs.Try.f11 := rfl
theorem fn12 : cfg0.fns 12 = some Go.Proofs.Try.f12 := rfl
theorem fn13 : cfg0.fns 13 = some Go.Proofs.Try.f13 := rfl
theorem fn14 : cfg0.fns 14 = some Go.Proofs.Try.f14 := rfl
theorem fn15 : cfg0.fns 15 = some Go.Proofs.Try.f15 := rfl
theorem fn16 : cfg0.fns 16 = some Go.Proofs.Try.f16 := rfl
theorem fn17 : cfg0.fns 17 = some Go.Proofs.Try.f17 := rfl
theorem fn18 : cfg0.fns 18 = some Go.Proofs.Try.f18 := rfl
theorem fn19 : cfg0.fns 19 = some Go.Proofs.Try.f19 := rfl
theorem fn20 : cfg0.fns 20 = some Go.Proofs.Try.f20 := rfl
theorem fn21 : cfg0.fns 21 = some Go.Proofs.Try.f21 := rfl
theorem fn22 : cfg0.fns 22 = some Go.Proofs.Try.f22 := rfl
theorem fn26 : cfg0.fns 26 = some Go.Proofs.Try.f26 := rfl
theorem fn27 : cfg0.fns 27 = some Go.Proofs.Try.f27 := rfl
theorem fn28 : cfg0.fns 28 = some Go.Proofs.Try.f28 := rfl
theorem fn29 : cfg0.fns 29 = some Go.Proofs.Try.f29 := rfl
theorem fn30 : cfg0.fns 30 = some Go.Proofs.Try.f30 := rfl
theorem fn34 : cfg0.fns 34 = some Go.Proofs.Try.f34 := rfl
theorem fn35 : cfg0.fns 35 = some Go.Proofs.Try.f35 := rfl
theorem fn36 : cfg0.fns 36 = some Go.Proofs.Try.f36 := rfl
theorem fn37 : cfg0.fns 37 = some Go.Proofs.Try.f37 := rfl
theorem fn38 : cfg0.fns 38 = some Go.Proofs.Try.f38 := rfl
theorem fn39 : cfg0.fns 39 = some Go.Proofs.Try.f39 := rfl
theorem fn40 : cfg0.fns 40 = some Go.Proofs.Try.f40 := rfl
theorem fn41 : cfg0.fns 41 = some Go.Proofs.Try.f41 := rfl
theorem fn42 : cfg0.fns 42 = some Go.Proofs.Try.f42 := rfl
theorem fn43 : cfg0.fns 43 = some Go.Proofs.Try.f43 := rfl
theorem fn44 : cfg0.fns 44 = some Go.Proofs.Try.f44 := rfl
theorem fn45 : cfg0.fns 45 = some Go.Proofs.Try.f45 := rfl
theorem fn46 : cfg0.fns 46 = some Go.Proofs.Try.f46 := rfl
theorem fn47 : cfg0.fns 47 = some Go.Proofs.Try.f47 := rfl
theorem fn48 : cfg0.fns 48 = some Go.Proofs.Try.f48 := rfl
theorem fn49 : cfg0.fns 49 = some Go.Proofs.Try.f49 := rfl
theorem fn50 : cfg0.fns 50 = some Go.Proofs.Try.f50 := rfl
theorem fn51 : cfg0.fns 51 = some Go.Proofs.Try.f51 := rfl
theorem fn52 : cfg0.fns 52 = some Go.Proofs.Try.f52 := rfl
theorem fn53 : cfg0.fns 53 = some Go.Proofs.Try.f53 := rfl
theorem fn54 : cfg0.fns 54 = some Go.Proofs.Try.f54 := rfl
theorem fn55 : cfg0.fns 55 = some Go.Proofs.Try.f55 := rfl
theorem fn58 : cfg0.fns 58 = some Go.Proofs.Try.f58 := rfl
theorem fn59 : cfg0.fns 59 = some Go.Proofs.Try.f59 := rfl
theorem fn60 : cfg0.fns 60 = some Go.Proofs.Try.f60 := rfl
theorem fn61 : cfg0.fns 61 = some Go.Proofs.Try.f61 := rfl
theorem fn62 : cfg0.fns 62 = some Go.Proofs.Try.f62 := rfl
theorem fn63 : cfg0.fns 63 = some Go.Proofs.Try.f63 := rfl
theorem fn64 : cfg0.fns 64 = some Go.Proofs.Try.f64 := rfl
theorem fn65 : cfg0.fns 65 = some Go.Proofs.Try.f65 := rfl
theorem fn66 : cfg0.fns 66 = some Go.Proofs.Try.f66 := rfl
theorem fn67 : cfg0.fns 67 = some Go.Proofs.Try.f67 := rfl
theorem fn68 : cfg0.fns 68 = some Go.Proofs.Try.f68 := rfl
theorem fn69 : cfg0.fns 69 = some Go.Proofs.Try.f69 := rfl
theorem fn71 : cfg0.fns 71 = some Go.Proofs.Try.f71 := rfl
theorem fn72 : cfg0.fns 72 = some Go.Proofs.Try.f72 := rfl
theorem fn73 : cfg0.fns 73 = some Go.Proofs.Try.f73 := rfl
theorem fn74 : cfg0.fns 74 = some Go.Proofs.Try.f74 := rfl
theorem fn75 : cfg0.fns 75 = some Go.Proofs.Try.f75 := rfl
theorem fn76 : cfg0.fns 76 = some Go.Proofs.Try.f76 := rfl
theorem fn77 : cfg0.fns 77 = some Go.Proofs.Try.f77 := rfl
theorem fn78 : cfg0.fns 78 = some Go.Proofs.Try.f78 := rfl
theorem fn79 : cfg0.fns 79 = some Go.Proofs.Try.f79 := rfl
theorem fn80 : cfg0.fns 80 = some Go.Proofs.Try.f80 := rfl
theorem fn83 : cfg0.fns 83 = some Go.Proofs.Try.f83 := rfl
theorem fn84 : cfg0.fns 84 = some Go.Proofs.Try.f84 := rfl
theorem fn86 : cfg0.fns 86 = some Go.Proofs.Try.f86 := rfl
theorem fn87 : cfg0.fns 87 = some Go.Proofs.Try.f87 := rfl
theorem fn88 : cfg0.fns 88 = some Go.Proofs.Try.f88 := rfl
theorem fn100 : cfg0.fns 100 = some Go.Proofs.Try.f100 := rfl
theorem fn107 : cfg0.fns 107 = some Go.Proofs.Try.f107 := rfl
theorem fn108 : cfg0.fns 108 = some Go.Proofs.Try.f108 := rfl
theorem fn110 : cfg0.fns 110 = some Go.Proofs.Try.f110 := rfl
theorem fn111 : cfg0.fns 111 = some Go.Proofs.Try.f111 := rfl
theorem fn127 : cfg0.fns 127 = some Go.Proofs.Try.f127 := rfl
theorem fn128 : cfg0.fns 128 = some Go.Proofs.Try.f128 := rfl
theorem res0 : Go.Proofs.Try.f0.results.toList = [] := rfl
theorem res10 : Go.Proofs.Try.f10.results.toList = [.tmp 6] := rfl
theorem res11 : Go.Proofs.Try.f11.results.toList = [.tmp 4, .cell 5 24] := rfl
theorem res12 : Go.Proofs.Try.f12.results.toList = [.cell 2 32] := rfl
theorem res13 : Go.Proofs.Try.f13.results.toList = [.tmp 6, .tmp 7, .cell 8 24] := rfl
theorem res14 : Go.Proofs.Try.f14.results.toList = [.tmp 2, .cell 3 24] := rfl
theorem res15 : Go.Proofs.Try.f15.results.toList = [.cell 6 38] := rfl
theorem res16 : Go.Proofs.Try.f16.results.toList = [.tmp 4, .cell 5 24] := rfl
theorem res17 : Go.Proofs.Try.f17.results.toList = [.tmp 4, .cell 5 24] := rfl
theorem res18 : Go.Proofs.Try.f18.results.toList = [.tmp 2, .tmp 3, .cell 4 24] := rfl
theorem res19 : Go.Proofs.Try.f19.results.toList = [.tmp 2, .cell 3 24] := rfl
theorem res20 : Go.Proofs.Try.f20.results.toList = [.tmp 2, .cell 3 24] := rfl
theorem res21 : Go.Proofs.Try.f21.results.toList = [.tmp 0] := rfl
theorem res22 : Go.Proofs.Try.f22.results.toList = [.tmp 4] := rfl
theorem res26 : Go.Proofs.Try.f26.results.toList = [.tmp 2, .tmp 3, .cell 4 24] := rfl
theorem res27 : Go.Proofs.Try.f27.results.toList = [.cell 4 32] := rfl
theorem res28 : Go.Proofs.Try.f28.results.toList = [.tmp 2] := rfl
theorem res29 : Go.Proofs.Try.f29.results.toList = [.tmp 2, .cell 3 24] := rfl
theorem res30 : Go.Proofs.Try.f30.results.toList = [.tmp 2] := rfl
theorem res34 : Go.Proofs.Try.f34.results.toList = [.tmp 4] := rfl
theorem res35 : Go.Proofs.Try.f35.results.toList = [] := rfl
theorem res36 : Go.Proofs.Try.f36.results.toList = [] := rfl
theorem res37 : Go.Proofs.Try.f37.results.toList = [.cell 4 71] := rfl
theorem res38 : Go.Proofs.Try.f38.results.toList = [.tmp 3] := rfl
theorem res39 : Go.Proofs.Try.f39.results.toList = [.tmp 2] := rfl
theorem res40 : Go.Proofs.Try.f40.results.toList = [.tmp 2] := rfl
theorem res41 : Go.Proofs.Try.f41.results.toList = [.tmp 4] := rfl
theorem res42 : Go.Proofs.Try.f42.results.toList = [.tmp 5] := rfl
theorem res43 : Go.Proofs.Try.f43.results.toList = [.cell 4 29] := rfl
theorem res44 : Go.Proofs.Try.f44.results.toList = [] := rfl
theorem res45 : Go.Proofs.Try.f45.results.toList = [.tmp 4] := rfl
theorem res46 : Go.Proofs.Try.f46.results.toList = [.tmp 4] := rfl
theorem res47 : Go.Proofs.Try.f47.results.toList = [.tmp 4] := rfl
theorem res48 : Go.Proofs.Try.f48.results.toList = [.cell 4 78] := rfl
theorem res49 : Go.Proofs.Try.f49.results.toList = [] := rfl
theorem res50 : Go.Proofs.Try.f50.results.toList = [.tmp 2] := rfl
theorem res51 : Go.Proofs.Try.f51.results.toList = [.tmp 4] := rfl
theorem res52 : Go.Proofs.Try.f52.results.toList = [.tmp 2] := rfl
theorem res53 : Go.Proofs.Try.f53.results.toList = [] := rfl
theorem res54 : Go.Proofs.Try.f54.results.toList = [.tmp 3] := rfl
theorem res55 : Go.Proofs.Try.f55.results.toList = [.tmp 4] := rfl
theorem res58 : Go.Proofs.Try.f58.results.toList = [] := rfl
theorem res59 : Go.Proofs.Try.f59.results.toList = [.tmp 3] := rfl
theorem res60 : Go.Proofs.Try.f60.results.toList = [] := rfl
theorem res61 : Go.Proofs.Try.f61.results.toList = [.tmp 4, .tmp 5] := rfl
theorem res62 : Go.Proofs.Try.f62.results.toList = [.tmp 2] := rfl
theorem res63 : Go.Proofs.Try.f63.results.toList = [.tmp 3] := rfl
theorem res64 : Go.Proofs.Try.f64.results.toList = [.cell 4 4] := rfl
theorem res65 : Go.Proofs.Try.f65.results.toList = [.tmp 2] := rfl
theorem res66 : Go.Proofs.Try.f66.results.toList = [] := rfl
theorem res67 : Go.Proofs.Try.f67.results.toList = [.tmp 3] := rfl
theorem res68 : Go.Proofs.Try.f68.results.toList = [] := rfl
theorem res69 : Go.Proofs.Try.f69.results.toList = [] := rfl
theorem res71 : Go.Proofs.Try.f71.results.toList = [] := rfl
theorem res72 : Go.Proofs.Try.f72.results.toList = [.tmp 2] := rfl
theorem res73 : Go.Proofs.Try.f73.results.toList = [] := rfl
theorem res74 : Go.Proofs.Try.f74.results.toList = [.tmp 2] := rfl
theorem res75 : Go.Proofs.Try.f75.results.toList = [.tmp 6] := rfl
theorem res76 : Go.Proofs.Try.f76.results.toList = [.tmp 4] := rfl
theorem res77 : Go.Proofs.Try.f77.results.toList = [.tmp 6] := rfl
theorem res78 : Go.Proofs.Try.f78.results.toList = [.tmp 2] := rfl
theorem res79 : Go.Proofs.Try.f79.results.toList = [] := rfl
theorem res80 : Go.Proofs.Try.f80.results.toList = [.tmp 4] := rfl
theorem res83 : Go.Proofs.Try.f83.results.toList = [] := rfl
theorem res84 : Go.Proofs.Try.f84.results.toList = [.tmp 4] := rfl
theorem res86 : Go.Proofs.Try.f86.results.toList = [.tmp 2] := rfl
theorem res87 : Go.Proofs.Try.f87.results.toList = [.tmp 4] := rfl
theorem res88 : Go.Proofs.Try.f88.results.toList = [.tmp 4] := rfl
theorem res100 : Go.Proofs.Try.f100.results.toList = [] := rfl
theorem res107 : Go.Proofs.Try.f107.results.toList = [] := rfl
theorem res108 : Go.Proofs.Try.f108.results.toList = [] := rfl
theorem res110 : Go.Proofs.Try.f110.results.toList = [] := rfl
theorem res111 : Go.Proofs.Try.f111.results.toList = [] := rfl
theorem res127 : Go.Proofs.Try.f127.results.toList = [.tmp 4] := rfl
theorem res128 : Go.Proofs.Try.f128.results.toList = [.tmp 4] := rfl
theorem plan10_5 : cfg0.plan 10 5 = some [(3, 2), (3, 10), (4, 2), (4, 10), (4, 11), (5, 2), (5, 10), (5, 11), (5, 12), (10, 1002), (11, 1002), (12, 1002), (13, 1002)] := rfl
theorem plan10_8 : cfg0.plan 10 8 = some [] := rfl
theorem plan10_9 : cfg0.plan 10 9 = some [] := rfl
theorem plan10_15 : cfg0.plan 10 15 = some [] := rfl
theorem plan10_23 : cfg0.plan 10 23 = some [(5, 3), (6, 3)] := rfl
theorem plan10_51 : cfg0.plan 10 51 = some [] := rfl
theorem plan13_2 : cfg0.plan 13 2 = some [(3, 2), (5, 2), (5, 4), (4, 1002), (6, 1002), (8, 1002), (6, 1004), (8, 1004), (8, 1006)] := rfl
theorem plan13_3 : cfg0.plan 13 3 = some [] := rfl
theorem plan14_4 : cfg0.plan 14 4 = some [(0, 2), (3, 1002)] := rfl
theorem plan16_3 : cfg0.plan 16 3 = some [(3, 2), (4, 1002), (5, 1002), (5, 1004)] := rfl
theorem plan17_3 : cfg0.plan 17 3 = some [(3, 2), (4, 1002), (5, 1002), (5, 1004)] := rfl
theorem plan22_6 : cfg0.plan 22 6 = some [] := rfl
theorem plan27_1 : cfg0.plan 27 1 = some [(4, 3)] := rfl
theorem plan34_6 : cfg0.plan 34 6 = some [] := rfl
theorem plan40_1 : cfg0.plan 40 1 = some [(0, 2), (3, 1002), (4, 1002), (5, 1002), (4, 1003), (5, 1003), (5, 1004)] := rfl
theorem plan48_1 : cfg0.plan 48 1 = some [] := rfl
theorem plan55_6 : cfg0.plan 55 6 = some [(4, 6), (4, 1003), (5, 1003), (6, 1003), (7, 1003), (8, 1003)] := rfl
theorem plan63_1 : cfg0.plan 63 1 = some [(0, 2), (4, 1002), (5, 1002), (6, 1002), (6, 1005)] := rfl
theorem plan87_2 : cfg0.plan 87 2 = some [] := rfl
theorem plan107_4 : cfg0.plan 107 4 = some [(15, 1014), (16, 1014)] := rfl
theorem plan107_6 : cfg0.plan 107 6 = some [] := rfl
theorem plan108_5 : cfg0.plan 108 5 = some [(10, 1009)] := rfl
theorem plan108_11 : cfg0.plan 108 11 = some [] := rfl
theorem plan108_17 : cfg0.plan 108 17 = some [(10, 1009), (11, 1009)] := rfl
theorem plan108_23 : cfg0.plan 108 23 = some [] := rfl
theorem plan108_35 : cfg0.plan 108 35 = some [(12, 1011), (13, 1011)] := rfl
theorem plan111_3 : cfg0.plan 111 3 = some [] := rfl
theorem gc0 (i : Nat) : cfg0.gc 0 i = none := rfl
theorem grow0 (i : Nat) : cfg0.grow 0 i = false := rfl
theorem gc10_0 : cfg0.gc 10 0 = none := rfl
theorem gc10_1 : cfg0.gc 10 1 = none := rfl
theorem gc10_2 : cfg0.gc 10 2 = none := rfl
theorem gc10_3 : cfg0.gc 10 3 = none := rfl
theorem gc10_4 : cfg0.gc 10 4 = none := rfl
theorem gc10_5 : cfg0.gc 10 5 = none := rfl
theorem gc10_6 : cfg0.gc 10 6 = none := rfl
theorem gc10_7 : cfg0.gc 10 7 = none := rfl
theorem gc10_8 : cfg0.gc 10 8 = none := rfl
theorem gc10_9 : cfg0.gc 10 9 = none := rfl
theorem gc10_10 : cfg0.gc 10 10 = some ([2, 3, 7, 8, 9, 10, 11, 12], 6) := rfl
theorem gc10_11 : cfg0.gc 10 11 = none := rfl
theorem gc10_12 : cfg0.gc 10 12 = some ([3, 7, 8, 9, 10, 11, 12], 6) := rfl
theorem gc10_13 : cfg0.gc 10 13 = none := rfl
theorem gc10_14 : cfg0.gc 10 14 = none := rfl
theorem gc10_15 : cfg0.gc 10 15 = none := rfl
theorem gc10_16 : cfg0.gc 10 16 = none := rfl
theorem gc10_17 : cfg0.gc 10 17 = none := rfl
theorem gc10_18 : cfg0.gc 10 18 = some ([3, 7, 8, 9, 10, 11, 12, 142, 143], 8) := rfl
theorem gc10_19 : cfg0.gc 10 19 = none := rfl
theorem gc10_20 : cfg0.gc 10 20 = none := rfl
theorem gc10_21 : cfg0.gc 10 21 = none := rfl
theorem gc10_22 : cfg0.gc 10 22 = none := rfl
theorem gc10_23 : cfg0.gc 10 23 = some ([3, 7, 8, 9, 10, 11, 12], 6) := rfl
theorem gc10_24 : cfg0.gc 10 24 = none := rfl
theorem gc10_25 : cfg0.gc 10 25 = none := rfl
theorem gc10_26 : cfg0.gc 10 26 = none := rfl
theorem gc10_27 : cfg0.gc 10 27 = none := rfl
theorem gc10_28 : cfg0.gc 10 28 = none := rfl
theorem gc10_29 : cfg0.gc 10 29 = none := rfl
theorem gc10_30 : cfg0.gc 10 30 = none := rfl
theorem gc10_31 : cfg0.gc 10 31 = some ([3, 7, 8, 9, 10, 11, 12, 17, 18, 19, 20, 21, 22, 23, 24, 25, 27, 28, 29], 6) := rfl
theorem gc10_32 : cfg0.gc 10 32 = some ([3, 7, 8, 12, 17, 18, 19, 20, 21, 22, 23, 24, 25, 27, 28, 29, 223, 224, 225], 6) := rfl
theorem gc10_33 : cfg0.gc 10 33 = none := rfl
theorem gc10_34 : cfg0.gc 10 34 = none := rfl
theorem gc10_35 : cfg0.gc 10 35 = none := rfl
theorem gc10_36 : cfg0.gc 10 36 = none := rfl
theorem gc10_37 : cfg0.gc 10 37 = none := rfl
theorem gc10_38 : cfg0.gc 10 38 = none := rfl
theorem gc10_39 : cfg0.gc 10 39 = none := rfl
theorem gc10_40 : cfg0.gc 10 40 = none := rfl
theorem gc10_41 : cfg0.gc 10 41 = none := rfl
theorem gc10_42 : cfg0.gc 10 42 = none := rfl
theorem gc10_43 : cfg0.gc 10 43 = none := rfl
theorem gc10_44 : cfg0.gc 10 44 = none := rfl
theorem gc10_45 : cfg0.gc 10 45 = none := rfl
theorem gc10_46 : cfg0.gc 10 46 = none := rfl
theorem gc10_47 : cfg0.gc 10 47 = none := rfl
theorem gc10_48 : cfg0.gc 10 48 = none := rfl
theorem gc10_49 : cfg0.gc 10 49 = none := rfl
theorem gc10_50 : cfg0.gc 10 50 = none := rfl
theorem gc10_51 : cfg0.gc 10 51 = none := rfl
theorem gc10_52 : cfg0.gc 10 52 = none := rfl
theorem gc10_53 : cfg0.gc 10 53 = none := rfl
theorem gc10_54 : cfg0.gc 10 54 = none := rfl
theorem nils10_10 : cfg0.nils 10 10 = some [] := rfl
theorem nils10_12 : cfg0.nils 10 12 = some [⟨12, some 0, 1⟩, ⟨12, some 3, 3⟩] := rfl
theorem nils10_18 : cfg0.nils 10 18 = none := rfl
theorem nils10_23 : cfg0.nils 10 23 = some [] := rfl
theorem nils10_31 : cfg0.nils 10 31 = some [] := rfl
theorem nils10_32 : cfg0.nils 10 32 = none := rfl
theorem grow10 (i : Nat) : cfg0.grow 10 i = false := rfl
theorem gc11 (i : Nat) : cfg0.gc 11 i = none := rfl
theorem grow11 (i : Nat) : cfg0.grow 11 i = false := rfl
theorem gc12 (i : Nat) : cfg0.gc 12 i = none := rfl
theorem grow12 (i : Nat) : cfg0.grow 12 i = false := rfl
theorem gc13 (i : Nat) : cfg0.gc 13 i = none := rfl
theorem grow13 (i : Nat) : cfg0.grow 13 i = false := rfl
theorem gc14 (i : Nat) : cfg0.gc 14 i = none := rfl
theorem grow14 (i : Nat) : cfg0.grow 14 i = false := rfl
theorem gc15 (i : Nat) : cfg0.gc 15 i = none := rfl
theorem grow15 (i : Nat) : cfg0.grow 15 i = false := rfl
theorem gc16_0 : cfg0.gc 16 0 = none := rfl
theorem gc16_1 : cfg0.gc 16 1 = none := rfl
theorem gc16_2 : cfg0.gc 16 2 = none := rfl
theorem gc16_3 : cfg0.gc 16 3 = none := rfl
theorem gc16_4 : cfg0.gc 16 4 = some ([5, 6, 14], 7) := rfl
theorem gc16_5 : cfg0.gc 16 5 = none := rfl
theorem gc16_6 : cfg0.gc 16 6 = none := rfl
theorem gc16_7 : cfg0.gc 16 7 = some ([5, 6], 4) := rfl
theorem gc16_8 : cfg0.gc 16 8 = none := rfl
theorem nils16 (i : Nat) : cfg0.nils 16 i = none := rfl
theorem grow16_2 : cfg0.grow 16 2 = false := rfl
theorem grow16_3 : cfg0.grow 16 3 = false := rfl
theorem grow16_4 : cfg0.grow 16 4 = false := rfl
theorem grow16_5 : cfg0.grow 16 5 = false := rfl
theorem grow16_6 : cfg0.grow 16 6 = true := rfl
theorem grow16_7 : cfg0.grow 16 7 = false := rfl
theorem gc17_0 : cfg0.gc 17 0 = none := rfl
theorem gc17_1 : cfg0.gc 17 1 = none := rfl
theorem gc17_2 : cfg0.gc 17 2 = none := rfl
theorem gc17_3 : cfg0.gc 17 3 = none := rfl
theorem gc17_4 : cfg0.gc 17 4 = some ([5, 6, 14], 6) := rfl
theorem gc17_5 : cfg0.gc 17 5 = none := rfl
theorem gc17_6 : cfg0.gc 17 6 = none := rfl
theorem gc17_7 : cfg0.gc 17 7 = some ([5, 6], 3) := rfl
theorem nils17 (i : Nat) : cfg0.nils 17 i = none := rfl
theorem grow17 (i : Nat) : cfg0.grow 17 i = false := rfl
theorem gc18 (i : Nat) : cfg0.gc 18 i = none := rfl
theorem grow18 (i : Nat) : cfg0.grow 18 i = false := rfl
theorem gc19 (i : Nat) : cfg0.gc 19 i = none := rfl
theorem grow19 (i : Nat) : cfg0.grow 19 i = false := rfl
theorem gc20 (i : Nat) : cfg0.gc 20 i = none := rfl
theorem grow20_1 : cfg0.grow 20 1 = false := rfl
theorem grow20_2 : cfg0.grow 20 2 = false := rfl
theorem grow20_3 : cfg0.grow 20 3 = false := rfl
theorem grow20_4 : cfg0.grow 20 4 = true := rfl
theorem grow20_6 : cfg0.grow 20 6 = false := rfl
theorem grow20_7 : cfg0.grow 20 7 = false := rfl
theorem grow20_36 : cfg0.grow 20 36 = false := rfl
theorem gc21 (i : Nat) : cfg0.gc 21 i = none := rfl
theorem grow21 (i : Nat) : cfg0.grow 21 i = false := rfl
theorem gc22 (i : Nat) : cfg0.gc 22 i = none := rfl
theorem grow22 (i : Nat) : cfg0.grow 22 i = false := rfl
theorem gc26_0 : cfg0.gc 26 0 = none := rfl
theorem gc26_1 : cfg0.gc 26 1 = none := rfl
theorem gc26_2 : cfg0.gc 26 2 = none := rfl
theorem gc26_3 : cfg0.gc 26 3 = none := rfl
theorem gc26_4 : cfg0.gc 26 4 = none := rfl
theorem gc26_5 : cfg0.gc 26 5 = some ([2, 3, 4, 5, 6, 7, 19, 20], 3) := rfl
theorem gc26_6 : cfg0.gc 26 6 = none := rfl
theorem gc26_7 : cfg0.gc 26 7 = none := rfl
theorem gc26_8 : cfg0.gc 26 8 = none := rfl
theorem gc26_9 : cfg0.gc 26 9 = some ([2, 3, 4, 5, 6, 7, 8, 9, 19, 20, 26], 7) := rfl
theorem gc26_10 : cfg0.gc 26 10 = none := rfl
theorem gc26_11 : cfg0.gc 26 11 = none := rfl
theorem gc26_12 : cfg0.gc 26 12 = some ([2, 3, 4, 5, 6, 7, 8, 9, 19, 20], 3) := rfl
theorem gc26_13 : cfg0.gc 26 13 = none := rfl
theorem gc26_14 : cfg0.gc 26 14 = none := rfl
theorem gc26_15 : cfg0.gc 26 15 = none := rfl
theorem gc26_16 : cfg0.gc 26 16 = none := rfl
theorem nils26_5 : cfg0.nils 26 5 = none := rfl
theorem nils26_9 : cfg0.nils 26 9 = none := rfl
theorem nils26_12 : cfg0.nils 26 12 = some [] := rfl
theorem grow26 (i : Nat) : cfg0.grow 26 i = false := rfl
theorem gc27 (i : Nat) : cfg0.gc 27 i = none := rfl
theorem grow27 (i : Nat) : cfg0.grow 27 i = false := rfl
theorem gc28 (i : Nat) : cfg0.gc 28 i = none := rfl
theorem grow28 (i : Nat) : cfg0.grow 28 i = false := rfl
theorem gc29 (i : Nat) : cfg0.gc 29 i = none := rfl
theorem grow29_1 : cfg0.grow 29 1 = false := rfl
theorem grow29_2 : cfg0.grow 29 2 = false := rfl
theorem grow29_3 : cfg0.grow 29 3 = false := rfl
theorem grow29_4 : cfg0.grow 29 4 = false := rfl
theorem grow29_5 : cfg0.grow 29 5 = true := rfl
theorem grow29_6 : cfg0.grow 29 6 = false := rfl
theorem gc30 (i : Nat) : cfg0.gc 30 i = none := rfl
theorem grow30 (i : Nat) : cfg0.grow 30 i = false := rfl
theorem gc34 (i : Nat) : cfg0.gc 34 i = none := rfl
theorem grow34 (i : Nat) : cfg0.grow 34 i = false := rfl
theorem gc35 (i : Nat) : cfg0.gc 35 i = none := rfl
theorem grow35 (i : Nat) : cfg0.grow 35 i = false := rfl
theorem gc36 (i : Nat) : cfg0.gc 36 i = none := rfl
theorem grow36 (i : Nat) : cfg0.grow 36 i = false := rfl
theorem gc37_0 : cfg0.gc 37 0 = none := rfl
theorem gc37_1 : cfg0.gc 37 1 = none := rfl
theorem gc37_2 : cfg0.gc 37 2 = none := rfl
theorem gc37_3 : cfg0.gc 37 3 = none := rfl
theorem gc37_4 : cfg0.gc 37 4 = none := rfl
theorem gc37_5 : cfg0.gc 37 5 = none := rfl
theorem gc37_6 : cfg0.gc 37 6 = none := rfl
theorem gc37_7 : cfg0.gc 37 7 = none := rfl
theorem gc37_8 : cfg0.gc 37 8 = none := rfl
theorem gc37_9 : cfg0.gc 37 9 = none := rfl
theorem gc37_10 : cfg0.gc 37 10 = some ([1, 4, 5, 65, 66, 67], 3) := rfl
theorem gc37_11 : cfg0.gc 37 11 = none := rfl
theorem gc37_12 : cfg0.gc 37 12 = none := rfl
theorem gc37_13 : cfg0.gc 37 13 = none := rfl
theorem gc37_14 : cfg0.gc 37 14 = none := rfl
theorem gc37_15 : cfg0.gc 37 15 = none := rfl
theorem nils37 (i : Nat) : cfg0.nils 37 i = none := rfl
theorem grow37 (i : Nat) : cfg0.grow 37 i = false := rfl
theorem gc38 (i : Nat) : cfg0.gc 38 i = none := rfl
theorem grow38 (i : Nat) : cfg0.grow 38 i = false := rfl
theorem gc39 (i : Nat) : cfg0.gc 39 i = none := rfl
theorem grow39 (i : Nat) : cfg0.grow 39 i = false := rfl
theorem gc40 (i : Nat) : cfg0.gc 40 i = none := rfl
theorem grow40 (i : Nat) : cfg0.grow 40 i = false := rfl
theorem gc41 (i : Nat) : cfg0.gc 41 i = none := rfl
theorem grow41 (i : Nat) : cfg0.grow 41 i = false := rfl
theorem gc42 (i : Nat) : cfg0.gc 42 i = none := rfl
theorem grow42 (i : Nat) : cfg0.grow 42 i = false := rfl
theorem gc43 (i : Nat) : cfg0.gc 43 i = none := rfl
theorem grow43 (i : Nat) : cfg0.grow 43 i = false := rfl
theorem gc44 (i : Nat) : cfg0.gc 44 i = none := rfl
theorem grow44 (i : Nat) : cfg0.grow 44 i = false := rfl
theorem gc45 (i : Nat) : cfg0.gc 45 i = none := rfl
theorem grow45 (i : Nat) : cfg0.grow 45 i = false := rfl
theorem gc46 (i : Nat) : cfg0.gc 46 i = none := rfl
theorem grow46 (i : Nat) : cfg0.grow 46 i = false := rfl
theorem gc47 (i : Nat) : cfg0.gc 47 i = none := rfl
theorem grow47 (i : Nat) : cfg0.grow 47 i = false := rfl
theorem gc48 (i : Nat) : cfg0.gc 48 i = none := rfl
theorem grow48 (i : Nat) : cfg0.grow 48 i = false := rfl
theorem gc49 (i : Nat) : cfg0.gc 49 i = none := rfl
theorem grow49 (i : Nat) : cfg0.grow 49 i = false := rfl
theorem gc50 (i : Nat) : cfg0.gc 50 i = none := rfl
theorem grow50 (i : Nat) : cfg0.grow 50 i = false := rfl
theorem gc51 (i : Nat) : cfg0.gc 51 i = none := rfl
theorem grow51 (i : Nat) : cfg0.grow 51 i = false := rfl
theorem gc52 (i : Nat) : cfg0.gc 52 i = none := rfl
theorem grow52 (i : Nat) : cfg0.grow 52 i = false := rfl
theorem gc53 (i : Nat) : cfg0.gc 53 i = none := rfl
theorem grow53 (i : Nat) : cfg0.grow 53 i = false := rfl
theorem gc54 (i : Nat) : cfg0.gc 54 i = none := rfl
theorem grow54 (i : Nat) : cfg0.grow 54 i = false := rfl
theorem gc55 (i : Nat) : cfg0.gc 55 i = none := rfl
theorem grow55_2 : cfg0.grow 55 2 = false := rfl
theorem grow55_4 : cfg0.grow 55 4 = false := rfl
theorem grow55_5 : cfg0.grow 55 5 = false := rfl
theorem grow55_6 : cfg0.grow 55 6 = false := rfl
theorem grow55_8 : cfg0.grow 55 8 = false := rfl
theorem gc58 (i : Nat) : cfg0.gc 58 i = none := rfl
theorem grow58 (i : Nat) : cfg0.grow 58 i = false := rfl
theorem gc59 (i : Nat) : cfg0.gc 59 i = none := rfl
theorem grow59 (i : Nat) : cfg0.grow 59 i = false := rfl
theorem gc60 (i : Nat) : cfg0.gc 60 i = none := rfl
theorem grow60 (i : Nat) : cfg0.grow 60 i = false := rfl
theorem gc61 (i : Nat) : cfg0.gc 61 i = none := rfl
theorem grow61 (i : Nat) : cfg0.grow 61 i = false := rfl
theorem gc62 (i : Nat) : cfg0.gc 62 i = none := rfl
theorem grow62 (i : Nat) : cfg0.grow 62 i = false := rfl
theorem gc63 (i : Nat) : cfg0.gc 63 i = none := rfl
theorem grow63 (i : Nat) : cfg0.grow 63 i = false := rfl
theorem gc64 (i : Nat) : cfg0.gc 64 i = none := rfl
theorem grow64 (i : Nat) : cfg0.grow 64 i = false := rfl
theorem gc65 (i : Nat) : cfg0.gc 65 i = none := rfl
theorem grow65 (i : Nat) : cfg0.grow 65 i = false := rfl
theorem gc66 (i : Nat) : cfg0.gc 66 i = none := rfl
theorem grow66 (i : Nat) : cfg0.grow 66 i = false := rfl
theorem gc67 (i : Nat) : cfg0.gc 67 i = none := rfl
theorem grow67 (i : Nat) : cfg0.grow 67 i = false := rfl
theorem gc68 (i : Nat) : cfg0.gc 68 i = none := rfl
theorem grow68 (i : Nat) : cfg0.grow 68 i = false := rfl
theorem gc69 (i : Nat) : cfg0.gc 69 i = none := rfl
theorem grow69 (i : Nat) : cfg0.grow 69 i = false := rfl
theorem gc71 (i : Nat) : cfg0.gc 71 i = none := rfl
theorem grow71 (i : Nat) : cfg0.grow 71 i = false := rfl
theorem gc72 (i : Nat) : cfg0.gc 72 i = none := rfl
theorem grow72 (i : Nat) : cfg0.grow 72 i = false := rfl
theorem gc73 (i : Nat) : cfg0.gc 73 i = none := rfl
theorem grow73 (i : Nat) : cfg0.grow 73 i = false := rfl
theorem gc74 (i : Nat) : cfg0.gc 74 i = none := rfl
theorem grow74 (i : Nat) : cfg0.grow 74 i = false := rfl
theorem gc75 (i : Nat) : cfg0.gc 75 i = none := rfl
theorem grow75 (i : Nat) : cfg0.grow 75 i = false := rfl
theorem gc76 (i : Nat) : cfg0.gc 76 i = none := rfl
theorem grow76 (i : Nat) : cfg0.grow 76 i = false := rfl
theorem gc77 (i : Nat) : cfg0.gc 77 i = none := rfl
theorem grow77 (i : Nat) : cfg0.grow 77 i = false := rfl
theorem gc78 (i : Nat) : cfg0.gc 78 i = none := rfl
theorem grow78 (i : Nat) : cfg0.grow 78 i = false := rfl
theorem gc79 (i : Nat) : cfg0.gc 79 i = none := rfl
theorem grow79 (i : Nat) : cfg0.grow 79 i = false := rfl
theorem gc80_0 : cfg0.gc 80 0 = none := rfl
theorem gc80_1 : cfg0.gc 80 1 = none := rfl
theorem gc80_2 : cfg0.gc 80 2 = some ([1, 2, 4, 10, 11, 12], 2) := rfl
theorem gc80_3 : cfg0.gc 80 3 = none := rfl
theorem gc80_4 : cfg0.gc 80 4 = none := rfl
theorem gc80_5 : cfg0.gc 80 5 = none := rfl
theorem gc80_6 : cfg0.gc 80 6 = none := rfl
theorem gc80_7 : cfg0.gc 80 7 = none := rfl
theorem gc80_8 : cfg0.gc 80 8 = none := rfl
theorem gc80_9 : cfg0.gc 80 9 = none := rfl
theorem nils80 (i : Nat) : cfg0.nils 80 i = none := rfl
theorem grow80_2 : cfg0.grow 80 2 = false := rfl
theorem grow80_4 : cfg0.grow 80 4 = true := rfl
theorem grow80_5 : cfg0.grow 80 5 = false := rfl
theorem grow80_6 : cfg0.grow 80 6 = false := rfl
theorem grow80_7 : cfg0.grow 80 7 = false := rfl
theorem gc83 (i : Nat) : cfg0.gc 83 i = none := rfl
theorem grow83 (i : Nat) : cfg0.grow 83 i = false := rfl
theorem gc84 (i : Nat) : cfg0.gc 84 i = none := rfl
theorem grow84 (i : Nat) : cfg0.grow 84 i = false := rfl
theorem gc86 (i : Nat) : cfg0.gc 86 i = none := rfl
theorem grow86 (i : Nat) : cfg0.grow 86 i = false := rfl
theorem gc87 (i : Nat) : cfg0.gc 87 i = none := rfl
theorem grow87 (i : Nat) : cfg0.grow 87 i = false := rfl
theorem gc88 (i : Nat) : cfg0.gc 88 i = none := rfl
theorem grow88_2 : cfg0.grow 88 2 = true := rfl
theorem grow88_4 : cfg0.grow 88 4 = false := rfl
theorem grow88_5 : cfg0.grow 88 5 = false := rfl
theorem gc100 (i : Nat) : cfg0.gc 100 i = none := rfl
theorem grow100 (i : Nat) : cfg0.grow 100 i = false := rfl
theorem gc107 (i : Nat) : cfg0.gc 107 i = none := rfl
theorem grow107 (i : Nat) : cfg0.grow 107 i = false := rfl
theorem gc108 (i : Nat) : cfg0.gc 108 i = none := rfl
theorem grow108 (i : Nat) : cfg0.grow 108 i = false := rfl
theorem gc110 (i : Nat) : cfg0.gc 110 i = none := rfl
theorem grow110 (i : Nat) : cfg0.grow 110 i = false := rfl
theorem gc111 (i : Nat) : cfg0.gc 111 i = none := rfl
theorem grow111 (i : Nat) : cfg0.grow 111 i = false := rfl
theorem gc127 (i : Nat) : cfg0.gc 127 i = none := rfl
theorem grow127 (i : Nat) : cfg0.grow 127 i = false := rfl
theorem gc128 (i : Nat) : cfg0.gc 128 i = none := rfl
theorem grow128 (i : Nat) : cfg0.grow 128 i = false := rfl
attribute [go_sem] ty1 ty2 ty3 ty4 ty5 ty6 ty8 ty12 ty15 ty16 ty17 ty19 ty20 ty22 ty23 ty24 ty27 ty29 ty30 ty32 ty38 ty43 ty48 ty51 ty53 ty54 ty57 ty61 ty63 ty64 ty65 ty69 ty71 ty73 ty78 ty79 ty81 ty82 ty83 ty86
attribute [go_sem] ty92 ty94 ty96 ty99 ty101 ty106 ty109 ty112 ty115 ty117 ty119 ty120 ty124 ty126 ty155 ifc20 ifc112 eqt2 eqt3 eqt4 eqt5 eqt6 eqt8 eqt12 eqt22 eqt24 eqt29 eqt38 eqt54 eqt57 eqt78 eqt79 eqt99 eqt106 eqt117 eqt119 eqt124 eqt126 eqt155 meth64
attribute [go_sem] meth55 meth52 meth46 meth51 meth80 meth62 meth40 meth47 meth87 meth48 meth127 meth128 fn0 fn10 fn11 fn12 fn13 fn14 fn15 fn16 fn17 fn18 fn19 fn20 fn21 fn22 fn26 fn27
attribute [go_sem] fn28 fn29 fn30 fn34 fn35 fn36 fn37 fn38 fn39 fn40 fn41 fn42 fn43 fn44 fn45 fn46 fn47 fn48 fn49 fn50 fn51 fn52 fn53 fn54 fn55 fn58 fn59 fn60 fn61 fn62 fn63 fn64 fn65 fn66 fn67 fn68 fn69
attribute [go_sem] fn71 fn72 fn73 fn74 fn75 fn76 fn77 fn78 fn79 fn80 fn83 fn84 fn86 fn87 fn88 fn100 fn107 fn108 fn110 fn111 fn127 fn128
attribute [go_sem] res0 res10 res11 res12 res13 res14 res15 res16 res17 res18 res19 res20 res21 res22 res26 res27 res28 res29 res30 res34 res35 res36 res37 res38 res39
attribute [go_sem] res40 res41 res42 res43 res44 res45 res46 res47 res48 res49 res50 res51 res52 res53 res54 res55 res58 res59 res60 res61 res62 res63 res64 res65 res66 res67 res68 res69 res71 res72 res73 res74 res75 res76 res77 res78 res79 res80 res83
attribute [go_sem] res84 res86 res87 res88 res100 res107 res108 res110 res111 res127 res128 plan10_5 plan10_8 plan10_9 plan10_15 plan10_23 plan10_51
attribute [go_sem] plan13_2 plan13_3 plan14_4 plan16_3 plan17_3 plan22_6 plan27_1 plan34_6 plan40_1 plan48_1 plan55_6 plan63_1 plan87_2 plan107_4 plan107_6 plan108_5 plan108_11 plan108_17 plan108_23 plan108_35 plan111_3 gc0 grow0



attribute [go_sem] gc10_0 gc10_1 gc10_2 gc10_3 gc10_4 gc10_5 gc10_6 gc10_7 gc10_8 gc10_9 gc10_10 gc10_11 gc10_12 gc10_13 gc10_14 gc10_15 gc10_16 gc10_17 gc10_18 gc10_19 gc10_20 gc10_21 gc10_22 gc10_23 gc10_24
attribute [go_sem] gc10_25 gc10_26 gc10_27 gc10_28 gc10_29 gc10_30 gc10_31 gc10_32 gc10_33 gc10_34 gc10_35 gc10_36 gc10_37 gc10_38 gc10_39 gc10_40 gc10_41 gc10_42 gc10_43 gc10_44 gc10_45 gc10_46 gc10_47 gc10_48 gc10_49 gc10_50 gc10_51 gc10_52 gc10_53 gc10_54 nils10_10 nils10_12 nils10_18 nils10_23 nils10_31 nils10_32 grow10 gc11 grow11 gc12
attribute [go_sem] grow12 gc13 grow13 gc14 grow14 gc15 grow15 gc16_0 gc16_1 gc16_2 gc16_3 gc16_4 gc16_5 gc16_6 gc16_7 gc16_8 nils16 grow16_2 grow16_3 grow16_4 grow16_5 grow16_6 grow16_7 gc17_0 gc17_1 gc17_2 gc17_3 gc17_4 gc17_5 gc17_6 gc17_7 nils17 grow17 gc18 grow18 gc19 grow19 gc20 grow20_1 grow20_2
attribute [go_sem] grow20_3 grow20_4 grow20_6 grow20_7 grow20_36 gc21 grow21 gc22 grow22 gc26_0 gc26_1 gc26_2 gc26_3 gc26_4
attribute [go_sem] gc26_5 gc26_6 gc26_7 gc26_8 gc26_9 gc26_10 gc26_11 gc26_12 gc26_13 gc26_14 gc26_15 gc26_16 nils26_5 nils26_9 nils26_12 grow26 gc27 grow27 gc28 grow28 gc29 grow29_1 grow29_2 grow29_3 grow29_4 grow29_5 grow29_6 gc30 grow30
attribute [go_sem] gc34 grow34 gc35 grow35 gc36 grow36 gc37_0 gc37_1 gc37_2 gc37_3 gc37_4 gc37_5 gc37_6 gc37_7 gc37_8 gc37_9 gc37_10 gc37_11 gc37_12 gc37_13 gc37_14 gc37_15 nils37 grow37 gc38 grow38 gc39 grow39 gc40 grow40 gc41 grow41
attribute [go_sem] gc42 grow42 gc43 grow43 gc44 grow44 gc45 grow45 gc46 grow46 gc47 grow47 gc48 grow48 gc49 grow49 gc50 grow50 gc51 grow51 gc52 grow52 gc53 grow53 gc54 grow54 gc55 grow55_2 grow55_4 grow55_5 grow55_6 grow55_8 gc58 grow58 gc59 grow59 gc60 grow60 gc61 grow61
attribute [go_sem] gc62 grow62 gc63 grow63 gc64 grow64 gc65 grow65 gc66 grow66 gc67 grow67 gc68 grow68 gc69 grow69 gc71 grow71 gc72 grow72 gc73 grow73 gc74 grow74 gc75 grow75 gc76 grow76 gc77 grow77 gc78 grow78 gc79 grow79 gc80_0 gc80_1 gc80_2 gc80_3
attribute [go_sem] gc80_4 gc80_5 gc80_6 gc80_7 gc80_8 gc80_9 nils80 grow80_2 grow80_4 grow80_5 grow80_6 grow80_7 gc83 grow83 gc84 grow84 gc86 grow86 gc87 grow87 gc88 grow88_2 grow88_4 grow88_5 gc100 grow100 gc107 grow107 gc108 grow108 gc110 grow110 gc111 grow111
attribute [go_sem] gc127 grow127 gc128 grow128 gcSt.eq_1 keepEnv.eq_1 keepEnv.eq_2 envLt.eq_1 envLt.eq_2 heapLt.eq_1 heapLt.eq_2 dfrLt.eq_1
attribute [go_sem] dfrLt.eq_2 ADefer.lt.eq_1 ADefer.lt.eq_2 eqOk.eq_1 bne_self_eq_false beq_self_eq_true Nat.le_add_right List.getD_cons_zero List.getD_cons_succ
end Go.Ab
