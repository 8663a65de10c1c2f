/-
  The evaluator's tables for this program: which reads have no order beside an effect in a region that draws; the types; the types that are compared cell by cell; methods; what a loop drops. And each row as an equation.
-/
import Derived.Test.YtcalhkhkiahecaaGreatS2
import Derived.Test.YtcalhkhkiahecaaGreatProg
import Derived.KernelRfl
namespace Go.Ab
set_option linter.unusedSimpArgs false
set_option linter.unusedVariables false
set_option maxRecDepth 100000

def planL : List (Nat × List (Nat × List (Nat × Nat))) := [
  (7, [(2, [(3, 2), (5, 2), (5, 4), (4, 1002), (6, 1002), (8, 1002), (6, 1004), (8, 1004), (8, 1006)]),
    (3, [])]),
  (8, [(1, [(0, 2), (0, 6), (3, 1002), (4, 1002), (5, 1002), (6, 1002), (7, 1002), (8, 1002), (9, 1002), (7, 1006), (8, 1006), (9, 1006), (9, 1008)]),
    (4, [(1, 10), (2, 10), (4, 10), (5, 10), (11, 1010), (12, 1010), (13, 1010)])]),
  (10, [(7, []),
    (9, [])]),
  (11, [(4, [(0, 2), (3, 1002)])]),
  (13, [(6, [])]),
  (15, [(1, [(0, 2), (3, 1002), (4, 1002), (5, 1002), (6, 1002), (7, 1002), (8, 1002), (4, 1003), (5, 1003), (6, 1003), (7, 1003), (8, 1003)])]),
  (16, [(3, [(3, 2), (4, 1002), (5, 1002), (5, 1004)])]),
  (17, [(1, [(0, 3), (4, 1003), (5, 1003), (6, 1003), (7, 1003), (8, 1003), (9, 1003), (5, 1004), (6, 1004), (7, 1004), (8, 1004), (9, 1004)]),
    (8, [])]),
  (18, [(3, [(3, 2), (4, 1002), (5, 1002), (5, 1004)])]),
  (19, [(1, [(0, 3), (4, 1003), (5, 1003), (6, 1003), (7, 1003), (8, 1003), (9, 1003), (5, 1004), (6, 1004), (7, 1004), (8, 1004), (9, 1004)]),
    (8, [(7, 1006)])]),
  (22, [(6, [])]),
  (24, [(8, [(4, 3), (7, 1003), (8, 1003), (8, 1007)])]),
  (26, [(8, [(6, 8), (3, 1001), (4, 1001), (5, 1001), (6, 1001), (7, 1001), (8, 1001), (9, 1001), (10, 1001), (11, 1001), (12, 1001), (13, 1001), (14, 1001), (4, 1003), (5, 1003), (6, 1003), (7, 1003), (8, 1003), (9, 1003), (10, 1003), (11, 1003), (12, 1003), (13, 1003), (14, 1003), (10, 1008), (11, 1008), (12, 1008), (13, 1008), (14, 1008), (12, 1011), (13, 1011), (14, 1011)])]),
  (39, [(1, [])]),
  (43, [(1, [])]),
  (46, [(1, [(0, 2), (3, 1002), (4, 1002), (5, 1002), (4, 1003), (5, 1003), (5, 1004)])]),
  (51, [(1, [(0, 2), (3, 1002), (4, 1002), (4, 1003)])]),
  (59, [(6, [(4, 6), (4, 1003), (5, 1003), (6, 1003), (7, 1003), (8, 1003)])]),
  (70, [(6, [(7, 1006)])]),
  (74, [(1, [(0, 2), (4, 1002), (5, 1002), (6, 1002), (6, 1005)])]),
  (79, [(9, [(3, 1002), (4, 1002), (5, 1002), (6, 1002), (7, 1002), (8, 1002), (9, 1002), (10, 1002), (11, 1002), (12, 1002), (13, 1002), (12, 1011), (13, 1011)])]),
  (91, [(2, [])]),
  (94, [(1, [])]),
  (116, [(4, [(15, 1014), (16, 1014)]),
    (6, [])]),
  (117, [(5, [(10, 1009)]),
    (11, []),
    (17, [(10, 1009), (11, 1009)]),
    (23, []),
    (35, [(12, 1011), (13, 1011)])]),
  (120, [(3, [])])]
def tyL : List (Nat × Ty) := [
  (1, ⟨.other, 1, 8, some (.nilFunc)⟩),
  (2, ⟨.int .i64, 1, 8, some (.int .i64 0)⟩),
  (3, ⟨.int .i64, 1, 8, some (.int .i64 0)⟩),
  (4, ⟨.bool, 1, 1, some (.bool false)⟩),
  (5, ⟨.int .u8, 1, 1, some (.int .u8 0)⟩),
  (6, ⟨.int .u8, 1, 1, some (.int .u8 0)⟩),
  (8, ⟨.struct [(0, 2), (1, 3), (2, 4), (3, 6)], 4, 24, some (.agg #[.int .i64 0, .int .i64 0, .bool false, .int .u8 0])⟩),
  (12, ⟨.int .u64, 1, 8, some (.int .u64 0)⟩),
  (15, ⟨.other, 1, 8, some (.pointer none)⟩),
  (16, ⟨.other, 1, 8, some (.pointer none)⟩),
  (17, ⟨.other, 1, 8, some (.pointer none)⟩),
  (19, ⟨.struct [(0, 17)], 1, 8, some (.agg #[.pointer none])⟩),
  (20, ⟨.iface, 1, 16, some (.nilIface)⟩),
  (22, ⟨.slice 3, 1, 24, some (.slice none 0 0)⟩),
  (24, ⟨.struct [(0, 3), (1, 3)], 2, 16, some (.agg #[.int .i64 0, .int .i64 0])⟩),
  (25, ⟨.slice 47, 1, 24, some (.slice none 0 0)⟩),
  (27, ⟨.struct [(0, 22), (1, 24), (3, 25)], 4, 64, some (.agg #[.slice none 0 0, .int .i64 0, .int .i64 0, .slice none 0 0])⟩),
  (30, ⟨.int .i64, 1, 8, some (.int .i64 0)⟩),
  (33, ⟨.slice 24, 1, 24, some (.slice none 0 0)⟩),
  (47, ⟨.struct [(0, 3), (1, 24)], 3, 24, some (.agg #[.int .i64 0, .int .i64 0, .int .i64 0])⟩),
  (51, ⟨.other, 1, 8, some (.pointer none)⟩),
  (53, ⟨.struct [(0, 3), (1, 3)], 2, 16, some (.agg #[.int .i64 0, .int .i64 0])⟩),
  (54, ⟨.int .i64, 1, 8, some (.int .i64 0)⟩),
  (56, ⟨.struct [(0, 27)], 4, 64, some (.agg #[.slice none 0 0, .int .i64 0, .int .i64 0, .slice none 0 0])⟩),
  (58, ⟨.other, 1, 8, some (.nilFunc)⟩),
  (59, ⟨.other, 1, 8, some (.nilFunc)⟩),
  (61, ⟨.other, 1, 8, some (.nilFunc)⟩),
  (67, ⟨.other, 1, 8, some (.nilFunc)⟩),
  (68, ⟨.other, 1, 8, some (.nilFunc)⟩),
  (70, ⟨.int .u64, 1, 8, some (.int .u64 0)⟩),
  (74, ⟨.other, 1, 8, some (.nilFunc)⟩),
  (75, ⟨.map 53 3, 1, 8, some (.map none)⟩),
  (81, ⟨.slice 54, 1, 24, some (.slice none 0 0)⟩),
  (83, ⟨.array 20 3, 20, 160, some (.agg #[.int .i64 0, .int .i64 0, .int .i64 0, .int .i64 0, .int .i64 0, .int .i64 0, .int .i64 0, .int .i64 0, .int .i64 0, .int .i64 0, .int .i64 0, .int .i64 0, .int .i64 0, .int .i64 0, .int .i64 0, .int .i64 0, .int .i64 0, .int .i64 0, .int .i64 0, .int .i64 0])⟩),
  (88, ⟨.slice 70, 1, 24, some (.slice none 0 0)⟩),
  (90, ⟨.other, 1, 8, some (.nilFunc)⟩),
  (92, ⟨.struct [(0, 90)], 1, 8, some (.agg #[.nilFunc])⟩),
  (98, ⟨.struct [(0, 30)], 1, 8, some (.agg #[.int .i64 0])⟩),
  (102, ⟨.slice 105, 1, 24, some (.slice none 0 0)⟩),
  (105, ⟨.iface, 1, 16, some (.nilIface)⟩),
  (107, ⟨.other, 1, 8, some (.nilFunc)⟩),
  (110, ⟨.other, 1, 8, some (.nilFunc)⟩),
  (112, ⟨.int .u32, 1, 4, some (.int .u32 0)⟩),
  (114, ⟨.int .u64, 1, 8, some (.int .u64 0)⟩),
  (118, ⟨.struct [(0, 54)], 1, 8, some (.agg #[.int .i64 0])⟩),
  (120, ⟨.struct [(0, 118), (1, 24)], 3, 24, some (.agg #[.int .i64 0, .int .i64 0, .int .i64 0])⟩),
  (149, ⟨.int .u8, 1, 1, some (.int .u8 0)⟩)]
def eqL : List (Nat × (Bool × List (Option IntKind))) := [
  (2, (false, [some .i64])),
  (3, (false, [some .i64])),
  (4, (false, [none])),
  (5, (false, [some .u8])),
  (6, (false, [some .u8])),
  (8, (true, [some .i64, some .i64, none, some .u8])),
  (12, (false, [some .u64])),
  (24, (true, [some .i64, some .i64])),
  (30, (false, [some .i64])),
  (47, (true, [some .i64, some .i64, some .i64])),
  (53, (true, [some .i64, some .i64])),
  (54, (false, [some .i64])),
  (70, (false, [some .u64])),
  (83, (true, [some .i64, some .i64, some .i64, some .i64, some .i64, some .i64, some .i64, some .i64, some .i64, some .i64, some .i64, some .i64, some .i64, some .i64, some .i64, some .i64, some .i64, some .i64, some .i64, some .i64])),
  (98, (true, [some .i64])),
  (112, (false, [some .u32])),
  (114, (false, [some .u64])),
  (118, (true, [some .i64])),
  (120, (true, [some .i64, some .i64, some .i64])),
  (149, (false, [some .u8]))]
def methL : List (Nat × List (String × FuncId)) := [
  (8, [("Error", 121), ("RuntimeError", 122)]),
  (10, [("Error", 123), ("RuntimeError", 124)]),
  (11, [("Error", 125), ("RuntimeError", 126)]),
  (14, [("Error", 127), ("RuntimeError", 128)]),
  (19, [("Error", 134), ("RuntimeError", 135)]),
  (54, [("blockworks/fringe.divisor", 91), ("blockworks/fringe.of", 39)]),
  (56, [("blockworks/fringe.can", 75), ("blockworks/fringe.counts", 59), ("blockworks/fringe.every", 50), ("blockworks/fringe.isColour", 37), ("blockworks/fringe.lengths", 49), ("blockworks/fringe.readings", 88), ("blockworks/fringe.sets", 73), ("blockworks/fringe.told", 46), ("blockworks/fringe.wave", 38)]),
  (118, [("blockworks/fringe.right", 136)]),
  (120, [("blockworks/fringe.right", 137)]),
  (149, [("String", 138)])]
noncomputable def fnL : List (Nat × Func) := [
  (0, Go.Proofs.Tryz.f0),
  (1, Go.Proofs.Tryz.f1),
  (2, Go.Proofs.Tryz.f2),
  (3, Go.Proofs.Tryz.f3),
  (4, Go.Proofs.Tryz.f4),
  (5, Go.Proofs.Tryz.f5),
  (6, Go.Proofs.Tryz.f6),
  (7, Go.Proofs.Tryz.f7),
  (8, Go.Proofs.Tryz.f8),
  (9, Go.Proofs.Tryz.f9),
  (10, Go.Proofs.Tryz.f10),
  (11, Go.Proofs.Tryz.f11),
  (12, Go.Proofs.Tryz.f12),
  (13, Go.Proofs.Tryz.f13),
  (14, Go.Proofs.Tryz.f14),
  (15, Go.Proofs.Tryz.f15),
  (16, Go.Proofs.Tryz.f16),
  (17, Go.Proofs.Tryz.f17),
  (18, Go.Proofs.Tryz.f18),
  (19, Go.Proofs.Tryz.f19),
  (20, Go.Proofs.Tryz.f20),
  (21, Go.Proofs.Tryz.f21),
  (22, Go.Proofs.Tryz.f22),
  (23, Go.Proofs.Tryz.f23),
  (24, Go.Proofs.Tryz.f24),
  (25, Go.Proofs.Tryz.f25),
  (26, Go.Proofs.Tryz.f26),
  (27, Go.Proofs.Tryz.f27),
  (28, Go.Proofs.Tryz.f28),
  (29, Go.Proofs.Tryz.f29),
  (30, Go.Proofs.Tryz.f30),
  (31, Go.Proofs.Tryz.f31),
  (32, Go.Proofs.Tryz.f32),
  (33, Go.Proofs.Tryz.f33),
  (34, Go.Proofs.Tryz.f34),
  (35, Go.Proofs.Tryz.f35),
  (36, Go.Proofs.Tryz.f36),
  (37, Go.Proofs.Tryz.f37),
  (38, Go.Proofs.Tryz.f38),
  (39, Go.Proofs.Tryz.f39),
  (40, Go.Proofs.Tryz.f40),
  (41, Go.Proofs.Tryz.f41),
  (42, Go.Proofs.Tryz.f42),
  (43, Go.Proofs.Tryz.f43),
  (44, Go.Proofs.Tryz.f44),
  (45, Go.Proofs.Tryz.f45),
  (46, Go.Proofs.Tryz.f46),
  (47, Go.Proofs.Tryz.f47),
  (48, Go.Proofs.Tryz.f48),
  (49, Go.Proofs.Tryz.f49),
  (50, Go.Proofs.Tryz.f50),
  (51, Go.Proofs.Tryz.f51),
  (52, Go.Proofs.Tryz.f52),
  (53, Go.Proofs.Tryz.f53),
  (54, Go.Proofs.Tryz.f54),
  (55, Go.Proofs.Tryz.f55),
  (56, Go.Proofs.Tryz.f56),
  (57, Go.Proofs.Tryz.f57),
  (58, Go.Proofs.Tryz.f58),
  (59, Go.Proofs.Tryz.f59),
  (62, Go.Proofs.Tryz.f62),
  (63, Go.Proofs.Tryz.f63),
  (64, Go.Proofs.Tryz.f64),
  (65, Go.Proofs.Tryz.f65),
  (66, Go.Proofs.Tryz.f66),
  (67, Go.Proofs.Tryz.f67),
  (68, Go.Proofs.Tryz.f68),
  (69, Go.Proofs.Tryz.f69),
  (70, Go.Proofs.Tryz.f70),
  (71, Go.Proofs.Tryz.f71),
  (72, Go.Proofs.Tryz.f72),
  (73, Go.Proofs.Tryz.f73),
  (74, Go.Proofs.Tryz.f74),
  (75, Go.Proofs.Tryz.f75),
  (76, Go.Proofs.Tryz.f76),
  (77, Go.Proofs.Tryz.f77),
  (78, Go.Proofs.Tryz.f78),
  (79, Go.Proofs.Tryz.f79),
  (80, Go.Proofs.Tryz.f80),
  (81, Go.Proofs.Tryz.f81),
  (82, Go.Proofs.Tryz.f82),
  (83, Go.Proofs.Tryz.f83),
  (84, Go.Proofs.Tryz.f84),
  (85, Go.Proofs.Tryz.f85),
  (86, Go.Proofs.Tryz.f86),
  (87, Go.Proofs.Tryz.f87),
  (88, Go.Proofs.Tryz.f88),
  (91, Go.Proofs.Tryz.f91),
  (92, Go.Proofs.Tryz.f92),
  (93, Go.Proofs.Tryz.f93),
  (94, Go.Proofs.Tryz.f94),
  (95, Go.Proofs.Tryz.f95),
  (96, Go.Proofs.Tryz.f96),
  (97, Go.Proofs.Tryz.f97),
  (109, Go.Proofs.Tryz.f109),
  (116, Go.Proofs.Tryz.f116),
  (117, Go.Proofs.Tryz.f117),
  (119, Go.Proofs.Tryz.f119),
  (120, Go.Proofs.Tryz.f120),
  (121, Go.Proofs.Tryz.f121),
  (122, Go.Proofs.Tryz.f122),
  (123, Go.Proofs.Tryz.f123),
  (124, Go.Proofs.Tryz.f124),
  (125, Go.Proofs.Tryz.f125),
  (126, Go.Proofs.Tryz.f126),
  (127, Go.Proofs.Tryz.f127),
  (128, Go.Proofs.Tryz.f128),
  (129, Go.Proofs.Tryz.f129),
  (130, Go.Proofs.Tryz.f130),
  (131, Go.Proofs.Tryz.f131),
  (132, Go.Proofs.Tryz.f132),
  (133, Go.Proofs.Tryz.f133),
  (134, Go.Proofs.Tryz.f134),
  (135, Go.Proofs.Tryz.f135),
  (136, Go.Proofs.Tryz.f136),
  (137, Go.Proofs.Tryz.f137),
  (138, Go.Proofs.Tryz.f138)]
def gcL : List (Nat × List (Nat × (List Nat × Nat))) := [
  (16, [(4, ([5, 6, 14], 7)), (7, ([5, 6], 4))]),
  (18, [(4, ([5, 6, 14], 6)), (7, ([5, 6], 3))]),
  (23, [(5, ([2, 3, 4, 5, 6, 7, 19, 20], 3)), (9, ([2, 3, 4, 5, 6, 7, 8, 9, 19, 20, 26], 7)), (12, ([2, 3, 4, 5, 6, 7, 8, 9, 19, 20], 3))]),
  (34, [(10, ([1, 4, 5, 65, 66, 67], 3))]),
  (88, [(2, ([1, 2, 4, 10, 11, 12], 2))])]
def nilsL : List (Nat × List (Nat × List NT)) := [
  (23, [(12, [])])]
def growL : List (Nat × List Nat) := [
  (9, [4]),
  (10, [6]),
  (16, [6]),
  (17, [8]),
  (20, [5]),
  (59, [999999]),
  (79, [5]),
  (88, [4]),
  (97, [2])]
def at2 {α : Type} (l : List (Nat × List (Nat × α))) (f id : Nat) : Option α :=
  match getAt l f with
  | some r => getAt r id
  | none => none
def methT (t : TypeId) (n : String) : Option FuncId :=
  match getAt methL t with
  | some r => (r.find? fun x => x.1 == n).map (·.2)
  | none => none
def growT (f x : Nat) : Bool :=
  match getAt growL f with
  | some r => r.contains x
  | none => false
noncomputable def cfg0 : Cfg := ⟨at2 gcL, at2 nilsL, growT, at2 planL, getAt globL, getAt tyL, getAt eqL, methT, getAt fnL, (fun g => g == 60), (fun g => g == 61)⟩
noncomputable abbrev prog0 : Program := Go.Proofs.Tryz.prog

theorem globO (C : Cfg) (e : Env) (g : Nat) : opd C e (.global g) = match C.glob g with
    | some v => .vptr v 0
    | none => .undef := rfl
theorem ty1 : cfg0.ty 1 = some ⟨.other, 1, 8, some (.nilFunc)⟩ := rfl
theorem ty2 : cfg0.ty 2 = some ⟨.int .i64, 1, 8, some (.int .i64 0)⟩ := rfl
theorem ty3 : cfg0.ty 3 = some ⟨.int .i64, 1, 8, some (.int .i64 0)⟩ := rfl
theorem ty4 : cfg0.ty 4 = some ⟨.bool, 1, 1, some (.bool false)⟩ := rfl
theorem ty5 : cfg0.ty 5 = some ⟨.int .u8, 1, 1, some (.int .u8 0)⟩ := rfl
theorem ty6 : cfg0.ty 6 = some ⟨.int .u8, 1, 1, some (.int .u8 0)⟩ := rfl
theorem ty8 : cfg0.ty 8 = some ⟨.struct [(0, 2), (1, 3), (2, 4), (3, 6)], 4, 24, some (.agg #[.int .i64 0, .int .i64 0, .bool false, .int .u8 0])⟩ := rfl
theorem ty12 : cfg0.ty 12 = some ⟨.int .u64, 1, 8, some (.int .u64 0)⟩ := rfl
theorem ty15 : cfg0.ty 15 = some ⟨.other, 1, 8, some (.pointer none)⟩ := rfl
theorem ty16 : cfg0.ty 16 = some ⟨.other, 1, 8, some (.pointer none)⟩ := rfl
theorem ty17 : cfg0.ty 17 = some ⟨.other, 1, 8, some (.pointer none)⟩ := rfl
theorem ty19 : cfg0.ty 19 = some ⟨.struct [(0, 17)], 1, 8, some (.agg #[.pointer none])⟩ := rfl
theorem ty20 : cfg0.ty 20 = some ⟨.iface, 1, 16, some (.nilIface)⟩ := rfl
theorem ty22 : cfg0.ty 22 = some ⟨.slice 3, 1, 24, some (.slice none 0 0)⟩ := rfl
theorem ty24 : cfg0.ty 24 = some ⟨.struct [(0, 3), (1, 3)], 2, 16, some (.agg #[.int .i64 0, .int .i64 0])⟩ := rfl
theorem ty25 : cfg0.ty 25 = some ⟨.slice 47, 1, 24, some (.slice none 0 0)⟩ := rfl
theorem ty27 : cfg0.ty 27 = some ⟨.struct [(0, 22), (1, 24), (3, 25)], 4, 64, some (.agg #[.slice none 0 0, .int .i64 0, .int .i64 0, .slice none 0 0])⟩ := rfl
theorem ty30 : cfg0.ty 30 = some ⟨.int .i64, 1, 8, some (.int .i64 0)⟩ := rfl
theorem ty33 : cfg0.ty 33 = some ⟨.slice 24, 1, 24, some (.slice none 0 0)⟩ := rfl
theorem ty47 : cfg0.ty 47 = some ⟨.struct [(0, 3), (1, 24)], 3, 24, some (.agg #[.int .i64 0, .int .i64 0, .int .i64 0])⟩ := rfl
theorem ty51 : cfg0.ty 51 = some ⟨.other, 1, 8, some (.pointer none)⟩ := rfl
theorem ty53 : cfg0.ty 53 = some ⟨.struct [(0, 3), (1, 3)], 2, 16, some (.agg #[.int .i64 0, .int .i64 0])⟩ := rfl
theorem ty54 : cfg0.ty 54 = some ⟨.int .i64, 1, 8, some (.int .i64 0)⟩ := rfl
theorem ty56 : cfg0.ty 56 = some ⟨.struct [(0, 27)], 4, 64, some (.agg #[.slice none 0 0, .int .i64 0, .int .i64 0, .slice none 0 0])⟩ := rfl
theorem ty58 : cfg0.ty 58 = some ⟨.other, 1, 8, some (.nilFunc)⟩ := rfl
theorem ty59 : cfg0.ty 59 = some ⟨.other, 1, 8, some (.nilFunc)⟩ := rfl
theorem ty61 : cfg0.ty 61 = some ⟨.other, 1, 8, some (.nilFunc)⟩ := rfl
theorem ty67 : cfg0.ty 67 = some ⟨.other, 1, 8, some (.nilFunc)⟩ := rfl
theorem ty68 : cfg0.ty 68 = some ⟨.other, 1, 8, some (.nilFunc)⟩ := rfl
theorem ty70 : cfg0.ty 70 = some ⟨.int .u64, 1, 8, some (.int .u64 0)⟩ := rfl
theorem ty74 : cfg0.ty 74 = some ⟨.other, 1, 8, some (.nilFunc)⟩ := rfl
theorem ty75 : cfg0.ty 75 = some ⟨.map 53 3, 1, 8, some (.map none)⟩ := rfl
theorem ty81 : cfg0.ty 81 = some ⟨.slice 54, 1, 24, some (.slice none 0 0)⟩ := rfl
theorem ty83 : cfg0.ty 83 = some ⟨.array 20 3, 20, 160, some (.agg #[.int .i64 0, .int .i64 0, .int .i64 0, .int .i64 0, .int .i64 0, .int .i64 0, .int .i64 0, .int .i64 0, .int .i64 0, .int .i64 0, .int .i64 0, .int .i64 0, .int .i64 0, .int .i64 0, .int .i64 0, .int .i64 0, .int .i64 0, .int .i64 0, .int .i64 0, .int .i64 0])⟩ := rfl
theorem ty88 : cfg0.ty 88 = some ⟨.slice 70, 1, 24, some (.slice none 0 0)⟩ := rfl
theorem ty90 : cfg0.ty 90 = some ⟨.other, 1, 8, some (.nilFunc)⟩ := rfl
theorem ty92 : cfg0.ty 92 = some ⟨.struct [(0, 90)], 1, 8, some (.agg #[.nilFunc])⟩ := rfl
theorem ty98 : cfg0.ty 98 = some ⟨.struct [(0, 30)], 1, 8, some (.agg #[.int .i64 0])⟩ := rfl
theorem ty102 : cfg0.ty 102 = some ⟨.slice 105, 1, 24, some (.slice none 0 0)⟩ := rfl
theorem ty105 : cfg0.ty 105 = some ⟨.iface, 1, 16, some (.nilIface)⟩ := rfl
theorem ty107 : cfg0.ty 107 = some ⟨.other, 1, 8, some (.nilFunc)⟩ := rfl
theorem ty110 : cfg0.ty 110 = some ⟨.other, 1, 8, some (.nilFunc)⟩ := rfl
theorem ty112 : cfg0.ty 112 = some ⟨.int .u32, 1, 4, some (.int .u32 0)⟩ := rfl
theorem ty114 : cfg0.ty 114 = some ⟨.int .u64, 1, 8, some (.int .u64 0)⟩ := rfl
theorem ty118 : cfg0.ty 118 = some ⟨.struct [(0, 54)], 1, 8, some (.agg #[.int .i64 0])⟩ := rfl
theorem ty120 : cfg0.ty 120 = some ⟨.struct [(0, 118), (1, 24)], 3, 24, some (.agg #[.int .i64 0, .int .i64 0, .int .i64 0])⟩ := rfl
theorem ty149 : cfg0.ty 149 = some ⟨.int .u8, 1, 1, some (.int .u8 0)⟩ := rfl
theorem ifc20 : isIfc prog0 20 = true := by kernel_rfl
theorem ifc105 : isIfc prog0 105 = true := by kernel_rfl
theorem eqt2 : cfg0.eqt 2 = some (false, [some .i64]) := rfl
theorem eqt3 : cfg0.eqt 3 = some (false, [some .i64]) := rfl
theorem eqt4 : cfg0.eqt 4 = some (false, [none]) := rfl
theorem eqt5 : cfg0.eqt 5 = some (false, [some .u8]) := rfl
theorem eqt6 : cfg0.eqt 6 = some (false, [some .u8]) := rfl
theorem eqt8 : cfg0.eqt 8 = some (true, [some .i64, some .i64, none, some .u8]) := rfl
theorem eqt12 : cfg0.eqt 12 = some (false, [some .u64]) := rfl
theorem eqt24 : cfg0.eqt 24 = some (true, [some .i64, some .i64]) := rfl
theorem eqt30 : cfg0.eqt 30 = some (false, [some .i64]) := rfl
theorem eqt47 : cfg0.eqt 47 = some (true, [some .i64, some .i64, some .i64]) := rfl
theorem eqt53 : cfg0.eqt 53 = some (true, [some .i64, some .i64]) := rfl
theorem eqt54 : cfg0.eqt 54 = some (false, [some .i64]) := rfl
theorem eqt70 : cfg0.eqt 70 = some (false, [some .u64]) := rfl
theorem eqt83 : cfg0.eqt 83 = some (true, [some .i64, some .i64, some .i64, some .i64, some .i64, some .i64, some .i64, some .i64, some .i64, some .i64, some .i64, some .i64, some .i64, some .i64, some .i64, some .i64, some .i64, some .i64, some .i64, some .i64]) := rfl
theorem eqt98 : cfg0.eqt 98 = some (true, [some .i64]) := rfl
theorem eqt112 : cfg0.eqt 112 = some (false, [some .u32]) := rfl
theorem eqt114 : cfg0.eqt 114 = some (false, [some .u64]) := rfl
theorem eqt118 : cfg0.eqt 118 = some (true, [some .i64]) := rfl
theorem eqt120 : cfg0.eqt 120 = some (true, [some .i64, some .i64, some .i64]) := rfl
theorem eqt149 : cfg0.eqt 149 = some (false, [some .u8]) := rfl
theorem meth91 : cfg0.meth 54 "blockworks/fringe.divisor" = some 91 := rfl
theorem meth39 : cfg0.meth 54 "blockworks/fringe.of" = some 39 := rfl
theorem meth75 : cfg0.meth 56 "blockworks/fringe.can" = some 75 := rfl
theorem meth59 : cfg0.meth 56 "blockworks/fringe.counts" = some 59 := rfl
theorem meth50 : cfg0.meth 56 "blockworks/fringe.every" = some 50 := rfl
theorem meth37 : cfg0.meth 56 "blockworks/fringe.isColour" = some 37 := rfl
theorem meth49 : cfg0.meth 56 "blockworks/fringe.lengths" = some 49 := rfl
theorem meth88 : cfg0.meth 56 "blockworks/fringe.readings" = some 88 := rfl
theorem meth73 : cfg0.meth 56 "blockworks/fringe.sets" = some 73 := rfl
theorem meth46 : cfg0.meth 56 "blockworks/fringe.told" = some 46 := rfl
theorem meth38 : cfg0.meth 56 "blockworks/fringe.wave" = some 38 := rfl
theorem meth136 : cfg0.meth 118 "blockworks/fringe.right" = some 136 := rfl
theorem meth137 : cfg0.meth 120 "blockworks/fringe.right" = some 137 := rfl
theorem fn60 : cfg0.fns 60 = none := rfl
theorem fn61 : cfg0.fns 61 = none := rfl
theorem fn0 : cfg0.fns 0 = some Go.Proofs.Tryz.f0 := rfl
theorem fn3 : cfg0.fns 3 = some Go.Proofs.Tryz.f3 := rfl
theorem fn5 : cfg0.fns 5 = some Go.Proofs.Tryz.f5 := rfl
theorem fn6 : cfg0.fns 6 = some Go.Proofs.Tryz.f6 := rfl
theorem fn7 : cfg0.fns 7 = some Go.Proofs.Tryz.f7 := rfl
theorem fn8 : cfg0.fns 8 = some Go.Proofs.Tryz.f8 := rfl
theorem fn9 : cfg0.fns 9 = some Go.Proofs.Tryz.f9 := rfl
theorem fn10 : cfg0.fns 10 = some Go.Proofs.Tryz.f10 := rfl
theorem fn11 : cfg0.fns 11 = some Go.Proofs.Tryz.f11 := rfl
theorem fn12 : cfg0.fns 12 = some Go.Proofs.Tryz.f12 := rfl
theorem fn13 : cfg0.fns 13 = some Go.Proofs.Tryz.f13 := rfl
theorem fn14 : cfg0.fns 14 = some Go.Proofs.Tryz.f14 := rfl
theorem fn15 : cfg0.fns 15 = some Go.Proofs.Tryz.f15 := rfl
theorem fn16 : cfg0.fns 16 = some Go.Proofs.Tryz.f16 := rfl
theorem fn17 : cfg0.fns 17 = some Go.Proofs.Tryz.f17 := rfl
theorem fn18 : cfg0.fns 18 = some Go.Proofs.Tryz.f18 := rfl
theorem fn19 : cfg0.fns 19 = some Go.Proofs.Tryz.f19 := rfl
theorem fn20 : cfg0.fns 20 = some Go.Proofs.Tryz.f20 := rfl
theorem fn21 : cfg0.fns 21 = some Go.Proofs.Tryz.f21 := rfl
theorem fn22 : cfg0.fns 22 = some Go.Proofs.Tryz.f22 := rfl
theorem fn23 : cfg0.fns 23 = some Go.Proofs.Tryz.f23 := rfl
theorem fn25 : cfg0.fns 25 = some Go.Proofs.Tryz.f25 := rfl
theorem fn27 : cfg0.fns 27 = some Go.Proofs.Tryz.f27 := rfl
theorem fn29 : cfg0.fns 29 = some Go.Proofs.Tryz.f29 := rfl
theorem fn30 : cfg0.fns 30 = some Go.Proofs.Tryz.f30 := rfl
theorem fn31 : cfg0.fns 31 = some Go.Proofs.Tryz.f31 := rfl
theorem fn32 : cfg0.fns 32 = some Go.Proofs.Tryz.f32 := rfl
theorem fn33 : cfg0.fns 33 = some Go.Proofs.Tryz.f33 := rfl
theorem fn34 : cfg0.fns 34 = some Go.Proofs.Tryz.f34 := rfl
theorem fn35 : cfg0.fns 35 = some Go.Proofs.Tryz.f35 := rfl
theorem fn36 : cfg0.fns 36 = some Go.Proofs.Tryz.f36 := rfl
theorem fn37 : cfg0.fns 37 = some Go.Proofs.Tryz.f37 := rfl
theorem fn38 : cfg0.fns 38 = some Go.Proofs.Tryz.f38 := rfl
theorem fn39 : cfg0.fns 39 = some Go.Proofs.Tryz.f39 := rfl
theorem fn40 : cfg0.fns 40 = some Go.Proofs.Tryz.f40 := rfl
theorem fn41 : cfg0.fns 41 = some Go.Proofs.Tryz.f41 := rfl
theorem fn42 : cfg0.fns 42 = some Go.Proofs.Tryz.f42 := rfl
theorem fn43 : cfg0.fns 43 = some Go.Proofs.Tryz.f43 := rfl
theorem fn44 : cfg0.fns 44 = some Go.Proofs.Tryz.f44 := rfl
theorem fn45 : cfg0.fns 45 = some Go.Proofs.Tryz.f45 := rfl
theorem fn46 : cfg0.fns 46 = some Go.Proofs.Tryz.f46 := rfl
theorem fn47 : cfg0.fns 47 = some Go.Proofs.Tryz.f47 := rfl
theorem fn48 : cfg0.fns 48 = some Go.Proofs.Tryz.f48 := rfl
theorem fn49 : cfg0.fns 49 = some Go.Proofs.Tryz.f49 := rfl
theorem fn50 : cfg0.fns 50 = some Go.Proofs.Tryz.f50 := rfl
theorem fn51 : cfg0.fns 51 = some Go.Proofs.Tryz.f51 := rfl
theorem fn52 : cfg0.fns 52 = some Go.Proofs.Tryz.f52 := rfl
theorem fn53 : cfg0.fns 53 = some Go.Proofs.Tryz.f53 := rfl
theorem fn54 : cfg0.fns 54 = some Go.Proofs.Tryz.f54 := rfl
theorem fn55 : cfg0.fns 55 = some Go.Proofs.Tryz.f55 := rfl
theorem fn56 : cfg0.fns 56 = some Go.Proofs.Tryz.f56 := rfl
theorem fn57 : cfg0.fns 57 = some Go.Proofs.Tryz.f57 := rfl
theorem fn58 : cfg0.fns 58 = some Go.Proofs.Tryz.f58 := rfl
theorem fn59 : cfg0.fns 59 = some Go.Proofs.Tryz.f59 := rfl
theorem fn62 : cfg0.fns 62 = some Go.Proofs.Tryz.f62 := rfl
theorem fn63 : cfg0.fns 63 = some Go.Proofs.Tryz.f63 := rfl
theorem fn64 : cfg0.fns 64 = some Go.Proofs.Tryz.f64 := rfl
theorem fn65 : cfg0.fns 65 = some Go.Proofs.Tryz.f65 := rfl
theorem fn66 : cfg0.fns 66 = some Go.Proofs.Tryz.f66 := rfl
theorem fn67 : cfg0.fns 67 = some Go.Proofs.Tryz.f67 := rfl
theorem fn68 : cfg0.fns 68 = some Go.Proofs.Tryz.f68 := rfl
theorem fn69 : cfg0.fns 69 = some Go.Proofs.Tryz.f69 := rfl
theorem fn71 : cfg0.fns 71 = some Go.Proofs.Tryz.f71 := rfl
theorem fn72 : cfg0.fns 72 = some Go.Proofs.Tryz.f72 := rfl
theorem fn73 : cfg0.fns 73 = some Go.Proofs.Tryz.f73 := rfl
theorem fn74 : cfg0.fns 74 = some Go.Proofs.Tryz.f74 := rfl
theorem fn75 : cfg0.fns 75 = some Go.Proofs.Tryz.f75 := rfl
theorem fn76 : cfg0.fns 76 = some Go.Proofs.Tryz.f76 := rfl
theorem fn77 : cfg0.fns 77 = some Go.Proofs.Tryz.f77 := rfl
theorem fn79 : cfg0.fns 79 = some Go.Proofs.Tryz.f79 := rfl
theorem fn80 : cfg0.fns 80 = some Go.Proofs.Tryz.f80 := rfl
theorem fn81 : cfg0.fns 81 = some Go.Proofs.Tryz.f81 := rfl
theorem fn82 : cfg0.fns 82 = some Go.Proofs.Tryz.f82 := rfl
theorem fn83 : cfg0.fns 83 = some Go.Proofs.Tryz.f83 := rfl
theorem fn84 : cfg0.fns 84 = some Go.Proofs.Tryz.f84 := rfl
theorem fn85 : cfg0.fns 85 = some Go.Proofs.Tryz.f85 := rfl
theorem fn86 : cfg0.fns 86 = some Go.Proofs.Tryz.f86 := rfl
theorem fn87 : cfg0.fns 87 = some Go.Proofs.Tryz.f87 := rfl
theorem fn88 : cfg0.fns 88 = some Go.Proofs.Tryz.f88 := rfl
theorem fn91 : cfg0.fns 91 = some Go.Proofs.Tryz.f91 := rfl
theorem fn92 : cfg0.fns 92 = some Go.Proofs.Tryz.f92 := rfl
theorem fn93 : cfg0.fns 93 = some Go.Proofs.Tryz.f93 := rfl
theorem fn95 : cfg0.fns 95 = some Go.Proofs.Tryz.f95 := rfl
theorem fn96 : cfg0.fns 96 = some Go.Proofs.Tryz.f96 := rfl
theorem fn97 : cfg0.fns 97 = some Go.Proofs.Tryz.f97 := rfl
theorem fn109 : cfg0.fns 109 = some Go.Proofs.Tryz.f109 := rfl
theorem fn116 : cfg0.fns 116 = some Go.Proofs.Tryz.f116 := rfl
theorem fn117 : cfg0.fns 117 = some Go.Proofs.Tryz.f117 := rfl
theorem fn119 : cfg0.fns 119 = some Go.Proofs.Tryz.f119 := rfl
theorem fn120 : cfg0.fns 120 = some Go.Proofs.Tryz.f120 := rfl
theorem fn136 : cfg0.fns 136 = some Go.Proofs.Tryz.f136 := rfl
theorem fn137 : cfg0.fns 137 = some Go.Proofs.Tryz.f137 := rfl
theorem res0 : Go.Proofs.Tryz.f0.results.toList = [] := rfl
theorem res3 : Go.Proofs.Tryz.f3.results.toList = [.tmp 6] := rfl
theorem res5 : Go.Proofs.Tryz.f5.results.toList = [.tmp 2] := rfl
theorem res6 : Go.Proofs.Tryz.f6.results.toList = [.tmp 0] := rfl
theorem res7 : Go.Proofs.Tryz.f7.results.toList = [.tmp 6, .tmp 7, .cell 8 30] := rfl
theorem res8 : Go.Proofs.Tryz.f8.results.toList = [.tmp 6, .tmp 7, .tmp 8] := rfl
theorem res9 : Go.Proofs.Tryz.f9.results.toList = [.tmp 2, .cell 3 30] := rfl
theorem res10 : Go.Proofs.Tryz.f10.results.toList = [.tmp 2, .tmp 3] := rfl
theorem res11 : Go.Proofs.Tryz.f11.results.toList = [.tmp 2, .cell 3 30] := rfl
theorem res12 : Go.Proofs.Tryz.f12.results.toList = [.tmp 2, .tmp 3] := rfl
theorem res13 : Go.Proofs.Tryz.f13.results.toList = [.tmp 4] := rfl
theorem res14 : Go.Proofs.Tryz.f14.results.toList = [.tmp 4, .cell 5 30] := rfl
theorem res15 : Go.Proofs.Tryz.f15.results.toList = [.tmp 4, .tmp 5] := rfl
theorem res16 : Go.Proofs.Tryz.f16.results.toList = [.tmp 4, .cell 5 30] := rfl
theorem res17 : Go.Proofs.Tryz.f17.results.toList = [.tmp 4, .tmp 5] := rfl
theorem res18 : Go.Proofs.Tryz.f18.results.toList = [.tmp 4, .cell 5 30] := rfl
theorem res19 : Go.Proofs.Tryz.f19.results.toList = [.tmp 4, .tmp 5] := rfl
theorem res20 : Go.Proofs.Tryz.f20.results.toList = [.tmp 2, .cell 3 30] := rfl
theorem res21 : Go.Proofs.Tryz.f21.results.toList = [.tmp 2, .tmp 3] := rfl
theorem res22 : Go.Proofs.Tryz.f22.results.toList = [.tmp 4] := rfl
theorem res23 : Go.Proofs.Tryz.f23.results.toList = [.tmp 2, .tmp 3, .cell 4 30] := rfl
theorem res25 : Go.Proofs.Tryz.f25.results.toList = [.tmp 2, .tmp 3, .cell 4 30] := rfl
theorem res27 : Go.Proofs.Tryz.f27.results.toList = [.tmp 2, .cell 3 30] := rfl
theorem res29 : Go.Proofs.Tryz.f29.results.toList = [.cell 2 27] := rfl
theorem res30 : Go.Proofs.Tryz.f30.results.toList = [.cell 6 47] := rfl
theorem res31 : Go.Proofs.Tryz.f31.results.toList = [.cell 4 24] := rfl
theorem res32 : Go.Proofs.Tryz.f32.results.toList = [] := rfl
theorem res33 : Go.Proofs.Tryz.f33.results.toList = [] := rfl
theorem res34 : Go.Proofs.Tryz.f34.results.toList = [.cell 4 56] := rfl
theorem res35 : Go.Proofs.Tryz.f35.results.toList = [.tmp 4] := rfl
theorem res36 : Go.Proofs.Tryz.f36.results.toList = [.tmp 2] := rfl
theorem res37 : Go.Proofs.Tryz.f37.results.toList = [.tmp 4] := rfl
theorem res38 : Go.Proofs.Tryz.f38.results.toList = [.tmp 4] := rfl
theorem res39 : Go.Proofs.Tryz.f39.results.toList = [.cell 4 53] := rfl
theorem res40 : Go.Proofs.Tryz.f40.results.toList = [.tmp 4] := rfl
theorem res41 : Go.Proofs.Tryz.f41.results.toList = [.tmp 2] := rfl
theorem res42 : Go.Proofs.Tryz.f42.results.toList = [.tmp 4] := rfl
theorem res43 : Go.Proofs.Tryz.f43.results.toList = [.tmp 6] := rfl
theorem res44 : Go.Proofs.Tryz.f44.results.toList = [] := rfl
theorem res45 : Go.Proofs.Tryz.f45.results.toList = [.tmp 2] := rfl
theorem res46 : Go.Proofs.Tryz.f46.results.toList = [.tmp 2] := rfl
theorem res47 : Go.Proofs.Tryz.f47.results.toList = [.tmp 4, .tmp 5] := rfl
theorem res48 : Go.Proofs.Tryz.f48.results.toList = [] := rfl
theorem res49 : Go.Proofs.Tryz.f49.results.toList = [.tmp 4] := rfl
theorem res50 : Go.Proofs.Tryz.f50.results.toList = [.tmp 2] := rfl
theorem res51 : Go.Proofs.Tryz.f51.results.toList = [.tmp 2] := rfl
theorem res52 : Go.Proofs.Tryz.f52.results.toList = [] := rfl
theorem res53 : Go.Proofs.Tryz.f53.results.toList = [.tmp 3] := rfl
theorem res54 : Go.Proofs.Tryz.f54.results.toList = [.tmp 4] := rfl
theorem res55 : Go.Proofs.Tryz.f55.results.toList = [.tmp 5] := rfl
theorem res56 : Go.Proofs.Tryz.f56.results.toList = [.tmp 4] := rfl
theorem res57 : Go.Proofs.Tryz.f57.results.toList = [] := rfl
theorem res58 : Go.Proofs.Tryz.f58.results.toList = [.tmp 3] := rfl
theorem res59 : Go.Proofs.Tryz.f59.results.toList = [.tmp 4] := rfl
theorem res62 : Go.Proofs.Tryz.f62.results.toList = [] := rfl
theorem res63 : Go.Proofs.Tryz.f63.results.toList = [.tmp 3] := rfl
theorem res64 : Go.Proofs.Tryz.f64.results.toList = [.tmp 4] := rfl
theorem res65 : Go.Proofs.Tryz.f65.results.toList = [.tmp 2] := rfl
theorem res66 : Go.Proofs.Tryz.f66.results.toList = [] := rfl
theorem res67 : Go.Proofs.Tryz.f67.results.toList = [.tmp 2] := rfl
theorem res68 : Go.Proofs.Tryz.f68.results.toList = [] := rfl
theorem res69 : Go.Proofs.Tryz.f69.results.toList = [.tmp 2] := rfl
theorem res71 : Go.Proofs.Tryz.f71.results.toList = [] := rfl
theorem res72 : Go.Proofs.Tryz.f72.results.toList = [.tmp 4, .tmp 5] := rfl
theorem res73 : Go.Proofs.Tryz.f73.results.toList = [.tmp 2] := rfl
theorem res74 : Go.Proofs.Tryz.f74.results.toList = [.tmp 3] := rfl
theorem res75 : Go.Proofs.Tryz.f75.results.toList = [.cell 4 4] := rfl
theorem res76 : Go.Proofs.Tryz.f76.results.toList = [.tmp 2] := rfl
theorem res77 : Go.Proofs.Tryz.f77.results.toList = [.tmp 2] := rfl
theorem res79 : Go.Proofs.Tryz.f79.results.toList = [.tmp 4] := rfl
theorem res80 : Go.Proofs.Tryz.f80.results.toList = [] := rfl
theorem res81 : Go.Proofs.Tryz.f81.results.toList = [.tmp 3] := rfl
theorem res82 : Go.Proofs.Tryz.f82.results.toList = [] := rfl
theorem res83 : Go.Proofs.Tryz.f83.results.toList = [.tmp 6] := rfl
theorem res84 : Go.Proofs.Tryz.f84.results.toList = [.tmp 2] := rfl
theorem res85 : Go.Proofs.Tryz.f85.results.toList = [.tmp 6] := rfl
theorem res86 : Go.Proofs.Tryz.f86.results.toList = [.tmp 2] := rfl
theorem res87 : Go.Proofs.Tryz.f87.results.toList = [] := rfl
theorem res88 : Go.Proofs.Tryz.f88.results.toList = [.tmp 4] := rfl
theorem res91 : Go.Proofs.Tryz.f91.results.toList = [.tmp 4] := rfl
theorem res92 : Go.Proofs.Tryz.f92.results.toList = [] := rfl
theorem res93 : Go.Proofs.Tryz.f93.results.toList = [.tmp 4] := rfl
theorem res95 : Go.Proofs.Tryz.f95.results.toList = [.tmp 2] := rfl
theorem res96 : Go.Proofs.Tryz.f96.results.toList = [.tmp 6] := rfl
theorem res97 : Go.Proofs.Tryz.f97.results.toList = [.tmp 4] := rfl
theorem res109 : Go.Proofs.Tryz.f109.results.toList = [] := rfl
theorem res116 : Go.Proofs.Tryz.f116.results.toList = [] := rfl
theorem res117 : Go.Proofs.Tryz.f117.results.toList = [] := rfl
theorem res119 : Go.Proofs.Tryz.f119.results.toList = [] := rfl
theorem res120 : Go.Proofs.Tryz.f120.results.toList = [] := rfl
theorem res136 : Go.Proofs.Tryz.f136.results.toList = [.tmp 4] := rfl
theorem res137 : Go.Proofs.Tryz.f137.results.toList = [.tmp 4] := rfl
theorem plan7_2 : cfg0.plan 7 2 = some [(3, 2), (5, 2), (5, 4), (4, 1002), (6, 1002), (8, 1002), (6, 1004), (8, 1004), (8, 1006)] := rfl
theorem plan7_3 : cfg0.plan 7 3 = some [] := rfl
theorem plan8_1 : cfg0.plan 8 1 = some [(0, 2), (0, 6), (3, 1002), (4, 1002), (5, 1002), (6, 1002), (7, 1002), (8, 1002), (9, 1002), (7, 1006), (8, 1006), (9, 1006), (9, 1008)] := rfl
theorem plan8_4 : cfg0.plan 8 4 = some [(1, 10), (2, 10), (4, 10), (5, 10), (11, 1010), (12, 1010), (13, 1010)] := rfl
theorem plan10_7 : cfg0.plan 10 7 = some [] := rfl
theorem plan10_9 : cfg0.plan 10 9 = some [] := rfl
theorem plan11_4 : cfg0.plan 11 4 = some [(0, 2), (3, 1002)] := rfl
theorem plan13_6 : cfg0.plan 13 6 = some [] := rfl
theorem plan15_1 : cfg0.plan 15 1 = some [(0, 2), (3, 1002), (4, 1002), (5, 1002), (6, 1002), (7, 1002), (8, 1002), (4, 1003), (5, 1003), (6, 1003), (7, 1003), (8, 1003)] := rfl
theorem plan16_3 : cfg0.plan 16 3 = some [(3, 2), (4, 1002), (5, 1002), (5, 1004)] := rfl
theorem plan17_1 : cfg0.plan 17 1 = some [(0, 3), (4, 1003), (5, 1003), (6, 1003), (7, 1003), (8, 1003), (9, 1003), (5, 1004), (6, 1004), (7, 1004), (8, 1004), (9, 1004)] := rfl
theorem plan17_8 : cfg0.plan 17 8 = some [] := rfl
theorem plan18_3 : cfg0.plan 18 3 = some [(3, 2), (4, 1002), (5, 1002), (5, 1004)] := rfl
theorem plan19_1 : cfg0.plan 19 1 = some [(0, 3), (4, 1003), (5, 1003), (6, 1003), (7, 1003), (8, 1003), (9, 1003), (5, 1004), (6, 1004), (7, 1004), (8, 1004), (9, 1004)] := rfl
theorem plan19_8 : cfg0.plan 19 8 = some [(7, 1006)] := rfl
theorem plan22_6 : cfg0.plan 22 6 = some [] := rfl
theorem plan39_1 : cfg0.plan 39 1 = some [] := rfl
theorem plan43_1 : cfg0.plan 43 1 = some [] := rfl
theorem plan46_1 : cfg0.plan 46 1 = some [(0, 2), (3, 1002), (4, 1002), (5, 1002), (4, 1003), (5, 1003), (5, 1004)] := rfl
theorem plan51_1 : cfg0.plan 51 1 = some [(0, 2), (3, 1002), (4, 1002), (4, 1003)] := rfl
theorem plan59_6 : cfg0.plan 59 6 = some [(4, 6), (4, 1003), (5, 1003), (6, 1003), (7, 1003), (8, 1003)] := rfl
theorem plan74_1 : cfg0.plan 74 1 = some [(0, 2), (4, 1002), (5, 1002), (6, 1002), (6, 1005)] := rfl
theorem plan79_9 : cfg0.plan 79 9 = some [(3, 1002), (4, 1002), (5, 1002), (6, 1002), (7, 1002), (8, 1002), (9, 1002), (10, 1002), (11, 1002), (12, 1002), (13, 1002), (12, 1011), (13, 1011)] := rfl
theorem plan91_2 : cfg0.plan 91 2 = some [] := rfl
theorem plan116_4 : cfg0.plan 116 4 = some [(15, 1014), (16, 1014)] := rfl
theorem plan116_6 : cfg0.plan 116 6 = some [] := rfl
theorem plan117_5 : cfg0.plan 117 5 = some [(10, 1009)] := rfl
theorem plan117_11 : cfg0.plan 117 11 = some [] := rfl
theorem plan117_17 : cfg0.plan 117 17 = some [(10, 1009), (11, 1009)] := rfl
theorem plan117_23 : cfg0.plan 117 23 = some [] := rfl
theorem plan117_35 : cfg0.plan 117 35 = some [(12, 1011), (13, 1011)] := rfl
theorem plan120_3 : cfg0.plan 120 3 = some [] := rfl
theorem gc0 (i : Nat) : cfg0.gc 0 i = none := rfl
theorem grow0 (i : Nat) : cfg0.grow 0 i = false := rfl
theorem gc3 (i : Nat) : cfg0.gc 3 i = none := rfl
theorem grow3 (i : Nat) : cfg0.grow 3 i = false := rfl
theorem gc5 (i : Nat) : cfg0.gc 5 i = none := rfl
theorem grow5 (i : Nat) : cfg0.grow 5 i = false := rfl
theorem gc6 (i : Nat) : cfg0.gc 6 i = none := rfl
theorem grow6 (i : Nat) : cfg0.grow 6 i = false := rfl
theorem gc7 (i : Nat) : cfg0.gc 7 i = none := rfl
theorem grow7 (i : Nat) : cfg0.grow 7 i = false := rfl
theorem gc8 (i : Nat) : cfg0.gc 8 i = none := rfl
theorem grow8 (i : Nat) : cfg0.grow 8 i = false := rfl
theorem gc9 (i : Nat) : cfg0.gc 9 i = none := rfl
theorem grow9_1 : cfg0.grow 9 1 = false := rfl
theorem grow9_2 : cfg0.grow 9 2 = false := rfl
theorem grow9_3 : cfg0.grow 9 3 = false := rfl
theorem grow9_4 : cfg0.grow 9 4 = true := rfl
theorem grow9_6 : cfg0.grow 9 6 = false := rfl
theorem grow9_7 : cfg0.grow 9 7 = false := rfl
theorem grow9_36 : cfg0.grow 9 36 = false := rfl
theorem gc10 (i : Nat) : cfg0.gc 10 i = none := rfl
theorem grow10_1 : cfg0.grow 10 1 = false := rfl
theorem grow10_2 : cfg0.grow 10 2 = false := rfl
theorem grow10_3 : cfg0.grow 10 3 = false := rfl
theorem grow10_4 : cfg0.grow 10 4 = false := rfl
theorem grow10_5 : cfg0.grow 10 5 = false := rfl
theorem grow10_6 : cfg0.grow 10 6 = true := rfl
theorem grow10_7 : cfg0.grow 10 7 = false := rfl
theorem grow10_8 : cfg0.grow 10 8 = false := rfl
theorem grow10_46 : cfg0.grow 10 46 = false := rfl
theorem gc11 (i : Nat) : cfg0.gc 11 i = none := rfl
theorem grow11 (i : Nat) : cfg0.grow 11 i = false := rfl
theorem gc12 (i : Nat) : cfg0.gc 12 i = none := rfl
theorem grow12 (i : Nat) : cfg0.grow 12 i = false := rfl
theorem gc13 (i : Nat) : cfg0.gc 13 i = none := rfl
theorem grow13 (i : Nat) : cfg0.grow 13 i = false := rfl
theorem gc14 (i : Nat) : cfg0.gc 14 i = none := rfl
theorem grow14 (i : Nat) : cfg0.grow 14 i = false := rfl
theorem gc15 (i : Nat) : cfg0.gc 15 i = none := rfl
theorem grow15 (i : Nat) : cfg0.grow 15 i = false := rfl
theorem gc16_0 : cfg0.gc 16 0 = none := rfl
theorem gc16_1 : cfg0.gc 16 1 = none := rfl
theorem gc16_2 : cfg0.gc 16 2 = none := rfl
theorem gc16_3 : cfg0.gc 16 3 = none := rfl
theorem gc16_4 : cfg0.gc 16 4 = some ([5, 6, 14], 7) := rfl
theorem gc16_5 : cfg0.gc 16 5 = none := rfl
theorem gc16_6 : cfg0.gc 16 6 = none := rfl
theorem gc16_7 : cfg0.gc 16 7 = some ([5, 6], 4) := rfl
theorem gc16_8 : cfg0.gc 16 8 = none := rfl
theorem nils16 (i : Nat) : cfg0.nils 16 i = none := rfl
theorem grow16_2 : cfg0.grow 16 2 = false := rfl
theorem grow16_3 : cfg0.grow 16 3 = false := rfl
theorem grow16_4 : cfg0.grow 16 4 = false := rfl
theorem grow16_5 : cfg0.grow 16 5 = false := rfl
theorem grow16_6 : cfg0.grow 16 6 = true := rfl
theorem grow16_7 : cfg0.grow 16 7 = false := rfl
theorem gc17 (i : Nat) : cfg0.gc 17 i = none := rfl
theorem grow17_2 : cfg0.grow 17 2 = false := rfl
theorem grow17_4 : cfg0.grow 17 4 = false := rfl
theorem grow17_5 : cfg0.grow 17 5 = false := rfl
theorem grow17_6 : cfg0.grow 17 6 = false := rfl
theorem grow17_7 : cfg0.grow 17 7 = false := rfl
theorem grow17_8 : cfg0.grow 17 8 = true := rfl
theorem grow17_9 : cfg0.grow 17 9 = false := rfl
theorem grow17_10 : cfg0.grow 17 10 = false := rfl
theorem gc18_0 : cfg0.gc 18 0 = none := rfl
theorem gc18_1 : cfg0.gc 18 1 = none := rfl
theorem gc18_2 : cfg0.gc 18 2 = none := rfl
theorem gc18_3 : cfg0.gc 18 3 = none := rfl
theorem gc18_4 : cfg0.gc 18 4 = some ([5, 6, 14], 6) := rfl
theorem gc18_5 : cfg0.gc 18 5 = none := rfl
theorem gc18_6 : cfg0.gc 18 6 = none := rfl
theorem gc18_7 : cfg0.gc 18 7 = some ([5, 6], 3) := rfl
theorem nils18 (i : Nat) : cfg0.nils 18 i = none := rfl
theorem grow18 (i : Nat) : cfg0.grow 18 i = false := rfl
theorem gc19 (i : Nat) : cfg0.gc 19 i = none := rfl
theorem grow19 (i : Nat) : cfg0.grow 19 i = false := rfl
theorem gc20 (i : Nat) : cfg0.gc 20 i = none := rfl
theorem grow20_1 : cfg0.grow 20 1 = false := rfl
theorem grow20_2 : cfg0.grow 20 2 = false := rfl
theorem grow20_3 : cfg0.grow 20 3 = false := rfl
theorem grow20_4 : cfg0.grow 20 4 = false := rfl
theorem grow20_5 : cfg0.grow 20 5 = true := rfl
theorem grow20_6 : cfg0.grow 20 6 = false := rfl
theorem gc21 (i : Nat) : cfg0.gc 21 i = none := rfl
theorem grow21 (i : Nat) : cfg0.grow 21 i = false := rfl
theorem gc22 (i : Nat) : cfg0.gc 22 i = none := rfl
theorem grow22 (i : Nat) : cfg0.grow 22 i = false := rfl
theorem gc23_0 : cfg0.gc 23 0 = none := rfl
theorem gc23_1 : cfg0.gc 23 1 = none := rfl
theorem gc23_2 : cfg0.gc 23 2 = none := rfl
theorem gc23_3 : cfg0.gc 23 3 = none := rfl
theorem gc23_4 : cfg0.gc 23 4 = none := rfl
theorem gc23_5 : cfg0.gc 23 5 = some ([2, 3, 4, 5, 6, 7, 19, 20], 3) := rfl
theorem gc23_6 : cfg0.gc 23 6 = none := rfl
theorem gc23_7 : cfg0.gc 23 7 = none := rfl
theorem gc23_8 : cfg0.gc 23 8 = none := rfl
theorem gc23_9 : cfg0.gc 23 9 = some ([2, 3, 4, 5, 6, 7, 8, 9, 19, 20, 26], 7) := rfl
theorem gc23_10 : cfg0.gc 23 10 = none := rfl
theorem gc23_11 : cfg0.gc 23 11 = none := rfl
theorem gc23_12 : cfg0.gc 23 12 = some ([2, 3, 4, 5, 6, 7, 8, 9, 19, 20], 3) := rfl
theorem gc23_13 : cfg0.gc 23 13 = none := rfl
theorem gc23_14 : cfg0.gc 23 14 = none := rfl
theorem gc23_15 : cfg0.gc 23 15 = none := rfl
theorem gc23_16 : cfg0.gc 23 16 = none := rfl
theorem nils23_5 : cfg0.nils 23 5 = none := rfl
theorem nils23_9 : cfg0.nils 23 9 = none := rfl
theorem nils23_12 : cfg0.nils 23 12 = some [] := rfl
theorem grow23 (i : Nat) : cfg0.grow 23 i = false := rfl
theorem gc25 (i : Nat) : cfg0.gc 25 i = none := rfl
theorem grow25 (i : Nat) : cfg0.grow 25 i = false := rfl
theorem gc27 (i : Nat) : cfg0.gc 27 i = none := rfl
theorem grow27 (i : Nat) : cfg0.grow 27 i = false := rfl
theorem gc29 (i : Nat) : cfg0.gc 29 i = none := rfl
theorem grow29 (i : Nat) : cfg0.grow 29 i = false := rfl
theorem gc30 (i : Nat) : cfg0.gc 30 i = none := rfl
theorem grow30 (i : Nat) : cfg0.grow 30 i = false := rfl
theorem gc31 (i : Nat) : cfg0.gc 31 i = none := rfl
theorem grow31 (i : Nat) : cfg0.grow 31 i = false := rfl
theorem gc32 (i : Nat) : cfg0.gc 32 i = none := rfl
theorem grow32 (i : Nat) : cfg0.grow 32 i = false := rfl
theorem gc33 (i : Nat) : cfg0.gc 33 i = none := rfl
theorem grow33 (i : Nat) : cfg0.grow 33 i = false := rfl
theorem gc34_0 : cfg0.gc 34 0 = none := rfl
theorem gc34_1 : cfg0.gc 34 1 = none := rfl
theorem gc34_2 : cfg0.gc 34 2 = none := rfl
theorem gc34_3 : cfg0.gc 34 3 = none := rfl
theorem gc34_4 : cfg0.gc 34 4 = none := rfl
theorem gc34_5 : cfg0.gc 34 5 = none := rfl
theorem gc34_6 : cfg0.gc 34 6 = none := rfl
theorem gc34_7 : cfg0.gc 34 7 = none := rfl
theorem gc34_8 : cfg0.gc 34 8 = none := rfl
theorem gc34_9 : cfg0.gc 34 9 = none := rfl
theorem gc34_10 : cfg0.gc 34 10 = some ([1, 4, 5, 65, 66, 67], 3) := rfl
theorem gc34_11 : cfg0.gc 34 11 = none := rfl
theorem gc34_12 : cfg0.gc 34 12 = none := rfl
theorem gc34_13 : cfg0.gc 34 13 = none := rfl
theorem gc34_14 : cfg0.gc 34 14 = none := rfl
theorem gc34_15 : cfg0.gc 34 15 = none := rfl
theorem nils34 (i : Nat) : cfg0.nils 34 i = none := rfl
theorem grow34 (i : Nat) : cfg0.grow 34 i = false := rfl
theorem gc35 (i : Nat) : cfg0.gc 35 i = none := rfl
theorem grow35 (i : Nat) : cfg0.grow 35 i = false := rfl
theorem gc36 (i : Nat) : cfg0.gc 36 i = none := rfl
theorem grow36 (i : Nat) : cfg0.grow 36 i = false := rfl
theorem gc37 (i : Nat) : cfg0.gc 37 i = none := rfl
theorem grow37 (i : Nat) : cfg0.grow 37 i = false := rfl
theorem gc38 (i : Nat) : cfg0.gc 38 i = none := rfl
theorem grow38 (i : Nat) : cfg0.grow 38 i = false := rfl
theorem gc39 (i : Nat) : cfg0.gc 39 i = none := rfl
theorem grow39 (i : Nat) : cfg0.grow 39 i = false := rfl
theorem gc40 (i : Nat) : cfg0.gc 40 i = none := rfl
theorem grow40 (i : Nat) : cfg0.grow 40 i = false := rfl
theorem gc41 (i : Nat) : cfg0.gc 41 i = none := rfl
theorem grow41 (i : Nat) : cfg0.grow 41 i = false := rfl
theorem gc42 (i : Nat) : cfg0.gc 42 i = none := rfl
theorem grow42 (i : Nat) : cfg0.grow 42 i = false := rfl
theorem gc43 (i : Nat) : cfg0.gc 43 i = none := rfl
theorem grow43 (i : Nat) : cfg0.grow 43 i = false := rfl
theorem gc44 (i : Nat) : cfg0.gc 44 i = none := rfl
theorem grow44 (i : Nat) : cfg0.grow 44 i = false := rfl
theorem gc45 (i : Nat) : cfg0.gc 45 i = none := rfl
theorem grow45 (i : Nat) : cfg0.grow 45 i = false := rfl
theorem gc46 (i : Nat) : cfg0.gc 46 i = none := rfl
theorem grow46 (i : Nat) : cfg0.grow 46 i = false := rfl
theorem gc47 (i : Nat) : cfg0.gc 47 i = none := rfl
theorem grow47 (i : Nat) : cfg0.grow 47 i = false := rfl
theorem gc48 (i : Nat) : cfg0.gc 48 i = none := rfl
theorem grow48 (i : Nat) : cfg0.grow 48 i = false := rfl
theorem gc49 (i : Nat) : cfg0.gc 49 i = none := rfl
theorem grow49 (i : Nat) : cfg0.grow 49 i = false := rfl
theorem gc50 (i : Nat) : cfg0.gc 50 i = none := rfl
theorem grow50 (i : Nat) : cfg0.grow 50 i = false := rfl
theorem gc51 (i : Nat) : cfg0.gc 51 i = none := rfl
theorem grow51 (i : Nat) : cfg0.grow 51 i = false := rfl
theorem gc52 (i : Nat) : cfg0.gc 52 i = none := rfl
theorem grow52 (i : Nat) : cfg0.grow 52 i = false := rfl
theorem gc53 (i : Nat) : cfg0.gc 53 i = none := rfl
theorem grow53 (i : Nat) : cfg0.grow 53 i = false := rfl
theorem gc54 (i : Nat) : cfg0.gc 54 i = none := rfl
theorem grow54 (i : Nat) : cfg0.grow 54 i = false := rfl
theorem gc55 (i : Nat) : cfg0.gc 55 i = none := rfl
theorem grow55 (i : Nat) : cfg0.grow 55 i = false := rfl
theorem gc56 (i : Nat) : cfg0.gc 56 i = none := rfl
theorem grow56 (i : Nat) : cfg0.grow 56 i = false := rfl
theorem gc57 (i : Nat) : cfg0.gc 57 i = none := rfl
theorem grow57 (i : Nat) : cfg0.grow 57 i = false := rfl
theorem gc58 (i : Nat) : cfg0.gc 58 i = none := rfl
theorem grow58 (i : Nat) : cfg0.grow 58 i = false := rfl
theorem gc59 (i : Nat) : cfg0.gc 59 i = none := rfl
theorem grow59_2 : cfg0.grow 59 2 = false := rfl
theorem grow59_4 : cfg0.grow 59 4 = false := rfl
theorem grow59_5 : cfg0.grow 59 5 = false := rfl
theorem grow59_6 : cfg0.grow 59 6 = false := rfl
theorem grow59_8 : cfg0.grow 59 8 = false := rfl
theorem gc62 (i : Nat) : cfg0.gc 62 i = none := rfl
theorem grow62 (i : Nat) : cfg0.grow 62 i = false := rfl
theorem gc63 (i : Nat) : cfg0.gc 63 i = none := rfl
theorem grow63 (i : Nat) : cfg0.grow 63 i = false := rfl
theorem gc64 (i : Nat) : cfg0.gc 64 i = none := rfl
theorem grow64 (i : Nat) : cfg0.grow 64 i = false := rfl
theorem gc65 (i : Nat) : cfg0.gc 65 i = none := rfl
theorem grow65 (i : Nat) : cfg0.grow 65 i = false := rfl
theorem gc66 (i : Nat) : cfg0.gc 66 i = none := rfl
theorem grow66 (i : Nat) : cfg0.grow 66 i = false := rfl
theorem gc67 (i : Nat) : cfg0.gc 67 i = none := rfl
theorem grow67 (i : Nat) : cfg0.grow 67 i = false := rfl
theorem gc68 (i : Nat) : cfg0.gc 68 i = none := rfl
theorem grow68 (i : Nat) : cfg0.grow 68 i = false := rfl
theorem gc69 (i : Nat) : cfg0.gc 69 i = none := rfl
theorem grow69 (i : Nat) : cfg0.grow 69 i = false := rfl
theorem gc71 (i : Nat) : cfg0.gc 71 i = none := rfl
theorem grow71 (i : Nat) : cfg0.grow 71 i = false := rfl
theorem gc72 (i : Nat) : cfg0.gc 72 i = none := rfl
theorem grow72 (i : Nat) : cfg0.grow 72 i = false := rfl
theorem gc73 (i : Nat) : cfg0.gc 73 i = none := rfl
theorem grow73 (i : Nat) : cfg0.grow 73 i = false := rfl
theorem gc74 (i : Nat) : cfg0.gc 74 i = none := rfl
theorem grow74 (i : Nat) : cfg0.grow 74 i = false := rfl
theorem gc75 (i : Nat) : cfg0.gc 75 i = none := rfl
theorem grow75 (i : Nat) : cfg0.grow 75 i = false := rfl
theorem gc76 (i : Nat) : cfg0.gc 76 i = none := rfl
theorem grow76 (i : Nat) : cfg0.grow 76 i = false := rfl
theorem gc77 (i : Nat) : cfg0.gc 77 i = none := rfl
theorem grow77 (i : Nat) : cfg0.grow 77 i = false := rfl
theorem gc79 (i : Nat) : cfg0.gc 79 i = none := rfl
theorem grow79_2 : cfg0.grow 79 2 = false := rfl
theorem grow79_4 : cfg0.grow 79 4 = false := rfl
theorem grow79_5 : cfg0.grow 79 5 = true := rfl
theorem grow79_6 : cfg0.grow 79 6 = false := rfl
theorem grow79_7 : cfg0.grow 79 7 = false := rfl
theorem grow79_8 : cfg0.grow 79 8 = false := rfl
theorem gc80 (i : Nat) : cfg0.gc 80 i = none := rfl
theorem grow80 (i : Nat) : cfg0.grow 80 i = false := rfl
theorem gc81 (i : Nat) : cfg0.gc 81 i = none := rfl
theorem grow81 (i : Nat) : cfg0.grow 81 i = false := rfl
theorem gc82 (i : Nat) : cfg0.gc 82 i = none := rfl
theorem grow82 (i : Nat) : cfg0.grow 82 i = false := rfl
theorem gc83 (i : Nat) : cfg0.gc 83 i = none := rfl
theorem grow83 (i : Nat) : cfg0.grow 83 i = false := rfl
theorem gc84 (i : Nat) : cfg0.gc 84 i = none := rfl
theorem grow84 (i : Nat) : cfg0.grow 84 i = false := rfl
theorem gc85 (i : Nat) : cfg0.gc 85 i = none := rfl
theorem grow85 (i : Nat) : cfg0.grow 85 i = false := rfl
theorem gc86 (i : Nat) : cfg0.gc 86 i = none := rfl
theorem grow86 (i : Nat) : cfg0.grow 86 i = false := rfl
theorem gc87 (i : Nat) : cfg0.gc 87 i = none := rfl
theorem grow87 (i : Nat) : cfg0.grow 87 i = false := rfl
theorem gc88_0 : cfg0.gc 88 0 = none := rfl
theorem gc88_1 : cfg0.gc 88 1 = none := rfl
theorem gc88_2 : cfg0.gc 88 2 = some ([1, 2, 4, 10, 11, 12], 2) := rfl
theorem gc88_3 : cfg0.gc 88 3 = none := rfl
theorem gc88_4 : cfg0.gc 88 4 = none := rfl
theorem gc88_5 : cfg0.gc 88 5 = none := rfl
theorem gc88_6 : cfg0.gc 88 6 = none := rfl
theorem gc88_7 : cfg0.gc 88 7 = none := rfl
theorem gc88_8 : cfg0.gc 88 8 = none := rfl
theorem gc88_9 : cfg0.gc 88 9 = none := rfl
theorem nils88 (i : Nat) : cfg0.nils 88 i = none := rfl
theorem grow88_2 : cfg0.grow 88 2 = false := rfl
theorem grow88_4 : cfg0.grow 88 4 = true := rfl
theorem grow88_5 : cfg0.grow 88 5 = false := rfl
theorem grow88_6 : cfg0.grow 88 6 = false := rfl
theorem grow88_7 : cfg0.grow 88 7 = false := rfl
theorem gc91 (i : Nat) : cfg0.gc 91 i = none := rfl
theorem grow91 (i : Nat) : cfg0.grow 91 i = false := rfl
theorem gc92 (i : Nat) : cfg0.gc 92 i = none := rfl
theorem grow92 (i : Nat) : cfg0.grow 92 i = false := rfl
theorem gc93 (i : Nat) : cfg0.gc 93 i = none := rfl
theorem grow93 (i : Nat) : cfg0.grow 93 i = false := rfl
theorem gc95 (i : Nat) : cfg0.gc 95 i = none := rfl
theorem grow95 (i : Nat) : cfg0.grow 95 i = false := rfl
theorem gc96 (i : Nat) : cfg0.gc 96 i = none := rfl
theorem grow96 (i : Nat) : cfg0.grow 96 i = false := rfl
theorem gc97 (i : Nat) : cfg0.gc 97 i = none := rfl
theorem grow97_2 : cfg0.grow 97 2 = true := rfl
theorem grow97_4 : cfg0.grow 97 4 = false := rfl
theorem grow97_5 : cfg0.grow 97 5 = false := rfl
theorem gc109 (i : Nat) : cfg0.gc 109 i = none := rfl
theorem grow109 (i : Nat) : cfg0.grow 109 i = false := rfl
theorem gc116 (i : Nat) : cfg0.gc 116 i = none := rfl
theorem grow116 (i : Nat) : cfg0.grow 116 i = false := rfl
theorem gc117 (i : Nat) : cfg0.gc 117 i = none := rfl
theorem grow117 (i : Nat) : cfg0.grow 117 i = false := rfl
theorem gc119 (i : Nat) : cfg0.gc 119 i = none := rfl
theorem grow119 (i : Nat) : cfg0.grow 119 i = false := rfl
theorem gc120 (i : Nat) : cfg0.gc 120 i = none := rfl
theorem grow120 (i : Nat) : cfg0.grow 120 i = false := rfl
theorem gc136 (i : Nat) : cfg0.gc 136 i = none := rfl
theorem grow136 (i : Nat) : cfg0.grow 136 i = false := rfl
theorem gc137 (i : Nat) : cfg0.gc 137 i = none := rfl
theorem grow137 (i : Nat) : cfg0.grow 137 i = false := rfl
attribute [go_sem] ty1 ty2 ty3 ty4 ty5 ty6 ty8 ty12 ty15 ty16 ty17 ty19 ty20 ty22 ty24 ty25 ty27 ty30 ty33 ty47 ty51 ty53 ty54 ty56 ty58 ty59 ty61 ty67 ty68 ty70 ty74 ty75 ty81 ty83 ty88 ty90 ty92 ty98 ty102 ty105
attribute [go_sem] ty107 ty110 ty112 ty114 ty118 ty120 ty149 ifc20 ifc105 eqt2 eqt3 eqt4 eqt5 eqt6 eqt8 eqt12 eqt24 eqt30 eqt47 eqt53 eqt54 eqt70 eqt83 eqt98 eqt112 eqt114 eqt118 eqt120 eqt149 meth91 meth39 meth75 meth59 meth50 meth37 meth49 meth88 meth73 meth46 meth38
attribute [go_sem] meth136 meth137 fn0 fn3 fn5 fn6 fn7 fn8 fn9 fn10 fn11 fn12 fn13 fn14 fn15 fn16 fn17 fn18 fn19 fn20 fn21 fn22 fn23 fn25 fn27 fn29 fn30 fn31 fn32 fn33 fn34 fn35 fn36 fn37
attribute [go_sem] fn38 fn39 fn40 fn41 fn42 fn43 fn44 fn45 fn46 fn47 fn48 fn49 fn50 fn51 fn52 fn53 fn54 fn55 fn56 fn57 fn58 fn59 fn62 fn63 fn64 fn65 fn66 fn67 fn68 fn69 fn71 fn72 fn73 fn74 fn75 fn76 fn77 fn79
attribute [go_sem] fn80 fn81 fn82 fn83 fn84 fn85 fn86 fn87 fn88 fn91 fn92 fn93 fn95 fn96 fn97 fn109 fn116 fn117 fn119 fn120 fn136 fn137 res0
attribute [go_sem] res3 res5 res6 res7 res8 res9 res10 res11 res12 res13 res14 res15 res16 res17 res18 res19 res20 res21 res22 res23 res25 res27 res29 res30 res31 res32 res33 res34 res35 res36 res37 res38 res39 res40
attribute [go_sem] res41 res42 res43 res44 res45 res46 res47 res48 res49 res50 res51 res52 res53 res54 res55 res56 res57 res58 res59 res62 res63 res64 res65 res66 res67 res68 res69 res71 res72 res73 res74 res75 res76 res77 res79 res80 res81 res82
attribute [go_sem] res83 res84 res85 res86 res87 res88 res91 res92 res93 res95 res96 res97 res109 res116 res117 res119 res120 res136 res137 plan7_2 plan7_3 plan8_1 plan8_4
attribute [go_sem] plan10_7 plan10_9 plan11_4 plan13_6 plan15_1 plan16_3 plan17_1 plan17_8 plan18_3 plan19_1 plan19_8 plan22_6 plan39_1 plan43_1 plan46_1 plan51_1 plan59_6 plan74_1 plan79_9 plan91_2 plan116_4 plan116_6 plan117_5 plan117_11 plan117_17 plan117_23 plan117_35 plan120_3 gc0 grow0 gc3 grow3
attribute [go_sem] gc5 grow5 gc6 grow6 gc7 grow7 gc8 grow8 gc9 grow9_1 grow9_2 grow9_3 grow9_4 grow9_6 grow9_7 grow9_36 gc10 grow10_1 grow10_2 grow10_3 grow10_4 grow10_5 grow10_6 grow10_7 grow10_8 grow10_46 gc11 grow11 gc12 grow12 gc13 grow13 gc14 grow14 gc15 grow15 gc16_0 gc16_1
attribute [go_sem] gc16_2 gc16_3 gc16_4 gc16_5 gc16_6 gc16_7 gc16_8 nils16 grow16_2 grow16_3 grow16_4 grow16_5 grow16_6 grow16_7 gc17 grow17_2 grow17_4 grow17_5 grow17_6 grow17_7 grow17_8 grow17_9 grow17_10 gc18_0 gc18_1 gc18_2 gc18_3 gc18_4 gc18_5 gc18_6 gc18_7 nils18 grow18 gc19 grow19 gc20 grow20_1 grow20_2 grow20_3 grow20_4
attribute [go_sem] grow20_5 grow20_6 gc21 grow21 gc22 grow22 gc23_0 gc23_1 gc23_2 gc23_3 gc23_4 gc23_5 gc23_6 gc23_7 gc23_8 gc23_9 gc23_10 gc23_11 gc23_12 gc23_13 gc23_14 gc23_15 gc23_16 nils23_5 nils23_9 nils23_12 grow23 gc25 grow25 gc27 grow27 gc29 grow29 gc30
attribute [go_sem] grow30 gc31 grow31 gc32 grow32 gc33 grow33 gc34_0 gc34_1 gc34_2 gc34_3 gc34_4 gc34_5 gc34_6 gc34_7 gc34_8 gc34_9 gc34_10 gc34_11 gc34_12 gc34_13 gc34_14 gc34_15 nils34 grow34 gc35 grow35 gc36 grow36 gc37 grow37 gc38 grow38 gc39 grow39 gc40 grow40 gc41 grow41 gc42
attribute [go_sem] grow42 gc43 grow43 gc44 grow44 gc45 grow45 gc46 grow46 gc47 grow47 gc48 grow48 gc49 grow49 gc50 grow50 gc51 grow51 gc52 grow52 gc53 grow53 gc54 grow54 gc55 grow55 gc56 grow56 gc57 grow57 gc58 grow58 gc59 grow59_2 grow59_4 grow59_5 grow59_6 grow59_8 gc62
attribute [go_sem] grow62 gc63 grow63 gc64 grow64 gc65 grow65 gc66 grow66 gc67 grow67 gc68 grow68 gc69 grow69 gc71 grow71 gc72 grow72 gc73 grow73 gc74 grow74 gc75 grow75 gc76 grow76 gc77 grow77 gc79 grow79_2 grow79_4 grow79_5 grow79_6 grow79_7 grow79_8
attribute [go_sem] gc80 grow80 gc81 grow81 gc82 grow82 gc83 grow83 gc84 grow84 gc85 grow85 gc86 grow86 gc87 grow87 gc88_0 gc88_1 gc88_2 gc88_3 gc88_4 gc88_5 gc88_6 gc88_7 gc88_8 gc88_9 nils88 grow88_2 grow88_4 grow88_5 grow88_6 grow88_7 gc91 grow91 gc92 grow92 gc93 grow93
attribute [go_sem] gc95 grow95 gc96 grow96 gc97 grow97_2 grow97_4 grow97_5 gc109 grow109 gc116 grow116 gc117 grow117 gc119 grow119 gc120 grow120
attribute [go_sem] gc136 grow136 gc137 grow137 gcSt.eq_1 keepEnv.eq_1 keepEnv.eq_2 envLt.eq_1 envLt.eq_2 heapLt.eq_1 heapLt.eq_2 dfrLt.eq_1 dfrLt.eq_2 ADefer.lt.eq_1 ADefer.lt.eq_2 eqOk.eq_1 bne_self_eq_false beq_self_eq_true Nat.le_add_right List.getD_cons_zero List.getD_cons_succ
end Go.Ab
