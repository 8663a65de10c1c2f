/-
  The evaluator's tables for this program: which reads have no order beside an effect in a region that draws; the types; the types that are compared cell by cell; methods; what a loop drops. And each row as an equation.
-/
import Derived.Test.YteeefmibaggekaaS2
import Derived.Test.YteeefmibaggekaaProg
import Derived.KernelRfl
namespace Go.Ab
set_option linter.unusedSimpArgs false
set_option linter.unusedVariables false
set_option maxRecDepth 100000

def planL : List (Nat × List (Nat × List (Nat × Nat))) := [
  (6, [(12, [(40, 41), (49, 50), (2, 1001), (3, 1001), (4, 1001), (5, 1001), (6, 1001), (7, 1001), (8, 1001), (9, 1001), (10, 1001), (11, 1001), (12, 1001), (13, 1001), (14, 1001), (15, 1001), (16, 1001), (17, 1001), (18, 1001), (19, 1001), (20, 1001), (21, 1001), (22, 1001), (23, 1001), (24, 1001), (25, 1001), (26, 1001), (27, 1001), (28, 1001), (29, 1001), (30, 1001), (31, 1001), (32, 1001), (33, 1001), (34, 1001), (35, 1001), (36, 1001), (37, 1001), (38, 1001), (39, 1001), (40, 1001), (41, 1001), (42, 1001), (43, 1001), (44, 1001), (45, 1001), (46, 1001), (47, 1001), (48, 1001), (49, 1001), (50, 1001), (51, 1001), (52, 1001), (53, 1001), (54, 1001), (55, 1001), (56, 1001), (57, 1001), (58, 1001), (59, 1001), (60, 1001), (61, 1001), (62, 1001), (63, 1001), (64, 1001), (65, 1001), (66, 1001), (67, 1001), (68, 1001), (69, 1001), (70, 1001), (71, 1001), (72, 1001), (73, 1001), (74, 1001), (75, 1001), (76, 1001), (77, 1001), (78, 1001), (79, 1001), (80, 1001), (81, 1001), (82, 1001), (83, 1001), (84, 1001), (85, 1001), (86, 1001), (87, 1001), (88, 1001), (89, 1001), (90, 1001), (91, 1001), (92, 1001), (93, 1001), (94, 1001), (95, 1001), (96, 1001), (97, 1001), (98, 1001), (99, 1001), (100, 1001), (101, 1001), (42, 1041), (43, 1041), (44, 1041), (45, 1041), (46, 1041), (47, 1041), (48, 1041), (49, 1041), (50, 1041), (51, 1041), (52, 1041), (53, 1041), (54, 1041), (55, 1041), (56, 1041), (57, 1041), (58, 1041), (59, 1041), (60, 1041), (61, 1041), (62, 1041), (63, 1041), (64, 1041), (65, 1041), (66, 1041), (67, 1041), (68, 1041), (69, 1041), (70, 1041), (71, 1041), (72, 1041), (73, 1041), (74, 1041), (75, 1041), (76, 1041), (77, 1041), (78, 1041), (79, 1041), (80, 1041), (81, 1041), (82, 1041), (83, 1041), (84, 1041), (85, 1041), (86, 1041), (87, 1041), (88, 1041), (89, 1041), (90, 1041), (91, 1041), (92, 1041), (93, 1041), (94, 1041), (95, 1041), (96, 1041), (97, 1041), (98, 1041), (99, 1041), (100, 1041), (101, 1041), (51, 1050), (52, 1050), (53, 1050), (54, 1050), (55, 1050), (56, 1050), (57, 1050), (58, 1050), (59, 1050), (60, 1050), (61, 1050), (62, 1050), (63, 1050), (64, 1050), (65, 1050), (66, 1050), (67, 1050), (68, 1050), (69, 1050), (70, 1050), (71, 1050), (72, 1050), (73, 1050), (74, 1050), (75, 1050), (76, 1050), (77, 1050), (78, 1050), (79, 1050), (80, 1050), (81, 1050), (82, 1050), (83, 1050), (84, 1050), (85, 1050), (86, 1050), (87, 1050), (88, 1050), (89, 1050), (90, 1050), (91, 1050), (92, 1050), (93, 1050), (94, 1050), (95, 1050), (96, 1050), (97, 1050), (98, 1050), (99, 1050), (100, 1050), (101, 1050)])]),
  (7, [(4, [(0, 2), (3, 1002), (4, 1002), (5, 1002), (6, 1002), (7, 1002), (8, 1002), (4, 1003), (5, 1003), (6, 1003), (7, 1003), (8, 1003)]),
    (5, [(0, 2), (3, 1002), (4, 1002), (5, 1002), (6, 1002), (8, 1002), (9, 1002), (4, 1003), (5, 1003), (6, 1003), (8, 1003), (9, 1003)]),
    (7, [(3, 2), (5, 1002), (7, 1002), (8, 1002), (7, 1005), (8, 1005)])]),
  (8, [(18, [(6, 13), (7, 13), (8, 13), (9, 13), (9, 15), (10, 13), (10, 15), (11, 13), (11, 15)]),
    (20, [(5, 4), (6, 4), (7, 4), (10, 4), (10, 9), (11, 4), (11, 9), (14, 9), (14, 13)]),
    (21, [(5, 4), (6, 4), (7, 4), (10, 4), (10, 9), (11, 4), (11, 9), (12, 4), (12, 9), (13, 4), (13, 9), (14, 4), (14, 9), (17, 9), (17, 16)]),
    (22, [(5, 4), (6, 4), (7, 4), (10, 4), (10, 9), (11, 4), (11, 9), (12, 4), (12, 9), (13, 4), (13, 9), (14, 4), (14, 9), (17, 9), (17, 16)]),
    (26, [(0, 3), (4, 1003)]),
    (42, [(7, 1006), (8, 1006), (9, 1006), (10, 1006), (11, 1006), (12, 1006), (13, 1006)]),
    (43, [(7, 1006), (8, 1006), (9, 1006), (10, 1006), (11, 1006), (12, 1006), (13, 1006)]),
    (48, []),
    (55, [(0, 3), (0, 8), (5, 3), (6, 3), (10, 1009), (11, 1009), (12, 1009), (14, 1009), (15, 1009)]),
    (57, [(0, 5), (6, 1005), (7, 1005), (8, 1005), (9, 1005), (10, 1005), (11, 1005), (12, 1005), (13, 1005), (7, 1006), (8, 1006), (9, 1006), (10, 1006), (11, 1006), (12, 1006), (13, 1006)]),
    (58, [(0, 2), (3, 1002), (4, 1002), (5, 1002), (6, 1002), (7, 1002), (8, 1002), (4, 1003), (5, 1003), (6, 1003), (7, 1003), (8, 1003)])]),
  (9, [(25, []),
    (26, [(39, 1038), (40, 1038)])]),
  (12, [(4, [(1, 6), (2, 6), (2, 7)]),
    (5, [(5, 3), (6, 3), (8, 7)]),
    (6, []),
    (11, [(6, 5), (7, 5)]),
    (12, []),
    (25, [(5, 3), (6, 3)]),
    (58, []),
    (64, [])]),
  (14, [(10, [(19, 20), (21, 1020), (22, 1020), (23, 1020), (24, 1020), (25, 1020), (26, 1020), (27, 1020), (28, 1020), (29, 1020), (30, 1020), (31, 1020), (32, 1020), (33, 1020), (34, 1020), (35, 1020), (36, 1020), (37, 1020), (38, 1020), (39, 1020), (40, 1020), (41, 1020), (42, 1020), (43, 1020), (44, 1020), (45, 1020), (46, 1020), (47, 1020), (48, 1020), (49, 1020), (50, 1020), (51, 1020), (52, 1020), (53, 1020), (54, 1020), (55, 1020), (56, 1020), (57, 1020), (58, 1020), (59, 1020), (60, 1020), (61, 1020), (62, 1020), (63, 1020), (64, 1020), (65, 1020), (66, 1020), (67, 1020), (68, 1020), (69, 1020), (70, 1020), (71, 1020), (72, 1020), (73, 1020), (74, 1020), (75, 1020), (76, 1020), (77, 1020), (78, 1020), (79, 1020), (80, 1020), (81, 1020), (82, 1020), (83, 1020), (84, 1020), (85, 1020), (86, 1020), (87, 1020), (88, 1020), (89, 1020), (43, 1042), (44, 1042), (45, 1042), (46, 1042), (47, 1042), (48, 1042), (49, 1042), (50, 1042), (51, 1042), (52, 1042), (53, 1042), (54, 1042), (55, 1042), (56, 1042), (57, 1042), (58, 1042), (59, 1042), (60, 1042), (61, 1042), (62, 1042), (63, 1042), (64, 1042), (65, 1042), (66, 1042), (67, 1042), (68, 1042), (69, 1042), (70, 1042), (71, 1042), (72, 1042), (73, 1042), (74, 1042), (75, 1042), (76, 1042), (77, 1042), (78, 1042), (79, 1042), (80, 1042), (81, 1042), (82, 1042), (83, 1042), (84, 1042), (85, 1042), (86, 1042), (87, 1042), (88, 1042), (89, 1042), (44, 1043), (45, 1043), (46, 1043), (47, 1043), (48, 1043), (49, 1043), (50, 1043), (51, 1043), (52, 1043), (53, 1043), (54, 1043), (55, 1043), (56, 1043), (57, 1043), (58, 1043), (59, 1043), (60, 1043), (61, 1043), (62, 1043), (63, 1043), (64, 1043), (65, 1043), (66, 1043), (67, 1043), (68, 1043), (69, 1043), (70, 1043), (71, 1043), (72, 1043), (73, 1043), (74, 1043), (75, 1043), (76, 1043), (77, 1043), (78, 1043), (79, 1043), (80, 1043), (81, 1043), (82, 1043), (83, 1043), (84, 1043), (85, 1043), (86, 1043), (87, 1043), (88, 1043), (89, 1043)])]),
  (15, [(2, [(0, 2), (3, 1002), (5, 1002), (6, 1002), (7, 1002), (8, 1002), (9, 1002), (10, 1002), (5, 1003), (6, 1003), (7, 1003), (8, 1003), (9, 1003), (10, 1003), (6, 1005), (7, 1005), (8, 1005), (9, 1005), (10, 1005)])]),
  (16, [(1, [(0, 3), (4, 1003), (5, 1003), (5, 1004)]),
    (7, [(11, 1010)])]),
  (17, [(2, [(0, 2), (3, 1002), (4, 1002), (4, 1003)]),
    (6, [(2, 3), (4, 1003), (5, 1003), (7, 1003), (8, 1003), (9, 1003), (10, 1003), (11, 1003), (12, 1003), (7, 1005), (8, 1005), (9, 1005), (10, 1005), (11, 1005), (12, 1005), (8, 1007), (9, 1007), (10, 1007), (11, 1007), (12, 1007)])]),
  (18, [(1, [(0, 3), (4, 1003), (5, 1003), (5, 1004)])]),
  (19, [(2, [(0, 2), (3, 1002), (4, 1002), (4, 1003)]),
    (3, []),
    (10, [(14, 11), (12, 1011), (15, 1011), (16, 1011), (17, 1011), (18, 1011), (19, 1011), (16, 1015), (17, 1015), (18, 1015), (19, 1015)])]),
  (20, [(1, [(0, 3), (4, 1003), (5, 1003), (5, 1004)]),
    (8, [(12, 1011)])]),
  (22, [(4, [(0, 2), (3, 1002), (4, 1002), (5, 1002), (6, 1002), (4, 1003), (5, 1003), (6, 1003)])]),
  (23, [(3, [(2, 1), (3, 1001), (4, 1001), (7, 1001), (8, 1001), (4, 1003), (7, 1003), (8, 1003)]),
    (13, [(4, 9), (5, 9), (11, 9), (10, 1009), (12, 1009), (13, 1009)]),
    (14, [(4, 3), (4, 5)]),
    (15, [])]),
  (24, [(4, [(0, 2), (3, 1002), (4, 1002), (4, 1003)]),
    (11, [(7, 5), (6, 1005), (9, 1005), (10, 1005), (11, 1005), (10, 1009), (11, 1009)])]),
  (25, [(5, [(2, 3), (4, 1003), (5, 1003), (7, 1003), (8, 1003), (9, 1003), (7, 1005), (8, 1005), (9, 1005), (8, 1007), (9, 1007), (9, 1008)])]),
  (26, [(4, [(0, 2), (3, 1002)]),
    (6, [(0, 2), (3, 1002), (4, 1002), (5, 1002), (4, 1003), (5, 1003)])]),
  (27, [(6, [])]),
  (32, [(5, [(3, 2), (4, 1002), (5, 1002), (6, 1002), (5, 1004), (6, 1004), (6, 1005)]),
    (11, [(9, 8), (3, 1001), (4, 1001), (5, 1001), (6, 1001), (7, 1001), (8, 1001), (9, 1001), (10, 1001), (11, 1001), (12, 1001), (4, 1003), (5, 1003), (6, 1003), (7, 1003), (8, 1003), (9, 1003), (10, 1003), (11, 1003), (12, 1003), (10, 1008), (11, 1008), (12, 1008), (11, 1010), (12, 1010), (12, 1011)])]),
  (34, [(4, [])]),
  (37, [(17, [(8, 1007), (9, 1007), (10, 1007), (11, 1007), (12, 1007), (13, 1007), (14, 1007), (15, 1007), (16, 1007), (17, 1007), (18, 1007), (19, 1007), (20, 1007), (21, 1007), (22, 1007), (23, 1007), (24, 1007), (25, 1007), (26, 1007), (27, 1007), (28, 1007), (29, 1007), (30, 1007), (31, 1007), (32, 1007), (33, 1007), (34, 1007), (18, 1017), (19, 1017), (20, 1017), (21, 1017), (22, 1017), (23, 1017), (24, 1017), (25, 1017), (26, 1017), (27, 1017), (28, 1017), (29, 1017), (30, 1017), (31, 1017), (32, 1017), (33, 1017), (34, 1017)])]),
  (38, [(14, [(5, 4), (6, 4), (7, 4), (10, 4), (10, 9), (10, 15), (11, 4), (11, 9), (11, 15), (13, 4), (13, 9), (14, 4), (14, 9), (18, 9), (18, 15), (18, 17), (16, 1015), (17, 1015), (19, 1015), (20, 1015), (21, 1015), (22, 1015), (23, 1015)])]),
  (40, [(8, []),
    (9, [])]),
  (41, [(4, [(7, 1006), (8, 1006), (9, 1006), (10, 1006), (11, 1006), (12, 1006), (13, 1006), (14, 1006), (15, 1006), (16, 1006), (15, 1014), (16, 1014)]),
    (9, [])]),
  (42, [(5, [(0, 6), (0, 14), (0, 16), (8, 6), (12, 6), (13, 6), (7, 1006), (14, 1006), (15, 1006), (16, 1006), (17, 1006), (18, 1006), (15, 1014), (16, 1014), (17, 1014), (18, 1014), (17, 1016), (18, 1016), (18, 1017)])]),
  (50, [(13, []),
    (19, [(9, 14), (9, 16), (10, 14), (10, 16), (11, 14), (11, 16), (12, 14), (12, 16)])]),
  (52, [(4, [(7, 1006)])]),
  (55, [(3, [(4, 2), (5, 2), (3, 1002), (6, 1002), (7, 1002), (8, 1002), (9, 1002), (7, 1006), (8, 1006), (9, 1006)])]),
  (59, [(4, [(12, 1011)])]),
  (61, [(1, [])]),
  (62, [(1, [])]),
  (73, [(3, [(10, 6), (11, 6), (12, 6), (7, 1006), (13, 1006), (14, 1006), (15, 1006), (16, 1006), (17, 1006), (18, 1006), (14, 1013), (15, 1013), (16, 1013), (17, 1013), (18, 1013), (17, 1016), (18, 1016)])]),
  (84, [(1, [(4, 2), (4, 3), (3, 1002), (5, 1002), (6, 1002), (7, 1002), (5, 1003), (6, 1003), (7, 1003), (6, 1005), (7, 1005), (7, 1006)])]),
  (87, [(1, [(3, 2), (4, 2), (6, 1002), (7, 1002)])]),
  (92, [(4, [])]),
  (93, [(1, [])]),
  (94, [(1, [])]),
  (100, [(1, []),
    (3, [(2, 9), (3, 9), (17, 24), (18, 24), (12, 1009), (13, 1009), (14, 1009), (15, 1009), (16, 1009), (17, 1009), (18, 1009), (19, 1009), (20, 1009), (21, 1009), (22, 1009), (23, 1009), (24, 1009), (25, 1009), (26, 1009), (27, 1009), (28, 1009), (29, 1009), (30, 1009), (13, 1012), (14, 1012), (15, 1012), (16, 1012), (17, 1012), (18, 1012), (19, 1012), (20, 1012), (21, 1012), (22, 1012), (23, 1012), (24, 1012), (25, 1012), (26, 1012), (27, 1012), (28, 1012), (29, 1012), (30, 1012), (27, 1024), (28, 1024), (29, 1024), (30, 1024), (28, 1027), (29, 1027), (30, 1027)])]),
  (102, [(12, [(0, 5), (1, 5), (6, 1005), (7, 1005)])]),
  (103, [(9, [(10, 1009)])]),
  (106, [(1, [])]),
  (108, [(4, [(15, 1014), (16, 1014)]),
    (6, [])]),
  (109, [(5, [(10, 1009)]),
    (11, []),
    (17, [(10, 1009), (11, 1009)]),
    (23, []),
    (35, [(12, 1011), (13, 1011)])]),
  (111, [(3, [])])]
def tyL : List (Nat × Ty) := [
  (1, ⟨.other, 1, 8, some (.nilFunc)⟩),
  (2, ⟨.int .i64, 1, 8, some (.int .i64 0)⟩),
  (3, ⟨.int .i64, 1, 8, some (.int .i64 0)⟩),
  (4, ⟨.bool, 1, 1, some (.bool false)⟩),
  (5, ⟨.int .u8, 1, 1, some (.int .u8 0)⟩),
  (6, ⟨.int .u8, 1, 1, some (.int .u8 0)⟩),
  (8, ⟨.struct [(0, 2), (1, 3), (2, 4), (3, 6)], 4, 24, some (.agg #[.int .i64 0, .int .i64 0, .bool false, .int .u8 0])⟩),
  (12, ⟨.int .u64, 1, 8, some (.int .u64 0)⟩),
  (15, ⟨.other, 1, 8, some (.pointer none)⟩),
  (16, ⟨.other, 1, 8, some (.pointer none)⟩),
  (17, ⟨.other, 1, 8, some (.pointer none)⟩),
  (19, ⟨.struct [(0, 17)], 1, 8, some (.agg #[.pointer none])⟩),
  (20, ⟨.iface, 1, 16, some (.nilIface)⟩),
  (22, ⟨.slice 65, 1, 24, some (.slice none 0 0)⟩),
  (23, ⟨.slice 71, 1, 24, some (.slice none 0 0)⟩),
  (25, ⟨.struct [(0, 22), (1, 23)], 2, 48, some (.agg #[.slice none 0 0, .slice none 0 0])⟩),
  (26, ⟨.slice 69, 1, 24, some (.slice none 0 0)⟩),
  (29, ⟨.int .i64, 1, 8, some (.int .i64 0)⟩),
  (35, ⟨.struct [(0, 3), (1, 3)], 2, 16, some (.agg #[.int .i64 0, .int .i64 0])⟩),
  (49, ⟨.slice 5, 1, 24, some (.slice none 0 0)⟩),
  (50, ⟨.slice 78, 1, 24, some (.slice none 0 0)⟩),
  (51, ⟨.slice 66, 1, 24, some (.slice none 0 0)⟩),
  (52, ⟨.slice 67, 1, 24, some (.slice none 0 0)⟩),
  (53, ⟨.slice 3, 1, 24, some (.slice none 0 0)⟩),
  (55, ⟨.struct [(0, 51), (1, 52), (2, 53)], 3, 72, some (.agg #[.slice none 0 0, .slice none 0 0, .slice none 0 0])⟩),
  (62, ⟨.struct [(0, 35), (2, 3)], 3, 24, some (.agg #[.int .i64 0, .int .i64 0, .int .i64 0])⟩),
  (63, ⟨.array 2 62, 6, 48, some (.agg #[.int .i64 0, .int .i64 0, .int .i64 0, .int .i64 0, .int .i64 0, .int .i64 0])⟩),
  (65, ⟨.struct [(0, 35), (2, 63)], 8, 64, some (.agg #[.int .i64 0, .int .i64 0, .int .i64 0, .int .i64 0, .int .i64 0, .int .i64 0, .int .i64 0, .int .i64 0])⟩),
  (66, ⟨.array 2 4, 2, 2, some (.agg #[.bool false, .bool false])⟩),
  (67, ⟨.array 2 3, 2, 16, some (.agg #[.int .i64 0, .int .i64 0])⟩),
  (69, ⟨.struct [(0, 3), (1, 3)], 2, 16, some (.agg #[.int .i64 0, .int .i64 0])⟩),
  (71, ⟨.struct [(0, 3), (1, 3)], 2, 16, some (.agg #[.int .i64 0, .int .i64 0])⟩),
  (75, ⟨.other, 1, 8, some (.nilFunc)⟩),
  (76, ⟨.other, 1, 8, some (.nilFunc)⟩),
  (78, ⟨.int .u16, 1, 2, some (.int .u16 0)⟩),
  (80, ⟨.other, 1, 8, some (.pointer none)⟩),
  (81, ⟨.other, 1, 8, some (.pointer none)⟩),
  (84, ⟨.other, 1, 8, some (.pointer none)⟩),
  (86, ⟨.other, 1, 8, some (.pointer none)⟩),
  (88, ⟨.other, 1, 8, some (.nilFunc)⟩),
  (96, ⟨.struct [(0, 3)], 1, 8, some (.agg #[.int .i64 0])⟩),
  (98, ⟨.struct [(0, 96)], 1, 8, some (.agg #[.int .i64 0])⟩),
  (101, ⟨.other, 1, 8, some (.nilFunc)⟩),
  (102, ⟨.other, 1, 8, some (.nilFunc)⟩),
  (104, ⟨.array 5 63, 30, 240, some (.agg #[.int .i64 0, .int .i64 0, .int .i64 0, .int .i64 0, .int .i64 0, .int .i64 0, .int .i64 0, .int .i64 0, .int .i64 0, .int .i64 0, .int .i64 0, .int .i64 0, .int .i64 0, .int .i64 0, .int .i64 0, .int .i64 0, .int .i64 0, .int .i64 0, .int .i64 0, .int .i64 0, .int .i64 0, .int .i64 0, .int .i64 0, .int .i64 0, .int .i64 0, .int .i64 0, .int .i64 0, .int .i64 0, .int .i64 0, .int .i64 0])⟩),
  (106, ⟨.iface, 1, 16, some (.nilIface)⟩),
  (107, ⟨.map 71 4, 1, 8, some (.map none)⟩),
  (109, ⟨.struct [(0, 25), (2, 104), (32, 106), (33, 107)], 34, 312, some (.agg #[.slice none 0 0, .slice none 0 0, .int .i64 0, .int .i64 0, .int .i64 0, .int .i64 0, .int .i64 0, .int .i64 0, .int .i64 0, .int .i64 0, .int .i64 0, .int .i64 0, .int .i64 0, .int .i64 0, .int .i64 0, .int .i64 0, .int .i64 0, .int .i64 0, .int .i64 0, .int .i64 0, .int .i64 0, .int .i64 0, .int .i64 0, .int .i64 0, .int .i64 0, .int .i64 0, .int .i64 0, .int .i64 0, .int .i64 0, .int .i64 0, .int .i64 0, .int .i64 0, .nilIface, .map none])⟩),
  (110, ⟨.slice 35, 1, 24, some (.slice none 0 0)⟩),
  (114, ⟨.struct [(0, 3), (1, 3)], 2, 16, some (.agg #[.int .i64 0, .int .i64 0])⟩),
  (115, ⟨.other, 1, 8, some (.nilFunc)⟩),
  (117, ⟨.int .u64, 1, 8, some (.int .u64 0)⟩),
  (120, ⟨.struct [(0, 117), (1, 69), (3, 4)], 4, 32, some (.agg #[.int .u64 0, .int .i64 0, .int .i64 0, .bool false])⟩),
  (121, ⟨.slice 26, 1, 24, some (.slice none 0 0)⟩),
  (124, ⟨.other, 1, 8, some (.nilFunc)⟩),
  (125, ⟨.other, 1, 8, some (.nilFunc)⟩),
  (128, ⟨.other, 1, 8, some (.nilFunc)⟩),
  (129, ⟨.slice 117, 1, 24, some (.slice none 0 0)⟩),
  (133, ⟨.other, 1, 8, some (.nilFunc)⟩),
  (137, ⟨.struct [(0, 128)], 1, 8, some (.agg #[.nilFunc])⟩),
  (142, ⟨.other, 1, 8, some (.nilFunc)⟩),
  (143, ⟨.other, 1, 8, some (.nilFunc)⟩),
  (144, ⟨.map 3 4, 1, 8, some (.map none)⟩),
  (146, ⟨.map 3 3, 1, 8, some (.map none)⟩),
  (149, ⟨.struct [(0, 29)], 1, 8, some (.agg #[.int .i64 0])⟩),
  (153, ⟨.map 120 114, 1, 8, some (.map none)⟩),
  (155, ⟨.other, 1, 8, some (.nilFunc)⟩),
  (158, ⟨.int .u32, 1, 4, some (.int .u32 0)⟩),
  (160, ⟨.int .u64, 1, 8, some (.int .u64 0)⟩),
  (172, ⟨.int .u8, 1, 1, some (.int .u8 0)⟩)]
def eqL : List (Nat × (Bool × List (Option IntKind))) := [
  (2, (false, [some .i64])),
  (3, (false, [some .i64])),
  (4, (false, [none])),
  (5, (false, [some .u8])),
  (6, (false, [some .u8])),
  (8, (true, [some .i64, some .i64, none, some .u8])),
  (12, (false, [some .u64])),
  (29, (false, [some .i64])),
  (35, (true, [some .i64, some .i64])),
  (62, (true, [some .i64, some .i64, some .i64])),
  (63, (true, [some .i64, some .i64, some .i64, some .i64, some .i64, some .i64])),
  (65, (true, [some .i64, some .i64, some .i64, some .i64, some .i64, some .i64, some .i64, some .i64])),
  (66, (true, [none, none])),
  (67, (true, [some .i64, some .i64])),
  (69, (true, [some .i64, some .i64])),
  (71, (true, [some .i64, some .i64])),
  (78, (false, [some .u16])),
  (96, (true, [some .i64])),
  (98, (true, [some .i64])),
  (104, (true, [some .i64, some .i64, some .i64, some .i64, some .i64, some .i64, some .i64, some .i64, some .i64, some .i64, some .i64, some .i64, some .i64, some .i64, some .i64, some .i64, some .i64, some .i64, some .i64, some .i64, some .i64, some .i64, some .i64, some .i64, some .i64, some .i64, some .i64, some .i64, some .i64, some .i64])),
  (114, (true, [some .i64, some .i64])),
  (117, (false, [some .u64])),
  (120, (true, [some .u64, some .i64, some .i64, none])),
  (149, (true, [some .i64])),
  (158, (false, [some .u32])),
  (160, (false, [some .u64])),
  (172, (false, [some .u8]))]
def methL : List (Nat × List (String × FuncId)) := [
  (8, [("Error", 112), ("RuntimeError", 113)]),
  (10, [("Error", 114), ("RuntimeError", 115)]),
  (11, [("Error", 116), ("RuntimeError", 117)]),
  (14, [("Error", 118), ("RuntimeError", 119)]),
  (19, [("Error", 125), ("RuntimeError", 126)]),
  (55, [("blockworks/blockworkslaw05.look", 40)]),
  (96, [("blockworks/wring.whole", 127)]),
  (98, [("blockworks/wring.whole", 128)]),
  (104, [("blockworks/wring.above", 61), ("blockworks/wring.below", 62)]),
  (109, [("blockworks/wring.in", 57)]),
  (172, [("String", 129)])]
noncomputable def fnL : List (Nat × Func) := [
  (0, Go.Proofs.Try.f0),
  (1, Go.Proofs.Try.f1),
  (2, Go.Proofs.Try.f2),
  (3, Go.Proofs.Try.f3),
  (4, Go.Proofs.Try.f4),
  (5, Go.Proofs.Try.f5),
  (6, Go.Proofs.Try.f6),
  (7, Go.Proofs.Try.f7),
  (8, Go.Proofs.Try.f8),
  (9, Go.Proofs.Try.f9),
  (10, Go.Proofs.Try.f10),
  (11, Go.Proofs.Try.f11),
  (12, Go.Proofs.Try.f12),
  (13, Go.Proofs.Try.f13),
  (14, Go.Proofs.Try.f14),
  (15, Go.Proofs.Try.f15),
  (16, Go.Proofs.Try.f16),
  (17, Go.Proofs.Try.f17),
  (18, Go.Proofs.Try.f18),
  (19, Go.Proofs.Try.f19),
  (20, Go.Proofs.Try.f20),
  (21, Go.Proofs.Try.f21),
  (22, Go.Proofs.Try.f22),
  (23, Go.Proofs.Try.f23),
  (24, Go.Proofs.Try.f24),
  (25, Go.Proofs.Try.f25),
  (26, Go.Proofs.Try.f26),
  (27, Go.Proofs.Try.f27),
  (28, Go.Proofs.Try.f28),
  (29, Go.Proofs.Try.f29),
  (30, Go.Proofs.Try.f30),
  (31, Go.Proofs.Try.f31),
  (32, Go.Proofs.Try.f32),
  (33, Go.Proofs.Try.f33),
  (34, Go.Proofs.Try.f34),
  (35, Go.Proofs.Try.f35),
  (36, Go.Proofs.Try.f36),
  (37, Go.Proofs.Try.f37),
  (38, Go.Proofs.Try.f38),
  (39, Go.Proofs.Try.f39),
  (40, Go.Proofs.Try.f40),
  (41, Go.Proofs.Try.f41),
  (42, Go.Proofs.Try.f42),
  (43, Go.Proofs.Try.f43),
  (44, Go.Proofs.Try.f44),
  (45, Go.Proofs.Try.f45),
  (46, Go.Proofs.Try.f46),
  (47, Go.Proofs.Try.f47),
  (48, Go.Proofs.Try.f48),
  (49, Go.Proofs.Try.f49),
  (50, Go.Proofs.Try.f50),
  (51, Go.Proofs.Try.f51),
  (52, Go.Proofs.Try.f52),
  (53, Go.Proofs.Try.f53),
  (54, Go.Proofs.Try.f54),
  (55, Go.Proofs.Try.f55),
  (56, Go.Proofs.Try.f56),
  (57, Go.Proofs.Try.f57),
  (58, Go.Proofs.Try.f58),
  (59, Go.Proofs.Try.f59),
  (60, Go.Proofs.Try.f60),
  (61, Go.Proofs.Try.f61),
  (62, Go.Proofs.Try.f62),
  (63, Go.Proofs.Try.f63),
  (64, Go.Proofs.Try.f64),
  (65, Go.Proofs.Try.f65),
  (66, Go.Proofs.Try.f66),
  (67, Go.Proofs.Try.f67),
  (68, Go.Proofs.Try.f68),
  (69, Go.Proofs.Try.f69),
  (70, Go.Proofs.Try.f70),
  (71, Go.Proofs.Try.f71),
  (72, Go.Proofs.Try.f72),
  (73, Go.Proofs.Try.f73),
  (74, Go.Proofs.Try.f74),
  (75, Go.Proofs.Try.f75),
  (76, Go.Proofs.Try.f76),
  (77, Go.Proofs.Try.f77),
  (78, Go.Proofs.Try.f78),
  (79, Go.Proofs.Try.f79),
  (80, Go.Proofs.Try.f80),
  (81, Go.Proofs.Try.f81),
  (82, Go.Proofs.Try.f82),
  (83, Go.Proofs.Try.f83),
  (84, Go.Proofs.Try.f84),
  (85, Go.Proofs.Try.f85),
  (86, Go.Proofs.Try.f86),
  (87, Go.Proofs.Try.f87),
  (88, Go.Proofs.Try.f88),
  (89, Go.Proofs.Try.f89),
  (90, Go.Proofs.Try.f90),
  (91, Go.Proofs.Try.f91),
  (92, Go.Proofs.Try.f92),
  (93, Go.Proofs.Try.f93),
  (94, Go.Proofs.Try.f94),
  (95, Go.Proofs.Try.f95),
  (96, Go.Proofs.Try.f96),
  (97, Go.Proofs.Try.f97),
  (98, Go.Proofs.Try.f98),
  (99, Go.Proofs.Try.f99),
  (100, Go.Proofs.Try.f100),
  (101, Go.Proofs.Try.f101),
  (102, Go.Proofs.Try.f102),
  (103, Go.Proofs.Try.f103),
  (104, Go.Proofs.Try.f104),
  (105, Go.Proofs.Try.f105),
  (106, Go.Proofs.Try.f106),
  (107, Go.Proofs.Try.f107),
  (108, Go.Proofs.Try.f108),
  (109, Go.Proofs.Try.f109),
  (110, Go.Proofs.Try.f110),
  (111, Go.Proofs.Try.f111),
  (112, Go.Proofs.Try.f112),
  (113, Go.Proofs.Try.f113),
  (114, Go.Proofs.Try.f114),
  (115, Go.Proofs.Try.f115),
  (116, Go.Proofs.Try.f116),
  (117, Go.Proofs.Try.f117),
  (118, Go.Proofs.Try.f118),
  (119, Go.Proofs.Try.f119),
  (120, Go.Proofs.Try.f120),
  (121, Go.Proofs.Try.f121),
  (122, Go.Proofs.Try.f122),
  (123, Go.Proofs.Try.f123),
  (124, Go.Proofs.Try.f124),
  (125, Go.Proofs.Try.f125),
  (126, Go.Proofs.Try.f126),
  (127, Go.Proofs.Try.f127),
  (128, Go.Proofs.Try.f128),
  (129, Go.Proofs.Try.f129)]
def gcL : List (Nat × List (Nat × (List Nat × Nat))) := [
  (8, [(10, ([2, 5, 6, 7, 8, 9, 11, 13, 14, 15], 5)), (11, ([2, 5, 6, 7, 8, 9, 11, 13, 14, 15, 120, 121, 122], 14)), (16, ([2, 5, 6, 7, 8, 9, 11, 13, 14, 15, 17, 18, 19, 20, 120, 121, 122, 127, 128], 18)), (24, ([2, 5, 6, 7, 8, 9, 11, 13, 14, 15], 5)), (30, ([2, 5, 6, 7, 8, 9, 11, 13, 29, 228, 229], 6)), (35, ([2, 5, 6, 7, 8, 9, 11, 13, 29], 5)), (46, ([2, 5, 6, 7, 36, 39, 42, 312, 313, 314], 6))]),
  (12, [(14, ([1, 2, 3, 7, 8, 9, 10], 4)), (15, ([1, 3, 7, 8, 9, 10, 163, 164], 6)), (21, ([1, 3, 7, 8, 9, 10, 192, 193, 194], 6)), (25, ([1, 3, 7, 8, 9, 10], 4)), (26, ([1, 3, 7, 8, 9, 10, 18, 19], 4))]),
  (19, [(6, ([1, 2, 4, 5, 6, 7, 8, 9, 22, 23, 24], 8))]),
  (37, [(4, ([1, 3], 1)), (9, ([1, 3, 4], 1))]),
  (38, [(2, ([2, 3, 4, 5], 4)), (4, ([4, 6, 15, 16, 17], 7)), (9, ([4, 6, 8, 9, 10, 15, 16, 17, 22, 23], 10))]),
  (40, [(3, ([2, 3, 4, 6, 7, 8, 14, 15, 16], 2)), (12, ([2, 3, 4, 6, 7, 8, 10, 11, 14, 15, 16, 80, 81, 82], 4))]),
  (44, [(3, ([1, 2, 4, 5, 6], 4)), (4, ([1, 2, 4, 5, 6, 13, 14, 15], 6)), (11, ([1, 4, 5, 6, 38, 39, 40], 6))]),
  (47, [(2, ([1, 2, 4, 5], 3)), (3, ([1, 2, 4, 5, 6], 4))]),
  (50, [(5, ([1, 2, 5, 6, 31, 32, 33], 3)), (9, ([1, 2, 5, 6, 7, 8, 31, 32, 33, 44, 45], 4)), (16, ([1, 6, 68, 69, 70], 3))]),
  (52, [(2, ([0, 1, 10, 11, 12], 0))]),
  (63, [(2, ([2, 5, 6, 7], 1))]),
  (69, [(0, ([0, 1, 2, 3, 4], 0)), (7, ([1, 2, 3, 4, 5, 11, 12], 2)), (11, ([1, 2, 3, 4, 5, 11, 12, 13], 2))]),
  (99, [(3, ([0, 1, 4, 8, 9, 10], 1))]),
  (101, [(2, ([1, 2, 3, 7], 1))])]
def nilsL : List (Nat × List (Nat × List NT)) := [
  (8, [(10, [⟨13, some 0, 2⟩, ⟨13, some 1, 2⟩, ⟨13, some 2, 1⟩, ⟨14, some 0, 2⟩, ⟨14, some 1, 2⟩, ⟨14, some 2, 1⟩, ⟨15, some 0, 2⟩, ⟨15, some 1, 2⟩, ⟨15, some 2, 1⟩]), (24, []), (35, [])]),
  (12, [(14, [⟨10, some 0, 8⟩, ⟨10, some 1, 2⟩]), (25, []), (26, [])]),
  (38, [(2, [⟨4, some 0, 2⟩, ⟨4, some 1, 2⟩, ⟨4, some 2, 1⟩])]),
  (44, [(3, [⟨5, some 0, 8⟩, ⟨5, some 1, 2⟩])]),
  (47, [(2, [⟨5, some 0, 8⟩])]),
  (69, [(0, [⟨4, none, 1⟩]), (11, [])])]
def growL : List (Nat × List Nat) := [
  (8, [29]),
  (19, [9]),
  (23, [9, 999998]),
  (34, [2]),
  (39, [4]),
  (78, [2, 999999])]
def at2 {α : Type} (l : List (Nat × List (Nat × α))) (f id : Nat) : Option α :=
  match getAt l f with
  | some r => getAt r id
  | none => none
def methT (t : TypeId) (n : String) : Option FuncId :=
  match getAt methL t with
  | some r => (r.find? fun x => x.1 == n).map (·.2)
  | none => none
def growT (f x : Nat) : Bool :=
  match getAt growL f with
  | some r => r.contains x
  | none => false
noncomputable def cfg0 : Cfg := ⟨at2 gcL, at2 nilsL, growT, at2 planL, getAt globL, getAt tyL, getAt eqL, methT, getAt fnL⟩
noncomputable abbrev prog0 : Program := Go.Proofs.Try.prog

theorem globO (C : Cfg) (e : Env) (g : Nat) : opd C e (.global g) = match C.glob g with
    | some v => .vptr v 0
    | none => .undef := rfl
theorem ty1 : cfg0.ty 1 = some ⟨.other, 1, 8, some (.nilFunc)⟩ := rfl
theorem ty2 : cfg0.ty 2 = some ⟨.int .i64, 1, 8, some (.int .i64 0)⟩ := rfl
theorem ty3 : cfg0.ty 3 = some ⟨.int .i64, 1, 8, some (.int .i64 0)⟩ := rfl
theorem ty4 : cfg0.ty 4 = some ⟨.bool, 1, 1, some (.bool false)⟩ := rfl
theorem ty5 : cfg0.ty 5 = some ⟨.int .u8, 1, 1, some (.int .u8 0)⟩ := rfl
theorem ty6 : cfg0.ty 6 = some ⟨.int .u8, 1, 1, some (.int .u8 0)⟩ := rfl
theorem ty8 : cfg0.ty 8 = some ⟨.struct [(0, 2), (1, 3), (2, 4), (3, 6)], 4, 24, some (.agg #[.int .i64 0, .int .i64 0, .bool false, .int .u8 0])⟩ := rfl
theorem ty12 : cfg0.ty 12 = some ⟨.int .u64, 1, 8, some (.int .u64 0)⟩ := rfl
theorem ty15 : cfg0.ty 15 = some ⟨.other, 1, 8, some (.pointer none)⟩ := rfl
theorem ty16 : cfg0.ty 16 = some ⟨.other, 1, 8, some (.pointer none)⟩ := rfl
theorem ty17 : cfg0.ty 17 = some ⟨.other, 1, 8, some (.pointer none)⟩ := rfl
theorem ty19 : cfg0.ty 19 = some ⟨.struct [(0, 17)], 1, 8, some (.agg #[.pointer none])⟩ := rfl
theorem ty20 : cfg0.ty 20 = some ⟨.iface, 1, 16, some (.nilIface)⟩ := rfl
theorem ty22 : cfg0.ty 22 = some ⟨.slice 65, 1, 24, some (.slice none 0 0)⟩ := rfl
theorem ty23 : cfg0.ty 23 = some ⟨.slice 71, 1, 24, some (.slice none 0 0)⟩ := rfl
theorem ty25 : cfg0.ty 25 = some ⟨.struct [(0, 22), (1, 23)], 2, 48, some (.agg #[.slice none 0 0, .slice none 0 0])⟩ := rfl
theorem ty26 : cfg0.ty 26 = some ⟨.slice 69, 1, 24, some (.slice none 0 0)⟩ := rfl
theorem ty29 : cfg0.ty 29 = some ⟨.int .i64, 1, 8, some (.int .i64 0)⟩ := rfl
theorem ty35 : cfg0.ty 35 = some ⟨.struct [(0, 3), (1, 3)], 2, 16, some (.agg #[.int .i64 0, .int .i64 0])⟩ := rfl
theorem ty49 : cfg0.ty 49 = some ⟨.slice 5, 1, 24, some (.slice none 0 0)⟩ := rfl
theorem ty50 : cfg0.ty 50 = some ⟨.slice 78, 1, 24, some (.slice none 0 0)⟩ := rfl
theorem ty51 : cfg0.ty 51 = some ⟨.slice 66, 1, 24, some (.slice none 0 0)⟩ := rfl
theorem ty52 : cfg0.ty 52 = some ⟨.slice 67, 1, 24, some (.slice none 0 0)⟩ := rfl
theorem ty53 : cfg0.ty 53 = some ⟨.slice 3, 1, 24, some (.slice none 0 0)⟩ := rfl
theorem ty55 : cfg0.ty 55 = some ⟨.struct [(0, 51), (1, 52), (2, 53)], 3, 72, some (.agg #[.slice none 0 0, .slice none 0 0, .slice none 0 0])⟩ := rfl
theorem ty62 : cfg0.ty 62 = some ⟨.struct [(0, 35), (2, 3)], 3, 24, some (.agg #[.int .i64 0, .int .i64 0, .int .i64 0])⟩ := rfl
theorem ty63 : cfg0.ty 63 = some ⟨.array 2 62, 6, 48, some (.agg #[.int .i64 0, .int .i64 0, .int .i64 0, .int .i64 0, .int .i64 0, .int .i64 0])⟩ := rfl
theorem ty65 : cfg0.ty 65 = some ⟨.struct [(0, 35), (2, 63)], 8, 64, some (.agg #[.int .i64 0, .int .i64 0, .int .i64 0, .int .i64 0, .int .i64 0, .int .i64 0, .int .i64 0, .int .i64 0])⟩ := rfl
theorem ty66 : cfg0.ty 66 = some ⟨.array 2 4, 2, 2, some (.agg #[.bool false, .bool false])⟩ := rfl
theorem ty67 : cfg0.ty 67 = some ⟨.array 2 3, 2, 16, some (.agg #[.int .i64 0, .int .i64 0])⟩ := rfl
theorem ty69 : cfg0.ty 69 = some ⟨.struct [(0, 3), (1, 3)], 2, 16, some (.agg #[.int .i64 0, .int .i64 0])⟩ := rfl
theorem ty71 : cfg0.ty 71 = some ⟨.struct [(0, 3), (1, 3)], 2, 16, some (.agg #[.int .i64 0, .int .i64 0])⟩ := rfl
theorem ty75 : cfg0.ty 75 = some ⟨.other, 1, 8, some (.nilFunc)⟩ := rfl
theorem ty76 : cfg0.ty 76 = some ⟨.other, 1, 8, some (.nilFunc)⟩ := rfl
theorem ty78 : cfg0.ty 78 = some ⟨.int .u16, 1, 2, some (.int .u16 0)⟩ := rfl
theorem ty80 : cfg0.ty 80 = some ⟨.other, 1, 8, some (.pointer none)⟩ := rfl
theorem ty81 : cfg0.ty 81 = some ⟨.other, 1, 8, some (.pointer none)⟩ := rfl
theorem ty84 : cfg0.ty 84 = some ⟨.other, 1, 8, some (.pointer none)⟩ := rfl
theorem ty86 : cfg0.ty 86 = some ⟨.other, 1, 8, some (.pointer none)⟩ := rfl
theorem ty88 : cfg0.ty 88 = some ⟨.other, 1, 8, some (.nilFunc)⟩ := rfl
theorem ty96 : cfg0.ty 96 = some ⟨.struct [(0, 3)], 1, 8, some (.agg #[.int .i64 0])⟩ := rfl
theorem ty98 : cfg0.ty 98 = some ⟨.struct [(0, 96)], 1, 8, some (.agg #[.int .i64 0])⟩ := rfl
theorem ty101 : cfg0.ty 101 = some ⟨.other, 1, 8, some (.nilFunc)⟩ := rfl
theorem ty102 : cfg0.ty 102 = some ⟨.other, 1, 8, some (.nilFunc)⟩ := rfl
theorem ty104 : cfg0.ty 104 = some ⟨.array 5 63, 30, 240, some (.agg #[.int .i64 0, .int .i64 0, .int .i64 0, .int .i64 0, .int .i64 0, .int .i64 0, .int .i64 0, .int .i64 0, .int .i64 0, .int .i64 0, .int .i64 0, .int .i64 0, .int .i64 0, .int .i64 0, .int .i64 0, .int .i64 0, .int .i64 0, .int .i64 0, .int .i64 0, .int .i64 0, .int .i64 0, .int .i64 0, .int .i64 0, .int .i64 0, .int .i64 0, .int .i64 0, .int .i64 0, .int .i64 0, .int .i64 0, .int .i64 0])⟩ := rfl
theorem ty106 : cfg0.ty 106 = some ⟨.iface, 1, 16, some (.nilIface)⟩ := rfl
theorem ty107 : cfg0.ty 107 = some ⟨.map 71 4, 1, 8, some (.map none)⟩ := rfl
theorem ty109 : cfg0.ty 109 = some ⟨.struct [(0, 25), (2, 104), (32, 106), (33, 107)], 34, 312, some (.agg #[.slice none 0 0, .slice none 0 0, .int .i64 0, .int .i64 0, .int .i64 0, .int .i64 0, .int .i64 0, .int .i64 0, .int .i64 0, .int .i64 0, .int .i64 0, .int .i64 0, .int .i64 0, .int .i64 0, .int .i64 0, .int .i64 0, .int .i64 0, .int .i64 0, .int .i64 0, .int .i64 0, .int .i64 0, .int .i64 0, .int .i64 0, .int .i64 0, .int .i64 0, .int .i64 0, .int .i64 0, .int .i64 0, .int .i64 0, .int .i64 0, .int .i64 0, .int .i64 0, .nilIface, .map none])⟩ := rfl
theorem ty110 : cfg0.ty 110 = some ⟨.slice 35, 1, 24, some (.slice none 0 0)⟩ := rfl
theorem ty114 : cfg0.ty 114 = some ⟨.struct [(0, 3), (1, 3)], 2, 16, some (.agg #[.int .i64 0, .int .i64 0])⟩ := rfl
theorem ty115 : cfg0.ty 115 = some ⟨.other, 1, 8, some (.nilFunc)⟩ := rfl
theorem ty117 : cfg0.ty 117 = some ⟨.int .u64, 1, 8, some (.int .u64 0)⟩ := rfl
theorem ty120 : cfg0.ty 120 = some ⟨.struct [(0, 117), (1, 69), (3, 4)], 4, 32, some (.agg #[.int .u64 0, .int .i64 0, .int .i64 0, .bool false])⟩ := rfl
theorem ty121 : cfg0.ty 121 = some ⟨.slice 26, 1, 24, some (.slice none 0 0)⟩ := rfl
theorem ty124 : cfg0.ty 124 = some ⟨.other, 1, 8, some (.nilFunc)⟩ := rfl
theorem ty125 : cfg0.ty 125 = some ⟨.other, 1, 8, some (.nilFunc)⟩ := rfl
theorem ty128 : cfg0.ty 128 = some ⟨.other, 1, 8, some (.nilFunc)⟩ := rfl
theorem ty129 : cfg0.ty 129 = some ⟨.slice 117, 1, 24, some (.slice none 0 0)⟩ := rfl
theorem ty133 : cfg0.ty 133 = some ⟨.other, 1, 8, some (.nilFunc)⟩ := rfl
theorem ty137 : cfg0.ty 137 = some ⟨.struct [(0, 128)], 1, 8, some (.agg #[.nilFunc])⟩ := rfl
theorem ty142 : cfg0.ty 142 = some ⟨.other, 1, 8, some (.nilFunc)⟩ := rfl
theorem ty143 : cfg0.ty 143 = some ⟨.other, 1, 8, some (.nilFunc)⟩ := rfl
theorem ty144 : cfg0.ty 144 = some ⟨.map 3 4, 1, 8, some (.map none)⟩ := rfl
theorem ty146 : cfg0.ty 146 = some ⟨.map 3 3, 1, 8, some (.map none)⟩ := rfl
theorem ty149 : cfg0.ty 149 = some ⟨.struct [(0, 29)], 1, 8, some (.agg #[.int .i64 0])⟩ := rfl
theorem ty153 : cfg0.ty 153 = some ⟨.map 120 114, 1, 8, some (.map none)⟩ := rfl
theorem ty155 : cfg0.ty 155 = some ⟨.other, 1, 8, some (.nilFunc)⟩ := rfl
theorem ty158 : cfg0.ty 158 = some ⟨.int .u32, 1, 4, some (.int .u32 0)⟩ := rfl
theorem ty160 : cfg0.ty 160 = some ⟨.int .u64, 1, 8, some (.int .u64 0)⟩ := rfl
theorem ty172 : cfg0.ty 172 = some ⟨.int .u8, 1, 1, some (.int .u8 0)⟩ := rfl
theorem ifc20 : isIfc prog0 20 = true := by kernel_rfl
theorem ifc106 : isIfc prog0 106 = true := by kernel_rfl
theorem eqt2 : cfg0.eqt 2 = some (false, [some .i64]) := rfl
theorem eqt3 : cfg0.eqt 3 = some (false, [some .i64]) := rfl
theorem eqt4 : cfg0.eqt 4 = some (false, [none]) := rfl
theorem eqt5 : cfg0.eqt 5 = some (false, [some .u8]) := rfl
theorem eqt6 : cfg0.eqt 6 = some (false, [some .u8]) := rfl
theorem eqt8 : cfg0.eqt 8 = some (true, [some .i64, some .i64, none, some .u8]) := rfl
theorem eqt12 : cfg0.eqt 12 = some (false, [some .u64]) := rfl
theorem eqt29 : cfg0.eqt 29 = some (false, [some .i64]) := rfl
theorem eqt35 : cfg0.eqt 35 = some (true, [some .i64, some .i64]) := rfl
theorem eqt62 : cfg0.eqt 62 = some (true, [some .i64, some .i64, some .i64]) := rfl
theorem eqt63 : cfg0.eqt 63 = some (true, [some .i64, some .i64, some .i64, some .i64, some .i64, some .i64]) := rfl
theorem eqt65 : cfg0.eqt 65 = some (true, [some .i64, some .i64, some .i64, some .i64, some .i64, some .i64, some .i64, some .i64]) := rfl
theorem eqt66 : cfg0.eqt 66 = some (true, [none, none]) := rfl
theorem eqt67 : cfg0.eqt 67 = some (true, [some .i64, some .i64]) := rfl
theorem eqt69 : cfg0.eqt 69 = some (true, [some .i64, some .i64]) := rfl
theorem eqt71 : cfg0.eqt 71 = some (true, [some .i64, some .i64]) := rfl
theorem eqt78 : cfg0.eqt 78 = some (false, [some .u16]) := rfl
theorem eqt96 : cfg0.eqt 96 = some (true, [some .i64]) := rfl
theorem eqt98 : cfg0.eqt 98 = some (true, [some .i64]) := rfl
theorem eqt104 : cfg0.eqt 104 = some (true, [some .i64, some .i64, some .i64, some .i64, some .i64, some .i64, some .i64, some .i64, some .i64, some .i64, some .i64, some .i64, some .i64, some .i64, some .i64, some .i64, some .i64, some .i64, some .i64, some .i64, some .i64, some .i64, some .i64, some .i64, some .i64, some .i64, some .i64, some .i64, some .i64, some .i64]) := rfl
theorem eqt114 : cfg0.eqt 114 = some (true, [some .i64, some .i64]) := rfl
theorem eqt117 : cfg0.eqt 117 = some (false, [some .u64]) := rfl
theorem eqt120 : cfg0.eqt 120 = some (true, [some .u64, some .i64, some .i64, none]) := rfl
theorem eqt149 : cfg0.eqt 149 = some (true, [some .i64]) := rfl
theorem eqt158 : cfg0.eqt 158 = some (false, [some .u32]) := rfl
theorem eqt160 : cfg0.eqt 160 = some (false, [some .u64]) := rfl
theorem eqt172 : cfg0.eqt 172 = some (false, [some .u8]) := rfl
theorem meth40 : cfg0.meth 55 "blockworks/blockworkslaw05.look" = some 40 := rfl
theorem meth127 : cfg0.meth 96 "blockworks/wring.whole" = some 127 := rfl
theorem meth128 : cfg0.meth 98 "blockworks/wring.whole" = some 128 := rfl
theorem meth61 : cfg0.meth 104 "blockworks/wring.above" = some 61 := rfl
theorem meth62 : cfg0.meth 104 "blockworks/wring.below" = some 62 := rfl
theorem meth57 : cfg0.meth 109 "blockworks/wring.in" = some 57 := rfl
theorem fn12 : cfg0.fns 12 = some Go.Proofs.Try.f12 := rfl
theorem fn13 : cfg0.fns 13 = some Go.Proofs.Try.f13 := rfl
theorem fn14 : cfg0.fns 14 = some Go.Proofs.Try.f14 := rfl
theorem fn15 : cfg0.fns 15 = some Go.Proofs.Try.f15 := rfl
theorem fn17 : cfg0.fns 17 = some Go.Proofs.Try.f17 := rfl
theorem fn19 : cfg0.fns 19 = some Go.Proofs.Try.f19 := rfl
theorem fn21 : cfg0.fns 21 = some Go.Proofs.Try.f21 := rfl
theorem fn23 : cfg0.fns 23 = some Go.Proofs.Try.f23 := rfl
theorem fn25 : cfg0.fns 25 = some Go.Proofs.Try.f25 := rfl
theorem fn27 : cfg0.fns 27 = some Go.Proofs.Try.f27 := rfl
theorem fn29 : cfg0.fns 29 = some Go.Proofs.Try.f29 := rfl
theorem fn31 : cfg0.fns 31 = some Go.Proofs.Try.f31 := rfl
theorem fn33 : cfg0.fns 33 = some Go.Proofs.Try.f33 := rfl
theorem fn34 : cfg0.fns 34 = some Go.Proofs.Try.f34 := rfl
theorem fn35 : cfg0.fns 35 = some Go.Proofs.Try.f35 := rfl
theorem fn36 : cfg0.fns 36 = some Go.Proofs.Try.f36 := rfl
theorem fn37 : cfg0.fns 37 = some Go.Proofs.Try.f37 := rfl
theorem fn39 : cfg0.fns 39 = some Go.Proofs.Try.f39 := rfl
theorem fn48 : cfg0.fns 48 = some Go.Proofs.Try.f48 := rfl
theorem fn49 : cfg0.fns 49 = some Go.Proofs.Try.f49 := rfl
theorem fn50 : cfg0.fns 50 = some Go.Proofs.Try.f50 := rfl
theorem fn51 : cfg0.fns 51 = some Go.Proofs.Try.f51 := rfl
theorem fn52 : cfg0.fns 52 = some Go.Proofs.Try.f52 := rfl
theorem fn53 : cfg0.fns 53 = some Go.Proofs.Try.f53 := rfl
theorem fn56 : cfg0.fns 56 = some Go.Proofs.Try.f56 := rfl
theorem fn57 : cfg0.fns 57 = some Go.Proofs.Try.f57 := rfl
theorem fn58 : cfg0.fns 58 = some Go.Proofs.Try.f58 := rfl
theorem fn60 : cfg0.fns 60 = some Go.Proofs.Try.f60 := rfl
theorem fn61 : cfg0.fns 61 = some Go.Proofs.Try.f61 := rfl
theorem fn62 : cfg0.fns 62 = some Go.Proofs.Try.f62 := rfl
theorem fn63 : cfg0.fns 63 = some Go.Proofs.Try.f63 := rfl
theorem fn65 : cfg0.fns 65 = some Go.Proofs.Try.f65 := rfl
theorem fn66 : cfg0.fns 66 = some Go.Proofs.Try.f66 := rfl
theorem fn67 : cfg0.fns 67 = some Go.Proofs.Try.f67 := rfl
theorem fn68 : cfg0.fns 68 = some Go.Proofs.Try.f68 := rfl
theorem fn71 : cfg0.fns 71 = some Go.Proofs.Try.f71 := rfl
theorem fn72 : cfg0.fns 72 = some Go.Proofs.Try.f72 := rfl
theorem fn73 : cfg0.fns 73 = some Go.Proofs.Try.f73 := rfl
theorem fn74 : cfg0.fns 74 = some Go.Proofs.Try.f74 := rfl
theorem fn75 : cfg0.fns 75 = some Go.Proofs.Try.f75 := rfl
theorem fn77 : cfg0.fns 77 = some Go.Proofs.Try.f77 := rfl
theorem fn78 : cfg0.fns 78 = some Go.Proofs.Try.f78 := rfl
theorem fn79 : cfg0.fns 79 = some Go.Proofs.Try.f79 := rfl
theorem fn80 : cfg0.fns 80 = some Go.Proofs.Try.f80 := rfl
theorem fn81 : cfg0.fns 81 = some Go.Proofs.Try.f81 := rfl
theorem fn82 : cfg0.fns 82 = some Go.Proofs.Try.f82 := rfl
theorem fn83 : cfg0.fns 83 = some Go.Proofs.Try.f83 := rfl
theorem fn84 : cfg0.fns 84 = some Go.Proofs.Try.f84 := rfl
theorem fn85 : cfg0.fns 85 = some Go.Proofs.Try.f85 := rfl
theorem fn87 : cfg0.fns 87 = some Go.Proofs.Try.f87 := rfl
theorem fn88 : cfg0.fns 88 = some Go.Proofs.Try.f88 := rfl
theorem fn89 : cfg0.fns 89 = some Go.Proofs.Try.f89 := rfl
theorem fn90 : cfg0.fns 90 = some Go.Proofs.Try.f90 := rfl
theorem fn91 : cfg0.fns 91 = some Go.Proofs.Try.f91 := rfl
theorem fn96 : cfg0.fns 96 = some Go.Proofs.Try.f96 := rfl
theorem fn97 : cfg0.fns 97 = some Go.Proofs.Try.f97 := rfl
theorem fn98 : cfg0.fns 98 = some Go.Proofs.Try.f98 := rfl
theorem fn99 : cfg0.fns 99 = some Go.Proofs.Try.f99 := rfl
theorem fn100 : cfg0.fns 100 = some Go.Proofs.Try.f100 := rfl
theorem fn102 : cfg0.fns 102 = some Go.Proofs.Try.f102 := rfl
theorem fn103 : cfg0.fns 103 = some Go.Proofs.Try.f103 := rfl
theorem fn104 : cfg0.fns 104 = some Go.Proofs.Try.f104 := rfl
theorem fn105 : cfg0.fns 105 = some Go.Proofs.Try.f105 := rfl
theorem fn107 : cfg0.fns 107 = some Go.Proofs.Try.f107 := rfl
theorem fn108 : cfg0.fns 108 = some Go.Proofs.Try.f108 := rfl
theorem fn109 : cfg0.fns 109 = some Go.Proofs.Try.f109 := rfl
theorem fn110 : cfg0.fns 110 = some Go.Proofs.Try.f110 := rfl
theorem fn111 : cfg0.fns 111 = some Go.Proofs.Try.f111 := rfl
theorem fn127 : cfg0.fns 127 = some Go.Proofs.Try.f127 := rfl
theorem fn128 : cfg0.fns 128 = some Go.Proofs.Try.f128 := rfl
theorem res12 : Go.Proofs.Try.f12.results.toList = [.tmp 6] := rfl
theorem res13 : Go.Proofs.Try.f13.results.toList = [.tmp 4] := rfl
theorem res14 : Go.Proofs.Try.f14.results.toList = [.tmp 0] := rfl
theorem res15 : Go.Proofs.Try.f15.results.toList = [.tmp 4, .tmp 5, .cell 6 29] := rfl
theorem res17 : Go.Proofs.Try.f17.results.toList = [.tmp 4, .cell 5 29] := rfl
theorem res19 : Go.Proofs.Try.f19.results.toList = [.cell 4 35, .cell 5 29] := rfl
theorem res21 : Go.Proofs.Try.f21.results.toList = [.tmp 2, .cell 3 29] := rfl
theorem res23 : Go.Proofs.Try.f23.results.toList = [.tmp 2, .tmp 3, .cell 4 29] := rfl
theorem res25 : Go.Proofs.Try.f25.results.toList = [.tmp 2, .cell 3 29] := rfl
theorem res27 : Go.Proofs.Try.f27.results.toList = [.tmp 4] := rfl
theorem res29 : Go.Proofs.Try.f29.results.toList = [.tmp 2, .tmp 3, .cell 4 29] := rfl
theorem res31 : Go.Proofs.Try.f31.results.toList = [.tmp 2, .tmp 3, .cell 4 29] := rfl
theorem res33 : Go.Proofs.Try.f33.results.toList = [.cell 2 25] := rfl
theorem res34 : Go.Proofs.Try.f34.results.toList = [.tmp 2] := rfl
theorem res35 : Go.Proofs.Try.f35.results.toList = [.cell 0 25] := rfl
theorem res36 : Go.Proofs.Try.f36.results.toList = [.cell 4 35] := rfl
theorem res37 : Go.Proofs.Try.f37.results.toList = [.tmp 2] := rfl
theorem res39 : Go.Proofs.Try.f39.results.toList = [.tmp 4] := rfl
theorem res48 : Go.Proofs.Try.f48.results.toList = [] := rfl
theorem res49 : Go.Proofs.Try.f49.results.toList = [] := rfl
theorem res50 : Go.Proofs.Try.f50.results.toList = [.tmp 4] := rfl
theorem res51 : Go.Proofs.Try.f51.results.toList = [.tmp 2] := rfl
theorem res52 : Go.Proofs.Try.f52.results.toList = [.tmp 4, .tmp 5] := rfl
theorem res53 : Go.Proofs.Try.f53.results.toList = [] := rfl
theorem res56 : Go.Proofs.Try.f56.results.toList = [] := rfl
theorem res57 : Go.Proofs.Try.f57.results.toList = [.tmp 4] := rfl
theorem res58 : Go.Proofs.Try.f58.results.toList = [.cell 0 98] := rfl
theorem res60 : Go.Proofs.Try.f60.results.toList = [] := rfl
theorem res61 : Go.Proofs.Try.f61.results.toList = [.cell 4 62] := rfl
theorem res62 : Go.Proofs.Try.f62.results.toList = [.cell 4 62] := rfl
theorem res63 : Go.Proofs.Try.f63.results.toList = [.cell 2 35] := rfl
theorem res65 : Go.Proofs.Try.f65.results.toList = [] := rfl
theorem res66 : Go.Proofs.Try.f66.results.toList = [.tmp 2] := rfl
theorem res67 : Go.Proofs.Try.f67.results.toList = [.tmp 2] := rfl
theorem res68 : Go.Proofs.Try.f68.results.toList = [.tmp 2] := rfl
theorem res71 : Go.Proofs.Try.f71.results.toList = [] := rfl
theorem res72 : Go.Proofs.Try.f72.results.toList = [.tmp 4] := rfl
theorem res73 : Go.Proofs.Try.f73.results.toList = [.tmp 6] := rfl
theorem res74 : Go.Proofs.Try.f74.results.toList = [] := rfl
theorem res75 : Go.Proofs.Try.f75.results.toList = [.tmp 4] := rfl
theorem res77 : Go.Proofs.Try.f77.results.toList = [] := rfl
theorem res78 : Go.Proofs.Try.f78.results.toList = [.tmp 2] := rfl
theorem res79 : Go.Proofs.Try.f79.results.toList = [] := rfl
theorem res80 : Go.Proofs.Try.f80.results.toList = [.tmp 4] := rfl
theorem res81 : Go.Proofs.Try.f81.results.toList = [.tmp 2] := rfl
theorem res82 : Go.Proofs.Try.f82.results.toList = [.tmp 4, .tmp 5] := rfl
theorem res83 : Go.Proofs.Try.f83.results.toList = [] := rfl
theorem res84 : Go.Proofs.Try.f84.results.toList = [.tmp 4] := rfl
theorem res85 : Go.Proofs.Try.f85.results.toList = [.cell 4 25] := rfl
theorem res87 : Go.Proofs.Try.f87.results.toList = [.cell 8 65] := rfl
theorem res88 : Go.Proofs.Try.f88.results.toList = [.cell 6 62] := rfl
theorem res89 : Go.Proofs.Try.f89.results.toList = [.tmp 6] := rfl
theorem res90 : Go.Proofs.Try.f90.results.toList = [.tmp 6] := rfl
theorem res91 : Go.Proofs.Try.f91.results.toList = [.tmp 4] := rfl
theorem res96 : Go.Proofs.Try.f96.results.toList = [.tmp 6] := rfl
theorem res97 : Go.Proofs.Try.f97.results.toList = [.tmp 6] := rfl
theorem res98 : Go.Proofs.Try.f98.results.toList = [.tmp 4] := rfl
theorem res99 : Go.Proofs.Try.f99.results.toList = [.tmp 3] := rfl
theorem res100 : Go.Proofs.Try.f100.results.toList = [.tmp 6] := rfl
theorem res102 : Go.Proofs.Try.f102.results.toList = [.cell 5 114] := rfl
theorem res103 : Go.Proofs.Try.f103.results.toList = [] := rfl
theorem res104 : Go.Proofs.Try.f104.results.toList = [.tmp 4] := rfl
theorem res105 : Go.Proofs.Try.f105.results.toList = [] := rfl
theorem res107 : Go.Proofs.Try.f107.results.toList = [.tmp 2] := rfl
theorem res108 : Go.Proofs.Try.f108.results.toList = [] := rfl
theorem res109 : Go.Proofs.Try.f109.results.toList = [] := rfl
theorem res110 : Go.Proofs.Try.f110.results.toList = [] := rfl
theorem res111 : Go.Proofs.Try.f111.results.toList = [] := rfl
theorem res127 : Go.Proofs.Try.f127.results.toList = [.tmp 4] := rfl
theorem res128 : Go.Proofs.Try.f128.results.toList = [.tmp 4] := rfl
theorem plan12_4 : cfg0.plan 12 4 = some [(1, 6), (2, 6), (2, 7)] := rfl
theorem plan12_5 : cfg0.plan 12 5 = some [(5, 3), (6, 3), (8, 7)] := rfl
theorem plan12_6 : cfg0.plan 12 6 = some [] := rfl
theorem plan12_11 : cfg0.plan 12 11 = some [(6, 5), (7, 5)] := rfl
theorem plan12_12 : cfg0.plan 12 12 = some [] := rfl
theorem plan12_25 : cfg0.plan 12 25 = some [(5, 3), (6, 3)] := rfl
theorem plan12_58 : cfg0.plan 12 58 = some [] := rfl
theorem plan12_64 : cfg0.plan 12 64 = some [] := rfl
theorem plan14_10 : cfg0.plan 14 10 = some [(19, 20), (21, 1020), (22, 1020), (23, 1020), (24, 1020), (25, 1020), (26, 1020), (27, 1020), (28, 1020), (29, 1020), (30, 1020), (31, 1020), (32, 1020), (33, 1020), (34, 1020), (35, 1020), (36, 1020), (37, 1020), (38, 1020), (39, 1020), (40, 1020), (41, 1020), (42, 1020), (43, 1020), (44, 1020), (45, 1020), (46, 1020), (47, 1020), (48, 1020), (49, 1020), (50, 1020), (51, 1020), (52, 1020), (53, 1020), (54, 1020), (55, 1020), (56, 1020), (57, 1020), (58, 1020), (59, 1020), (60, 1020), (61, 1020), (62, 1020), (63, 1020), (64, 1020), (65, 1020), (66, 1020), (67, 1020), (68, 1020), (69, 1020), (70, 1020), (71, 1020), (72, 1020), (73, 1020), (74, 1020), (75, 1020), (76, 1020), (77, 1020), (78, 1020), (79, 1020), (80, 1020), (81, 1020), (82, 1020), (83, 1020), (84, 1020), (85, 1020), (86, 1020), (87, 1020), (88, 1020), (89, 1020), (43, 1042), (44, 1042), (45, 1042), (46, 1042), (47, 1042), (48, 1042), (49, 1042), (50, 1042), (51, 1042), (52, 1042), (53, 1042), (54, 1042), (55, 1042), (56, 1042), (57, 1042), (58, 1042), (59, 1042), (60, 1042), (61, 1042), (62, 1042), (63, 1042), (64, 1042), (65, 1042), (66, 1042), (67, 1042), (68, 1042), (69, 1042), (70, 1042), (71, 1042), (72, 1042), (73, 1042), (74, 1042), (75, 1042), (76, 1042), (77, 1042), (78, 1042), (79, 1042), (80, 1042), (81, 1042), (82, 1042), (83, 1042), (84, 1042), (85, 1042), (86, 1042), (87, 1042), (88, 1042), (89, 1042), (44, 1043), (45, 1043), (46, 1043), (47, 1043), (48, 1043), (49, 1043), (50, 1043), (51, 1043), (52, 1043), (53, 1043), (54, 1043), (55, 1043), (56, 1043), (57, 1043), (58, 1043), (59, 1043), (60, 1043), (61, 1043), (62, 1043), (63, 1043), (64, 1043), (65, 1043), (66, 1043), (67, 1043), (68, 1043), (69, 1043), (70, 1043), (71, 1043), (72, 1043), (73, 1043), (74, 1043), (75, 1043), (76, 1043), (77, 1043), (78, 1043), (79, 1043), (80, 1043), (81, 1043), (82, 1043), (83, 1043), (84, 1043), (85, 1043), (86, 1043), (87, 1043), (88, 1043), (89, 1043)] := rfl
theorem plan15_2 : cfg0.plan 15 2 = some [(0, 2), (3, 1002), (5, 1002), (6, 1002), (7, 1002), (8, 1002), (9, 1002), (10, 1002), (5, 1003), (6, 1003), (7, 1003), (8, 1003), (9, 1003), (10, 1003), (6, 1005), (7, 1005), (8, 1005), (9, 1005), (10, 1005)] := rfl
theorem plan17_2 : cfg0.plan 17 2 = some [(0, 2), (3, 1002), (4, 1002), (4, 1003)] := rfl
theorem plan17_6 : cfg0.plan 17 6 = some [(2, 3), (4, 1003), (5, 1003), (7, 1003), (8, 1003), (9, 1003), (10, 1003), (11, 1003), (12, 1003), (7, 1005), (8, 1005), (9, 1005), (10, 1005), (11, 1005), (12, 1005), (8, 1007), (9, 1007), (10, 1007), (11, 1007), (12, 1007)] := rfl
theorem plan19_2 : cfg0.plan 19 2 = some [(0, 2), (3, 1002), (4, 1002), (4, 1003)] := rfl
theorem plan19_3 : cfg0.plan 19 3 = some [] := rfl
theorem plan19_10 : cfg0.plan 19 10 = some [(14, 11), (12, 1011), (15, 1011), (16, 1011), (17, 1011), (18, 1011), (19, 1011), (16, 1015), (17, 1015), (18, 1015), (19, 1015)] := rfl
theorem plan23_3 : cfg0.plan 23 3 = some [(2, 1), (3, 1001), (4, 1001), (7, 1001), (8, 1001), (4, 1003), (7, 1003), (8, 1003)] := rfl
theorem plan23_13 : cfg0.plan 23 13 = some [(4, 9), (5, 9), (11, 9), (10, 1009), (12, 1009), (13, 1009)] := rfl
theorem plan23_14 : cfg0.plan 23 14 = some [(4, 3), (4, 5)] := rfl
theorem plan23_15 : cfg0.plan 23 15 = some [] := rfl
theorem plan25_5 : cfg0.plan 25 5 = some [(2, 3), (4, 1003), (5, 1003), (7, 1003), (8, 1003), (9, 1003), (7, 1005), (8, 1005), (9, 1005), (8, 1007), (9, 1007), (9, 1008)] := rfl
theorem plan27_6 : cfg0.plan 27 6 = some [] := rfl
theorem plan34_4 : cfg0.plan 34 4 = some [] := rfl
theorem plan37_17 : cfg0.plan 37 17 = some [(8, 1007), (9, 1007), (10, 1007), (11, 1007), (12, 1007), (13, 1007), (14, 1007), (15, 1007), (16, 1007), (17, 1007), (18, 1007), (19, 1007), (20, 1007), (21, 1007), (22, 1007), (23, 1007), (24, 1007), (25, 1007), (26, 1007), (27, 1007), (28, 1007), (29, 1007), (30, 1007), (31, 1007), (32, 1007), (33, 1007), (34, 1007), (18, 1017), (19, 1017), (20, 1017), (21, 1017), (22, 1017), (23, 1017), (24, 1017), (25, 1017), (26, 1017), (27, 1017), (28, 1017), (29, 1017), (30, 1017), (31, 1017), (32, 1017), (33, 1017), (34, 1017)] := rfl
theorem plan50_13 : cfg0.plan 50 13 = some [] := rfl
theorem plan50_19 : cfg0.plan 50 19 = some [(9, 14), (9, 16), (10, 14), (10, 16), (11, 14), (11, 16), (12, 14), (12, 16)] := rfl
theorem plan52_4 : cfg0.plan 52 4 = some [(7, 1006)] := rfl
theorem plan61_1 : cfg0.plan 61 1 = some [] := rfl
theorem plan62_1 : cfg0.plan 62 1 = some [] := rfl
theorem plan73_3 : cfg0.plan 73 3 = some [(10, 6), (11, 6), (12, 6), (7, 1006), (13, 1006), (14, 1006), (15, 1006), (16, 1006), (17, 1006), (18, 1006), (14, 1013), (15, 1013), (16, 1013), (17, 1013), (18, 1013), (17, 1016), (18, 1016)] := rfl
theorem plan84_1 : cfg0.plan 84 1 = some [(4, 2), (4, 3), (3, 1002), (5, 1002), (6, 1002), (7, 1002), (5, 1003), (6, 1003), (7, 1003), (6, 1005), (7, 1005), (7, 1006)] := rfl
theorem plan87_1 : cfg0.plan 87 1 = some [(3, 2), (4, 2), (6, 1002), (7, 1002)] := rfl
theorem plan100_1 : cfg0.plan 100 1 = some [] := rfl
theorem plan100_3 : cfg0.plan 100 3 = some [(2, 9), (3, 9), (17, 24), (18, 24), (12, 1009), (13, 1009), (14, 1009), (15, 1009), (16, 1009), (17, 1009), (18, 1009), (19, 1009), (20, 1009), (21, 1009), (22, 1009), (23, 1009), (24, 1009), (25, 1009), (26, 1009), (27, 1009), (28, 1009), (29, 1009), (30, 1009), (13, 1012), (14, 1012), (15, 1012), (16, 1012), (17, 1012), (18, 1012), (19, 1012), (20, 1012), (21, 1012), (22, 1012), (23, 1012), (24, 1012), (25, 1012), (26, 1012), (27, 1012), (28, 1012), (29, 1012), (30, 1012), (27, 1024), (28, 1024), (29, 1024), (30, 1024), (28, 1027), (29, 1027), (30, 1027)] := rfl
theorem plan102_12 : cfg0.plan 102 12 = some [(0, 5), (1, 5), (6, 1005), (7, 1005)] := rfl
theorem plan103_9 : cfg0.plan 103 9 = some [(10, 1009)] := rfl
theorem plan108_4 : cfg0.plan 108 4 = some [(15, 1014), (16, 1014)] := rfl
theorem plan108_6 : cfg0.plan 108 6 = some [] := rfl
theorem plan109_5 : cfg0.plan 109 5 = some [(10, 1009)] := rfl
theorem plan109_11 : cfg0.plan 109 11 = some [] := rfl
theorem plan109_17 : cfg0.plan 109 17 = some [(10, 1009), (11, 1009)] := rfl
theorem plan109_23 : cfg0.plan 109 23 = some [] := rfl
theorem plan109_35 : cfg0.plan 109 35 = some [(12, 1011), (13, 1011)] := rfl
theorem plan111_3 : cfg0.plan 111 3 = some [] := rfl
theorem gc12_0 : cfg0.gc 12 0 = none := rfl
theorem gc12_1 : cfg0.gc 12 1 = none := rfl
theorem gc12_2 : cfg0.gc 12 2 = none := rfl
theorem gc12_3 : cfg0.gc 12 3 = none := rfl
theorem gc12_4 : cfg0.gc 12 4 = none := rfl
theorem gc12_5 : cfg0.gc 12 5 = none := rfl
theorem gc12_6 : cfg0.gc 12 6 = none := rfl
theorem gc12_7 : cfg0.gc 12 7 = none := rfl
theorem gc12_8 : cfg0.gc 12 8 = none := rfl
theorem gc12_9 : cfg0.gc 12 9 = none := rfl
theorem gc12_10 : cfg0.gc 12 10 = none := rfl
theorem gc12_11 : cfg0.gc 12 11 = none := rfl
theorem gc12_12 : cfg0.gc 12 12 = none := rfl
theorem gc12_13 : cfg0.gc 12 13 = none := rfl
theorem gc12_14 : cfg0.gc 12 14 = some ([1, 2, 3, 7, 8, 9, 10], 4) := rfl
theorem gc12_15 : cfg0.gc 12 15 = some ([1, 3, 7, 8, 9, 10, 163, 164], 6) := rfl
theorem gc12_16 : cfg0.gc 12 16 = none := rfl
theorem gc12_17 : cfg0.gc 12 17 = none := rfl
theorem gc12_18 : cfg0.gc 12 18 = none := rfl
theorem gc12_19 : cfg0.gc 12 19 = none := rfl
theorem gc12_20 : cfg0.gc 12 20 = none := rfl
theorem gc12_21 : cfg0.gc 12 21 = some ([1, 3, 7, 8, 9, 10, 192, 193, 194], 6) := rfl
theorem gc12_22 : cfg0.gc 12 22 = none := rfl
theorem gc12_23 : cfg0.gc 12 23 = none := rfl
theorem gc12_24 : cfg0.gc 12 24 = none := rfl
theorem gc12_25 : cfg0.gc 12 25 = some ([1, 3, 7, 8, 9, 10], 4) := rfl
theorem gc12_26 : cfg0.gc 12 26 = some ([1, 3, 7, 8, 9, 10, 18, 19], 4) := rfl
theorem gc12_27 : cfg0.gc 12 27 = none := rfl
theorem gc12_28 : cfg0.gc 12 28 = none := rfl
theorem gc12_29 : cfg0.gc 12 29 = none := rfl
theorem gc12_30 : cfg0.gc 12 30 = none := rfl
theorem gc12_31 : cfg0.gc 12 31 = none := rfl
theorem gc12_32 : cfg0.gc 12 32 = none := rfl
theorem gc12_33 : cfg0.gc 12 33 = none := rfl
theorem gc12_34 : cfg0.gc 12 34 = none := rfl
theorem gc12_35 : cfg0.gc 12 35 = none := rfl
theorem gc12_36 : cfg0.gc 12 36 = none := rfl
theorem gc12_37 : cfg0.gc 12 37 = none := rfl
theorem gc12_38 : cfg0.gc 12 38 = none := rfl
theorem gc12_39 : cfg0.gc 12 39 = none := rfl
theorem gc12_40 : cfg0.gc 12 40 = none := rfl
theorem gc12_41 : cfg0.gc 12 41 = none := rfl
theorem gc12_42 : cfg0.gc 12 42 = none := rfl
theorem gc12_43 : cfg0.gc 12 43 = none := rfl
theorem gc12_44 : cfg0.gc 12 44 = none := rfl
theorem gc12_45 : cfg0.gc 12 45 = none := rfl
theorem gc12_46 : cfg0.gc 12 46 = none := rfl
theorem gc12_47 : cfg0.gc 12 47 = none := rfl
theorem gc12_48 : cfg0.gc 12 48 = none := rfl
theorem gc12_49 : cfg0.gc 12 49 = none := rfl
theorem gc12_50 : cfg0.gc 12 50 = none := rfl
theorem gc12_51 : cfg0.gc 12 51 = none := rfl
theorem gc12_52 : cfg0.gc 12 52 = none := rfl
theorem gc12_53 : cfg0.gc 12 53 = none := rfl
theorem gc12_54 : cfg0.gc 12 54 = none := rfl
theorem gc12_55 : cfg0.gc 12 55 = none := rfl
theorem gc12_56 : cfg0.gc 12 56 = none := rfl
theorem gc12_57 : cfg0.gc 12 57 = none := rfl
theorem gc12_58 : cfg0.gc 12 58 = none := rfl
theorem gc12_59 : cfg0.gc 12 59 = none := rfl
theorem gc12_60 : cfg0.gc 12 60 = none := rfl
theorem gc12_61 : cfg0.gc 12 61 = none := rfl
theorem gc12_62 : cfg0.gc 12 62 = none := rfl
theorem gc12_63 : cfg0.gc 12 63 = none := rfl
theorem gc12_64 : cfg0.gc 12 64 = none := rfl
theorem gc12_65 : cfg0.gc 12 65 = none := rfl
theorem gc12_66 : cfg0.gc 12 66 = none := rfl
theorem gc12_67 : cfg0.gc 12 67 = none := rfl
theorem nils12_14 : cfg0.nils 12 14 = some [⟨10, some 0, 8⟩, ⟨10, some 1, 2⟩] := rfl
theorem nils12_15 : cfg0.nils 12 15 = none := rfl
theorem nils12_21 : cfg0.nils 12 21 = none := rfl
theorem nils12_25 : cfg0.nils 12 25 = some [] := rfl
theorem nils12_26 : cfg0.nils 12 26 = some [] := rfl
theorem grow12 (i : Nat) : cfg0.grow 12 i = false := rfl
theorem gc13 (i : Nat) : cfg0.gc 13 i = none := rfl
theorem grow13 (i : Nat) : cfg0.grow 13 i = false := rfl
theorem gc14 (i : Nat) : cfg0.gc 14 i = none := rfl
theorem grow14 (i : Nat) : cfg0.grow 14 i = false := rfl
theorem gc15 (i : Nat) : cfg0.gc 15 i = none := rfl
theorem grow15 (i : Nat) : cfg0.grow 15 i = false := rfl
theorem gc17 (i : Nat) : cfg0.gc 17 i = none := rfl
theorem grow17 (i : Nat) : cfg0.grow 17 i = false := rfl
theorem gc19_0 : cfg0.gc 19 0 = none := rfl
theorem gc19_1 : cfg0.gc 19 1 = none := rfl
theorem gc19_2 : cfg0.gc 19 2 = none := rfl
theorem gc19_3 : cfg0.gc 19 3 = none := rfl
theorem gc19_4 : cfg0.gc 19 4 = none := rfl
theorem gc19_5 : cfg0.gc 19 5 = none := rfl
theorem gc19_6 : cfg0.gc 19 6 = some ([1, 2, 4, 5, 6, 7, 8, 9, 22, 23, 24], 8) := rfl
theorem gc19_7 : cfg0.gc 19 7 = none := rfl
theorem gc19_8 : cfg0.gc 19 8 = none := rfl
theorem gc19_9 : cfg0.gc 19 9 = none := rfl
theorem gc19_10 : cfg0.gc 19 10 = none := rfl
theorem gc19_11 : cfg0.gc 19 11 = none := rfl
theorem gc19_12 : cfg0.gc 19 12 = none := rfl
theorem nils19 (i : Nat) : cfg0.nils 19 i = none := rfl
theorem grow19_2 : cfg0.grow 19 2 = false := rfl
theorem grow19_4 : cfg0.grow 19 4 = false := rfl
theorem grow19_5 : cfg0.grow 19 5 = false := rfl
theorem grow19_6 : cfg0.grow 19 6 = false := rfl
theorem grow19_7 : cfg0.grow 19 7 = false := rfl
theorem grow19_8 : cfg0.grow 19 8 = false := rfl
theorem grow19_9 : cfg0.grow 19 9 = true := rfl
theorem grow19_10 : cfg0.grow 19 10 = false := rfl
theorem grow19_11 : cfg0.grow 19 11 = false := rfl
theorem gc21 (i : Nat) : cfg0.gc 21 i = none := rfl
theorem grow21 (i : Nat) : cfg0.grow 21 i = false := rfl
theorem gc23 (i : Nat) : cfg0.gc 23 i = none := rfl
theorem grow23_1 : cfg0.grow 23 1 = false := rfl
theorem grow23_2 : cfg0.grow 23 2 = false := rfl
theorem grow23_3 : cfg0.grow 23 3 = false := rfl
theorem grow23_4 : cfg0.grow 23 4 = false := rfl
theorem grow23_5 : cfg0.grow 23 5 = false := rfl
theorem grow23_6 : cfg0.grow 23 6 = false := rfl
theorem grow23_7 : cfg0.grow 23 7 = false := rfl
theorem grow23_8 : cfg0.grow 23 8 = false := rfl
theorem grow23_9 : cfg0.grow 23 9 = true := rfl
theorem grow23_10 : cfg0.grow 23 10 = false := rfl
theorem grow23_11 : cfg0.grow 23 11 = false := rfl
theorem grow23_12 : cfg0.grow 23 12 = false := rfl
theorem grow23_13 : cfg0.grow 23 13 = false := rfl
theorem gc25 (i : Nat) : cfg0.gc 25 i = none := rfl
theorem grow25 (i : Nat) : cfg0.grow 25 i = false := rfl
theorem gc27 (i : Nat) : cfg0.gc 27 i = none := rfl
theorem grow27 (i : Nat) : cfg0.grow 27 i = false := rfl
theorem gc29 (i : Nat) : cfg0.gc 29 i = none := rfl
theorem grow29 (i : Nat) : cfg0.grow 29 i = false := rfl
theorem gc31 (i : Nat) : cfg0.gc 31 i = none := rfl
theorem grow31 (i : Nat) : cfg0.grow 31 i = false := rfl
theorem gc33 (i : Nat) : cfg0.gc 33 i = none := rfl
theorem grow33 (i : Nat) : cfg0.grow 33 i = false := rfl
theorem gc34 (i : Nat) : cfg0.gc 34 i = none := rfl
theorem grow34_2 : cfg0.grow 34 2 = true := rfl
theorem grow34_3 : cfg0.grow 34 3 = false := rfl
theorem gc35 (i : Nat) : cfg0.gc 35 i = none := rfl
theorem grow35 (i : Nat) : cfg0.grow 35 i = false := rfl
theorem gc36 (i : Nat) : cfg0.gc 36 i = none := rfl
theorem grow36 (i : Nat) : cfg0.grow 36 i = false := rfl
theorem gc37_0 : cfg0.gc 37 0 = none := rfl
theorem gc37_1 : cfg0.gc 37 1 = none := rfl
theorem gc37_2 : cfg0.gc 37 2 = none := rfl
theorem gc37_3 : cfg0.gc 37 3 = none := rfl
theorem gc37_4 : cfg0.gc 37 4 = some ([1, 3], 1) := rfl
theorem gc37_6 : cfg0.gc 37 6 = none := rfl
theorem gc37_7 : cfg0.gc 37 7 = none := rfl
theorem gc37_8 : cfg0.gc 37 8 = none := rfl
theorem gc37_9 : cfg0.gc 37 9 = some ([1, 3, 4], 1) := rfl
theorem gc37_11 : cfg0.gc 37 11 = none := rfl
theorem gc37_12 : cfg0.gc 37 12 = none := rfl
theorem gc37_13 : cfg0.gc 37 13 = none := rfl
theorem gc37_10 : cfg0.gc 37 10 = none := rfl
theorem gc37_5 : cfg0.gc 37 5 = none := rfl
theorem gc37_14 : cfg0.gc 37 14 = none := rfl
theorem gc37_15 : cfg0.gc 37 15 = none := rfl
theorem gc37_17 : cfg0.gc 37 17 = none := rfl
theorem gc37_18 : cfg0.gc 37 18 = none := rfl
theorem gc37_16 : cfg0.gc 37 16 = none := rfl
theorem gc37_19 : cfg0.gc 37 19 = none := rfl
theorem nils37 (i : Nat) : cfg0.nils 37 i = none := rfl
theorem grow37 (i : Nat) : cfg0.grow 37 i = false := rfl
theorem gc39 (i : Nat) : cfg0.gc 39 i = none := rfl
theorem grow39_2 : cfg0.grow 39 2 = false := rfl
theorem grow39_4 : cfg0.grow 39 4 = true := rfl
theorem grow39_5 : cfg0.grow 39 5 = false := rfl
theorem grow39_6 : cfg0.grow 39 6 = false := rfl
theorem grow39_7 : cfg0.grow 39 7 = false := rfl
theorem grow39_8 : cfg0.grow 39 8 = false := rfl
theorem gc48 (i : Nat) : cfg0.gc 48 i = none := rfl
theorem grow48 (i : Nat) : cfg0.grow 48 i = false := rfl
theorem gc49 (i : Nat) : cfg0.gc 49 i = none := rfl
theorem grow49 (i : Nat) : cfg0.grow 49 i = false := rfl
theorem gc50_0 : cfg0.gc 50 0 = none := rfl
theorem gc50_1 : cfg0.gc 50 1 = none := rfl
theorem gc50_2 : cfg0.gc 50 2 = none := rfl
theorem gc50_3 : cfg0.gc 50 3 = none := rfl
theorem gc50_4 : cfg0.gc 50 4 = none := rfl
theorem gc50_5 : cfg0.gc 50 5 = some ([1, 2, 5, 6, 31, 32, 33], 3) := rfl
theorem gc50_6 : cfg0.gc 50 6 = none := rfl
theorem gc50_7 : cfg0.gc 50 7 = none := rfl
theorem gc50_8 : cfg0.gc 50 8 = none := rfl
theorem gc50_9 : cfg0.gc 50 9 = some ([1, 2, 5, 6, 7, 8, 31, 32, 33, 44, 45], 4) := rfl
theorem gc50_10 : cfg0.gc 50 10 = none := rfl
theorem gc50_11 : cfg0.gc 50 11 = none := rfl
theorem gc50_12 : cfg0.gc 50 12 = none := rfl
theorem gc50_13 : cfg0.gc 50 13 = none := rfl
theorem gc50_14 : cfg0.gc 50 14 = none := rfl
theorem gc50_15 : cfg0.gc 50 15 = none := rfl
theorem gc50_16 : cfg0.gc 50 16 = some ([1, 6, 68, 69, 70], 3) := rfl
theorem gc50_17 : cfg0.gc 50 17 = none := rfl
theorem gc50_18 : cfg0.gc 50 18 = none := rfl
theorem gc50_19 : cfg0.gc 50 19 = none := rfl
theorem gc50_20 : cfg0.gc 50 20 = none := rfl
theorem gc50_21 : cfg0.gc 50 21 = none := rfl
theorem gc50_22 : cfg0.gc 50 22 = none := rfl
theorem nils50 (i : Nat) : cfg0.nils 50 i = none := rfl
theorem grow50 (i : Nat) : cfg0.grow 50 i = false := rfl
theorem gc51 (i : Nat) : cfg0.gc 51 i = none := rfl
theorem grow51 (i : Nat) : cfg0.grow 51 i = false := rfl
theorem gc52_0 : cfg0.gc 52 0 = none := rfl
theorem gc52_1 : cfg0.gc 52 1 = none := rfl
theorem gc52_2 : cfg0.gc 52 2 = some ([0, 1, 10, 11, 12], 0) := rfl
theorem gc52_3 : cfg0.gc 52 3 = none := rfl
theorem gc52_4 : cfg0.gc 52 4 = none := rfl
theorem gc52_5 : cfg0.gc 52 5 = none := rfl
theorem gc52_6 : cfg0.gc 52 6 = none := rfl
theorem gc52_7 : cfg0.gc 52 7 = none := rfl
theorem gc52_8 : cfg0.gc 52 8 = none := rfl
theorem nils52 (i : Nat) : cfg0.nils 52 i = none := rfl
theorem grow52 (i : Nat) : cfg0.grow 52 i = false := rfl
theorem gc53 (i : Nat) : cfg0.gc 53 i = none := rfl
theorem grow53 (i : Nat) : cfg0.grow 53 i = false := rfl
theorem gc56 (i : Nat) : cfg0.gc 56 i = none := rfl
theorem grow56 (i : Nat) : cfg0.grow 56 i = false := rfl
theorem gc57 (i : Nat) : cfg0.gc 57 i = none := rfl
theorem grow57 (i : Nat) : cfg0.grow 57 i = false := rfl
theorem gc58 (i : Nat) : cfg0.gc 58 i = none := rfl
theorem grow58 (i : Nat) : cfg0.grow 58 i = false := rfl
theorem gc60 (i : Nat) : cfg0.gc 60 i = none := rfl
theorem grow60 (i : Nat) : cfg0.grow 60 i = false := rfl
theorem gc61 (i : Nat) : cfg0.gc 61 i = none := rfl
theorem grow61 (i : Nat) : cfg0.grow 61 i = false := rfl
theorem gc62 (i : Nat) : cfg0.gc 62 i = none := rfl
theorem grow62 (i : Nat) : cfg0.grow 62 i = false := rfl
theorem gc63_0 : cfg0.gc 63 0 = none := rfl
theorem gc63_1 : cfg0.gc 63 1 = none := rfl
theorem gc63_2 : cfg0.gc 63 2 = some ([2, 5, 6, 7], 1) := rfl
theorem gc63_3 : cfg0.gc 63 3 = none := rfl
theorem gc63_4 : cfg0.gc 63 4 = none := rfl
theorem gc63_5 : cfg0.gc 63 5 = none := rfl
theorem gc63_6 : cfg0.gc 63 6 = none := rfl
theorem nils63 (i : Nat) : cfg0.nils 63 i = none := rfl
theorem grow63 (i : Nat) : cfg0.grow 63 i = false := rfl
theorem gc65 (i : Nat) : cfg0.gc 65 i = none := rfl
theorem grow65 (i : Nat) : cfg0.grow 65 i = false := rfl
theorem gc66 (i : Nat) : cfg0.gc 66 i = none := rfl
theorem grow66 (i : Nat) : cfg0.grow 66 i = false := rfl
theorem gc67 (i : Nat) : cfg0.gc 67 i = none := rfl
theorem grow67 (i : Nat) : cfg0.grow 67 i = false := rfl
theorem gc68 (i : Nat) : cfg0.gc 68 i = none := rfl
theorem grow68 (i : Nat) : cfg0.grow 68 i = false := rfl
theorem gc71 (i : Nat) : cfg0.gc 71 i = none := rfl
theorem grow71 (i : Nat) : cfg0.grow 71 i = false := rfl
theorem gc72 (i : Nat) : cfg0.gc 72 i = none := rfl
theorem grow72 (i : Nat) : cfg0.grow 72 i = false := rfl
theorem gc73 (i : Nat) : cfg0.gc 73 i = none := rfl
theorem grow73 (i : Nat) : cfg0.grow 73 i = false := rfl
theorem gc74 (i : Nat) : cfg0.gc 74 i = none := rfl
theorem grow74 (i : Nat) : cfg0.grow 74 i = false := rfl
theorem gc75 (i : Nat) : cfg0.gc 75 i = none := rfl
theorem grow75 (i : Nat) : cfg0.grow 75 i = false := rfl
theorem gc77 (i : Nat) : cfg0.gc 77 i = none := rfl
theorem grow77 (i : Nat) : cfg0.grow 77 i = false := rfl
theorem gc78 (i : Nat) : cfg0.gc 78 i = none := rfl
theorem grow78_2 : cfg0.grow 78 2 = true := rfl
theorem grow78_3 : cfg0.grow 78 3 = false := rfl
theorem gc79 (i : Nat) : cfg0.gc 79 i = none := rfl
theorem grow79 (i : Nat) : cfg0.grow 79 i = false := rfl
theorem gc80 (i : Nat) : cfg0.gc 80 i = none := rfl
theorem grow80 (i : Nat) : cfg0.grow 80 i = false := rfl
theorem gc81 (i : Nat) : cfg0.gc 81 i = none := rfl
theorem grow81 (i : Nat) : cfg0.grow 81 i = false := rfl
theorem gc82 (i : Nat) : cfg0.gc 82 i = none := rfl
theorem grow82 (i : Nat) : cfg0.grow 82 i = false := rfl
theorem gc83 (i : Nat) : cfg0.gc 83 i = none := rfl
theorem grow83 (i : Nat) : cfg0.grow 83 i = false := rfl
theorem gc84 (i : Nat) : cfg0.gc 84 i = none := rfl
theorem grow84 (i : Nat) : cfg0.grow 84 i = false := rfl
theorem gc85 (i : Nat) : cfg0.gc 85 i = none := rfl
theorem grow85 (i : Nat) : cfg0.grow 85 i = false := rfl
theorem gc87 (i : Nat) : cfg0.gc 87 i = none := rfl
theorem grow87 (i : Nat) : cfg0.grow 87 i = false := rfl
theorem gc88 (i : Nat) : cfg0.gc 88 i = none := rfl
theorem grow88 (i : Nat) : cfg0.grow 88 i = false := rfl
theorem gc89 (i : Nat) : cfg0.gc 89 i = none := rfl
theorem grow89 (i : Nat) : cfg0.grow 89 i = false := rfl
theorem gc90 (i : Nat) : cfg0.gc 90 i = none := rfl
theorem grow90 (i : Nat) : cfg0.grow 90 i = false := rfl
theorem gc91 (i : Nat) : cfg0.gc 91 i = none := rfl
theorem grow91 (i : Nat) : cfg0.grow 91 i = false := rfl
theorem gc96 (i : Nat) : cfg0.gc 96 i = none := rfl
theorem grow96 (i : Nat) : cfg0.grow 96 i = false := rfl
theorem gc97 (i : Nat) : cfg0.gc 97 i = none := rfl
theorem grow97 (i : Nat) : cfg0.grow 97 i = false := rfl
theorem gc98 (i : Nat) : cfg0.gc 98 i = none := rfl
theorem grow98 (i : Nat) : cfg0.grow 98 i = false := rfl
theorem gc99_0 : cfg0.gc 99 0 = none := rfl
theorem gc99_1 : cfg0.gc 99 1 = none := rfl
theorem gc99_2 : cfg0.gc 99 2 = none := rfl
theorem gc99_3 : cfg0.gc 99 3 = some ([0, 1, 4, 8, 9, 10], 1) := rfl
theorem gc99_4 : cfg0.gc 99 4 = none := rfl
theorem gc99_5 : cfg0.gc 99 5 = none := rfl
theorem gc99_6 : cfg0.gc 99 6 = none := rfl
theorem gc99_7 : cfg0.gc 99 7 = none := rfl
theorem gc99_8 : cfg0.gc 99 8 = none := rfl
theorem gc99_9 : cfg0.gc 99 9 = none := rfl
theorem nils99 (i : Nat) : cfg0.nils 99 i = none := rfl
theorem grow99 (i : Nat) : cfg0.grow 99 i = false := rfl
theorem gc100 (i : Nat) : cfg0.gc 100 i = none := rfl
theorem grow100 (i : Nat) : cfg0.grow 100 i = false := rfl
theorem gc102 (i : Nat) : cfg0.gc 102 i = none := rfl
theorem grow102 (i : Nat) : cfg0.grow 102 i = false := rfl
theorem gc103 (i : Nat) : cfg0.gc 103 i = none := rfl
theorem grow103 (i : Nat) : cfg0.grow 103 i = false := rfl
theorem gc104 (i : Nat) : cfg0.gc 104 i = none := rfl
theorem grow104 (i : Nat) : cfg0.grow 104 i = false := rfl
theorem gc105 (i : Nat) : cfg0.gc 105 i = none := rfl
theorem grow105 (i : Nat) : cfg0.grow 105 i = false := rfl
theorem gc107 (i : Nat) : cfg0.gc 107 i = none := rfl
theorem grow107 (i : Nat) : cfg0.grow 107 i = false := rfl
theorem gc108 (i : Nat) : cfg0.gc 108 i = none := rfl
theorem grow108 (i : Nat) : cfg0.grow 108 i = false := rfl
theorem gc109 (i : Nat) : cfg0.gc 109 i = none := rfl
theorem grow109 (i : Nat) : cfg0.grow 109 i = false := rfl
theorem gc110 (i : Nat) : cfg0.gc 110 i = none := rfl
theorem grow110 (i : Nat) : cfg0.grow 110 i = false := rfl
theorem gc111 (i : Nat) : cfg0.gc 111 i = none := rfl
theorem grow111 (i : Nat) : cfg0.grow 111 i = false := rfl
theorem gc127 (i : Nat) : cfg0.gc 127 i = none := rfl
theorem grow127 (i : Nat) : cfg0.grow 127 i = false := rfl
theorem gc128 (i : Nat) : cfg0.gc 128 i = none := rfl
theorem grow128 (i : Nat) : cfg0.grow 128 i = false := rfl
attribute [go_sem] ty1 ty2 ty3 ty4 ty5 ty6 ty8 ty12 ty15 ty16 ty17 ty19 ty20 ty22 ty23 ty25 ty26 ty29 ty35 ty49 ty50 ty51 ty52 ty53 ty55 ty62 ty63 ty65 ty66 ty67 ty69 ty71 ty75 ty76 ty78 ty80 ty81 ty84 ty86 ty88
attribute [go_sem] ty96 ty98 ty101 ty102 ty104 ty106 ty107 ty109 ty110 ty114 ty115 ty117 ty120 ty121 ty124 ty125 ty128 ty129 ty133 ty137 ty142 ty143 ty144 ty146 ty149 ty153 ty155 ty158 ty160 ty172 ifc20 ifc106 eqt2 eqt3 eqt4 eqt5 eqt6 eqt8 eqt12 eqt29
attribute [go_sem] eqt35 eqt62 eqt63 eqt65 eqt66 eqt67 eqt69 eqt71 eqt78 eqt96 eqt98 eqt104 eqt114 eqt117 eqt120 eqt149 eqt158 eqt160 eqt172 meth40 meth127 meth128 meth61 meth62 meth57 fn12 fn13 fn14
attribute [go_sem] fn15 fn17 fn19 fn21 fn23 fn25 fn27 fn29 fn31 fn33 fn34 fn35 fn36 fn37 fn39 fn48 fn49 fn50 fn51 fn52 fn53
attribute [go_sem] fn56 fn57 fn58 fn60 fn61 fn62 fn63 fn65 fn66 fn67 fn68 fn71 fn72 fn73 fn74 fn75 fn77 fn78 fn79 fn80 fn81 fn82 fn83 fn84 fn85 fn87 fn88 fn89 fn90 fn91
attribute [go_sem] fn96 fn97 fn98 fn99 fn100 fn102 fn103 fn104 fn105 fn107 fn108 fn109 fn110 fn111 fn127 fn128
attribute [go_sem] res12 res13 res14 res15 res17 res19 res21 res23 res25 res27 res29 res31 res33 res34 res35 res36 res37 res39
attribute [go_sem] res48 res49 res50 res51 res52 res53 res56 res57 res58 res60 res61 res62 res63 res65 res66 res67 res68 res71 res72 res73 res74 res75 res77 res78 res79 res80 res81 res82 res83 res84
attribute [go_sem] res85 res87 res88 res89 res90 res91 res96 res97 res98 res99 res100 res102 res103 res104 res105 res107 res108 res109 res110 res111
attribute [go_sem] res127 res128 plan12_4 plan12_5 plan12_6 plan12_11 plan12_12 plan12_25 plan12_58 plan12_64 plan14_10 plan15_2 plan17_2 plan17_6 plan19_2 plan19_3 plan19_10
attribute [go_sem] plan23_3 plan23_13 plan23_14 plan23_15 plan25_5 plan27_6 plan34_4 plan37_17 plan50_13 plan50_19 plan52_4 plan61_1 plan62_1 plan73_3 plan84_1 plan87_1 plan100_1 plan100_3 plan102_12 plan103_9
attribute [go_sem] plan108_4 plan108_6 plan109_5 plan109_11 plan109_17 plan109_23 plan109_35 plan111_3



attribute [go_sem] gc12_0 gc12_1 gc12_2 gc12_3 gc12_4 gc12_5 gc12_6 gc12_7 gc12_8 gc12_9 gc12_10 gc12_11 gc12_12 gc12_13 gc12_14 gc12_15 gc12_16 gc12_17 gc12_18 gc12_19 gc12_20 gc12_21 gc12_22 gc12_23 gc12_24 gc12_25 gc12_26 gc12_27 gc12_28 gc12_29 gc12_30 gc12_31 gc12_32 gc12_33 gc12_34 gc12_35 gc12_36 gc12_37
attribute [go_sem] gc12_38 gc12_39 gc12_40 gc12_41 gc12_42 gc12_43 gc12_44 gc12_45 gc12_46 gc12_47 gc12_48 gc12_49 gc12_50 gc12_51 gc12_52 gc12_53 gc12_54 gc12_55 gc12_56 gc12_57 gc12_58 gc12_59 gc12_60 gc12_61 gc12_62 gc12_63 gc12_64 gc12_65 gc12_66 gc12_67 nils12_14 nils12_15 nils12_21 nils12_25 nils12_26 grow12 gc13 grow13 gc14 grow14
attribute [go_sem] gc15 grow15 gc17 grow17 gc19_0 gc19_1 gc19_2 gc19_3 gc19_4 gc19_5 gc19_6 gc19_7 gc19_8 gc19_9 gc19_10 gc19_11 gc19_12 nils19 grow19_2 grow19_4 grow19_5 grow19_6 grow19_7 grow19_8 grow19_9 grow19_10 grow19_11 gc21 grow21 gc23 grow23_1 grow23_2
attribute [go_sem] grow23_3 grow23_4 grow23_5 grow23_6 grow23_7 grow23_8 grow23_9 grow23_10 grow23_11 grow23_12 grow23_13 gc25 grow25 gc27 grow27 gc29 grow29 gc31 grow31 gc33 grow33 gc34 grow34_2 grow34_3 gc35 grow35 gc36 grow36 gc37_0 gc37_1
attribute [go_sem] gc37_2 gc37_3 gc37_4 gc37_6 gc37_7 gc37_8 gc37_9 gc37_11 gc37_12 gc37_13 gc37_10 gc37_5 gc37_14 gc37_15 gc37_17 gc37_18 gc37_16 gc37_19 nils37 grow37
attribute [go_sem] gc39 grow39_2 grow39_4 grow39_5 grow39_6 grow39_7 grow39_8
attribute [go_sem] gc48 grow48 gc49 grow49
attribute [go_sem] gc50_0 gc50_1 gc50_2 gc50_3 gc50_4 gc50_5 gc50_6 gc50_7 gc50_8 gc50_9 gc50_10 gc50_11 gc50_12 gc50_13 gc50_14 gc50_15 gc50_16 gc50_17 gc50_18 gc50_19 gc50_20 gc50_21 gc50_22 nils50 grow50 gc51 grow51 gc52_0 gc52_1 gc52_2 gc52_3 gc52_4 gc52_5 gc52_6 gc52_7 gc52_8 nils52 grow52 gc53 grow53
attribute [go_sem] gc56 grow56 gc57 grow57 gc58 grow58 gc60 grow60 gc61 grow61 gc62 grow62 gc63_0 gc63_1 gc63_2 gc63_3 gc63_4 gc63_5 gc63_6 nils63 grow63 gc65 grow65 gc66 grow66 gc67 grow67 gc68 grow68
attribute [go_sem] gc71 grow71 gc72 grow72 gc73 grow73 gc74 grow74 gc75 grow75 gc77 grow77 gc78 grow78_2 grow78_3 gc79 grow79 gc80 grow80 gc81 grow81 gc82
attribute [go_sem] grow82 gc83 grow83 gc84 grow84 gc85 grow85 gc87 grow87 gc88 grow88 gc89 grow89 gc90 grow90 gc91 grow91 gc96 grow96 gc97 grow97 gc98 grow98 gc99_0 gc99_1 gc99_2 gc99_3 gc99_4 gc99_5 gc99_6
attribute [go_sem] gc99_7 gc99_8 gc99_9 nils99 grow99 gc100 grow100 gc102 grow102 gc103 grow103 gc104 grow104 gc105 grow105 gc107 grow107 gc108 grow108 gc109 grow109 gc110 grow110 gc111 grow111
attribute [go_sem] gc127 grow127 gc128 grow128 gcSt.eq_1 keepEnv.eq_1 keepEnv.eq_2 envLt.eq_1 envLt.eq_2 heapLt.eq_1 heapLt.eq_2
attribute [go_sem] dfrLt.eq_1 dfrLt.eq_2 ADefer.lt.eq_1 ADefer.lt.eq_2 eqOk.eq_1 bne_self_eq_false beq_self_eq_true Nat.le_add_right List.getD_cons_zero List.getD_cons_succ
end Go.Ab
