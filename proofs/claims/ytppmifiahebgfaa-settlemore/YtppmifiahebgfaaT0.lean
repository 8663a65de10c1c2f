/-
  The evaluator's tables for this program: which reads have no order beside an effect in a region that draws; the types; the types that are compared cell by cell; methods; what a loop drops. And each row as an equation.
-/
import Derived.Test.YtppmifiahebgfaaS2
import Derived.Test.YtppmifiahebgfaaProg
import Derived.KernelRfl
namespace Go.Ab
set_option linter.unusedSimpArgs false
set_option linter.unusedVariables false

def planL : List (Nat × List (Nat × List (Nat × Nat))) := [
  (5, [(4, [(1, 0), (2, 0), (3, 0), (4, 0), (5, 1000), (6, 1000), (7, 1000), (8, 1000), (10, 1000), (11, 1000), (6, 1005), (7, 1005), (8, 1005), (10, 1005), (11, 1005)]),
    (16, [(4, 5), (2, 1001), (3, 1001), (4, 1001), (5, 1001), (6, 1001), (7, 1001), (8, 1001), (9, 1001), (10, 1001), (11, 1001), (12, 1001), (13, 1001), (14, 1001), (15, 1001), (16, 1001), (17, 1001), (18, 1001), (19, 1001), (20, 1001), (21, 1001), (22, 1001), (23, 1001), (24, 1001), (25, 1001), (26, 1001), (27, 1001), (28, 1001), (29, 1001), (30, 1001), (31, 1001), (32, 1001), (33, 1001), (34, 1001), (35, 1001), (36, 1001), (37, 1001), (38, 1001), (39, 1001), (40, 1001), (41, 1001), (42, 1001), (43, 1001), (44, 1001), (45, 1001), (46, 1001), (47, 1001), (48, 1001), (49, 1001), (50, 1001), (51, 1001), (52, 1001), (53, 1001), (54, 1001), (55, 1001), (56, 1001), (57, 1001), (58, 1001), (59, 1001), (60, 1001), (61, 1001), (62, 1001), (63, 1001), (64, 1001), (65, 1001), (66, 1001), (6, 1005), (7, 1005), (8, 1005), (9, 1005), (10, 1005), (11, 1005), (12, 1005), (13, 1005), (14, 1005), (15, 1005), (16, 1005), (17, 1005), (18, 1005), (19, 1005), (20, 1005), (21, 1005), (22, 1005), (23, 1005), (24, 1005), (25, 1005), (26, 1005), (27, 1005), (28, 1005), (29, 1005), (30, 1005), (31, 1005), (32, 1005), (33, 1005), (34, 1005), (35, 1005), (36, 1005), (37, 1005), (38, 1005), (39, 1005), (40, 1005), (41, 1005), (42, 1005), (43, 1005), (44, 1005), (45, 1005), (46, 1005), (47, 1005), (48, 1005), (49, 1005), (50, 1005), (51, 1005), (52, 1005), (53, 1005), (54, 1005), (55, 1005), (56, 1005), (57, 1005), (58, 1005), (59, 1005), (60, 1005), (61, 1005), (62, 1005), (63, 1005), (64, 1005), (65, 1005), (66, 1005), (39, 1038), (40, 1038), (41, 1038), (42, 1038), (43, 1038), (44, 1038), (45, 1038), (46, 1038), (47, 1038), (48, 1038), (49, 1038), (50, 1038), (51, 1038), (52, 1038), (53, 1038), (54, 1038), (55, 1038), (56, 1038), (57, 1038), (58, 1038), (59, 1038), (60, 1038), (61, 1038), (62, 1038), (63, 1038), (64, 1038), (65, 1038), (66, 1038), (41, 1040), (42, 1040), (43, 1040), (44, 1040), (45, 1040), (46, 1040), (47, 1040), (48, 1040), (49, 1040), (50, 1040), (51, 1040), (52, 1040), (53, 1040), (54, 1040), (55, 1040), (56, 1040), (57, 1040), (58, 1040), (59, 1040), (60, 1040), (61, 1040), (62, 1040), (63, 1040), (64, 1040), (65, 1040), (66, 1040)])]),
  (6, [(16, [(21, 20), (14, 1013), (15, 1013), (16, 1013), (17, 1013), (18, 1013), (19, 1013), (20, 1013), (21, 1013), (22, 1013), (23, 1013), (24, 1013), (25, 1013), (26, 1013), (27, 1013), (28, 1013), (29, 1013), (30, 1013), (31, 1013), (32, 1013), (33, 1013), (34, 1013), (35, 1013), (36, 1013), (37, 1013), (38, 1013), (39, 1013), (40, 1013), (41, 1013), (42, 1013), (43, 1013), (44, 1013), (45, 1013), (46, 1013), (47, 1013), (48, 1013), (49, 1013), (50, 1013), (51, 1013), (52, 1013), (22, 1020), (23, 1020), (24, 1020), (25, 1020), (26, 1020), (27, 1020), (28, 1020), (29, 1020), (30, 1020), (31, 1020), (32, 1020), (33, 1020), (34, 1020), (35, 1020), (36, 1020), (37, 1020), (38, 1020), (39, 1020), (40, 1020), (41, 1020), (42, 1020), (43, 1020), (44, 1020), (45, 1020), (46, 1020), (47, 1020), (48, 1020), (49, 1020), (50, 1020), (51, 1020), (52, 1020), (23, 1022), (24, 1022), (25, 1022), (26, 1022), (27, 1022), (28, 1022), (29, 1022), (30, 1022), (31, 1022), (32, 1022), (33, 1022), (34, 1022), (35, 1022), (36, 1022), (37, 1022), (38, 1022), (39, 1022), (40, 1022), (41, 1022), (42, 1022), (43, 1022), (44, 1022), (45, 1022), (46, 1022), (47, 1022), (48, 1022), (49, 1022), (50, 1022), (51, 1022), (52, 1022)])]),
  (7, [(8, []),
    (23, []),
    (26, [(6, 4), (7, 4), (12, 4), (12, 9), (13, 4), (13, 9), (17, 4), (17, 9), (17, 15), (18, 4), (18, 9), (18, 15), (9, 1004), (10, 1004), (15, 1004), (20, 1004), (21, 1004), (22, 1004), (23, 1004), (10, 1009), (15, 1009), (20, 1009), (21, 1009), (22, 1009), (23, 1009), (20, 1015), (21, 1015), (22, 1015), (23, 1015), (21, 1020), (22, 1020), (23, 1020)]),
    (32, [(0, 3), (6, 9), (4, 1003), (5, 1003), (6, 1003), (7, 1003), (8, 1003), (9, 1003), (10, 1003), (11, 1003), (12, 1003), (13, 1003), (14, 1003), (15, 1003), (16, 1003), (17, 1003), (18, 1003), (19, 1003), (20, 1003), (21, 1003), (22, 1003), (23, 1003), (24, 1003), (25, 1003), (26, 1003), (27, 1003), (28, 1003), (29, 1003), (30, 1003), (31, 1003), (32, 1003), (33, 1003), (34, 1003), (35, 1003), (36, 1003), (37, 1003), (38, 1003), (39, 1003), (10, 1009), (11, 1009), (12, 1009), (13, 1009), (14, 1009), (15, 1009), (16, 1009), (17, 1009), (18, 1009), (19, 1009), (20, 1009), (21, 1009), (22, 1009), (23, 1009), (24, 1009), (25, 1009), (26, 1009), (27, 1009), (28, 1009), (29, 1009), (30, 1009), (31, 1009), (32, 1009), (33, 1009), (34, 1009), (35, 1009), (36, 1009), (37, 1009), (38, 1009), (39, 1009), (38, 1037), (39, 1037)])]),
  (8, [(20, []),
    (28, [])]),
  (9, [(11, [(3, 2), (4, 2), (6, 2), (7, 2), (8, 2), (11, 2), (12, 2), (9, 1002), (10, 1002), (15, 1002), (17, 1002)])]),
  (10, [(3, []),
    (10, [(0, 5), (6, 1005), (9, 1005), (10, 1005), (11, 1005), (12, 1005), (13, 1005), (14, 1005), (9, 1006), (10, 1006), (11, 1006), (12, 1006), (13, 1006), (14, 1006), (10, 1009), (11, 1009), (12, 1009), (13, 1009), (14, 1009)])]),
  (11, [(3, []),
    (4, [(1, 8), (2, 8), (2, 9), (3, 8), (3, 9), (3, 10)]),
    (5, [(5, 3), (6, 3), (8, 7)]),
    (10, []),
    (12, []),
    (13, []),
    (31, [(5, 3), (6, 3)]),
    (49, [(0, 7), (8, 1007), (9, 1007), (10, 1007), (11, 1007), (12, 1007), (13, 1007), (14, 1007), (15, 1007), (16, 1007), (17, 1007), (18, 1007), (19, 1007), (20, 1007), (21, 1007), (22, 1007), (23, 1007), (24, 1007), (25, 1007), (26, 1007), (27, 1007), (28, 1007), (29, 1007), (30, 1007), (31, 1007), (32, 1007), (27, 1026), (28, 1026), (29, 1026), (30, 1026), (31, 1026), (32, 1026)]),
    (58, []),
    (64, [])]),
  (13, [(10, [(0, 1), (8, 9), (2, 1001), (3, 1001), (4, 1001), (5, 1001), (6, 1001), (7, 1001), (8, 1001), (9, 1001), (10, 1001), (11, 1001), (12, 1001), (13, 1001), (14, 1001), (15, 1001), (16, 1001), (17, 1001), (18, 1001), (19, 1001), (20, 1001), (21, 1001), (22, 1001), (23, 1001), (24, 1001), (25, 1001), (26, 1001), (27, 1001), (28, 1001), (29, 1001), (30, 1001), (31, 1001), (32, 1001), (33, 1001), (34, 1001), (35, 1001), (36, 1001), (37, 1001), (38, 1001), (39, 1001), (40, 1001), (41, 1001), (42, 1001), (43, 1001), (44, 1001), (45, 1001), (46, 1001), (47, 1001), (48, 1001), (49, 1001), (50, 1001), (51, 1001), (52, 1001), (53, 1001), (54, 1001), (55, 1001), (56, 1001), (57, 1001), (58, 1001), (59, 1001), (60, 1001), (61, 1001), (62, 1001), (63, 1001), (64, 1001), (65, 1001), (66, 1001), (67, 1001), (68, 1001), (69, 1001), (70, 1001), (71, 1001), (72, 1001), (73, 1001), (74, 1001), (75, 1001), (10, 1009), (11, 1009), (12, 1009), (13, 1009), (14, 1009), (15, 1009), (16, 1009), (17, 1009), (18, 1009), (19, 1009), (20, 1009), (21, 1009), (22, 1009), (23, 1009), (24, 1009), (25, 1009), (26, 1009), (27, 1009), (28, 1009), (29, 1009), (30, 1009), (31, 1009), (32, 1009), (33, 1009), (34, 1009), (35, 1009), (36, 1009), (37, 1009), (38, 1009), (39, 1009), (40, 1009), (41, 1009), (42, 1009), (43, 1009), (44, 1009), (45, 1009), (46, 1009), (47, 1009), (48, 1009), (49, 1009), (50, 1009), (51, 1009), (52, 1009), (53, 1009), (54, 1009), (55, 1009), (56, 1009), (57, 1009), (58, 1009), (59, 1009), (60, 1009), (61, 1009), (62, 1009), (63, 1009), (64, 1009), (65, 1009), (66, 1009), (67, 1009), (68, 1009), (69, 1009), (70, 1009), (71, 1009), (72, 1009), (73, 1009), (74, 1009), (75, 1009), (43, 1042), (44, 1042), (45, 1042), (46, 1042), (47, 1042), (48, 1042), (49, 1042), (50, 1042), (51, 1042), (52, 1042), (53, 1042), (54, 1042), (55, 1042), (56, 1042), (57, 1042), (58, 1042), (59, 1042), (60, 1042), (61, 1042), (62, 1042), (63, 1042), (64, 1042), (65, 1042), (66, 1042), (67, 1042), (68, 1042), (69, 1042), (70, 1042), (71, 1042), (72, 1042), (73, 1042), (74, 1042), (75, 1042), (44, 1043), (45, 1043), (46, 1043), (47, 1043), (48, 1043), (49, 1043), (50, 1043), (51, 1043), (52, 1043), (53, 1043), (54, 1043), (55, 1043), (56, 1043), (57, 1043), (58, 1043), (59, 1043), (60, 1043), (61, 1043), (62, 1043), (63, 1043), (64, 1043), (65, 1043), (66, 1043), (67, 1043), (68, 1043), (69, 1043), (70, 1043), (71, 1043), (72, 1043), (73, 1043), (74, 1043), (75, 1043), (46, 1045), (47, 1045), (48, 1045), (49, 1045), (50, 1045), (51, 1045), (52, 1045), (53, 1045), (54, 1045), (55, 1045), (56, 1045), (57, 1045), (58, 1045), (59, 1045), (60, 1045), (61, 1045), (62, 1045), (63, 1045), (64, 1045), (65, 1045), (66, 1045), (67, 1045), (68, 1045), (69, 1045), (70, 1045), (71, 1045), (72, 1045), (73, 1045), (74, 1045), (75, 1045)])]),
  (15, [(1, [(0, 3), (0, 7), (4, 1003), (5, 1003), (6, 1003), (7, 1003), (8, 1003), (9, 1003), (10, 1003), (8, 1007), (9, 1007), (10, 1007), (10, 1009)])]),
  (16, [(3, [(7, 3), (7, 4), (7, 16), (8, 3), (8, 4), (8, 16), (9, 3), (9, 4), (9, 16), (10, 3), (10, 4), (10, 16), (11, 3), (11, 4), (11, 16), (12, 3), (12, 4), (12, 16), (13, 3), (13, 4), (13, 16), (4, 1003), (16, 1003), (17, 1003), (16, 1004), (17, 1004)]),
    (4, []),
    (5, [(5, 3), (6, 3), (10, 3), (10, 7), (11, 3), (11, 7), (14, 3), (14, 7), (14, 12), (15, 3), (15, 7), (15, 12), (7, 1003), (8, 1003), (12, 1003), (16, 1003), (17, 1003), (18, 1003), (19, 1003), (20, 1003), (8, 1007), (12, 1007), (16, 1007), (17, 1007), (18, 1007), (19, 1007), (20, 1007), (16, 1012), (17, 1012), (18, 1012), (19, 1012), (20, 1012), (17, 1016), (18, 1016), (19, 1016), (20, 1016)])]),
  (17, [(1, [(0, 3), (0, 7), (4, 1003), (5, 1003), (6, 1003), (7, 1003), (8, 1003), (9, 1003), (10, 1003), (8, 1007), (9, 1007), (10, 1007), (10, 1009)]),
    (4, [(4, 3), (4, 12), (5, 3), (5, 12), (7, 3), (7, 12), (8, 3), (8, 12), (9, 3), (9, 12), (12, 1003), (13, 1003)]),
    (5, [(6, 5), (7, 5), (8, 5), (9, 5), (12, 5), (12, 11), (13, 5), (13, 11), (14, 5), (14, 11), (15, 5), (15, 11), (18, 5), (18, 11), (18, 17), (19, 5), (19, 11), (19, 17), (20, 5), (20, 11), (20, 17), (21, 5), (21, 11), (21, 17), (11, 1005), (17, 1005), (23, 1005), (24, 1005), (25, 1005), (26, 1005), (27, 1005), (17, 1011), (23, 1011), (24, 1011), (25, 1011), (26, 1011), (27, 1011), (23, 1017), (24, 1017), (25, 1017), (26, 1017), (27, 1017), (24, 1023), (25, 1023), (26, 1023), (27, 1023), (26, 1025), (27, 1025)])]),
  (19, [(1, [(0, 3), (0, 7), (4, 1003), (5, 1003), (6, 1003), (7, 1003), (8, 1003), (9, 1003), (10, 1003), (8, 1007), (9, 1007), (10, 1007), (10, 1009)])]),
  (20, [(2, [(3, 2), (4, 1002), (5, 1002), (6, 1002), (5, 1004), (6, 1004)])]),
  (21, [(1, [(0, 3), (4, 1003), (5, 1003), (5, 1004)])]),
  (25, [(1, [(0, 3), (4, 1003), (5, 1003), (5, 1004)])]),
  (26, [(4, [(13, 1012)]),
    (5, [(12, 1011)])]),
  (27, [(1, [(0, 3), (0, 6), (4, 1003), (5, 1003), (6, 1003), (7, 1003), (8, 1003), (9, 1003), (7, 1006), (8, 1006), (9, 1006), (9, 1008)])]),
  (29, [(1, [(0, 3), (0, 6), (0, 11), (4, 1003), (5, 1003), (6, 1003), (7, 1003), (8, 1003), (9, 1003), (10, 1003), (11, 1003), (12, 1003), (13, 1003), (14, 1003), (7, 1006), (8, 1006), (9, 1006), (10, 1006), (11, 1006), (12, 1006), (13, 1006), (14, 1006), (12, 1011), (13, 1011), (14, 1011), (14, 1013)])]),
  (30, [(6, [])]),
  (34, [(4, [(5, 3), (6, 3), (7, 1003), (8, 1003), (9, 1003), (8, 1007), (9, 1007)])]),
  (37, [(2, []),
    (4, [(0, 12), (0, 15), (1, 12), (1, 15), (3, 12), (3, 15), (3, 18), (4, 12), (4, 15), (4, 18), (15, 1012), (16, 1012), (17, 1012), (18, 1012), (19, 1012), (20, 1012), (21, 1012), (16, 1015), (17, 1015), (18, 1015), (19, 1015), (20, 1015), (21, 1015)])]),
  (38, [(1, [(4, 3)])]),
  (51, [(6, [(1, 9), (4, 9), (5, 9), (6, 9), (10, 1009), (11, 1009), (12, 1009), (13, 1009), (11, 1010), (12, 1010), (13, 1010)]),
    (7, [(1, 9), (4, 9), (5, 9), (6, 9), (10, 1009), (11, 1009), (12, 1009), (13, 1009), (11, 1010), (12, 1010), (13, 1010)])]),
  (55, [(1, []),
    (5, [])]),
  (59, [(2, [])]),
  (61, [(1, [])]),
  (63, [(23, [])]),
  (83, [(1, [(5, 4), (6, 4), (7, 1004), (8, 1004), (8, 1007)])]),
  (84, [(2, []),
    (3, [])]),
  (88, [(4, [])]),
  (93, [(0, []),
    (1, []),
    (3, [(6, 5), (7, 5), (8, 5), (11, 1005), (12, 1005), (14, 1005), (12, 1011), (14, 1011)])]),
  (94, [(1, []),
    (4, [(1, 0), (2, 0), (3, 1000), (4, 1000), (5, 1000), (6, 1000)]),
    (12, [(12, 1011)]),
    (17, [(4, 3), (5, 3), (6, 1003), (7, 1003), (7, 1006)]),
    (19, [])]),
  (98, [(2, []),
    (3, []),
    (9, [(13, 1012), (14, 1012)])]),
  (120, [(1, [(4, 3), (5, 3), (6, 3), (7, 3), (9, 1003), (10, 1003), (11, 1003), (11, 1010)])])]
def tyL : List (Nat × Ty) := [
  (1, ⟨.other, 1, 8, some (.nilFunc)⟩),
  (2, ⟨.int .i64, 1, 8, some (.int .i64 0)⟩),
  (3, ⟨.int .i64, 1, 8, some (.int .i64 0)⟩),
  (4, ⟨.bool, 1, 1, some (.bool false)⟩),
  (5, ⟨.int .u8, 1, 1, some (.int .u8 0)⟩),
  (6, ⟨.int .u8, 1, 1, some (.int .u8 0)⟩),
  (8, ⟨.struct [(0, 2), (1, 3), (2, 4), (3, 6)], 4, 24, some (.agg #[.int .i64 0, .int .i64 0, .bool false, .int .u8 0])⟩),
  (12, ⟨.int .u64, 1, 8, some (.int .u64 0)⟩),
  (15, ⟨.other, 1, 8, some (.pointer none)⟩),
  (16, ⟨.other, 1, 8, some (.pointer none)⟩),
  (17, ⟨.other, 1, 8, some (.pointer none)⟩),
  (19, ⟨.struct [(0, 17)], 1, 8, some (.agg #[.pointer none])⟩),
  (20, ⟨.iface, 1, 16, some (.nilIface)⟩),
  (22, ⟨.slice 56, 1, 24, some (.slice none 0 0)⟩),
  (23, ⟨.slice 63, 1, 24, some (.slice none 0 0)⟩),
  (25, ⟨.struct [(0, 22), (1, 3), (2, 3), (3, 23)], 4, 64, some (.agg #[.slice none 0 0, .int .i64 0, .int .i64 0, .slice none 0 0])⟩),
  (29, ⟨.struct [(0, 3), (1, 3)], 2, 16, some (.agg #[.int .i64 0, .int .i64 0])⟩),
  (30, ⟨.int .i64, 1, 8, some (.int .i64 0)⟩),
  (38, ⟨.slice 29, 1, 24, some (.slice none 0 0)⟩),
  (45, ⟨.struct [(0, 3), (1, 3), (2, 29)], 4, 32, some (.agg #[.int .i64 0, .int .i64 0, .int .i64 0, .int .i64 0])⟩),
  (46, ⟨.slice 45, 1, 24, some (.slice none 0 0)⟩),
  (48, ⟨.slice 105, 1, 24, some (.slice none 0 0)⟩),
  (49, ⟨.slice 3, 1, 24, some (.slice none 0 0)⟩),
  (53, ⟨.other, 1, 8, some (.nilFunc)⟩),
  (56, ⟨.struct [(0, 29), (2, 29), (4, 29)], 6, 48, some (.agg #[.int .i64 0, .int .i64 0, .int .i64 0, .int .i64 0, .int .i64 0, .int .i64 0])⟩),
  (57, ⟨.slice 4, 1, 24, some (.slice none 0 0)⟩),
  (63, ⟨.struct [(0, 3), (1, 3), (2, 29)], 4, 32, some (.agg #[.int .i64 0, .int .i64 0, .int .i64 0, .int .i64 0])⟩),
  (66, ⟨.other, 1, 8, some (.pointer none)⟩),
  (68, ⟨.other, 1, 8, some (.pointer none)⟩),
  (69, ⟨.other, 1, 8, some (.pointer none)⟩),
  (71, ⟨.other, 1, 8, some (.nilFunc)⟩),
  (72, ⟨.other, 1, 8, some (.nilFunc)⟩),
  (74, ⟨.other, 1, 8, some (.nilFunc)⟩),
  (75, ⟨.other, 1, 8, some (.nilFunc)⟩),
  (80, ⟨.map 114 83, 1, 8, some (.map none)⟩),
  (82, ⟨.struct [(0, 25), (4, 80)], 5, 72, some (.agg #[.slice none 0 0, .int .i64 0, .int .i64 0, .slice none 0 0, .map none])⟩),
  (83, ⟨.int .i64, 1, 8, some (.int .i64 0)⟩),
  (88, ⟨.other, 1, 8, some (.nilFunc)⟩),
  (90, ⟨.struct [(0, 88)], 1, 8, some (.agg #[.nilFunc])⟩),
  (96, ⟨.other, 1, 8, some (.nilFunc)⟩),
  (97, ⟨.other, 1, 8, some (.nilFunc)⟩),
  (101, ⟨.struct [(0, 71)], 1, 8, some (.agg #[.nilFunc])⟩),
  (105, ⟨.int .u16, 1, 2, some (.int .u16 0)⟩),
  (106, ⟨.other, 1, 8, some (.nilFunc)⟩),
  (107, ⟨.other, 1, 8, some (.nilFunc)⟩),
  (109, ⟨.struct [(0, 30)], 1, 8, some (.agg #[.int .i64 0])⟩),
  (114, ⟨.struct [(0, 3), (1, 3), (2, 3), (3, 3)], 4, 32, some (.agg #[.int .i64 0, .int .i64 0, .int .i64 0, .int .i64 0])⟩),
  (120, ⟨.other, 1, 8, some (.nilFunc)⟩),
  (122, ⟨.iface, 1, 16, some (.nilIface)⟩),
  (123, ⟨.array 2 122, 2, 32, some (.agg #[.nilIface, .nilIface])⟩),
  (125, ⟨.slice 83, 1, 24, some (.slice none 0 0)⟩),
  (126, ⟨.other, 1, 8, some (.nilFunc)⟩),
  (129, ⟨.struct [], 0, 0, some (.agg #[])⟩),
  (131, ⟨.struct [(0, 129)], 0, 0, some (.agg #[])⟩),
  (141, ⟨.int .u8, 1, 1, some (.int .u8 0)⟩)]
def eqL : List (Nat × (Bool × List (Option IntKind))) := [
  (2, (false, [some .i64])),
  (3, (false, [some .i64])),
  (4, (false, [none])),
  (5, (false, [some .u8])),
  (6, (false, [some .u8])),
  (8, (true, [some .i64, some .i64, none, some .u8])),
  (12, (false, [some .u64])),
  (29, (true, [some .i64, some .i64])),
  (30, (false, [some .i64])),
  (45, (true, [some .i64, some .i64, some .i64, some .i64])),
  (56, (true, [some .i64, some .i64, some .i64, some .i64, some .i64, some .i64])),
  (63, (true, [some .i64, some .i64, some .i64, some .i64])),
  (83, (false, [some .i64])),
  (105, (false, [some .u16])),
  (109, (true, [some .i64])),
  (114, (true, [some .i64, some .i64, some .i64, some .i64])),
  (129, (true, [])),
  (131, (true, [])),
  (141, (false, [some .u8]))]
def methL : List (Nat × List (String × FuncId)) := [
  (8, [("Error", 104), ("RuntimeError", 105)]),
  (10, [("Error", 106), ("RuntimeError", 107)]),
  (11, [("Error", 108), ("RuntimeError", 109)]),
  (14, [("Error", 110), ("RuntimeError", 111)]),
  (19, [("Error", 117), ("RuntimeError", 118)]),
  (83, [("blockworks/settle.falls", 75), ("blockworks/settle.longer", 54)]),
  (129, [("blockworks/settle.of", 119)]),
  (131, [("blockworks/settle.of", 120)]),
  (141, [("String", 121)])]
noncomputable def fnL : List (Nat × Func) := [
  (0, Go.Proofs.Try.f0),
  (1, Go.Proofs.Try.f1),
  (2, Go.Proofs.Try.f2),
  (3, Go.Proofs.Try.f3),
  (4, Go.Proofs.Try.f4),
  (5, Go.Proofs.Try.f5),
  (6, Go.Proofs.Try.f6),
  (7, Go.Proofs.Try.f7),
  (8, Go.Proofs.Try.f8),
  (9, Go.Proofs.Try.f9),
  (10, Go.Proofs.Try.f10),
  (11, Go.Proofs.Try.f11),
  (12, Go.Proofs.Try.f12),
  (13, Go.Proofs.Try.f13),
  (14, Go.Proofs.Try.f14),
  (15, Go.Proofs.Try.f15),
  (16, Go.Proofs.Try.f16),
  (17, Go.Proofs.Try.f17),
  (18, Go.Proofs.Try.f18),
  (19, Go.Proofs.Try.f19),
  (20, Go.Proofs.Try.f20),
  (21, Go.Proofs.Try.f21),
  (22, Go.Proofs.Try.f22),
  (23, Go.Proofs.Try.f23),
  (24, Go.Proofs.Try.f24),
  (25, Go.Proofs.Try.f25),
  (26, Go.Proofs.Try.f26),
  (27, Go.Proofs.Try.f27),
  (28, Go.Proofs.Try.f28),
  (29, Go.Proofs.Try.f29),
  (30, Go.Proofs.Try.f30),
  (31, Go.Proofs.Try.f31),
  (32, Go.Proofs.Try.f32),
  (33, Go.Proofs.Try.f33),
  (34, Go.Proofs.Try.f34),
  (35, Go.Proofs.Try.f35),
  (36, Go.Proofs.Try.f36),
  (37, Go.Proofs.Try.f37),
  (38, Go.Proofs.Try.f38),
  (39, Go.Proofs.Try.f39),
  (40, Go.Proofs.Try.f40),
  (41, Go.Proofs.Try.f41),
  (42, Go.Proofs.Try.f42),
  (43, Go.Proofs.Try.f43),
  (44, Go.Proofs.Try.f44),
  (45, Go.Proofs.Try.f45),
  (46, Go.Proofs.Try.f46),
  (47, Go.Proofs.Try.f47),
  (48, Go.Proofs.Try.f48),
  (49, Go.Proofs.Try.f49),
  (50, Go.Proofs.Try.f50),
  (51, Go.Proofs.Try.f51),
  (52, Go.Proofs.Try.f52),
  (53, Go.Proofs.Try.f53),
  (54, Go.Proofs.Try.f54),
  (55, Go.Proofs.Try.f55),
  (56, Go.Proofs.Try.f56),
  (57, Go.Proofs.Try.f57),
  (58, Go.Proofs.Try.f58),
  (59, Go.Proofs.Try.f59),
  (60, Go.Proofs.Try.f60),
  (61, Go.Proofs.Try.f61),
  (62, Go.Proofs.Try.f62),
  (63, Go.Proofs.Try.f63),
  (64, Go.Proofs.Try.f64),
  (65, Go.Proofs.Try.f65),
  (66, Go.Proofs.Try.f66),
  (67, Go.Proofs.Try.f67),
  (68, Go.Proofs.Try.f68),
  (69, Go.Proofs.Try.f69),
  (70, Go.Proofs.Try.f70),
  (71, Go.Proofs.Try.f71),
  (72, Go.Proofs.Try.f72),
  (73, Go.Proofs.Try.f73),
  (74, Go.Proofs.Try.f74),
  (75, Go.Proofs.Try.f75),
  (76, Go.Proofs.Try.f76),
  (77, Go.Proofs.Try.f77),
  (78, Go.Proofs.Try.f78),
  (79, Go.Proofs.Try.f79),
  (80, Go.Proofs.Try.f80),
  (81, Go.Proofs.Try.f81),
  (82, Go.Proofs.Try.f82),
  (83, Go.Proofs.Try.f83),
  (84, Go.Proofs.Try.f84),
  (85, Go.Proofs.Try.f85),
  (86, Go.Proofs.Try.f86),
  (87, Go.Proofs.Try.f87),
  (88, Go.Proofs.Try.f88),
  (89, Go.Proofs.Try.f89),
  (90, Go.Proofs.Try.f90),
  (91, Go.Proofs.Try.f91),
  (92, Go.Proofs.Try.f92),
  (93, Go.Proofs.Try.f93),
  (94, Go.Proofs.Try.f94),
  (95, Go.Proofs.Try.f95),
  (96, Go.Proofs.Try.f96),
  (97, Go.Proofs.Try.f97),
  (98, Go.Proofs.Try.f98),
  (99, Go.Proofs.Try.f99),
  (100, Go.Proofs.Try.f100),
  (101, Go.Proofs.Try.f101),
  (102, Go.Proofs.Try.f102),
  (103, Go.Proofs.Try.f103),
  (104, Go.Proofs.Try.f104),
  (105, Go.Proofs.Try.f105),
  (106, Go.Proofs.Try.f106),
  (107, Go.Proofs.Try.f107),
  (108, Go.Proofs.Try.f108),
  (109, Go.Proofs.Try.f109),
  (110, Go.Proofs.Try.f110),
  (111, Go.Proofs.Try.f111),
  (112, Go.Proofs.Try.f112),
  (113, Go.Proofs.Try.f113),
  (114, Go.Proofs.Try.f114),
  (115, Go.Proofs.Try.f115),
  (116, Go.Proofs.Try.f116),
  (117, Go.Proofs.Try.f117),
  (118, Go.Proofs.Try.f118),
  (119, Go.Proofs.Try.f119),
  (120, Go.Proofs.Try.f120),
  (121, Go.Proofs.Try.f121)]
def gcL : List (Nat × List (Nat × (List Nat × Nat))) := [
  (6, [(10, ([3, 7, 9, 10, 11, 82, 83, 84], 1))]),
  (7, [(15, ([3, 13, 14, 15, 17, 19, 20, 21], 3)), (18, ([3, 13, 14, 15, 17, 19, 20, 21, 139, 140, 141], 3))]),
  (8, [(10, ([2, 5, 6, 8, 9, 10, 11, 85, 86], 1)), (18, ([2, 5, 6, 8, 9, 10, 11, 12, 15, 17, 85, 86, 146, 147, 148], 2))]),
  (11, [(17, ([4, 9, 10, 11, 12, 13, 14, 158, 159, 160], 10)), (23, ([4, 9, 10, 11, 12, 13, 14, 182, 183, 184], 10))]),
  (22, [(5, ([2, 3, 4, 5, 15, 16], 6))]),
  (24, [(5, ([3, 4, 5, 6, 7, 19, 20], 8))]),
  (26, [(4, ([4, 6, 7, 8, 9, 10], 8))]),
  (33, [(4, ([1, 3], 1)), (10, ([1, 5], 1))]),
  (34, [(6, ([1, 3, 6, 9, 10, 11, 12, 33, 34], 5)), (11, ([1, 3, 6, 9, 10, 11, 12, 13, 33, 34, 43, 44, 45], 5))]),
  (37, [(6, ([4, 8, 9, 44, 45, 46], 5))]),
  (42, [(3, ([1, 2, 32, 33, 34], 1)), (9, ([1, 7, 56, 57, 58], 4))]),
  (63, [(3, ([1, 2, 3, 7, 8], 2))]),
  (93, [(1, ([0, 1, 2, 3, 5], 0))]),
  (94, [(7, ([0, 3, 7, 8, 36, 37, 38], 2))]),
  (100, [(1, ([0, 3], 0))]),
  (102, [(2, ([2, 5, 6, 7], 0))])]
def growL : List (Nat × List Nat) := [
  (11, [154, 155, 156]),
  (24, [7]),
  (25, [7]),
  (34, [6]),
  (37, [23]),
  (51, [8]),
  (63, [9]),
  (94, [8]),
  (96, [5]),
  (97, [5]),
  (98, [5])]
def at2 {α : Type} (l : List (Nat × List (Nat × α))) (f id : Nat) : Option α :=
  match getAt l f with
  | some r => getAt r id
  | none => none
def methT (t : TypeId) (n : String) : Option FuncId :=
  match getAt methL t with
  | some r => (r.find? fun x => x.1 == n).map (·.2)
  | none => none
def growT (f x : Nat) : Bool :=
  match getAt growL f with
  | some r => r.contains x
  | none => false
noncomputable def cfg0 : Cfg := ⟨at2 gcL, growT, at2 planL, fun _ => none, getAt tyL, getAt eqL, methT, getAt fnL⟩
noncomputable abbrev prog0 : Program := Go.Proofs.Try.prog

theorem ty1 : cfg0.ty 1 = some ⟨.other, 1, 8, some (.nilFunc)⟩ := rfl
theorem ty2 : cfg0.ty 2 = some ⟨.int .i64, 1, 8, some (.int .i64 0)⟩ := rfl
theorem ty3 : cfg0.ty 3 = some ⟨.int .i64, 1, 8, some (.int .i64 0)⟩ := rfl
theorem ty4 : cfg0.ty 4 = some ⟨.bool, 1, 1, some (.bool false)⟩ := rfl
theorem ty5 : cfg0.ty 5 = some ⟨.int .u8, 1, 1, some (.int .u8 0)⟩ := rfl
theorem ty6 : cfg0.ty 6 = some ⟨.int .u8, 1, 1, some (.int .u8 0)⟩ := rfl
theorem ty8 : cfg0.ty 8 = some ⟨.struct [(0, 2), (1, 3), (2, 4), (3, 6)], 4, 24, some (.agg #[.int .i64 0, .int .i64 0, .bool false, .int .u8 0])⟩ := rfl
theorem ty12 : cfg0.ty 12 = some ⟨.int .u64, 1, 8, some (.int .u64 0)⟩ := rfl
theorem ty15 : cfg0.ty 15 = some ⟨.other, 1, 8, some (.pointer none)⟩ := rfl
theorem ty16 : cfg0.ty 16 = some ⟨.other, 1, 8, some (.pointer none)⟩ := rfl
theorem ty17 : cfg0.ty 17 = some ⟨.other, 1, 8, some (.pointer none)⟩ := rfl
theorem ty19 : cfg0.ty 19 = some ⟨.struct [(0, 17)], 1, 8, some (.agg #[.pointer none])⟩ := rfl
theorem ty20 : cfg0.ty 20 = some ⟨.iface, 1, 16, some (.nilIface)⟩ := rfl
theorem ty22 : cfg0.ty 22 = some ⟨.slice 56, 1, 24, some (.slice none 0 0)⟩ := rfl
theorem ty23 : cfg0.ty 23 = some ⟨.slice 63, 1, 24, some (.slice none 0 0)⟩ := rfl
theorem ty25 : cfg0.ty 25 = some ⟨.struct [(0, 22), (1, 3), (2, 3), (3, 23)], 4, 64, some (.agg #[.slice none 0 0, .int .i64 0, .int .i64 0, .slice none 0 0])⟩ := rfl
theorem ty29 : cfg0.ty 29 = some ⟨.struct [(0, 3), (1, 3)], 2, 16, some (.agg #[.int .i64 0, .int .i64 0])⟩ := rfl
theorem ty30 : cfg0.ty 30 = some ⟨.int .i64, 1, 8, some (.int .i64 0)⟩ := rfl
theorem ty38 : cfg0.ty 38 = some ⟨.slice 29, 1, 24, some (.slice none 0 0)⟩ := rfl
theorem ty45 : cfg0.ty 45 = some ⟨.struct [(0, 3), (1, 3), (2, 29)], 4, 32, some (.agg #[.int .i64 0, .int .i64 0, .int .i64 0, .int .i64 0])⟩ := rfl
theorem ty46 : cfg0.ty 46 = some ⟨.slice 45, 1, 24, some (.slice none 0 0)⟩ := rfl
theorem ty48 : cfg0.ty 48 = some ⟨.slice 105, 1, 24, some (.slice none 0 0)⟩ := rfl
theorem ty49 : cfg0.ty 49 = some ⟨.slice 3, 1, 24, some (.slice none 0 0)⟩ := rfl
theorem ty53 : cfg0.ty 53 = some ⟨.other, 1, 8, some (.nilFunc)⟩ := rfl
theorem ty56 : cfg0.ty 56 = some ⟨.struct [(0, 29), (2, 29), (4, 29)], 6, 48, some (.agg #[.int .i64 0, .int .i64 0, .int .i64 0, .int .i64 0, .int .i64 0, .int .i64 0])⟩ := rfl
theorem ty57 : cfg0.ty 57 = some ⟨.slice 4, 1, 24, some (.slice none 0 0)⟩ := rfl
theorem ty63 : cfg0.ty 63 = some ⟨.struct [(0, 3), (1, 3), (2, 29)], 4, 32, some (.agg #[.int .i64 0, .int .i64 0, .int .i64 0, .int .i64 0])⟩ := rfl
theorem ty66 : cfg0.ty 66 = some ⟨.other, 1, 8, some (.pointer none)⟩ := rfl
theorem ty68 : cfg0.ty 68 = some ⟨.other, 1, 8, some (.pointer none)⟩ := rfl
theorem ty69 : cfg0.ty 69 = some ⟨.other, 1, 8, some (.pointer none)⟩ := rfl
theorem ty71 : cfg0.ty 71 = some ⟨.other, 1, 8, some (.nilFunc)⟩ := rfl
theorem ty72 : cfg0.ty 72 = some ⟨.other, 1, 8, some (.nilFunc)⟩ := rfl
theorem ty74 : cfg0.ty 74 = some ⟨.other, 1, 8, some (.nilFunc)⟩ := rfl
theorem ty75 : cfg0.ty 75 = some ⟨.other, 1, 8, some (.nilFunc)⟩ := rfl
theorem ty80 : cfg0.ty 80 = some ⟨.map 114 83, 1, 8, some (.map none)⟩ := rfl
theorem ty82 : cfg0.ty 82 = some ⟨.struct [(0, 25), (4, 80)], 5, 72, some (.agg #[.slice none 0 0, .int .i64 0, .int .i64 0, .slice none 0 0, .map none])⟩ := rfl
theorem ty83 : cfg0.ty 83 = some ⟨.int .i64, 1, 8, some (.int .i64 0)⟩ := rfl
theorem ty88 : cfg0.ty 88 = some ⟨.other, 1, 8, some (.nilFunc)⟩ := rfl
theorem ty90 : cfg0.ty 90 = some ⟨.struct [(0, 88)], 1, 8, some (.agg #[.nilFunc])⟩ := rfl
theorem ty96 : cfg0.ty 96 = some ⟨.other, 1, 8, some (.nilFunc)⟩ := rfl
theorem ty97 : cfg0.ty 97 = some ⟨.other, 1, 8, some (.nilFunc)⟩ := rfl
theorem ty101 : cfg0.ty 101 = some ⟨.struct [(0, 71)], 1, 8, some (.agg #[.nilFunc])⟩ := rfl
theorem ty105 : cfg0.ty 105 = some ⟨.int .u16, 1, 2, some (.int .u16 0)⟩ := rfl
theorem ty106 : cfg0.ty 106 = some ⟨.other, 1, 8, some (.nilFunc)⟩ := rfl
theorem ty107 : cfg0.ty 107 = some ⟨.other, 1, 8, some (.nilFunc)⟩ := rfl
theorem ty109 : cfg0.ty 109 = some ⟨.struct [(0, 30)], 1, 8, some (.agg #[.int .i64 0])⟩ := rfl
theorem ty114 : cfg0.ty 114 = some ⟨.struct [(0, 3), (1, 3), (2, 3), (3, 3)], 4, 32, some (.agg #[.int .i64 0, .int .i64 0, .int .i64 0, .int .i64 0])⟩ := rfl
theorem ty120 : cfg0.ty 120 = some ⟨.other, 1, 8, some (.nilFunc)⟩ := rfl
theorem ty122 : cfg0.ty 122 = some ⟨.iface, 1, 16, some (.nilIface)⟩ := rfl
theorem ty123 : cfg0.ty 123 = some ⟨.array 2 122, 2, 32, some (.agg #[.nilIface, .nilIface])⟩ := rfl
theorem ty125 : cfg0.ty 125 = some ⟨.slice 83, 1, 24, some (.slice none 0 0)⟩ := rfl
theorem ty126 : cfg0.ty 126 = some ⟨.other, 1, 8, some (.nilFunc)⟩ := rfl
theorem ty129 : cfg0.ty 129 = some ⟨.struct [], 0, 0, some (.agg #[])⟩ := rfl
theorem ty131 : cfg0.ty 131 = some ⟨.struct [(0, 129)], 0, 0, some (.agg #[])⟩ := rfl
theorem ty141 : cfg0.ty 141 = some ⟨.int .u8, 1, 1, some (.int .u8 0)⟩ := rfl
theorem ifc20 : isIfc prog0 20 = true := by kernel_rfl
theorem ifc122 : isIfc prog0 122 = true := by kernel_rfl
theorem zf131_0 : zeroFld prog0 131 0 = true := by kernel_rfl
theorem eqt2 : cfg0.eqt 2 = some (false, [some .i64]) := rfl
theorem eqt3 : cfg0.eqt 3 = some (false, [some .i64]) := rfl
theorem eqt4 : cfg0.eqt 4 = some (false, [none]) := rfl
theorem eqt5 : cfg0.eqt 5 = some (false, [some .u8]) := rfl
theorem eqt6 : cfg0.eqt 6 = some (false, [some .u8]) := rfl
theorem eqt8 : cfg0.eqt 8 = some (true, [some .i64, some .i64, none, some .u8]) := rfl
theorem eqt12 : cfg0.eqt 12 = some (false, [some .u64]) := rfl
theorem eqt29 : cfg0.eqt 29 = some (true, [some .i64, some .i64]) := rfl
theorem eqt30 : cfg0.eqt 30 = some (false, [some .i64]) := rfl
theorem eqt45 : cfg0.eqt 45 = some (true, [some .i64, some .i64, some .i64, some .i64]) := rfl
theorem eqt56 : cfg0.eqt 56 = some (true, [some .i64, some .i64, some .i64, some .i64, some .i64, some .i64]) := rfl
theorem eqt63 : cfg0.eqt 63 = some (true, [some .i64, some .i64, some .i64, some .i64]) := rfl
theorem eqt83 : cfg0.eqt 83 = some (false, [some .i64]) := rfl
theorem eqt105 : cfg0.eqt 105 = some (false, [some .u16]) := rfl
theorem eqt109 : cfg0.eqt 109 = some (true, [some .i64]) := rfl
theorem eqt114 : cfg0.eqt 114 = some (true, [some .i64, some .i64, some .i64, some .i64]) := rfl
theorem eqt129 : cfg0.eqt 129 = some (true, []) := rfl
theorem eqt131 : cfg0.eqt 131 = some (true, []) := rfl
theorem eqt141 : cfg0.eqt 141 = some (false, [some .u8]) := rfl
theorem meth75 : cfg0.meth 83 "blockworks/settle.falls" = some 75 := rfl
theorem meth54 : cfg0.meth 83 "blockworks/settle.longer" = some 54 := rfl
theorem meth119 : cfg0.meth 129 "blockworks/settle.of" = some 119 := rfl
theorem meth120 : cfg0.meth 131 "blockworks/settle.of" = some 120 := rfl
theorem fn0 : cfg0.fns 0 = some Go.Proofs.Try.f0 := rfl
theorem fn1 : cfg0.fns 1 = some Go.Proofs.Try.f1 := rfl
theorem fn2 : cfg0.fns 2 = some Go.Proofs.Try.f2 := rfl
theorem fn3 : cfg0.fns 3 = some Go.Proofs.Try.f3 := rfl
theorem fn4 : cfg0.fns 4 = some Go.Proofs.Try.f4 := rfl
theorem fn5 : cfg0.fns 5 = some Go.Proofs.Try.f5 := rfl
theorem fn6 : cfg0.fns 6 = some Go.Proofs.Try.f6 := rfl
theorem fn7 : cfg0.fns 7 = some Go.Proofs.Try.f7 := rfl
theorem fn8 : cfg0.fns 8 = some Go.Proofs.Try.f8 := rfl
theorem fn9 : cfg0.fns 9 = some Go.Proofs.Try.f9 := rfl
theorem fn10 : cfg0.fns 10 = some Go.Proofs.Try.f10 := rfl
theorem fn11 : cfg0.fns 11 = some Go.Proofs.Try.f11 := rfl
theorem fn12 : cfg0.fns 12 = some Go.Proofs.Try.f12 := rfl
theorem fn13 : cfg0.fns 13 = some Go.Proofs.Try.f13 := rfl
theorem fn14 : cfg0.fns 14 = some Go.Proofs.Try.f14 := rfl
theorem fn15 : cfg0.fns 15 = some Go.Proofs.Try.f15 := rfl
theorem fn16 : cfg0.fns 16 = some Go.Proofs.Try.f16 := rfl
theorem fn17 : cfg0.fns 17 = some Go.Proofs.Try.f17 := rfl
theorem fn18 : cfg0.fns 18 = some Go.Proofs.Try.f18 := rfl
theorem fn19 : cfg0.fns 19 = some Go.Proofs.Try.f19 := rfl
theorem fn20 : cfg0.fns 20 = some Go.Proofs.Try.f20 := rfl
theorem fn21 : cfg0.fns 21 = some Go.Proofs.Try.f21 := rfl
theorem fn22 : cfg0.fns 22 = some Go.Proofs.Try.f22 := rfl
theorem fn23 : cfg0.fns 23 = some Go.Proofs.Try.f23 := rfl
theorem fn24 : cfg0.fns 24 = some Go.Proofs.Try.f24 := rfl
theorem fn25 : cfg0.fns 25 = some Go.Proofs.Try.f25 := rfl
theorem fn26 : cfg0.fns 26 = some Go.Proofs.Try.f26 := rfl
theorem fn27 : cfg0.fns 27 = some Go.Proofs.Try.f27 := rfl
theorem fn28 : cfg0.fns 28 = some Go.Proofs.Try.f28 := rfl
theorem fn29 : cfg0.fns 29 = some Go.Proofs.Try.f29 := rfl
theorem fn30 : cfg0.fns 30 = some Go.Proofs.Try.f30 := rfl
theorem fn31 : cfg0.fns 31 = some Go.Proofs.Try.f31 := rfl
theorem fn32 : cfg0.fns 32 = some Go.Proofs.Try.f32 := rfl
theorem fn33 : cfg0.fns 33 = some Go.Proofs.Try.f33 := rfl
theorem fn34 : cfg0.fns 34 = some Go.Proofs.Try.f34 := rfl
theorem fn35 : cfg0.fns 35 = some Go.Proofs.Try.f35 := rfl
theorem fn36 : cfg0.fns 36 = some Go.Proofs.Try.f36 := rfl
theorem fn37 : cfg0.fns 37 = some Go.Proofs.Try.f37 := rfl
theorem fn38 : cfg0.fns 38 = some Go.Proofs.Try.f38 := rfl
theorem fn39 : cfg0.fns 39 = some Go.Proofs.Try.f39 := rfl
theorem fn40 : cfg0.fns 40 = some Go.Proofs.Try.f40 := rfl
theorem fn41 : cfg0.fns 41 = some Go.Proofs.Try.f41 := rfl
theorem fn42 : cfg0.fns 42 = some Go.Proofs.Try.f42 := rfl
theorem fn43 : cfg0.fns 43 = some Go.Proofs.Try.f43 := rfl
theorem fn44 : cfg0.fns 44 = some Go.Proofs.Try.f44 := rfl
theorem fn45 : cfg0.fns 45 = some Go.Proofs.Try.f45 := rfl
theorem fn46 : cfg0.fns 46 = some Go.Proofs.Try.f46 := rfl
theorem fn47 : cfg0.fns 47 = some Go.Proofs.Try.f47 := rfl
theorem fn48 : cfg0.fns 48 = some Go.Proofs.Try.f48 := rfl
theorem fn49 : cfg0.fns 49 = some Go.Proofs.Try.f49 := rfl
theorem fn50 : cfg0.fns 50 = some Go.Proofs.Try.f50 := rfl
theorem fn51 : cfg0.fns 51 = some Go.Proofs.Try.f51 := rfl
theorem fn52 : cfg0.fns 52 = some Go.Proofs.Try.f52 := rfl
theorem fn53 : cfg0.fns 53 = some Go.Proofs.Try.f53 := rfl
theorem fn54 : cfg0.fns 54 = some Go.Proofs.Try.f54 := rfl
theorem fn55 : cfg0.fns 55 = some Go.Proofs.Try.f55 := rfl
theorem fn56 : cfg0.fns 56 = some Go.Proofs.Try.f56 := rfl
theorem fn57 : cfg0.fns 57 = some Go.Proofs.Try.f57 := rfl
theorem fn58 : cfg0.fns 58 = some Go.Proofs.Try.f58 := rfl
theorem fn59 : cfg0.fns 59 = some Go.Proofs.Try.f59 := rfl
theorem fn60 : cfg0.fns 60 = some Go.Proofs.Try.f60 := rfl
theorem fn61 : cfg0.fns 61 = some Go.Proofs.Try.f61 := rfl
theorem fn62 : cfg0.fns 62 = some Go.Proofs.Try.f62 := rfl
theorem fn63 : cfg0.fns 63 = some Go.Proofs.Try.f63 := rfl
theorem fn64 : cfg0.fns 64 = some Go.Proofs.Try.f64 := rfl
theorem fn65 : cfg0.fns 65 = some Go.Proofs.Try.f65 := rfl
theorem fn66 : cfg0.fns 66 = some Go.Proofs.Try.f66 := rfl
theorem fn67 : cfg0.fns 67 = some Go.Proofs.Try.f67 := rfl
theorem fn68 : cfg0.fns 68 = some Go.Proofs.Try.f68 := rfl
theorem fn69 : cfg0.fns 69 = some Go.Proofs.Try.f69 := rfl
theorem fn70 : cfg0.fns 70 = some Go.Proofs.Try.f70 := rfl
theorem fn71 : cfg0.fns 71 = some Go.Proofs.Try.f71 := rfl
theorem fn72 : cfg0.fns 72 = some Go.Proofs.Try.f72 := rfl
theorem fn73 : cfg0.fns 73 = some Go.Proofs.Try.f73 := rfl
theorem fn74 : cfg0.fns 74 = some Go.Proofs.Try.f74 := rfl
theorem fn75 : cfg0.fns 75 = some Go.Proofs.Try.f75 := rfl
theorem fn76 : cfg0.fns 76 = some Go.Proofs.Try.f76 := rfl
theorem fn77 : cfg0.fns 77 = some Go.Proofs.Try.f77 := rfl
theorem fn78 : cfg0.fns 78 = some Go.Proofs.Try.f78 := rfl
theorem fn79 : cfg0.fns 79 = some Go.Proofs.Try.f79 := rfl
theorem fn80 : cfg0.fns 80 = some Go.Proofs.Try.f80 := rfl
theorem fn81 : cfg0.fns 81 = some Go.Proofs.Try.f81 := rfl
theorem fn82 : cfg0.fns 82 = some Go.Proofs.Try.f82 := rfl
theorem fn83 : cfg0.fns 83 = some Go.Proofs.Try.f83 := rfl
theorem fn84 : cfg0.fns 84 = some Go.Proofs.Try.f84 := rfl
theorem fn85 : cfg0.fns 85 = some Go.Proofs.Try.f85 := rfl
theorem fn86 : cfg0.fns 86 = some Go.Proofs.Try.f86 := rfl
theorem fn87 : cfg0.fns 87 = some Go.Proofs.Try.f87 := rfl
theorem fn88 : cfg0.fns 88 = some Go.Proofs.Try.f88 := rfl
theorem fn89 : cfg0.fns 89 = some Go.Proofs.Try.f89 := rfl
theorem fn90 : cfg0.fns 90 = some Go.Proofs.Try.f90 := rfl
theorem fn91 : cfg0.fns 91 = some Go.Proofs.Try.f91 := rfl
theorem fn92 : cfg0.fns 92 = some Go.Proofs.Try.f92 := rfl
theorem fn93 : cfg0.fns 93 = some Go.Proofs.Try.f93 := rfl
theorem fn94 : cfg0.fns 94 = some Go.Proofs.Try.f94 := rfl
theorem fn95 : cfg0.fns 95 = some Go.Proofs.Try.f95 := rfl
theorem fn96 : cfg0.fns 96 = some Go.Proofs.Try.f96 := rfl
theorem fn97 : cfg0.fns 97 = some Go.Proofs.Try.f97 := rfl
theorem fn98 : cfg0.fns 98 = some Go.Proofs.Try.f98 := rfl
theorem fn99 : cfg0.fns 99 = some Go.Proofs.Try.f99 := rfl
theorem fn100 : cfg0.fns 100 = some Go.Proofs.Try.f100 := rfl
theorem fn101 : cfg0.fns 101 = some Go.Proofs.Try.f101 := rfl
theorem fn102 : cfg0.fns 102 = some Go.Proofs.Try.f102 := rfl
theorem fn103 : cfg0.fns 103 = some Go.Proofs.Try.f103 := rfl
theorem fn104 : cfg0.fns 104 = some Go.Proofs.Try.f104 := rfl
theorem fn105 : cfg0.fns 105 = some Go.Proofs.Try.f105 := rfl
theorem fn106 : cfg0.fns 106 = some Go.Proofs.Try.f106 := rfl
theorem fn107 : cfg0.fns 107 = some Go.Proofs.Try.f107 := rfl
theorem fn108 : cfg0.fns 108 = some Go.Proofs.Try.f108 := rfl
theorem fn109 : cfg0.fns 109 = some Go.Proofs.Try.f109 := rfl
theorem fn110 : cfg0.fns 110 = some Go.Proofs.Try.f110 := rfl
theorem fn111 : cfg0.fns 111 = some Go.Proofs.Try.f111 := rfl
theorem fn112 : cfg0.fns 112 = some Go.Proofs.Try.f112 := rfl
theorem fn113 : cfg0.fns 113 = some Go.Proofs.Try.f113 := rfl
theorem fn114 : cfg0.fns 114 = some Go.Proofs.Try.f114 := rfl
theorem fn115 : cfg0.fns 115 = some Go.Proofs.Try.f115 := rfl
theorem fn116 : cfg0.fns 116 = some Go.Proofs.Try.f116 := rfl
theorem fn117 : cfg0.fns 117 = some Go.Proofs.Try.f117 := rfl
theorem fn118 : cfg0.fns 118 = some Go.Proofs.Try.f118 := rfl
theorem fn119 : cfg0.fns 119 = some Go.Proofs.Try.f119 := rfl
theorem fn120 : cfg0.fns 120 = some Go.Proofs.Try.f120 := rfl
theorem fn121 : cfg0.fns 121 = some Go.Proofs.Try.f121 := rfl
theorem res0 : Go.Proofs.Try.f0.results.toList = [] := rfl
theorem res1 : Go.Proofs.Try.f1.results.toList = [] := rfl
theorem res2 : Go.Proofs.Try.f2.results.toList = [] := rfl
theorem res3 : Go.Proofs.Try.f3.results.toList = [.tmp 6] := rfl
theorem res4 : Go.Proofs.Try.f4.results.toList = [.tmp 8] := rfl
theorem res5 : Go.Proofs.Try.f5.results.toList = [.tmp 0] := rfl
theorem res6 : Go.Proofs.Try.f6.results.toList = [.tmp 6] := rfl
theorem res7 : Go.Proofs.Try.f7.results.toList = [.tmp 6] := rfl
theorem res8 : Go.Proofs.Try.f8.results.toList = [.tmp 4] := rfl
theorem res9 : Go.Proofs.Try.f9.results.toList = [.tmp 6] := rfl
theorem res10 : Go.Proofs.Try.f10.results.toList = [.tmp 8] := rfl
theorem res11 : Go.Proofs.Try.f11.results.toList = [.tmp 8] := rfl
theorem res12 : Go.Proofs.Try.f12.results.toList = [.tmp 2] := rfl
theorem res13 : Go.Proofs.Try.f13.results.toList = [.tmp 0] := rfl
theorem res14 : Go.Proofs.Try.f14.results.toList = [.cell 6 29, .cell 7 30] := rfl
theorem res15 : Go.Proofs.Try.f15.results.toList = [.cell 6 29, .tmp 7] := rfl
theorem res16 : Go.Proofs.Try.f16.results.toList = [.cell 6 29, .cell 7 30] := rfl
theorem res17 : Go.Proofs.Try.f17.results.toList = [.cell 6 29, .tmp 7] := rfl
theorem res18 : Go.Proofs.Try.f18.results.toList = [.tmp 6, .cell 7 30] := rfl
theorem res19 : Go.Proofs.Try.f19.results.toList = [.tmp 6, .tmp 7] := rfl
theorem res20 : Go.Proofs.Try.f20.results.toList = [.tmp 4, .cell 5 30] := rfl
theorem res21 : Go.Proofs.Try.f21.results.toList = [.tmp 4, .tmp 5] := rfl
theorem res22 : Go.Proofs.Try.f22.results.toList = [.tmp 2, .cell 3 30] := rfl
theorem res23 : Go.Proofs.Try.f23.results.toList = [.tmp 2, .tmp 3] := rfl
theorem res24 : Go.Proofs.Try.f24.results.toList = [.tmp 4, .cell 5 30] := rfl
theorem res25 : Go.Proofs.Try.f25.results.toList = [.tmp 4, .tmp 5] := rfl
theorem res26 : Go.Proofs.Try.f26.results.toList = [.tmp 6, .cell 7 30] := rfl
theorem res27 : Go.Proofs.Try.f27.results.toList = [.tmp 6, .tmp 7] := rfl
theorem res28 : Go.Proofs.Try.f28.results.toList = [.tmp 8, .cell 9 30] := rfl
theorem res29 : Go.Proofs.Try.f29.results.toList = [.tmp 8, .tmp 9] := rfl
theorem res30 : Go.Proofs.Try.f30.results.toList = [.tmp 4] := rfl
theorem res31 : Go.Proofs.Try.f31.results.toList = [.cell 4 29] := rfl
theorem res32 : Go.Proofs.Try.f32.results.toList = [.cell 0 25] := rfl
theorem res33 : Go.Proofs.Try.f33.results.toList = [.tmp 2] := rfl
theorem res34 : Go.Proofs.Try.f34.results.toList = [.tmp 6, .tmp 7] := rfl
theorem res35 : Go.Proofs.Try.f35.results.toList = [.tmp 4] := rfl
theorem res36 : Go.Proofs.Try.f36.results.toList = [.tmp 2] := rfl
theorem res37 : Go.Proofs.Try.f37.results.toList = [.cell 8 25] := rfl
theorem res38 : Go.Proofs.Try.f38.results.toList = [.cell 4 25] := rfl
theorem res39 : Go.Proofs.Try.f39.results.toList = [.cell 8 63] := rfl
theorem res40 : Go.Proofs.Try.f40.results.toList = [] := rfl
theorem res41 : Go.Proofs.Try.f41.results.toList = [] := rfl
theorem res42 : Go.Proofs.Try.f42.results.toList = [.tmp 4] := rfl
theorem res43 : Go.Proofs.Try.f43.results.toList = [.tmp 4] := rfl
theorem res44 : Go.Proofs.Try.f44.results.toList = [.tmp 4] := rfl
theorem res45 : Go.Proofs.Try.f45.results.toList = [.tmp 4] := rfl
theorem res46 : Go.Proofs.Try.f46.results.toList = [.cell 2 29] := rfl
theorem res47 : Go.Proofs.Try.f47.results.toList = [.tmp 6] := rfl
theorem res48 : Go.Proofs.Try.f48.results.toList = [.tmp 4] := rfl
theorem res49 : Go.Proofs.Try.f49.results.toList = [.tmp 4] := rfl
theorem res50 : Go.Proofs.Try.f50.results.toList = [.tmp 4] := rfl
theorem res51 : Go.Proofs.Try.f51.results.toList = [.cell 6 29] := rfl
theorem res52 : Go.Proofs.Try.f52.results.toList = [] := rfl
theorem res53 : Go.Proofs.Try.f53.results.toList = [.tmp 4] := rfl
theorem res54 : Go.Proofs.Try.f54.results.toList = [.tmp 4] := rfl
theorem res55 : Go.Proofs.Try.f55.results.toList = [.cell 2 29] := rfl
theorem res56 : Go.Proofs.Try.f56.results.toList = [.tmp 2] := rfl
theorem res57 : Go.Proofs.Try.f57.results.toList = [] := rfl
theorem res58 : Go.Proofs.Try.f58.results.toList = [.tmp 4] := rfl
theorem res59 : Go.Proofs.Try.f59.results.toList = [.tmp 6] := rfl
theorem res60 : Go.Proofs.Try.f60.results.toList = [.cell 4 29, .cell 5 4] := rfl
theorem res61 : Go.Proofs.Try.f61.results.toList = [.tmp 3] := rfl
theorem res62 : Go.Proofs.Try.f62.results.toList = [.tmp 6] := rfl
theorem res63 : Go.Proofs.Try.f63.results.toList = [.tmp 6] := rfl
theorem res64 : Go.Proofs.Try.f64.results.toList = [] := rfl
theorem res65 : Go.Proofs.Try.f65.results.toList = [.tmp 3] := rfl
theorem res66 : Go.Proofs.Try.f66.results.toList = [.tmp 4] := rfl
theorem res67 : Go.Proofs.Try.f67.results.toList = [] := rfl
theorem res68 : Go.Proofs.Try.f68.results.toList = [.tmp 2] := rfl
theorem res69 : Go.Proofs.Try.f69.results.toList = [] := rfl
theorem res70 : Go.Proofs.Try.f70.results.toList = [.tmp 3] := rfl
theorem res71 : Go.Proofs.Try.f71.results.toList = [] := rfl
theorem res72 : Go.Proofs.Try.f72.results.toList = [.tmp 4] := rfl
theorem res73 : Go.Proofs.Try.f73.results.toList = [.tmp 2] := rfl
theorem res74 : Go.Proofs.Try.f74.results.toList = [.tmp 6] := rfl
theorem res75 : Go.Proofs.Try.f75.results.toList = [.tmp 4] := rfl
theorem res76 : Go.Proofs.Try.f76.results.toList = [.tmp 2] := rfl
theorem res77 : Go.Proofs.Try.f77.results.toList = [.tmp 6] := rfl
theorem res78 : Go.Proofs.Try.f78.results.toList = [.tmp 4] := rfl
theorem res79 : Go.Proofs.Try.f79.results.toList = [] := rfl
theorem res80 : Go.Proofs.Try.f80.results.toList = [.tmp 5] := rfl
theorem res81 : Go.Proofs.Try.f81.results.toList = [.cell 4 3, .cell 5 4] := rfl
theorem res82 : Go.Proofs.Try.f82.results.toList = [.tmp 2] := rfl
theorem res83 : Go.Proofs.Try.f83.results.toList = [.tmp 6] := rfl
theorem res84 : Go.Proofs.Try.f84.results.toList = [.tmp 8] := rfl
theorem res85 : Go.Proofs.Try.f85.results.toList = [] := rfl
theorem res86 : Go.Proofs.Try.f86.results.toList = [.cell 8 25] := rfl
theorem res87 : Go.Proofs.Try.f87.results.toList = [.tmp 6] := rfl
theorem res88 : Go.Proofs.Try.f88.results.toList = [.tmp 4] := rfl
theorem res89 : Go.Proofs.Try.f89.results.toList = [.tmp 4] := rfl
theorem res90 : Go.Proofs.Try.f90.results.toList = [.cell 3 29] := rfl
theorem res91 : Go.Proofs.Try.f91.results.toList = [.tmp 6] := rfl
theorem res92 : Go.Proofs.Try.f92.results.toList = [.tmp 2] := rfl
theorem res93 : Go.Proofs.Try.f93.results.toList = [] := rfl
theorem res94 : Go.Proofs.Try.f94.results.toList = [.tmp 4] := rfl
theorem res95 : Go.Proofs.Try.f95.results.toList = [.tmp 12] := rfl
theorem res96 : Go.Proofs.Try.f96.results.toList = [.tmp 4] := rfl
theorem res97 : Go.Proofs.Try.f97.results.toList = [.tmp 4] := rfl
theorem res98 : Go.Proofs.Try.f98.results.toList = [.tmp 4] := rfl
theorem res99 : Go.Proofs.Try.f99.results.toList = [.tmp 4] := rfl
theorem res100 : Go.Proofs.Try.f100.results.toList = [] := rfl
theorem res101 : Go.Proofs.Try.f101.results.toList = [.cell 0 123] := rfl
theorem res102 : Go.Proofs.Try.f102.results.toList = [.tmp 2] := rfl
theorem res103 : Go.Proofs.Try.f103.results.toList = [.tmp 4] := rfl
theorem res104 : Go.Proofs.Try.f104.results.toList = [] := rfl
theorem res105 : Go.Proofs.Try.f105.results.toList = [] := rfl
theorem res106 : Go.Proofs.Try.f106.results.toList = [] := rfl
theorem res107 : Go.Proofs.Try.f107.results.toList = [] := rfl
theorem res108 : Go.Proofs.Try.f108.results.toList = [] := rfl
theorem res109 : Go.Proofs.Try.f109.results.toList = [] := rfl
theorem res110 : Go.Proofs.Try.f110.results.toList = [] := rfl
theorem res111 : Go.Proofs.Try.f111.results.toList = [] := rfl
theorem res112 : Go.Proofs.Try.f112.results.toList = [] := rfl
theorem res113 : Go.Proofs.Try.f113.results.toList = [] := rfl
theorem res114 : Go.Proofs.Try.f114.results.toList = [] := rfl
theorem res115 : Go.Proofs.Try.f115.results.toList = [] := rfl
theorem res116 : Go.Proofs.Try.f116.results.toList = [] := rfl
theorem res117 : Go.Proofs.Try.f117.results.toList = [] := rfl
theorem res118 : Go.Proofs.Try.f118.results.toList = [] := rfl
theorem res119 : Go.Proofs.Try.f119.results.toList = [.tmp 4] := rfl
theorem res120 : Go.Proofs.Try.f120.results.toList = [.tmp 4] := rfl
theorem res121 : Go.Proofs.Try.f121.results.toList = [] := rfl
theorem plan5_4 : cfg0.plan 5 4 = some [(1, 0), (2, 0), (3, 0), (4, 0), (5, 1000), (6, 1000), (7, 1000), (8, 1000), (10, 1000), (11, 1000), (6, 1005), (7, 1005), (8, 1005), (10, 1005), (11, 1005)] := rfl
theorem plan5_16 : cfg0.plan 5 16 = some [(4, 5), (2, 1001), (3, 1001), (4, 1001), (5, 1001), (6, 1001), (7, 1001), (8, 1001), (9, 1001), (10, 1001), (11, 1001), (12, 1001), (13, 1001), (14, 1001), (15, 1001), (16, 1001), (17, 1001), (18, 1001), (19, 1001), (20, 1001), (21, 1001), (22, 1001), (23, 1001), (24, 1001), (25, 1001), (26, 1001), (27, 1001), (28, 1001), (29, 1001), (30, 1001), (31, 1001), (32, 1001), (33, 1001), (34, 1001), (35, 1001), (36, 1001), (37, 1001), (38, 1001), (39, 1001), (40, 1001), (41, 1001), (42, 1001), (43, 1001), (44, 1001), (45, 1001), (46, 1001), (47, 1001), (48, 1001), (49, 1001), (50, 1001), (51, 1001), (52, 1001), (53, 1001), (54, 1001), (55, 1001), (56, 1001), (57, 1001), (58, 1001), (59, 1001), (60, 1001), (61, 1001), (62, 1001), (63, 1001), (64, 1001), (65, 1001), (66, 1001), (6, 1005), (7, 1005), (8, 1005), (9, 1005), (10, 1005), (11, 1005), (12, 1005), (13, 1005), (14, 1005), (15, 1005), (16, 1005), (17, 1005), (18, 1005), (19, 1005), (20, 1005), (21, 1005), (22, 1005), (23, 1005), (24, 1005), (25, 1005), (26, 1005), (27, 1005), (28, 1005), (29, 1005), (30, 1005), (31, 1005), (32, 1005), (33, 1005), (34, 1005), (35, 1005), (36, 1005), (37, 1005), (38, 1005), (39, 1005), (40, 1005), (41, 1005), (42, 1005), (43, 1005), (44, 1005), (45, 1005), (46, 1005), (47, 1005), (48, 1005), (49, 1005), (50, 1005), (51, 1005), (52, 1005), (53, 1005), (54, 1005), (55, 1005), (56, 1005), (57, 1005), (58, 1005), (59, 1005), (60, 1005), (61, 1005), (62, 1005), (63, 1005), (64, 1005), (65, 1005), (66, 1005), (39, 1038), (40, 1038), (41, 1038), (42, 1038), (43, 1038), (44, 1038), (45, 1038), (46, 1038), (47, 1038), (48, 1038), (49, 1038), (50, 1038), (51, 1038), (52, 1038), (53, 1038), (54, 1038), (55, 1038), (56, 1038), (57, 1038), (58, 1038), (59, 1038), (60, 1038), (61, 1038), (62, 1038), (63, 1038), (64, 1038), (65, 1038), (66, 1038), (41, 1040), (42, 1040), (43, 1040), (44, 1040), (45, 1040), (46, 1040), (47, 1040), (48, 1040), (49, 1040), (50, 1040), (51, 1040), (52, 1040), (53, 1040), (54, 1040), (55, 1040), (56, 1040), (57, 1040), (58, 1040), (59, 1040), (60, 1040), (61, 1040), (62, 1040), (63, 1040), (64, 1040), (65, 1040), (66, 1040)] := rfl
theorem plan6_16 : cfg0.plan 6 16 = some [(21, 20), (14, 1013), (15, 1013), (16, 1013), (17, 1013), (18, 1013), (19, 1013), (20, 1013), (21, 1013), (22, 1013), (23, 1013), (24, 1013), (25, 1013), (26, 1013), (27, 1013), (28, 1013), (29, 1013), (30, 1013), (31, 1013), (32, 1013), (33, 1013), (34, 1013), (35, 1013), (36, 1013), (37, 1013), (38, 1013), (39, 1013), (40, 1013), (41, 1013), (42, 1013), (43, 1013), (44, 1013), (45, 1013), (46, 1013), (47, 1013), (48, 1013), (49, 1013), (50, 1013), (51, 1013), (52, 1013), (22, 1020), (23, 1020), (24, 1020), (25, 1020), (26, 1020), (27, 1020), (28, 1020), (29, 1020), (30, 1020), (31, 1020), (32, 1020), (33, 1020), (34, 1020), (35, 1020), (36, 1020), (37, 1020), (38, 1020), (39, 1020), (40, 1020), (41, 1020), (42, 1020), (43, 1020), (44, 1020), (45, 1020), (46, 1020), (47, 1020), (48, 1020), (49, 1020), (50, 1020), (51, 1020), (52, 1020), (23, 1022), (24, 1022), (25, 1022), (26, 1022), (27, 1022), (28, 1022), (29, 1022), (30, 1022), (31, 1022), (32, 1022), (33, 1022), (34, 1022), (35, 1022), (36, 1022), (37, 1022), (38, 1022), (39, 1022), (40, 1022), (41, 1022), (42, 1022), (43, 1022), (44, 1022), (45, 1022), (46, 1022), (47, 1022), (48, 1022), (49, 1022), (50, 1022), (51, 1022), (52, 1022)] := rfl
theorem plan7_8 : cfg0.plan 7 8 = some [] := rfl
theorem plan7_23 : cfg0.plan 7 23 = some [] := rfl
theorem plan7_26 : cfg0.plan 7 26 = some [(6, 4), (7, 4), (12, 4), (12, 9), (13, 4), (13, 9), (17, 4), (17, 9), (17, 15), (18, 4), (18, 9), (18, 15), (9, 1004), (10, 1004), (15, 1004), (20, 1004), (21, 1004), (22, 1004), (23, 1004), (10, 1009), (15, 1009), (20, 1009), (21, 1009), (22, 1009), (23, 1009), (20, 1015), (21, 1015), (22, 1015), (23, 1015), (21, 1020), (22, 1020), (23, 1020)] := rfl
theorem plan7_32 : cfg0.plan 7 32 = some [(0, 3), (6, 9), (4, 1003), (5, 1003), (6, 1003), (7, 1003), (8, 1003), (9, 1003), (10, 1003), (11, 1003), (12, 1003), (13, 1003), (14, 1003), (15, 1003), (16, 1003), (17, 1003), (18, 1003), (19, 1003), (20, 1003), (21, 1003), (22, 1003), (23, 1003), (24, 1003), (25, 1003), (26, 1003), (27, 1003), (28, 1003), (29, 1003), (30, 1003), (31, 1003), (32, 1003), (33, 1003), (34, 1003), (35, 1003), (36, 1003), (37, 1003), (38, 1003), (39, 1003), (10, 1009), (11, 1009), (12, 1009), (13, 1009), (14, 1009), (15, 1009), (16, 1009), (17, 1009), (18, 1009), (19, 1009), (20, 1009), (21, 1009), (22, 1009), (23, 1009), (24, 1009), (25, 1009), (26, 1009), (27, 1009), (28, 1009), (29, 1009), (30, 1009), (31, 1009), (32, 1009), (33, 1009), (34, 1009), (35, 1009), (36, 1009), (37, 1009), (38, 1009), (39, 1009), (38, 1037), (39, 1037)] := rfl
theorem plan8_20 : cfg0.plan 8 20 = some [] := rfl
theorem plan8_28 : cfg0.plan 8 28 = some [] := rfl
theorem plan9_11 : cfg0.plan 9 11 = some [(3, 2), (4, 2), (6, 2), (7, 2), (8, 2), (11, 2), (12, 2), (9, 1002), (10, 1002), (15, 1002), (17, 1002)] := rfl
theorem plan10_3 : cfg0.plan 10 3 = some [] := rfl
theorem plan10_10 : cfg0.plan 10 10 = some [(0, 5), (6, 1005), (9, 1005), (10, 1005), (11, 1005), (12, 1005), (13, 1005), (14, 1005), (9, 1006), (10, 1006), (11, 1006), (12, 1006), (13, 1006), (14, 1006), (10, 1009), (11, 1009), (12, 1009), (13, 1009), (14, 1009)] := rfl
theorem plan11_3 : cfg0.plan 11 3 = some [] := rfl
theorem plan11_4 : cfg0.plan 11 4 = some [(1, 8), (2, 8), (2, 9), (3, 8), (3, 9), (3, 10)] := rfl
theorem plan11_5 : cfg0.plan 11 5 = some [(5, 3), (6, 3), (8, 7)] := rfl
theorem plan11_10 : cfg0.plan 11 10 = some [] := rfl
theorem plan11_12 : cfg0.plan 11 12 = some [] := rfl
theorem plan11_13 : cfg0.plan 11 13 = some [] := rfl
theorem plan11_31 : cfg0.plan 11 31 = some [(5, 3), (6, 3)] := rfl
theorem plan11_49 : cfg0.plan 11 49 = some [(0, 7), (8, 1007), (9, 1007), (10, 1007), (11, 1007), (12, 1007), (13, 1007), (14, 1007), (15, 1007), (16, 1007), (17, 1007), (18, 1007), (19, 1007), (20, 1007), (21, 1007), (22, 1007), (23, 1007), (24, 1007), (25, 1007), (26, 1007), (27, 1007), (28, 1007), (29, 1007), (30, 1007), (31, 1007), (32, 1007), (27, 1026), (28, 1026), (29, 1026), (30, 1026), (31, 1026), (32, 1026)] := rfl
theorem plan11_58 : cfg0.plan 11 58 = some [] := rfl
theorem plan11_64 : cfg0.plan 11 64 = some [] := rfl
theorem plan13_10 : cfg0.plan 13 10 = some [(0, 1), (8, 9), (2, 1001), (3, 1001), (4, 1001), (5, 1001), (6, 1001), (7, 1001), (8, 1001), (9, 1001), (10, 1001), (11, 1001), (12, 1001), (13, 1001), (14, 1001), (15, 1001), (16, 1001), (17, 1001), (18, 1001), (19, 1001), (20, 1001), (21, 1001), (22, 1001), (23, 1001), (24, 1001), (25, 1001), (26, 1001), (27, 1001), (28, 1001), (29, 1001), (30, 1001), (31, 1001), (32, 1001), (33, 1001), (34, 1001), (35, 1001), (36, 1001), (37, 1001), (38, 1001), (39, 1001), (40, 1001), (41, 1001), (42, 1001), (43, 1001), (44, 1001), (45, 1001), (46, 1001), (47, 1001), (48, 1001), (49, 1001), (50, 1001), (51, 1001), (52, 1001), (53, 1001), (54, 1001), (55, 1001), (56, 1001), (57, 1001), (58, 1001), (59, 1001), (60, 1001), (61, 1001), (62, 1001), (63, 1001), (64, 1001), (65, 1001), (66, 1001), (67, 1001), (68, 1001), (69, 1001), (70, 1001), (71, 1001), (72, 1001), (73, 1001), (74, 1001), (75, 1001), (10, 1009), (11, 1009), (12, 1009), (13, 1009), (14, 1009), (15, 1009), (16, 1009), (17, 1009), (18, 1009), (19, 1009), (20, 1009), (21, 1009), (22, 1009), (23, 1009), (24, 1009), (25, 1009), (26, 1009), (27, 1009), (28, 1009), (29, 1009), (30, 1009), (31, 1009), (32, 1009), (33, 1009), (34, 1009), (35, 1009), (36, 1009), (37, 1009), (38, 1009), (39, 1009), (40, 1009), (41, 1009), (42, 1009), (43, 1009), (44, 1009), (45, 1009), (46, 1009), (47, 1009), (48, 1009), (49, 1009), (50, 1009), (51, 1009), (52, 1009), (53, 1009), (54, 1009), (55, 1009), (56, 1009), (57, 1009), (58, 1009), (59, 1009), (60, 1009), (61, 1009), (62, 1009), (63, 1009), (64, 1009), (65, 1009), (66, 1009), (67, 1009), (68, 1009), (69, 1009), (70, 1009), (71, 1009), (72, 1009), (73, 1009), (74, 1009), (75, 1009), (43, 1042), (44, 1042), (45, 1042), (46, 1042), (47, 1042), (48, 1042), (49, 1042), (50, 1042), (51, 1042), (52, 1042), (53, 1042), (54, 1042), (55, 1042), (56, 1042), (57, 1042), (58, 1042), (59, 1042), (60, 1042), (61, 1042), (62, 1042), (63, 1042), (64, 1042), (65, 1042), (66, 1042), (67, 1042), (68, 1042), (69, 1042), (70, 1042), (71, 1042), (72, 1042), (73, 1042), (74, 1042), (75, 1042), (44, 1043), (45, 1043), (46, 1043), (47, 1043), (48, 1043), (49, 1043), (50, 1043), (51, 1043), (52, 1043), (53, 1043), (54, 1043), (55, 1043), (56, 1043), (57, 1043), (58, 1043), (59, 1043), (60, 1043), (61, 1043), (62, 1043), (63, 1043), (64, 1043), (65, 1043), (66, 1043), (67, 1043), (68, 1043), (69, 1043), (70, 1043), (71, 1043), (72, 1043), (73, 1043), (74, 1043), (75, 1043), (46, 1045), (47, 1045), (48, 1045), (49, 1045), (50, 1045), (51, 1045), (52, 1045), (53, 1045), (54, 1045), (55, 1045), (56, 1045), (57, 1045), (58, 1045), (59, 1045), (60, 1045), (61, 1045), (62, 1045), (63, 1045), (64, 1045), (65, 1045), (66, 1045), (67, 1045), (68, 1045), (69, 1045), (70, 1045), (71, 1045), (72, 1045), (73, 1045), (74, 1045), (75, 1045)] := rfl
theorem plan15_1 : cfg0.plan 15 1 = some [(0, 3), (0, 7), (4, 1003), (5, 1003), (6, 1003), (7, 1003), (8, 1003), (9, 1003), (10, 1003), (8, 1007), (9, 1007), (10, 1007), (10, 1009)] := rfl
theorem plan16_3 : cfg0.plan 16 3 = some [(7, 3), (7, 4), (7, 16), (8, 3), (8, 4), (8, 16), (9, 3), (9, 4), (9, 16), (10, 3), (10, 4), (10, 16), (11, 3), (11, 4), (11, 16), (12, 3), (12, 4), (12, 16), (13, 3), (13, 4), (13, 16), (4, 1003), (16, 1003), (17, 1003), (16, 1004), (17, 1004)] := rfl
theorem plan16_4 : cfg0.plan 16 4 = some [] := rfl
theorem plan16_5 : cfg0.plan 16 5 = some [(5, 3), (6, 3), (10, 3), (10, 7), (11, 3), (11, 7), (14, 3), (14, 7), (14, 12), (15, 3), (15, 7), (15, 12), (7, 1003), (8, 1003), (12, 1003), (16, 1003), (17, 1003), (18, 1003), (19, 1003), (20, 1003), (8, 1007), (12, 1007), (16, 1007), (17, 1007), (18, 1007), (19, 1007), (20, 1007), (16, 1012), (17, 1012), (18, 1012), (19, 1012), (20, 1012), (17, 1016), (18, 1016), (19, 1016), (20, 1016)] := rfl
theorem plan17_1 : cfg0.plan 17 1 = some [(0, 3), (0, 7), (4, 1003), (5, 1003), (6, 1003), (7, 1003), (8, 1003), (9, 1003), (10, 1003), (8, 1007), (9, 1007), (10, 1007), (10, 1009)] := rfl
theorem plan17_4 : cfg0.plan 17 4 = some [(4, 3), (4, 12), (5, 3), (5, 12), (7, 3), (7, 12), (8, 3), (8, 12), (9, 3), (9, 12), (12, 1003), (13, 1003)] := rfl
theorem plan17_5 : cfg0.plan 17 5 = some [(6, 5), (7, 5), (8, 5), (9, 5), (12, 5), (12, 11), (13, 5), (13, 11), (14, 5), (14, 11), (15, 5), (15, 11), (18, 5), (18, 11), (18, 17), (19, 5), (19, 11), (19, 17), (20, 5), (20, 11), (20, 17), (21, 5), (21, 11), (21, 17), (11, 1005), (17, 1005), (23, 1005), (24, 1005), (25, 1005), (26, 1005), (27, 1005), (17, 1011), (23, 1011), (24, 1011), (25, 1011), (26, 1011), (27, 1011), (23, 1017), (24, 1017), (25, 1017), (26, 1017), (27, 1017), (24, 1023), (25, 1023), (26, 1023), (27, 1023), (26, 1025), (27, 1025)] := rfl
theorem plan19_1 : cfg0.plan 19 1 = some [(0, 3), (0, 7), (4, 1003), (5, 1003), (6, 1003), (7, 1003), (8, 1003), (9, 1003), (10, 1003), (8, 1007), (9, 1007), (10, 1007), (10, 1009)] := rfl
theorem plan20_2 : cfg0.plan 20 2 = some [(3, 2), (4, 1002), (5, 1002), (6, 1002), (5, 1004), (6, 1004)] := rfl
theorem plan21_1 : cfg0.plan 21 1 = some [(0, 3), (4, 1003), (5, 1003), (5, 1004)] := rfl
theorem plan25_1 : cfg0.plan 25 1 = some [(0, 3), (4, 1003), (5, 1003), (5, 1004)] := rfl
theorem plan26_4 : cfg0.plan 26 4 = some [(13, 1012)] := rfl
theorem plan26_5 : cfg0.plan 26 5 = some [(12, 1011)] := rfl
theorem plan27_1 : cfg0.plan 27 1 = some [(0, 3), (0, 6), (4, 1003), (5, 1003), (6, 1003), (7, 1003), (8, 1003), (9, 1003), (7, 1006), (8, 1006), (9, 1006), (9, 1008)] := rfl
theorem plan29_1 : cfg0.plan 29 1 = some [(0, 3), (0, 6), (0, 11), (4, 1003), (5, 1003), (6, 1003), (7, 1003), (8, 1003), (9, 1003), (10, 1003), (11, 1003), (12, 1003), (13, 1003), (14, 1003), (7, 1006), (8, 1006), (9, 1006), (10, 1006), (11, 1006), (12, 1006), (13, 1006), (14, 1006), (12, 1011), (13, 1011), (14, 1011), (14, 1013)] := rfl
theorem plan30_6 : cfg0.plan 30 6 = some [] := rfl
theorem plan34_4 : cfg0.plan 34 4 = some [(5, 3), (6, 3), (7, 1003), (8, 1003), (9, 1003), (8, 1007), (9, 1007)] := rfl
theorem plan37_2 : cfg0.plan 37 2 = some [] := rfl
theorem plan37_4 : cfg0.plan 37 4 = some [(0, 12), (0, 15), (1, 12), (1, 15), (3, 12), (3, 15), (3, 18), (4, 12), (4, 15), (4, 18), (15, 1012), (16, 1012), (17, 1012), (18, 1012), (19, 1012), (20, 1012), (21, 1012), (16, 1015), (17, 1015), (18, 1015), (19, 1015), (20, 1015), (21, 1015)] := rfl
theorem plan38_1 : cfg0.plan 38 1 = some [(4, 3)] := rfl
theorem plan51_6 : cfg0.plan 51 6 = some [(1, 9), (4, 9), (5, 9), (6, 9), (10, 1009), (11, 1009), (12, 1009), (13, 1009), (11, 1010), (12, 1010), (13, 1010)] := rfl
theorem plan51_7 : cfg0.plan 51 7 = some [(1, 9), (4, 9), (5, 9), (6, 9), (10, 1009), (11, 1009), (12, 1009), (13, 1009), (11, 1010), (12, 1010), (13, 1010)] := rfl
theorem plan55_1 : cfg0.plan 55 1 = some [] := rfl
theorem plan55_5 : cfg0.plan 55 5 = some [] := rfl
theorem plan59_2 : cfg0.plan 59 2 = some [] := rfl
theorem plan61_1 : cfg0.plan 61 1 = some [] := rfl
theorem plan63_23 : cfg0.plan 63 23 = some [] := rfl
theorem plan83_1 : cfg0.plan 83 1 = some [(5, 4), (6, 4), (7, 1004), (8, 1004), (8, 1007)] := rfl
theorem plan84_2 : cfg0.plan 84 2 = some [] := rfl
theorem plan84_3 : cfg0.plan 84 3 = some [] := rfl
theorem plan88_4 : cfg0.plan 88 4 = some [] := rfl
theorem plan93_0 : cfg0.plan 93 0 = some [] := rfl
theorem plan93_1 : cfg0.plan 93 1 = some [] := rfl
theorem plan93_3 : cfg0.plan 93 3 = some [(6, 5), (7, 5), (8, 5), (11, 1005), (12, 1005), (14, 1005), (12, 1011), (14, 1011)] := rfl
theorem plan94_1 : cfg0.plan 94 1 = some [] := rfl
theorem plan94_4 : cfg0.plan 94 4 = some [(1, 0), (2, 0), (3, 1000), (4, 1000), (5, 1000), (6, 1000)] := rfl
theorem plan94_12 : cfg0.plan 94 12 = some [(12, 1011)] := rfl
theorem plan94_17 : cfg0.plan 94 17 = some [(4, 3), (5, 3), (6, 1003), (7, 1003), (7, 1006)] := rfl
theorem plan94_19 : cfg0.plan 94 19 = some [] := rfl
theorem plan98_2 : cfg0.plan 98 2 = some [] := rfl
theorem plan98_3 : cfg0.plan 98 3 = some [] := rfl
theorem plan98_9 : cfg0.plan 98 9 = some [(13, 1012), (14, 1012)] := rfl
theorem plan120_1 : cfg0.plan 120 1 = some [(4, 3), (5, 3), (6, 3), (7, 3), (9, 1003), (10, 1003), (11, 1003), (11, 1010)] := rfl
theorem gc0 (i : Nat) : cfg0.gc 0 i = none := rfl
theorem grow0 (i : Nat) : cfg0.grow 0 i = false := rfl
theorem gc1 (i : Nat) : cfg0.gc 1 i = none := rfl
theorem grow1 (i : Nat) : cfg0.grow 1 i = false := rfl
theorem gc2 (i : Nat) : cfg0.gc 2 i = none := rfl
theorem grow2 (i : Nat) : cfg0.grow 2 i = false := rfl
theorem gc3 (i : Nat) : cfg0.gc 3 i = none := rfl
theorem grow3 (i : Nat) : cfg0.grow 3 i = false := rfl
theorem gc4 (i : Nat) : cfg0.gc 4 i = none := rfl
theorem grow4 (i : Nat) : cfg0.grow 4 i = false := rfl
theorem gc5 (i : Nat) : cfg0.gc 5 i = none := rfl
theorem grow5 (i : Nat) : cfg0.grow 5 i = false := rfl
theorem gc6_0 : cfg0.gc 6 0 = none := rfl
theorem gc6_1 : cfg0.gc 6 1 = none := rfl
theorem gc6_2 : cfg0.gc 6 2 = none := rfl
theorem gc6_3 : cfg0.gc 6 3 = none := rfl
theorem gc6_4 : cfg0.gc 6 4 = none := rfl
theorem gc6_5 : cfg0.gc 6 5 = none := rfl
theorem gc6_6 : cfg0.gc 6 6 = none := rfl
theorem gc6_7 : cfg0.gc 6 7 = none := rfl
theorem gc6_8 : cfg0.gc 6 8 = none := rfl
theorem gc6_9 : cfg0.gc 6 9 = none := rfl
theorem gc6_10 : cfg0.gc 6 10 = some ([3, 7, 9, 10, 11, 82, 83, 84], 1) := rfl
theorem gc6_11 : cfg0.gc 6 11 = none := rfl
theorem gc6_12 : cfg0.gc 6 12 = none := rfl
theorem gc6_13 : cfg0.gc 6 13 = none := rfl
theorem gc6_14 : cfg0.gc 6 14 = none := rfl
theorem gc6_15 : cfg0.gc 6 15 = none := rfl
theorem gc6_16 : cfg0.gc 6 16 = none := rfl
theorem gc6_17 : cfg0.gc 6 17 = none := rfl
theorem gc6_18 : cfg0.gc 6 18 = none := rfl
theorem gc6_19 : cfg0.gc 6 19 = none := rfl
theorem grow6 (i : Nat) : cfg0.grow 6 i = false := rfl
theorem gc7_0 : cfg0.gc 7 0 = none := rfl
theorem gc7_1 : cfg0.gc 7 1 = none := rfl
theorem gc7_2 : cfg0.gc 7 2 = none := rfl
theorem gc7_3 : cfg0.gc 7 3 = none := rfl
theorem gc7_4 : cfg0.gc 7 4 = none := rfl
theorem gc7_5 : cfg0.gc 7 5 = none := rfl
theorem gc7_6 : cfg0.gc 7 6 = none := rfl
theorem gc7_7 : cfg0.gc 7 7 = none := rfl
theorem gc7_8 : cfg0.gc 7 8 = none := rfl
theorem gc7_9 : cfg0.gc 7 9 = none := rfl
theorem gc7_10 : cfg0.gc 7 10 = none := rfl
theorem gc7_11 : cfg0.gc 7 11 = none := rfl
theorem gc7_12 : cfg0.gc 7 12 = none := rfl
theorem gc7_13 : cfg0.gc 7 13 = none := rfl
theorem gc7_14 : cfg0.gc 7 14 = none := rfl
theorem gc7_15 : cfg0.gc 7 15 = some ([3, 13, 14, 15, 17, 19, 20, 21], 3) := rfl
theorem gc7_17 : cfg0.gc 7 17 = none := rfl
theorem gc7_18 : cfg0.gc 7 18 = some ([3, 13, 14, 15, 17, 19, 20, 21, 139, 140, 141], 3) := rfl
theorem gc7_19 : cfg0.gc 7 19 = none := rfl
theorem gc7_20 : cfg0.gc 7 20 = none := rfl
theorem gc7_21 : cfg0.gc 7 21 = none := rfl
theorem gc7_22 : cfg0.gc 7 22 = none := rfl
theorem gc7_23 : cfg0.gc 7 23 = none := rfl
theorem gc7_24 : cfg0.gc 7 24 = none := rfl
theorem gc7_16 : cfg0.gc 7 16 = none := rfl
theorem gc7_25 : cfg0.gc 7 25 = none := rfl
theorem gc7_26 : cfg0.gc 7 26 = none := rfl
theorem gc7_27 : cfg0.gc 7 27 = none := rfl
theorem gc7_28 : cfg0.gc 7 28 = none := rfl
theorem gc7_29 : cfg0.gc 7 29 = none := rfl
theorem gc7_30 : cfg0.gc 7 30 = none := rfl
theorem gc7_31 : cfg0.gc 7 31 = none := rfl
theorem gc7_32 : cfg0.gc 7 32 = none := rfl
theorem grow7 (i : Nat) : cfg0.grow 7 i = false := rfl
theorem gc8_0 : cfg0.gc 8 0 = none := rfl
theorem gc8_1 : cfg0.gc 8 1 = none := rfl
theorem gc8_2 : cfg0.gc 8 2 = none := rfl
theorem gc8_3 : cfg0.gc 8 3 = none := rfl
theorem gc8_4 : cfg0.gc 8 4 = none := rfl
theorem gc8_5 : cfg0.gc 8 5 = none := rfl
theorem gc8_6 : cfg0.gc 8 6 = none := rfl
theorem gc8_7 : cfg0.gc 8 7 = none := rfl
theorem gc8_8 : cfg0.gc 8 8 = none := rfl
theorem gc8_9 : cfg0.gc 8 9 = none := rfl
theorem gc8_10 : cfg0.gc 8 10 = some ([2, 5, 6, 8, 9, 10, 11, 85, 86], 1) := rfl
theorem gc8_11 : cfg0.gc 8 11 = none := rfl
theorem gc8_12 : cfg0.gc 8 12 = none := rfl
theorem gc8_13 : cfg0.gc 8 13 = none := rfl
theorem gc8_14 : cfg0.gc 8 14 = none := rfl
theorem gc8_15 : cfg0.gc 8 15 = none := rfl
theorem gc8_16 : cfg0.gc 8 16 = none := rfl
theorem gc8_17 : cfg0.gc 8 17 = none := rfl
theorem gc8_18 : cfg0.gc 8 18 = some ([2, 5, 6, 8, 9, 10, 11, 12, 15, 17, 85, 86, 146, 147, 148], 2) := rfl
theorem gc8_19 : cfg0.gc 8 19 = none := rfl
theorem gc8_20 : cfg0.gc 8 20 = none := rfl
theorem gc8_21 : cfg0.gc 8 21 = none := rfl
theorem gc8_22 : cfg0.gc 8 22 = none := rfl
theorem gc8_23 : cfg0.gc 8 23 = none := rfl
theorem gc8_24 : cfg0.gc 8 24 = none := rfl
theorem gc8_25 : cfg0.gc 8 25 = none := rfl
theorem gc8_26 : cfg0.gc 8 26 = none := rfl
theorem gc8_27 : cfg0.gc 8 27 = none := rfl
theorem gc8_28 : cfg0.gc 8 28 = none := rfl
theorem gc8_29 : cfg0.gc 8 29 = none := rfl
theorem gc8_30 : cfg0.gc 8 30 = none := rfl
theorem gc8_31 : cfg0.gc 8 31 = none := rfl
theorem gc8_32 : cfg0.gc 8 32 = none := rfl
theorem gc8_33 : cfg0.gc 8 33 = none := rfl
theorem gc8_34 : cfg0.gc 8 34 = none := rfl
theorem gc8_35 : cfg0.gc 8 35 = none := rfl
theorem gc8_36 : cfg0.gc 8 36 = none := rfl
theorem gc8_37 : cfg0.gc 8 37 = none := rfl
theorem grow8 (i : Nat) : cfg0.grow 8 i = false := rfl
theorem gc9 (i : Nat) : cfg0.gc 9 i = none := rfl
theorem grow9 (i : Nat) : cfg0.grow 9 i = false := rfl
theorem gc10 (i : Nat) : cfg0.gc 10 i = none := rfl
theorem grow10 (i : Nat) : cfg0.grow 10 i = false := rfl
theorem gc11_0 : cfg0.gc 11 0 = none := rfl
theorem gc11_1 : cfg0.gc 11 1 = none := rfl
theorem gc11_2 : cfg0.gc 11 2 = none := rfl
theorem gc11_3 : cfg0.gc 11 3 = none := rfl
theorem gc11_4 : cfg0.gc 11 4 = none := rfl
theorem gc11_5 : cfg0.gc 11 5 = none := rfl
theorem gc11_6 : cfg0.gc 11 6 = none := rfl
theorem gc11_7 : cfg0.gc 11 7 = none := rfl
theorem gc11_8 : cfg0.gc 11 8 = none := rfl
theorem gc11_9 : cfg0.gc 11 9 = none := rfl
theorem gc11_10 : cfg0.gc 11 10 = none := rfl
theorem gc11_11 : cfg0.gc 11 11 = none := rfl
theorem gc11_12 : cfg0.gc 11 12 = none := rfl
theorem gc11_13 : cfg0.gc 11 13 = none := rfl
theorem gc11_14 : cfg0.gc 11 14 = none := rfl
theorem gc11_15 : cfg0.gc 11 15 = none := rfl
theorem gc11_16 : cfg0.gc 11 16 = none := rfl
theorem gc11_17 : cfg0.gc 11 17 = some ([4, 9, 10, 11, 12, 13, 14, 158, 159, 160], 10) := rfl
theorem gc11_18 : cfg0.gc 11 18 = none := rfl
theorem gc11_19 : cfg0.gc 11 19 = none := rfl
theorem gc11_20 : cfg0.gc 11 20 = none := rfl
theorem gc11_21 : cfg0.gc 11 21 = none := rfl
theorem gc11_22 : cfg0.gc 11 22 = none := rfl
theorem gc11_23 : cfg0.gc 11 23 = some ([4, 9, 10, 11, 12, 13, 14, 182, 183, 184], 10) := rfl
theorem gc11_24 : cfg0.gc 11 24 = none := rfl
theorem gc11_25 : cfg0.gc 11 25 = none := rfl
theorem gc11_26 : cfg0.gc 11 26 = none := rfl
theorem gc11_27 : cfg0.gc 11 27 = none := rfl
theorem gc11_28 : cfg0.gc 11 28 = none := rfl
theorem gc11_29 : cfg0.gc 11 29 = none := rfl
theorem gc11_30 : cfg0.gc 11 30 = none := rfl
theorem gc11_31 : cfg0.gc 11 31 = none := rfl
theorem gc11_32 : cfg0.gc 11 32 = none := rfl
theorem gc11_33 : cfg0.gc 11 33 = none := rfl
theorem gc11_34 : cfg0.gc 11 34 = none := rfl
theorem gc11_35 : cfg0.gc 11 35 = none := rfl
theorem gc11_36 : cfg0.gc 11 36 = none := rfl
theorem gc11_37 : cfg0.gc 11 37 = none := rfl
theorem gc11_38 : cfg0.gc 11 38 = none := rfl
theorem gc11_39 : cfg0.gc 11 39 = none := rfl
theorem gc11_40 : cfg0.gc 11 40 = none := rfl
theorem gc11_41 : cfg0.gc 11 41 = none := rfl
theorem gc11_42 : cfg0.gc 11 42 = none := rfl
theorem gc11_43 : cfg0.gc 11 43 = none := rfl
theorem gc11_44 : cfg0.gc 11 44 = none := rfl
theorem gc11_45 : cfg0.gc 11 45 = none := rfl
theorem gc11_46 : cfg0.gc 11 46 = none := rfl
theorem gc11_47 : cfg0.gc 11 47 = none := rfl
theorem gc11_48 : cfg0.gc 11 48 = none := rfl
theorem gc11_49 : cfg0.gc 11 49 = none := rfl
theorem gc11_50 : cfg0.gc 11 50 = none := rfl
theorem gc11_51 : cfg0.gc 11 51 = none := rfl
theorem gc11_52 : cfg0.gc 11 52 = none := rfl
theorem gc11_53 : cfg0.gc 11 53 = none := rfl
theorem gc11_54 : cfg0.gc 11 54 = none := rfl
theorem gc11_55 : cfg0.gc 11 55 = none := rfl
theorem gc11_56 : cfg0.gc 11 56 = none := rfl
theorem gc11_57 : cfg0.gc 11 57 = none := rfl
theorem gc11_58 : cfg0.gc 11 58 = none := rfl
theorem gc11_59 : cfg0.gc 11 59 = none := rfl
theorem gc11_60 : cfg0.gc 11 60 = none := rfl
theorem gc11_61 : cfg0.gc 11 61 = none := rfl
theorem gc11_62 : cfg0.gc 11 62 = none := rfl
theorem gc11_63 : cfg0.gc 11 63 = none := rfl
theorem gc11_64 : cfg0.gc 11 64 = none := rfl
theorem gc11_65 : cfg0.gc 11 65 = none := rfl
theorem gc11_66 : cfg0.gc 11 66 = none := rfl
theorem gc11_67 : cfg0.gc 11 67 = none := rfl
theorem grow11_8 : cfg0.grow 11 8 = false := rfl
theorem grow11_9 : cfg0.grow 11 9 = false := rfl
theorem grow11_10 : cfg0.grow 11 10 = false := rfl
theorem grow11_11 : cfg0.grow 11 11 = false := rfl
theorem grow11_12 : cfg0.grow 11 12 = false := rfl
theorem grow11_13 : cfg0.grow 11 13 = false := rfl
theorem grow11_14 : cfg0.grow 11 14 = false := rfl
theorem grow11_15 : cfg0.grow 11 15 = false := rfl
theorem grow11_17 : cfg0.grow 11 17 = false := rfl
theorem grow11_18 : cfg0.grow 11 18 = false := rfl
theorem grow11_19 : cfg0.grow 11 19 = false := rfl
theorem grow11_20 : cfg0.grow 11 20 = false := rfl
theorem grow11_21 : cfg0.grow 11 21 = false := rfl
theorem grow11_22 : cfg0.grow 11 22 = false := rfl
theorem grow11_23 : cfg0.grow 11 23 = false := rfl
theorem grow11_24 : cfg0.grow 11 24 = false := rfl
theorem grow11_25 : cfg0.grow 11 25 = false := rfl
theorem grow11_26 : cfg0.grow 11 26 = false := rfl
theorem grow11_27 : cfg0.grow 11 27 = false := rfl
theorem grow11_28 : cfg0.grow 11 28 = false := rfl
theorem grow11_29 : cfg0.grow 11 29 = false := rfl
theorem grow11_30 : cfg0.grow 11 30 = false := rfl
theorem grow11_31 : cfg0.grow 11 31 = false := rfl
theorem grow11_32 : cfg0.grow 11 32 = false := rfl
theorem grow11_33 : cfg0.grow 11 33 = false := rfl
theorem grow11_34 : cfg0.grow 11 34 = false := rfl
theorem grow11_35 : cfg0.grow 11 35 = false := rfl
theorem grow11_36 : cfg0.grow 11 36 = false := rfl
theorem grow11_37 : cfg0.grow 11 37 = false := rfl
theorem grow11_38 : cfg0.grow 11 38 = false := rfl
theorem grow11_39 : cfg0.grow 11 39 = false := rfl
theorem grow11_40 : cfg0.grow 11 40 = false := rfl
theorem grow11_41 : cfg0.grow 11 41 = false := rfl
theorem grow11_42 : cfg0.grow 11 42 = false := rfl
theorem grow11_43 : cfg0.grow 11 43 = false := rfl
theorem grow11_44 : cfg0.grow 11 44 = false := rfl
theorem grow11_45 : cfg0.grow 11 45 = false := rfl
theorem grow11_46 : cfg0.grow 11 46 = false := rfl
theorem grow11_79 : cfg0.grow 11 79 = false := rfl
theorem grow11_80 : cfg0.grow 11 80 = false := rfl
theorem grow11_86 : cfg0.grow 11 86 = false := rfl
theorem grow11_95 : cfg0.grow 11 95 = false := rfl
theorem grow11_131 : cfg0.grow 11 131 = false := rfl
theorem grow11_144 : cfg0.grow 11 144 = false := rfl
theorem grow11_153 : cfg0.grow 11 153 = false := rfl
theorem grow11_154 : cfg0.grow 11 154 = true := rfl
theorem grow11_155 : cfg0.grow 11 155 = true := rfl
theorem grow11_156 : cfg0.grow 11 156 = true := rfl
theorem grow11_173 : cfg0.grow 11 173 = false := rfl
theorem grow11_179 : cfg0.grow 11 179 = false := rfl
theorem grow11_208 : cfg0.grow 11 208 = false := rfl
theorem grow11_218 : cfg0.grow 11 218 = false := rfl
theorem grow11_224 : cfg0.grow 11 224 = false := rfl
theorem gc12 (i : Nat) : cfg0.gc 12 i = none := rfl
theorem grow12 (i : Nat) : cfg0.grow 12 i = false := rfl
theorem gc13 (i : Nat) : cfg0.gc 13 i = none := rfl
theorem grow13 (i : Nat) : cfg0.grow 13 i = false := rfl
theorem gc14 (i : Nat) : cfg0.gc 14 i = none := rfl
theorem grow14 (i : Nat) : cfg0.grow 14 i = false := rfl
theorem gc15 (i : Nat) : cfg0.gc 15 i = none := rfl
theorem grow15 (i : Nat) : cfg0.grow 15 i = false := rfl
theorem gc16 (i : Nat) : cfg0.gc 16 i = none := rfl
theorem grow16 (i : Nat) : cfg0.grow 16 i = false := rfl
theorem gc17 (i : Nat) : cfg0.gc 17 i = none := rfl
theorem grow17 (i : Nat) : cfg0.grow 17 i = false := rfl
theorem gc18 (i : Nat) : cfg0.gc 18 i = none := rfl
theorem grow18 (i : Nat) : cfg0.grow 18 i = false := rfl
theorem gc19 (i : Nat) : cfg0.gc 19 i = none := rfl
theorem grow19 (i : Nat) : cfg0.grow 19 i = false := rfl
theorem gc20 (i : Nat) : cfg0.gc 20 i = none := rfl
theorem grow20 (i : Nat) : cfg0.grow 20 i = false := rfl
theorem gc21 (i : Nat) : cfg0.gc 21 i = none := rfl
theorem grow21 (i : Nat) : cfg0.grow 21 i = false := rfl
theorem gc22_0 : cfg0.gc 22 0 = none := rfl
theorem gc22_1 : cfg0.gc 22 1 = none := rfl
theorem gc22_2 : cfg0.gc 22 2 = none := rfl
theorem gc22_3 : cfg0.gc 22 3 = none := rfl
theorem gc22_4 : cfg0.gc 22 4 = none := rfl
theorem gc22_5 : cfg0.gc 22 5 = some ([2, 3, 4, 5, 15, 16], 6) := rfl
theorem gc22_6 : cfg0.gc 22 6 = none := rfl
theorem gc22_7 : cfg0.gc 22 7 = none := rfl
theorem gc22_8 : cfg0.gc 22 8 = none := rfl
theorem gc22_9 : cfg0.gc 22 9 = none := rfl
theorem grow22 (i : Nat) : cfg0.grow 22 i = false := rfl
theorem gc23 (i : Nat) : cfg0.gc 23 i = none := rfl
theorem grow23 (i : Nat) : cfg0.grow 23 i = false := rfl
theorem gc24_0 : cfg0.gc 24 0 = none := rfl
theorem gc24_1 : cfg0.gc 24 1 = none := rfl
theorem gc24_2 : cfg0.gc 24 2 = none := rfl
theorem gc24_3 : cfg0.gc 24 3 = none := rfl
theorem gc24_4 : cfg0.gc 24 4 = none := rfl
theorem gc24_5 : cfg0.gc 24 5 = some ([3, 4, 5, 6, 7, 19, 20], 8) := rfl
theorem gc24_6 : cfg0.gc 24 6 = none := rfl
theorem gc24_7 : cfg0.gc 24 7 = none := rfl
theorem gc24_8 : cfg0.gc 24 8 = none := rfl
theorem gc24_9 : cfg0.gc 24 9 = none := rfl
theorem gc24_10 : cfg0.gc 24 10 = none := rfl
theorem gc24_11 : cfg0.gc 24 11 = none := rfl
theorem gc24_12 : cfg0.gc 24 12 = none := rfl
theorem gc24_13 : cfg0.gc 24 13 = none := rfl
theorem grow24_4 : cfg0.grow 24 4 = false := rfl
theorem grow24_5 : cfg0.grow 24 5 = false := rfl
theorem grow24_6 : cfg0.grow 24 6 = false := rfl
theorem grow24_7 : cfg0.grow 24 7 = true := rfl
theorem grow24_8 : cfg0.grow 24 8 = false := rfl
theorem grow24_9 : cfg0.grow 24 9 = false := rfl
theorem grow24_47 : cfg0.grow 24 47 = false := rfl
theorem gc25 (i : Nat) : cfg0.gc 25 i = none := rfl
theorem grow25_4 : cfg0.grow 25 4 = false := rfl
theorem grow25_5 : cfg0.grow 25 5 = false := rfl
theorem grow25_6 : cfg0.grow 25 6 = false := rfl
theorem grow25_7 : cfg0.grow 25 7 = true := rfl
theorem grow25_8 : cfg0.grow 25 8 = false := rfl
theorem grow25_9 : cfg0.grow 25 9 = false := rfl
theorem grow25_49 : cfg0.grow 25 49 = false := rfl
theorem gc26_0 : cfg0.gc 26 0 = none := rfl
theorem gc26_1 : cfg0.gc 26 1 = none := rfl
theorem gc26_2 : cfg0.gc 26 2 = none := rfl
theorem gc26_3 : cfg0.gc 26 3 = none := rfl
theorem gc26_4 : cfg0.gc 26 4 = some ([4, 6, 7, 8, 9, 10], 8) := rfl
theorem gc26_5 : cfg0.gc 26 5 = none := rfl
theorem gc26_6 : cfg0.gc 26 6 = none := rfl
theorem gc26_7 : cfg0.gc 26 7 = none := rfl
theorem grow26 (i : Nat) : cfg0.grow 26 i = false := rfl
theorem gc27 (i : Nat) : cfg0.gc 27 i = none := rfl
theorem grow27 (i : Nat) : cfg0.grow 27 i = false := rfl
theorem gc28 (i : Nat) : cfg0.gc 28 i = none := rfl
theorem grow28 (i : Nat) : cfg0.grow 28 i = false := rfl
theorem gc29 (i : Nat) : cfg0.gc 29 i = none := rfl
theorem grow29 (i : Nat) : cfg0.grow 29 i = false := rfl
theorem gc30 (i : Nat) : cfg0.gc 30 i = none := rfl
theorem grow30 (i : Nat) : cfg0.grow 30 i = false := rfl
theorem gc31 (i : Nat) : cfg0.gc 31 i = none := rfl
theorem grow31 (i : Nat) : cfg0.grow 31 i = false := rfl
theorem gc32 (i : Nat) : cfg0.gc 32 i = none := rfl
theorem grow32 (i : Nat) : cfg0.grow 32 i = false := rfl
theorem gc33_0 : cfg0.gc 33 0 = none := rfl
theorem gc33_1 : cfg0.gc 33 1 = none := rfl
theorem gc33_2 : cfg0.gc 33 2 = none := rfl
theorem gc33_3 : cfg0.gc 33 3 = none := rfl
theorem gc33_4 : cfg0.gc 33 4 = some ([1, 3], 1) := rfl
theorem gc33_6 : cfg0.gc 33 6 = none := rfl
theorem gc33_7 : cfg0.gc 33 7 = none := rfl
theorem gc33_8 : cfg0.gc 33 8 = none := rfl
theorem gc33_5 : cfg0.gc 33 5 = none := rfl
theorem gc33_9 : cfg0.gc 33 9 = none := rfl
theorem gc33_10 : cfg0.gc 33 10 = some ([1, 5], 1) := rfl
theorem gc33_12 : cfg0.gc 33 12 = none := rfl
theorem gc33_13 : cfg0.gc 33 13 = none := rfl
theorem gc33_14 : cfg0.gc 33 14 = none := rfl
theorem gc33_11 : cfg0.gc 33 11 = none := rfl
theorem gc33_15 : cfg0.gc 33 15 = none := rfl
theorem grow33 (i : Nat) : cfg0.grow 33 i = false := rfl
theorem gc34_0 : cfg0.gc 34 0 = none := rfl
theorem gc34_1 : cfg0.gc 34 1 = none := rfl
theorem gc34_2 : cfg0.gc 34 2 = none := rfl
theorem gc34_3 : cfg0.gc 34 3 = none := rfl
theorem gc34_4 : cfg0.gc 34 4 = none := rfl
theorem gc34_5 : cfg0.gc 34 5 = none := rfl
theorem gc34_6 : cfg0.gc 34 6 = some ([1, 3, 6, 9, 10, 11, 12, 33, 34], 5) := rfl
theorem gc34_7 : cfg0.gc 34 7 = none := rfl
theorem gc34_8 : cfg0.gc 34 8 = none := rfl
theorem gc34_9 : cfg0.gc 34 9 = none := rfl
theorem gc34_10 : cfg0.gc 34 10 = none := rfl
theorem gc34_11 : cfg0.gc 34 11 = some ([1, 3, 6, 9, 10, 11, 12, 13, 33, 34, 43, 44, 45], 5) := rfl
theorem gc34_12 : cfg0.gc 34 12 = none := rfl
theorem gc34_13 : cfg0.gc 34 13 = none := rfl
theorem gc34_14 : cfg0.gc 34 14 = none := rfl
theorem gc34_15 : cfg0.gc 34 15 = none := rfl
theorem gc34_16 : cfg0.gc 34 16 = none := rfl
theorem gc34_17 : cfg0.gc 34 17 = none := rfl
theorem gc34_18 : cfg0.gc 34 18 = none := rfl
theorem gc34_19 : cfg0.gc 34 19 = none := rfl
theorem grow34_6 : cfg0.grow 34 6 = true := rfl
theorem grow34_7 : cfg0.grow 34 7 = false := rfl
theorem grow34_8 : cfg0.grow 34 8 = false := rfl
theorem grow34_9 : cfg0.grow 34 9 = false := rfl
theorem grow34_10 : cfg0.grow 34 10 = false := rfl
theorem grow34_11 : cfg0.grow 34 11 = false := rfl
theorem grow34_12 : cfg0.grow 34 12 = false := rfl
theorem grow34_13 : cfg0.grow 34 13 = false := rfl
theorem grow34_15 : cfg0.grow 34 15 = false := rfl
theorem grow34_16 : cfg0.grow 34 16 = false := rfl
theorem gc35 (i : Nat) : cfg0.gc 35 i = none := rfl
theorem grow35 (i : Nat) : cfg0.grow 35 i = false := rfl
theorem gc36 (i : Nat) : cfg0.gc 36 i = none := rfl
theorem grow36 (i : Nat) : cfg0.grow 36 i = false := rfl
theorem gc37_0 : cfg0.gc 37 0 = none := rfl
theorem gc37_1 : cfg0.gc 37 1 = none := rfl
theorem gc37_2 : cfg0.gc 37 2 = none := rfl
theorem gc37_3 : cfg0.gc 37 3 = none := rfl
theorem gc37_4 : cfg0.gc 37 4 = none := rfl
theorem gc37_5 : cfg0.gc 37 5 = none := rfl
theorem gc37_6 : cfg0.gc 37 6 = some ([4, 8, 9, 44, 45, 46], 5) := rfl
theorem gc37_7 : cfg0.gc 37 7 = none := rfl
theorem gc37_8 : cfg0.gc 37 8 = none := rfl
theorem gc37_9 : cfg0.gc 37 9 = none := rfl
theorem gc37_10 : cfg0.gc 37 10 = none := rfl
theorem gc37_11 : cfg0.gc 37 11 = none := rfl
theorem grow37_8 : cfg0.grow 37 8 = false := rfl
theorem grow37_9 : cfg0.grow 37 9 = false := rfl
theorem grow37_10 : cfg0.grow 37 10 = false := rfl
theorem grow37_11 : cfg0.grow 37 11 = false := rfl
theorem grow37_13 : cfg0.grow 37 13 = false := rfl
theorem grow37_22 : cfg0.grow 37 22 = false := rfl
theorem grow37_23 : cfg0.grow 37 23 = true := rfl
theorem grow37_41 : cfg0.grow 37 41 = false := rfl
theorem grow37_43 : cfg0.grow 37 43 = false := rfl
theorem grow37_54 : cfg0.grow 37 54 = false := rfl
theorem grow37_60 : cfg0.grow 37 60 = false := rfl
theorem gc38 (i : Nat) : cfg0.gc 38 i = none := rfl
theorem grow38 (i : Nat) : cfg0.grow 38 i = false := rfl
theorem gc39 (i : Nat) : cfg0.gc 39 i = none := rfl
theorem grow39 (i : Nat) : cfg0.grow 39 i = false := rfl
theorem gc40 (i : Nat) : cfg0.gc 40 i = none := rfl
theorem grow40 (i : Nat) : cfg0.grow 40 i = false := rfl
theorem gc41 (i : Nat) : cfg0.gc 41 i = none := rfl
theorem grow41 (i : Nat) : cfg0.grow 41 i = false := rfl
theorem gc42_0 : cfg0.gc 42 0 = none := rfl
theorem gc42_1 : cfg0.gc 42 1 = none := rfl
theorem gc42_2 : cfg0.gc 42 2 = none := rfl
theorem gc42_3 : cfg0.gc 42 3 = some ([1, 2, 32, 33, 34], 1) := rfl
theorem gc42_4 : cfg0.gc 42 4 = none := rfl
theorem gc42_5 : cfg0.gc 42 5 = none := rfl
theorem gc42_6 : cfg0.gc 42 6 = none := rfl
theorem gc42_7 : cfg0.gc 42 7 = none := rfl
theorem gc42_8 : cfg0.gc 42 8 = none := rfl
theorem gc42_9 : cfg0.gc 42 9 = some ([1, 7, 56, 57, 58], 4) := rfl
theorem gc42_10 : cfg0.gc 42 10 = none := rfl
theorem gc42_11 : cfg0.gc 42 11 = none := rfl
theorem gc42_12 : cfg0.gc 42 12 = none := rfl
theorem gc42_13 : cfg0.gc 42 13 = none := rfl
theorem gc42_14 : cfg0.gc 42 14 = none := rfl
theorem grow42 (i : Nat) : cfg0.grow 42 i = false := rfl
theorem gc43 (i : Nat) : cfg0.gc 43 i = none := rfl
theorem grow43 (i : Nat) : cfg0.grow 43 i = false := rfl
theorem gc44 (i : Nat) : cfg0.gc 44 i = none := rfl
theorem grow44 (i : Nat) : cfg0.grow 44 i = false := rfl
theorem gc45 (i : Nat) : cfg0.gc 45 i = none := rfl
theorem grow45 (i : Nat) : cfg0.grow 45 i = false := rfl
theorem gc46 (i : Nat) : cfg0.gc 46 i = none := rfl
theorem grow46 (i : Nat) : cfg0.grow 46 i = false := rfl
theorem gc47 (i : Nat) : cfg0.gc 47 i = none := rfl
theorem grow47 (i : Nat) : cfg0.grow 47 i = false := rfl
theorem gc48 (i : Nat) : cfg0.gc 48 i = none := rfl
theorem grow48 (i : Nat) : cfg0.grow 48 i = false := rfl
theorem gc49 (i : Nat) : cfg0.gc 49 i = none := rfl
theorem grow49 (i : Nat) : cfg0.grow 49 i = false := rfl
theorem gc50 (i : Nat) : cfg0.gc 50 i = none := rfl
theorem grow50 (i : Nat) : cfg0.grow 50 i = false := rfl
theorem gc51 (i : Nat) : cfg0.gc 51 i = none := rfl
theorem grow51_6 : cfg0.grow 51 6 = false := rfl
theorem grow51_7 : cfg0.grow 51 7 = false := rfl
theorem grow51_8 : cfg0.grow 51 8 = true := rfl
theorem grow51_9 : cfg0.grow 51 9 = false := rfl
theorem gc52 (i : Nat) : cfg0.gc 52 i = none := rfl
theorem grow52 (i : Nat) : cfg0.grow 52 i = false := rfl
theorem gc53 (i : Nat) : cfg0.gc 53 i = none := rfl
theorem grow53 (i : Nat) : cfg0.grow 53 i = false := rfl
theorem gc54 (i : Nat) : cfg0.gc 54 i = none := rfl
theorem grow54 (i : Nat) : cfg0.grow 54 i = false := rfl
theorem gc55 (i : Nat) : cfg0.gc 55 i = none := rfl
theorem grow55 (i : Nat) : cfg0.grow 55 i = false := rfl
theorem gc56 (i : Nat) : cfg0.gc 56 i = none := rfl
theorem grow56 (i : Nat) : cfg0.grow 56 i = false := rfl
theorem gc57 (i : Nat) : cfg0.gc 57 i = none := rfl
theorem grow57 (i : Nat) : cfg0.grow 57 i = false := rfl
theorem gc58 (i : Nat) : cfg0.gc 58 i = none := rfl
theorem grow58 (i : Nat) : cfg0.grow 58 i = false := rfl
theorem gc59 (i : Nat) : cfg0.gc 59 i = none := rfl
theorem grow59 (i : Nat) : cfg0.grow 59 i = false := rfl
theorem gc60 (i : Nat) : cfg0.gc 60 i = none := rfl
theorem grow60 (i : Nat) : cfg0.grow 60 i = false := rfl
theorem gc61 (i : Nat) : cfg0.gc 61 i = none := rfl
theorem grow61 (i : Nat) : cfg0.grow 61 i = false := rfl
theorem gc62 (i : Nat) : cfg0.gc 62 i = none := rfl
theorem grow62 (i : Nat) : cfg0.grow 62 i = false := rfl
theorem gc63_0 : cfg0.gc 63 0 = none := rfl
theorem gc63_1 : cfg0.gc 63 1 = none := rfl
theorem gc63_2 : cfg0.gc 63 2 = none := rfl
theorem gc63_3 : cfg0.gc 63 3 = some ([1, 2, 3, 7, 8], 2) := rfl
theorem gc63_5 : cfg0.gc 63 5 = none := rfl
theorem gc63_6 : cfg0.gc 63 6 = none := rfl
theorem gc63_7 : cfg0.gc 63 7 = none := rfl
theorem gc63_9 : cfg0.gc 63 9 = none := rfl
theorem gc63_8 : cfg0.gc 63 8 = none := rfl
theorem gc63_10 : cfg0.gc 63 10 = none := rfl
theorem gc63_11 : cfg0.gc 63 11 = none := rfl
theorem gc63_13 : cfg0.gc 63 13 = none := rfl
theorem gc63_14 : cfg0.gc 63 14 = none := rfl
theorem gc63_15 : cfg0.gc 63 15 = none := rfl
theorem gc63_16 : cfg0.gc 63 16 = none := rfl
theorem gc63_18 : cfg0.gc 63 18 = none := rfl
theorem gc63_19 : cfg0.gc 63 19 = none := rfl
theorem gc63_17 : cfg0.gc 63 17 = none := rfl
theorem gc63_12 : cfg0.gc 63 12 = none := rfl
theorem gc63_20 : cfg0.gc 63 20 = none := rfl
theorem gc63_21 : cfg0.gc 63 21 = none := rfl
theorem gc63_23 : cfg0.gc 63 23 = none := rfl
theorem gc63_24 : cfg0.gc 63 24 = none := rfl
theorem gc63_22 : cfg0.gc 63 22 = none := rfl
theorem gc63_4 : cfg0.gc 63 4 = none := rfl
theorem gc63_25 : cfg0.gc 63 25 = none := rfl
theorem grow63_6 : cfg0.grow 63 6 = false := rfl
theorem grow63_7 : cfg0.grow 63 7 = false := rfl
theorem grow63_8 : cfg0.grow 63 8 = false := rfl
theorem grow63_9 : cfg0.grow 63 9 = true := rfl
theorem grow63_10 : cfg0.grow 63 10 = false := rfl
theorem grow63_11 : cfg0.grow 63 11 = false := rfl
theorem grow63_12 : cfg0.grow 63 12 = false := rfl
theorem grow63_13 : cfg0.grow 63 13 = false := rfl
theorem gc64 (i : Nat) : cfg0.gc 64 i = none := rfl
theorem grow64 (i : Nat) : cfg0.grow 64 i = false := rfl
theorem gc65 (i : Nat) : cfg0.gc 65 i = none := rfl
theorem grow65 (i : Nat) : cfg0.grow 65 i = false := rfl
theorem gc66 (i : Nat) : cfg0.gc 66 i = none := rfl
theorem grow66 (i : Nat) : cfg0.grow 66 i = false := rfl
theorem gc67 (i : Nat) : cfg0.gc 67 i = none := rfl
theorem grow67 (i : Nat) : cfg0.grow 67 i = false := rfl
theorem gc68 (i : Nat) : cfg0.gc 68 i = none := rfl
theorem grow68 (i : Nat) : cfg0.grow 68 i = false := rfl
theorem gc69 (i : Nat) : cfg0.gc 69 i = none := rfl
theorem grow69 (i : Nat) : cfg0.grow 69 i = false := rfl
theorem gc70 (i : Nat) : cfg0.gc 70 i = none := rfl
theorem grow70 (i : Nat) : cfg0.grow 70 i = false := rfl
theorem gc71 (i : Nat) : cfg0.gc 71 i = none := rfl
theorem grow71 (i : Nat) : cfg0.grow 71 i = false := rfl
theorem gc72 (i : Nat) : cfg0.gc 72 i = none := rfl
theorem grow72 (i : Nat) : cfg0.grow 72 i = false := rfl
theorem gc73 (i : Nat) : cfg0.gc 73 i = none := rfl
theorem grow73 (i : Nat) : cfg0.grow 73 i = false := rfl
theorem gc74 (i : Nat) : cfg0.gc 74 i = none := rfl
theorem grow74 (i : Nat) : cfg0.grow 74 i = false := rfl
theorem gc75 (i : Nat) : cfg0.gc 75 i = none := rfl
theorem grow75 (i : Nat) : cfg0.grow 75 i = false := rfl
theorem gc76 (i : Nat) : cfg0.gc 76 i = none := rfl
theorem grow76 (i : Nat) : cfg0.grow 76 i = false := rfl
theorem gc77 (i : Nat) : cfg0.gc 77 i = none := rfl
theorem grow77 (i : Nat) : cfg0.grow 77 i = false := rfl
theorem gc78 (i : Nat) : cfg0.gc 78 i = none := rfl
theorem grow78 (i : Nat) : cfg0.grow 78 i = false := rfl
theorem gc79 (i : Nat) : cfg0.gc 79 i = none := rfl
theorem grow79 (i : Nat) : cfg0.grow 79 i = false := rfl
theorem gc80 (i : Nat) : cfg0.gc 80 i = none := rfl
theorem grow80 (i : Nat) : cfg0.grow 80 i = false := rfl
theorem gc81 (i : Nat) : cfg0.gc 81 i = none := rfl
theorem grow81 (i : Nat) : cfg0.grow 81 i = false := rfl
theorem gc82 (i : Nat) : cfg0.gc 82 i = none := rfl
theorem grow82 (i : Nat) : cfg0.grow 82 i = false := rfl
theorem gc83 (i : Nat) : cfg0.gc 83 i = none := rfl
theorem grow83 (i : Nat) : cfg0.grow 83 i = false := rfl
theorem gc84 (i : Nat) : cfg0.gc 84 i = none := rfl
theorem grow84 (i : Nat) : cfg0.grow 84 i = false := rfl
theorem gc85 (i : Nat) : cfg0.gc 85 i = none := rfl
theorem grow85 (i : Nat) : cfg0.grow 85 i = false := rfl
theorem gc86 (i : Nat) : cfg0.gc 86 i = none := rfl
theorem grow86 (i : Nat) : cfg0.grow 86 i = false := rfl
theorem gc87 (i : Nat) : cfg0.gc 87 i = none := rfl
theorem grow87 (i : Nat) : cfg0.grow 87 i = false := rfl
theorem gc88 (i : Nat) : cfg0.gc 88 i = none := rfl
theorem grow88 (i : Nat) : cfg0.grow 88 i = false := rfl
theorem gc89 (i : Nat) : cfg0.gc 89 i = none := rfl
theorem grow89 (i : Nat) : cfg0.grow 89 i = false := rfl
theorem gc90 (i : Nat) : cfg0.gc 90 i = none := rfl
theorem grow90 (i : Nat) : cfg0.grow 90 i = false := rfl
theorem gc91 (i : Nat) : cfg0.gc 91 i = none := rfl
theorem grow91 (i : Nat) : cfg0.grow 91 i = false := rfl
theorem gc92 (i : Nat) : cfg0.gc 92 i = none := rfl
theorem grow92 (i : Nat) : cfg0.grow 92 i = false := rfl
theorem gc93_0 : cfg0.gc 93 0 = none := rfl
theorem gc93_1 : cfg0.gc 93 1 = some ([0, 1, 2, 3, 5], 0) := rfl
theorem gc93_3 : cfg0.gc 93 3 = none := rfl
theorem gc93_4 : cfg0.gc 93 4 = none := rfl
theorem gc93_2 : cfg0.gc 93 2 = none := rfl
theorem grow93 (i : Nat) : cfg0.grow 93 i = false := rfl
theorem gc94_0 : cfg0.gc 94 0 = none := rfl
theorem gc94_1 : cfg0.gc 94 1 = none := rfl
theorem gc94_2 : cfg0.gc 94 2 = none := rfl
theorem gc94_3 : cfg0.gc 94 3 = none := rfl
theorem gc94_4 : cfg0.gc 94 4 = none := rfl
theorem gc94_5 : cfg0.gc 94 5 = none := rfl
theorem gc94_6 : cfg0.gc 94 6 = none := rfl
theorem gc94_7 : cfg0.gc 94 7 = some ([0, 3, 7, 8, 36, 37, 38], 2) := rfl
theorem gc94_8 : cfg0.gc 94 8 = none := rfl
theorem gc94_9 : cfg0.gc 94 9 = none := rfl
theorem gc94_10 : cfg0.gc 94 10 = none := rfl
theorem gc94_11 : cfg0.gc 94 11 = none := rfl
theorem gc94_12 : cfg0.gc 94 12 = none := rfl
theorem gc94_13 : cfg0.gc 94 13 = none := rfl
theorem gc94_14 : cfg0.gc 94 14 = none := rfl
theorem gc94_15 : cfg0.gc 94 15 = none := rfl
theorem gc94_16 : cfg0.gc 94 16 = none := rfl
theorem gc94_17 : cfg0.gc 94 17 = none := rfl
theorem gc94_18 : cfg0.gc 94 18 = none := rfl
theorem gc94_19 : cfg0.gc 94 19 = none := rfl
theorem gc94_20 : cfg0.gc 94 20 = none := rfl
theorem grow94_4 : cfg0.grow 94 4 = false := rfl
theorem grow94_5 : cfg0.grow 94 5 = false := rfl
theorem grow94_6 : cfg0.grow 94 6 = false := rfl
theorem grow94_7 : cfg0.grow 94 7 = false := rfl
theorem grow94_8 : cfg0.grow 94 8 = true := rfl
theorem grow94_10 : cfg0.grow 94 10 = false := rfl
theorem grow94_11 : cfg0.grow 94 11 = false := rfl
theorem grow94_12 : cfg0.grow 94 12 = false := rfl
theorem grow94_13 : cfg0.grow 94 13 = false := rfl
theorem grow94_14 : cfg0.grow 94 14 = false := rfl
theorem grow94_81 : cfg0.grow 94 81 = false := rfl
theorem gc95 (i : Nat) : cfg0.gc 95 i = none := rfl
theorem grow95 (i : Nat) : cfg0.grow 95 i = false := rfl
theorem gc96 (i : Nat) : cfg0.gc 96 i = none := rfl
theorem grow96_4 : cfg0.grow 96 4 = false := rfl
theorem grow96_5 : cfg0.grow 96 5 = true := rfl
theorem grow96_6 : cfg0.grow 96 6 = false := rfl
theorem gc97 (i : Nat) : cfg0.gc 97 i = none := rfl
theorem grow97_4 : cfg0.grow 97 4 = false := rfl
theorem grow97_5 : cfg0.grow 97 5 = true := rfl
theorem grow97_6 : cfg0.grow 97 6 = false := rfl
theorem gc98 (i : Nat) : cfg0.gc 98 i = none := rfl
theorem grow98_4 : cfg0.grow 98 4 = false := rfl
theorem grow98_5 : cfg0.grow 98 5 = true := rfl
theorem grow98_6 : cfg0.grow 98 6 = false := rfl
theorem grow98_7 : cfg0.grow 98 7 = false := rfl
theorem grow98_8 : cfg0.grow 98 8 = false := rfl
theorem gc99 (i : Nat) : cfg0.gc 99 i = none := rfl
theorem grow99 (i : Nat) : cfg0.grow 99 i = false := rfl
theorem gc100_0 : cfg0.gc 100 0 = none := rfl
theorem gc100_1 : cfg0.gc 100 1 = some ([0, 3], 0) := rfl
theorem gc100_3 : cfg0.gc 100 3 = none := rfl
theorem gc100_2 : cfg0.gc 100 2 = none := rfl
theorem grow100 (i : Nat) : cfg0.grow 100 i = false := rfl
theorem gc101 (i : Nat) : cfg0.gc 101 i = none := rfl
theorem grow101 (i : Nat) : cfg0.grow 101 i = false := rfl
theorem gc102_0 : cfg0.gc 102 0 = none := rfl
theorem gc102_1 : cfg0.gc 102 1 = none := rfl
theorem gc102_2 : cfg0.gc 102 2 = some ([2, 5, 6, 7], 0) := rfl
theorem gc102_3 : cfg0.gc 102 3 = none := rfl
theorem gc102_4 : cfg0.gc 102 4 = none := rfl
theorem gc102_5 : cfg0.gc 102 5 = none := rfl
theorem gc102_6 : cfg0.gc 102 6 = none := rfl
theorem grow102 (i : Nat) : cfg0.grow 102 i = false := rfl
theorem gc103 (i : Nat) : cfg0.gc 103 i = none := rfl
theorem grow103 (i : Nat) : cfg0.grow 103 i = false := rfl
theorem gc104 (i : Nat) : cfg0.gc 104 i = none := rfl
theorem grow104 (i : Nat) : cfg0.grow 104 i = false := rfl
theorem gc105 (i : Nat) : cfg0.gc 105 i = none := rfl
theorem grow105 (i : Nat) : cfg0.grow 105 i = false := rfl
theorem gc106 (i : Nat) : cfg0.gc 106 i = none := rfl
theorem grow106 (i : Nat) : cfg0.grow 106 i = false := rfl
theorem gc107 (i : Nat) : cfg0.gc 107 i = none := rfl
theorem grow107 (i : Nat) : cfg0.grow 107 i = false := rfl
theorem gc108 (i : Nat) : cfg0.gc 108 i = none := rfl
theorem grow108 (i : Nat) : cfg0.grow 108 i = false := rfl
theorem gc109 (i : Nat) : cfg0.gc 109 i = none := rfl
theorem grow109 (i : Nat) : cfg0.grow 109 i = false := rfl
theorem gc110 (i : Nat) : cfg0.gc 110 i = none := rfl
theorem grow110 (i : Nat) : cfg0.grow 110 i = false := rfl
theorem gc111 (i : Nat) : cfg0.gc 111 i = none := rfl
theorem grow111 (i : Nat) : cfg0.grow 111 i = false := rfl
theorem gc112 (i : Nat) : cfg0.gc 112 i = none := rfl
theorem grow112 (i : Nat) : cfg0.grow 112 i = false := rfl
theorem gc113 (i : Nat) : cfg0.gc 113 i = none := rfl
theorem grow113 (i : Nat) : cfg0.grow 113 i = false := rfl
theorem gc114 (i : Nat) : cfg0.gc 114 i = none := rfl
theorem grow114 (i : Nat) : cfg0.grow 114 i = false := rfl
theorem gc115 (i : Nat) : cfg0.gc 115 i = none := rfl
theorem grow115 (i : Nat) : cfg0.grow 115 i = false := rfl
theorem gc116 (i : Nat) : cfg0.gc 116 i = none := rfl
theorem grow116 (i : Nat) : cfg0.grow 116 i = false := rfl
theorem gc117 (i : Nat) : cfg0.gc 117 i = none := rfl
theorem grow117 (i : Nat) : cfg0.grow 117 i = false := rfl
theorem gc118 (i : Nat) : cfg0.gc 118 i = none := rfl
theorem grow118 (i : Nat) : cfg0.grow 118 i = false := rfl
theorem gc119 (i : Nat) : cfg0.gc 119 i = none := rfl
theorem grow119 (i : Nat) : cfg0.grow 119 i = false := rfl
theorem gc120 (i : Nat) : cfg0.gc 120 i = none := rfl
theorem grow120 (i : Nat) : cfg0.grow 120 i = false := rfl
theorem gc121 (i : Nat) : cfg0.gc 121 i = none := rfl
theorem grow121 (i : Nat) : cfg0.grow 121 i = false := rfl
end Go.Ab
