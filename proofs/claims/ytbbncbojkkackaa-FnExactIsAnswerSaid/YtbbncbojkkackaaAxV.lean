/- The table of types that the proofs over this translation use, and its check by the kernel. -/
import Derived.Test.YtbbncbojkkackaaAxU
import Derived.Test.YtbbncbojkkackaaProg
import Derived.KernelRfl
namespace Go.Proofs.Ytbbncbojkkackaa
open Go.Ax

def tabL : List (Nat × TI) := [
  (1, ⟨1, 8, .fn, [.lit .nilFunc]⟩),
  (2, ⟨1, 8, .int .i64, [.lit (.int .i64 0)]⟩),
  (3, ⟨1, 8, .int .i64, [.lit (.int .i64 0)]⟩),
  (4, ⟨1, 1, .bool, [.lit (.bool false)]⟩),
  (5, ⟨1, 1, .int .u8, [.lit (.int .u8 0)]⟩),
  (6, ⟨1, 1, .int .u8, [.lit (.int .u8 0)]⟩),
  (7, ⟨4, 24, .struct [(0, 2), (1, 3), (2, 4), (3, 6)], [.lit (.int .i64 0), .lit (.int .i64 0), .lit (.bool false), .lit (.int .u8 0)]⟩),
  (8, ⟨4, 24, .struct [(0, 2), (1, 3), (2, 4), (3, 6)], [.lit (.int .i64 0), .lit (.int .i64 0), .lit (.bool false), .lit (.int .u8 0)]⟩),
  (9, ⟨1, 16, .str, [.lit (.string ⟨#[]⟩)]⟩),
  (10, ⟨1, 16, .str, [.lit (.string ⟨#[]⟩)]⟩),
  (11, ⟨1, 16, .str, [.lit (.string ⟨#[]⟩)]⟩),
  (12, ⟨1, 8, .int .u64, [.lit (.int .u64 0)]⟩),
  (13, ⟨2, 24, .struct [(0, 9), (1, 12)], [.lit (.string ⟨#[]⟩), .lit (.int .u64 0)]⟩),
  (14, ⟨2, 24, .struct [(0, 9), (1, 12)], [.lit (.string ⟨#[]⟩), .lit (.int .u64 0)]⟩),
  (15, ⟨1, 8, .ptr, [.lit (.pointer none)]⟩),
  (16, ⟨1, 8, .ptr, [.lit (.pointer none)]⟩),
  (17, ⟨1, 8, .ptr, [.lit (.pointer none)]⟩),
  (18, ⟨1, 8, .struct [(0, 17)], [.lit (.pointer none)]⟩),
  (19, ⟨1, 8, .struct [(0, 17)], [.lit (.pointer none)]⟩),
  (21, ⟨1, 4, .int .i32, [.lit (.int .i32 0)]⟩),
  (22, ⟨1, 24, .slice 24, [.own 0 none 2 []]⟩),
  (23, ⟨2, 32, .struct [(0, 3), (1, 22)], [.lit (.int .i64 0), .own 0 none 2 []]⟩),
  (24, ⟨2, 32, .struct [(0, 3), (1, 22)], [.lit (.int .i64 0), .own 0 none 2 []]⟩),
  (25, ⟨1, 24, .slice 27, [.own 0 none 6 []]⟩),
  (26, ⟨6, 88, .struct [(0, 3), (1, 9), (2, 3), (3, 24), (5, 25)], [.lit (.int .i64 0), .lit (.string ⟨#[]⟩), .lit (.int .i64 0), .lit (.int .i64 0), .own 0 none 2 [], .own 0 none 6 []]⟩),
  (27, ⟨6, 88, .struct [(0, 3), (1, 9), (2, 3), (3, 24), (5, 25)], [.lit (.int .i64 0), .lit (.string ⟨#[]⟩), .lit (.int .i64 0), .lit (.int .i64 0), .own 0 none 2 [], .own 0 none 6 []]⟩),
  (28, ⟨1, 8, .fn, [.lit .nilFunc]⟩),
  (29, ⟨1, 8, .fn, [.lit .nilFunc]⟩),
  (30, ⟨1, 24, .slice 32, [.own 0 none 2 []]⟩),
  (31, ⟨2, 32, .struct [(0, 3), (1, 30)], [.lit (.int .i64 0), .own 0 none 2 []]⟩),
  (32, ⟨2, 32, .struct [(0, 3), (1, 30)], [.lit (.int .i64 0), .own 0 none 2 []]⟩),
  (33, ⟨1, 24, .slice 35, [.own 0 none 6 []]⟩),
  (34, ⟨6, 88, .struct [(0, 3), (1, 9), (2, 3), (3, 32), (5, 33)], [.lit (.int .i64 0), .lit (.string ⟨#[]⟩), .lit (.int .i64 0), .lit (.int .i64 0), .own 0 none 2 [], .own 0 none 6 []]⟩),
  (35, ⟨6, 88, .struct [(0, 3), (1, 9), (2, 3), (3, 32), (5, 33)], [.lit (.int .i64 0), .lit (.string ⟨#[]⟩), .lit (.int .i64 0), .lit (.int .i64 0), .own 0 none 2 [], .own 0 none 6 []]⟩),
  (36, ⟨1, 8, .fn, [.lit .nilFunc]⟩),
  (37, ⟨1, 8, .fn, [.lit .nilFunc]⟩),
  (38, ⟨1, 24, .slice 41, [.own 0 none 9 []]⟩),
  (39, ⟨1, 24, .slice 121, [.own 0 none 10 []]⟩),
  (40, ⟨9, 144, .struct [(0, 3), (1, 9), (2, 3), (3, 24), (5, 24), (7, 38), (8, 39)], [.lit (.int .i64 0), .lit (.string ⟨#[]⟩), .lit (.int .i64 0), .lit (.int .i64 0), .own 0 none 2 [], .lit (.int .i64 0), .own 0 none 2 [], .own 0 none 9 [], .own 0 none 10 []]⟩),
  (41, ⟨9, 144, .struct [(0, 3), (1, 9), (2, 3), (3, 24), (5, 24), (7, 38), (8, 39)], [.lit (.int .i64 0), .lit (.string ⟨#[]⟩), .lit (.int .i64 0), .lit (.int .i64 0), .own 0 none 2 [], .lit (.int .i64 0), .own 0 none 2 [], .own 0 none 9 [], .own 0 none 10 []]⟩),
  (42, ⟨1, 8, .fn, [.lit .nilFunc]⟩),
  (43, ⟨1, 8, .fn, [.lit .nilFunc]⟩),
  (44, ⟨1, 24, .slice 47, [.own 0 none 9 []]⟩),
  (45, ⟨1, 24, .slice 104, [.own 0 none 10 []]⟩),
  (46, ⟨9, 144, .struct [(0, 3), (1, 9), (2, 3), (3, 32), (5, 32), (7, 44), (8, 45)], [.lit (.int .i64 0), .lit (.string ⟨#[]⟩), .lit (.int .i64 0), .lit (.int .i64 0), .own 0 none 2 [], .lit (.int .i64 0), .own 0 none 2 [], .own 0 none 9 [], .own 0 none 10 []]⟩),
  (47, ⟨9, 144, .struct [(0, 3), (1, 9), (2, 3), (3, 32), (5, 32), (7, 44), (8, 45)], [.lit (.int .i64 0), .lit (.string ⟨#[]⟩), .lit (.int .i64 0), .lit (.int .i64 0), .own 0 none 2 [], .lit (.int .i64 0), .own 0 none 2 [], .own 0 none 9 [], .own 0 none 10 []]⟩),
  (48, ⟨1, 8, .fn, [.lit .nilFunc]⟩),
  (49, ⟨1, 8, .fn, [.lit .nilFunc]⟩),
  (50, ⟨1, 8, .fn, [.lit .nilFunc]⟩),
  (51, ⟨1, 24, .slice 3, [.own 0 none 1 []]⟩),
  (52, ⟨7, 112, .struct [(0, 27), (6, 51)], [.lit (.int .i64 0), .lit (.string ⟨#[]⟩), .lit (.int .i64 0), .lit (.int .i64 0), .own 0 none 2 [], .own 0 none 6 [], .own 0 none 1 []]⟩),
  (53, ⟨7, 112, .struct [(0, 27), (6, 51)], [.lit (.int .i64 0), .lit (.string ⟨#[]⟩), .lit (.int .i64 0), .lit (.int .i64 0), .own 0 none 2 [], .own 0 none 6 [], .own 0 none 1 []]⟩),
  (54, ⟨1, 8, .fn, [.lit .nilFunc]⟩),
  (55, ⟨1, 8, .fn, [.lit .nilFunc]⟩),
  (56, ⟨7, 112, .struct [(0, 35), (6, 51)], [.lit (.int .i64 0), .lit (.string ⟨#[]⟩), .lit (.int .i64 0), .lit (.int .i64 0), .own 0 none 2 [], .own 0 none 6 [], .own 0 none 1 []]⟩),
  (57, ⟨7, 112, .struct [(0, 35), (6, 51)], [.lit (.int .i64 0), .lit (.string ⟨#[]⟩), .lit (.int .i64 0), .lit (.int .i64 0), .own 0 none 2 [], .own 0 none 6 [], .own 0 none 1 []]⟩),
  (58, ⟨1, 8, .fn, [.lit .nilFunc]⟩),
  (59, ⟨1, 8, .fn, [.lit .nilFunc]⟩),
  (60, ⟨1, 8, .fn, [.lit .nilFunc]⟩),
  (61, ⟨5, 64, .struct [(0, 3), (1, 9), (2, 3), (3, 24)], [.lit (.int .i64 0), .lit (.string ⟨#[]⟩), .lit (.int .i64 0), .lit (.int .i64 0), .own 0 none 2 []]⟩),
  (62, ⟨5, 64, .struct [(0, 3), (1, 9), (2, 3), (3, 24)], [.lit (.int .i64 0), .lit (.string ⟨#[]⟩), .lit (.int .i64 0), .lit (.int .i64 0), .own 0 none 2 []]⟩),
  (63, ⟨1, 8, .fn, [.lit .nilFunc]⟩),
  (64, ⟨1, 8, .fn, [.lit .nilFunc]⟩),
  (65, ⟨5, 64, .struct [(0, 3), (1, 9), (2, 3), (3, 32)], [.lit (.int .i64 0), .lit (.string ⟨#[]⟩), .lit (.int .i64 0), .lit (.int .i64 0), .own 0 none 2 []]⟩),
  (66, ⟨5, 64, .struct [(0, 3), (1, 9), (2, 3), (3, 32)], [.lit (.int .i64 0), .lit (.string ⟨#[]⟩), .lit (.int .i64 0), .lit (.int .i64 0), .own 0 none 2 []]⟩),
  (67, ⟨1, 8, .fn, [.lit .nilFunc]⟩),
  (68, ⟨1, 8, .fn, [.lit .nilFunc]⟩),
  (69, ⟨1, 8, .fn, [.lit .nilFunc]⟩),
  (70, ⟨1, 8, .fn, [.lit .nilFunc]⟩),
  (71, ⟨1, 8, .fn, [.lit .nilFunc]⟩),
  (72, ⟨1, 8, .fn, [.lit .nilFunc]⟩),
  (73, ⟨1, 8, .fn, [.lit .nilFunc]⟩),
  (74, ⟨3, 40, .struct [(0, 3), (1, 4), (2, 39)], [.lit (.int .i64 0), .lit (.bool false), .own 0 none 10 []]⟩),
  (75, ⟨3, 40, .struct [(0, 3), (1, 4), (2, 39)], [.lit (.int .i64 0), .lit (.bool false), .own 0 none 10 []]⟩),
  (76, ⟨1, 8, .fn, [.lit .nilFunc]⟩),
  (77, ⟨1, 8, .fn, [.lit .nilFunc]⟩),
  (78, ⟨3, 40, .struct [(0, 3), (1, 4), (2, 45)], [.lit (.int .i64 0), .lit (.bool false), .own 0 none 10 []]⟩),
  (79, ⟨3, 40, .struct [(0, 3), (1, 4), (2, 45)], [.lit (.int .i64 0), .lit (.bool false), .own 0 none 10 []]⟩),
  (80, ⟨1, 8, .fn, [.lit .nilFunc]⟩),
  (81, ⟨1, 8, .fn, [.lit .nilFunc]⟩),
  (82, ⟨1, 24, .slice 53, [.own 0 none 7 []]⟩),
  (83, ⟨9, 160, .struct [(0, 82), (1, 53), (8, 82)], [.own 0 none 7 [], .lit (.int .i64 0), .lit (.string ⟨#[]⟩), .lit (.int .i64 0), .lit (.int .i64 0), .own 0 none 2 [], .own 0 none 6 [], .own 0 none 1 [], .own 0 none 7 []]⟩),
  (84, ⟨9, 160, .struct [(0, 82), (1, 53), (8, 82)], [.own 0 none 7 [], .lit (.int .i64 0), .lit (.string ⟨#[]⟩), .lit (.int .i64 0), .lit (.int .i64 0), .own 0 none 2 [], .own 0 none 6 [], .own 0 none 1 [], .own 0 none 7 []]⟩),
  (85, ⟨1, 8, .fn, [.lit .nilFunc]⟩),
  (86, ⟨1, 8, .fn, [.lit .nilFunc]⟩),
  (87, ⟨1, 24, .slice 57, [.own 0 none 7 []]⟩),
  (88, ⟨9, 160, .struct [(0, 87), (1, 57), (8, 87)], [.own 0 none 7 [], .lit (.int .i64 0), .lit (.string ⟨#[]⟩), .lit (.int .i64 0), .lit (.int .i64 0), .own 0 none 2 [], .own 0 none 6 [], .own 0 none 1 [], .own 0 none 7 []]⟩),
  (89, ⟨9, 160, .struct [(0, 87), (1, 57), (8, 87)], [.own 0 none 7 [], .lit (.int .i64 0), .lit (.string ⟨#[]⟩), .lit (.int .i64 0), .lit (.int .i64 0), .own 0 none 2 [], .own 0 none 6 [], .own 0 none 1 [], .own 0 none 7 []]⟩),
  (90, ⟨1, 8, .fn, [.lit .nilFunc]⟩),
  (91, ⟨1, 8, .fn, [.lit .nilFunc]⟩),
  (92, ⟨1, 8, .fn, [.lit .nilFunc]⟩),
  (93, ⟨1, 8, .fn, [.lit .nilFunc]⟩),
  (94, ⟨1, 8, .fn, [.lit .nilFunc]⟩),
  (95, ⟨1, 8, .fn, [.lit .nilFunc]⟩),
  (96, ⟨1, 8, .fn, [.lit .nilFunc]⟩),
  (97, ⟨1, 8, .fn, [.lit .nilFunc]⟩),
  (98, ⟨1, 8, .fn, [.lit .nilFunc]⟩),
  (99, ⟨1, 8, .fn, [.lit .nilFunc]⟩),
  (100, ⟨1, 8, .fn, [.lit .nilFunc]⟩),
  (101, ⟨1, 8, .fn, [.lit .nilFunc]⟩),
  (102, ⟨1, 8, .fn, [.lit .nilFunc]⟩),
  (103, ⟨10, 160, .struct [(0, 9), (1, 47)], [.lit (.string ⟨#[]⟩), .lit (.int .i64 0), .lit (.string ⟨#[]⟩), .lit (.int .i64 0), .lit (.int .i64 0), .own 0 none 2 [], .lit (.int .i64 0), .own 0 none 2 [], .own 0 none 9 [], .own 0 none 10 []]⟩),
  (104, ⟨10, 160, .struct [(0, 9), (1, 47)], [.lit (.string ⟨#[]⟩), .lit (.int .i64 0), .lit (.string ⟨#[]⟩), .lit (.int .i64 0), .lit (.int .i64 0), .own 0 none 2 [], .lit (.int .i64 0), .own 0 none 2 [], .own 0 none 9 [], .own 0 none 10 []]⟩),
  (105, ⟨1, 8, .fn, [.lit .nilFunc]⟩),
  (106, ⟨1, 8, .fn, [.lit .nilFunc]⟩),
  (107, ⟨1, 8, .fn, [.lit .nilFunc]⟩),
  (108, ⟨1, 8, .fn, [.lit .nilFunc]⟩),
  (109, ⟨1, 8, .fn, [.lit .nilFunc]⟩),
  (110, ⟨1, 8, .fn, [.lit .nilFunc]⟩),
  (111, ⟨1, 8, .fn, [.lit .nilFunc]⟩),
  (112, ⟨1, 8, .fn, [.lit .nilFunc]⟩),
  (113, ⟨1, 8, .fn, [.lit .nilFunc]⟩),
  (114, ⟨1, 8, .fn, [.lit .nilFunc]⟩),
  (115, ⟨1, 8, .fn, [.lit .nilFunc]⟩),
  (116, ⟨1, 8, .fn, [.lit .nilFunc]⟩),
  (117, ⟨1, 8, .fn, [.lit .nilFunc]⟩),
  (118, ⟨1, 8, .fn, [.lit .nilFunc]⟩),
  (119, ⟨1, 8, .fn, [.lit .nilFunc]⟩),
  (120, ⟨10, 160, .struct [(0, 9), (1, 41)], [.lit (.string ⟨#[]⟩), .lit (.int .i64 0), .lit (.string ⟨#[]⟩), .lit (.int .i64 0), .lit (.int .i64 0), .own 0 none 2 [], .lit (.int .i64 0), .own 0 none 2 [], .own 0 none 9 [], .own 0 none 10 []]⟩),
  (121, ⟨10, 160, .struct [(0, 9), (1, 41)], [.lit (.string ⟨#[]⟩), .lit (.int .i64 0), .lit (.string ⟨#[]⟩), .lit (.int .i64 0), .lit (.int .i64 0), .own 0 none 2 [], .lit (.int .i64 0), .own 0 none 2 [], .own 0 none 9 [], .own 0 none 10 []]⟩),
  (122, ⟨1, 8, .fn, [.lit .nilFunc]⟩),
  (123, ⟨1, 8, .fn, [.lit .nilFunc]⟩),
  (124, ⟨1, 8, .fn, [.lit .nilFunc]⟩),
  (125, ⟨1, 8, .fn, [.lit .nilFunc]⟩),
  (126, ⟨1, 8, .fn, [.lit .nilFunc]⟩),
  (127, ⟨1, 8, .fn, [.lit .nilFunc]⟩),
  (128, ⟨1, 8, .fn, [.lit .nilFunc]⟩),
  (130, ⟨1, 8, .fn, [.lit .nilFunc]⟩),
  (131, ⟨1, 8, .fn, [.lit .nilFunc]⟩),
  (132, ⟨1, 8, .fn, [.lit .nilFunc]⟩),
  (134, ⟨1, 8, .fn, [.lit .nilFunc]⟩),
  (135, ⟨1, 8, .fn, [.lit .nilFunc]⟩),
  (136, ⟨1, 8, .fn, [.lit .nilFunc]⟩),
  (137, ⟨1, 8, .fn, [.lit .nilFunc]⟩),
  (138, ⟨1, 8, .ptr, [.lit (.pointer none)]⟩),
  (139, ⟨1, 8, .fn, [.lit .nilFunc]⟩),
  (140, ⟨1, 8, .fn, [.lit .nilFunc]⟩),
  (141, ⟨1, 8, .fn, [.lit .nilFunc]⟩),
  (142, ⟨1, 8, .fn, [.lit .nilFunc]⟩),
  (143, ⟨1, 8, .fn, [.lit .nilFunc]⟩),
  (144, ⟨1, 24, .slice 9, [.own 0 none 1 []]⟩),
  (145, ⟨1, 8, .fn, [.lit .nilFunc]⟩),
  (146, ⟨1, 8, .fn, [.lit .nilFunc]⟩),
  (147, ⟨1, 8, .fn, [.lit .nilFunc]⟩),
  (148, ⟨1, 8, .fn, [.lit .nilFunc]⟩),
  (149, ⟨1, 8, .fn, [.lit .nilFunc]⟩),
  (150, ⟨1, 8, .fn, [.lit .nilFunc]⟩),
  (151, ⟨1, 8, .fn, [.lit .nilFunc]⟩),
  (152, ⟨1, 8, .fn, [.lit .nilFunc]⟩),
  (153, ⟨1, 8, .fn, [.lit .nilFunc]⟩),
  (154, ⟨1, 8, .fn, [.lit .nilFunc]⟩),
  (155, ⟨1, 8, .fn, [.lit .nilFunc]⟩),
  (156, ⟨1, 8, .fn, [.lit .nilFunc]⟩),
  (157, ⟨1, 8, .fn, [.lit .nilFunc]⟩),
  (158, ⟨1, 8, .fn, [.lit .nilFunc]⟩),
  (159, ⟨4, 40, .struct [(0, 17), (1, 17), (2, 17), (3, 9)], [.lit (.pointer none), .lit (.pointer none), .lit (.pointer none), .lit (.string ⟨#[]⟩)]⟩),
  (160, ⟨4, 40, .struct [(0, 17), (1, 17), (2, 17), (3, 9)], [.lit (.pointer none), .lit (.pointer none), .lit (.pointer none), .lit (.string ⟨#[]⟩)]⟩),
  (164, ⟨1, 8, .fn, [.lit .nilFunc]⟩),
  (165, ⟨1, 4, .int .u32, [.lit (.int .u32 0)]⟩),
  (166, ⟨1, 1, .int .u8, [.lit (.int .u8 0)]⟩),
  (167, ⟨1, 1, .int .u8, [.lit (.int .u8 0)]⟩),
  (168, ⟨1, 8, .fn, [.lit .nilFunc]⟩),
  (169, ⟨1, 8, .ptr, [.lit (.pointer none)]⟩),
  (170, ⟨1, 4, .int .i32, [.lit (.int .i32 0)]⟩),
  (171, ⟨1, 4, .int .i32, [.lit (.int .i32 0)]⟩),
  (172, ⟨11, 48, .struct [(0, 12), (1, 12), (2, 165), (3, 166), (4, 5), (5, 5), (6, 167), (7, 168), (8, 169), (9, 170), (10, 171)], [.lit (.int .u64 0), .lit (.int .u64 0), .lit (.int .u32 0), .lit (.int .u8 0), .lit (.int .u8 0), .lit (.int .u8 0), .lit (.int .u8 0), .lit .nilFunc, .lit (.pointer none), .lit (.int .i32 0), .lit (.int .i32 0)]⟩),
  (173, ⟨11, 48, .struct [(0, 12), (1, 12), (2, 165), (3, 166), (4, 5), (5, 5), (6, 167), (7, 168), (8, 169), (9, 170), (10, 171)], [.lit (.int .u64 0), .lit (.int .u64 0), .lit (.int .u32 0), .lit (.int .u8 0), .lit (.int .u8 0), .lit (.int .u8 0), .lit (.int .u8 0), .lit .nilFunc, .lit (.pointer none), .lit (.int .i32 0), .lit (.int .i32 0)]⟩)]
def tab : Tab := fun t => lk t tabL
theorem tabL_ok : (tabL.all fun p => tiB Try.prog p.1 p.2) = true := by kernel_rfl
theorem tabOK : TabOK Try.prog tab := tab_ok tabL_ok
theorem mixed : Try.prog.follows .mixedOrders = true := by kernel_rfl
theorem t1 : tab 1 = some ⟨1, 8, .fn, [.lit .nilFunc]⟩ := by kernel_rfl
theorem t2 : tab 2 = some ⟨1, 8, .int .i64, [.lit (.int .i64 0)]⟩ := by kernel_rfl
theorem t3 : tab 3 = some ⟨1, 8, .int .i64, [.lit (.int .i64 0)]⟩ := by kernel_rfl
theorem t4 : tab 4 = some ⟨1, 1, .bool, [.lit (.bool false)]⟩ := by kernel_rfl
theorem t5 : tab 5 = some ⟨1, 1, .int .u8, [.lit (.int .u8 0)]⟩ := by kernel_rfl
theorem t6 : tab 6 = some ⟨1, 1, .int .u8, [.lit (.int .u8 0)]⟩ := by kernel_rfl
theorem t7 : tab 7 = some ⟨4, 24, .struct [(0, 2), (1, 3), (2, 4), (3, 6)], [.lit (.int .i64 0), .lit (.int .i64 0), .lit (.bool false), .lit (.int .u8 0)]⟩ := by kernel_rfl
theorem t8 : tab 8 = some ⟨4, 24, .struct [(0, 2), (1, 3), (2, 4), (3, 6)], [.lit (.int .i64 0), .lit (.int .i64 0), .lit (.bool false), .lit (.int .u8 0)]⟩ := by kernel_rfl
theorem t9 : tab 9 = some ⟨1, 16, .str, [.lit (.string ⟨#[]⟩)]⟩ := by kernel_rfl
theorem t10 : tab 10 = some ⟨1, 16, .str, [.lit (.string ⟨#[]⟩)]⟩ := by kernel_rfl
theorem t11 : tab 11 = some ⟨1, 16, .str, [.lit (.string ⟨#[]⟩)]⟩ := by kernel_rfl
theorem t12 : tab 12 = some ⟨1, 8, .int .u64, [.lit (.int .u64 0)]⟩ := by kernel_rfl
theorem t13 : tab 13 = some ⟨2, 24, .struct [(0, 9), (1, 12)], [.lit (.string ⟨#[]⟩), .lit (.int .u64 0)]⟩ := by kernel_rfl
theorem t14 : tab 14 = some ⟨2, 24, .struct [(0, 9), (1, 12)], [.lit (.string ⟨#[]⟩), .lit (.int .u64 0)]⟩ := by kernel_rfl
theorem t15 : tab 15 = some ⟨1, 8, .ptr, [.lit (.pointer none)]⟩ := by kernel_rfl
theorem t16 : tab 16 = some ⟨1, 8, .ptr, [.lit (.pointer none)]⟩ := by kernel_rfl
theorem t17 : tab 17 = some ⟨1, 8, .ptr, [.lit (.pointer none)]⟩ := by kernel_rfl
theorem t18 : tab 18 = some ⟨1, 8, .struct [(0, 17)], [.lit (.pointer none)]⟩ := by kernel_rfl
theorem t19 : tab 19 = some ⟨1, 8, .struct [(0, 17)], [.lit (.pointer none)]⟩ := by kernel_rfl
theorem t21 : tab 21 = some ⟨1, 4, .int .i32, [.lit (.int .i32 0)]⟩ := by kernel_rfl
theorem t22 : tab 22 = some ⟨1, 24, .slice 24, [.own 0 none 2 []]⟩ := by kernel_rfl
theorem t23 : tab 23 = some ⟨2, 32, .struct [(0, 3), (1, 22)], [.lit (.int .i64 0), .own 0 none 2 []]⟩ := by kernel_rfl
theorem t24 : tab 24 = some ⟨2, 32, .struct [(0, 3), (1, 22)], [.lit (.int .i64 0), .own 0 none 2 []]⟩ := by kernel_rfl
theorem t25 : tab 25 = some ⟨1, 24, .slice 27, [.own 0 none 6 []]⟩ := by kernel_rfl
theorem t26 : tab 26 = some ⟨6, 88, .struct [(0, 3), (1, 9), (2, 3), (3, 24), (5, 25)], [.lit (.int .i64 0), .lit (.string ⟨#[]⟩), .lit (.int .i64 0), .lit (.int .i64 0), .own 0 none 2 [], .own 0 none 6 []]⟩ := by kernel_rfl
theorem t27 : tab 27 = some ⟨6, 88, .struct [(0, 3), (1, 9), (2, 3), (3, 24), (5, 25)], [.lit (.int .i64 0), .lit (.string ⟨#[]⟩), .lit (.int .i64 0), .lit (.int .i64 0), .own 0 none 2 [], .own 0 none 6 []]⟩ := by kernel_rfl
theorem t28 : tab 28 = some ⟨1, 8, .fn, [.lit .nilFunc]⟩ := by kernel_rfl
theorem t29 : tab 29 = some ⟨1, 8, .fn, [.lit .nilFunc]⟩ := by kernel_rfl
theorem t30 : tab 30 = some ⟨1, 24, .slice 32, [.own 0 none 2 []]⟩ := by kernel_rfl
theorem t31 : tab 31 = some ⟨2, 32, .struct [(0, 3), (1, 30)], [.lit (.int .i64 0), .own 0 none 2 []]⟩ := by kernel_rfl
theorem t32 : tab 32 = some ⟨2, 32, .struct [(0, 3), (1, 30)], [.lit (.int .i64 0), .own 0 none 2 []]⟩ := by kernel_rfl
theorem t33 : tab 33 = some ⟨1, 24, .slice 35, [.own 0 none 6 []]⟩ := by kernel_rfl
theorem t34 : tab 34 = some ⟨6, 88, .struct [(0, 3), (1, 9), (2, 3), (3, 32), (5, 33)], [.lit (.int .i64 0), .lit (.string ⟨#[]⟩), .lit (.int .i64 0), .lit (.int .i64 0), .own 0 none 2 [], .own 0 none 6 []]⟩ := by kernel_rfl
theorem t35 : tab 35 = some ⟨6, 88, .struct [(0, 3), (1, 9), (2, 3), (3, 32), (5, 33)], [.lit (.int .i64 0), .lit (.string ⟨#[]⟩), .lit (.int .i64 0), .lit (.int .i64 0), .own 0 none 2 [], .own 0 none 6 []]⟩ := by kernel_rfl
theorem t36 : tab 36 = some ⟨1, 8, .fn, [.lit .nilFunc]⟩ := by kernel_rfl
theorem t37 : tab 37 = some ⟨1, 8, .fn, [.lit .nilFunc]⟩ := by kernel_rfl
theorem t38 : tab 38 = some ⟨1, 24, .slice 41, [.own 0 none 9 []]⟩ := by kernel_rfl
theorem t39 : tab 39 = some ⟨1, 24, .slice 121, [.own 0 none 10 []]⟩ := by kernel_rfl
theorem t40 : tab 40 = some ⟨9, 144, .struct [(0, 3), (1, 9), (2, 3), (3, 24), (5, 24), (7, 38), (8, 39)], [.lit (.int .i64 0), .lit (.string ⟨#[]⟩), .lit (.int .i64 0), .lit (.int .i64 0), .own 0 none 2 [], .lit (.int .i64 0), .own 0 none 2 [], .own 0 none 9 [], .own 0 none 10 []]⟩ := by kernel_rfl
theorem t41 : tab 41 = some ⟨9, 144, .struct [(0, 3), (1, 9), (2, 3), (3, 24), (5, 24), (7, 38), (8, 39)], [.lit (.int .i64 0), .lit (.string ⟨#[]⟩), .lit (.int .i64 0), .lit (.int .i64 0), .own 0 none 2 [], .lit (.int .i64 0), .own 0 none 2 [], .own 0 none 9 [], .own 0 none 10 []]⟩ := by kernel_rfl
theorem t42 : tab 42 = some ⟨1, 8, .fn, [.lit .nilFunc]⟩ := by kernel_rfl
theorem t43 : tab 43 = some ⟨1, 8, .fn, [.lit .nilFunc]⟩ := by kernel_rfl
theorem t44 : tab 44 = some ⟨1, 24, .slice 47, [.own 0 none 9 []]⟩ := by kernel_rfl
theorem t45 : tab 45 = some ⟨1, 24, .slice 104, [.own 0 none 10 []]⟩ := by kernel_rfl
theorem t46 : tab 46 = some ⟨9, 144, .struct [(0, 3), (1, 9), (2, 3), (3, 32), (5, 32), (7, 44), (8, 45)], [.lit (.int .i64 0), .lit (.string ⟨#[]⟩), .lit (.int .i64 0), .lit (.int .i64 0), .own 0 none 2 [], .lit (.int .i64 0), .own 0 none 2 [], .own 0 none 9 [], .own 0 none 10 []]⟩ := by kernel_rfl
theorem t47 : tab 47 = some ⟨9, 144, .struct [(0, 3), (1, 9), (2, 3), (3, 32), (5, 32), (7, 44), (8, 45)], [.lit (.int .i64 0), .lit (.string ⟨#[]⟩), .lit (.int .i64 0), .lit (.int .i64 0), .own 0 none 2 [], .lit (.int .i64 0), .own 0 none 2 [], .own 0 none 9 [], .own 0 none 10 []]⟩ := by kernel_rfl
theorem t48 : tab 48 = some ⟨1, 8, .fn, [.lit .nilFunc]⟩ := by kernel_rfl
theorem t49 : tab 49 = some ⟨1, 8, .fn, [.lit .nilFunc]⟩ := by kernel_rfl
theorem t50 : tab 50 = some ⟨1, 8, .fn, [.lit .nilFunc]⟩ := by kernel_rfl
theorem t51 : tab 51 = some ⟨1, 24, .slice 3, [.own 0 none 1 []]⟩ := by kernel_rfl
theorem t52 : tab 52 = some ⟨7, 112, .struct [(0, 27), (6, 51)], [.lit (.int .i64 0), .lit (.string ⟨#[]⟩), .lit (.int .i64 0), .lit (.int .i64 0), .own 0 none 2 [], .own 0 none 6 [], .own 0 none 1 []]⟩ := by kernel_rfl
theorem t53 : tab 53 = some ⟨7, 112, .struct [(0, 27), (6, 51)], [.lit (.int .i64 0), .lit (.string ⟨#[]⟩), .lit (.int .i64 0), .lit (.int .i64 0), .own 0 none 2 [], .own 0 none 6 [], .own 0 none 1 []]⟩ := by kernel_rfl
theorem t54 : tab 54 = some ⟨1, 8, .fn, [.lit .nilFunc]⟩ := by kernel_rfl
theorem t55 : tab 55 = some ⟨1, 8, .fn, [.lit .nilFunc]⟩ := by kernel_rfl
theorem t56 : tab 56 = some ⟨7, 112, .struct [(0, 35), (6, 51)], [.lit (.int .i64 0), .lit (.string ⟨#[]⟩), .lit (.int .i64 0), .lit (.int .i64 0), .own 0 none 2 [], .own 0 none 6 [], .own 0 none 1 []]⟩ := by kernel_rfl
theorem t57 : tab 57 = some ⟨7, 112, .struct [(0, 35), (6, 51)], [.lit (.int .i64 0), .lit (.string ⟨#[]⟩), .lit (.int .i64 0), .lit (.int .i64 0), .own 0 none 2 [], .own 0 none 6 [], .own 0 none 1 []]⟩ := by kernel_rfl
theorem t58 : tab 58 = some ⟨1, 8, .fn, [.lit .nilFunc]⟩ := by kernel_rfl
theorem t59 : tab 59 = some ⟨1, 8, .fn, [.lit .nilFunc]⟩ := by kernel_rfl
theorem t60 : tab 60 = some ⟨1, 8, .fn, [.lit .nilFunc]⟩ := by kernel_rfl
theorem t61 : tab 61 = some ⟨5, 64, .struct [(0, 3), (1, 9), (2, 3), (3, 24)], [.lit (.int .i64 0), .lit (.string ⟨#[]⟩), .lit (.int .i64 0), .lit (.int .i64 0), .own 0 none 2 []]⟩ := by kernel_rfl
theorem t62 : tab 62 = some ⟨5, 64, .struct [(0, 3), (1, 9), (2, 3), (3, 24)], [.lit (.int .i64 0), .lit (.string ⟨#[]⟩), .lit (.int .i64 0), .lit (.int .i64 0), .own 0 none 2 []]⟩ := by kernel_rfl
theorem t63 : tab 63 = some ⟨1, 8, .fn, [.lit .nilFunc]⟩ := by kernel_rfl
theorem t64 : tab 64 = some ⟨1, 8, .fn, [.lit .nilFunc]⟩ := by kernel_rfl
theorem t65 : tab 65 = some ⟨5, 64, .struct [(0, 3), (1, 9), (2, 3), (3, 32)], [.lit (.int .i64 0), .lit (.string ⟨#[]⟩), .lit (.int .i64 0), .lit (.int .i64 0), .own 0 none 2 []]⟩ := by kernel_rfl
theorem t66 : tab 66 = some ⟨5, 64, .struct [(0, 3), (1, 9), (2, 3), (3, 32)], [.lit (.int .i64 0), .lit (.string ⟨#[]⟩), .lit (.int .i64 0), .lit (.int .i64 0), .own 0 none 2 []]⟩ := by kernel_rfl
theorem t67 : tab 67 = some ⟨1, 8, .fn, [.lit .nilFunc]⟩ := by kernel_rfl
theorem t68 : tab 68 = some ⟨1, 8, .fn, [.lit .nilFunc]⟩ := by kernel_rfl
theorem t69 : tab 69 = some ⟨1, 8, .fn, [.lit .nilFunc]⟩ := by kernel_rfl
theorem t70 : tab 70 = some ⟨1, 8, .fn, [.lit .nilFunc]⟩ := by kernel_rfl
theorem t71 : tab 71 = some ⟨1, 8, .fn, [.lit .nilFunc]⟩ := by kernel_rfl
theorem t72 : tab 72 = some ⟨1, 8, .fn, [.lit .nilFunc]⟩ := by kernel_rfl
theorem t73 : tab 73 = some ⟨1, 8, .fn, [.lit .nilFunc]⟩ := by kernel_rfl
theorem t74 : tab 74 = some ⟨3, 40, .struct [(0, 3), (1, 4), (2, 39)], [.lit (.int .i64 0), .lit (.bool false), .own 0 none 10 []]⟩ := by kernel_rfl
theorem t75 : tab 75 = some ⟨3, 40, .struct [(0, 3), (1, 4), (2, 39)], [.lit (.int .i64 0), .lit (.bool false), .own 0 none 10 []]⟩ := by kernel_rfl
theorem t76 : tab 76 = some ⟨1, 8, .fn, [.lit .nilFunc]⟩ := by kernel_rfl
theorem t77 : tab 77 = some ⟨1, 8, .fn, [.lit .nilFunc]⟩ := by kernel_rfl
theorem t78 : tab 78 = some ⟨3, 40, .struct [(0, 3), (1, 4), (2, 45)], [.lit (.int .i64 0), .lit (.bool false), .own 0 none 10 []]⟩ := by kernel_rfl
theorem t79 : tab 79 = some ⟨3, 40, .struct [(0, 3), (1, 4), (2, 45)], [.lit (.int .i64 0), .lit (.bool false), .own 0 none 10 []]⟩ := by kernel_rfl
theorem t80 : tab 80 = some ⟨1, 8, .fn, [.lit .nilFunc]⟩ := by kernel_rfl
theorem t81 : tab 81 = some ⟨1, 8, .fn, [.lit .nilFunc]⟩ := by kernel_rfl
theorem t82 : tab 82 = some ⟨1, 24, .slice 53, [.own 0 none 7 []]⟩ := by kernel_rfl
theorem t83 : tab 83 = some ⟨9, 160, .struct [(0, 82), (1, 53), (8, 82)], [.own 0 none 7 [], .lit (.int .i64 0), .lit (.string ⟨#[]⟩), .lit (.int .i64 0), .lit (.int .i64 0), .own 0 none 2 [], .own 0 none 6 [], .own 0 none 1 [], .own 0 none 7 []]⟩ := by kernel_rfl
theorem t84 : tab 84 = some ⟨9, 160, .struct [(0, 82), (1, 53), (8, 82)], [.own 0 none 7 [], .lit (.int .i64 0), .lit (.string ⟨#[]⟩), .lit (.int .i64 0), .lit (.int .i64 0), .own 0 none 2 [], .own 0 none 6 [], .own 0 none 1 [], .own 0 none 7 []]⟩ := by kernel_rfl
theorem t85 : tab 85 = some ⟨1, 8, .fn, [.lit .nilFunc]⟩ := by kernel_rfl
theorem t86 : tab 86 = some ⟨1, 8, .fn, [.lit .nilFunc]⟩ := by kernel_rfl
theorem t87 : tab 87 = some ⟨1, 24, .slice 57, [.own 0 none 7 []]⟩ := by kernel_rfl
theorem t88 : tab 88 = some ⟨9, 160, .struct [(0, 87), (1, 57), (8, 87)], [.own 0 none 7 [], .lit (.int .i64 0), .lit (.string ⟨#[]⟩), .lit (.int .i64 0), .lit (.int .i64 0), .own 0 none 2 [], .own 0 none 6 [], .own 0 none 1 [], .own 0 none 7 []]⟩ := by kernel_rfl
theorem t89 : tab 89 = some ⟨9, 160, .struct [(0, 87), (1, 57), (8, 87)], [.own 0 none 7 [], .lit (.int .i64 0), .lit (.string ⟨#[]⟩), .lit (.int .i64 0), .lit (.int .i64 0), .own 0 none 2 [], .own 0 none 6 [], .own 0 none 1 [], .own 0 none 7 []]⟩ := by kernel_rfl
theorem t90 : tab 90 = some ⟨1, 8, .fn, [.lit .nilFunc]⟩ := by kernel_rfl
theorem t91 : tab 91 = some ⟨1, 8, .fn, [.lit .nilFunc]⟩ := by kernel_rfl
theorem t92 : tab 92 = some ⟨1, 8, .fn, [.lit .nilFunc]⟩ := by kernel_rfl
theorem t93 : tab 93 = some ⟨1, 8, .fn, [.lit .nilFunc]⟩ := by kernel_rfl
theorem t94 : tab 94 = some ⟨1, 8, .fn, [.lit .nilFunc]⟩ := by kernel_rfl
theorem t95 : tab 95 = some ⟨1, 8, .fn, [.lit .nilFunc]⟩ := by kernel_rfl
theorem t96 : tab 96 = some ⟨1, 8, .fn, [.lit .nilFunc]⟩ := by kernel_rfl
theorem t97 : tab 97 = some ⟨1, 8, .fn, [.lit .nilFunc]⟩ := by kernel_rfl
theorem t98 : tab 98 = some ⟨1, 8, .fn, [.lit .nilFunc]⟩ := by kernel_rfl
theorem t99 : tab 99 = some ⟨1, 8, .fn, [.lit .nilFunc]⟩ := by kernel_rfl
theorem t100 : tab 100 = some ⟨1, 8, .fn, [.lit .nilFunc]⟩ := by kernel_rfl
theorem t101 : tab 101 = some ⟨1, 8, .fn, [.lit .nilFunc]⟩ := by kernel_rfl
theorem t102 : tab 102 = some ⟨1, 8, .fn, [.lit .nilFunc]⟩ := by kernel_rfl
theorem t103 : tab 103 = some ⟨10, 160, .struct [(0, 9), (1, 47)], [.lit (.string ⟨#[]⟩), .lit (.int .i64 0), .lit (.string ⟨#[]⟩), .lit (.int .i64 0), .lit (.int .i64 0), .own 0 none 2 [], .lit (.int .i64 0), .own 0 none 2 [], .own 0 none 9 [], .own 0 none 10 []]⟩ := by kernel_rfl
theorem t104 : tab 104 = some ⟨10, 160, .struct [(0, 9), (1, 47)], [.lit (.string ⟨#[]⟩), .lit (.int .i64 0), .lit (.string ⟨#[]⟩), .lit (.int .i64 0), .lit (.int .i64 0), .own 0 none 2 [], .lit (.int .i64 0), .own 0 none 2 [], .own 0 none 9 [], .own 0 none 10 []]⟩ := by kernel_rfl
theorem t105 : tab 105 = some ⟨1, 8, .fn, [.lit .nilFunc]⟩ := by kernel_rfl
theorem t106 : tab 106 = some ⟨1, 8, .fn, [.lit .nilFunc]⟩ := by kernel_rfl
theorem t107 : tab 107 = some ⟨1, 8, .fn, [.lit .nilFunc]⟩ := by kernel_rfl
theorem t108 : tab 108 = some ⟨1, 8, .fn, [.lit .nilFunc]⟩ := by kernel_rfl
theorem t109 : tab 109 = some ⟨1, 8, .fn, [.lit .nilFunc]⟩ := by kernel_rfl
theorem t110 : tab 110 = some ⟨1, 8, .fn, [.lit .nilFunc]⟩ := by kernel_rfl
theorem t111 : tab 111 = some ⟨1, 8, .fn, [.lit .nilFunc]⟩ := by kernel_rfl
theorem t112 : tab 112 = some ⟨1, 8, .fn, [.lit .nilFunc]⟩ := by kernel_rfl
theorem t113 : tab 113 = some ⟨1, 8, .fn, [.lit .nilFunc]⟩ := by kernel_rfl
theorem t114 : tab 114 = some ⟨1, 8, .fn, [.lit .nilFunc]⟩ := by kernel_rfl
theorem t115 : tab 115 = some ⟨1, 8, .fn, [.lit .nilFunc]⟩ := by kernel_rfl
theorem t116 : tab 116 = some ⟨1, 8, .fn, [.lit .nilFunc]⟩ := by kernel_rfl
theorem t117 : tab 117 = some ⟨1, 8, .fn, [.lit .nilFunc]⟩ := by kernel_rfl
theorem t118 : tab 118 = some ⟨1, 8, .fn, [.lit .nilFunc]⟩ := by kernel_rfl
theorem t119 : tab 119 = some ⟨1, 8, .fn, [.lit .nilFunc]⟩ := by kernel_rfl
theorem t120 : tab 120 = some ⟨10, 160, .struct [(0, 9), (1, 41)], [.lit (.string ⟨#[]⟩), .lit (.int .i64 0), .lit (.string ⟨#[]⟩), .lit (.int .i64 0), .lit (.int .i64 0), .own 0 none 2 [], .lit (.int .i64 0), .own 0 none 2 [], .own 0 none 9 [], .own 0 none 10 []]⟩ := by kernel_rfl
theorem t121 : tab 121 = some ⟨10, 160, .struct [(0, 9), (1, 41)], [.lit (.string ⟨#[]⟩), .lit (.int .i64 0), .lit (.string ⟨#[]⟩), .lit (.int .i64 0), .lit (.int .i64 0), .own 0 none 2 [], .lit (.int .i64 0), .own 0 none 2 [], .own 0 none 9 [], .own 0 none 10 []]⟩ := by kernel_rfl
theorem t122 : tab 122 = some ⟨1, 8, .fn, [.lit .nilFunc]⟩ := by kernel_rfl
theorem t123 : tab 123 = some ⟨1, 8, .fn, [.lit .nilFunc]⟩ := by kernel_rfl
theorem t124 : tab 124 = some ⟨1, 8, .fn, [.lit .nilFunc]⟩ := by kernel_rfl
theorem t125 : tab 125 = some ⟨1, 8, .fn, [.lit .nilFunc]⟩ := by kernel_rfl
theorem t126 : tab 126 = some ⟨1, 8, .fn, [.lit .nilFunc]⟩ := by kernel_rfl
theorem t127 : tab 127 = some ⟨1, 8, .fn, [.lit .nilFunc]⟩ := by kernel_rfl
theorem t128 : tab 128 = some ⟨1, 8, .fn, [.lit .nilFunc]⟩ := by kernel_rfl
theorem t130 : tab 130 = some ⟨1, 8, .fn, [.lit .nilFunc]⟩ := by kernel_rfl
theorem t131 : tab 131 = some ⟨1, 8, .fn, [.lit .nilFunc]⟩ := by kernel_rfl
theorem t132 : tab 132 = some ⟨1, 8, .fn, [.lit .nilFunc]⟩ := by kernel_rfl
theorem t134 : tab 134 = some ⟨1, 8, .fn, [.lit .nilFunc]⟩ := by kernel_rfl
theorem t135 : tab 135 = some ⟨1, 8, .fn, [.lit .nilFunc]⟩ := by kernel_rfl
theorem t136 : tab 136 = some ⟨1, 8, .fn, [.lit .nilFunc]⟩ := by kernel_rfl
theorem t137 : tab 137 = some ⟨1, 8, .fn, [.lit .nilFunc]⟩ := by kernel_rfl
theorem t138 : tab 138 = some ⟨1, 8, .ptr, [.lit (.pointer none)]⟩ := by kernel_rfl
theorem t139 : tab 139 = some ⟨1, 8, .fn, [.lit .nilFunc]⟩ := by kernel_rfl
theorem t140 : tab 140 = some ⟨1, 8, .fn, [.lit .nilFunc]⟩ := by kernel_rfl
theorem t141 : tab 141 = some ⟨1, 8, .fn, [.lit .nilFunc]⟩ := by kernel_rfl
theorem t142 : tab 142 = some ⟨1, 8, .fn, [.lit .nilFunc]⟩ := by kernel_rfl
theorem t143 : tab 143 = some ⟨1, 8, .fn, [.lit .nilFunc]⟩ := by kernel_rfl
theorem t144 : tab 144 = some ⟨1, 24, .slice 9, [.own 0 none 1 []]⟩ := by kernel_rfl
theorem t145 : tab 145 = some ⟨1, 8, .fn, [.lit .nilFunc]⟩ := by kernel_rfl
theorem t146 : tab 146 = some ⟨1, 8, .fn, [.lit .nilFunc]⟩ := by kernel_rfl
theorem t147 : tab 147 = some ⟨1, 8, .fn, [.lit .nilFunc]⟩ := by kernel_rfl
theorem t148 : tab 148 = some ⟨1, 8, .fn, [.lit .nilFunc]⟩ := by kernel_rfl
theorem t149 : tab 149 = some ⟨1, 8, .fn, [.lit .nilFunc]⟩ := by kernel_rfl
theorem t150 : tab 150 = some ⟨1, 8, .fn, [.lit .nilFunc]⟩ := by kernel_rfl
theorem t151 : tab 151 = some ⟨1, 8, .fn, [.lit .nilFunc]⟩ := by kernel_rfl
theorem t152 : tab 152 = some ⟨1, 8, .fn, [.lit .nilFunc]⟩ := by kernel_rfl
theorem t153 : tab 153 = some ⟨1, 8, .fn, [.lit .nilFunc]⟩ := by kernel_rfl
theorem t154 : tab 154 = some ⟨1, 8, .fn, [.lit .nilFunc]⟩ := by kernel_rfl
theorem t155 : tab 155 = some ⟨1, 8, .fn, [.lit .nilFunc]⟩ := by kernel_rfl
theorem t156 : tab 156 = some ⟨1, 8, .fn, [.lit .nilFunc]⟩ := by kernel_rfl
theorem t157 : tab 157 = some ⟨1, 8, .fn, [.lit .nilFunc]⟩ := by kernel_rfl
theorem t158 : tab 158 = some ⟨1, 8, .fn, [.lit .nilFunc]⟩ := by kernel_rfl
theorem t159 : tab 159 = some ⟨4, 40, .struct [(0, 17), (1, 17), (2, 17), (3, 9)], [.lit (.pointer none), .lit (.pointer none), .lit (.pointer none), .lit (.string ⟨#[]⟩)]⟩ := by kernel_rfl
theorem t160 : tab 160 = some ⟨4, 40, .struct [(0, 17), (1, 17), (2, 17), (3, 9)], [.lit (.pointer none), .lit (.pointer none), .lit (.pointer none), .lit (.string ⟨#[]⟩)]⟩ := by kernel_rfl
theorem t164 : tab 164 = some ⟨1, 8, .fn, [.lit .nilFunc]⟩ := by kernel_rfl
theorem t165 : tab 165 = some ⟨1, 4, .int .u32, [.lit (.int .u32 0)]⟩ := by kernel_rfl
theorem t166 : tab 166 = some ⟨1, 1, .int .u8, [.lit (.int .u8 0)]⟩ := by kernel_rfl
theorem t167 : tab 167 = some ⟨1, 1, .int .u8, [.lit (.int .u8 0)]⟩ := by kernel_rfl
theorem t168 : tab 168 = some ⟨1, 8, .fn, [.lit .nilFunc]⟩ := by kernel_rfl
theorem t169 : tab 169 = some ⟨1, 8, .ptr, [.lit (.pointer none)]⟩ := by kernel_rfl
theorem t170 : tab 170 = some ⟨1, 4, .int .i32, [.lit (.int .i32 0)]⟩ := by kernel_rfl
theorem t171 : tab 171 = some ⟨1, 4, .int .i32, [.lit (.int .i32 0)]⟩ := by kernel_rfl
theorem t172 : tab 172 = some ⟨11, 48, .struct [(0, 12), (1, 12), (2, 165), (3, 166), (4, 5), (5, 5), (6, 167), (7, 168), (8, 169), (9, 170), (10, 171)], [.lit (.int .u64 0), .lit (.int .u64 0), .lit (.int .u32 0), .lit (.int .u8 0), .lit (.int .u8 0), .lit (.int .u8 0), .lit (.int .u8 0), .lit .nilFunc, .lit (.pointer none), .lit (.int .i32 0), .lit (.int .i32 0)]⟩ := by kernel_rfl
theorem t173 : tab 173 = some ⟨11, 48, .struct [(0, 12), (1, 12), (2, 165), (3, 166), (4, 5), (5, 5), (6, 167), (7, 168), (8, 169), (9, 170), (10, 171)], [.lit (.int .u64 0), .lit (.int .u64 0), .lit (.int .u32 0), .lit (.int .u8 0), .lit (.int .u8 0), .lit (.int .u8 0), .lit (.int .u8 0), .lit .nilFunc, .lit (.pointer none), .lit (.int .i32 0), .lit (.int .i32 0)]⟩ := by kernel_rfl
/-- The program whose functions are these. -/
structure IsP (P : Go.Program) : Prop where
  tab : TabOK P tab
  mixed : P.follows .mixedOrders = true
  f3 : P.funcs[3]? = some Try.f3
  f4 : P.funcs[4]? = some Try.f4
  f5 : P.funcs[5]? = some Try.f5
  f6 : P.funcs[6]? = some Try.f6
  f7 : P.funcs[7]? = some Try.f7
  f8 : P.funcs[8]? = some Try.f8
  f9 : P.funcs[9]? = some Try.f9
  f10 : P.funcs[10]? = some Try.f10
  f11 : P.funcs[11]? = some Try.f11
  f12 : P.funcs[12]? = some Try.f12
  f13 : P.funcs[13]? = some Try.f13
  f14 : P.funcs[14]? = some Try.f14
  f15 : P.funcs[15]? = some Try.f15
  f16 : P.funcs[16]? = some Try.f16
  f17 : P.funcs[17]? = some Try.f17
  f18 : P.funcs[18]? = some Try.f18
  f19 : P.funcs[19]? = some Try.f19
  f20 : P.funcs[20]? = some Try.f20
  f21 : P.funcs[21]? = some Try.f21
  f22 : P.funcs[22]? = some Try.f22
  f23 : P.funcs[23]? = some Try.f23
  f24 : P.funcs[24]? = some Try.f24
  f25 : P.funcs[25]? = some Try.f25
  f26 : P.funcs[26]? = some Try.f26
  f27 : P.funcs[27]? = some Try.f27
  f28 : P.funcs[28]? = some Try.f28
  f29 : P.funcs[29]? = some Try.f29
  f30 : P.funcs[30]? = some Try.f30
  f31 : P.funcs[31]? = some Try.f31
  f32 : P.funcs[32]? = some Try.f32
  f33 : P.funcs[33]? = some Try.f33
  f34 : P.funcs[34]? = some Try.f34
  f35 : P.funcs[35]? = some Try.f35
  f36 : P.funcs[36]? = some Try.f36
  f37 : P.funcs[37]? = some Try.f37
  f38 : P.funcs[38]? = some Try.f38
  f39 : P.funcs[39]? = some Try.f39
  f40 : P.funcs[40]? = some Try.f40
  f41 : P.funcs[41]? = some Try.f41
  f42 : P.funcs[42]? = some Try.f42
  f43 : P.funcs[43]? = some Try.f43
  f44 : P.funcs[44]? = some Try.f44
  f45 : P.funcs[45]? = some Try.f45
  f46 : P.funcs[46]? = some Try.f46
  f47 : P.funcs[47]? = some Try.f47
  f48 : P.funcs[48]? = some Try.f48
  f49 : P.funcs[49]? = some Try.f49
  f50 : P.funcs[50]? = some Try.f50
  f51 : P.funcs[51]? = some Try.f51
  f52 : P.funcs[52]? = some Try.f52
  f53 : P.funcs[53]? = some Try.f53
  f54 : P.funcs[54]? = some Try.f54
  f55 : P.funcs[55]? = some Try.f55
  f56 : P.funcs[56]? = some Try.f56
  f57 : P.funcs[57]? = some Try.f57
  f58 : P.funcs[58]? = some Try.f58
  f59 : P.funcs[59]? = some Try.f59
  f60 : P.funcs[60]? = some Try.f60
  f61 : P.funcs[61]? = some Try.f61
  f62 : P.funcs[62]? = some Try.f62
  f63 : P.funcs[63]? = some Try.f63
  f64 : P.funcs[64]? = some Try.f64
  f65 : P.funcs[65]? = some Try.f65
  f66 : P.funcs[66]? = some Try.f66
  f67 : P.funcs[67]? = some Try.f67
  f68 : P.funcs[68]? = some Try.f68
  f69 : P.funcs[69]? = some Try.f69
  f70 : P.funcs[70]? = some Try.f70
  f71 : P.funcs[71]? = some Try.f71
  f72 : P.funcs[72]? = some Try.f72
  f73 : P.funcs[73]? = some Try.f73
  f74 : P.funcs[74]? = some Try.f74
  f75 : P.funcs[75]? = some Try.f75
  f76 : P.funcs[76]? = some Try.f76
  f77 : P.funcs[77]? = some Try.f77
  f78 : P.funcs[78]? = some Try.f78
  f79 : P.funcs[79]? = some Try.f79
  f80 : P.funcs[80]? = some Try.f80
  f81 : P.funcs[81]? = some Try.f81
  f82 : P.funcs[82]? = some Try.f82
  f83 : P.funcs[83]? = some Try.f83
  f84 : P.funcs[84]? = some Try.f84
  f85 : P.funcs[85]? = some Try.f85
  f86 : P.funcs[86]? = some Try.f86
  f87 : P.funcs[87]? = some Try.f87
  f88 : P.funcs[88]? = some Try.f88
  f89 : P.funcs[89]? = some Try.f89
  f90 : P.funcs[90]? = some Try.f90
  f91 : P.funcs[91]? = some Try.f91
  f92 : P.funcs[92]? = some Try.f92
  f93 : P.funcs[93]? = some Try.f93
  f94 : P.funcs[94]? = some Try.f94
  f95 : P.funcs[95]? = some Try.f95
  f96 : P.funcs[96]? = some Try.f96
  f97 : P.funcs[97]? = some Try.f97
  f98 : P.funcs[98]? = some Try.f98
  f99 : P.funcs[99]? = some Try.f99
  f100 : P.funcs[100]? = some Try.f100
  f101 : P.funcs[101]? = some Try.f101
  f102 : P.funcs[102]? = some Try.f102
  f103 : P.funcs[103]? = some Try.f103
  f104 : P.funcs[104]? = some Try.f104
  f105 : P.funcs[105]? = some Try.f105
  f106 : P.funcs[106]? = some Try.f106
  f107 : P.funcs[107]? = some Try.f107
  f108 : P.funcs[108]? = some Try.f108
  f109 : P.funcs[109]? = some Try.f109
  f110 : P.funcs[110]? = some Try.f110
  f111 : P.funcs[111]? = some Try.f111
  f112 : P.funcs[112]? = some Try.f112
  f113 : P.funcs[113]? = some Try.f113
  f114 : P.funcs[114]? = some Try.f114
  f115 : P.funcs[115]? = some Try.f115
  f116 : P.funcs[116]? = some Try.f116
  f117 : P.funcs[117]? = some Try.f117
  f118 : P.funcs[118]? = some Try.f118
  f119 : P.funcs[119]? = some Try.f119
  f120 : P.funcs[120]? = some Try.f120
  f121 : P.funcs[121]? = some Try.f121
  f122 : P.funcs[122]? = some Try.f122
  f123 : P.funcs[123]? = some Try.f123
  f124 : P.funcs[124]? = some Try.f124
  f125 : P.funcs[125]? = some Try.f125
  f126 : P.funcs[126]? = some Try.f126
  f127 : P.funcs[127]? = some Try.f127
  f128 : P.funcs[128]? = some Try.f128
  f129 : P.funcs[129]? = some Try.f129
  f130 : P.funcs[130]? = some Try.f130
  f131 : P.funcs[131]? = some Try.f131
  f132 : P.funcs[132]? = some Try.f132
  f133 : P.funcs[133]? = some Try.f133
  f134 : P.funcs[134]? = some Try.f134
  f135 : P.funcs[135]? = some Try.f135
  f136 : P.funcs[136]? = some Try.f136
  f137 : P.funcs[137]? = some Try.f137
  f138 : P.funcs[138]? = some Try.f138
  f139 : P.funcs[139]? = some Try.f139
  f140 : P.funcs[140]? = some Try.f140
  f141 : P.funcs[141]? = some Try.f141
  f142 : P.funcs[142]? = some Try.f142
  f143 : P.funcs[143]? = some Try.f143
  f144 : P.funcs[144]? = some Try.f144
  f145 : P.funcs[145]? = some Try.f145
  f146 : P.funcs[146]? = some Try.f146
  f147 : P.funcs[147]? = some Try.f147
  f148 : P.funcs[148]? = some Try.f148
  f149 : P.funcs[149]? = some Try.f149
  f150 : P.funcs[150]? = some Try.f150
  f151 : P.funcs[151]? = some Try.f151
  f152 : P.funcs[152]? = some Try.f152
  f153 : P.funcs[153]? = some Try.f153
  f154 : P.funcs[154]? = some Try.f154
  f155 : P.funcs[155]? = some Try.f155
  f156 : P.funcs[156]? = some Try.f156
  f157 : P.funcs[157]? = some Try.f157
  f158 : P.funcs[158]? = some Try.f158
  f159 : P.funcs[159]? = some Try.f159
  f160 : P.funcs[160]? = some Try.f160
  f161 : P.funcs[161]? = some Try.f161
  f162 : P.funcs[162]? = some Try.f162
  f163 : P.funcs[163]? = some Try.f163
  f164 : P.funcs[164]? = some Try.f164
  f165 : P.funcs[165]? = some Try.f165
  f166 : P.funcs[166]? = some Try.f166
  f167 : P.funcs[167]? = some Try.f167
  f168 : P.funcs[168]? = some Try.f168
  f169 : P.funcs[169]? = some Try.f169
  f170 : P.funcs[170]? = some Try.f170
  f171 : P.funcs[171]? = some Try.f171
  f172 : P.funcs[172]? = some Try.f172
  f173 : P.funcs[173]? = some Try.f173
  f174 : P.funcs[174]? = some Try.f174
theorem isP : IsP Try.prog := ⟨tabOK, mixed, Try.func3, Try.func4, Try.func5, Try.func6, Try.func7, Try.func8, Try.func9, Try.func10, Try.func11, Try.func12, Try.func13, Try.func14, Try.func15, Try.func16, Try.func17, Try.func18, Try.func19, Try.func20, Try.func21, Try.func22, Try.func23, Try.func24, Try.func25, Try.func26, Try.func27, Try.func28, Try.func29, Try.func30, Try.func31, Try.func32, Try.func33, Try.func34, Try.func35, Try.func36, Try.func37, Try.func38, Try.func39, Try.func40, Try.func41, Try.func42, Try.func43, Try.func44, Try.func45, Try.func46, Try.func47, Try.func48, Try.func49, Try.func50, Try.func51, Try.func52, Try.func53, Try.func54, Try.func55, Try.func56, Try.func57, Try.func58, Try.func59, Try.func60, Try.func61, Try.func62, Try.func63, Try.func64, Try.func65, Try.func66, Try.func67, Try.func68, Try.func69, Try.func70, Try.func71, Try.func72, Try.func73, Try.func74, Try.func75, Try.func76, Try.func77, Try.func78, Try.func79, Try.func80, Try.func81, Try.func82, Try.func83, Try.func84, Try.func85, Try.func86, Try.func87, Try.func88, Try.func89, Try.func90, Try.func91, Try.func92, Try.func93, Try.func94, Try.func95, Try.func96, Try.func97, Try.func98, Try.func99, Try.func100, Try.func101, Try.func102, Try.func103, Try.func104, Try.func105, Try.func106, Try.func107, Try.func108, Try.func109, Try.func110, Try.func111, Try.func112, Try.func113, Try.func114, Try.func115, Try.func116, Try.func117, Try.func118, Try.func119, Try.func120, Try.func121, Try.func122, Try.func123, Try.func124, Try.func125, Try.func126, Try.func127, Try.func128, Try.func129, Try.func130, Try.func131, Try.func132, Try.func133, Try.func134, Try.func135, Try.func136, Try.func137, Try.func138, Try.func139, Try.func140, Try.func141, Try.func142, Try.func143, Try.func144, Try.func145, Try.func146, Try.func147, Try.func148, Try.func149, Try.func150, Try.func151, Try.func152, Try.func153, Try.func154, Try.func155, Try.func156, Try.func157, Try.func158, Try.func159, Try.func160, Try.func161, Try.func162, Try.func163, Try.func164, Try.func165, Try.func166, Try.func167, Try.func168, Try.func169, Try.func170, Try.func171, Try.func172, Try.func173, Try.func174⟩

end Go.Proofs.Ytbbncbojkkackaa
