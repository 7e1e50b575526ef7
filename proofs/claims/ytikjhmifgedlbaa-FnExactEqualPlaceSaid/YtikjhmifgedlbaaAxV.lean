/- The table of types that the proofs over this translation use, and its check by the kernel. -/
import Derived.Test.YtikjhmifgedlbaaAxU
import Derived.Test.YtikjhmifgedlbaaProg
import Derived.KernelRfl
namespace Go.Proofs.Ytikjhmifgedlbaa
open Go.Ax

def tabL : List (Nat × TI) := [
  (1, ⟨1, 8, .fn, [.lit .nilFunc]⟩),
  (2, ⟨1, 8, .int .i64, [.lit (.int .i64 0)]⟩),
  (3, ⟨1, 8, .int .i64, [.lit (.int .i64 0)]⟩),
  (4, ⟨1, 1, .bool, [.lit (.bool false)]⟩),
  (5, ⟨1, 1, .int .u8, [.lit (.int .u8 0)]⟩),
  (6, ⟨1, 1, .int .u8, [.lit (.int .u8 0)]⟩),
  (7, ⟨4, 24, .struct [(0, 2), (1, 3), (2, 4), (3, 6)], [.lit (.int .i64 0), .lit (.int .i64 0), .lit (.bool false), .lit (.int .u8 0)]⟩),
  (8, ⟨4, 24, .struct [(0, 2), (1, 3), (2, 4), (3, 6)], [.lit (.int .i64 0), .lit (.int .i64 0), .lit (.bool false), .lit (.int .u8 0)]⟩),
  (9, ⟨1, 16, .str, [.lit (.string ⟨#[]⟩)]⟩),
  (10, ⟨1, 16, .str, [.lit (.string ⟨#[]⟩)]⟩),
  (11, ⟨1, 16, .str, [.lit (.string ⟨#[]⟩)]⟩),
  (12, ⟨1, 8, .int .u64, [.lit (.int .u64 0)]⟩),
  (13, ⟨2, 24, .struct [(0, 9), (1, 12)], [.lit (.string ⟨#[]⟩), .lit (.int .u64 0)]⟩),
  (14, ⟨2, 24, .struct [(0, 9), (1, 12)], [.lit (.string ⟨#[]⟩), .lit (.int .u64 0)]⟩),
  (15, ⟨1, 8, .ptr, [.lit (.pointer none)]⟩),
  (16, ⟨1, 8, .ptr, [.lit (.pointer none)]⟩),
  (17, ⟨1, 8, .ptr, [.lit (.pointer none)]⟩),
  (18, ⟨1, 8, .struct [(0, 17)], [.lit (.pointer none)]⟩),
  (19, ⟨1, 8, .struct [(0, 17)], [.lit (.pointer none)]⟩),
  (21, ⟨1, 4, .int .i32, [.lit (.int .i32 0)]⟩),
  (22, ⟨1, 8, .fn, [.lit .nilFunc]⟩),
  (23, ⟨1, 8, .fn, [.lit .nilFunc]⟩),
  (24, ⟨1, 8, .fn, [.lit .nilFunc]⟩),
  (25, ⟨1, 24, .slice 107, [.own 0 none 3 []]⟩),
  (26, ⟨1, 24, .slice 28, [.own 0 none 2 []]⟩),
  (27, ⟨2, 32, .struct [(0, 3), (1, 26)], [.lit (.int .i64 0), .own 0 none 2 []]⟩),
  (28, ⟨2, 32, .struct [(0, 3), (1, 26)], [.lit (.int .i64 0), .own 0 none 2 []]⟩),
  (29, ⟨4, 64, .struct [(0, 25), (1, 4), (2, 28)], [.own 0 none 3 [], .lit (.bool false), .lit (.int .i64 0), .own 0 none 2 []]⟩),
  (30, ⟨4, 64, .struct [(0, 25), (1, 4), (2, 28)], [.own 0 none 3 [], .lit (.bool false), .lit (.int .i64 0), .own 0 none 2 []]⟩),
  (31, ⟨1, 8, .fn, [.lit .nilFunc]⟩),
  (32, ⟨1, 8, .fn, [.lit .nilFunc]⟩),
  (33, ⟨1, 24, .slice 86, [.own 0 none 3 []]⟩),
  (34, ⟨1, 24, .slice 36, [.own 0 none 2 []]⟩),
  (35, ⟨2, 32, .struct [(0, 3), (1, 34)], [.lit (.int .i64 0), .own 0 none 2 []]⟩),
  (36, ⟨2, 32, .struct [(0, 3), (1, 34)], [.lit (.int .i64 0), .own 0 none 2 []]⟩),
  (37, ⟨4, 64, .struct [(0, 33), (1, 4), (2, 36)], [.own 0 none 3 [], .lit (.bool false), .lit (.int .i64 0), .own 0 none 2 []]⟩),
  (38, ⟨4, 64, .struct [(0, 33), (1, 4), (2, 36)], [.own 0 none 3 [], .lit (.bool false), .lit (.int .i64 0), .own 0 none 2 []]⟩),
  (39, ⟨1, 8, .fn, [.lit .nilFunc]⟩),
  (40, ⟨1, 8, .fn, [.lit .nilFunc]⟩),
  (41, ⟨1, 24, .slice 43, [.own 0 none 6 []]⟩),
  (42, ⟨6, 88, .struct [(0, 3), (1, 9), (2, 3), (3, 36), (5, 41)], [.lit (.int .i64 0), .lit (.string ⟨#[]⟩), .lit (.int .i64 0), .lit (.int .i64 0), .own 0 none 2 [], .own 0 none 6 []]⟩),
  (43, ⟨6, 88, .struct [(0, 3), (1, 9), (2, 3), (3, 36), (5, 41)], [.lit (.int .i64 0), .lit (.string ⟨#[]⟩), .lit (.int .i64 0), .lit (.int .i64 0), .own 0 none 2 [], .own 0 none 6 []]⟩),
  (44, ⟨1, 24, .slice 3, [.own 0 none 1 []]⟩),
  (45, ⟨7, 112, .struct [(0, 43), (6, 44)], [.lit (.int .i64 0), .lit (.string ⟨#[]⟩), .lit (.int .i64 0), .lit (.int .i64 0), .own 0 none 2 [], .own 0 none 6 [], .own 0 none 1 []]⟩),
  (46, ⟨7, 112, .struct [(0, 43), (6, 44)], [.lit (.int .i64 0), .lit (.string ⟨#[]⟩), .lit (.int .i64 0), .lit (.int .i64 0), .own 0 none 2 [], .own 0 none 6 [], .own 0 none 1 []]⟩),
  (47, ⟨1, 8, .fn, [.lit .nilFunc]⟩),
  (48, ⟨1, 8, .fn, [.lit .nilFunc]⟩),
  (49, ⟨1, 8, .fn, [.lit .nilFunc]⟩),
  (50, ⟨1, 8, .fn, [.lit .nilFunc]⟩),
  (51, ⟨1, 24, .slice 53, [.own 0 none 6 []]⟩),
  (52, ⟨6, 88, .struct [(0, 3), (1, 9), (2, 3), (3, 28), (5, 51)], [.lit (.int .i64 0), .lit (.string ⟨#[]⟩), .lit (.int .i64 0), .lit (.int .i64 0), .own 0 none 2 [], .own 0 none 6 []]⟩),
  (53, ⟨6, 88, .struct [(0, 3), (1, 9), (2, 3), (3, 28), (5, 51)], [.lit (.int .i64 0), .lit (.string ⟨#[]⟩), .lit (.int .i64 0), .lit (.int .i64 0), .own 0 none 2 [], .own 0 none 6 []]⟩),
  (54, ⟨1, 8, .fn, [.lit .nilFunc]⟩),
  (55, ⟨1, 8, .fn, [.lit .nilFunc]⟩),
  (56, ⟨1, 8, .fn, [.lit .nilFunc]⟩),
  (57, ⟨1, 8, .fn, [.lit .nilFunc]⟩),
  (58, ⟨1, 24, .slice 61, [.own 0 none 9 []]⟩),
  (59, ⟨1, 24, .slice 122, [.own 0 none 10 []]⟩),
  (60, ⟨9, 144, .struct [(0, 3), (1, 9), (2, 3), (3, 28), (5, 28), (7, 58), (8, 59)], [.lit (.int .i64 0), .lit (.string ⟨#[]⟩), .lit (.int .i64 0), .lit (.int .i64 0), .own 0 none 2 [], .lit (.int .i64 0), .own 0 none 2 [], .own 0 none 9 [], .own 0 none 10 []]⟩),
  (61, ⟨9, 144, .struct [(0, 3), (1, 9), (2, 3), (3, 28), (5, 28), (7, 58), (8, 59)], [.lit (.int .i64 0), .lit (.string ⟨#[]⟩), .lit (.int .i64 0), .lit (.int .i64 0), .own 0 none 2 [], .lit (.int .i64 0), .own 0 none 2 [], .own 0 none 9 [], .own 0 none 10 []]⟩),
  (62, ⟨1, 8, .fn, [.lit .nilFunc]⟩),
  (63, ⟨1, 8, .fn, [.lit .nilFunc]⟩),
  (64, ⟨1, 24, .slice 67, [.own 0 none 9 []]⟩),
  (65, ⟨1, 24, .slice 99, [.own 0 none 10 []]⟩),
  (66, ⟨9, 144, .struct [(0, 3), (1, 9), (2, 3), (3, 36), (5, 36), (7, 64), (8, 65)], [.lit (.int .i64 0), .lit (.string ⟨#[]⟩), .lit (.int .i64 0), .lit (.int .i64 0), .own 0 none 2 [], .lit (.int .i64 0), .own 0 none 2 [], .own 0 none 9 [], .own 0 none 10 []]⟩),
  (67, ⟨9, 144, .struct [(0, 3), (1, 9), (2, 3), (3, 36), (5, 36), (7, 64), (8, 65)], [.lit (.int .i64 0), .lit (.string ⟨#[]⟩), .lit (.int .i64 0), .lit (.int .i64 0), .own 0 none 2 [], .lit (.int .i64 0), .own 0 none 2 [], .own 0 none 9 [], .own 0 none 10 []]⟩),
  (68, ⟨1, 8, .fn, [.lit .nilFunc]⟩),
  (69, ⟨1, 8, .fn, [.lit .nilFunc]⟩),
  (70, ⟨1, 8, .fn, [.lit .nilFunc]⟩),
  (71, ⟨7, 112, .struct [(0, 53), (6, 44)], [.lit (.int .i64 0), .lit (.string ⟨#[]⟩), .lit (.int .i64 0), .lit (.int .i64 0), .own 0 none 2 [], .own 0 none 6 [], .own 0 none 1 []]⟩),
  (72, ⟨7, 112, .struct [(0, 53), (6, 44)], [.lit (.int .i64 0), .lit (.string ⟨#[]⟩), .lit (.int .i64 0), .lit (.int .i64 0), .own 0 none 2 [], .own 0 none 6 [], .own 0 none 1 []]⟩),
  (73, ⟨1, 8, .fn, [.lit .nilFunc]⟩),
  (74, ⟨1, 8, .fn, [.lit .nilFunc]⟩),
  (75, ⟨1, 8, .fn, [.lit .nilFunc]⟩),
  (76, ⟨1, 8, .fn, [.lit .nilFunc]⟩),
  (77, ⟨1, 24, .slice 9, [.own 0 none 1 []]⟩),
  (78, ⟨1, 8, .fn, [.lit .nilFunc]⟩),
  (79, ⟨1, 8, .fn, [.lit .nilFunc]⟩),
  (80, ⟨1, 8, .fn, [.lit .nilFunc]⟩),
  (81, ⟨1, 8, .fn, [.lit .nilFunc]⟩),
  (82, ⟨1, 8, .fn, [.lit .nilFunc]⟩),
  (83, ⟨1, 8, .fn, [.lit .nilFunc]⟩),
  (84, ⟨1, 8, .fn, [.lit .nilFunc]⟩),
  (85, ⟨3, 48, .struct [(0, 9), (1, 36)], [.lit (.string ⟨#[]⟩), .lit (.int .i64 0), .own 0 none 2 []]⟩),
  (86, ⟨3, 48, .struct [(0, 9), (1, 36)], [.lit (.string ⟨#[]⟩), .lit (.int .i64 0), .own 0 none 2 []]⟩),
  (87, ⟨1, 8, .fn, [.lit .nilFunc]⟩),
  (88, ⟨1, 8, .fn, [.lit .nilFunc]⟩),
  (89, ⟨1, 8, .fn, [.lit .nilFunc]⟩),
  (90, ⟨1, 8, .fn, [.lit .nilFunc]⟩),
  (91, ⟨1, 8, .fn, [.lit .nilFunc]⟩),
  (92, ⟨1, 8, .fn, [.lit .nilFunc]⟩),
  (93, ⟨1, 8, .fn, [.lit .nilFunc]⟩),
  (94, ⟨1, 8, .fn, [.lit .nilFunc]⟩),
  (95, ⟨1, 8, .fn, [.lit .nilFunc]⟩),
  (96, ⟨1, 8, .fn, [.lit .nilFunc]⟩),
  (97, ⟨1, 8, .fn, [.lit .nilFunc]⟩),
  (98, ⟨10, 160, .struct [(0, 9), (1, 67)], [.lit (.string ⟨#[]⟩), .lit (.int .i64 0), .lit (.string ⟨#[]⟩), .lit (.int .i64 0), .lit (.int .i64 0), .own 0 none 2 [], .lit (.int .i64 0), .own 0 none 2 [], .own 0 none 9 [], .own 0 none 10 []]⟩),
  (99, ⟨10, 160, .struct [(0, 9), (1, 67)], [.lit (.string ⟨#[]⟩), .lit (.int .i64 0), .lit (.string ⟨#[]⟩), .lit (.int .i64 0), .lit (.int .i64 0), .own 0 none 2 [], .lit (.int .i64 0), .own 0 none 2 [], .own 0 none 9 [], .own 0 none 10 []]⟩),
  (100, ⟨1, 8, .fn, [.lit .nilFunc]⟩),
  (101, ⟨1, 8, .fn, [.lit .nilFunc]⟩),
  (102, ⟨1, 8, .fn, [.lit .nilFunc]⟩),
  (103, ⟨1, 8, .fn, [.lit .nilFunc]⟩),
  (104, ⟨1, 8, .fn, [.lit .nilFunc]⟩),
  (105, ⟨1, 8, .fn, [.lit .nilFunc]⟩),
  (106, ⟨3, 48, .struct [(0, 9), (1, 28)], [.lit (.string ⟨#[]⟩), .lit (.int .i64 0), .own 0 none 2 []]⟩),
  (107, ⟨3, 48, .struct [(0, 9), (1, 28)], [.lit (.string ⟨#[]⟩), .lit (.int .i64 0), .own 0 none 2 []]⟩),
  (108, ⟨1, 8, .fn, [.lit .nilFunc]⟩),
  (109, ⟨1, 8, .fn, [.lit .nilFunc]⟩),
  (110, ⟨1, 8, .fn, [.lit .nilFunc]⟩),
  (111, ⟨1, 8, .fn, [.lit .nilFunc]⟩),
  (112, ⟨1, 8, .fn, [.lit .nilFunc]⟩),
  (113, ⟨1, 8, .fn, [.lit .nilFunc]⟩),
  (114, ⟨1, 8, .fn, [.lit .nilFunc]⟩),
  (116, ⟨1, 8, .fn, [.lit .nilFunc]⟩),
  (117, ⟨1, 8, .fn, [.lit .nilFunc]⟩),
  (118, ⟨1, 8, .fn, [.lit .nilFunc]⟩),
  (119, ⟨1, 8, .ptr, [.lit (.pointer none)]⟩),
  (120, ⟨1, 8, .fn, [.lit .nilFunc]⟩),
  (121, ⟨10, 160, .struct [(0, 9), (1, 61)], [.lit (.string ⟨#[]⟩), .lit (.int .i64 0), .lit (.string ⟨#[]⟩), .lit (.int .i64 0), .lit (.int .i64 0), .own 0 none 2 [], .lit (.int .i64 0), .own 0 none 2 [], .own 0 none 9 [], .own 0 none 10 []]⟩),
  (122, ⟨10, 160, .struct [(0, 9), (1, 61)], [.lit (.string ⟨#[]⟩), .lit (.int .i64 0), .lit (.string ⟨#[]⟩), .lit (.int .i64 0), .lit (.int .i64 0), .own 0 none 2 [], .lit (.int .i64 0), .own 0 none 2 [], .own 0 none 9 [], .own 0 none 10 []]⟩),
  (123, ⟨1, 8, .fn, [.lit .nilFunc]⟩),
  (124, ⟨1, 8, .fn, [.lit .nilFunc]⟩),
  (125, ⟨1, 8, .fn, [.lit .nilFunc]⟩),
  (126, ⟨1, 8, .fn, [.lit .nilFunc]⟩),
  (127, ⟨1, 24, .slice 5, [.own 0 none 1 []]⟩),
  (128, ⟨1, 8, .fn, [.lit .nilFunc]⟩),
  (129, ⟨1, 8, .fn, [.lit .nilFunc]⟩),
  (130, ⟨4, 40, .struct [(0, 17), (1, 17), (2, 17), (3, 9)], [.lit (.pointer none), .lit (.pointer none), .lit (.pointer none), .lit (.string ⟨#[]⟩)]⟩),
  (131, ⟨4, 40, .struct [(0, 17), (1, 17), (2, 17), (3, 9)], [.lit (.pointer none), .lit (.pointer none), .lit (.pointer none), .lit (.string ⟨#[]⟩)]⟩),
  (135, ⟨1, 8, .fn, [.lit .nilFunc]⟩),
  (136, ⟨1, 4, .int .u32, [.lit (.int .u32 0)]⟩),
  (137, ⟨1, 1, .int .u8, [.lit (.int .u8 0)]⟩),
  (138, ⟨1, 1, .int .u8, [.lit (.int .u8 0)]⟩),
  (139, ⟨1, 8, .fn, [.lit .nilFunc]⟩),
  (140, ⟨1, 8, .ptr, [.lit (.pointer none)]⟩),
  (141, ⟨1, 4, .int .i32, [.lit (.int .i32 0)]⟩),
  (142, ⟨1, 4, .int .i32, [.lit (.int .i32 0)]⟩),
  (143, ⟨11, 48, .struct [(0, 12), (1, 12), (2, 136), (3, 137), (4, 5), (5, 5), (6, 138), (7, 139), (8, 140), (9, 141), (10, 142)], [.lit (.int .u64 0), .lit (.int .u64 0), .lit (.int .u32 0), .lit (.int .u8 0), .lit (.int .u8 0), .lit (.int .u8 0), .lit (.int .u8 0), .lit .nilFunc, .lit (.pointer none), .lit (.int .i32 0), .lit (.int .i32 0)]⟩),
  (144, ⟨11, 48, .struct [(0, 12), (1, 12), (2, 136), (3, 137), (4, 5), (5, 5), (6, 138), (7, 139), (8, 140), (9, 141), (10, 142)], [.lit (.int .u64 0), .lit (.int .u64 0), .lit (.int .u32 0), .lit (.int .u8 0), .lit (.int .u8 0), .lit (.int .u8 0), .lit (.int .u8 0), .lit .nilFunc, .lit (.pointer none), .lit (.int .i32 0), .lit (.int .i32 0)]⟩)]
def tab : Tab := fun t => lk t tabL
theorem tabL_ok : (tabL.all fun p => tiB Try.prog p.1 p.2) = true := by kernel_rfl
theorem tabOK : TabOK Try.prog tab := tab_ok tabL_ok
theorem mixed : Try.prog.follows .mixedOrders = true := by kernel_rfl
theorem t1 : tab 1 = some ⟨1, 8, .fn, [.lit .nilFunc]⟩ := by kernel_rfl
theorem t2 : tab 2 = some ⟨1, 8, .int .i64, [.lit (.int .i64 0)]⟩ := by kernel_rfl
theorem t3 : tab 3 = some ⟨1, 8, .int .i64, [.lit (.int .i64 0)]⟩ := by kernel_rfl
theorem t4 : tab 4 = some ⟨1, 1, .bool, [.lit (.bool false)]⟩ := by kernel_rfl
theorem t5 : tab 5 = some ⟨1, 1, .int .u8, [.lit (.int .u8 0)]⟩ := by kernel_rfl
theorem t6 : tab 6 = some ⟨1, 1, .int .u8, [.lit (.int .u8 0)]⟩ := by kernel_rfl
theorem t7 : tab 7 = some ⟨4, 24, .struct [(0, 2), (1, 3), (2, 4), (3, 6)], [.lit (.int .i64 0), .lit (.int .i64 0), .lit (.bool false), .lit (.int .u8 0)]⟩ := by kernel_rfl
theorem t8 : tab 8 = some ⟨4, 24, .struct [(0, 2), (1, 3), (2, 4), (3, 6)], [.lit (.int .i64 0), .lit (.int .i64 0), .lit (.bool false), .lit (.int .u8 0)]⟩ := by kernel_rfl
theorem t9 : tab 9 = some ⟨1, 16, .str, [.lit (.string ⟨#[]⟩)]⟩ := by kernel_rfl
theorem t10 : tab 10 = some ⟨1, 16, .str, [.lit (.string ⟨#[]⟩)]⟩ := by kernel_rfl
theorem t11 : tab 11 = some ⟨1, 16, .str, [.lit (.string ⟨#[]⟩)]⟩ := by kernel_rfl
theorem t12 : tab 12 = some ⟨1, 8, .int .u64, [.lit (.int .u64 0)]⟩ := by kernel_rfl
theorem t13 : tab 13 = some ⟨2, 24, .struct [(0, 9), (1, 12)], [.lit (.string ⟨#[]⟩), .lit (.int .u64 0)]⟩ := by kernel_rfl
theorem t14 : tab 14 = some ⟨2, 24, .struct [(0, 9), (1, 12)], [.lit (.string ⟨#[]⟩), .lit (.int .u64 0)]⟩ := by kernel_rfl
theorem t15 : tab 15 = some ⟨1, 8, .ptr, [.lit (.pointer none)]⟩ := by kernel_rfl
theorem t16 : tab 16 = some ⟨1, 8, .ptr, [.lit (.pointer none)]⟩ := by kernel_rfl
theorem t17 : tab 17 = some ⟨1, 8, .ptr, [.lit (.pointer none)]⟩ := by kernel_rfl
theorem t18 : tab 18 = some ⟨1, 8, .struct [(0, 17)], [.lit (.pointer none)]⟩ := by kernel_rfl
theorem t19 : tab 19 = some ⟨1, 8, .struct [(0, 17)], [.lit (.pointer none)]⟩ := by kernel_rfl
theorem t21 : tab 21 = some ⟨1, 4, .int .i32, [.lit (.int .i32 0)]⟩ := by kernel_rfl
theorem t22 : tab 22 = some ⟨1, 8, .fn, [.lit .nilFunc]⟩ := by kernel_rfl
theorem t23 : tab 23 = some ⟨1, 8, .fn, [.lit .nilFunc]⟩ := by kernel_rfl
theorem t24 : tab 24 = some ⟨1, 8, .fn, [.lit .nilFunc]⟩ := by kernel_rfl
theorem t25 : tab 25 = some ⟨1, 24, .slice 107, [.own 0 none 3 []]⟩ := by kernel_rfl
theorem t26 : tab 26 = some ⟨1, 24, .slice 28, [.own 0 none 2 []]⟩ := by kernel_rfl
theorem t27 : tab 27 = some ⟨2, 32, .struct [(0, 3), (1, 26)], [.lit (.int .i64 0), .own 0 none 2 []]⟩ := by kernel_rfl
theorem t28 : tab 28 = some ⟨2, 32, .struct [(0, 3), (1, 26)], [.lit (.int .i64 0), .own 0 none 2 []]⟩ := by kernel_rfl
theorem t29 : tab 29 = some ⟨4, 64, .struct [(0, 25), (1, 4), (2, 28)], [.own 0 none 3 [], .lit (.bool false), .lit (.int .i64 0), .own 0 none 2 []]⟩ := by kernel_rfl
theorem t30 : tab 30 = some ⟨4, 64, .struct [(0, 25), (1, 4), (2, 28)], [.own 0 none 3 [], .lit (.bool false), .lit (.int .i64 0), .own 0 none 2 []]⟩ := by kernel_rfl
theorem t31 : tab 31 = some ⟨1, 8, .fn, [.lit .nilFunc]⟩ := by kernel_rfl
theorem t32 : tab 32 = some ⟨1, 8, .fn, [.lit .nilFunc]⟩ := by kernel_rfl
theorem t33 : tab 33 = some ⟨1, 24, .slice 86, [.own 0 none 3 []]⟩ := by kernel_rfl
theorem t34 : tab 34 = some ⟨1, 24, .slice 36, [.own 0 none 2 []]⟩ := by kernel_rfl
theorem t35 : tab 35 = some ⟨2, 32, .struct [(0, 3), (1, 34)], [.lit (.int .i64 0), .own 0 none 2 []]⟩ := by kernel_rfl
theorem t36 : tab 36 = some ⟨2, 32, .struct [(0, 3), (1, 34)], [.lit (.int .i64 0), .own 0 none 2 []]⟩ := by kernel_rfl
theorem t37 : tab 37 = some ⟨4, 64, .struct [(0, 33), (1, 4), (2, 36)], [.own 0 none 3 [], .lit (.bool false), .lit (.int .i64 0), .own 0 none 2 []]⟩ := by kernel_rfl
theorem t38 : tab 38 = some ⟨4, 64, .struct [(0, 33), (1, 4), (2, 36)], [.own 0 none 3 [], .lit (.bool false), .lit (.int .i64 0), .own 0 none 2 []]⟩ := by kernel_rfl
theorem t39 : tab 39 = some ⟨1, 8, .fn, [.lit .nilFunc]⟩ := by kernel_rfl
theorem t40 : tab 40 = some ⟨1, 8, .fn, [.lit .nilFunc]⟩ := by kernel_rfl
theorem t41 : tab 41 = some ⟨1, 24, .slice 43, [.own 0 none 6 []]⟩ := by kernel_rfl
theorem t42 : tab 42 = some ⟨6, 88, .struct [(0, 3), (1, 9), (2, 3), (3, 36), (5, 41)], [.lit (.int .i64 0), .lit (.string ⟨#[]⟩), .lit (.int .i64 0), .lit (.int .i64 0), .own 0 none 2 [], .own 0 none 6 []]⟩ := by kernel_rfl
theorem t43 : tab 43 = some ⟨6, 88, .struct [(0, 3), (1, 9), (2, 3), (3, 36), (5, 41)], [.lit (.int .i64 0), .lit (.string ⟨#[]⟩), .lit (.int .i64 0), .lit (.int .i64 0), .own 0 none 2 [], .own 0 none 6 []]⟩ := by kernel_rfl
theorem t44 : tab 44 = some ⟨1, 24, .slice 3, [.own 0 none 1 []]⟩ := by kernel_rfl
theorem t45 : tab 45 = some ⟨7, 112, .struct [(0, 43), (6, 44)], [.lit (.int .i64 0), .lit (.string ⟨#[]⟩), .lit (.int .i64 0), .lit (.int .i64 0), .own 0 none 2 [], .own 0 none 6 [], .own 0 none 1 []]⟩ := by kernel_rfl
theorem t46 : tab 46 = some ⟨7, 112, .struct [(0, 43), (6, 44)], [.lit (.int .i64 0), .lit (.string ⟨#[]⟩), .lit (.int .i64 0), .lit (.int .i64 0), .own 0 none 2 [], .own 0 none 6 [], .own 0 none 1 []]⟩ := by kernel_rfl
theorem t47 : tab 47 = some ⟨1, 8, .fn, [.lit .nilFunc]⟩ := by kernel_rfl
theorem t48 : tab 48 = some ⟨1, 8, .fn, [.lit .nilFunc]⟩ := by kernel_rfl
theorem t49 : tab 49 = some ⟨1, 8, .fn, [.lit .nilFunc]⟩ := by kernel_rfl
theorem t50 : tab 50 = some ⟨1, 8, .fn, [.lit .nilFunc]⟩ := by kernel_rfl
theorem t51 : tab 51 = some ⟨1, 24, .slice 53, [.own 0 none 6 []]⟩ := by kernel_rfl
theorem t52 : tab 52 = some ⟨6, 88, .struct [(0, 3), (1, 9), (2, 3), (3, 28), (5, 51)], [.lit (.int .i64 0), .lit (.string ⟨#[]⟩), .lit (.int .i64 0), .lit (.int .i64 0), .own 0 none 2 [], .own 0 none 6 []]⟩ := by kernel_rfl
theorem t53 : tab 53 = some ⟨6, 88, .struct [(0, 3), (1, 9), (2, 3), (3, 28), (5, 51)], [.lit (.int .i64 0), .lit (.string ⟨#[]⟩), .lit (.int .i64 0), .lit (.int .i64 0), .own 0 none 2 [], .own 0 none 6 []]⟩ := by kernel_rfl
theorem t54 : tab 54 = some ⟨1, 8, .fn, [.lit .nilFunc]⟩ := by kernel_rfl
theorem t55 : tab 55 = some ⟨1, 8, .fn, [.lit .nilFunc]⟩ := by kernel_rfl
theorem t56 : tab 56 = some ⟨1, 8, .fn, [.lit .nilFunc]⟩ := by kernel_rfl
theorem t57 : tab 57 = some ⟨1, 8, .fn, [.lit .nilFunc]⟩ := by kernel_rfl
theorem t58 : tab 58 = some ⟨1, 24, .slice 61, [.own 0 none 9 []]⟩ := by kernel_rfl
theorem t59 : tab 59 = some ⟨1, 24, .slice 122, [.own 0 none 10 []]⟩ := by kernel_rfl
theorem t60 : tab 60 = some ⟨9, 144, .struct [(0, 3), (1, 9), (2, 3), (3, 28), (5, 28), (7, 58), (8, 59)], [.lit (.int .i64 0), .lit (.string ⟨#[]⟩), .lit (.int .i64 0), .lit (.int .i64 0), .own 0 none 2 [], .lit (.int .i64 0), .own 0 none 2 [], .own 0 none 9 [], .own 0 none 10 []]⟩ := by kernel_rfl
theorem t61 : tab 61 = some ⟨9, 144, .struct [(0, 3), (1, 9), (2, 3), (3, 28), (5, 28), (7, 58), (8, 59)], [.lit (.int .i64 0), .lit (.string ⟨#[]⟩), .lit (.int .i64 0), .lit (.int .i64 0), .own 0 none 2 [], .lit (.int .i64 0), .own 0 none 2 [], .own 0 none 9 [], .own 0 none 10 []]⟩ := by kernel_rfl
theorem t62 : tab 62 = some ⟨1, 8, .fn, [.lit .nilFunc]⟩ := by kernel_rfl
theorem t63 : tab 63 = some ⟨1, 8, .fn, [.lit .nilFunc]⟩ := by kernel_rfl
theorem t64 : tab 64 = some ⟨1, 24, .slice 67, [.own 0 none 9 []]⟩ := by kernel_rfl
theorem t65 : tab 65 = some ⟨1, 24, .slice 99, [.own 0 none 10 []]⟩ := by kernel_rfl
theorem t66 : tab 66 = some ⟨9, 144, .struct [(0, 3), (1, 9), (2, 3), (3, 36), (5, 36), (7, 64), (8, 65)], [.lit (.int .i64 0), .lit (.string ⟨#[]⟩), .lit (.int .i64 0), .lit (.int .i64 0), .own 0 none 2 [], .lit (.int .i64 0), .own 0 none 2 [], .own 0 none 9 [], .own 0 none 10 []]⟩ := by kernel_rfl
theorem t67 : tab 67 = some ⟨9, 144, .struct [(0, 3), (1, 9), (2, 3), (3, 36), (5, 36), (7, 64), (8, 65)], [.lit (.int .i64 0), .lit (.string ⟨#[]⟩), .lit (.int .i64 0), .lit (.int .i64 0), .own 0 none 2 [], .lit (.int .i64 0), .own 0 none 2 [], .own 0 none 9 [], .own 0 none 10 []]⟩ := by kernel_rfl
theorem t68 : tab 68 = some ⟨1, 8, .fn, [.lit .nilFunc]⟩ := by kernel_rfl
theorem t69 : tab 69 = some ⟨1, 8, .fn, [.lit .nilFunc]⟩ := by kernel_rfl
theorem t70 : tab 70 = some ⟨1, 8, .fn, [.lit .nilFunc]⟩ := by kernel_rfl
theorem t71 : tab 71 = some ⟨7, 112, .struct [(0, 53), (6, 44)], [.lit (.int .i64 0), .lit (.string ⟨#[]⟩), .lit (.int .i64 0), .lit (.int .i64 0), .own 0 none 2 [], .own 0 none 6 [], .own 0 none 1 []]⟩ := by kernel_rfl
theorem t72 : tab 72 = some ⟨7, 112, .struct [(0, 53), (6, 44)], [.lit (.int .i64 0), .lit (.string ⟨#[]⟩), .lit (.int .i64 0), .lit (.int .i64 0), .own 0 none 2 [], .own 0 none 6 [], .own 0 none 1 []]⟩ := by kernel_rfl
theorem t73 : tab 73 = some ⟨1, 8, .fn, [.lit .nilFunc]⟩ := by kernel_rfl
theorem t74 : tab 74 = some ⟨1, 8, .fn, [.lit .nilFunc]⟩ := by kernel_rfl
theorem t75 : tab 75 = some ⟨1, 8, .fn, [.lit .nilFunc]⟩ := by kernel_rfl
theorem t76 : tab 76 = some ⟨1, 8, .fn, [.lit .nilFunc]⟩ := by kernel_rfl
theorem t77 : tab 77 = some ⟨1, 24, .slice 9, [.own 0 none 1 []]⟩ := by kernel_rfl
theorem t78 : tab 78 = some ⟨1, 8, .fn, [.lit .nilFunc]⟩ := by kernel_rfl
theorem t79 : tab 79 = some ⟨1, 8, .fn, [.lit .nilFunc]⟩ := by kernel_rfl
theorem t80 : tab 80 = some ⟨1, 8, .fn, [.lit .nilFunc]⟩ := by kernel_rfl
theorem t81 : tab 81 = some ⟨1, 8, .fn, [.lit .nilFunc]⟩ := by kernel_rfl
theorem t82 : tab 82 = some ⟨1, 8, .fn, [.lit .nilFunc]⟩ := by kernel_rfl
theorem t83 : tab 83 = some ⟨1, 8, .fn, [.lit .nilFunc]⟩ := by kernel_rfl
theorem t84 : tab 84 = some ⟨1, 8, .fn, [.lit .nilFunc]⟩ := by kernel_rfl
theorem t85 : tab 85 = some ⟨3, 48, .struct [(0, 9), (1, 36)], [.lit (.string ⟨#[]⟩), .lit (.int .i64 0), .own 0 none 2 []]⟩ := by kernel_rfl
theorem t86 : tab 86 = some ⟨3, 48, .struct [(0, 9), (1, 36)], [.lit (.string ⟨#[]⟩), .lit (.int .i64 0), .own 0 none 2 []]⟩ := by kernel_rfl
theorem t87 : tab 87 = some ⟨1, 8, .fn, [.lit .nilFunc]⟩ := by kernel_rfl
theorem t88 : tab 88 = some ⟨1, 8, .fn, [.lit .nilFunc]⟩ := by kernel_rfl
theorem t89 : tab 89 = some ⟨1, 8, .fn, [.lit .nilFunc]⟩ := by kernel_rfl
theorem t90 : tab 90 = some ⟨1, 8, .fn, [.lit .nilFunc]⟩ := by kernel_rfl
theorem t91 : tab 91 = some ⟨1, 8, .fn, [.lit .nilFunc]⟩ := by kernel_rfl
theorem t92 : tab 92 = some ⟨1, 8, .fn, [.lit .nilFunc]⟩ := by kernel_rfl
theorem t93 : tab 93 = some ⟨1, 8, .fn, [.lit .nilFunc]⟩ := by kernel_rfl
theorem t94 : tab 94 = some ⟨1, 8, .fn, [.lit .nilFunc]⟩ := by kernel_rfl
theorem t95 : tab 95 = some ⟨1, 8, .fn, [.lit .nilFunc]⟩ := by kernel_rfl
theorem t96 : tab 96 = some ⟨1, 8, .fn, [.lit .nilFunc]⟩ := by kernel_rfl
theorem t97 : tab 97 = some ⟨1, 8, .fn, [.lit .nilFunc]⟩ := by kernel_rfl
theorem t98 : tab 98 = some ⟨10, 160, .struct [(0, 9), (1, 67)], [.lit (.string ⟨#[]⟩), .lit (.int .i64 0), .lit (.string ⟨#[]⟩), .lit (.int .i64 0), .lit (.int .i64 0), .own 0 none 2 [], .lit (.int .i64 0), .own 0 none 2 [], .own 0 none 9 [], .own 0 none 10 []]⟩ := by kernel_rfl
theorem t99 : tab 99 = some ⟨10, 160, .struct [(0, 9), (1, 67)], [.lit (.string ⟨#[]⟩), .lit (.int .i64 0), .lit (.string ⟨#[]⟩), .lit (.int .i64 0), .lit (.int .i64 0), .own 0 none 2 [], .lit (.int .i64 0), .own 0 none 2 [], .own 0 none 9 [], .own 0 none 10 []]⟩ := by kernel_rfl
theorem t100 : tab 100 = some ⟨1, 8, .fn, [.lit .nilFunc]⟩ := by kernel_rfl
theorem t101 : tab 101 = some ⟨1, 8, .fn, [.lit .nilFunc]⟩ := by kernel_rfl
theorem t102 : tab 102 = some ⟨1, 8, .fn, [.lit .nilFunc]⟩ := by kernel_rfl
theorem t103 : tab 103 = some ⟨1, 8, .fn, [.lit .nilFunc]⟩ := by kernel_rfl
theorem t104 : tab 104 = some ⟨1, 8, .fn, [.lit .nilFunc]⟩ := by kernel_rfl
theorem t105 : tab 105 = some ⟨1, 8, .fn, [.lit .nilFunc]⟩ := by kernel_rfl
theorem t106 : tab 106 = some ⟨3, 48, .struct [(0, 9), (1, 28)], [.lit (.string ⟨#[]⟩), .lit (.int .i64 0), .own 0 none 2 []]⟩ := by kernel_rfl
theorem t107 : tab 107 = some ⟨3, 48, .struct [(0, 9), (1, 28)], [.lit (.string ⟨#[]⟩), .lit (.int .i64 0), .own 0 none 2 []]⟩ := by kernel_rfl
theorem t108 : tab 108 = some ⟨1, 8, .fn, [.lit .nilFunc]⟩ := by kernel_rfl
theorem t109 : tab 109 = some ⟨1, 8, .fn, [.lit .nilFunc]⟩ := by kernel_rfl
theorem t110 : tab 110 = some ⟨1, 8, .fn, [.lit .nilFunc]⟩ := by kernel_rfl
theorem t111 : tab 111 = some ⟨1, 8, .fn, [.lit .nilFunc]⟩ := by kernel_rfl
theorem t112 : tab 112 = some ⟨1, 8, .fn, [.lit .nilFunc]⟩ := by kernel_rfl
theorem t113 : tab 113 = some ⟨1, 8, .fn, [.lit .nilFunc]⟩ := by kernel_rfl
theorem t114 : tab 114 = some ⟨1, 8, .fn, [.lit .nilFunc]⟩ := by kernel_rfl
theorem t116 : tab 116 = some ⟨1, 8, .fn, [.lit .nilFunc]⟩ := by kernel_rfl
theorem t117 : tab 117 = some ⟨1, 8, .fn, [.lit .nilFunc]⟩ := by kernel_rfl
theorem t118 : tab 118 = some ⟨1, 8, .fn, [.lit .nilFunc]⟩ := by kernel_rfl
theorem t119 : tab 119 = some ⟨1, 8, .ptr, [.lit (.pointer none)]⟩ := by kernel_rfl
theorem t120 : tab 120 = some ⟨1, 8, .fn, [.lit .nilFunc]⟩ := by kernel_rfl
theorem t121 : tab 121 = some ⟨10, 160, .struct [(0, 9), (1, 61)], [.lit (.string ⟨#[]⟩), .lit (.int .i64 0), .lit (.string ⟨#[]⟩), .lit (.int .i64 0), .lit (.int .i64 0), .own 0 none 2 [], .lit (.int .i64 0), .own 0 none 2 [], .own 0 none 9 [], .own 0 none 10 []]⟩ := by kernel_rfl
theorem t122 : tab 122 = some ⟨10, 160, .struct [(0, 9), (1, 61)], [.lit (.string ⟨#[]⟩), .lit (.int .i64 0), .lit (.string ⟨#[]⟩), .lit (.int .i64 0), .lit (.int .i64 0), .own 0 none 2 [], .lit (.int .i64 0), .own 0 none 2 [], .own 0 none 9 [], .own 0 none 10 []]⟩ := by kernel_rfl
theorem t123 : tab 123 = some ⟨1, 8, .fn, [.lit .nilFunc]⟩ := by kernel_rfl
theorem t124 : tab 124 = some ⟨1, 8, .fn, [.lit .nilFunc]⟩ := by kernel_rfl
theorem t125 : tab 125 = some ⟨1, 8, .fn, [.lit .nilFunc]⟩ := by kernel_rfl
theorem t126 : tab 126 = some ⟨1, 8, .fn, [.lit .nilFunc]⟩ := by kernel_rfl
theorem t127 : tab 127 = some ⟨1, 24, .slice 5, [.own 0 none 1 []]⟩ := by kernel_rfl
theorem t128 : tab 128 = some ⟨1, 8, .fn, [.lit .nilFunc]⟩ := by kernel_rfl
theorem t129 : tab 129 = some ⟨1, 8, .fn, [.lit .nilFunc]⟩ := by kernel_rfl
theorem t130 : tab 130 = some ⟨4, 40, .struct [(0, 17), (1, 17), (2, 17), (3, 9)], [.lit (.pointer none), .lit (.pointer none), .lit (.pointer none), .lit (.string ⟨#[]⟩)]⟩ := by kernel_rfl
theorem t131 : tab 131 = some ⟨4, 40, .struct [(0, 17), (1, 17), (2, 17), (3, 9)], [.lit (.pointer none), .lit (.pointer none), .lit (.pointer none), .lit (.string ⟨#[]⟩)]⟩ := by kernel_rfl
theorem t135 : tab 135 = some ⟨1, 8, .fn, [.lit .nilFunc]⟩ := by kernel_rfl
theorem t136 : tab 136 = some ⟨1, 4, .int .u32, [.lit (.int .u32 0)]⟩ := by kernel_rfl
theorem t137 : tab 137 = some ⟨1, 1, .int .u8, [.lit (.int .u8 0)]⟩ := by kernel_rfl
theorem t138 : tab 138 = some ⟨1, 1, .int .u8, [.lit (.int .u8 0)]⟩ := by kernel_rfl
theorem t139 : tab 139 = some ⟨1, 8, .fn, [.lit .nilFunc]⟩ := by kernel_rfl
theorem t140 : tab 140 = some ⟨1, 8, .ptr, [.lit (.pointer none)]⟩ := by kernel_rfl
theorem t141 : tab 141 = some ⟨1, 4, .int .i32, [.lit (.int .i32 0)]⟩ := by kernel_rfl
theorem t142 : tab 142 = some ⟨1, 4, .int .i32, [.lit (.int .i32 0)]⟩ := by kernel_rfl
theorem t143 : tab 143 = some ⟨11, 48, .struct [(0, 12), (1, 12), (2, 136), (3, 137), (4, 5), (5, 5), (6, 138), (7, 139), (8, 140), (9, 141), (10, 142)], [.lit (.int .u64 0), .lit (.int .u64 0), .lit (.int .u32 0), .lit (.int .u8 0), .lit (.int .u8 0), .lit (.int .u8 0), .lit (.int .u8 0), .lit .nilFunc, .lit (.pointer none), .lit (.int .i32 0), .lit (.int .i32 0)]⟩ := by kernel_rfl
theorem t144 : tab 144 = some ⟨11, 48, .struct [(0, 12), (1, 12), (2, 136), (3, 137), (4, 5), (5, 5), (6, 138), (7, 139), (8, 140), (9, 141), (10, 142)], [.lit (.int .u64 0), .lit (.int .u64 0), .lit (.int .u32 0), .lit (.int .u8 0), .lit (.int .u8 0), .lit (.int .u8 0), .lit (.int .u8 0), .lit .nilFunc, .lit (.pointer none), .lit (.int .i32 0), .lit (.int .i32 0)]⟩ := by kernel_rfl
/-- The program whose functions are these. -/
structure IsP (P : Go.Program) : Prop where
  tab : TabOK P tab
  mixed : P.follows .mixedOrders = true
  f3 : P.funcs[3]? = some Try.f3
  f4 : P.funcs[4]? = some Try.f4
  f5 : P.funcs[5]? = some Try.f5
  f6 : P.funcs[6]? = some Try.f6
  f7 : P.funcs[7]? = some Try.f7
  f8 : P.funcs[8]? = some Try.f8
  f9 : P.funcs[9]? = some Try.f9
  f10 : P.funcs[10]? = some Try.f10
  f11 : P.funcs[11]? = some Try.f11
  f12 : P.funcs[12]? = some Try.f12
  f13 : P.funcs[13]? = some Try.f13
  f14 : P.funcs[14]? = some Try.f14
  f15 : P.funcs[15]? = some Try.f15
  f16 : P.funcs[16]? = some Try.f16
  f17 : P.funcs[17]? = some Try.f17
  f18 : P.funcs[18]? = some Try.f18
  f19 : P.funcs[19]? = some Try.f19
  f20 : P.funcs[20]? = some Try.f20
  f21 : P.funcs[21]? = some Try.f21
  f22 : P.funcs[22]? = some Try.f22
  f23 : P.funcs[23]? = some Try.f23
  f24 : P.funcs[24]? = some Try.f24
  f25 : P.funcs[25]? = some Try.f25
  f26 : P.funcs[26]? = some Try.f26
  f27 : P.funcs[27]? = some Try.f27
  f28 : P.funcs[28]? = some Try.f28
  f29 : P.funcs[29]? = some Try.f29
  f30 : P.funcs[30]? = some Try.f30
  f31 : P.funcs[31]? = some Try.f31
  f32 : P.funcs[32]? = some Try.f32
  f33 : P.funcs[33]? = some Try.f33
  f34 : P.funcs[34]? = some Try.f34
  f35 : P.funcs[35]? = some Try.f35
  f36 : P.funcs[36]? = some Try.f36
  f37 : P.funcs[37]? = some Try.f37
  f38 : P.funcs[38]? = some Try.f38
  f39 : P.funcs[39]? = some Try.f39
  f40 : P.funcs[40]? = some Try.f40
  f41 : P.funcs[41]? = some Try.f41
  f42 : P.funcs[42]? = some Try.f42
  f43 : P.funcs[43]? = some Try.f43
  f44 : P.funcs[44]? = some Try.f44
  f45 : P.funcs[45]? = some Try.f45
  f46 : P.funcs[46]? = some Try.f46
  f47 : P.funcs[47]? = some Try.f47
  f48 : P.funcs[48]? = some Try.f48
  f49 : P.funcs[49]? = some Try.f49
  f50 : P.funcs[50]? = some Try.f50
  f51 : P.funcs[51]? = some Try.f51
  f52 : P.funcs[52]? = some Try.f52
  f53 : P.funcs[53]? = some Try.f53
  f54 : P.funcs[54]? = some Try.f54
  f55 : P.funcs[55]? = some Try.f55
  f56 : P.funcs[56]? = some Try.f56
  f57 : P.funcs[57]? = some Try.f57
  f58 : P.funcs[58]? = some Try.f58
  f59 : P.funcs[59]? = some Try.f59
  f60 : P.funcs[60]? = some Try.f60
  f61 : P.funcs[61]? = some Try.f61
  f62 : P.funcs[62]? = some Try.f62
  f63 : P.funcs[63]? = some Try.f63
  f64 : P.funcs[64]? = some Try.f64
  f65 : P.funcs[65]? = some Try.f65
  f66 : P.funcs[66]? = some Try.f66
  f67 : P.funcs[67]? = some Try.f67
  f68 : P.funcs[68]? = some Try.f68
  f69 : P.funcs[69]? = some Try.f69
  f70 : P.funcs[70]? = some Try.f70
  f71 : P.funcs[71]? = some Try.f71
  f72 : P.funcs[72]? = some Try.f72
  f73 : P.funcs[73]? = some Try.f73
  f74 : P.funcs[74]? = some Try.f74
  f75 : P.funcs[75]? = some Try.f75
  f76 : P.funcs[76]? = some Try.f76
  f77 : P.funcs[77]? = some Try.f77
  f78 : P.funcs[78]? = some Try.f78
  f79 : P.funcs[79]? = some Try.f79
  f80 : P.funcs[80]? = some Try.f80
  f81 : P.funcs[81]? = some Try.f81
  f82 : P.funcs[82]? = some Try.f82
  f83 : P.funcs[83]? = some Try.f83
  f84 : P.funcs[84]? = some Try.f84
  f85 : P.funcs[85]? = some Try.f85
  f86 : P.funcs[86]? = some Try.f86
  f87 : P.funcs[87]? = some Try.f87
  f88 : P.funcs[88]? = some Try.f88
  f89 : P.funcs[89]? = some Try.f89
  f90 : P.funcs[90]? = some Try.f90
  f91 : P.funcs[91]? = some Try.f91
  f92 : P.funcs[92]? = some Try.f92
  f93 : P.funcs[93]? = some Try.f93
  f94 : P.funcs[94]? = some Try.f94
  f95 : P.funcs[95]? = some Try.f95
  f96 : P.funcs[96]? = some Try.f96
  f97 : P.funcs[97]? = some Try.f97
theorem isP : IsP Try.prog := ⟨tabOK, mixed, Try.func3, Try.func4, Try.func5, Try.func6, Try.func7, Try.func8, Try.func9, Try.func10, Try.func11, Try.func12, Try.func13, Try.func14, Try.func15, Try.func16, Try.func17, Try.func18, Try.func19, Try.func20, Try.func21, Try.func22, Try.func23, Try.func24, Try.func25, Try.func26, Try.func27, Try.func28, Try.func29, Try.func30, Try.func31, Try.func32, Try.func33, Try.func34, Try.func35, Try.func36, Try.func37, Try.func38, Try.func39, Try.func40, Try.func41, Try.func42, Try.func43, Try.func44, Try.func45, Try.func46, Try.func47, Try.func48, Try.func49, Try.func50, Try.func51, Try.func52, Try.func53, Try.func54, Try.func55, Try.func56, Try.func57, Try.func58, Try.func59, Try.func60, Try.func61, Try.func62, Try.func63, Try.func64, Try.func65, Try.func66, Try.func67, Try.func68, Try.func69, Try.func70, Try.func71, Try.func72, Try.func73, Try.func74, Try.func75, Try.func76, Try.func77, Try.func78, Try.func79, Try.func80, Try.func81, Try.func82, Try.func83, Try.func84, Try.func85, Try.func86, Try.func87, Try.func88, Try.func89, Try.func90, Try.func91, Try.func92, Try.func93, Try.func94, Try.func95, Try.func96, Try.func97⟩

end Go.Proofs.Ytikjhmifgedlbaa
