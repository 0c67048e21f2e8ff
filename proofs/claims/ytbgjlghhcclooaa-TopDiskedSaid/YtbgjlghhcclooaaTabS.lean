/- The types that the walked functions use, as a table, and that the program has them so. -/
import Derived.Test.YtbgjlghhcclooaaProg
import Derived.Test.YtbgjlghhcclooaaXAp
import Derived.KernelRfl
namespace Go.X
open Go Go.Proofs
def tt : Tab := [
  (2, ⟨1, 1, 8, 0, [], [], [.int .i64 0]⟩),
  (3, ⟨1, 1, 8, 0, [], [], [.int .i64 0]⟩),
  (4, ⟨2, 1, 1, 0, [], [], [.bool false]⟩),
  (5, ⟨1, 1, 1, 0, [], [], [.int .u8 0]⟩),
  (9, ⟨3, 1, 16, 0, [], [], [.string ⟨#[]⟩]⟩),
  (20, ⟨10, 1, 16, 0, [], [], [.nilIface]⟩),
  (22, ⟨5, 1, 24, 26, [], [], [.slice none 0 0]⟩),
  (23, ⟨1, 1, 2, 0, [], [], [.int .u16 0]⟩),
  (24, ⟨5, 1, 24, 5, [], [], [.slice none 0 0]⟩),
  (26, ⟨7, 3, 40, 0, [0, 1, 2], [1, 1, 1], [.int .u8 0, .int .i64 0, .slice none 0 0]⟩),
  (27, ⟨4, 1, 8, 155, [], [], [.pointer none]⟩),
  (30, ⟨1, 1, 8, 0, [], [], [.int .i64 0]⟩),
  (32, ⟨1, 1, 8, 0, [], [], [.int .u64 0]⟩),
  (40, ⟨5, 1, 24, 24, [], [], [.slice none 0 0]⟩),
  (41, ⟨4, 1, 8, 162, [], [], [.pointer none]⟩),
  (45, ⟨8, 1, 8, 0, [], [], [.nilFunc]⟩),
  (46, ⟨1, 1, 8, 0, [], [], [.int .u64 0]⟩),
  (52, ⟨6, 32, 32, 5, [32], [], List.replicate 32 (.int .u8 0)⟩),
  (54, ⟨4, 1, 8, 181, [], [], [.pointer none]⟩),
  (66, ⟨5, 1, 24, 68, [], [], [.slice none 0 0]⟩),
  (68, ⟨6, 4, 4, 5, [4], [], [.int .u8 0, .int .u8 0, .int .u8 0, .int .u8 0]⟩),
  (69, ⟨5, 1, 24, 74, [], [], [.slice none 0 0]⟩),
  (70, ⟨5, 1, 24, 71, [], [], [.slice none 0 0]⟩),
  (71, ⟨1, 1, 4, 0, [], [], [.int .u32 0]⟩),
  (72, ⟨1, 1, 2, 0, [], [], [.int .i16 0]⟩),
  (74, ⟨7, 5, 12, 0, [0, 1, 2, 3, 4], [1, 1, 1, 1, 1], [.int .u8 0, .int .u8 0, .int .u8 0, .int .i16 0, .int .u32 0]⟩),
  (75, ⟨5, 1, 24, 69, [], [], [.slice none 0 0]⟩),
  (76, ⟨5, 1, 24, 81, [], [], [.slice none 0 0]⟩),
  (78, ⟨7, 2, 32, 0, [0, 1], [1, 1], [.int .i64 0, .slice none 0 0]⟩),
  (79, ⟨1, 1, 8, 0, [], [], [.int .i64 0]⟩),
  (81, ⟨7, 5, 40, 0, [0, 1, 2, 3, 4], [1, 1, 1, 1, 1], [.int .i64 0, .int .i64 0, .int .i64 0, .int .i64 0, .int .u32 0]⟩),
  (83, ⟨1, 1, 8, 0, [], [], [.int .i64 0]⟩),
  (84, ⟨5, 1, 24, 103, [], [], [.slice none 0 0]⟩),
  (85, ⟨6, 64, 64, 5, [64], [], List.replicate 64 (.int .u8 0)⟩),
  (87, ⟨7, 69, 120, 0, [0, 1, 2, 3, 4, 5], [1, 1, 1, 1, 1, 64], [.int .i64 0, .int .i64 0, .int .i64 0, .int .u32 0, .slice none 0 0, .int .u8 0, .int .u8 0, .int .u8 0, .int .u8 0, .int .u8 0, .int .u8 0, .int .u8 0, .int .u8 0, .int .u8 0, .int .u8 0, .int .u8 0, .int .u8 0, .int .u8 0, .int .u8 0, .int .u8 0, .int .u8 0, .int .u8 0, .int .u8 0, .int .u8 0, .int .u8 0, .int .u8 0, .int .u8 0, .int .u8 0, .int .u8 0, .int .u8 0, .int .u8 0, .int .u8 0, .int .u8 0, .int .u8 0, .int .u8 0, .int .u8 0, .int .u8 0, .int .u8 0, .int .u8 0, .int .u8 0, .int .u8 0, .int .u8 0, .int .u8 0, .int .u8 0, .int .u8 0, .int .u8 0, .int .u8 0, .int .u8 0, .int .u8 0, .int .u8 0, .int .u8 0, .int .u8 0, .int .u8 0, .int .u8 0, .int .u8 0, .int .u8 0, .int .u8 0, .int .u8 0, .int .u8 0, .int .u8 0, .int .u8 0, .int .u8 0, .int .u8 0, .int .u8 0, .int .u8 0, .int .u8 0, .int .u8 0, .int .u8 0, .int .u8 0]⟩),
  (88, ⟨5, 1, 24, 99, [], [], [.slice none 0 0]⟩),
  (96, ⟨6, 10, 10, 4, [10], [], List.replicate 10 (.bool false)⟩),
  (97, ⟨6, 10, 40, 71, [10], [], List.replicate 10 (.int .u32 0)⟩),
  (99, ⟨7, 21, 64, 0, [0, 1, 11], [1, 10, 10], [.int .i64 0, .bool false, .bool false, .bool false, .bool false, .bool false, .bool false, .bool false, .bool false, .bool false, .bool false, .int .u32 0, .int .u32 0, .int .u32 0, .int .u32 0, .int .u32 0, .int .u32 0, .int .u32 0, .int .u32 0, .int .u32 0, .int .u32 0]⟩),
  (101, ⟨6, 5, 20, 71, [5], [], List.replicate 5 (.int .u32 0)⟩),
  (103, ⟨7, 6, 32, 0, [0, 1], [1, 5], [.int .i64 0, .int .u32 0, .int .u32 0, .int .u32 0, .int .u32 0, .int .u32 0]⟩),
  (105, ⟨1, 1, 8, 0, [], [], [.int .i64 0]⟩),
  (107, ⟨7, 5, 56, 0, [0, 1, 2, 3, 4], [1, 1, 1, 1, 1], [.int .i64 0, .int .i64 0, .int .i64 0, .int .i64 0, .slice none 0 0]⟩),
  (109, ⟨1, 1, 8, 0, [], [], [.int .i64 0]⟩),
  (111, ⟨7, 4, 32, 0, [0, 1, 2, 3], [1, 1, 1, 1], [.int .i64 0, .int .i64 0, .int .i64 0, .int .i64 0]⟩),
  (121, ⟨7, 6, 48, 0, [0, 1, 5], [1, 4, 1], [.int .i64 0, .int .i64 0, .int .i64 0, .int .i64 0, .int .i64 0, .bool false]⟩),
  (123, ⟨7, 11, 104, 0, [0, 5], [5, 6], [.int .i64 0, .int .i64 0, .int .i64 0, .int .i64 0, .slice none 0 0, .int .i64 0, .int .i64 0, .int .i64 0, .int .i64 0, .int .i64 0, .bool false]⟩),
  (128, ⟨5, 1, 24, 52, [], [], [.slice none 0 0]⟩),
  (129, ⟨5, 1, 24, 128, [], [], [.slice none 0 0]⟩),
  (131, ⟨4, 1, 8, 227, [], [], [.pointer none]⟩),
  (149, ⟨7, 34, 64, 0, [0, 32, 33], [32, 1, 1], [.int .u8 0, .int .u8 0, .int .u8 0, .int .u8 0, .int .u8 0, .int .u8 0, .int .u8 0, .int .u8 0, .int .u8 0, .int .u8 0, .int .u8 0, .int .u8 0, .int .u8 0, .int .u8 0, .int .u8 0, .int .u8 0, .int .u8 0, .int .u8 0, .int .u8 0, .int .u8 0, .int .u8 0, .int .u8 0, .int .u8 0, .int .u8 0, .int .u8 0, .int .u8 0, .int .u8 0, .int .u8 0, .int .u8 0, .int .u8 0, .int .u8 0, .int .u8 0, .int .i64 0, .slice none 0 0]⟩),
  (150, ⟨5, 1, 24, 149, [], [], [.slice none 0 0]⟩),
  (155, ⟨7, 2, 32, 0, [0, 1], [1, 1], [.slice none 0 0, .bool false]⟩),
  (160, ⟨7, 2, 32, 0, [0, 1], [1, 1], [.slice none 0 0, .int .i64 0]⟩),
  (162, ⟨7, 4, 48, 0, [0, 2, 3], [2, 1, 1], [.slice none 0 0, .int .i64 0, .int .i64 0, .bool false]⟩),
  (170, ⟨8, 1, 8, 0, [], [], [.nilFunc]⟩),
  (172, ⟨6, 64, 256, 71, [64], [], List.replicate 64 (.int .u32 0)⟩),
  (173, ⟨6, 8, 32, 71, [8], [], List.replicate 8 (.int .u32 0)⟩),
  (174, ⟨5, 1, 24, 46, [], [], [.slice none 0 0]⟩),
  (178, ⟨6, 8, 32, 71, [8], [], List.replicate 8 (.int .u32 0)⟩),
  (181, ⟨7, 11, 72, 0, [0, 8, 9, 10], [8, 1, 1, 1], [.int .u32 0, .int .u32 0, .int .u32 0, .int .u32 0, .int .u32 0, .int .u32 0, .int .u32 0, .int .u32 0, .slice none 0 0, .int .i64 0, .bool false]⟩),
  (188, ⟨4, 1, 8, 266, [], [], [.pointer none]⟩),
  (191, ⟨5, 1, 24, 195, [], [], [.slice none 0 0]⟩),
  (195, ⟨7, 2, 32, 0, [0, 1], [1, 1], [.int .i64 0, .slice none 0 0]⟩),
  (201, ⟨7, 2, 16, 0, [0, 1], [1, 1], [.int .i64 0, .int .i64 0]⟩),
  (207, ⟨8, 1, 8, 0, [], [], [.nilFunc]⟩),
  (214, ⟨8, 1, 8, 0, [], [], [.nilFunc]⟩),
  (215, ⟨8, 1, 8, 0, [], [], [.nilFunc]⟩),
  (217, ⟨7, 2, 16, 0, [0, 1], [1, 1], [.nilFunc, .nilFunc]⟩),
  (219, ⟨9, 1, 8, 217, [], [], [.map none]⟩),
  (224, ⟨5, 1, 24, 52, [], [], [.slice none 0 0]⟩),
  (225, ⟨5, 1, 24, 224, [], [], [.slice none 0 0]⟩),
  (227, ⟨7, 2, 48, 0, [0, 1], [1, 1], [.slice none 0 0, .slice none 0 0]⟩),
  (230, ⟨8, 1, 8, 0, [], [], [.nilFunc]⟩),
  (238, ⟨8, 1, 8, 0, [], [], [.nilFunc]⟩),
  (240, ⟨8, 1, 8, 0, [], [], [.nilFunc]⟩),
  (259, ⟨7, 2, 32, 0, [0, 1], [1, 1], [.int .i64 0, .slice none 0 0]⟩),
  (263, ⟨7, 1, 24, 0, [0], [1], [.slice none 0 0]⟩),
  (264, ⟨5, 1, 24, 259, [], [], [.slice none 0 0]⟩),
  (266, ⟨7, 5, 88, 0, [0, 1, 2, 3, 4], [1, 1, 1, 1, 1], [.slice none 0 0, .slice none 0 0, .slice none 0 0, .int .i64 0, .int .i64 0]⟩),
  (270, ⟨5, 1, 24, 9, [], [], [.slice none 0 0]⟩),
  (273, ⟨4, 1, 8, 275, [], [], [.pointer none]⟩),
  (275, ⟨7, 95, 272, 0, [0, 2, 3, 4, 5, 15, 25, 94], [2, 1, 1, 1, 10, 10, 69, 1], [.int .i64 0, .slice none 0 0, .slice none 0 0, .slice none 0 0, .int .i64 0, .bool false, .bool false, .bool false, .bool false, .bool false, .bool false, .bool false, .bool false, .bool false, .bool false, .int .u32 0, .int .u32 0, .int .u32 0, .int .u32 0, .int .u32 0, .int .u32 0, .int .u32 0, .int .u32 0, .int .u32 0, .int .u32 0, .int .i64 0, .int .i64 0, .int .i64 0, .int .u32 0, .slice none 0 0, .int .u8 0, .int .u8 0, .int .u8 0, .int .u8 0, .int .u8 0, .int .u8 0, .int .u8 0, .int .u8 0, .int .u8 0, .int .u8 0, .int .u8 0, .int .u8 0, .int .u8 0, .int .u8 0, .int .u8 0, .int .u8 0, .int .u8 0, .int .u8 0, .int .u8 0, .int .u8 0, .int .u8 0, .int .u8 0, .int .u8 0, .int .u8 0, .int .u8 0, .int .u8 0, .int .u8 0, .int .u8 0, .int .u8 0, .int .u8 0, .int .u8 0, .int .u8 0, .int .u8 0, .int .u8 0, .int .u8 0, .int .u8 0, .int .u8 0, .int .u8 0, .int .u8 0, .int .u8 0, .int .u8 0, .int .u8 0, .int .u8 0, .int .u8 0, .int .u8 0, .int .u8 0, .int .u8 0, .int .u8 0, .int .u8 0, .int .u8 0, .int .u8 0, .int .u8 0, .int .u8 0, .int .u8 0, .int .u8 0, .int .u8 0, .int .u8 0, .int .u8 0, .int .u8 0, .int .u8 0, .int .u8 0, .int .u8 0, .int .u8 0, .int .u8 0, .nilFunc]⟩),
  (278, ⟨5, 1, 24, 2, [], [], [.slice none 0 0]⟩),
  (281, ⟨5, 1, 24, 45, [], [], [.slice none 0 0]⟩),
  (283, ⟨8, 1, 8, 0, [], [], [.nilFunc]⟩),
  (284, ⟨4, 1, 8, 107, [], [], [.pointer none]⟩),
  (289, ⟨4, 1, 8, 121, [], [], [.pointer none]⟩),
  (297, ⟨5, 1, 24, 3, [], [], [.slice none 0 0]⟩),
  (303, ⟨7, 1, 8, 0, [0], [1], [.int .i64 0]⟩),
  (308, ⟨7, 2, 24, 0, [0, 1], [1, 1], [.string ⟨#[]⟩, .int .i64 0]⟩),
  (318, ⟨8, 1, 8, 0, [], [], [.nilFunc]⟩),
  (319, ⟨6, 16, 128, 318, [16], [], List.replicate 16 (.nilFunc)⟩),
  (321, ⟨6, 50, 600, 308, [25], [], [.string ⟨#[]⟩, .int .i64 0, .string ⟨#[]⟩, .int .i64 0, .string ⟨#[]⟩, .int .i64 0, .string ⟨#[]⟩, .int .i64 0, .string ⟨#[]⟩, .int .i64 0, .string ⟨#[]⟩, .int .i64 0, .string ⟨#[]⟩, .int .i64 0, .string ⟨#[]⟩, .int .i64 0, .string ⟨#[]⟩, .int .i64 0, .string ⟨#[]⟩, .int .i64 0, .string ⟨#[]⟩, .int .i64 0, .string ⟨#[]⟩, .int .i64 0, .string ⟨#[]⟩, .int .i64 0, .string ⟨#[]⟩, .int .i64 0, .string ⟨#[]⟩, .int .i64 0, .string ⟨#[]⟩, .int .i64 0, .string ⟨#[]⟩, .int .i64 0, .string ⟨#[]⟩, .int .i64 0, .string ⟨#[]⟩, .int .i64 0, .string ⟨#[]⟩, .int .i64 0, .string ⟨#[]⟩, .int .i64 0, .string ⟨#[]⟩, .int .i64 0, .string ⟨#[]⟩, .int .i64 0, .string ⟨#[]⟩, .int .i64 0, .string ⟨#[]⟩, .int .i64 0]⟩)]
theorem ty2 : TyOK Try.prog 2 ⟨1, 1, 8, 0, [], [], [.int .i64 0]⟩ := ⟨⟨Try.t2, by kernel_rfl, rfl, rfl, by kernel_rfl⟩, ⟨_, Try.underlying2, ⟨rfl, _, rfl⟩⟩⟩
theorem ty3 : TyOK Try.prog 3 ⟨1, 1, 8, 0, [], [], [.int .i64 0]⟩ := ⟨⟨Try.t3, by kernel_rfl, rfl, rfl, by kernel_rfl⟩, ⟨_, Try.underlying3, ⟨rfl, _, rfl⟩⟩⟩
theorem ty4 : TyOK Try.prog 4 ⟨2, 1, 1, 0, [], [], [.bool false]⟩ := ⟨⟨Try.t4, by kernel_rfl, rfl, rfl, by kernel_rfl⟩, ⟨_, Try.underlying4, ⟨rfl, trivial⟩⟩⟩
theorem ty5 : TyOK Try.prog 5 ⟨1, 1, 1, 0, [], [], [.int .u8 0]⟩ := ⟨⟨Try.t5, by kernel_rfl, rfl, rfl, by kernel_rfl⟩, ⟨_, Try.underlying5, ⟨rfl, _, rfl⟩⟩⟩
theorem ty9 : TyOK Try.prog 9 ⟨3, 1, 16, 0, [], [], [.string ⟨#[]⟩]⟩ := ⟨⟨Try.t9, by kernel_rfl, rfl, rfl, by kernel_rfl⟩, ⟨_, Try.underlying9, ⟨rfl, trivial⟩⟩⟩
theorem ty20 : TyOK Try.prog 20 ⟨10, 1, 16, 0, [], [], [.nilIface]⟩ := ⟨⟨Try.t20, by kernel_rfl, rfl, rfl, by kernel_rfl⟩, ⟨_, Try.underlying20, ⟨rfl, trivial⟩⟩⟩
theorem ty22 : TyOK Try.prog 22 ⟨5, 1, 24, 26, [], [], [.slice none 0 0]⟩ := ⟨⟨Try.t22, by kernel_rfl, rfl, rfl, by kernel_rfl⟩, ⟨_, Try.underlying22, ⟨rfl, rfl⟩⟩⟩
theorem ty23 : TyOK Try.prog 23 ⟨1, 1, 2, 0, [], [], [.int .u16 0]⟩ := ⟨⟨Try.t23, by kernel_rfl, rfl, rfl, by kernel_rfl⟩, ⟨_, Try.underlying23, ⟨rfl, _, rfl⟩⟩⟩
theorem ty24 : TyOK Try.prog 24 ⟨5, 1, 24, 5, [], [], [.slice none 0 0]⟩ := ⟨⟨Try.t24, by kernel_rfl, rfl, rfl, by kernel_rfl⟩, ⟨_, Try.underlying24, ⟨rfl, rfl⟩⟩⟩
theorem ty26 : TyOK Try.prog 26 ⟨7, 3, 40, 0, [0, 1, 2], [1, 1, 1], [.int .u8 0, .int .i64 0, .slice none 0 0]⟩ := ⟨⟨Try.t26, by kernel_rfl, rfl, rfl, by kernel_rfl⟩, ⟨_, Try.underlying26, ⟨rfl, rfl, by kernel_rfl, by kernel_rfl⟩⟩⟩
theorem ty27 : TyOK Try.prog 27 ⟨4, 1, 8, 155, [], [], [.pointer none]⟩ := ⟨⟨Try.t27, by kernel_rfl, rfl, rfl, by kernel_rfl⟩, ⟨_, Try.underlying27, ⟨rfl, trivial⟩⟩⟩
theorem ty30 : TyOK Try.prog 30 ⟨1, 1, 8, 0, [], [], [.int .i64 0]⟩ := ⟨⟨Try.t30, by kernel_rfl, rfl, rfl, by kernel_rfl⟩, ⟨_, Try.underlying30, ⟨rfl, _, rfl⟩⟩⟩
theorem ty32 : TyOK Try.prog 32 ⟨1, 1, 8, 0, [], [], [.int .u64 0]⟩ := ⟨⟨Try.t32, by kernel_rfl, rfl, rfl, by kernel_rfl⟩, ⟨_, Try.underlying32, ⟨rfl, _, rfl⟩⟩⟩
theorem ty40 : TyOK Try.prog 40 ⟨5, 1, 24, 24, [], [], [.slice none 0 0]⟩ := ⟨⟨Try.t40, by kernel_rfl, rfl, rfl, by kernel_rfl⟩, ⟨_, Try.underlying40, ⟨rfl, rfl⟩⟩⟩
theorem ty41 : TyOK Try.prog 41 ⟨4, 1, 8, 162, [], [], [.pointer none]⟩ := ⟨⟨Try.t41, by kernel_rfl, rfl, rfl, by kernel_rfl⟩, ⟨_, Try.underlying41, ⟨rfl, trivial⟩⟩⟩
theorem ty45 : TyOK Try.prog 45 ⟨8, 1, 8, 0, [], [], [.nilFunc]⟩ := ⟨⟨Try.t45, by kernel_rfl, rfl, rfl, by kernel_rfl⟩, ⟨_, Try.underlying45, ⟨rfl, trivial⟩⟩⟩
theorem ty46 : TyOK Try.prog 46 ⟨1, 1, 8, 0, [], [], [.int .u64 0]⟩ := ⟨⟨Try.t46, by kernel_rfl, rfl, rfl, by kernel_rfl⟩, ⟨_, Try.underlying46, ⟨rfl, _, rfl⟩⟩⟩
theorem ty52 : TyOK Try.prog 52 ⟨6, 32, 32, 5, [32], [], List.replicate 32 (.int .u8 0)⟩ := ⟨⟨Try.t52, by kernel_rfl, rfl, rfl, by kernel_rfl⟩, ⟨_, Try.underlying52, ⟨rfl, rfl, rfl⟩⟩⟩
theorem ty54 : TyOK Try.prog 54 ⟨4, 1, 8, 181, [], [], [.pointer none]⟩ := ⟨⟨Try.t54, by kernel_rfl, rfl, rfl, by kernel_rfl⟩, ⟨_, Try.underlying54, ⟨rfl, trivial⟩⟩⟩
theorem ty66 : TyOK Try.prog 66 ⟨5, 1, 24, 68, [], [], [.slice none 0 0]⟩ := ⟨⟨Try.t66, by kernel_rfl, rfl, rfl, by kernel_rfl⟩, ⟨_, Try.underlying66, ⟨rfl, rfl⟩⟩⟩
theorem ty68 : TyOK Try.prog 68 ⟨6, 4, 4, 5, [4], [], [.int .u8 0, .int .u8 0, .int .u8 0, .int .u8 0]⟩ := ⟨⟨Try.t68, by kernel_rfl, rfl, rfl, by kernel_rfl⟩, ⟨_, Try.underlying68, ⟨rfl, rfl, rfl⟩⟩⟩
theorem ty69 : TyOK Try.prog 69 ⟨5, 1, 24, 74, [], [], [.slice none 0 0]⟩ := ⟨⟨Try.t69, by kernel_rfl, rfl, rfl, by kernel_rfl⟩, ⟨_, Try.underlying69, ⟨rfl, rfl⟩⟩⟩
theorem ty70 : TyOK Try.prog 70 ⟨5, 1, 24, 71, [], [], [.slice none 0 0]⟩ := ⟨⟨Try.t70, by kernel_rfl, rfl, rfl, by kernel_rfl⟩, ⟨_, Try.underlying70, ⟨rfl, rfl⟩⟩⟩
theorem ty71 : TyOK Try.prog 71 ⟨1, 1, 4, 0, [], [], [.int .u32 0]⟩ := ⟨⟨Try.t71, by kernel_rfl, rfl, rfl, by kernel_rfl⟩, ⟨_, Try.underlying71, ⟨rfl, _, rfl⟩⟩⟩
theorem ty72 : TyOK Try.prog 72 ⟨1, 1, 2, 0, [], [], [.int .i16 0]⟩ := ⟨⟨Try.t72, by kernel_rfl, rfl, rfl, by kernel_rfl⟩, ⟨_, Try.underlying72, ⟨rfl, _, rfl⟩⟩⟩
theorem ty74 : TyOK Try.prog 74 ⟨7, 5, 12, 0, [0, 1, 2, 3, 4], [1, 1, 1, 1, 1], [.int .u8 0, .int .u8 0, .int .u8 0, .int .i16 0, .int .u32 0]⟩ := ⟨⟨Try.t74, by kernel_rfl, rfl, rfl, by kernel_rfl⟩, ⟨_, Try.underlying74, ⟨rfl, rfl, by kernel_rfl, by kernel_rfl⟩⟩⟩
theorem ty75 : TyOK Try.prog 75 ⟨5, 1, 24, 69, [], [], [.slice none 0 0]⟩ := ⟨⟨Try.t75, by kernel_rfl, rfl, rfl, by kernel_rfl⟩, ⟨_, Try.underlying75, ⟨rfl, rfl⟩⟩⟩
theorem ty76 : TyOK Try.prog 76 ⟨5, 1, 24, 81, [], [], [.slice none 0 0]⟩ := ⟨⟨Try.t76, by kernel_rfl, rfl, rfl, by kernel_rfl⟩, ⟨_, Try.underlying76, ⟨rfl, rfl⟩⟩⟩
theorem ty78 : TyOK Try.prog 78 ⟨7, 2, 32, 0, [0, 1], [1, 1], [.int .i64 0, .slice none 0 0]⟩ := ⟨⟨Try.t78, by kernel_rfl, rfl, rfl, by kernel_rfl⟩, ⟨_, Try.underlying78, ⟨rfl, rfl, by kernel_rfl, by kernel_rfl⟩⟩⟩
theorem ty79 : TyOK Try.prog 79 ⟨1, 1, 8, 0, [], [], [.int .i64 0]⟩ := ⟨⟨Try.t79, by kernel_rfl, rfl, rfl, by kernel_rfl⟩, ⟨_, Try.underlying79, ⟨rfl, _, rfl⟩⟩⟩
theorem ty81 : TyOK Try.prog 81 ⟨7, 5, 40, 0, [0, 1, 2, 3, 4], [1, 1, 1, 1, 1], [.int .i64 0, .int .i64 0, .int .i64 0, .int .i64 0, .int .u32 0]⟩ := ⟨⟨Try.t81, by kernel_rfl, rfl, rfl, by kernel_rfl⟩, ⟨_, Try.underlying81, ⟨rfl, rfl, by kernel_rfl, by kernel_rfl⟩⟩⟩
theorem ty83 : TyOK Try.prog 83 ⟨1, 1, 8, 0, [], [], [.int .i64 0]⟩ := ⟨⟨Try.t83, by kernel_rfl, rfl, rfl, by kernel_rfl⟩, ⟨_, Try.underlying83, ⟨rfl, _, rfl⟩⟩⟩
theorem ty84 : TyOK Try.prog 84 ⟨5, 1, 24, 103, [], [], [.slice none 0 0]⟩ := ⟨⟨Try.t84, by kernel_rfl, rfl, rfl, by kernel_rfl⟩, ⟨_, Try.underlying84, ⟨rfl, rfl⟩⟩⟩
theorem ty85 : TyOK Try.prog 85 ⟨6, 64, 64, 5, [64], [], List.replicate 64 (.int .u8 0)⟩ := ⟨⟨Try.t85, by kernel_rfl, rfl, rfl, by kernel_rfl⟩, ⟨_, Try.underlying85, ⟨rfl, rfl, rfl⟩⟩⟩
theorem ty87 : TyOK Try.prog 87 ⟨7, 69, 120, 0, [0, 1, 2, 3, 4, 5], [1, 1, 1, 1, 1, 64], [.int .i64 0, .int .i64 0, .int .i64 0, .int .u32 0, .slice none 0 0, .int .u8 0, .int .u8 0, .int .u8 0, .int .u8 0, .int .u8 0, .int .u8 0, .int .u8 0, .int .u8 0, .int .u8 0, .int .u8 0, .int .u8 0, .int .u8 0, .int .u8 0, .int .u8 0, .int .u8 0, .int .u8 0, .int .u8 0, .int .u8 0, .int .u8 0, .int .u8 0, .int .u8 0, .int .u8 0, .int .u8 0, .int .u8 0, .int .u8 0, .int .u8 0, .int .u8 0, .int .u8 0, .int .u8 0, .int .u8 0, .int .u8 0, .int .u8 0, .int .u8 0, .int .u8 0, .int .u8 0, .int .u8 0, .int .u8 0, .int .u8 0, .int .u8 0, .int .u8 0, .int .u8 0, .int .u8 0, .int .u8 0, .int .u8 0, .int .u8 0, .int .u8 0, .int .u8 0, .int .u8 0, .int .u8 0, .int .u8 0, .int .u8 0, .int .u8 0, .int .u8 0, .int .u8 0, .int .u8 0, .int .u8 0, .int .u8 0, .int .u8 0, .int .u8 0, .int .u8 0, .int .u8 0, .int .u8 0, .int .u8 0, .int .u8 0]⟩ := ⟨⟨Try.t87, by kernel_rfl, rfl, rfl, by kernel_rfl⟩, ⟨_, Try.underlying87, ⟨rfl, rfl, by kernel_rfl, by kernel_rfl⟩⟩⟩
theorem ty88 : TyOK Try.prog 88 ⟨5, 1, 24, 99, [], [], [.slice none 0 0]⟩ := ⟨⟨Try.t88, by kernel_rfl, rfl, rfl, by kernel_rfl⟩, ⟨_, Try.underlying88, ⟨rfl, rfl⟩⟩⟩
theorem ty96 : TyOK Try.prog 96 ⟨6, 10, 10, 4, [10], [], List.replicate 10 (.bool false)⟩ := ⟨⟨Try.t96, by kernel_rfl, rfl, rfl, by kernel_rfl⟩, ⟨_, Try.underlying96, ⟨rfl, rfl, rfl⟩⟩⟩
theorem ty97 : TyOK Try.prog 97 ⟨6, 10, 40, 71, [10], [], List.replicate 10 (.int .u32 0)⟩ := ⟨⟨Try.t97, by kernel_rfl, rfl, rfl, by kernel_rfl⟩, ⟨_, Try.underlying97, ⟨rfl, rfl, rfl⟩⟩⟩
theorem ty99 : TyOK Try.prog 99 ⟨7, 21, 64, 0, [0, 1, 11], [1, 10, 10], [.int .i64 0, .bool false, .bool false, .bool false, .bool false, .bool false, .bool false, .bool false, .bool false, .bool false, .bool false, .int .u32 0, .int .u32 0, .int .u32 0, .int .u32 0, .int .u32 0, .int .u32 0, .int .u32 0, .int .u32 0, .int .u32 0, .int .u32 0]⟩ := ⟨⟨Try.t99, by kernel_rfl, rfl, rfl, by kernel_rfl⟩, ⟨_, Try.underlying99, ⟨rfl, rfl, by kernel_rfl, by kernel_rfl⟩⟩⟩
theorem ty101 : TyOK Try.prog 101 ⟨6, 5, 20, 71, [5], [], List.replicate 5 (.int .u32 0)⟩ := ⟨⟨Try.t101, by kernel_rfl, rfl, rfl, by kernel_rfl⟩, ⟨_, Try.underlying101, ⟨rfl, rfl, rfl⟩⟩⟩
theorem ty103 : TyOK Try.prog 103 ⟨7, 6, 32, 0, [0, 1], [1, 5], [.int .i64 0, .int .u32 0, .int .u32 0, .int .u32 0, .int .u32 0, .int .u32 0]⟩ := ⟨⟨Try.t103, by kernel_rfl, rfl, rfl, by kernel_rfl⟩, ⟨_, Try.underlying103, ⟨rfl, rfl, by kernel_rfl, by kernel_rfl⟩⟩⟩
theorem ty105 : TyOK Try.prog 105 ⟨1, 1, 8, 0, [], [], [.int .i64 0]⟩ := ⟨⟨Try.t105, by kernel_rfl, rfl, rfl, by kernel_rfl⟩, ⟨_, Try.underlying105, ⟨rfl, _, rfl⟩⟩⟩
theorem ty107 : TyOK Try.prog 107 ⟨7, 5, 56, 0, [0, 1, 2, 3, 4], [1, 1, 1, 1, 1], [.int .i64 0, .int .i64 0, .int .i64 0, .int .i64 0, .slice none 0 0]⟩ := ⟨⟨Try.t107, by kernel_rfl, rfl, rfl, by kernel_rfl⟩, ⟨_, Try.underlying107, ⟨rfl, rfl, by kernel_rfl, by kernel_rfl⟩⟩⟩
theorem ty109 : TyOK Try.prog 109 ⟨1, 1, 8, 0, [], [], [.int .i64 0]⟩ := ⟨⟨Try.t109, by kernel_rfl, rfl, rfl, by kernel_rfl⟩, ⟨_, Try.underlying109, ⟨rfl, _, rfl⟩⟩⟩
theorem ty111 : TyOK Try.prog 111 ⟨7, 4, 32, 0, [0, 1, 2, 3], [1, 1, 1, 1], [.int .i64 0, .int .i64 0, .int .i64 0, .int .i64 0]⟩ := ⟨⟨Try.t111, by kernel_rfl, rfl, rfl, by kernel_rfl⟩, ⟨_, Try.underlying111, ⟨rfl, rfl, by kernel_rfl, by kernel_rfl⟩⟩⟩
theorem ty121 : TyOK Try.prog 121 ⟨7, 6, 48, 0, [0, 1, 5], [1, 4, 1], [.int .i64 0, .int .i64 0, .int .i64 0, .int .i64 0, .int .i64 0, .bool false]⟩ := ⟨⟨Try.t121, by kernel_rfl, rfl, rfl, by kernel_rfl⟩, ⟨_, Try.underlying121, ⟨rfl, rfl, by kernel_rfl, by kernel_rfl⟩⟩⟩
theorem ty123 : TyOK Try.prog 123 ⟨7, 11, 104, 0, [0, 5], [5, 6], [.int .i64 0, .int .i64 0, .int .i64 0, .int .i64 0, .slice none 0 0, .int .i64 0, .int .i64 0, .int .i64 0, .int .i64 0, .int .i64 0, .bool false]⟩ := ⟨⟨Try.t123, by kernel_rfl, rfl, rfl, by kernel_rfl⟩, ⟨_, Try.underlying123, ⟨rfl, rfl, by kernel_rfl, by kernel_rfl⟩⟩⟩
theorem ty128 : TyOK Try.prog 128 ⟨5, 1, 24, 52, [], [], [.slice none 0 0]⟩ := ⟨⟨Try.t128, by kernel_rfl, rfl, rfl, by kernel_rfl⟩, ⟨_, Try.underlying128, ⟨rfl, rfl⟩⟩⟩
theorem ty129 : TyOK Try.prog 129 ⟨5, 1, 24, 128, [], [], [.slice none 0 0]⟩ := ⟨⟨Try.t129, by kernel_rfl, rfl, rfl, by kernel_rfl⟩, ⟨_, Try.underlying129, ⟨rfl, rfl⟩⟩⟩
theorem ty131 : TyOK Try.prog 131 ⟨4, 1, 8, 227, [], [], [.pointer none]⟩ := ⟨⟨Try.t131, by kernel_rfl, rfl, rfl, by kernel_rfl⟩, ⟨_, Try.underlying131, ⟨rfl, trivial⟩⟩⟩
theorem ty149 : TyOK Try.prog 149 ⟨7, 34, 64, 0, [0, 32, 33], [32, 1, 1], [.int .u8 0, .int .u8 0, .int .u8 0, .int .u8 0, .int .u8 0, .int .u8 0, .int .u8 0, .int .u8 0, .int .u8 0, .int .u8 0, .int .u8 0, .int .u8 0, .int .u8 0, .int .u8 0, .int .u8 0, .int .u8 0, .int .u8 0, .int .u8 0, .int .u8 0, .int .u8 0, .int .u8 0, .int .u8 0, .int .u8 0, .int .u8 0, .int .u8 0, .int .u8 0, .int .u8 0, .int .u8 0, .int .u8 0, .int .u8 0, .int .u8 0, .int .u8 0, .int .i64 0, .slice none 0 0]⟩ := ⟨⟨Try.t149, by kernel_rfl, rfl, rfl, by kernel_rfl⟩, ⟨_, Try.underlying149, ⟨rfl, rfl, by kernel_rfl, by kernel_rfl⟩⟩⟩
theorem ty150 : TyOK Try.prog 150 ⟨5, 1, 24, 149, [], [], [.slice none 0 0]⟩ := ⟨⟨Try.t150, by kernel_rfl, rfl, rfl, by kernel_rfl⟩, ⟨_, Try.underlying150, ⟨rfl, rfl⟩⟩⟩
theorem ty155 : TyOK Try.prog 155 ⟨7, 2, 32, 0, [0, 1], [1, 1], [.slice none 0 0, .bool false]⟩ := ⟨⟨Try.t155, by kernel_rfl, rfl, rfl, by kernel_rfl⟩, ⟨_, Try.underlying155, ⟨rfl, rfl, by kernel_rfl, by kernel_rfl⟩⟩⟩
theorem ty160 : TyOK Try.prog 160 ⟨7, 2, 32, 0, [0, 1], [1, 1], [.slice none 0 0, .int .i64 0]⟩ := ⟨⟨Try.t160, by kernel_rfl, rfl, rfl, by kernel_rfl⟩, ⟨_, Try.underlying160, ⟨rfl, rfl, by kernel_rfl, by kernel_rfl⟩⟩⟩
theorem ty162 : TyOK Try.prog 162 ⟨7, 4, 48, 0, [0, 2, 3], [2, 1, 1], [.slice none 0 0, .int .i64 0, .int .i64 0, .bool false]⟩ := ⟨⟨Try.t162, by kernel_rfl, rfl, rfl, by kernel_rfl⟩, ⟨_, Try.underlying162, ⟨rfl, rfl, by kernel_rfl, by kernel_rfl⟩⟩⟩
theorem ty170 : TyOK Try.prog 170 ⟨8, 1, 8, 0, [], [], [.nilFunc]⟩ := ⟨⟨Try.t170, by kernel_rfl, rfl, rfl, by kernel_rfl⟩, ⟨_, Try.underlying170, ⟨rfl, trivial⟩⟩⟩
theorem ty172 : TyOK Try.prog 172 ⟨6, 64, 256, 71, [64], [], List.replicate 64 (.int .u32 0)⟩ := ⟨⟨Try.t172, by kernel_rfl, rfl, rfl, by kernel_rfl⟩, ⟨_, Try.underlying172, ⟨rfl, rfl, rfl⟩⟩⟩
theorem ty173 : TyOK Try.prog 173 ⟨6, 8, 32, 71, [8], [], List.replicate 8 (.int .u32 0)⟩ := ⟨⟨Try.t173, by kernel_rfl, rfl, rfl, by kernel_rfl⟩, ⟨_, Try.underlying173, ⟨rfl, rfl, rfl⟩⟩⟩
theorem ty174 : TyOK Try.prog 174 ⟨5, 1, 24, 46, [], [], [.slice none 0 0]⟩ := ⟨⟨Try.t174, by kernel_rfl, rfl, rfl, by kernel_rfl⟩, ⟨_, Try.underlying174, ⟨rfl, rfl⟩⟩⟩
theorem ty178 : TyOK Try.prog 178 ⟨6, 8, 32, 71, [8], [], List.replicate 8 (.int .u32 0)⟩ := ⟨⟨Try.t178, by kernel_rfl, rfl, rfl, by kernel_rfl⟩, ⟨_, Try.underlying178, ⟨rfl, rfl, rfl⟩⟩⟩
theorem ty181 : TyOK Try.prog 181 ⟨7, 11, 72, 0, [0, 8, 9, 10], [8, 1, 1, 1], [.int .u32 0, .int .u32 0, .int .u32 0, .int .u32 0, .int .u32 0, .int .u32 0, .int .u32 0, .int .u32 0, .slice none 0 0, .int .i64 0, .bool false]⟩ := ⟨⟨Try.t181, by kernel_rfl, rfl, rfl, by kernel_rfl⟩, ⟨_, Try.underlying181, ⟨rfl, rfl, by kernel_rfl, by kernel_rfl⟩⟩⟩
theorem ty188 : TyOK Try.prog 188 ⟨4, 1, 8, 266, [], [], [.pointer none]⟩ := ⟨⟨Try.t188, by kernel_rfl, rfl, rfl, by kernel_rfl⟩, ⟨_, Try.underlying188, ⟨rfl, trivial⟩⟩⟩
theorem ty191 : TyOK Try.prog 191 ⟨5, 1, 24, 195, [], [], [.slice none 0 0]⟩ := ⟨⟨Try.t191, by kernel_rfl, rfl, rfl, by kernel_rfl⟩, ⟨_, Try.underlying191, ⟨rfl, rfl⟩⟩⟩
theorem ty195 : TyOK Try.prog 195 ⟨7, 2, 32, 0, [0, 1], [1, 1], [.int .i64 0, .slice none 0 0]⟩ := ⟨⟨Try.t195, by kernel_rfl, rfl, rfl, by kernel_rfl⟩, ⟨_, Try.underlying195, ⟨rfl, rfl, by kernel_rfl, by kernel_rfl⟩⟩⟩
theorem ty201 : TyOK Try.prog 201 ⟨7, 2, 16, 0, [0, 1], [1, 1], [.int .i64 0, .int .i64 0]⟩ := ⟨⟨Try.t201, by kernel_rfl, rfl, rfl, by kernel_rfl⟩, ⟨_, Try.underlying201, ⟨rfl, rfl, by kernel_rfl, by kernel_rfl⟩⟩⟩
theorem ty207 : TyOK Try.prog 207 ⟨8, 1, 8, 0, [], [], [.nilFunc]⟩ := ⟨⟨Try.t207, by kernel_rfl, rfl, rfl, by kernel_rfl⟩, ⟨_, Try.underlying207, ⟨rfl, trivial⟩⟩⟩
theorem ty214 : TyOK Try.prog 214 ⟨8, 1, 8, 0, [], [], [.nilFunc]⟩ := ⟨⟨Try.t214, by kernel_rfl, rfl, rfl, by kernel_rfl⟩, ⟨_, Try.underlying214, ⟨rfl, trivial⟩⟩⟩
theorem ty215 : TyOK Try.prog 215 ⟨8, 1, 8, 0, [], [], [.nilFunc]⟩ := ⟨⟨Try.t215, by kernel_rfl, rfl, rfl, by kernel_rfl⟩, ⟨_, Try.underlying215, ⟨rfl, trivial⟩⟩⟩
theorem ty217 : TyOK Try.prog 217 ⟨7, 2, 16, 0, [0, 1], [1, 1], [.nilFunc, .nilFunc]⟩ := ⟨⟨Try.t217, by kernel_rfl, rfl, rfl, by kernel_rfl⟩, ⟨_, Try.underlying217, ⟨rfl, rfl, by kernel_rfl, by kernel_rfl⟩⟩⟩
theorem ty219 : TyOK Try.prog 219 ⟨9, 1, 8, 217, [], [], [.map none]⟩ := ⟨⟨Try.t219, by kernel_rfl, rfl, rfl, by kernel_rfl⟩, ⟨_, Try.underlying219, ⟨rfl, trivial⟩⟩⟩
theorem ty224 : TyOK Try.prog 224 ⟨5, 1, 24, 52, [], [], [.slice none 0 0]⟩ := ⟨⟨Try.t224, by kernel_rfl, rfl, rfl, by kernel_rfl⟩, ⟨_, Try.underlying224, ⟨rfl, rfl⟩⟩⟩
theorem ty225 : TyOK Try.prog 225 ⟨5, 1, 24, 224, [], [], [.slice none 0 0]⟩ := ⟨⟨Try.t225, by kernel_rfl, rfl, rfl, by kernel_rfl⟩, ⟨_, Try.underlying225, ⟨rfl, rfl⟩⟩⟩
theorem ty227 : TyOK Try.prog 227 ⟨7, 2, 48, 0, [0, 1], [1, 1], [.slice none 0 0, .slice none 0 0]⟩ := ⟨⟨Try.t227, by kernel_rfl, rfl, rfl, by kernel_rfl⟩, ⟨_, Try.underlying227, ⟨rfl, rfl, by kernel_rfl, by kernel_rfl⟩⟩⟩
theorem ty230 : TyOK Try.prog 230 ⟨8, 1, 8, 0, [], [], [.nilFunc]⟩ := ⟨⟨Try.t230, by kernel_rfl, rfl, rfl, by kernel_rfl⟩, ⟨_, Try.underlying230, ⟨rfl, trivial⟩⟩⟩
theorem ty238 : TyOK Try.prog 238 ⟨8, 1, 8, 0, [], [], [.nilFunc]⟩ := ⟨⟨Try.t238, by kernel_rfl, rfl, rfl, by kernel_rfl⟩, ⟨_, Try.underlying238, ⟨rfl, trivial⟩⟩⟩
theorem ty240 : TyOK Try.prog 240 ⟨8, 1, 8, 0, [], [], [.nilFunc]⟩ := ⟨⟨Try.t240, by kernel_rfl, rfl, rfl, by kernel_rfl⟩, ⟨_, Try.underlying240, ⟨rfl, trivial⟩⟩⟩
theorem ty259 : TyOK Try.prog 259 ⟨7, 2, 32, 0, [0, 1], [1, 1], [.int .i64 0, .slice none 0 0]⟩ := ⟨⟨Try.t259, by kernel_rfl, rfl, rfl, by kernel_rfl⟩, ⟨_, Try.underlying259, ⟨rfl, rfl, by kernel_rfl, by kernel_rfl⟩⟩⟩
theorem ty263 : TyOK Try.prog 263 ⟨7, 1, 24, 0, [0], [1], [.slice none 0 0]⟩ := ⟨⟨Try.t263, by kernel_rfl, rfl, rfl, by kernel_rfl⟩, ⟨_, Try.underlying263, ⟨rfl, rfl, by kernel_rfl, by kernel_rfl⟩⟩⟩
theorem ty264 : TyOK Try.prog 264 ⟨5, 1, 24, 259, [], [], [.slice none 0 0]⟩ := ⟨⟨Try.t264, by kernel_rfl, rfl, rfl, by kernel_rfl⟩, ⟨_, Try.underlying264, ⟨rfl, rfl⟩⟩⟩
theorem ty266 : TyOK Try.prog 266 ⟨7, 5, 88, 0, [0, 1, 2, 3, 4], [1, 1, 1, 1, 1], [.slice none 0 0, .slice none 0 0, .slice none 0 0, .int .i64 0, .int .i64 0]⟩ := ⟨⟨Try.t266, by kernel_rfl, rfl, rfl, by kernel_rfl⟩, ⟨_, Try.underlying266, ⟨rfl, rfl, by kernel_rfl, by kernel_rfl⟩⟩⟩
theorem ty270 : TyOK Try.prog 270 ⟨5, 1, 24, 9, [], [], [.slice none 0 0]⟩ := ⟨⟨Try.t270, by kernel_rfl, rfl, rfl, by kernel_rfl⟩, ⟨_, Try.underlying270, ⟨rfl, rfl⟩⟩⟩
theorem ty273 : TyOK Try.prog 273 ⟨4, 1, 8, 275, [], [], [.pointer none]⟩ := ⟨⟨Try.t273, by kernel_rfl, rfl, rfl, by kernel_rfl⟩, ⟨_, Try.underlying273, ⟨rfl, trivial⟩⟩⟩
theorem ty275 : TyOK Try.prog 275 ⟨7, 95, 272, 0, [0, 2, 3, 4, 5, 15, 25, 94], [2, 1, 1, 1, 10, 10, 69, 1], [.int .i64 0, .slice none 0 0, .slice none 0 0, .slice none 0 0, .int .i64 0, .bool false, .bool false, .bool false, .bool false, .bool false, .bool false, .bool false, .bool false, .bool false, .bool false, .int .u32 0, .int .u32 0, .int .u32 0, .int .u32 0, .int .u32 0, .int .u32 0, .int .u32 0, .int .u32 0, .int .u32 0, .int .u32 0, .int .i64 0, .int .i64 0, .int .i64 0, .int .u32 0, .slice none 0 0, .int .u8 0, .int .u8 0, .int .u8 0, .int .u8 0, .int .u8 0, .int .u8 0, .int .u8 0, .int .u8 0, .int .u8 0, .int .u8 0, .int .u8 0, .int .u8 0, .int .u8 0, .int .u8 0, .int .u8 0, .int .u8 0, .int .u8 0, .int .u8 0, .int .u8 0, .int .u8 0, .int .u8 0, .int .u8 0, .int .u8 0, .int .u8 0, .int .u8 0, .int .u8 0, .int .u8 0, .int .u8 0, .int .u8 0, .int .u8 0, .int .u8 0, .int .u8 0, .int .u8 0, .int .u8 0, .int .u8 0, .int .u8 0, .int .u8 0, .int .u8 0, .int .u8 0, .int .u8 0, .int .u8 0, .int .u8 0, .int .u8 0, .int .u8 0, .int .u8 0, .int .u8 0, .int .u8 0, .int .u8 0, .int .u8 0, .int .u8 0, .int .u8 0, .int .u8 0, .int .u8 0, .int .u8 0, .int .u8 0, .int .u8 0, .int .u8 0, .int .u8 0, .int .u8 0, .int .u8 0, .int .u8 0, .int .u8 0, .int .u8 0, .int .u8 0, .nilFunc]⟩ := ⟨⟨Try.t275, by kernel_rfl, rfl, rfl, by kernel_rfl⟩, ⟨_, Try.underlying275, ⟨rfl, rfl, by kernel_rfl, by kernel_rfl⟩⟩⟩
theorem ty278 : TyOK Try.prog 278 ⟨5, 1, 24, 2, [], [], [.slice none 0 0]⟩ := ⟨⟨Try.t278, by kernel_rfl, rfl, rfl, by kernel_rfl⟩, ⟨_, Try.underlying278, ⟨rfl, rfl⟩⟩⟩
theorem ty281 : TyOK Try.prog 281 ⟨5, 1, 24, 45, [], [], [.slice none 0 0]⟩ := ⟨⟨Try.t281, by kernel_rfl, rfl, rfl, by kernel_rfl⟩, ⟨_, Try.underlying281, ⟨rfl, rfl⟩⟩⟩
theorem ty283 : TyOK Try.prog 283 ⟨8, 1, 8, 0, [], [], [.nilFunc]⟩ := ⟨⟨Try.t283, by kernel_rfl, rfl, rfl, by kernel_rfl⟩, ⟨_, Try.underlying283, ⟨rfl, trivial⟩⟩⟩
theorem ty284 : TyOK Try.prog 284 ⟨4, 1, 8, 107, [], [], [.pointer none]⟩ := ⟨⟨Try.t284, by kernel_rfl, rfl, rfl, by kernel_rfl⟩, ⟨_, Try.underlying284, ⟨rfl, trivial⟩⟩⟩
theorem ty289 : TyOK Try.prog 289 ⟨4, 1, 8, 121, [], [], [.pointer none]⟩ := ⟨⟨Try.t289, by kernel_rfl, rfl, rfl, by kernel_rfl⟩, ⟨_, Try.underlying289, ⟨rfl, trivial⟩⟩⟩
theorem ty297 : TyOK Try.prog 297 ⟨5, 1, 24, 3, [], [], [.slice none 0 0]⟩ := ⟨⟨Try.t297, by kernel_rfl, rfl, rfl, by kernel_rfl⟩, ⟨_, Try.underlying297, ⟨rfl, rfl⟩⟩⟩
theorem ty303 : TyOK Try.prog 303 ⟨7, 1, 8, 0, [0], [1], [.int .i64 0]⟩ := ⟨⟨Try.t303, by kernel_rfl, rfl, rfl, by kernel_rfl⟩, ⟨_, Try.underlying303, ⟨rfl, rfl, by kernel_rfl, by kernel_rfl⟩⟩⟩
theorem ty308 : TyOK Try.prog 308 ⟨7, 2, 24, 0, [0, 1], [1, 1], [.string ⟨#[]⟩, .int .i64 0]⟩ := ⟨⟨Try.t308, by kernel_rfl, rfl, rfl, by kernel_rfl⟩, ⟨_, Try.underlying308, ⟨rfl, rfl, by kernel_rfl, by kernel_rfl⟩⟩⟩
theorem ty318 : TyOK Try.prog 318 ⟨8, 1, 8, 0, [], [], [.nilFunc]⟩ := ⟨⟨Try.t318, by kernel_rfl, rfl, rfl, by kernel_rfl⟩, ⟨_, Try.underlying318, ⟨rfl, trivial⟩⟩⟩
theorem ty319 : TyOK Try.prog 319 ⟨6, 16, 128, 318, [16], [], List.replicate 16 (.nilFunc)⟩ := ⟨⟨Try.t319, by kernel_rfl, rfl, rfl, by kernel_rfl⟩, ⟨_, Try.underlying319, ⟨rfl, rfl, rfl⟩⟩⟩
theorem ty321 : TyOK Try.prog 321 ⟨6, 50, 600, 308, [25], [], [.string ⟨#[]⟩, .int .i64 0, .string ⟨#[]⟩, .int .i64 0, .string ⟨#[]⟩, .int .i64 0, .string ⟨#[]⟩, .int .i64 0, .string ⟨#[]⟩, .int .i64 0, .string ⟨#[]⟩, .int .i64 0, .string ⟨#[]⟩, .int .i64 0, .string ⟨#[]⟩, .int .i64 0, .string ⟨#[]⟩, .int .i64 0, .string ⟨#[]⟩, .int .i64 0, .string ⟨#[]⟩, .int .i64 0, .string ⟨#[]⟩, .int .i64 0, .string ⟨#[]⟩, .int .i64 0, .string ⟨#[]⟩, .int .i64 0, .string ⟨#[]⟩, .int .i64 0, .string ⟨#[]⟩, .int .i64 0, .string ⟨#[]⟩, .int .i64 0, .string ⟨#[]⟩, .int .i64 0, .string ⟨#[]⟩, .int .i64 0, .string ⟨#[]⟩, .int .i64 0, .string ⟨#[]⟩, .int .i64 0, .string ⟨#[]⟩, .int .i64 0, .string ⟨#[]⟩, .int .i64 0, .string ⟨#[]⟩, .int .i64 0, .string ⟨#[]⟩, .int .i64 0]⟩ := ⟨⟨Try.t321, by kernel_rfl, rfl, rfl, by kernel_rfl⟩, ⟨_, Try.underlying321, ⟨rfl, rfl, rfl⟩⟩⟩
theorem ttOK : TabOK Try.prog tt := (TabOK.cons ty2 (TabOK.cons ty3 (TabOK.cons ty4 (TabOK.cons ty5 (TabOK.cons ty9 (TabOK.cons ty20 (TabOK.cons ty22 (TabOK.cons ty23 (TabOK.cons ty24 (TabOK.cons ty26 (TabOK.cons ty27 (TabOK.cons ty30 (TabOK.cons ty32 (TabOK.cons ty40 (TabOK.cons ty41 (TabOK.cons ty45 (TabOK.cons ty46 (TabOK.cons ty52 (TabOK.cons ty54 (TabOK.cons ty66 (TabOK.cons ty68 (TabOK.cons ty69 (TabOK.cons ty70 (TabOK.cons ty71 (TabOK.cons ty72 (TabOK.cons ty74 (TabOK.cons ty75 (TabOK.cons ty76 (TabOK.cons ty78 (TabOK.cons ty79 (TabOK.cons ty81 (TabOK.cons ty83 (TabOK.cons ty84 (TabOK.cons ty85 (TabOK.cons ty87 (TabOK.cons ty88 (TabOK.cons ty96 (TabOK.cons ty97 (TabOK.cons ty99 (TabOK.cons ty101 (TabOK.cons ty103 (TabOK.cons ty105 (TabOK.cons ty107 (TabOK.cons ty109 (TabOK.cons ty111 (TabOK.cons ty121 (TabOK.cons ty123 (TabOK.cons ty128 (TabOK.cons ty129 (TabOK.cons ty131 (TabOK.cons ty149 (TabOK.cons ty150 (TabOK.cons ty155 (TabOK.cons ty160 (TabOK.cons ty162 (TabOK.cons ty170 (TabOK.cons ty172 (TabOK.cons ty173 (TabOK.cons ty174 (TabOK.cons ty178 (TabOK.cons ty181 (TabOK.cons ty188 (TabOK.cons ty191 (TabOK.cons ty195 (TabOK.cons ty201 (TabOK.cons ty207 (TabOK.cons ty214 (TabOK.cons ty215 (TabOK.cons ty217 (TabOK.cons ty219 (TabOK.cons ty224 (TabOK.cons ty225 (TabOK.cons ty227 (TabOK.cons ty230 (TabOK.cons ty238 (TabOK.cons ty240 (TabOK.cons ty259 (TabOK.cons ty263 (TabOK.cons ty264 (TabOK.cons ty266 (TabOK.cons ty270 (TabOK.cons ty273 (TabOK.cons ty275 (TabOK.cons ty278 (TabOK.cons ty281 (TabOK.cons ty283 (TabOK.cons ty284 (TabOK.cons ty289 (TabOK.cons ty297 (TabOK.cons ty303 (TabOK.cons ty308 (TabOK.cons ty318 (TabOK.cons ty319 (TabOK.cons ty321 (TabOK.nil _)))))))))))))))))))))))))))))))))))))))))))))))))))))))))))))))))))))))))))))))))))))))))))))))
instance : TabC Try.prog tt := ⟨ttOK⟩
end Go.X
