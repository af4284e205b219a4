/- What the evaluator is told of this seat's program: its types, its functions' texts, the variables that no one writes; and that it is so. Printed by a program of this repo (wip/mkenv.py). -/
import Derived.Test.YtkjadjdcbpiebaaProg
import Derived.Test.YtkjadjdcbpiebaaEv20
import Derived.KernelRfl
namespace Go.Proofs.Ytkjadjdcbpiebaa
open Go Go.Ev
set_option maxRecDepth 100000
theorem tok1 : TOk Try.prog 1 { kind := .func, size := 1, bytes := 8, zero := .nilfn } := ⟨⟨_, Try.underlying1, _, _, _, rfl⟩, by kernel_rfl, by kernel_rfl, by kernel_rfl, zz_of (by kernel_rfl)⟩
theorem tok2 : TOk Try.prog 2 { kind := .int .i64, size := 1, bytes := 8, zero := .int .i64 0 } := ⟨⟨_, Try.underlying2, rfl⟩, by kernel_rfl, by kernel_rfl, by kernel_rfl, zz_of (by kernel_rfl)⟩
theorem tok3 : TOk Try.prog 3 { kind := .int .i64, size := 1, bytes := 8, zero := .int .i64 0 } := ⟨⟨_, Try.underlying3, rfl⟩, by kernel_rfl, by kernel_rfl, by kernel_rfl, zz_of (by kernel_rfl)⟩
theorem tok4 : TOk Try.prog 4 { kind := .bool, size := 1, bytes := 1, zero := .bool false } := ⟨⟨_, Try.underlying4, rfl⟩, by kernel_rfl, by kernel_rfl, by kernel_rfl, zz_of (by kernel_rfl)⟩
theorem tok5 : TOk Try.prog 5 { kind := .int .u8, size := 1, bytes := 1, zero := .int .u8 0 } := ⟨⟨_, Try.underlying5, rfl⟩, by kernel_rfl, by kernel_rfl, by kernel_rfl, zz_of (by kernel_rfl)⟩
theorem tok6 : TOk Try.prog 6 { kind := .int .u8, size := 1, bytes := 1, zero := .int .u8 0 } := ⟨⟨_, Try.underlying6, rfl⟩, by kernel_rfl, by kernel_rfl, by kernel_rfl, zz_of (by kernel_rfl)⟩
theorem tok7 : TOk Try.prog 7 { kind := .struct [(2, 0), (3, 1), (4, 2), (6, 3)], size := 4, bytes := 24, zero := .agg (.any [.int .i64 0, .int .i64 0, .bool false, .int .u8 0]) } := ⟨⟨_, Try.underlying7, _, rfl, rfl⟩, by kernel_rfl, by kernel_rfl, by kernel_rfl, zz_of (by kernel_rfl)⟩
theorem tok8 : TOk Try.prog 8 { kind := .struct [(2, 0), (3, 1), (4, 2), (6, 3)], size := 4, bytes := 24, zero := .agg (.any [.int .i64 0, .int .i64 0, .bool false, .int .u8 0]) } := ⟨⟨_, Try.underlying8, _, rfl, rfl⟩, by kernel_rfl, by kernel_rfl, by kernel_rfl, zz_of (by kernel_rfl)⟩
theorem tok9 : TOk Try.prog 9 { kind := .str, size := 1, bytes := 16, zero := .str ⟨#[]⟩ } := ⟨⟨_, Try.underlying9, rfl⟩, by kernel_rfl, by kernel_rfl, by kernel_rfl, zz_of (by kernel_rfl)⟩
theorem tok10 : TOk Try.prog 10 { kind := .str, size := 1, bytes := 16, zero := .str ⟨#[]⟩ } := ⟨⟨_, Try.underlying10, rfl⟩, by kernel_rfl, by kernel_rfl, by kernel_rfl, zz_of (by kernel_rfl)⟩
theorem tok11 : TOk Try.prog 11 { kind := .str, size := 1, bytes := 16, zero := .str ⟨#[]⟩ } := ⟨⟨_, Try.underlying11, rfl⟩, by kernel_rfl, by kernel_rfl, by kernel_rfl, zz_of (by kernel_rfl)⟩
theorem tok12 : TOk Try.prog 12 { kind := .int .u64, size := 1, bytes := 8, zero := .int .u64 0 } := ⟨⟨_, Try.underlying12, rfl⟩, by kernel_rfl, by kernel_rfl, by kernel_rfl, zz_of (by kernel_rfl)⟩
theorem tok13 : TOk Try.prog 13 { kind := .struct [(9, 0), (12, 1)], size := 2, bytes := 24, zero := .agg (.any [.str ⟨#[]⟩, .int .u64 0]) } := ⟨⟨_, Try.underlying13, _, rfl, rfl⟩, by kernel_rfl, by kernel_rfl, by kernel_rfl, zz_of (by kernel_rfl)⟩
theorem tok14 : TOk Try.prog 14 { kind := .struct [(9, 0), (12, 1)], size := 2, bytes := 24, zero := .agg (.any [.str ⟨#[]⟩, .int .u64 0]) } := ⟨⟨_, Try.underlying14, _, rfl, rfl⟩, by kernel_rfl, by kernel_rfl, by kernel_rfl, zz_of (by kernel_rfl)⟩
theorem tok15 : TOk Try.prog 15 { kind := .ptr 89, size := 1, bytes := 8, zero := .nilptr } := ⟨⟨_, Try.underlying15, rfl⟩, by kernel_rfl, by kernel_rfl, by kernel_rfl, zz_of (by kernel_rfl)⟩
theorem tok16 : TOk Try.prog 16 { kind := .ptr 92, size := 1, bytes := 8, zero := .nilptr } := ⟨⟨_, Try.underlying16, rfl⟩, by kernel_rfl, by kernel_rfl, by kernel_rfl, zz_of (by kernel_rfl)⟩
theorem tok17 : TOk Try.prog 17 { kind := .ptr 102, size := 1, bytes := 8, zero := .nilptr } := ⟨⟨_, Try.underlying17, rfl⟩, by kernel_rfl, by kernel_rfl, by kernel_rfl, zz_of (by kernel_rfl)⟩
theorem tok18 : TOk Try.prog 18 { kind := .struct [(17, 0)], size := 1, bytes := 8, zero := .agg (.any [.nilptr]) } := ⟨⟨_, Try.underlying18, _, rfl, rfl⟩, by kernel_rfl, by kernel_rfl, by kernel_rfl, zz_of (by kernel_rfl)⟩
theorem tok19 : TOk Try.prog 19 { kind := .struct [(17, 0)], size := 1, bytes := 8, zero := .agg (.any [.nilptr]) } := ⟨⟨_, Try.underlying19, _, rfl, rfl⟩, by kernel_rfl, by kernel_rfl, by kernel_rfl, zz_of (by kernel_rfl)⟩
theorem tok20 : TOk Try.prog 20 { kind := .iface, size := 1, bytes := 16, zero := .nilif } := ⟨⟨_, Try.underlying20, _, rfl⟩, by kernel_rfl, by kernel_rfl, by kernel_rfl, zz_of (by kernel_rfl)⟩
theorem tok21 : TOk Try.prog 21 { kind := .int .i32, size := 1, bytes := 4, zero := .int .i32 0 } := ⟨⟨_, Try.underlying21, rfl⟩, by kernel_rfl, by kernel_rfl, by kernel_rfl, zz_of (by kernel_rfl)⟩
theorem tok22 : TOk Try.prog 22 { kind := .slice 32, size := 1, bytes := 24, zero := .esl } := ⟨⟨_, Try.underlying22, rfl⟩, by kernel_rfl, by kernel_rfl, by kernel_rfl, zz_of (by kernel_rfl)⟩
theorem tok23 : TOk Try.prog 23 { kind := .struct [(3, 0), (22, 1)], size := 2, bytes := 32, zero := .agg (.any [.int .i64 0, .esl]) } := ⟨⟨_, Try.underlying23, _, rfl, rfl⟩, by kernel_rfl, by kernel_rfl, by kernel_rfl, zz_of (by kernel_rfl)⟩
theorem tok24 : TOk Try.prog 24 { kind := .struct [(3, 0), (22, 1)], size := 2, bytes := 32, zero := .agg (.any [.int .i64 0, .esl]) } := ⟨⟨_, Try.underlying24, _, rfl, rfl⟩, by kernel_rfl, by kernel_rfl, by kernel_rfl, zz_of (by kernel_rfl)⟩
theorem tok25 : TOk Try.prog 25 { kind := .func, size := 1, bytes := 8, zero := .nilfn } := ⟨⟨_, Try.underlying25, _, _, _, rfl⟩, by kernel_rfl, by kernel_rfl, by kernel_rfl, zz_of (by kernel_rfl)⟩
theorem tok26 : TOk Try.prog 26 { kind := .func, size := 1, bytes := 8, zero := .nilfn } := ⟨⟨_, Try.underlying26, _, _, _, rfl⟩, by kernel_rfl, by kernel_rfl, by kernel_rfl, zz_of (by kernel_rfl)⟩
theorem tok27 : TOk Try.prog 27 { kind := .int .i64, size := 1, bytes := 8, zero := .int .i64 0 } := ⟨⟨_, Try.underlying27, rfl⟩, by kernel_rfl, by kernel_rfl, by kernel_rfl, zz_of (by kernel_rfl)⟩
theorem tok29 : TOk Try.prog 29 { kind := .func, size := 1, bytes := 8, zero := .nilfn } := ⟨⟨_, Try.underlying29, _, _, _, rfl⟩, by kernel_rfl, by kernel_rfl, by kernel_rfl, zz_of (by kernel_rfl)⟩
theorem tok30 : TOk Try.prog 30 { kind := .func, size := 1, bytes := 8, zero := .nilfn } := ⟨⟨_, Try.underlying30, _, _, _, rfl⟩, by kernel_rfl, by kernel_rfl, by kernel_rfl, zz_of (by kernel_rfl)⟩
theorem tok31 : TOk Try.prog 31 { kind := .func, size := 1, bytes := 8, zero := .nilfn } := ⟨⟨_, Try.underlying31, _, _, _, rfl⟩, by kernel_rfl, by kernel_rfl, by kernel_rfl, zz_of (by kernel_rfl)⟩
theorem tok32 : TOk Try.prog 32 { kind := .int .u64, size := 1, bytes := 8, zero := .int .u64 0 } := ⟨⟨_, Try.underlying32, rfl⟩, by kernel_rfl, by kernel_rfl, by kernel_rfl, zz_of (by kernel_rfl)⟩
theorem tok34 : TOk Try.prog 34 { kind := .func, size := 1, bytes := 8, zero := .nilfn } := ⟨⟨_, Try.underlying34, _, _, _, rfl⟩, by kernel_rfl, by kernel_rfl, by kernel_rfl, zz_of (by kernel_rfl)⟩
theorem tok35 : TOk Try.prog 35 { kind := .int .u64, size := 1, bytes := 8, zero := .int .u64 0 } := ⟨⟨_, Try.underlying35, rfl⟩, by kernel_rfl, by kernel_rfl, by kernel_rfl, zz_of (by kernel_rfl)⟩
theorem tok36 : TOk Try.prog 36 { kind := .func, size := 1, bytes := 8, zero := .nilfn } := ⟨⟨_, Try.underlying36, _, _, _, rfl⟩, by kernel_rfl, by kernel_rfl, by kernel_rfl, zz_of (by kernel_rfl)⟩
theorem tok38 : TOk Try.prog 38 { kind := .func, size := 1, bytes := 8, zero := .nilfn } := ⟨⟨_, Try.underlying38, _, _, _, rfl⟩, by kernel_rfl, by kernel_rfl, by kernel_rfl, zz_of (by kernel_rfl)⟩
theorem tok40 : TOk Try.prog 40 { kind := .func, size := 1, bytes := 8, zero := .nilfn } := ⟨⟨_, Try.underlying40, _, _, _, rfl⟩, by kernel_rfl, by kernel_rfl, by kernel_rfl, zz_of (by kernel_rfl)⟩
theorem tok41 : TOk Try.prog 41 { kind := .func, size := 1, bytes := 8, zero := .nilfn } := ⟨⟨_, Try.underlying41, _, _, _, rfl⟩, by kernel_rfl, by kernel_rfl, by kernel_rfl, zz_of (by kernel_rfl)⟩
theorem tok42 : TOk Try.prog 42 { kind := .func, size := 1, bytes := 8, zero := .nilfn } := ⟨⟨_, Try.underlying42, _, _, _, rfl⟩, by kernel_rfl, by kernel_rfl, by kernel_rfl, zz_of (by kernel_rfl)⟩
theorem tok43 : TOk Try.prog 43 { kind := .func, size := 1, bytes := 8, zero := .nilfn } := ⟨⟨_, Try.underlying43, _, _, _, rfl⟩, by kernel_rfl, by kernel_rfl, by kernel_rfl, zz_of (by kernel_rfl)⟩
theorem tok44 : TOk Try.prog 44 { kind := .func, size := 1, bytes := 8, zero := .nilfn } := ⟨⟨_, Try.underlying44, _, _, _, rfl⟩, by kernel_rfl, by kernel_rfl, by kernel_rfl, zz_of (by kernel_rfl)⟩
theorem tok45 : TOk Try.prog 45 { kind := .func, size := 1, bytes := 8, zero := .nilfn } := ⟨⟨_, Try.underlying45, _, _, _, rfl⟩, by kernel_rfl, by kernel_rfl, by kernel_rfl, zz_of (by kernel_rfl)⟩
theorem tok46 : TOk Try.prog 46 { kind := .func, size := 1, bytes := 8, zero := .nilfn } := ⟨⟨_, Try.underlying46, _, _, _, rfl⟩, by kernel_rfl, by kernel_rfl, by kernel_rfl, zz_of (by kernel_rfl)⟩
theorem tok47 : TOk Try.prog 47 { kind := .func, size := 1, bytes := 8, zero := .nilfn } := ⟨⟨_, Try.underlying47, _, _, _, rfl⟩, by kernel_rfl, by kernel_rfl, by kernel_rfl, zz_of (by kernel_rfl)⟩
theorem tok48 : TOk Try.prog 48 { kind := .func, size := 1, bytes := 8, zero := .nilfn } := ⟨⟨_, Try.underlying48, _, _, _, rfl⟩, by kernel_rfl, by kernel_rfl, by kernel_rfl, zz_of (by kernel_rfl)⟩
theorem tok49 : TOk Try.prog 49 { kind := .func, size := 1, bytes := 8, zero := .nilfn } := ⟨⟨_, Try.underlying49, _, _, _, rfl⟩, by kernel_rfl, by kernel_rfl, by kernel_rfl, zz_of (by kernel_rfl)⟩
theorem tok51 : TOk Try.prog 51 { kind := .func, size := 1, bytes := 8, zero := .nilfn } := ⟨⟨_, Try.underlying51, _, _, _, rfl⟩, by kernel_rfl, by kernel_rfl, by kernel_rfl, zz_of (by kernel_rfl)⟩
theorem tok52 : TOk Try.prog 52 { kind := .func, size := 1, bytes := 8, zero := .nilfn } := ⟨⟨_, Try.underlying52, _, _, _, rfl⟩, by kernel_rfl, by kernel_rfl, by kernel_rfl, zz_of (by kernel_rfl)⟩
theorem tok54 : TOk Try.prog 54 { kind := .func, size := 1, bytes := 8, zero := .nilfn } := ⟨⟨_, Try.underlying54, _, _, _, rfl⟩, by kernel_rfl, by kernel_rfl, by kernel_rfl, zz_of (by kernel_rfl)⟩
theorem tok55 : TOk Try.prog 55 { kind := .func, size := 1, bytes := 8, zero := .nilfn } := ⟨⟨_, Try.underlying55, _, _, _, rfl⟩, by kernel_rfl, by kernel_rfl, by kernel_rfl, zz_of (by kernel_rfl)⟩
theorem tok56 : TOk Try.prog 56 { kind := .func, size := 1, bytes := 8, zero := .nilfn } := ⟨⟨_, Try.underlying56, _, _, _, rfl⟩, by kernel_rfl, by kernel_rfl, by kernel_rfl, zz_of (by kernel_rfl)⟩
theorem tok58 : TOk Try.prog 58 { kind := .func, size := 1, bytes := 8, zero := .nilfn } := ⟨⟨_, Try.underlying58, _, _, _, rfl⟩, by kernel_rfl, by kernel_rfl, by kernel_rfl, zz_of (by kernel_rfl)⟩
theorem tok59 : TOk Try.prog 59 { kind := .func, size := 1, bytes := 8, zero := .nilfn } := ⟨⟨_, Try.underlying59, _, _, _, rfl⟩, by kernel_rfl, by kernel_rfl, by kernel_rfl, zz_of (by kernel_rfl)⟩
theorem tok60 : TOk Try.prog 60 { kind := .func, size := 1, bytes := 8, zero := .nilfn } := ⟨⟨_, Try.underlying60, _, _, _, rfl⟩, by kernel_rfl, by kernel_rfl, by kernel_rfl, zz_of (by kernel_rfl)⟩
theorem tok61 : TOk Try.prog 61 { kind := .slice 4, size := 1, bytes := 24, zero := .esl } := ⟨⟨_, Try.underlying61, rfl⟩, by kernel_rfl, by kernel_rfl, by kernel_rfl, zz_of (by kernel_rfl)⟩
theorem tok62 : TOk Try.prog 62 { kind := .func, size := 1, bytes := 8, zero := .nilfn } := ⟨⟨_, Try.underlying62, _, _, _, rfl⟩, by kernel_rfl, by kernel_rfl, by kernel_rfl, zz_of (by kernel_rfl)⟩
theorem tok63 : TOk Try.prog 63 { kind := .func, size := 1, bytes := 8, zero := .nilfn } := ⟨⟨_, Try.underlying63, _, _, _, rfl⟩, by kernel_rfl, by kernel_rfl, by kernel_rfl, zz_of (by kernel_rfl)⟩
theorem tok64 : TOk Try.prog 64 { kind := .func, size := 1, bytes := 8, zero := .nilfn } := ⟨⟨_, Try.underlying64, _, _, _, rfl⟩, by kernel_rfl, by kernel_rfl, by kernel_rfl, zz_of (by kernel_rfl)⟩
theorem tok65 : TOk Try.prog 65 { kind := .func, size := 1, bytes := 8, zero := .nilfn } := ⟨⟨_, Try.underlying65, _, _, _, rfl⟩, by kernel_rfl, by kernel_rfl, by kernel_rfl, zz_of (by kernel_rfl)⟩
theorem tok66 : TOk Try.prog 66 { kind := .func, size := 1, bytes := 8, zero := .nilfn } := ⟨⟨_, Try.underlying66, _, _, _, rfl⟩, by kernel_rfl, by kernel_rfl, by kernel_rfl, zz_of (by kernel_rfl)⟩
theorem tok67 : TOk Try.prog 67 { kind := .func, size := 1, bytes := 8, zero := .nilfn } := ⟨⟨_, Try.underlying67, _, _, _, rfl⟩, by kernel_rfl, by kernel_rfl, by kernel_rfl, zz_of (by kernel_rfl)⟩
theorem tok68 : TOk Try.prog 68 { kind := .func, size := 1, bytes := 8, zero := .nilfn } := ⟨⟨_, Try.underlying68, _, _, _, rfl⟩, by kernel_rfl, by kernel_rfl, by kernel_rfl, zz_of (by kernel_rfl)⟩
theorem tok69 : TOk Try.prog 69 { kind := .func, size := 1, bytes := 8, zero := .nilfn } := ⟨⟨_, Try.underlying69, _, _, _, rfl⟩, by kernel_rfl, by kernel_rfl, by kernel_rfl, zz_of (by kernel_rfl)⟩
theorem tok70 : TOk Try.prog 70 { kind := .func, size := 1, bytes := 8, zero := .nilfn } := ⟨⟨_, Try.underlying70, _, _, _, rfl⟩, by kernel_rfl, by kernel_rfl, by kernel_rfl, zz_of (by kernel_rfl)⟩
theorem tok71 : TOk Try.prog 71 { kind := .func, size := 1, bytes := 8, zero := .nilfn } := ⟨⟨_, Try.underlying71, _, _, _, rfl⟩, by kernel_rfl, by kernel_rfl, by kernel_rfl, zz_of (by kernel_rfl)⟩
theorem tok72 : TOk Try.prog 72 { kind := .func, size := 1, bytes := 8, zero := .nilfn } := ⟨⟨_, Try.underlying72, _, _, _, rfl⟩, by kernel_rfl, by kernel_rfl, by kernel_rfl, zz_of (by kernel_rfl)⟩
theorem tok73 : TOk Try.prog 73 { kind := .func, size := 1, bytes := 8, zero := .nilfn } := ⟨⟨_, Try.underlying73, _, _, _, rfl⟩, by kernel_rfl, by kernel_rfl, by kernel_rfl, zz_of (by kernel_rfl)⟩
theorem tok74 : TOk Try.prog 74 { kind := .func, size := 1, bytes := 8, zero := .nilfn } := ⟨⟨_, Try.underlying74, _, _, _, rfl⟩, by kernel_rfl, by kernel_rfl, by kernel_rfl, zz_of (by kernel_rfl)⟩
theorem tok75 : TOk Try.prog 75 { kind := .func, size := 1, bytes := 8, zero := .nilfn } := ⟨⟨_, Try.underlying75, _, _, _, rfl⟩, by kernel_rfl, by kernel_rfl, by kernel_rfl, zz_of (by kernel_rfl)⟩
theorem tok76 : TOk Try.prog 76 { kind := .ptr 78, size := 1, bytes := 8, zero := .nilptr } := ⟨⟨_, Try.underlying76, rfl⟩, by kernel_rfl, by kernel_rfl, by kernel_rfl, zz_of (by kernel_rfl)⟩
theorem tok77 : TOk Try.prog 77 { kind := .struct [(24, 0), (4, 2)], size := 3, bytes := 40, zero := .agg (.any [.int .i64 0, .esl, .bool false]) } := ⟨⟨_, Try.underlying77, _, rfl, rfl⟩, by kernel_rfl, by kernel_rfl, by kernel_rfl, zz_of (by kernel_rfl)⟩
theorem tok78 : TOk Try.prog 78 { kind := .struct [(24, 0), (4, 2)], size := 3, bytes := 40, zero := .agg (.any [.int .i64 0, .esl, .bool false]) } := ⟨⟨_, Try.underlying78, _, rfl, rfl⟩, by kernel_rfl, by kernel_rfl, by kernel_rfl, zz_of (by kernel_rfl)⟩
theorem tok79 : TOk Try.prog 79 { kind := .func, size := 1, bytes := 8, zero := .nilfn } := ⟨⟨_, Try.underlying79, _, _, _, rfl⟩, by kernel_rfl, by kernel_rfl, by kernel_rfl, zz_of (by kernel_rfl)⟩
theorem tok80 : TOk Try.prog 80 { kind := .func, size := 1, bytes := 8, zero := .nilfn } := ⟨⟨_, Try.underlying80, _, _, _, rfl⟩, by kernel_rfl, by kernel_rfl, by kernel_rfl, zz_of (by kernel_rfl)⟩
theorem tok81 : TOk Try.prog 81 { kind := .func, size := 1, bytes := 8, zero := .nilfn } := ⟨⟨_, Try.underlying81, _, _, _, rfl⟩, by kernel_rfl, by kernel_rfl, by kernel_rfl, zz_of (by kernel_rfl)⟩
theorem tok82 : TOk Try.prog 82 { kind := .func, size := 1, bytes := 8, zero := .nilfn } := ⟨⟨_, Try.underlying82, _, _, _, rfl⟩, by kernel_rfl, by kernel_rfl, by kernel_rfl, zz_of (by kernel_rfl)⟩
theorem tok83 : TOk Try.prog 83 { kind := .func, size := 1, bytes := 8, zero := .nilfn } := ⟨⟨_, Try.underlying83, _, _, _, rfl⟩, by kernel_rfl, by kernel_rfl, by kernel_rfl, zz_of (by kernel_rfl)⟩
theorem tok84 : TOk Try.prog 84 { kind := .func, size := 1, bytes := 8, zero := .nilfn } := ⟨⟨_, Try.underlying84, _, _, _, rfl⟩, by kernel_rfl, by kernel_rfl, by kernel_rfl, zz_of (by kernel_rfl)⟩
theorem tok85 : TOk Try.prog 85 { kind := .func, size := 1, bytes := 8, zero := .nilfn } := ⟨⟨_, Try.underlying85, _, _, _, rfl⟩, by kernel_rfl, by kernel_rfl, by kernel_rfl, zz_of (by kernel_rfl)⟩
theorem tok86 : TOk Try.prog 86 { kind := .func, size := 1, bytes := 8, zero := .nilfn } := ⟨⟨_, Try.underlying86, _, _, _, rfl⟩, by kernel_rfl, by kernel_rfl, by kernel_rfl, zz_of (by kernel_rfl)⟩
theorem tok87 : TOk Try.prog 87 { kind := .func, size := 1, bytes := 8, zero := .nilfn } := ⟨⟨_, Try.underlying87, _, _, _, rfl⟩, by kernel_rfl, by kernel_rfl, by kernel_rfl, zz_of (by kernel_rfl)⟩
theorem tok88 : TOk Try.prog 88 { kind := .struct [(17, 0), (17, 1), (17, 2), (9, 3)], size := 4, bytes := 40, zero := .agg (.any [.nilptr, .nilptr, .nilptr, .str ⟨#[]⟩]) } := ⟨⟨_, Try.underlying88, _, rfl, rfl⟩, by kernel_rfl, by kernel_rfl, by kernel_rfl, zz_of (by kernel_rfl)⟩
theorem tok89 : TOk Try.prog 89 { kind := .struct [(17, 0), (17, 1), (17, 2), (9, 3)], size := 4, bytes := 40, zero := .agg (.any [.nilptr, .nilptr, .nilptr, .str ⟨#[]⟩]) } := ⟨⟨_, Try.underlying89, _, rfl, rfl⟩, by kernel_rfl, by kernel_rfl, by kernel_rfl, zz_of (by kernel_rfl)⟩
theorem tok90 : TOk Try.prog 90 { kind := .array 0 16, size := 0, bytes := 0, zero := .agg (.any []) } := ⟨⟨_, Try.underlying90, rfl⟩, by kernel_rfl, by kernel_rfl, by kernel_rfl, zz_of (by kernel_rfl)⟩
theorem tok91 : TOk Try.prog 91 { kind := .struct [(90, 0)], size := 0, bytes := 0, zero := .agg (.any []) } := ⟨⟨_, Try.underlying91, _, rfl, rfl⟩, by kernel_rfl, by kernel_rfl, by kernel_rfl, zz_of (by kernel_rfl)⟩
theorem tok92 : TOk Try.prog 92 { kind := .struct [(90, 0)], size := 0, bytes := 0, zero := .agg (.any []) } := ⟨⟨_, Try.underlying92, _, rfl, rfl⟩, by kernel_rfl, by kernel_rfl, by kernel_rfl, zz_of (by kernel_rfl)⟩
theorem tok93 : TOk Try.prog 93 { kind := .func, size := 1, bytes := 8, zero := .nilfn } := ⟨⟨_, Try.underlying93, _, _, _, rfl⟩, by kernel_rfl, by kernel_rfl, by kernel_rfl, zz_of (by kernel_rfl)⟩
theorem tok94 : TOk Try.prog 94 { kind := .int .u32, size := 1, bytes := 4, zero := .int .u32 0 } := ⟨⟨_, Try.underlying94, rfl⟩, by kernel_rfl, by kernel_rfl, by kernel_rfl, zz_of (by kernel_rfl)⟩
theorem tok95 : TOk Try.prog 95 { kind := .int .u8, size := 1, bytes := 1, zero := .int .u8 0 } := ⟨⟨_, Try.underlying95, rfl⟩, by kernel_rfl, by kernel_rfl, by kernel_rfl, zz_of (by kernel_rfl)⟩
theorem tok96 : TOk Try.prog 96 { kind := .int .u8, size := 1, bytes := 1, zero := .int .u8 0 } := ⟨⟨_, Try.underlying96, rfl⟩, by kernel_rfl, by kernel_rfl, by kernel_rfl, zz_of (by kernel_rfl)⟩
theorem tok97 : TOk Try.prog 97 { kind := .func, size := 1, bytes := 8, zero := .nilfn } := ⟨⟨_, Try.underlying97, _, _, _, rfl⟩, by kernel_rfl, by kernel_rfl, by kernel_rfl, zz_of (by kernel_rfl)⟩
theorem tok98 : TOk Try.prog 98 { kind := .ptr 5, size := 1, bytes := 8, zero := .nilptr } := ⟨⟨_, Try.underlying98, rfl⟩, by kernel_rfl, by kernel_rfl, by kernel_rfl, zz_of (by kernel_rfl)⟩
theorem tok99 : TOk Try.prog 99 { kind := .int .i32, size := 1, bytes := 4, zero := .int .i32 0 } := ⟨⟨_, Try.underlying99, rfl⟩, by kernel_rfl, by kernel_rfl, by kernel_rfl, zz_of (by kernel_rfl)⟩
theorem tok100 : TOk Try.prog 100 { kind := .int .i32, size := 1, bytes := 4, zero := .int .i32 0 } := ⟨⟨_, Try.underlying100, rfl⟩, by kernel_rfl, by kernel_rfl, by kernel_rfl, zz_of (by kernel_rfl)⟩
theorem tok101 : TOk Try.prog 101 { kind := .struct [(12, 0), (12, 1), (94, 2), (95, 3), (5, 4), (5, 5), (96, 6), (97, 7), (98, 8), (99, 9), (100, 10)], size := 11, bytes := 48, zero := .agg (.any [.int .u64 0, .int .u64 0, .int .u32 0, .int .u8 0, .int .u8 0, .int .u8 0, .int .u8 0, .nilfn, .nilptr, .int .i32 0, .int .i32 0]) } := ⟨⟨_, Try.underlying101, _, rfl, rfl⟩, by kernel_rfl, by kernel_rfl, by kernel_rfl, zz_of (by kernel_rfl)⟩
theorem tok102 : TOk Try.prog 102 { kind := .struct [(12, 0), (12, 1), (94, 2), (95, 3), (5, 4), (5, 5), (96, 6), (97, 7), (98, 8), (99, 9), (100, 10)], size := 11, bytes := 48, zero := .agg (.any [.int .u64 0, .int .u64 0, .int .u32 0, .int .u8 0, .int .u8 0, .int .u8 0, .int .u8 0, .nilfn, .nilptr, .int .i32 0, .int .i32 0]) } := ⟨⟨_, Try.underlying102, _, rfl, rfl⟩, by kernel_rfl, by kernel_rfl, by kernel_rfl, zz_of (by kernel_rfl)⟩
def Tl : List (Option TI) := [none, some { kind := .func, size := 1, bytes := 8, zero := .nilfn }, some { kind := .int .i64, size := 1, bytes := 8, zero := .int .i64 0 }, some { kind := .int .i64, size := 1, bytes := 8, zero := .int .i64 0 }, some { kind := .bool, size := 1, bytes := 1, zero := .bool false }, some { kind := .int .u8, size := 1, bytes := 1, zero := .int .u8 0 }, some { kind := .int .u8, size := 1, bytes := 1, zero := .int .u8 0 }, some { kind := .struct [(2, 0), (3, 1), (4, 2), (6, 3)], size := 4, bytes := 24, zero := .agg (.any [.int .i64 0, .int .i64 0, .bool false, .int .u8 0]) }, some { kind := .struct [(2, 0), (3, 1), (4, 2), (6, 3)], size := 4, bytes := 24, zero := .agg (.any [.int .i64 0, .int .i64 0, .bool false, .int .u8 0]) }, some { kind := .str, size := 1, bytes := 16, zero := .str ⟨#[]⟩ }, some { kind := .str, size := 1, bytes := 16, zero := .str ⟨#[]⟩ }, some { kind := .str, size := 1, bytes := 16, zero := .str ⟨#[]⟩ }, some { kind := .int .u64, size := 1, bytes := 8, zero := .int .u64 0 }, some { kind := .struct [(9, 0), (12, 1)], size := 2, bytes := 24, zero := .agg (.any [.str ⟨#[]⟩, .int .u64 0]) }, some { kind := .struct [(9, 0), (12, 1)], size := 2, bytes := 24, zero := .agg (.any [.str ⟨#[]⟩, .int .u64 0]) }, some { kind := .ptr 89, size := 1, bytes := 8, zero := .nilptr }, some { kind := .ptr 92, size := 1, bytes := 8, zero := .nilptr }, some { kind := .ptr 102, size := 1, bytes := 8, zero := .nilptr }, some { kind := .struct [(17, 0)], size := 1, bytes := 8, zero := .agg (.any [.nilptr]) }, some { kind := .struct [(17, 0)], size := 1, bytes := 8, zero := .agg (.any [.nilptr]) }, some { kind := .iface, size := 1, bytes := 16, zero := .nilif }, some { kind := .int .i32, size := 1, bytes := 4, zero := .int .i32 0 }, some { kind := .slice 32, size := 1, bytes := 24, zero := .esl }, some { kind := .struct [(3, 0), (22, 1)], size := 2, bytes := 32, zero := .agg (.any [.int .i64 0, .esl]) }, some { kind := .struct [(3, 0), (22, 1)], size := 2, bytes := 32, zero := .agg (.any [.int .i64 0, .esl]) }, some { kind := .func, size := 1, bytes := 8, zero := .nilfn }, some { kind := .func, size := 1, bytes := 8, zero := .nilfn }, some { kind := .int .i64, size := 1, bytes := 8, zero := .int .i64 0 }, none, some { kind := .func, size := 1, bytes := 8, zero := .nilfn }, some { kind := .func, size := 1, bytes := 8, zero := .nilfn }, some { kind := .func, size := 1, bytes := 8, zero := .nilfn }, some { kind := .int .u64, size := 1, bytes := 8, zero := .int .u64 0 }, none, some { kind := .func, size := 1, bytes := 8, zero := .nilfn }, some { kind := .int .u64, size := 1, bytes := 8, zero := .int .u64 0 }, some { kind := .func, size := 1, bytes := 8, zero := .nilfn }, none, some { kind := .func, size := 1, bytes := 8, zero := .nilfn }, none, some { kind := .func, size := 1, bytes := 8, zero := .nilfn }, some { kind := .func, size := 1, bytes := 8, zero := .nilfn }, some { kind := .func, size := 1, bytes := 8, zero := .nilfn }, some { kind := .func, size := 1, bytes := 8, zero := .nilfn }, some { kind := .func, size := 1, bytes := 8, zero := .nilfn }, some { kind := .func, size := 1, bytes := 8, zero := .nilfn }, some { kind := .func, size := 1, bytes := 8, zero := .nilfn }, some { kind := .func, size := 1, bytes := 8, zero := .nilfn }, some { kind := .func, size := 1, bytes := 8, zero := .nilfn }, some { kind := .func, size := 1, bytes := 8, zero := .nilfn }, none, some { kind := .func, size := 1, bytes := 8, zero := .nilfn }, some { kind := .func, size := 1, bytes := 8, zero := .nilfn }, none, some { kind := .func, size := 1, bytes := 8, zero := .nilfn }, some { kind := .func, size := 1, bytes := 8, zero := .nilfn }, some { kind := .func, size := 1, bytes := 8, zero := .nilfn }, none, some { kind := .func, size := 1, bytes := 8, zero := .nilfn }, some { kind := .func, size := 1, bytes := 8, zero := .nilfn }, some { kind := .func, size := 1, bytes := 8, zero := .nilfn }, some { kind := .slice 4, size := 1, bytes := 24, zero := .esl }, some { kind := .func, size := 1, bytes := 8, zero := .nilfn }, some { kind := .func, size := 1, bytes := 8, zero := .nilfn }, some { kind := .func, size := 1, bytes := 8, zero := .nilfn }, some { kind := .func, size := 1, bytes := 8, zero := .nilfn }, some { kind := .func, size := 1, bytes := 8, zero := .nilfn }, some { kind := .func, size := 1, bytes := 8, zero := .nilfn }, some { kind := .func, size := 1, bytes := 8, zero := .nilfn }, some { kind := .func, size := 1, bytes := 8, zero := .nilfn }, some { kind := .func, size := 1, bytes := 8, zero := .nilfn }, some { kind := .func, size := 1, bytes := 8, zero := .nilfn }, some { kind := .func, size := 1, bytes := 8, zero := .nilfn }, some { kind := .func, size := 1, bytes := 8, zero := .nilfn }, some { kind := .func, size := 1, bytes := 8, zero := .nilfn }, some { kind := .func, size := 1, bytes := 8, zero := .nilfn }, some { kind := .ptr 78, size := 1, bytes := 8, zero := .nilptr }, some { kind := .struct [(24, 0), (4, 2)], size := 3, bytes := 40, zero := .agg (.any [.int .i64 0, .esl, .bool false]) }, some { kind := .struct [(24, 0), (4, 2)], size := 3, bytes := 40, zero := .agg (.any [.int .i64 0, .esl, .bool false]) }, some { kind := .func, size := 1, bytes := 8, zero := .nilfn }, some { kind := .func, size := 1, bytes := 8, zero := .nilfn }, some { kind := .func, size := 1, bytes := 8, zero := .nilfn }, some { kind := .func, size := 1, bytes := 8, zero := .nilfn }, some { kind := .func, size := 1, bytes := 8, zero := .nilfn }, some { kind := .func, size := 1, bytes := 8, zero := .nilfn }, some { kind := .func, size := 1, bytes := 8, zero := .nilfn }, some { kind := .func, size := 1, bytes := 8, zero := .nilfn }, some { kind := .func, size := 1, bytes := 8, zero := .nilfn }, some { kind := .struct [(17, 0), (17, 1), (17, 2), (9, 3)], size := 4, bytes := 40, zero := .agg (.any [.nilptr, .nilptr, .nilptr, .str ⟨#[]⟩]) }, some { kind := .struct [(17, 0), (17, 1), (17, 2), (9, 3)], size := 4, bytes := 40, zero := .agg (.any [.nilptr, .nilptr, .nilptr, .str ⟨#[]⟩]) }, some { kind := .array 0 16, size := 0, bytes := 0, zero := .agg (.any []) }, some { kind := .struct [(90, 0)], size := 0, bytes := 0, zero := .agg (.any []) }, some { kind := .struct [(90, 0)], size := 0, bytes := 0, zero := .agg (.any []) }, some { kind := .func, size := 1, bytes := 8, zero := .nilfn }, some { kind := .int .u32, size := 1, bytes := 4, zero := .int .u32 0 }, some { kind := .int .u8, size := 1, bytes := 1, zero := .int .u8 0 }, some { kind := .int .u8, size := 1, bytes := 1, zero := .int .u8 0 }, some { kind := .func, size := 1, bytes := 8, zero := .nilfn }, some { kind := .ptr 5, size := 1, bytes := 8, zero := .nilptr }, some { kind := .int .i32, size := 1, bytes := 4, zero := .int .i32 0 }, some { kind := .int .i32, size := 1, bytes := 4, zero := .int .i32 0 }, some { kind := .struct [(12, 0), (12, 1), (94, 2), (95, 3), (5, 4), (5, 5), (96, 6), (97, 7), (98, 8), (99, 9), (100, 10)], size := 11, bytes := 48, zero := .agg (.any [.int .u64 0, .int .u64 0, .int .u32 0, .int .u8 0, .int .u8 0, .int .u8 0, .int .u8 0, .nilfn, .nilptr, .int .i32 0, .int .i32 0]) }, some { kind := .struct [(12, 0), (12, 1), (94, 2), (95, 3), (5, 4), (5, 5), (96, 6), (97, 7), (98, 8), (99, 9), (100, 10)], size := 11, bytes := 48, zero := .agg (.any [.int .u64 0, .int .u64 0, .int .u32 0, .int .u8 0, .int .u8 0, .int .u8 0, .int .u8 0, .nilfn, .nilptr, .int .i32 0, .int .i32 0]) }, none]
theorem tl_ok : AllT Try.prog 0 Tl := ⟨tok1, ⟨tok2, ⟨tok3, ⟨tok4, ⟨tok5, ⟨tok6, ⟨tok7, ⟨tok8, ⟨tok9, ⟨tok10, ⟨tok11, ⟨tok12, ⟨tok13, ⟨tok14, ⟨tok15, ⟨tok16, ⟨tok17, ⟨tok18, ⟨tok19, ⟨tok20, ⟨tok21, ⟨tok22, ⟨tok23, ⟨tok24, ⟨tok25, ⟨tok26, ⟨tok27, ⟨tok29, ⟨tok30, ⟨tok31, ⟨tok32, ⟨tok34, ⟨tok35, ⟨tok36, ⟨tok38, ⟨tok40, ⟨tok41, ⟨tok42, ⟨tok43, ⟨tok44, ⟨tok45, ⟨tok46, ⟨tok47, ⟨tok48, ⟨tok49, ⟨tok51, ⟨tok52, ⟨tok54, ⟨tok55, ⟨tok56, ⟨tok58, ⟨tok59, ⟨tok60, ⟨tok61, ⟨tok62, ⟨tok63, ⟨tok64, ⟨tok65, ⟨tok66, ⟨tok67, ⟨tok68, ⟨tok69, ⟨tok70, ⟨tok71, ⟨tok72, ⟨tok73, ⟨tok74, ⟨tok75, ⟨tok76, ⟨tok77, ⟨tok78, ⟨tok79, ⟨tok80, ⟨tok81, ⟨tok82, ⟨tok83, ⟨tok84, ⟨tok85, ⟨tok86, ⟨tok87, ⟨tok88, ⟨tok89, ⟨tok90, ⟨tok91, ⟨tok92, ⟨tok93, ⟨tok94, ⟨tok95, ⟨tok96, ⟨tok97, ⟨tok98, ⟨tok99, ⟨tok100, ⟨tok101, ⟨tok102, trivial⟩⟩⟩⟩⟩⟩⟩⟩⟩⟩⟩⟩⟩⟩⟩⟩⟩⟩⟩⟩⟩⟩⟩⟩⟩⟩⟩⟩⟩⟩⟩⟩⟩⟩⟩⟩⟩⟩⟩⟩⟩⟩⟩⟩⟩⟩⟩⟩⟩⟩⟩⟩⟩⟩⟩⟩⟩⟩⟩⟩⟩⟩⟩⟩⟩⟩⟩⟩⟩⟩⟩⟩⟩⟩⟩⟩⟩⟩⟩⟩⟩⟩⟩⟩⟩⟩⟩⟩⟩⟩⟩⟩⟩⟩⟩
noncomputable def Fl : List (Option Func) := [none, none, none, some Try.f3, some Try.f4, some Try.f5, some Try.f6, some Try.f7, some Try.f8, some Try.f9, some Try.f10, some Try.f11, some Try.f12, some Try.f13, some Try.f14, some Try.f15, some Try.f16, some Try.f17, some Try.f18, some Try.f19, some Try.f20, some Try.f21, some Try.f22, some Try.f23, some Try.f24, some Try.f25, some Try.f26, some Try.f27, some Try.f28, some Try.f29, some Try.f30, some Try.f31, some Try.f32, some Try.f33, some Try.f34, some Try.f35, some Try.f36, some Try.f37, some Try.f38, some Try.f39, some Try.f40, some Try.f41, some Try.f42, some Try.f43, some Try.f44, some Try.f45, some Try.f46, some Try.f47, some Try.f48, some Try.f49, some Try.f50, some Try.f51, some Try.f52, some Try.f53, some Try.f54, some Try.f55, some Try.f56, some Try.f57, some Try.f58, some Try.f59, some Try.f60, some Try.f61, some Try.f62, some Try.f63, some Try.f64, some Try.f65, some Try.f66, some Try.f67, none, none, none, none, none, none, none, none, none, none, none, none, none, none, none, none]
theorem fok3 : FOk Try.prog 3 Try.f3 := ⟨Try.func3, by kernel_rfl⟩
theorem fok4 : FOk Try.prog 4 Try.f4 := ⟨Try.func4, by kernel_rfl⟩
theorem fok5 : FOk Try.prog 5 Try.f5 := ⟨Try.func5, by kernel_rfl⟩
theorem fok6 : FOk Try.prog 6 Try.f6 := ⟨Try.func6, by kernel_rfl⟩
theorem fok7 : FOk Try.prog 7 Try.f7 := ⟨Try.func7, by kernel_rfl⟩
theorem fok8 : FOk Try.prog 8 Try.f8 := ⟨Try.func8, by kernel_rfl⟩
theorem fok9 : FOk Try.prog 9 Try.f9 := ⟨Try.func9, by kernel_rfl⟩
theorem fok10 : FOk Try.prog 10 Try.f10 := ⟨Try.func10, by kernel_rfl⟩
theorem fok11 : FOk Try.prog 11 Try.f11 := ⟨Try.func11, by kernel_rfl⟩
theorem fok12 : FOk Try.prog 12 Try.f12 := ⟨Try.func12, by kernel_rfl⟩
theorem fok13 : FOk Try.prog 13 Try.f13 := ⟨Try.func13, by kernel_rfl⟩
theorem fok14 : FOk Try.prog 14 Try.f14 := ⟨Try.func14, by kernel_rfl⟩
theorem fok15 : FOk Try.prog 15 Try.f15 := ⟨Try.func15, by kernel_rfl⟩
theorem fok16 : FOk Try.prog 16 Try.f16 := ⟨Try.func16, by kernel_rfl⟩
theorem fok17 : FOk Try.prog 17 Try.f17 := ⟨Try.func17, by kernel_rfl⟩
theorem fok18 : FOk Try.prog 18 Try.f18 := ⟨Try.func18, by kernel_rfl⟩
theorem fok19 : FOk Try.prog 19 Try.f19 := ⟨Try.func19, by kernel_rfl⟩
theorem fok20 : FOk Try.prog 20 Try.f20 := ⟨Try.func20, by kernel_rfl⟩
theorem fok21 : FOk Try.prog 21 Try.f21 := ⟨Try.func21, by kernel_rfl⟩
theorem fok22 : FOk Try.prog 22 Try.f22 := ⟨Try.func22, by kernel_rfl⟩
theorem fok23 : FOk Try.prog 23 Try.f23 := ⟨Try.func23, by kernel_rfl⟩
theorem fok24 : FOk Try.prog 24 Try.f24 := ⟨Try.func24, by kernel_rfl⟩
theorem fok25 : FOk Try.prog 25 Try.f25 := ⟨Try.func25, by kernel_rfl⟩
theorem fok26 : FOk Try.prog 26 Try.f26 := ⟨Try.func26, by kernel_rfl⟩
theorem fok27 : FOk Try.prog 27 Try.f27 := ⟨Try.func27, by kernel_rfl⟩
theorem fok28 : FOk Try.prog 28 Try.f28 := ⟨Try.func28, by kernel_rfl⟩
theorem fok29 : FOk Try.prog 29 Try.f29 := ⟨Try.func29, by kernel_rfl⟩
theorem fok30 : FOk Try.prog 30 Try.f30 := ⟨Try.func30, by kernel_rfl⟩
theorem fok31 : FOk Try.prog 31 Try.f31 := ⟨Try.func31, by kernel_rfl⟩
theorem fok32 : FOk Try.prog 32 Try.f32 := ⟨Try.func32, by kernel_rfl⟩
theorem fok33 : FOk Try.prog 33 Try.f33 := ⟨Try.func33, by kernel_rfl⟩
theorem fok34 : FOk Try.prog 34 Try.f34 := ⟨Try.func34, by kernel_rfl⟩
theorem fok35 : FOk Try.prog 35 Try.f35 := ⟨Try.func35, by kernel_rfl⟩
theorem fok36 : FOk Try.prog 36 Try.f36 := ⟨Try.func36, by kernel_rfl⟩
theorem fok37 : FOk Try.prog 37 Try.f37 := ⟨Try.func37, by kernel_rfl⟩
theorem fok38 : FOk Try.prog 38 Try.f38 := ⟨Try.func38, by kernel_rfl⟩
theorem fok39 : FOk Try.prog 39 Try.f39 := ⟨Try.func39, by kernel_rfl⟩
theorem fok40 : FOk Try.prog 40 Try.f40 := ⟨Try.func40, by kernel_rfl⟩
theorem fok41 : FOk Try.prog 41 Try.f41 := ⟨Try.func41, by kernel_rfl⟩
theorem fok42 : FOk Try.prog 42 Try.f42 := ⟨Try.func42, by kernel_rfl⟩
theorem fok43 : FOk Try.prog 43 Try.f43 := ⟨Try.func43, by kernel_rfl⟩
theorem fok44 : FOk Try.prog 44 Try.f44 := ⟨Try.func44, by kernel_rfl⟩
theorem fok45 : FOk Try.prog 45 Try.f45 := ⟨Try.func45, by kernel_rfl⟩
theorem fok46 : FOk Try.prog 46 Try.f46 := ⟨Try.func46, by kernel_rfl⟩
theorem fok47 : FOk Try.prog 47 Try.f47 := ⟨Try.func47, by kernel_rfl⟩
theorem fok48 : FOk Try.prog 48 Try.f48 := ⟨Try.func48, by kernel_rfl⟩
theorem fok49 : FOk Try.prog 49 Try.f49 := ⟨Try.func49, by kernel_rfl⟩
theorem fok50 : FOk Try.prog 50 Try.f50 := ⟨Try.func50, by kernel_rfl⟩
theorem fok51 : FOk Try.prog 51 Try.f51 := ⟨Try.func51, by kernel_rfl⟩
theorem fok52 : FOk Try.prog 52 Try.f52 := ⟨Try.func52, by kernel_rfl⟩
theorem fok53 : FOk Try.prog 53 Try.f53 := ⟨Try.func53, by kernel_rfl⟩
theorem fok54 : FOk Try.prog 54 Try.f54 := ⟨Try.func54, by kernel_rfl⟩
theorem fok55 : FOk Try.prog 55 Try.f55 := ⟨Try.func55, by kernel_rfl⟩
theorem fok56 : FOk Try.prog 56 Try.f56 := ⟨Try.func56, by kernel_rfl⟩
theorem fok57 : FOk Try.prog 57 Try.f57 := ⟨Try.func57, by kernel_rfl⟩
theorem fok58 : FOk Try.prog 58 Try.f58 := ⟨Try.func58, by kernel_rfl⟩
theorem fok59 : FOk Try.prog 59 Try.f59 := ⟨Try.func59, by kernel_rfl⟩
theorem fok60 : FOk Try.prog 60 Try.f60 := ⟨Try.func60, by kernel_rfl⟩
theorem fok61 : FOk Try.prog 61 Try.f61 := ⟨Try.func61, by kernel_rfl⟩
theorem fok62 : FOk Try.prog 62 Try.f62 := ⟨Try.func62, by kernel_rfl⟩
theorem fok63 : FOk Try.prog 63 Try.f63 := ⟨Try.func63, by kernel_rfl⟩
theorem fok64 : FOk Try.prog 64 Try.f64 := ⟨Try.func64, by kernel_rfl⟩
theorem fok65 : FOk Try.prog 65 Try.f65 := ⟨Try.func65, by kernel_rfl⟩
theorem fok66 : FOk Try.prog 66 Try.f66 := ⟨Try.func66, by kernel_rfl⟩
theorem fok67 : FOk Try.prog 67 Try.f67 := ⟨Try.func67, by kernel_rfl⟩
theorem fl_ok : AllF Try.prog 0 Fl := ⟨fok3, ⟨fok4, ⟨fok5, ⟨fok6, ⟨fok7, ⟨fok8, ⟨fok9, ⟨fok10, ⟨fok11, ⟨fok12, ⟨fok13, ⟨fok14, ⟨fok15, ⟨fok16, ⟨fok17, ⟨fok18, ⟨fok19, ⟨fok20, ⟨fok21, ⟨fok22, ⟨fok23, ⟨fok24, ⟨fok25, ⟨fok26, ⟨fok27, ⟨fok28, ⟨fok29, ⟨fok30, ⟨fok31, ⟨fok32, ⟨fok33, ⟨fok34, ⟨fok35, ⟨fok36, ⟨fok37, ⟨fok38, ⟨fok39, ⟨fok40, ⟨fok41, ⟨fok42, ⟨fok43, ⟨fok44, ⟨fok45, ⟨fok46, ⟨fok47, ⟨fok48, ⟨fok49, ⟨fok50, ⟨fok51, ⟨fok52, ⟨fok53, ⟨fok54, ⟨fok55, ⟨fok56, ⟨fok57, ⟨fok58, ⟨fok59, ⟨fok60, ⟨fok61, ⟨fok62, ⟨fok63, ⟨fok64, ⟨fok65, ⟨fok66, ⟨fok67, trivial⟩⟩⟩⟩⟩⟩⟩⟩⟩⟩⟩⟩⟩⟩⟩⟩⟩⟩⟩⟩⟩⟩⟩⟩⟩⟩⟩⟩⟩⟩⟩⟩⟩⟩⟩⟩⟩⟩⟩⟩⟩⟩⟩⟩⟩⟩⟩⟩⟩⟩⟩⟩⟩⟩⟩⟩⟩⟩⟩⟩⟩⟩⟩⟩⟩
def Gv (_ : Nat) : Option Blk := none
def vsOf (l : List Nat) : FuncId → Bool := fun f => !memN l f
noncomputable def env (keep : FuncId → Nat → Option (List Nat)) (vs : FuncId → Bool) : Env := { T := fun t => Tl.getD t none, F := fun f => Fl.getD f none, G := Gv, keep := keep, rounds := 1000000000000, vs := vs }
theorem env_types (keep : FuncId → Nat → Option (List Nat)) (vs : FuncId → Bool) : EnvOk (env keep vs) Try.prog := AllT.ok tl_ok
theorem env_funs (keep : FuncId → Nat → Option (List Nat)) (vs : FuncId → Bool) : FunsOk (env keep vs) Try.prog := ⟨AllF.ok fl_ok, by kernel_rfl⟩
theorem spec_env {keep : FuncId → Nat → Option (List Nat)} {vs : FuncId → Bool} (vs' : FuncId → Bool) {f : FuncId} {sp : Ev.Spec} (h : SpecOk Try.prog (env keep vs) f sp) : SpecOk Try.prog (env keep vs') f sp := h
theorem hspec_env {keep : FuncId → Nat → Option (List Nat)} {vs : FuncId → Bool} (vs' : FuncId → Bool) {f : FuncId} {hs : HSpec} (h : HSpecOk Try.prog (env keep vs) f hs) : HSpecOk Try.prog (env keep vs') f hs :=
  ⟨h.1, fun X args hh m w us z h1 he g hr => by
    have g' : Good (env keep vs) X hh m w := ⟨g.hp, g.inj, g.hi, g.own, g.xs, g.gl⟩
    obtain ⟨a, b⟩ := h.2 X args hh m w us z h1 he g' hr
    refine ⟨a, b.mono ?_⟩
    rintro e w1 ⟨u, m1, h1, A, h2, h3⟩
    exact ⟨u, m1, h1, ⟨⟨A.good.hp, A.good.inj, A.good.hi, A.good.own, A.good.xs, A.good.gl⟩, A.ext, A.L, A.frame, A.shape, A.os, A.tape, A.output, A.size, A.len⟩, h2, h3⟩⟩
end Go.Proofs.Ytkjadjdcbpiebaa
