/- Texts joined by wip/gen/kpack.py: Tb PC R14 L00 S01 S02 S03 S04. -/
import Derived.Defers
import Derived.Laws.OwnMore
import Derived.Maps.RangeRun
import Derived.Scope
import Derived.Lib.AppendZeros
import Derived.Test.YtbjepdfnmbdplaaGreatKB2
section
namespace Go.Proofs.YtbjepdfnmbdplaaGreat
open Go.RowKit
theorem ti2 : TIok Tryz.prog 2 ⟨false, 1, .int .i64, some [.int .i64 0], some (.int .i64 0, 8)⟩ := ⟨by kernel_rfl, (kindOK_of (by kernel_rfl)), (zeroOK_of (by kernel_rfl)), (ezOK_of (by kernel_rfl))⟩
theorem ti3 : TIok Tryz.prog 3 ⟨false, 1, .int .i64, some [.int .i64 0], some (.int .i64 0, 8)⟩ := ⟨by kernel_rfl, (kindOK_of (by kernel_rfl)), (zeroOK_of (by kernel_rfl)), (ezOK_of (by kernel_rfl))⟩
theorem ti4 : TIok Tryz.prog 4 ⟨false, 1, .bool, some [.bool false], some (.bool false, 1)⟩ := ⟨by kernel_rfl, (kindOK_of (by kernel_rfl)), (zeroOK_of (by kernel_rfl)), (ezOK_of (by kernel_rfl))⟩
theorem ti5 : TIok Tryz.prog 5 ⟨false, 1, .int .u8, some [.int .u8 0], some (.int .u8 0, 1)⟩ := ⟨by kernel_rfl, (kindOK_of (by kernel_rfl)), (zeroOK_of (by kernel_rfl)), (ezOK_of (by kernel_rfl))⟩
theorem ti9 : TIok Tryz.prog 9 ⟨false, 1, .str, some [.string ⟨#[]⟩], some (.string ⟨#[]⟩, 16)⟩ := ⟨by kernel_rfl, (kindOK_of (by kernel_rfl)), (zeroOK_of (by kernel_rfl)), (ezOK_of (by kernel_rfl))⟩
theorem ti12 : TIok Tryz.prog 12 ⟨false, 1, .int .u64, some [.int .u64 0], some (.int .u64 0, 8)⟩ := ⟨by kernel_rfl, (kindOK_of (by kernel_rfl)), (zeroOK_of (by kernel_rfl)), (ezOK_of (by kernel_rfl))⟩
theorem ti13 : TIok Tryz.prog 13 ⟨true, 2, .struct [(0, 1, false), (1, 1, false)] [(0, 1), (1, 1)], some [.string ⟨#[]⟩, .int .u64 0], some (.agg #[.string ⟨#[]⟩, .int .u64 0], 24)⟩ := ⟨by kernel_rfl, (kindOK_of (by kernel_rfl)), (zeroOK_of (by kernel_rfl)), (ezOK_of (by kernel_rfl))⟩
theorem ti20 : TIok Tryz.prog 20 ⟨false, 1, .other, some [.nilIface], some (.nilIface, 16)⟩ := ⟨by kernel_rfl, trivial, (zeroOK_of (by kernel_rfl)), (ezOK_of (by kernel_rfl))⟩
theorem ti21 : TIok Tryz.prog 21 ⟨false, 1, .int .i32, some [.int .i32 0], some (.int .i32 0, 4)⟩ := ⟨by kernel_rfl, (kindOK_of (by kernel_rfl)), (zeroOK_of (by kernel_rfl)), (ezOK_of (by kernel_rfl))⟩
theorem ti22 : TIok Tryz.prog 22 ⟨false, 1, .slice 40 10, some [.slice none 0 0], some (.slice none 0 0, 24)⟩ := ⟨by kernel_rfl, (kindOK_of (by kernel_rfl)), (zeroOK_of (by kernel_rfl)), (ezOK_of (by kernel_rfl))⟩
theorem ti23 : TIok Tryz.prog 23 ⟨false, 1, .slice 29 2, some [.slice none 0 0], some (.slice none 0 0, 24)⟩ := ⟨by kernel_rfl, (kindOK_of (by kernel_rfl)), (zeroOK_of (by kernel_rfl)), (ezOK_of (by kernel_rfl))⟩
theorem ti24 : TIok Tryz.prog 24 ⟨false, 1, .slice 81 3, some [.slice none 0 0], some (.slice none 0 0, 24)⟩ := ⟨by kernel_rfl, (kindOK_of (by kernel_rfl)), (zeroOK_of (by kernel_rfl)), (ezOK_of (by kernel_rfl))⟩
theorem ti25 : TIok Tryz.prog 25 ⟨false, 1, .slice 26 1, some [.slice none 0 0], some (.slice none 0 0, 24)⟩ := ⟨by kernel_rfl, (kindOK_of (by kernel_rfl)), (zeroOK_of (by kernel_rfl)), (ezOK_of (by kernel_rfl))⟩
theorem ti26 : TIok Tryz.prog 26 ⟨false, 1, .slice 3 1, some [.slice none 0 0], some (.slice none 0 0, 24)⟩ := ⟨by kernel_rfl, (kindOK_of (by kernel_rfl)), (zeroOK_of (by kernel_rfl)), (ezOK_of (by kernel_rfl))⟩
theorem ti27 : TIok Tryz.prog 27 ⟨false, 1, .slice 79 1, some [.slice none 0 0], some (.slice none 0 0, 24)⟩ := ⟨by kernel_rfl, (kindOK_of (by kernel_rfl)), (zeroOK_of (by kernel_rfl)), (ezOK_of (by kernel_rfl))⟩
theorem ti28 : TIok Tryz.prog 28 ⟨true, 2, .struct [(0, 1, false), (1, 1, false)] [(0, 1), (1, 1)], some [.int .i64 0, .int .i64 0], some (.agg #[.int .i64 0, .int .i64 0], 16)⟩ := ⟨by kernel_rfl, (kindOK_of (by kernel_rfl)), (zeroOK_of (by kernel_rfl)), (ezOK_of (by kernel_rfl))⟩
theorem ti29 : TIok Tryz.prog 29 ⟨true, 2, .struct [(0, 1, false), (1, 1, false)] [(0, 1), (1, 1)], some [.int .i64 0, .int .i64 0], some (.agg #[.int .i64 0, .int .i64 0], 16)⟩ := ⟨by kernel_rfl, (kindOK_of (by kernel_rfl)), (zeroOK_of (by kernel_rfl)), (ezOK_of (by kernel_rfl))⟩
theorem ti30 : TIok Tryz.prog 30 ⟨false, 1, .slice 286 4, some [.slice none 0 0], some (.slice none 0 0, 24)⟩ := ⟨by kernel_rfl, (kindOK_of (by kernel_rfl)), (zeroOK_of (by kernel_rfl)), (ezOK_of (by kernel_rfl))⟩
theorem ti31 : TIok Tryz.prog 31 ⟨false, 1, .slice 288 3, some [.slice none 0 0], some (.slice none 0 0, 24)⟩ := ⟨by kernel_rfl, (kindOK_of (by kernel_rfl)), (zeroOK_of (by kernel_rfl)), (ezOK_of (by kernel_rfl))⟩
theorem ti32 : TIok Tryz.prog 32 ⟨true, 2, .struct [(0, 1, false), (1, 1, false)] [(0, 1), (1, 1)], some [.slice none 0 0, .slice none 0 0], some (.agg #[.slice none 0 0, .slice none 0 0], 48)⟩ := ⟨by kernel_rfl, (kindOK_of (by kernel_rfl)), (zeroOK_of (by kernel_rfl)), (ezOK_of (by kernel_rfl))⟩
theorem ti33 : TIok Tryz.prog 33 ⟨true, 2, .struct [(0, 1, false), (1, 1, false)] [(0, 1), (1, 1)], some [.slice none 0 0, .slice none 0 0], some (.agg #[.slice none 0 0, .slice none 0 0], 48)⟩ := ⟨by kernel_rfl, (kindOK_of (by kernel_rfl)), (zeroOK_of (by kernel_rfl)), (ezOK_of (by kernel_rfl))⟩
theorem ti34 : TIok Tryz.prog 34 ⟨true, 18, .struct [(0, 1, false), (1, 1, false), (2, 1, false), (3, 1, false), (4, 1, false), (5, 1, false), (6, 1, false), (7, 1, false), (8, 1, false), (9, 1, false), (10, 1, false), (11, 1, false), (12, 1, false), (13, 2, true), (15, 1, false), (16, 2, true)] [(0, 1), (1, 1), (2, 1), (3, 1), (4, 1), (5, 1), (6, 1), (7, 1), (8, 1), (9, 1), (10, 1), (11, 1), (12, 1), (13, 2), (15, 1), (16, 2)], some [.int .i64 0, .int .i64 0, .int .i64 0, .int .i64 0, .int .i64 0, .int .i64 0, .int .i64 0, .slice none 0 0, .slice none 0 0, .slice none 0 0, .slice none 0 0, .slice none 0 0, .slice none 0 0, .int .i64 0, .int .i64 0, .int .i64 0, .slice none 0 0, .slice none 0 0], some (.agg #[.int .i64 0, .int .i64 0, .int .i64 0, .int .i64 0, .int .i64 0, .int .i64 0, .int .i64 0, .slice none 0 0, .slice none 0 0, .slice none 0 0, .slice none 0 0, .slice none 0 0, .slice none 0 0, .int .i64 0, .int .i64 0, .int .i64 0, .slice none 0 0, .slice none 0 0], 272)⟩ := ⟨by kernel_rfl, (kindOK_of (by kernel_rfl)), (zeroOK_of (by kernel_rfl)), (ezOK_of (by kernel_rfl))⟩
theorem ti35 : TIok Tryz.prog 35 ⟨true, 18, .struct [(0, 1, false), (1, 1, false), (2, 1, false), (3, 1, false), (4, 1, false), (5, 1, false), (6, 1, false), (7, 1, false), (8, 1, false), (9, 1, false), (10, 1, false), (11, 1, false), (12, 1, false), (13, 2, true), (15, 1, false), (16, 2, true)] [(0, 1), (1, 1), (2, 1), (3, 1), (4, 1), (5, 1), (6, 1), (7, 1), (8, 1), (9, 1), (10, 1), (11, 1), (12, 1), (13, 2), (15, 1), (16, 2)], some [.int .i64 0, .int .i64 0, .int .i64 0, .int .i64 0, .int .i64 0, .int .i64 0, .int .i64 0, .slice none 0 0, .slice none 0 0, .slice none 0 0, .slice none 0 0, .slice none 0 0, .slice none 0 0, .int .i64 0, .int .i64 0, .int .i64 0, .slice none 0 0, .slice none 0 0], some (.agg #[.int .i64 0, .int .i64 0, .int .i64 0, .int .i64 0, .int .i64 0, .int .i64 0, .int .i64 0, .slice none 0 0, .slice none 0 0, .slice none 0 0, .slice none 0 0, .slice none 0 0, .slice none 0 0, .int .i64 0, .int .i64 0, .int .i64 0, .slice none 0 0, .slice none 0 0], 272)⟩ := ⟨by kernel_rfl, (kindOK_of (by kernel_rfl)), (zeroOK_of (by kernel_rfl)), (ezOK_of (by kernel_rfl))⟩
theorem ti36 : TIok Tryz.prog 36 ⟨true, 14, .struct [(0, 1, false), (1, 1, false), (2, 1, false), (3, 1, false), (4, 1, false), (5, 1, false), (6, 1, false), (7, 1, false), (8, 1, false), (9, 1, false), (10, 1, false), (11, 1, false), (12, 1, false), (13, 1, false)] [(0, 1), (1, 1), (2, 1), (3, 1), (4, 1), (5, 1), (6, 1), (7, 1), (8, 1), (9, 1), (10, 1), (11, 1), (12, 1), (13, 1)], some [.int .i64 0, .int .i64 0, .int .i64 0, .int .i64 0, .int .i64 0, .int .i64 0, .int .i64 0, .int .i64 0, .string ⟨#[]⟩, .int .i64 0, .int .i64 0, .slice none 0 0, .slice none 0 0, .int .i64 0], some (.agg #[.int .i64 0, .int .i64 0, .int .i64 0, .int .i64 0, .int .i64 0, .int .i64 0, .int .i64 0, .int .i64 0, .string ⟨#[]⟩, .int .i64 0, .int .i64 0, .slice none 0 0, .slice none 0 0, .int .i64 0], 152)⟩ := ⟨by kernel_rfl, (kindOK_of (by kernel_rfl)), (zeroOK_of (by kernel_rfl)), (ezOK_of (by kernel_rfl))⟩
theorem ti37 : TIok Tryz.prog 37 ⟨true, 14, .struct [(0, 1, false), (1, 1, false), (2, 1, false), (3, 1, false), (4, 1, false), (5, 1, false), (6, 1, false), (7, 1, false), (8, 1, false), (9, 1, false), (10, 1, false), (11, 1, false), (12, 1, false), (13, 1, false)] [(0, 1), (1, 1), (2, 1), (3, 1), (4, 1), (5, 1), (6, 1), (7, 1), (8, 1), (9, 1), (10, 1), (11, 1), (12, 1), (13, 1)], some [.int .i64 0, .int .i64 0, .int .i64 0, .int .i64 0, .int .i64 0, .int .i64 0, .int .i64 0, .int .i64 0, .string ⟨#[]⟩, .int .i64 0, .int .i64 0, .slice none 0 0, .slice none 0 0, .int .i64 0], some (.agg #[.int .i64 0, .int .i64 0, .int .i64 0, .int .i64 0, .int .i64 0, .int .i64 0, .int .i64 0, .int .i64 0, .string ⟨#[]⟩, .int .i64 0, .int .i64 0, .slice none 0 0, .slice none 0 0, .int .i64 0], 152)⟩ := ⟨by kernel_rfl, (kindOK_of (by kernel_rfl)), (zeroOK_of (by kernel_rfl)), (ezOK_of (by kernel_rfl))⟩
theorem ti38 : TIok Tryz.prog 38 ⟨false, 1, .slice 86 6, some [.slice none 0 0], some (.slice none 0 0, 24)⟩ := ⟨by kernel_rfl, (kindOK_of (by kernel_rfl)), (zeroOK_of (by kernel_rfl)), (ezOK_of (by kernel_rfl))⟩
theorem ti39 : TIok Tryz.prog 39 ⟨true, 10, .struct [(0, 1, false), (1, 1, false), (2, 1, false), (3, 1, false), (4, 1, false), (5, 1, false), (6, 1, false), (7, 1, false), (8, 1, false), (9, 1, false)] [(0, 1), (1, 1), (2, 1), (3, 1), (4, 1), (5, 1), (6, 1), (7, 1), (8, 1), (9, 1)], some [.int .i64 0, .int .i64 0, .int .i64 0, .int .i64 0, .int .i64 0, .int .i64 0, .int .i64 0, .int .i64 0, .string ⟨#[]⟩, .slice none 0 0], some (.agg #[.int .i64 0, .int .i64 0, .int .i64 0, .int .i64 0, .int .i64 0, .int .i64 0, .int .i64 0, .int .i64 0, .string ⟨#[]⟩, .slice none 0 0], 104)⟩ := ⟨by kernel_rfl, (kindOK_of (by kernel_rfl)), (zeroOK_of (by kernel_rfl)), (ezOK_of (by kernel_rfl))⟩
theorem ti40 : TIok Tryz.prog 40 ⟨true, 10, .struct [(0, 1, false), (1, 1, false), (2, 1, false), (3, 1, false), (4, 1, false), (5, 1, false), (6, 1, false), (7, 1, false), (8, 1, false), (9, 1, false)] [(0, 1), (1, 1), (2, 1), (3, 1), (4, 1), (5, 1), (6, 1), (7, 1), (8, 1), (9, 1)], some [.int .i64 0, .int .i64 0, .int .i64 0, .int .i64 0, .int .i64 0, .int .i64 0, .int .i64 0, .int .i64 0, .string ⟨#[]⟩, .slice none 0 0], some (.agg #[.int .i64 0, .int .i64 0, .int .i64 0, .int .i64 0, .int .i64 0, .int .i64 0, .int .i64 0, .int .i64 0, .string ⟨#[]⟩, .slice none 0 0], 104)⟩ := ⟨by kernel_rfl, (kindOK_of (by kernel_rfl)), (zeroOK_of (by kernel_rfl)), (ezOK_of (by kernel_rfl))⟩
theorem ti45 : TIok Tryz.prog 45 ⟨false, 1, .slice 63 15, some [.slice none 0 0], some (.slice none 0 0, 24)⟩ := ⟨by kernel_rfl, (kindOK_of (by kernel_rfl)), (zeroOK_of (by kernel_rfl)), (ezOK_of (by kernel_rfl))⟩
theorem ti52 : TIok Tryz.prog 52 ⟨false, 1, .int .i64, some [.int .i64 0], some (.int .i64 0, 8)⟩ := ⟨by kernel_rfl, (kindOK_of (by kernel_rfl)), (zeroOK_of (by kernel_rfl)), (ezOK_of (by kernel_rfl))⟩
theorem ti56 : TIok Tryz.prog 56 ⟨false, 1, .slice 37 14, some [.slice none 0 0], some (.slice none 0 0, 24)⟩ := ⟨by kernel_rfl, (kindOK_of (by kernel_rfl)), (zeroOK_of (by kernel_rfl)), (ezOK_of (by kernel_rfl))⟩
theorem ti62 : TIok Tryz.prog 62 ⟨true, 15, .struct [(0, 1, false), (1, 14, true)] [(0, 1), (1, 14)], some [.int .i64 0, .int .i64 0, .int .i64 0, .int .i64 0, .int .i64 0, .int .i64 0, .int .i64 0, .int .i64 0, .int .i64 0, .string ⟨#[]⟩, .int .i64 0, .int .i64 0, .slice none 0 0, .slice none 0 0, .int .i64 0], some (.agg #[.int .i64 0, .int .i64 0, .int .i64 0, .int .i64 0, .int .i64 0, .int .i64 0, .int .i64 0, .int .i64 0, .int .i64 0, .string ⟨#[]⟩, .int .i64 0, .int .i64 0, .slice none 0 0, .slice none 0 0, .int .i64 0], 160)⟩ := ⟨by kernel_rfl, (kindOK_of (by kernel_rfl)), (zeroOK_of (by kernel_rfl)), (ezOK_of (by kernel_rfl))⟩
theorem ti63 : TIok Tryz.prog 63 ⟨true, 15, .struct [(0, 1, false), (1, 14, true)] [(0, 1), (1, 14)], some [.int .i64 0, .int .i64 0, .int .i64 0, .int .i64 0, .int .i64 0, .int .i64 0, .int .i64 0, .int .i64 0, .int .i64 0, .string ⟨#[]⟩, .int .i64 0, .int .i64 0, .slice none 0 0, .slice none 0 0, .int .i64 0], some (.agg #[.int .i64 0, .int .i64 0, .int .i64 0, .int .i64 0, .int .i64 0, .int .i64 0, .int .i64 0, .int .i64 0, .int .i64 0, .string ⟨#[]⟩, .int .i64 0, .int .i64 0, .slice none 0 0, .slice none 0 0, .int .i64 0], 160)⟩ := ⟨by kernel_rfl, (kindOK_of (by kernel_rfl)), (zeroOK_of (by kernel_rfl)), (ezOK_of (by kernel_rfl))⟩
theorem ti71 : TIok Tryz.prog 71 ⟨true, 54, .arr 3 35 18, some [.int .i64 0, .int .i64 0, .int .i64 0, .int .i64 0, .int .i64 0, .int .i64 0, .int .i64 0, .slice none 0 0, .slice none 0 0, .slice none 0 0, .slice none 0 0, .slice none 0 0, .slice none 0 0, .int .i64 0, .int .i64 0, .int .i64 0, .slice none 0 0, .slice none 0 0, .int .i64 0, .int .i64 0, .int .i64 0, .int .i64 0, .int .i64 0, .int .i64 0, .int .i64 0, .slice none 0 0, .slice none 0 0, .slice none 0 0, .slice none 0 0, .slice none 0 0, .slice none 0 0, .int .i64 0, .int .i64 0, .int .i64 0, .slice none 0 0, .slice none 0 0, .int .i64 0, .int .i64 0, .int .i64 0, .int .i64 0, .int .i64 0, .int .i64 0, .int .i64 0, .slice none 0 0, .slice none 0 0, .slice none 0 0, .slice none 0 0, .slice none 0 0, .slice none 0 0, .int .i64 0, .int .i64 0, .int .i64 0, .slice none 0 0, .slice none 0 0], some (.agg #[.int .i64 0, .int .i64 0, .int .i64 0, .int .i64 0, .int .i64 0, .int .i64 0, .int .i64 0, .slice none 0 0, .slice none 0 0, .slice none 0 0, .slice none 0 0, .slice none 0 0, .slice none 0 0, .int .i64 0, .int .i64 0, .int .i64 0, .slice none 0 0, .slice none 0 0, .int .i64 0, .int .i64 0, .int .i64 0, .int .i64 0, .int .i64 0, .int .i64 0, .int .i64 0, .slice none 0 0, .slice none 0 0, .slice none 0 0, .slice none 0 0, .slice none 0 0, .slice none 0 0, .int .i64 0, .int .i64 0, .int .i64 0, .slice none 0 0, .slice none 0 0, .int .i64 0, .int .i64 0, .int .i64 0, .int .i64 0, .int .i64 0, .int .i64 0, .int .i64 0, .slice none 0 0, .slice none 0 0, .slice none 0 0, .slice none 0 0, .slice none 0 0, .slice none 0 0, .int .i64 0, .int .i64 0, .int .i64 0, .slice none 0 0, .slice none 0 0], 816)⟩ := ⟨by kernel_rfl, (kindOK_of (by kernel_rfl)), (zeroOK_of (by kernel_rfl)), (ezOK_of (by kernel_rfl))⟩
theorem ti72 : TIok Tryz.prog 72 ⟨true, 3, .arr 3 45 1, some [.slice none 0 0, .slice none 0 0, .slice none 0 0], some (.agg #[.slice none 0 0, .slice none 0 0, .slice none 0 0], 72)⟩ := ⟨by kernel_rfl, (kindOK_of (by kernel_rfl)), (zeroOK_of (by kernel_rfl)), (ezOK_of (by kernel_rfl))⟩
theorem ti73 : TIok Tryz.prog 73 ⟨false, 1, .other, some [.map none], some (.map none, 8)⟩ := ⟨by kernel_rfl, trivial, (zeroOK_of (by kernel_rfl)), (ezOK_of (by kernel_rfl))⟩
theorem ti74 : TIok Tryz.prog 74 ⟨false, 1, .other, some [.map none], some (.map none, 8)⟩ := ⟨by kernel_rfl, trivial, (zeroOK_of (by kernel_rfl)), (ezOK_of (by kernel_rfl))⟩
theorem ti75 : TIok Tryz.prog 75 ⟨true, 2, .arr 2 3 1, some [.int .i64 0, .int .i64 0], some (.agg #[.int .i64 0, .int .i64 0], 16)⟩ := ⟨by kernel_rfl, (kindOK_of (by kernel_rfl)), (zeroOK_of (by kernel_rfl)), (ezOK_of (by kernel_rfl))⟩
theorem ti79 : TIok Tryz.prog 79 ⟨false, 1, .slice 195 2, some [.slice none 0 0], some (.slice none 0 0, 24)⟩ := ⟨by kernel_rfl, (kindOK_of (by kernel_rfl)), (zeroOK_of (by kernel_rfl)), (ezOK_of (by kernel_rfl))⟩
theorem ti80 : TIok Tryz.prog 80 ⟨true, 3, .struct [(0, 1, false), (1, 1, false), (2, 1, false)] [(0, 1), (1, 1), (2, 1)], some [.int .i64 0, .slice none 0 0, .slice none 0 0], some (.agg #[.int .i64 0, .slice none 0 0, .slice none 0 0], 56)⟩ := ⟨by kernel_rfl, (kindOK_of (by kernel_rfl)), (zeroOK_of (by kernel_rfl)), (ezOK_of (by kernel_rfl))⟩
theorem ti81 : TIok Tryz.prog 81 ⟨true, 3, .struct [(0, 1, false), (1, 1, false), (2, 1, false)] [(0, 1), (1, 1), (2, 1)], some [.int .i64 0, .slice none 0 0, .slice none 0 0], some (.agg #[.int .i64 0, .slice none 0 0, .slice none 0 0], 56)⟩ := ⟨by kernel_rfl, (kindOK_of (by kernel_rfl)), (zeroOK_of (by kernel_rfl)), (ezOK_of (by kernel_rfl))⟩
theorem ti85 : TIok Tryz.prog 85 ⟨true, 6, .struct [(0, 1, false), (1, 1, false), (2, 1, false), (3, 1, false), (4, 1, false), (5, 1, false)] [(0, 1), (1, 1), (2, 1), (3, 1), (4, 1), (5, 1)], some [.int .i64 0, .int .i64 0, .int .i64 0, .int .i64 0, .int .i64 0, .int .i64 0], some (.agg #[.int .i64 0, .int .i64 0, .int .i64 0, .int .i64 0, .int .i64 0, .int .i64 0], 48)⟩ := ⟨by kernel_rfl, (kindOK_of (by kernel_rfl)), (zeroOK_of (by kernel_rfl)), (ezOK_of (by kernel_rfl))⟩
theorem ti86 : TIok Tryz.prog 86 ⟨true, 6, .struct [(0, 1, false), (1, 1, false), (2, 1, false), (3, 1, false), (4, 1, false), (5, 1, false)] [(0, 1), (1, 1), (2, 1), (3, 1), (4, 1), (5, 1)], some [.int .i64 0, .int .i64 0, .int .i64 0, .int .i64 0, .int .i64 0, .int .i64 0], some (.agg #[.int .i64 0, .int .i64 0, .int .i64 0, .int .i64 0, .int .i64 0, .int .i64 0], 48)⟩ := ⟨by kernel_rfl, (kindOK_of (by kernel_rfl)), (zeroOK_of (by kernel_rfl)), (ezOK_of (by kernel_rfl))⟩
theorem ti89 : TIok Tryz.prog 89 ⟨true, 32, .struct [(0, 18, true), (18, 14, true)] [(0, 18), (18, 14)], some [.int .i64 0, .int .i64 0, .int .i64 0, .int .i64 0, .int .i64 0, .int .i64 0, .int .i64 0, .slice none 0 0, .slice none 0 0, .slice none 0 0, .slice none 0 0, .slice none 0 0, .slice none 0 0, .int .i64 0, .int .i64 0, .int .i64 0, .slice none 0 0, .slice none 0 0, .int .i64 0, .int .i64 0, .int .i64 0, .int .i64 0, .int .i64 0, .int .i64 0, .int .i64 0, .int .i64 0, .string ⟨#[]⟩, .int .i64 0, .int .i64 0, .slice none 0 0, .slice none 0 0, .int .i64 0], some (.agg #[.int .i64 0, .int .i64 0, .int .i64 0, .int .i64 0, .int .i64 0, .int .i64 0, .int .i64 0, .slice none 0 0, .slice none 0 0, .slice none 0 0, .slice none 0 0, .slice none 0 0, .slice none 0 0, .int .i64 0, .int .i64 0, .int .i64 0, .slice none 0 0, .slice none 0 0, .int .i64 0, .int .i64 0, .int .i64 0, .int .i64 0, .int .i64 0, .int .i64 0, .int .i64 0, .int .i64 0, .string ⟨#[]⟩, .int .i64 0, .int .i64 0, .slice none 0 0, .slice none 0 0, .int .i64 0], 424)⟩ := ⟨by kernel_rfl, (kindOK_of (by kernel_rfl)), (zeroOK_of (by kernel_rfl)), (ezOK_of (by kernel_rfl))⟩
theorem ti90 : TIok Tryz.prog 90 ⟨true, 32, .struct [(0, 18, true), (18, 14, true)] [(0, 18), (18, 14)], some [.int .i64 0, .int .i64 0, .int .i64 0, .int .i64 0, .int .i64 0, .int .i64 0, .int .i64 0, .slice none 0 0, .slice none 0 0, .slice none 0 0, .slice none 0 0, .slice none 0 0, .slice none 0 0, .int .i64 0, .int .i64 0, .int .i64 0, .slice none 0 0, .slice none 0 0, .int .i64 0, .int .i64 0, .int .i64 0, .int .i64 0, .int .i64 0, .int .i64 0, .int .i64 0, .int .i64 0, .string ⟨#[]⟩, .int .i64 0, .int .i64 0, .slice none 0 0, .slice none 0 0, .int .i64 0], some (.agg #[.int .i64 0, .int .i64 0, .int .i64 0, .int .i64 0, .int .i64 0, .int .i64 0, .int .i64 0, .slice none 0 0, .slice none 0 0, .slice none 0 0, .slice none 0 0, .slice none 0 0, .slice none 0 0, .int .i64 0, .int .i64 0, .int .i64 0, .slice none 0 0, .slice none 0 0, .int .i64 0, .int .i64 0, .int .i64 0, .int .i64 0, .int .i64 0, .int .i64 0, .int .i64 0, .int .i64 0, .string ⟨#[]⟩, .int .i64 0, .int .i64 0, .slice none 0 0, .slice none 0 0, .int .i64 0], 424)⟩ := ⟨by kernel_rfl, (kindOK_of (by kernel_rfl)), (zeroOK_of (by kernel_rfl)), (ezOK_of (by kernel_rfl))⟩
theorem ti119 : TIok Tryz.prog 119 ⟨true, 18, .struct [(0, 18, true)] [(0, 18)], some [.int .i64 0, .int .i64 0, .int .i64 0, .int .i64 0, .int .i64 0, .int .i64 0, .int .i64 0, .slice none 0 0, .slice none 0 0, .slice none 0 0, .slice none 0 0, .slice none 0 0, .slice none 0 0, .int .i64 0, .int .i64 0, .int .i64 0, .slice none 0 0, .slice none 0 0], some (.agg #[.int .i64 0, .int .i64 0, .int .i64 0, .int .i64 0, .int .i64 0, .int .i64 0, .int .i64 0, .slice none 0 0, .slice none 0 0, .slice none 0 0, .slice none 0 0, .slice none 0 0, .slice none 0 0, .int .i64 0, .int .i64 0, .int .i64 0, .slice none 0 0, .slice none 0 0], 272)⟩ := ⟨by kernel_rfl, (kindOK_of (by kernel_rfl)), (zeroOK_of (by kernel_rfl)), (ezOK_of (by kernel_rfl))⟩
theorem ti120 : TIok Tryz.prog 120 ⟨true, 18, .struct [(0, 18, true)] [(0, 18)], some [.int .i64 0, .int .i64 0, .int .i64 0, .int .i64 0, .int .i64 0, .int .i64 0, .int .i64 0, .slice none 0 0, .slice none 0 0, .slice none 0 0, .slice none 0 0, .slice none 0 0, .slice none 0 0, .int .i64 0, .int .i64 0, .int .i64 0, .slice none 0 0, .slice none 0 0], some (.agg #[.int .i64 0, .int .i64 0, .int .i64 0, .int .i64 0, .int .i64 0, .int .i64 0, .int .i64 0, .slice none 0 0, .slice none 0 0, .slice none 0 0, .slice none 0 0, .slice none 0 0, .slice none 0 0, .int .i64 0, .int .i64 0, .int .i64 0, .slice none 0 0, .slice none 0 0], 272)⟩ := ⟨by kernel_rfl, (kindOK_of (by kernel_rfl)), (zeroOK_of (by kernel_rfl)), (ezOK_of (by kernel_rfl))⟩
theorem ti121 : TIok Tryz.prog 121 ⟨false, 1, .slice 44 1, some [.slice none 0 0], some (.slice none 0 0, 24)⟩ := ⟨by kernel_rfl, (kindOK_of (by kernel_rfl)), (zeroOK_of (by kernel_rfl)), (ezOK_of (by kernel_rfl))⟩
theorem ti123 : TIok Tryz.prog 123 ⟨false, 1, .other, some [.nilIface], some (.nilIface, 16)⟩ := ⟨by kernel_rfl, trivial, (zeroOK_of (by kernel_rfl)), (ezOK_of (by kernel_rfl))⟩
theorem ti128 : TIok Tryz.prog 128 ⟨false, 1, .int .u64, some [.int .u64 0], some (.int .u64 0, 8)⟩ := ⟨by kernel_rfl, (kindOK_of (by kernel_rfl)), (zeroOK_of (by kernel_rfl)), (ezOK_of (by kernel_rfl))⟩
theorem ti137 : TIok Tryz.prog 137 ⟨true, 32, .struct [(0, 18, true), (18, 14, true)] [(0, 18), (18, 14)], some [.int .i64 0, .int .i64 0, .int .i64 0, .int .i64 0, .int .i64 0, .int .i64 0, .int .i64 0, .slice none 0 0, .slice none 0 0, .slice none 0 0, .slice none 0 0, .slice none 0 0, .slice none 0 0, .int .i64 0, .int .i64 0, .int .i64 0, .slice none 0 0, .slice none 0 0, .int .i64 0, .int .i64 0, .int .i64 0, .int .i64 0, .int .i64 0, .int .i64 0, .int .i64 0, .int .i64 0, .string ⟨#[]⟩, .int .i64 0, .int .i64 0, .slice none 0 0, .slice none 0 0, .int .i64 0], some (.agg #[.int .i64 0, .int .i64 0, .int .i64 0, .int .i64 0, .int .i64 0, .int .i64 0, .int .i64 0, .slice none 0 0, .slice none 0 0, .slice none 0 0, .slice none 0 0, .slice none 0 0, .slice none 0 0, .int .i64 0, .int .i64 0, .int .i64 0, .slice none 0 0, .slice none 0 0, .int .i64 0, .int .i64 0, .int .i64 0, .int .i64 0, .int .i64 0, .int .i64 0, .int .i64 0, .int .i64 0, .string ⟨#[]⟩, .int .i64 0, .int .i64 0, .slice none 0 0, .slice none 0 0, .int .i64 0], 424)⟩ := ⟨by kernel_rfl, (kindOK_of (by kernel_rfl)), (zeroOK_of (by kernel_rfl)), (ezOK_of (by kernel_rfl))⟩
theorem ti138 : TIok Tryz.prog 138 ⟨true, 32, .struct [(0, 18, true), (18, 14, true)] [(0, 18), (18, 14)], some [.int .i64 0, .int .i64 0, .int .i64 0, .int .i64 0, .int .i64 0, .int .i64 0, .int .i64 0, .slice none 0 0, .slice none 0 0, .slice none 0 0, .slice none 0 0, .slice none 0 0, .slice none 0 0, .int .i64 0, .int .i64 0, .int .i64 0, .slice none 0 0, .slice none 0 0, .int .i64 0, .int .i64 0, .int .i64 0, .int .i64 0, .int .i64 0, .int .i64 0, .int .i64 0, .int .i64 0, .string ⟨#[]⟩, .int .i64 0, .int .i64 0, .slice none 0 0, .slice none 0 0, .int .i64 0], some (.agg #[.int .i64 0, .int .i64 0, .int .i64 0, .int .i64 0, .int .i64 0, .int .i64 0, .int .i64 0, .slice none 0 0, .slice none 0 0, .slice none 0 0, .slice none 0 0, .slice none 0 0, .slice none 0 0, .int .i64 0, .int .i64 0, .int .i64 0, .slice none 0 0, .slice none 0 0, .int .i64 0, .int .i64 0, .int .i64 0, .int .i64 0, .int .i64 0, .int .i64 0, .int .i64 0, .int .i64 0, .string ⟨#[]⟩, .int .i64 0, .int .i64 0, .slice none 0 0, .slice none 0 0, .int .i64 0], 424)⟩ := ⟨by kernel_rfl, (kindOK_of (by kernel_rfl)), (zeroOK_of (by kernel_rfl)), (ezOK_of (by kernel_rfl))⟩
theorem ti156 : TIok Tryz.prog 156 ⟨false, 1, .other, some [.pointer none], some (.pointer none, 8)⟩ := ⟨by kernel_rfl, trivial, (zeroOK_of (by kernel_rfl)), (ezOK_of (by kernel_rfl))⟩
theorem ti159 : TIok Tryz.prog 159 ⟨false, 1, .other, some [.pointer none], some (.pointer none, 8)⟩ := ⟨by kernel_rfl, trivial, (zeroOK_of (by kernel_rfl)), (ezOK_of (by kernel_rfl))⟩
theorem ti160 : TIok Tryz.prog 160 ⟨false, 1, .other, some [.pointer none], some (.pointer none, 8)⟩ := ⟨by kernel_rfl, trivial, (zeroOK_of (by kernel_rfl)), (ezOK_of (by kernel_rfl))⟩
theorem ti162 : TIok Tryz.prog 162 ⟨true, 21, .struct [(0, 10, true), (10, 10, true), (20, 1, false)] [(0, 10), (10, 10), (20, 1)], some [.int .i64 0, .int .i64 0, .int .i64 0, .int .i64 0, .int .i64 0, .int .i64 0, .int .i64 0, .int .i64 0, .string ⟨#[]⟩, .slice none 0 0, .int .i64 0, .int .i64 0, .int .i64 0, .int .i64 0, .int .i64 0, .int .i64 0, .int .i64 0, .int .i64 0, .string ⟨#[]⟩, .slice none 0 0, .int .i64 0], some (.agg #[.int .i64 0, .int .i64 0, .int .i64 0, .int .i64 0, .int .i64 0, .int .i64 0, .int .i64 0, .int .i64 0, .string ⟨#[]⟩, .slice none 0 0, .int .i64 0, .int .i64 0, .int .i64 0, .int .i64 0, .int .i64 0, .int .i64 0, .int .i64 0, .int .i64 0, .string ⟨#[]⟩, .slice none 0 0, .int .i64 0], 216)⟩ := ⟨by kernel_rfl, (kindOK_of (by kernel_rfl)), (zeroOK_of (by kernel_rfl)), (ezOK_of (by kernel_rfl))⟩
theorem ti163 : TIok Tryz.prog 163 ⟨true, 21, .struct [(0, 10, true), (10, 10, true), (20, 1, false)] [(0, 10), (10, 10), (20, 1)], some [.int .i64 0, .int .i64 0, .int .i64 0, .int .i64 0, .int .i64 0, .int .i64 0, .int .i64 0, .int .i64 0, .string ⟨#[]⟩, .slice none 0 0, .int .i64 0, .int .i64 0, .int .i64 0, .int .i64 0, .int .i64 0, .int .i64 0, .int .i64 0, .int .i64 0, .string ⟨#[]⟩, .slice none 0 0, .int .i64 0], some (.agg #[.int .i64 0, .int .i64 0, .int .i64 0, .int .i64 0, .int .i64 0, .int .i64 0, .int .i64 0, .int .i64 0, .string ⟨#[]⟩, .slice none 0 0, .int .i64 0, .int .i64 0, .int .i64 0, .int .i64 0, .int .i64 0, .int .i64 0, .int .i64 0, .int .i64 0, .string ⟨#[]⟩, .slice none 0 0, .int .i64 0], 216)⟩ := ⟨by kernel_rfl, (kindOK_of (by kernel_rfl)), (zeroOK_of (by kernel_rfl)), (ezOK_of (by kernel_rfl))⟩
theorem ti177 : TIok Tryz.prog 177 ⟨true, 3, .struct [(0, 1, false), (1, 1, false), (2, 1, false)] [(0, 1), (1, 1), (2, 1)], some [.int .i64 0, .int .i64 0, .int .i64 0], some (.agg #[.int .i64 0, .int .i64 0, .int .i64 0], 24)⟩ := ⟨by kernel_rfl, (kindOK_of (by kernel_rfl)), (zeroOK_of (by kernel_rfl)), (ezOK_of (by kernel_rfl))⟩
theorem ti178 : TIok Tryz.prog 178 ⟨true, 3, .struct [(0, 1, false), (1, 1, false), (2, 1, false)] [(0, 1), (1, 1), (2, 1)], some [.int .i64 0, .int .i64 0, .int .i64 0], some (.agg #[.int .i64 0, .int .i64 0, .int .i64 0], 24)⟩ := ⟨by kernel_rfl, (kindOK_of (by kernel_rfl)), (zeroOK_of (by kernel_rfl)), (ezOK_of (by kernel_rfl))⟩
theorem ti184 : TIok Tryz.prog 184 ⟨true, 18, .struct [(0, 18, true)] [(0, 18)], some [.int .i64 0, .int .i64 0, .int .i64 0, .int .i64 0, .int .i64 0, .int .i64 0, .int .i64 0, .slice none 0 0, .slice none 0 0, .slice none 0 0, .slice none 0 0, .slice none 0 0, .slice none 0 0, .int .i64 0, .int .i64 0, .int .i64 0, .slice none 0 0, .slice none 0 0], some (.agg #[.int .i64 0, .int .i64 0, .int .i64 0, .int .i64 0, .int .i64 0, .int .i64 0, .int .i64 0, .slice none 0 0, .slice none 0 0, .slice none 0 0, .slice none 0 0, .slice none 0 0, .slice none 0 0, .int .i64 0, .int .i64 0, .int .i64 0, .slice none 0 0, .slice none 0 0], 272)⟩ := ⟨by kernel_rfl, (kindOK_of (by kernel_rfl)), (zeroOK_of (by kernel_rfl)), (ezOK_of (by kernel_rfl))⟩
theorem ti194 : TIok Tryz.prog 194 ⟨true, 2, .struct [(0, 1, false), (1, 1, false)] [(0, 1), (1, 1)], some [.int .i64 0, .int .i64 0], some (.agg #[.int .i64 0, .int .i64 0], 16)⟩ := ⟨by kernel_rfl, (kindOK_of (by kernel_rfl)), (zeroOK_of (by kernel_rfl)), (ezOK_of (by kernel_rfl))⟩
theorem ti195 : TIok Tryz.prog 195 ⟨true, 2, .struct [(0, 1, false), (1, 1, false)] [(0, 1), (1, 1)], some [.int .i64 0, .int .i64 0], some (.agg #[.int .i64 0, .int .i64 0], 16)⟩ := ⟨by kernel_rfl, (kindOK_of (by kernel_rfl)), (zeroOK_of (by kernel_rfl)), (ezOK_of (by kernel_rfl))⟩
theorem ti212 : TIok Tryz.prog 212 ⟨false, 1, .int .u32, some [.int .u32 0], some (.int .u32 0, 4)⟩ := ⟨by kernel_rfl, (kindOK_of (by kernel_rfl)), (zeroOK_of (by kernel_rfl)), (ezOK_of (by kernel_rfl))⟩
theorem ti214 : TIok Tryz.prog 214 ⟨false, 1, .int .u64, some [.int .u64 0], some (.int .u64 0, 8)⟩ := ⟨by kernel_rfl, (kindOK_of (by kernel_rfl)), (zeroOK_of (by kernel_rfl)), (ezOK_of (by kernel_rfl))⟩
theorem ti233 : TIok Tryz.prog 233 ⟨true, 10, .arr 10 4 1, some [.bool false, .bool false, .bool false, .bool false, .bool false, .bool false, .bool false, .bool false, .bool false, .bool false], some (.agg #[.bool false, .bool false, .bool false, .bool false, .bool false, .bool false, .bool false, .bool false, .bool false, .bool false], 10)⟩ := ⟨by kernel_rfl, (kindOK_of (by kernel_rfl)), (zeroOK_of (by kernel_rfl)), (ezOK_of (by kernel_rfl))⟩
theorem ti238 : TIok Tryz.prog 238 ⟨false, 1, .other, some [.map none], some (.map none, 8)⟩ := ⟨by kernel_rfl, trivial, (zeroOK_of (by kernel_rfl)), (ezOK_of (by kernel_rfl))⟩
theorem ti244 : TIok Tryz.prog 244 ⟨true, 11, .arr 11 9 1, some [.string ⟨#[]⟩, .string ⟨#[]⟩, .string ⟨#[]⟩, .string ⟨#[]⟩, .string ⟨#[]⟩, .string ⟨#[]⟩, .string ⟨#[]⟩, .string ⟨#[]⟩, .string ⟨#[]⟩, .string ⟨#[]⟩, .string ⟨#[]⟩], some (.agg #[.string ⟨#[]⟩, .string ⟨#[]⟩, .string ⟨#[]⟩, .string ⟨#[]⟩, .string ⟨#[]⟩, .string ⟨#[]⟩, .string ⟨#[]⟩, .string ⟨#[]⟩, .string ⟨#[]⟩, .string ⟨#[]⟩, .string ⟨#[]⟩], 176)⟩ := ⟨by kernel_rfl, (kindOK_of (by kernel_rfl)), (zeroOK_of (by kernel_rfl)), (ezOK_of (by kernel_rfl))⟩
theorem ti245 : TIok Tryz.prog 245 ⟨false, 1, .other, some [.pointer none], some (.pointer none, 8)⟩ := ⟨by kernel_rfl, trivial, (zeroOK_of (by kernel_rfl)), (ezOK_of (by kernel_rfl))⟩
theorem ti246 : TIok Tryz.prog 246 ⟨true, 2, .struct [(0, 1, false), (1, 1, false)] [(0, 1), (1, 1)], some [.string ⟨#[]⟩, .nilIface], some (.agg #[.string ⟨#[]⟩, .nilIface], 32)⟩ := ⟨by kernel_rfl, (kindOK_of (by kernel_rfl)), (zeroOK_of (by kernel_rfl)), (ezOK_of (by kernel_rfl))⟩
theorem ti247 : TIok Tryz.prog 247 ⟨true, 2, .struct [(0, 1, false), (1, 1, false)] [(0, 1), (1, 1)], some [.string ⟨#[]⟩, .nilIface], some (.agg #[.string ⟨#[]⟩, .nilIface], 32)⟩ := ⟨by kernel_rfl, (kindOK_of (by kernel_rfl)), (zeroOK_of (by kernel_rfl)), (ezOK_of (by kernel_rfl))⟩
theorem ti249 : TIok Tryz.prog 249 ⟨true, 6, .struct [(0, 1, false), (1, 1, false), (2, 1, false), (3, 1, false), (4, 1, false), (5, 1, false)] [(0, 1), (1, 1), (2, 1), (3, 1), (4, 1), (5, 1)], some [.int .i64 0, .int .i64 0, .int .i64 0, .int .i64 0, .int .i64 0, .int .i64 0], some (.agg #[.int .i64 0, .int .i64 0, .int .i64 0, .int .i64 0, .int .i64 0, .int .i64 0], 48)⟩ := ⟨by kernel_rfl, (kindOK_of (by kernel_rfl)), (zeroOK_of (by kernel_rfl)), (ezOK_of (by kernel_rfl))⟩
theorem ti256 : TIok Tryz.prog 256 ⟨false, 1, .slice 258 3, some [.slice none 0 0], some (.slice none 0 0, 24)⟩ := ⟨by kernel_rfl, (kindOK_of (by kernel_rfl)), (zeroOK_of (by kernel_rfl)), (ezOK_of (by kernel_rfl))⟩
theorem ti258 : TIok Tryz.prog 258 ⟨true, 3, .arr 3 3 1, some [.int .i64 0, .int .i64 0, .int .i64 0], some (.agg #[.int .i64 0, .int .i64 0, .int .i64 0], 24)⟩ := ⟨by kernel_rfl, (kindOK_of (by kernel_rfl)), (zeroOK_of (by kernel_rfl)), (ezOK_of (by kernel_rfl))⟩
theorem ti262 : TIok Tryz.prog 262 ⟨false, 1, .slice 9 1, some [.slice none 0 0], some (.slice none 0 0, 24)⟩ := ⟨by kernel_rfl, (kindOK_of (by kernel_rfl)), (zeroOK_of (by kernel_rfl)), (ezOK_of (by kernel_rfl))⟩
theorem ti267 : TIok Tryz.prog 267 ⟨true, 6, .arr 6 3 1, some [.int .i64 0, .int .i64 0, .int .i64 0, .int .i64 0, .int .i64 0, .int .i64 0], some (.agg #[.int .i64 0, .int .i64 0, .int .i64 0, .int .i64 0, .int .i64 0, .int .i64 0], 48)⟩ := ⟨by kernel_rfl, (kindOK_of (by kernel_rfl)), (zeroOK_of (by kernel_rfl)), (ezOK_of (by kernel_rfl))⟩
theorem ti280 : TIok Tryz.prog 280 ⟨false, 1, .other, some [.pointer none], some (.pointer none, 8)⟩ := ⟨by kernel_rfl, trivial, (zeroOK_of (by kernel_rfl)), (ezOK_of (by kernel_rfl))⟩
theorem ti285 : TIok Tryz.prog 285 ⟨true, 4, .struct [(0, 1, false), (1, 1, false), (2, 1, false), (3, 1, false)] [(0, 1), (1, 1), (2, 1), (3, 1)], some [.int .i64 0, .int .i64 0, .int .i64 0, .int .i64 0], some (.agg #[.int .i64 0, .int .i64 0, .int .i64 0, .int .i64 0], 32)⟩ := ⟨by kernel_rfl, (kindOK_of (by kernel_rfl)), (zeroOK_of (by kernel_rfl)), (ezOK_of (by kernel_rfl))⟩
theorem ti286 : TIok Tryz.prog 286 ⟨true, 4, .struct [(0, 1, false), (1, 1, false), (2, 1, false), (3, 1, false)] [(0, 1), (1, 1), (2, 1), (3, 1)], some [.int .i64 0, .int .i64 0, .int .i64 0, .int .i64 0], some (.agg #[.int .i64 0, .int .i64 0, .int .i64 0, .int .i64 0], 32)⟩ := ⟨by kernel_rfl, (kindOK_of (by kernel_rfl)), (zeroOK_of (by kernel_rfl)), (ezOK_of (by kernel_rfl))⟩
theorem ti287 : TIok Tryz.prog 287 ⟨true, 3, .struct [(0, 1, false), (1, 1, false), (2, 1, false)] [(0, 1), (1, 1), (2, 1)], some [.int .i64 0, .int .i64 0, .string ⟨#[]⟩], some (.agg #[.int .i64 0, .int .i64 0, .string ⟨#[]⟩], 32)⟩ := ⟨by kernel_rfl, (kindOK_of (by kernel_rfl)), (zeroOK_of (by kernel_rfl)), (ezOK_of (by kernel_rfl))⟩
theorem ti288 : TIok Tryz.prog 288 ⟨true, 3, .struct [(0, 1, false), (1, 1, false), (2, 1, false)] [(0, 1), (1, 1), (2, 1)], some [.int .i64 0, .int .i64 0, .string ⟨#[]⟩], some (.agg #[.int .i64 0, .int .i64 0, .string ⟨#[]⟩], 32)⟩ := ⟨by kernel_rfl, (kindOK_of (by kernel_rfl)), (zeroOK_of (by kernel_rfl)), (ezOK_of (by kernel_rfl))⟩
instance : EqT Tryz.prog 29 2 := ⟨by kernel_rfl, by kernel_rfl, by kernel_rfl, by kernel_rfl, by kernel_rfl⟩
instance : EqT Tryz.prog 86 6 := ⟨by kernel_rfl, by kernel_rfl, by kernel_rfl, by kernel_rfl, by kernel_rfl⟩
instance : EqT Tryz.prog 178 3 := ⟨by kernel_rfl, by kernel_rfl, by kernel_rfl, by kernel_rfl, by kernel_rfl⟩
instance : EqT Tryz.prog 195 2 := ⟨by kernel_rfl, by kernel_rfl, by kernel_rfl, by kernel_rfl, by kernel_rfl⟩
theorem okNone {P : Program} {t : Nat} : ∀ i : TI, (none : Option TI) = some i → TIok P t i := fun _ h => by cases h
theorem okSome {P : Program} {t : Nat} {x : TI} (h : TIok P t x) : ∀ i : TI, some x = some i → TIok P t i := fun _ e => by injection e with e; subst e; exact h
def tab : TT := (.n none (.n none (.n (some ⟨false, 1, .int .i64, some [.int .i64 0], some (.int .i64 0, 8)⟩) (.n none (.n none (.n (some ⟨false, 1, .slice 288 3, some [.slice none 0 0], some (.slice none 0 0, 24)⟩) (.n (some ⟨true, 15, .struct [(0, 1, false), (1, 14, true)] [(0, 1), (1, 14)], some [.int .i64 0, .int .i64 0, .int .i64 0, .int .i64 0, .int .i64 0, .int .i64 0, .int .i64 0, .int .i64 0, .int .i64 0, .string ⟨#[]⟩, .int .i64 0, .int .i64 0, .slice none 0 0, .slice none 0 0, .int .i64 0], some (.agg #[.int .i64 0, .int .i64 0, .int .i64 0, .int .i64 0, .int .i64 0, .int .i64 0, .int .i64 0, .int .i64 0, .int .i64 0, .string ⟨#[]⟩, .int .i64 0, .int .i64 0, .slice none 0 0, .slice none 0 0, .int .i64 0], 160)⟩) .e .e) (.n none (.n (some ⟨false, 1, .other, some [.pointer none], some (.pointer none, 8)⟩) (.n (some ⟨true, 3, .struct [(0, 1, false), (1, 1, false), (2, 1, false)] [(0, 1), (1, 1), (2, 1)], some [.int .i64 0, .int .i64 0, .string ⟨#[]⟩], some (.agg #[.int .i64 0, .int .i64 0, .string ⟨#[]⟩], 32)⟩) .e .e) .e) .e)) (.n none (.n (some ⟨false, 1, .slice 195 2, some [.slice none 0 0], some (.slice none 0 0, 24)⟩) .e .e) .e)) (.n (some ⟨false, 1, .slice 29 2, some [.slice none 0 0], some (.slice none 0 0, 24)⟩) (.n (some ⟨true, 10, .struct [(0, 1, false), (1, 1, false), (2, 1, false), (3, 1, false), (4, 1, false), (5, 1, false), (6, 1, false), (7, 1, false), (8, 1, false), (9, 1, false)] [(0, 1), (1, 1), (2, 1), (3, 1), (4, 1), (5, 1), (6, 1), (7, 1), (8, 1), (9, 1)], some [.int .i64 0, .int .i64 0, .int .i64 0, .int .i64 0, .int .i64 0, .int .i64 0, .int .i64 0, .int .i64 0, .string ⟨#[]⟩, .slice none 0 0], some (.agg #[.int .i64 0, .int .i64 0, .int .i64 0, .int .i64 0, .int .i64 0, .int .i64 0, .int .i64 0, .int .i64 0, .string ⟨#[]⟩, .slice none 0 0], 104)⟩) (.n (some ⟨true, 54, .arr 3 35 18, some [.int .i64 0, .int .i64 0, .int .i64 0, .int .i64 0, .int .i64 0, .int .i64 0, .int .i64 0, .slice none 0 0, .slice none 0 0, .slice none 0 0, .slice none 0 0, .slice none 0 0, .slice none 0 0, .int .i64 0, .int .i64 0, .int .i64 0, .slice none 0 0, .slice none 0 0, .int .i64 0, .int .i64 0, .int .i64 0, .int .i64 0, .int .i64 0, .int .i64 0, .int .i64 0, .slice none 0 0, .slice none 0 0, .slice none 0 0, .slice none 0 0, .slice none 0 0, .slice none 0 0, .int .i64 0, .int .i64 0, .int .i64 0, .slice none 0 0, .slice none 0 0, .int .i64 0, .int .i64 0, .int .i64 0, .int .i64 0, .int .i64 0, .int .i64 0, .int .i64 0, .slice none 0 0, .slice none 0 0, .slice none 0 0, .slice none 0 0, .slice none 0 0, .slice none 0 0, .int .i64 0, .int .i64 0, .int .i64 0, .slice none 0 0, .slice none 0 0], some (.agg #[.int .i64 0, .int .i64 0, .int .i64 0, .int .i64 0, .int .i64 0, .int .i64 0, .int .i64 0, .slice none 0 0, .slice none 0 0, .slice none 0 0, .slice none 0 0, .slice none 0 0, .slice none 0 0, .int .i64 0, .int .i64 0, .int .i64 0, .slice none 0 0, .slice none 0 0, .int .i64 0, .int .i64 0, .int .i64 0, .int .i64 0, .int .i64 0, .int .i64 0, .int .i64 0, .slice none 0 0, .slice none 0 0, .slice none 0 0, .slice none 0 0, .slice none 0 0, .slice none 0 0, .int .i64 0, .int .i64 0, .int .i64 0, .slice none 0 0, .slice none 0 0, .int .i64 0, .int .i64 0, .int .i64 0, .int .i64 0, .int .i64 0, .int .i64 0, .int .i64 0, .slice none 0 0, .slice none 0 0, .slice none 0 0, .slice none 0 0, .slice none 0 0, .slice none 0 0, .int .i64 0, .int .i64 0, .int .i64 0, .slice none 0 0, .slice none 0 0], 816)⟩) .e .e) .e) (.n none .e (.n (some ⟨true, 18, .struct [(0, 18, true)] [(0, 18)], some [.int .i64 0, .int .i64 0, .int .i64 0, .int .i64 0, .int .i64 0, .int .i64 0, .int .i64 0, .slice none 0 0, .slice none 0 0, .slice none 0 0, .slice none 0 0, .slice none 0 0, .slice none 0 0, .int .i64 0, .int .i64 0, .int .i64 0, .slice none 0 0, .slice none 0 0], some (.agg #[.int .i64 0, .int .i64 0, .int .i64 0, .int .i64 0, .int .i64 0, .int .i64 0, .int .i64 0, .slice none 0 0, .slice none 0 0, .slice none 0 0, .slice none 0 0, .slice none 0 0, .slice none 0 0, .int .i64 0, .int .i64 0, .int .i64 0, .slice none 0 0, .slice none 0 0], 272)⟩) .e (.n (some ⟨true, 2, .struct [(0, 1, false), (1, 1, false)] [(0, 1), (1, 1)], some [.string ⟨#[]⟩, .nilIface], some (.agg #[.string ⟨#[]⟩, .nilIface], 32)⟩) .e .e))))) (.n none (.n none (.n (some ⟨true, 18, .struct [(0, 1, false), (1, 1, false), (2, 1, false), (3, 1, false), (4, 1, false), (5, 1, false), (6, 1, false), (7, 1, false), (8, 1, false), (9, 1, false), (10, 1, false), (11, 1, false), (12, 1, false), (13, 2, true), (15, 1, false), (16, 2, true)] [(0, 1), (1, 1), (2, 1), (3, 1), (4, 1), (5, 1), (6, 1), (7, 1), (8, 1), (9, 1), (10, 1), (11, 1), (12, 1), (13, 2), (15, 1), (16, 2)], some [.int .i64 0, .int .i64 0, .int .i64 0, .int .i64 0, .int .i64 0, .int .i64 0, .int .i64 0, .slice none 0 0, .slice none 0 0, .slice none 0 0, .slice none 0 0, .slice none 0 0, .slice none 0 0, .int .i64 0, .int .i64 0, .int .i64 0, .slice none 0 0, .slice none 0 0], some (.agg #[.int .i64 0, .int .i64 0, .int .i64 0, .int .i64 0, .int .i64 0, .int .i64 0, .int .i64 0, .slice none 0 0, .slice none 0 0, .slice none 0 0, .slice none 0 0, .slice none 0 0, .slice none 0 0, .int .i64 0, .int .i64 0, .int .i64 0, .slice none 0 0, .slice none 0 0], 272)⟩) (.n none .e (.n (some ⟨true, 2, .struct [(0, 1, false), (1, 1, false)] [(0, 1), (1, 1)], some [.int .i64 0, .int .i64 0], some (.agg #[.int .i64 0, .int .i64 0], 16)⟩) .e .e)) (.n none (.n (some ⟨true, 21, .struct [(0, 10, true), (10, 10, true), (20, 1, false)] [(0, 10), (10, 10), (20, 1)], some [.int .i64 0, .int .i64 0, .int .i64 0, .int .i64 0, .int .i64 0, .int .i64 0, .int .i64 0, .int .i64 0, .string ⟨#[]⟩, .slice none 0 0, .int .i64 0, .int .i64 0, .int .i64 0, .int .i64 0, .int .i64 0, .int .i64 0, .int .i64 0, .int .i64 0, .string ⟨#[]⟩, .slice none 0 0, .int .i64 0], some (.agg #[.int .i64 0, .int .i64 0, .int .i64 0, .int .i64 0, .int .i64 0, .int .i64 0, .int .i64 0, .int .i64 0, .string ⟨#[]⟩, .slice none 0 0, .int .i64 0, .int .i64 0, .int .i64 0, .int .i64 0, .int .i64 0, .int .i64 0, .int .i64 0, .int .i64 0, .string ⟨#[]⟩, .slice none 0 0, .int .i64 0], 216)⟩) .e .e) .e)) .e) (.n (some ⟨false, 1, .slice 79 1, some [.slice none 0 0], some (.slice none 0 0, 24)⟩) (.n none (.n (some ⟨true, 2, .arr 2 3 1, some [.int .i64 0, .int .i64 0], some (.agg #[.int .i64 0, .int .i64 0], 16)⟩) (.n none (.n (some ⟨true, 6, .arr 6 3 1, some [.int .i64 0, .int .i64 0, .int .i64 0, .int .i64 0, .int .i64 0, .int .i64 0], some (.agg #[.int .i64 0, .int .i64 0, .int .i64 0, .int .i64 0, .int .i64 0, .int .i64 0], 48)⟩) .e .e) .e) .e) .e) (.n none .e (.n (some ⟨false, 1, .other, some [.nilIface], some (.nilIface, 16)⟩) .e .e))))) (.n (some ⟨false, 1, .int .u8, some [.int .u8 0], some (.int .u8 0, 1)⟩) (.n (some ⟨false, 1, .str, some [.string ⟨#[]⟩], some (.string ⟨#[]⟩, 16)⟩) (.n none (.n (some ⟨true, 2, .struct [(0, 1, false), (1, 1, false)] [(0, 1), (1, 1)], some [.slice none 0 0, .slice none 0 0], some (.agg #[.slice none 0 0, .slice none 0 0], 48)⟩) .e .e) (.n none (.n (some ⟨true, 3, .struct [(0, 1, false), (1, 1, false), (2, 1, false)] [(0, 1), (1, 1), (2, 1)], some [.int .i64 0, .slice none 0 0, .slice none 0 0], some (.agg #[.int .i64 0, .slice none 0 0, .slice none 0 0], 56)⟩) .e .e) (.n none (.n (some ⟨true, 3, .struct [(0, 1, false), (1, 1, false), (2, 1, false)] [(0, 1), (1, 1), (2, 1)], some [.int .i64 0, .int .i64 0, .int .i64 0], some (.agg #[.int .i64 0, .int .i64 0, .int .i64 0], 24)⟩) .e .e) .e))) (.n (some ⟨false, 1, .slice 26 1, some [.slice none 0 0], some (.slice none 0 0, 24)⟩) (.n none (.n (some ⟨false, 1, .other, some [.map none], some (.map none, 8)⟩) (.n (some ⟨true, 32, .struct [(0, 18, true), (18, 14, true)] [(0, 18), (18, 14)], some [.int .i64 0, .int .i64 0, .int .i64 0, .int .i64 0, .int .i64 0, .int .i64 0, .int .i64 0, .slice none 0 0, .slice none 0 0, .slice none 0 0, .slice none 0 0, .slice none 0 0, .slice none 0 0, .int .i64 0, .int .i64 0, .int .i64 0, .slice none 0 0, .slice none 0 0, .int .i64 0, .int .i64 0, .int .i64 0, .int .i64 0, .int .i64 0, .int .i64 0, .int .i64 0, .int .i64 0, .string ⟨#[]⟩, .int .i64 0, .int .i64 0, .slice none 0 0, .slice none 0 0, .int .i64 0], some (.agg #[.int .i64 0, .int .i64 0, .int .i64 0, .int .i64 0, .int .i64 0, .int .i64 0, .int .i64 0, .slice none 0 0, .slice none 0 0, .slice none 0 0, .slice none 0 0, .slice none 0 0, .slice none 0 0, .int .i64 0, .int .i64 0, .int .i64 0, .slice none 0 0, .slice none 0 0, .int .i64 0, .int .i64 0, .int .i64 0, .int .i64 0, .int .i64 0, .int .i64 0, .int .i64 0, .int .i64 0, .string ⟨#[]⟩, .int .i64 0, .int .i64 0, .slice none 0 0, .slice none 0 0, .int .i64 0], 424)⟩) .e .e) .e) (.n none .e (.n (some ⟨true, 10, .arr 10 4 1, some [.bool false, .bool false, .bool false, .bool false, .bool false, .bool false, .bool false, .bool false, .bool false, .bool false], some (.agg #[.bool false, .bool false, .bool false, .bool false, .bool false, .bool false, .bool false, .bool false, .bool false, .bool false], 10)⟩) .e .e))) (.n none (.n (some ⟨true, 32, .struct [(0, 18, true), (18, 14, true)] [(0, 18), (18, 14)], some [.int .i64 0, .int .i64 0, .int .i64 0, .int .i64 0, .int .i64 0, .int .i64 0, .int .i64 0, .slice none 0 0, .slice none 0 0, .slice none 0 0, .slice none 0 0, .slice none 0 0, .slice none 0 0, .int .i64 0, .int .i64 0, .int .i64 0, .slice none 0 0, .slice none 0 0, .int .i64 0, .int .i64 0, .int .i64 0, .int .i64 0, .int .i64 0, .int .i64 0, .int .i64 0, .int .i64 0, .string ⟨#[]⟩, .int .i64 0, .int .i64 0, .slice none 0 0, .slice none 0 0, .int .i64 0], some (.agg #[.int .i64 0, .int .i64 0, .int .i64 0, .int .i64 0, .int .i64 0, .int .i64 0, .int .i64 0, .slice none 0 0, .slice none 0 0, .slice none 0 0, .slice none 0 0, .slice none 0 0, .slice none 0 0, .int .i64 0, .int .i64 0, .int .i64 0, .slice none 0 0, .slice none 0 0, .int .i64 0, .int .i64 0, .int .i64 0, .int .i64 0, .int .i64 0, .int .i64 0, .int .i64 0, .int .i64 0, .string ⟨#[]⟩, .int .i64 0, .int .i64 0, .slice none 0 0, .slice none 0 0, .int .i64 0], 424)⟩) .e .e) (.n (some ⟨false, 1, .slice 44 1, some [.slice none 0 0], some (.slice none 0 0, 24)⟩) .e (.n (some ⟨true, 6, .struct [(0, 1, false), (1, 1, false), (2, 1, false), (3, 1, false), (4, 1, false), (5, 1, false)] [(0, 1), (1, 1), (2, 1), (3, 1), (4, 1), (5, 1)], some [.int .i64 0, .int .i64 0, .int .i64 0, .int .i64 0, .int .i64 0, .int .i64 0], some (.agg #[.int .i64 0, .int .i64 0, .int .i64 0, .int .i64 0, .int .i64 0, .int .i64 0], 48)⟩) .e .e))))) (.n (some ⟨true, 2, .struct [(0, 1, false), (1, 1, false)] [(0, 1), (1, 1)], some [.string ⟨#[]⟩, .int .u64 0], some (.agg #[.string ⟨#[]⟩, .int .u64 0], 24)⟩) (.n (some ⟨false, 1, .int .i32, some [.int .i32 0], some (.int .i32 0, 4)⟩) (.n (some ⟨true, 14, .struct [(0, 1, false), (1, 1, false), (2, 1, false), (3, 1, false), (4, 1, false), (5, 1, false), (6, 1, false), (7, 1, false), (8, 1, false), (9, 1, false), (10, 1, false), (11, 1, false), (12, 1, false), (13, 1, false)] [(0, 1), (1, 1), (2, 1), (3, 1), (4, 1), (5, 1), (6, 1), (7, 1), (8, 1), (9, 1), (10, 1), (11, 1), (12, 1), (13, 1)], some [.int .i64 0, .int .i64 0, .int .i64 0, .int .i64 0, .int .i64 0, .int .i64 0, .int .i64 0, .int .i64 0, .string ⟨#[]⟩, .int .i64 0, .int .i64 0, .slice none 0 0, .slice none 0 0, .int .i64 0], some (.agg #[.int .i64 0, .int .i64 0, .int .i64 0, .int .i64 0, .int .i64 0, .int .i64 0, .int .i64 0, .int .i64 0, .string ⟨#[]⟩, .int .i64 0, .int .i64 0, .slice none 0 0, .slice none 0 0, .int .i64 0], 152)⟩) .e .e) (.n none (.n (some ⟨true, 6, .struct [(0, 1, false), (1, 1, false), (2, 1, false), (3, 1, false), (4, 1, false), (5, 1, false)] [(0, 1), (1, 1), (2, 1), (3, 1), (4, 1), (5, 1)], some [.int .i64 0, .int .i64 0, .int .i64 0, .int .i64 0, .int .i64 0, .int .i64 0], some (.agg #[.int .i64 0, .int .i64 0, .int .i64 0, .int .i64 0, .int .i64 0, .int .i64 0], 48)⟩) .e .e) (.n none .e (.n (some ⟨false, 1, .other, some [.pointer none], some (.pointer none, 8)⟩) .e .e)))) (.n (some ⟨true, 2, .struct [(0, 1, false), (1, 1, false)] [(0, 1), (1, 1)], some [.int .i64 0, .int .i64 0], some (.agg #[.int .i64 0, .int .i64 0], 16)⟩) (.n (some ⟨false, 1, .slice 63 15, some [.slice none 0 0], some (.slice none 0 0, 24)⟩) .e .e) (.n none (.n none (.n none (.n (some ⟨true, 4, .struct [(0, 1, false), (1, 1, false), (2, 1, false), (3, 1, false)] [(0, 1), (1, 1), (2, 1), (3, 1)], some [.int .i64 0, .int .i64 0, .int .i64 0, .int .i64 0], some (.agg #[.int .i64 0, .int .i64 0, .int .i64 0, .int .i64 0], 32)⟩) .e .e) .e) .e) .e))))) (.n (some ⟨false, 1, .int .i64, some [.int .i64 0], some (.int .i64 0, 8)⟩) (.n (some ⟨false, 1, .bool, some [.bool false], some (.bool false, 1)⟩) (.n none (.n none (.n (some ⟨true, 2, .struct [(0, 1, false), (1, 1, false)] [(0, 1), (1, 1)], some [.slice none 0 0, .slice none 0 0], some (.agg #[.slice none 0 0, .slice none 0 0], 48)⟩) (.n none (.n (some ⟨false, 1, .int .u64, some [.int .u64 0], some (.int .u64 0, 8)⟩) (.n (some ⟨false, 1, .slice 258 3, some [.slice none 0 0], some (.slice none 0 0, 24)⟩) .e .e) .e) .e) (.n none (.n (some ⟨false, 1, .other, some [.pointer none], some (.pointer none, 8)⟩) (.n (some ⟨true, 3, .struct [(0, 1, false), (1, 1, false), (2, 1, false)] [(0, 1), (1, 1), (2, 1)], some [.int .i64 0, .int .i64 0, .string ⟨#[]⟩], some (.agg #[.int .i64 0, .int .i64 0, .string ⟨#[]⟩], 32)⟩) .e .e) .e) .e)) (.n none (.n (some ⟨true, 3, .struct [(0, 1, false), (1, 1, false), (2, 1, false)] [(0, 1), (1, 1), (2, 1)], some [.int .i64 0, .slice none 0 0, .slice none 0 0], some (.agg #[.int .i64 0, .slice none 0 0, .slice none 0 0], 56)⟩) .e .e) .e)) (.n (some ⟨false, 1, .slice 81 3, some [.slice none 0 0], some (.slice none 0 0, 24)⟩) (.n (some ⟨true, 10, .struct [(0, 1, false), (1, 1, false), (2, 1, false), (3, 1, false), (4, 1, false), (5, 1, false), (6, 1, false), (7, 1, false), (8, 1, false), (9, 1, false)] [(0, 1), (1, 1), (2, 1), (3, 1), (4, 1), (5, 1), (6, 1), (7, 1), (8, 1), (9, 1)], some [.int .i64 0, .int .i64 0, .int .i64 0, .int .i64 0, .int .i64 0, .int .i64 0, .int .i64 0, .int .i64 0, .string ⟨#[]⟩, .slice none 0 0], some (.agg #[.int .i64 0, .int .i64 0, .int .i64 0, .int .i64 0, .int .i64 0, .int .i64 0, .int .i64 0, .int .i64 0, .string ⟨#[]⟩, .slice none 0 0], 104)⟩) (.n (some ⟨true, 3, .arr 3 45 1, some [.slice none 0 0, .slice none 0 0, .slice none 0 0], some (.agg #[.slice none 0 0, .slice none 0 0, .slice none 0 0], 72)⟩) .e .e) .e) (.n (some ⟨false, 1, .slice 37 14, some [.slice none 0 0], some (.slice none 0 0, 24)⟩) (.n none (.n none (.n (some ⟨false, 1, .other, some [.pointer none], some (.pointer none, 8)⟩) .e .e) .e) .e) (.n (some ⟨true, 18, .struct [(0, 18, true)] [(0, 18)], some [.int .i64 0, .int .i64 0, .int .i64 0, .int .i64 0, .int .i64 0, .int .i64 0, .int .i64 0, .slice none 0 0, .slice none 0 0, .slice none 0 0, .slice none 0 0, .slice none 0 0, .slice none 0 0, .int .i64 0, .int .i64 0, .int .i64 0, .slice none 0 0, .slice none 0 0], some (.agg #[.int .i64 0, .int .i64 0, .int .i64 0, .int .i64 0, .int .i64 0, .int .i64 0, .int .i64 0, .slice none 0 0, .slice none 0 0, .slice none 0 0, .slice none 0 0, .slice none 0 0, .slice none 0 0, .int .i64 0, .int .i64 0, .int .i64 0, .slice none 0 0, .slice none 0 0], 272)⟩) (.n (some ⟨true, 18, .struct [(0, 18, true)] [(0, 18)], some [.int .i64 0, .int .i64 0, .int .i64 0, .int .i64 0, .int .i64 0, .int .i64 0, .int .i64 0, .slice none 0 0, .slice none 0 0, .slice none 0 0, .slice none 0 0, .slice none 0 0, .slice none 0 0, .int .i64 0, .int .i64 0, .int .i64 0, .slice none 0 0, .slice none 0 0], some (.agg #[.int .i64 0, .int .i64 0, .int .i64 0, .int .i64 0, .int .i64 0, .int .i64 0, .int .i64 0, .slice none 0 0, .slice none 0 0, .slice none 0 0, .slice none 0 0, .slice none 0 0, .slice none 0 0, .int .i64 0, .int .i64 0, .int .i64 0, .slice none 0 0, .slice none 0 0], 272)⟩) .e .e) .e)))) (.n (some ⟨false, 1, .int .u64, some [.int .u64 0], some (.int .u64 0, 8)⟩) (.n (some ⟨false, 1, .other, some [.nilIface], some (.nilIface, 16)⟩) (.n (some ⟨true, 14, .struct [(0, 1, false), (1, 1, false), (2, 1, false), (3, 1, false), (4, 1, false), (5, 1, false), (6, 1, false), (7, 1, false), (8, 1, false), (9, 1, false), (10, 1, false), (11, 1, false), (12, 1, false), (13, 1, false)] [(0, 1), (1, 1), (2, 1), (3, 1), (4, 1), (5, 1), (6, 1), (7, 1), (8, 1), (9, 1), (10, 1), (11, 1), (12, 1), (13, 1)], some [.int .i64 0, .int .i64 0, .int .i64 0, .int .i64 0, .int .i64 0, .int .i64 0, .int .i64 0, .int .i64 0, .string ⟨#[]⟩, .int .i64 0, .int .i64 0, .slice none 0 0, .slice none 0 0, .int .i64 0], some (.agg #[.int .i64 0, .int .i64 0, .int .i64 0, .int .i64 0, .int .i64 0, .int .i64 0, .int .i64 0, .int .i64 0, .string ⟨#[]⟩, .int .i64 0, .int .i64 0, .slice none 0 0, .slice none 0 0, .int .i64 0], 152)⟩) .e .e) (.n (some ⟨false, 1, .int .i64, some [.int .i64 0], some (.int .i64 0, 8)⟩) (.n none .e (.n (some ⟨false, 1, .int .u32, some [.int .u32 0], some (.int .u32 0, 4)⟩) .e .e)) (.n none .e (.n (some ⟨true, 11, .arr 11 9 1, some [.string ⟨#[]⟩, .string ⟨#[]⟩, .string ⟨#[]⟩, .string ⟨#[]⟩, .string ⟨#[]⟩, .string ⟨#[]⟩, .string ⟨#[]⟩, .string ⟨#[]⟩, .string ⟨#[]⟩, .string ⟨#[]⟩, .string ⟨#[]⟩], some (.agg #[.string ⟨#[]⟩, .string ⟨#[]⟩, .string ⟨#[]⟩, .string ⟨#[]⟩, .string ⟨#[]⟩, .string ⟨#[]⟩, .string ⟨#[]⟩, .string ⟨#[]⟩, .string ⟨#[]⟩, .string ⟨#[]⟩, .string ⟨#[]⟩], 176)⟩) .e .e)))) (.n (some ⟨true, 2, .struct [(0, 1, false), (1, 1, false)] [(0, 1), (1, 1)], some [.int .i64 0, .int .i64 0], some (.agg #[.int .i64 0, .int .i64 0], 16)⟩) .e (.n none (.n none (.n (some ⟨false, 1, .other, some [.pointer none], some (.pointer none, 8)⟩) .e .e) .e) .e)))) (.n none (.n none (.n none (.n (some ⟨true, 18, .struct [(0, 1, false), (1, 1, false), (2, 1, false), (3, 1, false), (4, 1, false), (5, 1, false), (6, 1, false), (7, 1, false), (8, 1, false), (9, 1, false), (10, 1, false), (11, 1, false), (12, 1, false), (13, 2, true), (15, 1, false), (16, 2, true)] [(0, 1), (1, 1), (2, 1), (3, 1), (4, 1), (5, 1), (6, 1), (7, 1), (8, 1), (9, 1), (10, 1), (11, 1), (12, 1), (13, 2), (15, 1), (16, 2)], some [.int .i64 0, .int .i64 0, .int .i64 0, .int .i64 0, .int .i64 0, .int .i64 0, .int .i64 0, .slice none 0 0, .slice none 0 0, .slice none 0 0, .slice none 0 0, .slice none 0 0, .slice none 0 0, .int .i64 0, .int .i64 0, .int .i64 0, .slice none 0 0, .slice none 0 0], some (.agg #[.int .i64 0, .int .i64 0, .int .i64 0, .int .i64 0, .int .i64 0, .int .i64 0, .int .i64 0, .slice none 0 0, .slice none 0 0, .slice none 0 0, .slice none 0 0, .slice none 0 0, .slice none 0 0, .int .i64 0, .int .i64 0, .int .i64 0, .slice none 0 0, .slice none 0 0], 272)⟩) (.n none (.n none (.n (some ⟨true, 3, .arr 3 3 1, some [.int .i64 0, .int .i64 0, .int .i64 0], some (.agg #[.int .i64 0, .int .i64 0, .int .i64 0], 24)⟩) .e .e) .e) (.n (some ⟨true, 2, .struct [(0, 1, false), (1, 1, false)] [(0, 1), (1, 1)], some [.int .i64 0, .int .i64 0], some (.agg #[.int .i64 0, .int .i64 0], 16)⟩) .e .e)) (.n none (.n (some ⟨true, 21, .struct [(0, 10, true), (10, 10, true), (20, 1, false)] [(0, 10), (10, 10), (20, 1)], some [.int .i64 0, .int .i64 0, .int .i64 0, .int .i64 0, .int .i64 0, .int .i64 0, .int .i64 0, .int .i64 0, .string ⟨#[]⟩, .slice none 0 0, .int .i64 0, .int .i64 0, .int .i64 0, .int .i64 0, .int .i64 0, .int .i64 0, .int .i64 0, .int .i64 0, .string ⟨#[]⟩, .slice none 0 0, .int .i64 0], some (.agg #[.int .i64 0, .int .i64 0, .int .i64 0, .int .i64 0, .int .i64 0, .int .i64 0, .int .i64 0, .int .i64 0, .string ⟨#[]⟩, .slice none 0 0, .int .i64 0, .int .i64 0, .int .i64 0, .int .i64 0, .int .i64 0, .int .i64 0, .int .i64 0, .int .i64 0, .string ⟨#[]⟩, .slice none 0 0, .int .i64 0], 216)⟩) .e .e) .e)) (.n none .e (.n none (.n (some ⟨true, 3, .struct [(0, 1, false), (1, 1, false), (2, 1, false)] [(0, 1), (1, 1), (2, 1)], some [.int .i64 0, .int .i64 0, .int .i64 0], some (.agg #[.int .i64 0, .int .i64 0, .int .i64 0], 24)⟩) .e .e) .e))) (.n (some ⟨false, 1, .slice 3 1, some [.slice none 0 0], some (.slice none 0 0, 24)⟩) (.n none (.n (some ⟨false, 1, .other, some [.map none], some (.map none, 8)⟩) (.n (some ⟨true, 32, .struct [(0, 18, true), (18, 14, true)] [(0, 18), (18, 14)], some [.int .i64 0, .int .i64 0, .int .i64 0, .int .i64 0, .int .i64 0, .int .i64 0, .int .i64 0, .slice none 0 0, .slice none 0 0, .slice none 0 0, .slice none 0 0, .slice none 0 0, .slice none 0 0, .int .i64 0, .int .i64 0, .int .i64 0, .slice none 0 0, .slice none 0 0, .int .i64 0, .int .i64 0, .int .i64 0, .int .i64 0, .int .i64 0, .int .i64 0, .int .i64 0, .int .i64 0, .string ⟨#[]⟩, .int .i64 0, .int .i64 0, .slice none 0 0, .slice none 0 0, .int .i64 0], some (.agg #[.int .i64 0, .int .i64 0, .int .i64 0, .int .i64 0, .int .i64 0, .int .i64 0, .int .i64 0, .slice none 0 0, .slice none 0 0, .slice none 0 0, .slice none 0 0, .slice none 0 0, .slice none 0 0, .int .i64 0, .int .i64 0, .int .i64 0, .slice none 0 0, .slice none 0 0, .int .i64 0, .int .i64 0, .int .i64 0, .int .i64 0, .int .i64 0, .int .i64 0, .int .i64 0, .int .i64 0, .string ⟨#[]⟩, .int .i64 0, .int .i64 0, .slice none 0 0, .slice none 0 0, .int .i64 0], 424)⟩) .e .e) .e) .e) (.n none (.n (some ⟨true, 32, .struct [(0, 18, true), (18, 14, true)] [(0, 18), (18, 14)], some [.int .i64 0, .int .i64 0, .int .i64 0, .int .i64 0, .int .i64 0, .int .i64 0, .int .i64 0, .slice none 0 0, .slice none 0 0, .slice none 0 0, .slice none 0 0, .slice none 0 0, .slice none 0 0, .int .i64 0, .int .i64 0, .int .i64 0, .slice none 0 0, .slice none 0 0, .int .i64 0, .int .i64 0, .int .i64 0, .int .i64 0, .int .i64 0, .int .i64 0, .int .i64 0, .int .i64 0, .string ⟨#[]⟩, .int .i64 0, .int .i64 0, .slice none 0 0, .slice none 0 0, .int .i64 0], some (.agg #[.int .i64 0, .int .i64 0, .int .i64 0, .int .i64 0, .int .i64 0, .int .i64 0, .int .i64 0, .slice none 0 0, .slice none 0 0, .slice none 0 0, .slice none 0 0, .slice none 0 0, .slice none 0 0, .int .i64 0, .int .i64 0, .int .i64 0, .slice none 0 0, .slice none 0 0, .int .i64 0, .int .i64 0, .int .i64 0, .int .i64 0, .int .i64 0, .int .i64 0, .int .i64 0, .int .i64 0, .string ⟨#[]⟩, .int .i64 0, .int .i64 0, .slice none 0 0, .slice none 0 0, .int .i64 0], 424)⟩) .e .e) .e))) (.n none (.n (some ⟨false, 1, .slice 40 10, some [.slice none 0 0], some (.slice none 0 0, 24)⟩) (.n (some ⟨false, 1, .slice 86 6, some [.slice none 0 0], some (.slice none 0 0, 24)⟩) (.n none (.n none (.n (some ⟨false, 1, .slice 9 1, some [.slice none 0 0], some (.slice none 0 0, 24)⟩) .e .e) .e) .e) .e) (.n none (.n (some ⟨true, 6, .struct [(0, 1, false), (1, 1, false), (2, 1, false), (3, 1, false), (4, 1, false), (5, 1, false)] [(0, 1), (1, 1), (2, 1), (3, 1), (4, 1), (5, 1)], some [.int .i64 0, .int .i64 0, .int .i64 0, .int .i64 0, .int .i64 0, .int .i64 0], some (.agg #[.int .i64 0, .int .i64 0, .int .i64 0, .int .i64 0, .int .i64 0, .int .i64 0], 48)⟩) .e (.n (some ⟨false, 1, .int .u64, some [.int .u64 0], some (.int .u64 0, 8)⟩) .e .e)) (.n none .e (.n (some ⟨true, 2, .struct [(0, 1, false), (1, 1, false)] [(0, 1), (1, 1)], some [.string ⟨#[]⟩, .nilIface], some (.agg #[.string ⟨#[]⟩, .nilIface], 32)⟩) .e .e)))) (.n (some ⟨false, 1, .slice 286 4, some [.slice none 0 0], some (.slice none 0 0, 24)⟩) (.n none .e (.n none .e (.n (some ⟨false, 1, .other, some [.map none], some (.map none, 8)⟩) .e .e))) (.n (some ⟨true, 15, .struct [(0, 1, false), (1, 14, true)] [(0, 1), (1, 14)], some [.int .i64 0, .int .i64 0, .int .i64 0, .int .i64 0, .int .i64 0, .int .i64 0, .int .i64 0, .int .i64 0, .int .i64 0, .string ⟨#[]⟩, .int .i64 0, .int .i64 0, .slice none 0 0, .slice none 0 0, .int .i64 0], some (.agg #[.int .i64 0, .int .i64 0, .int .i64 0, .int .i64 0, .int .i64 0, .int .i64 0, .int .i64 0, .int .i64 0, .int .i64 0, .string ⟨#[]⟩, .int .i64 0, .int .i64 0, .slice none 0 0, .slice none 0 0, .int .i64 0], 160)⟩) (.n none (.n none (.n (some ⟨true, 4, .struct [(0, 1, false), (1, 1, false), (2, 1, false), (3, 1, false)] [(0, 1), (1, 1), (2, 1), (3, 1)], some [.int .i64 0, .int .i64 0, .int .i64 0, .int .i64 0], some (.agg #[.int .i64 0, .int .i64 0, .int .i64 0, .int .i64 0], 32)⟩) .e .e) .e) .e) .e))))))
instance : TabT Tryz.prog tab := ⟨⟨okNone, ⟨okNone, ⟨okSome ti3, ⟨okNone, ⟨okNone, ⟨okSome ti31, ⟨okSome ti63, trivial, trivial⟩, ⟨okNone, ⟨okSome ti159, ⟨okSome ti287, trivial, trivial⟩, trivial⟩, trivial⟩⟩, ⟨okNone, ⟨okSome ti79, trivial, trivial⟩, trivial⟩⟩, ⟨okSome ti23, ⟨okSome ti39, ⟨okSome ti71, trivial, trivial⟩, trivial⟩, ⟨okNone, trivial, ⟨okSome ti119, trivial, ⟨okSome ti247, trivial, trivial⟩⟩⟩⟩⟩, ⟨okNone, ⟨okNone, ⟨okSome ti35, ⟨okNone, trivial, ⟨okSome ti195, trivial, trivial⟩⟩, ⟨okNone, ⟨okSome ti163, trivial, trivial⟩, trivial⟩⟩, trivial⟩, ⟨okSome ti27, ⟨okNone, ⟨okSome ti75, ⟨okNone, ⟨okSome ti267, trivial, trivial⟩, trivial⟩, trivial⟩, trivial⟩, ⟨okNone, trivial, ⟨okSome ti123, trivial, trivial⟩⟩⟩⟩⟩, ⟨okSome ti5, ⟨okSome ti9, ⟨okNone, ⟨okSome ti33, trivial, trivial⟩, ⟨okNone, ⟨okSome ti81, trivial, trivial⟩, ⟨okNone, ⟨okSome ti177, trivial, trivial⟩, trivial⟩⟩⟩, ⟨okSome ti25, ⟨okNone, ⟨okSome ti73, ⟨okSome ti137, trivial, trivial⟩, trivial⟩, ⟨okNone, trivial, ⟨okSome ti233, trivial, trivial⟩⟩⟩, ⟨okNone, ⟨okSome ti89, trivial, trivial⟩, ⟨okSome ti121, trivial, ⟨okSome ti249, trivial, trivial⟩⟩⟩⟩⟩, ⟨okSome ti13, ⟨okSome ti21, ⟨okSome ti37, trivial, trivial⟩, ⟨okNone, ⟨okSome ti85, trivial, trivial⟩, ⟨okNone, trivial, ⟨okSome ti245, trivial, trivial⟩⟩⟩⟩, ⟨okSome ti29, ⟨okSome ti45, trivial, trivial⟩, ⟨okNone, ⟨okNone, ⟨okNone, ⟨okSome ti285, trivial, trivial⟩, trivial⟩, trivial⟩, trivial⟩⟩⟩⟩⟩, ⟨okSome ti2, ⟨okSome ti4, ⟨okNone, ⟨okNone, ⟨okSome ti32, ⟨okNone, ⟨okSome ti128, ⟨okSome ti256, trivial, trivial⟩, trivial⟩, trivial⟩, ⟨okNone, ⟨okSome ti160, ⟨okSome ti288, trivial, trivial⟩, trivial⟩, trivial⟩⟩, ⟨okNone, ⟨okSome ti80, trivial, trivial⟩, trivial⟩⟩, ⟨okSome ti24, ⟨okSome ti40, ⟨okSome ti72, trivial, trivial⟩, trivial⟩, ⟨okSome ti56, ⟨okNone, ⟨okNone, ⟨okSome ti280, trivial, trivial⟩, trivial⟩, trivial⟩, ⟨okSome ti120, ⟨okSome ti184, trivial, trivial⟩, trivial⟩⟩⟩⟩, ⟨okSome ti12, ⟨okSome ti20, ⟨okSome ti36, trivial, trivial⟩, ⟨okSome ti52, ⟨okNone, trivial, ⟨okSome ti212, trivial, trivial⟩⟩, ⟨okNone, trivial, ⟨okSome ti244, trivial, trivial⟩⟩⟩⟩, ⟨okSome ti28, trivial, ⟨okNone, ⟨okNone, ⟨okSome ti156, trivial, trivial⟩, trivial⟩, trivial⟩⟩⟩⟩, ⟨okNone, ⟨okNone, ⟨okNone, ⟨okSome ti34, ⟨okNone, ⟨okNone, ⟨okSome ti258, trivial, trivial⟩, trivial⟩, ⟨okSome ti194, trivial, trivial⟩⟩, ⟨okNone, ⟨okSome ti162, trivial, trivial⟩, trivial⟩⟩, ⟨okNone, trivial, ⟨okNone, ⟨okSome ti178, trivial, trivial⟩, trivial⟩⟩⟩, ⟨okSome ti26, ⟨okNone, ⟨okSome ti74, ⟨okSome ti138, trivial, trivial⟩, trivial⟩, trivial⟩, ⟨okNone, ⟨okSome ti90, trivial, trivial⟩, trivial⟩⟩⟩, ⟨okNone, ⟨okSome ti22, ⟨okSome ti38, ⟨okNone, ⟨okNone, ⟨okSome ti262, trivial, trivial⟩, trivial⟩, trivial⟩, trivial⟩, ⟨okNone, ⟨okSome ti86, trivial, ⟨okSome ti214, trivial, trivial⟩⟩, ⟨okNone, trivial, ⟨okSome ti246, trivial, trivial⟩⟩⟩⟩, ⟨okSome ti30, ⟨okNone, trivial, ⟨okNone, trivial, ⟨okSome ti238, trivial, trivial⟩⟩⟩, ⟨okSome ti62, ⟨okNone, ⟨okNone, ⟨okSome ti286, trivial, trivial⟩, trivial⟩, trivial⟩, trivial⟩⟩⟩⟩⟩⟩, by kernel_rfl⟩
instance : FnT Tryz.prog 6 Tryz.f6 := ⟨Tryz.func6, enters_of Tryz.func6 (by kernel_rfl) (by kernel_rfl)⟩
instance : FnT Tryz.prog 7 Tryz.f7 := ⟨Tryz.func7, enters_of Tryz.func7 (by kernel_rfl) (by kernel_rfl)⟩
instance : FnT Tryz.prog 10 Tryz.f10 := ⟨Tryz.func10, enters_of Tryz.func10 (by kernel_rfl) (by kernel_rfl)⟩
instance : FnT Tryz.prog 11 Tryz.f11 := ⟨Tryz.func11, enters_of Tryz.func11 (by kernel_rfl) (by kernel_rfl)⟩
instance : FnT Tryz.prog 12 Tryz.f12 := ⟨Tryz.func12, enters_of Tryz.func12 (by kernel_rfl) (by kernel_rfl)⟩
instance : FnT Tryz.prog 16 Tryz.f16 := ⟨Tryz.func16, enters_of Tryz.func16 (by kernel_rfl) (by kernel_rfl)⟩
instance : FnT Tryz.prog 17 Tryz.f17 := ⟨Tryz.func17, enters_of Tryz.func17 (by kernel_rfl) (by kernel_rfl)⟩
instance : FnT Tryz.prog 24 Tryz.f24 := ⟨Tryz.func24, enters_of Tryz.func24 (by kernel_rfl) (by kernel_rfl)⟩
instance : FnT Tryz.prog 25 Tryz.f25 := ⟨Tryz.func25, enters_of Tryz.func25 (by kernel_rfl) (by kernel_rfl)⟩
instance : FnT Tryz.prog 26 Tryz.f26 := ⟨Tryz.func26, enters_of Tryz.func26 (by kernel_rfl) (by kernel_rfl)⟩
instance : FnT Tryz.prog 29 Tryz.f29 := ⟨Tryz.func29, enters_of Tryz.func29 (by kernel_rfl) (by kernel_rfl)⟩
instance : FnT Tryz.prog 31 Tryz.f31 := ⟨Tryz.func31, enters_of Tryz.func31 (by kernel_rfl) (by kernel_rfl)⟩
instance : FnT Tryz.prog 32 Tryz.f32 := ⟨Tryz.func32, enters_of Tryz.func32 (by kernel_rfl) (by kernel_rfl)⟩
instance : FnT Tryz.prog 33 Tryz.f33 := ⟨Tryz.func33, enters_of Tryz.func33 (by kernel_rfl) (by kernel_rfl)⟩
instance : FnT Tryz.prog 34 Tryz.f34 := ⟨Tryz.func34, enters_of Tryz.func34 (by kernel_rfl) (by kernel_rfl)⟩
instance : FnT Tryz.prog 35 Tryz.f35 := ⟨Tryz.func35, enters_of Tryz.func35 (by kernel_rfl) (by kernel_rfl)⟩
instance : FnT Tryz.prog 36 Tryz.f36 := ⟨Tryz.func36, enters_of Tryz.func36 (by kernel_rfl) (by kernel_rfl)⟩
instance : FnT Tryz.prog 37 Tryz.f37 := ⟨Tryz.func37, enters_of Tryz.func37 (by kernel_rfl) (by kernel_rfl)⟩
instance : FnT Tryz.prog 38 Tryz.f38 := ⟨Tryz.func38, enters_of Tryz.func38 (by kernel_rfl) (by kernel_rfl)⟩
instance : FnT Tryz.prog 39 Tryz.f39 := ⟨Tryz.func39, enters_of Tryz.func39 (by kernel_rfl) (by kernel_rfl)⟩
instance : FnT Tryz.prog 40 Tryz.f40 := ⟨Tryz.func40, enters_of Tryz.func40 (by kernel_rfl) (by kernel_rfl)⟩
instance : FnT Tryz.prog 41 Tryz.f41 := ⟨Tryz.func41, enters_of Tryz.func41 (by kernel_rfl) (by kernel_rfl)⟩
instance : FnT Tryz.prog 42 Tryz.f42 := ⟨Tryz.func42, enters_of Tryz.func42 (by kernel_rfl) (by kernel_rfl)⟩
instance : FnT Tryz.prog 43 Tryz.f43 := ⟨Tryz.func43, enters_of Tryz.func43 (by kernel_rfl) (by kernel_rfl)⟩
instance : FnT Tryz.prog 44 Tryz.f44 := ⟨Tryz.func44, enters_of Tryz.func44 (by kernel_rfl) (by kernel_rfl)⟩
instance : FnT Tryz.prog 45 Tryz.f45 := ⟨Tryz.func45, enters_of Tryz.func45 (by kernel_rfl) (by kernel_rfl)⟩
instance : FnT Tryz.prog 46 Tryz.f46 := ⟨Tryz.func46, enters_of Tryz.func46 (by kernel_rfl) (by kernel_rfl)⟩
instance : FnT Tryz.prog 48 Tryz.f48 := ⟨Tryz.func48, enters_of Tryz.func48 (by kernel_rfl) (by kernel_rfl)⟩
instance : FnT Tryz.prog 52 Tryz.f52 := ⟨Tryz.func52, enters_of Tryz.func52 (by kernel_rfl) (by kernel_rfl)⟩
instance : FnT Tryz.prog 53 Tryz.f53 := ⟨Tryz.func53, enters_of Tryz.func53 (by kernel_rfl) (by kernel_rfl)⟩
instance : FnT Tryz.prog 54 Tryz.f54 := ⟨Tryz.func54, enters_of Tryz.func54 (by kernel_rfl) (by kernel_rfl)⟩
instance : FnT Tryz.prog 55 Tryz.f55 := ⟨Tryz.func55, enters_of Tryz.func55 (by kernel_rfl) (by kernel_rfl)⟩
instance : FnT Tryz.prog 56 Tryz.f56 := ⟨Tryz.func56, enters_of Tryz.func56 (by kernel_rfl) (by kernel_rfl)⟩
instance : FnT Tryz.prog 57 Tryz.f57 := ⟨Tryz.func57, enters_of Tryz.func57 (by kernel_rfl) (by kernel_rfl)⟩
instance : FnT Tryz.prog 58 Tryz.f58 := ⟨Tryz.func58, enters_of Tryz.func58 (by kernel_rfl) (by kernel_rfl)⟩
instance : FnT Tryz.prog 60 Tryz.f60 := ⟨Tryz.func60, enters_of Tryz.func60 (by kernel_rfl) (by kernel_rfl)⟩
instance : FnT Tryz.prog 61 Tryz.f61 := ⟨Tryz.func61, enters_of Tryz.func61 (by kernel_rfl) (by kernel_rfl)⟩
instance : FnT Tryz.prog 62 Tryz.f62 := ⟨Tryz.func62, enters_of Tryz.func62 (by kernel_rfl) (by kernel_rfl)⟩
instance : FnT Tryz.prog 63 Tryz.f63 := ⟨Tryz.func63, enters_of Tryz.func63 (by kernel_rfl) (by kernel_rfl)⟩
instance : FnT Tryz.prog 64 Tryz.f64 := ⟨Tryz.func64, enters_of Tryz.func64 (by kernel_rfl) (by kernel_rfl)⟩
instance : FnT Tryz.prog 65 Tryz.f65 := ⟨Tryz.func65, enters_of Tryz.func65 (by kernel_rfl) (by kernel_rfl)⟩
instance : FnT Tryz.prog 66 Tryz.f66 := ⟨Tryz.func66, enters_of Tryz.func66 (by kernel_rfl) (by kernel_rfl)⟩
instance : FnT Tryz.prog 67 Tryz.f67 := ⟨Tryz.func67, enters_of Tryz.func67 (by kernel_rfl) (by kernel_rfl)⟩
instance : FnT Tryz.prog 68 Tryz.f68 := ⟨Tryz.func68, enters_of Tryz.func68 (by kernel_rfl) (by kernel_rfl)⟩
instance : FnT Tryz.prog 69 Tryz.f69 := ⟨Tryz.func69, enters_of Tryz.func69 (by kernel_rfl) (by kernel_rfl)⟩
instance : FnT Tryz.prog 70 Tryz.f70 := ⟨Tryz.func70, enters_of Tryz.func70 (by kernel_rfl) (by kernel_rfl)⟩
instance : FnT Tryz.prog 71 Tryz.f71 := ⟨Tryz.func71, enters_of Tryz.func71 (by kernel_rfl) (by kernel_rfl)⟩
instance : FnT Tryz.prog 72 Tryz.f72 := ⟨Tryz.func72, enters_of Tryz.func72 (by kernel_rfl) (by kernel_rfl)⟩
instance : FnT Tryz.prog 75 Tryz.f75 := ⟨Tryz.func75, enters_of Tryz.func75 (by kernel_rfl) (by kernel_rfl)⟩
instance : FnT Tryz.prog 76 Tryz.f76 := ⟨Tryz.func76, enters_of Tryz.func76 (by kernel_rfl) (by kernel_rfl)⟩
instance : FnT Tryz.prog 77 Tryz.f77 := ⟨Tryz.func77, enters_of Tryz.func77 (by kernel_rfl) (by kernel_rfl)⟩
instance : FnT Tryz.prog 78 Tryz.f78 := ⟨Tryz.func78, enters_of Tryz.func78 (by kernel_rfl) (by kernel_rfl)⟩
instance : FnT Tryz.prog 81 Tryz.f81 := ⟨Tryz.func81, enters_of Tryz.func81 (by kernel_rfl) (by kernel_rfl)⟩
instance : FnT Tryz.prog 85 Tryz.f85 := ⟨Tryz.func85, enters_of Tryz.func85 (by kernel_rfl) (by kernel_rfl)⟩
instance : FnT Tryz.prog 86 Tryz.f86 := ⟨Tryz.func86, enters_of Tryz.func86 (by kernel_rfl) (by kernel_rfl)⟩
instance : FnT Tryz.prog 87 Tryz.f87 := ⟨Tryz.func87, enters_of Tryz.func87 (by kernel_rfl) (by kernel_rfl)⟩
instance : FnT Tryz.prog 88 Tryz.f88 := ⟨Tryz.func88, enters_of Tryz.func88 (by kernel_rfl) (by kernel_rfl)⟩
instance : FnT Tryz.prog 89 Tryz.f89 := ⟨Tryz.func89, enters_of Tryz.func89 (by kernel_rfl) (by kernel_rfl)⟩
instance : FnT Tryz.prog 90 Tryz.f90 := ⟨Tryz.func90, enters_of Tryz.func90 (by kernel_rfl) (by kernel_rfl)⟩
instance : FnT Tryz.prog 91 Tryz.f91 := ⟨Tryz.func91, enters_of Tryz.func91 (by kernel_rfl) (by kernel_rfl)⟩
instance : FnT Tryz.prog 92 Tryz.f92 := ⟨Tryz.func92, enters_of Tryz.func92 (by kernel_rfl) (by kernel_rfl)⟩
instance : FnT Tryz.prog 93 Tryz.f93 := ⟨Tryz.func93, enters_of Tryz.func93 (by kernel_rfl) (by kernel_rfl)⟩
instance : FnT Tryz.prog 94 Tryz.f94 := ⟨Tryz.func94, enters_of Tryz.func94 (by kernel_rfl) (by kernel_rfl)⟩
instance : FnT Tryz.prog 95 Tryz.f95 := ⟨Tryz.func95, enters_of Tryz.func95 (by kernel_rfl) (by kernel_rfl)⟩
instance : FnT Tryz.prog 96 Tryz.f96 := ⟨Tryz.func96, enters_of Tryz.func96 (by kernel_rfl) (by kernel_rfl)⟩
instance : FnT Tryz.prog 97 Tryz.f97 := ⟨Tryz.func97, enters_of Tryz.func97 (by kernel_rfl) (by kernel_rfl)⟩
instance : FnT Tryz.prog 98 Tryz.f98 := ⟨Tryz.func98, enters_of Tryz.func98 (by kernel_rfl) (by kernel_rfl)⟩
instance : FnT Tryz.prog 99 Tryz.f99 := ⟨Tryz.func99, enters_of Tryz.func99 (by kernel_rfl) (by kernel_rfl)⟩
instance : FnT Tryz.prog 100 Tryz.f100 := ⟨Tryz.func100, enters_of Tryz.func100 (by kernel_rfl) (by kernel_rfl)⟩
instance : FnT Tryz.prog 101 Tryz.f101 := ⟨Tryz.func101, enters_of Tryz.func101 (by kernel_rfl) (by kernel_rfl)⟩
instance : FnT Tryz.prog 102 Tryz.f102 := ⟨Tryz.func102, enters_of Tryz.func102 (by kernel_rfl) (by kernel_rfl)⟩
instance : FnT Tryz.prog 103 Tryz.f103 := ⟨Tryz.func103, enters_of Tryz.func103 (by kernel_rfl) (by kernel_rfl)⟩
instance : FnT Tryz.prog 104 Tryz.f104 := ⟨Tryz.func104, enters_of Tryz.func104 (by kernel_rfl) (by kernel_rfl)⟩
instance : FnT Tryz.prog 105 Tryz.f105 := ⟨Tryz.func105, enters_of Tryz.func105 (by kernel_rfl) (by kernel_rfl)⟩
instance : FnT Tryz.prog 106 Tryz.f106 := ⟨Tryz.func106, enters_of Tryz.func106 (by kernel_rfl) (by kernel_rfl)⟩
instance : FnT Tryz.prog 107 Tryz.f107 := ⟨Tryz.func107, enters_of Tryz.func107 (by kernel_rfl) (by kernel_rfl)⟩
instance : FnT Tryz.prog 108 Tryz.f108 := ⟨Tryz.func108, enters_of Tryz.func108 (by kernel_rfl) (by kernel_rfl)⟩
instance : FnT Tryz.prog 109 Tryz.f109 := ⟨Tryz.func109, enters_of Tryz.func109 (by kernel_rfl) (by kernel_rfl)⟩
instance : FnT Tryz.prog 110 Tryz.f110 := ⟨Tryz.func110, enters_of Tryz.func110 (by kernel_rfl) (by kernel_rfl)⟩
instance : FnT Tryz.prog 111 Tryz.f111 := ⟨Tryz.func111, enters_of Tryz.func111 (by kernel_rfl) (by kernel_rfl)⟩
instance : FnT Tryz.prog 112 Tryz.f112 := ⟨Tryz.func112, enters_of Tryz.func112 (by kernel_rfl) (by kernel_rfl)⟩
instance : FnT Tryz.prog 113 Tryz.f113 := ⟨Tryz.func113, enters_of Tryz.func113 (by kernel_rfl) (by kernel_rfl)⟩
instance : FnT Tryz.prog 114 Tryz.f114 := ⟨Tryz.func114, enters_of Tryz.func114 (by kernel_rfl) (by kernel_rfl)⟩
instance : FnT Tryz.prog 115 Tryz.f115 := ⟨Tryz.func115, enters_of Tryz.func115 (by kernel_rfl) (by kernel_rfl)⟩
instance : FnT Tryz.prog 116 Tryz.f116 := ⟨Tryz.func116, enters_of Tryz.func116 (by kernel_rfl) (by kernel_rfl)⟩
instance : FnT Tryz.prog 117 Tryz.f117 := ⟨Tryz.func117, enters_of Tryz.func117 (by kernel_rfl) (by kernel_rfl)⟩
instance : FnT Tryz.prog 118 Tryz.f118 := ⟨Tryz.func118, enters_of Tryz.func118 (by kernel_rfl) (by kernel_rfl)⟩
instance : FnT Tryz.prog 119 Tryz.f119 := ⟨Tryz.func119, enters_of Tryz.func119 (by kernel_rfl) (by kernel_rfl)⟩
instance : FnT Tryz.prog 120 Tryz.f120 := ⟨Tryz.func120, enters_of Tryz.func120 (by kernel_rfl) (by kernel_rfl)⟩
instance : FnT Tryz.prog 121 Tryz.f121 := ⟨Tryz.func121, enters_of Tryz.func121 (by kernel_rfl) (by kernel_rfl)⟩
instance : FnT Tryz.prog 122 Tryz.f122 := ⟨Tryz.func122, enters_of Tryz.func122 (by kernel_rfl) (by kernel_rfl)⟩
instance : FnT Tryz.prog 124 Tryz.f124 := ⟨Tryz.func124, enters_of Tryz.func124 (by kernel_rfl) (by kernel_rfl)⟩
instance : FnT Tryz.prog 125 Tryz.f125 := ⟨Tryz.func125, enters_of Tryz.func125 (by kernel_rfl) (by kernel_rfl)⟩
instance : FnT Tryz.prog 126 Tryz.f126 := ⟨Tryz.func126, enters_of Tryz.func126 (by kernel_rfl) (by kernel_rfl)⟩
instance : FnT Tryz.prog 127 Tryz.f127 := ⟨Tryz.func127, enters_of Tryz.func127 (by kernel_rfl) (by kernel_rfl)⟩
instance : FnT Tryz.prog 128 Tryz.f128 := ⟨Tryz.func128, enters_of Tryz.func128 (by kernel_rfl) (by kernel_rfl)⟩
instance : FnT Tryz.prog 129 Tryz.f129 := ⟨Tryz.func129, enters_of Tryz.func129 (by kernel_rfl) (by kernel_rfl)⟩
instance : FnT Tryz.prog 130 Tryz.f130 := ⟨Tryz.func130, enters_of Tryz.func130 (by kernel_rfl) (by kernel_rfl)⟩
instance : FnT Tryz.prog 131 Tryz.f131 := ⟨Tryz.func131, enters_of Tryz.func131 (by kernel_rfl) (by kernel_rfl)⟩
instance : FnT Tryz.prog 132 Tryz.f132 := ⟨Tryz.func132, enters_of Tryz.func132 (by kernel_rfl) (by kernel_rfl)⟩
instance : FnT Tryz.prog 133 Tryz.f133 := ⟨Tryz.func133, enters_of Tryz.func133 (by kernel_rfl) (by kernel_rfl)⟩
instance : FnT Tryz.prog 134 Tryz.f134 := ⟨Tryz.func134, enters_of Tryz.func134 (by kernel_rfl) (by kernel_rfl)⟩
instance : FnT Tryz.prog 135 Tryz.f135 := ⟨Tryz.func135, enters_of Tryz.func135 (by kernel_rfl) (by kernel_rfl)⟩
instance : FnT Tryz.prog 136 Tryz.f136 := ⟨Tryz.func136, enters_of Tryz.func136 (by kernel_rfl) (by kernel_rfl)⟩
instance : FnT Tryz.prog 137 Tryz.f137 := ⟨Tryz.func137, enters_of Tryz.func137 (by kernel_rfl) (by kernel_rfl)⟩
instance : FnT Tryz.prog 138 Tryz.f138 := ⟨Tryz.func138, enters_of Tryz.func138 (by kernel_rfl) (by kernel_rfl)⟩
instance : FnT Tryz.prog 139 Tryz.f139 := ⟨Tryz.func139, enters_of Tryz.func139 (by kernel_rfl) (by kernel_rfl)⟩
instance : FnT Tryz.prog 140 Tryz.f140 := ⟨Tryz.func140, enters_of Tryz.func140 (by kernel_rfl) (by kernel_rfl)⟩
instance : FnT Tryz.prog 141 Tryz.f141 := ⟨Tryz.func141, enters_of Tryz.func141 (by kernel_rfl) (by kernel_rfl)⟩
instance : FnT Tryz.prog 142 Tryz.f142 := ⟨Tryz.func142, enters_of Tryz.func142 (by kernel_rfl) (by kernel_rfl)⟩
instance : FnT Tryz.prog 143 Tryz.f143 := ⟨Tryz.func143, enters_of Tryz.func143 (by kernel_rfl) (by kernel_rfl)⟩
instance : FnT Tryz.prog 144 Tryz.f144 := ⟨Tryz.func144, enters_of Tryz.func144 (by kernel_rfl) (by kernel_rfl)⟩
instance : FnT Tryz.prog 145 Tryz.f145 := ⟨Tryz.func145, enters_of Tryz.func145 (by kernel_rfl) (by kernel_rfl)⟩
instance : FnT Tryz.prog 146 Tryz.f146 := ⟨Tryz.func146, enters_of Tryz.func146 (by kernel_rfl) (by kernel_rfl)⟩
instance : FnT Tryz.prog 147 Tryz.f147 := ⟨Tryz.func147, enters_of Tryz.func147 (by kernel_rfl) (by kernel_rfl)⟩
instance : FnT Tryz.prog 148 Tryz.f148 := ⟨Tryz.func148, enters_of Tryz.func148 (by kernel_rfl) (by kernel_rfl)⟩
instance : FnT Tryz.prog 150 Tryz.f150 := ⟨Tryz.func150, enters_of Tryz.func150 (by kernel_rfl) (by kernel_rfl)⟩
instance : FnT Tryz.prog 151 Tryz.f151 := ⟨Tryz.func151, enters_of Tryz.func151 (by kernel_rfl) (by kernel_rfl)⟩
instance : FnT Tryz.prog 152 Tryz.f152 := ⟨Tryz.func152, enters_of Tryz.func152 (by kernel_rfl) (by kernel_rfl)⟩
instance : FnT Tryz.prog 153 Tryz.f153 := ⟨Tryz.func153, enters_of Tryz.func153 (by kernel_rfl) (by kernel_rfl)⟩
instance : FnT Tryz.prog 154 Tryz.f154 := ⟨Tryz.func154, enters_of Tryz.func154 (by kernel_rfl) (by kernel_rfl)⟩
instance : FnT Tryz.prog 157 Tryz.f157 := ⟨Tryz.func157, enters_of Tryz.func157 (by kernel_rfl) (by kernel_rfl)⟩
instance : FnT Tryz.prog 158 Tryz.f158 := ⟨Tryz.func158, enters_of Tryz.func158 (by kernel_rfl) (by kernel_rfl)⟩
instance : FnT Tryz.prog 159 Tryz.f159 := ⟨Tryz.func159, enters_of Tryz.func159 (by kernel_rfl) (by kernel_rfl)⟩
instance : FnT Tryz.prog 160 Tryz.f160 := ⟨Tryz.func160, enters_of Tryz.func160 (by kernel_rfl) (by kernel_rfl)⟩
instance : FnT Tryz.prog 161 Tryz.f161 := ⟨Tryz.func161, enters_of Tryz.func161 (by kernel_rfl) (by kernel_rfl)⟩
instance : FnT Tryz.prog 162 Tryz.f162 := ⟨Tryz.func162, enters_of Tryz.func162 (by kernel_rfl) (by kernel_rfl)⟩
instance : FnT Tryz.prog 163 Tryz.f163 := ⟨Tryz.func163, enters_of Tryz.func163 (by kernel_rfl) (by kernel_rfl)⟩
instance : FnT Tryz.prog 164 Tryz.f164 := ⟨Tryz.func164, enters_of Tryz.func164 (by kernel_rfl) (by kernel_rfl)⟩
instance : FnT Tryz.prog 165 Tryz.f165 := ⟨Tryz.func165, enters_of Tryz.func165 (by kernel_rfl) (by kernel_rfl)⟩
instance : FnT Tryz.prog 166 Tryz.f166 := ⟨Tryz.func166, enters_of Tryz.func166 (by kernel_rfl) (by kernel_rfl)⟩
instance : FnT Tryz.prog 167 Tryz.f167 := ⟨Tryz.func167, enters_of Tryz.func167 (by kernel_rfl) (by kernel_rfl)⟩
instance : FnT Tryz.prog 168 Tryz.f168 := ⟨Tryz.func168, enters_of Tryz.func168 (by kernel_rfl) (by kernel_rfl)⟩
instance : FnT Tryz.prog 169 Tryz.f169 := ⟨Tryz.func169, enters_of Tryz.func169 (by kernel_rfl) (by kernel_rfl)⟩
instance : FnT Tryz.prog 170 Tryz.f170 := ⟨Tryz.func170, enters_of Tryz.func170 (by kernel_rfl) (by kernel_rfl)⟩
instance : FnT Tryz.prog 171 Tryz.f171 := ⟨Tryz.func171, enters_of Tryz.func171 (by kernel_rfl) (by kernel_rfl)⟩
instance : FnT Tryz.prog 172 Tryz.f172 := ⟨Tryz.func172, enters_of Tryz.func172 (by kernel_rfl) (by kernel_rfl)⟩
instance : FnT Tryz.prog 173 Tryz.f173 := ⟨Tryz.func173, enters_of Tryz.func173 (by kernel_rfl) (by kernel_rfl)⟩
instance : FnT Tryz.prog 174 Tryz.f174 := ⟨Tryz.func174, enters_of Tryz.func174 (by kernel_rfl) (by kernel_rfl)⟩
instance : FnT Tryz.prog 175 Tryz.f175 := ⟨Tryz.func175, enters_of Tryz.func175 (by kernel_rfl) (by kernel_rfl)⟩
instance : FnT Tryz.prog 176 Tryz.f176 := ⟨Tryz.func176, enters_of Tryz.func176 (by kernel_rfl) (by kernel_rfl)⟩
instance : FnT Tryz.prog 177 Tryz.f177 := ⟨Tryz.func177, enters_of Tryz.func177 (by kernel_rfl) (by kernel_rfl)⟩
instance : FnT Tryz.prog 178 Tryz.f178 := ⟨Tryz.func178, enters_of Tryz.func178 (by kernel_rfl) (by kernel_rfl)⟩
instance : FnT Tryz.prog 179 Tryz.f179 := ⟨Tryz.func179, enters_of Tryz.func179 (by kernel_rfl) (by kernel_rfl)⟩
instance : FnT Tryz.prog 180 Tryz.f180 := ⟨Tryz.func180, enters_of Tryz.func180 (by kernel_rfl) (by kernel_rfl)⟩
instance : FnT Tryz.prog 181 Tryz.f181 := ⟨Tryz.func181, enters_of Tryz.func181 (by kernel_rfl) (by kernel_rfl)⟩
instance : FnT Tryz.prog 182 Tryz.f182 := ⟨Tryz.func182, enters_of Tryz.func182 (by kernel_rfl) (by kernel_rfl)⟩
instance : FnT Tryz.prog 183 Tryz.f183 := ⟨Tryz.func183, enters_of Tryz.func183 (by kernel_rfl) (by kernel_rfl)⟩
instance : FnT Tryz.prog 185 Tryz.f185 := ⟨Tryz.func185, enters_of Tryz.func185 (by kernel_rfl) (by kernel_rfl)⟩
instance : FnT Tryz.prog 186 Tryz.f186 := ⟨Tryz.func186, enters_of Tryz.func186 (by kernel_rfl) (by kernel_rfl)⟩
instance : FnT Tryz.prog 187 Tryz.f187 := ⟨Tryz.func187, enters_of Tryz.func187 (by kernel_rfl) (by kernel_rfl)⟩
instance : FnT Tryz.prog 188 Tryz.f188 := ⟨Tryz.func188, enters_of Tryz.func188 (by kernel_rfl) (by kernel_rfl)⟩
instance : FnT Tryz.prog 189 Tryz.f189 := ⟨Tryz.func189, enters_of Tryz.func189 (by kernel_rfl) (by kernel_rfl)⟩
instance : FnT Tryz.prog 190 Tryz.f190 := ⟨Tryz.func190, enters_of Tryz.func190 (by kernel_rfl) (by kernel_rfl)⟩
instance : FnT Tryz.prog 191 Tryz.f191 := ⟨Tryz.func191, enters_of Tryz.func191 (by kernel_rfl) (by kernel_rfl)⟩
instance : FnT Tryz.prog 192 Tryz.f192 := ⟨Tryz.func192, enters_of Tryz.func192 (by kernel_rfl) (by kernel_rfl)⟩
instance : FnT Tryz.prog 193 Tryz.f193 := ⟨Tryz.func193, enters_of Tryz.func193 (by kernel_rfl) (by kernel_rfl)⟩
instance : FnT Tryz.prog 194 Tryz.f194 := ⟨Tryz.func194, enters_of Tryz.func194 (by kernel_rfl) (by kernel_rfl)⟩
instance : FnT Tryz.prog 195 Tryz.f195 := ⟨Tryz.func195, enters_of Tryz.func195 (by kernel_rfl) (by kernel_rfl)⟩
instance : FnT Tryz.prog 196 Tryz.f196 := ⟨Tryz.func196, enters_of Tryz.func196 (by kernel_rfl) (by kernel_rfl)⟩
instance : FnT Tryz.prog 197 Tryz.f197 := ⟨Tryz.func197, enters_of Tryz.func197 (by kernel_rfl) (by kernel_rfl)⟩
instance : FnT Tryz.prog 198 Tryz.f198 := ⟨Tryz.func198, enters_of Tryz.func198 (by kernel_rfl) (by kernel_rfl)⟩
instance : FnT Tryz.prog 199 Tryz.f199 := ⟨Tryz.func199, enters_of Tryz.func199 (by kernel_rfl) (by kernel_rfl)⟩
instance : FnT Tryz.prog 200 Tryz.f200 := ⟨Tryz.func200, enters_of Tryz.func200 (by kernel_rfl) (by kernel_rfl)⟩
instance : FnT Tryz.prog 201 Tryz.f201 := ⟨Tryz.func201, enters_of Tryz.func201 (by kernel_rfl) (by kernel_rfl)⟩
instance : FnT Tryz.prog 202 Tryz.f202 := ⟨Tryz.func202, enters_of Tryz.func202 (by kernel_rfl) (by kernel_rfl)⟩
instance : FnT Tryz.prog 203 Tryz.f203 := ⟨Tryz.func203, enters_of Tryz.func203 (by kernel_rfl) (by kernel_rfl)⟩
instance : FnT Tryz.prog 204 Tryz.f204 := ⟨Tryz.func204, enters_of Tryz.func204 (by kernel_rfl) (by kernel_rfl)⟩
instance : FnT Tryz.prog 205 Tryz.f205 := ⟨Tryz.func205, enters_of Tryz.func205 (by kernel_rfl) (by kernel_rfl)⟩
instance : FnT Tryz.prog 206 Tryz.f206 := ⟨Tryz.func206, enters_of Tryz.func206 (by kernel_rfl) (by kernel_rfl)⟩
instance : FnT Tryz.prog 207 Tryz.f207 := ⟨Tryz.func207, enters_of Tryz.func207 (by kernel_rfl) (by kernel_rfl)⟩
instance : FnT Tryz.prog 208 Tryz.f208 := ⟨Tryz.func208, enters_of Tryz.func208 (by kernel_rfl) (by kernel_rfl)⟩
instance : FnT Tryz.prog 209 Tryz.f209 := ⟨Tryz.func209, enters_of Tryz.func209 (by kernel_rfl) (by kernel_rfl)⟩
instance : FnT Tryz.prog 210 Tryz.f210 := ⟨Tryz.func210, enters_of Tryz.func210 (by kernel_rfl) (by kernel_rfl)⟩
instance : FnT Tryz.prog 211 Tryz.f211 := ⟨Tryz.func211, enters_of Tryz.func211 (by kernel_rfl) (by kernel_rfl)⟩
instance : FnT Tryz.prog 212 Tryz.f212 := ⟨Tryz.func212, enters_of Tryz.func212 (by kernel_rfl) (by kernel_rfl)⟩
instance : FnT Tryz.prog 213 Tryz.f213 := ⟨Tryz.func213, enters_of Tryz.func213 (by kernel_rfl) (by kernel_rfl)⟩
instance : FnT Tryz.prog 214 Tryz.f214 := ⟨Tryz.func214, enters_of Tryz.func214 (by kernel_rfl) (by kernel_rfl)⟩
instance : FnT Tryz.prog 215 Tryz.f215 := ⟨Tryz.func215, enters_of Tryz.func215 (by kernel_rfl) (by kernel_rfl)⟩
instance : FnT Tryz.prog 216 Tryz.f216 := ⟨Tryz.func216, enters_of Tryz.func216 (by kernel_rfl) (by kernel_rfl)⟩
instance : FnT Tryz.prog 217 Tryz.f217 := ⟨Tryz.func217, enters_of Tryz.func217 (by kernel_rfl) (by kernel_rfl)⟩
instance : FnT Tryz.prog 218 Tryz.f218 := ⟨Tryz.func218, enters_of Tryz.func218 (by kernel_rfl) (by kernel_rfl)⟩
instance : FnT Tryz.prog 220 Tryz.f220 := ⟨Tryz.func220, enters_of Tryz.func220 (by kernel_rfl) (by kernel_rfl)⟩
instance : FnT Tryz.prog 221 Tryz.f221 := ⟨Tryz.func221, enters_of Tryz.func221 (by kernel_rfl) (by kernel_rfl)⟩
instance : FnT Tryz.prog 222 Tryz.f222 := ⟨Tryz.func222, enters_of Tryz.func222 (by kernel_rfl) (by kernel_rfl)⟩
instance : FnT Tryz.prog 223 Tryz.f223 := ⟨Tryz.func223, enters_of Tryz.func223 (by kernel_rfl) (by kernel_rfl)⟩
instance : FnT Tryz.prog 224 Tryz.f224 := ⟨Tryz.func224, enters_of Tryz.func224 (by kernel_rfl) (by kernel_rfl)⟩
instance : FnT Tryz.prog 225 Tryz.f225 := ⟨Tryz.func225, enters_of Tryz.func225 (by kernel_rfl) (by kernel_rfl)⟩
instance : FnT Tryz.prog 226 Tryz.f226 := ⟨Tryz.func226, enters_of Tryz.func226 (by kernel_rfl) (by kernel_rfl)⟩
instance : FnT Tryz.prog 227 Tryz.f227 := ⟨Tryz.func227, enters_of Tryz.func227 (by kernel_rfl) (by kernel_rfl)⟩
instance : FnT Tryz.prog 228 Tryz.f228 := ⟨Tryz.func228, enters_of Tryz.func228 (by kernel_rfl) (by kernel_rfl)⟩
instance : FnT Tryz.prog 229 Tryz.f229 := ⟨Tryz.func229, enters_of Tryz.func229 (by kernel_rfl) (by kernel_rfl)⟩
instance : FnT Tryz.prog 230 Tryz.f230 := ⟨Tryz.func230, enters_of Tryz.func230 (by kernel_rfl) (by kernel_rfl)⟩
instance : FnT Tryz.prog 231 Tryz.f231 := ⟨Tryz.func231, enters_of Tryz.func231 (by kernel_rfl) (by kernel_rfl)⟩
instance : FnT Tryz.prog 232 Tryz.f232 := ⟨Tryz.func232, enters_of Tryz.func232 (by kernel_rfl) (by kernel_rfl)⟩
instance : FnT Tryz.prog 233 Tryz.f233 := ⟨Tryz.func233, enters_of Tryz.func233 (by kernel_rfl) (by kernel_rfl)⟩
instance : FnT Tryz.prog 234 Tryz.f234 := ⟨Tryz.func234, enters_of Tryz.func234 (by kernel_rfl) (by kernel_rfl)⟩
instance : FnT Tryz.prog 235 Tryz.f235 := ⟨Tryz.func235, enters_of Tryz.func235 (by kernel_rfl) (by kernel_rfl)⟩
instance : FnT Tryz.prog 236 Tryz.f236 := ⟨Tryz.func236, enters_of Tryz.func236 (by kernel_rfl) (by kernel_rfl)⟩
instance : FnT Tryz.prog 237 Tryz.f237 := ⟨Tryz.func237, enters_of Tryz.func237 (by kernel_rfl) (by kernel_rfl)⟩
instance : FnT Tryz.prog 238 Tryz.f238 := ⟨Tryz.func238, enters_of Tryz.func238 (by kernel_rfl) (by kernel_rfl)⟩
instance : FnT Tryz.prog 239 Tryz.f239 := ⟨Tryz.func239, enters_of Tryz.func239 (by kernel_rfl) (by kernel_rfl)⟩
instance : FnT Tryz.prog 240 Tryz.f240 := ⟨Tryz.func240, enters_of Tryz.func240 (by kernel_rfl) (by kernel_rfl)⟩
instance : FnT Tryz.prog 241 Tryz.f241 := ⟨Tryz.func241, enters_of Tryz.func241 (by kernel_rfl) (by kernel_rfl)⟩
instance : FnT Tryz.prog 242 Tryz.f242 := ⟨Tryz.func242, enters_of Tryz.func242 (by kernel_rfl) (by kernel_rfl)⟩
instance : FnT Tryz.prog 243 Tryz.f243 := ⟨Tryz.func243, enters_of Tryz.func243 (by kernel_rfl) (by kernel_rfl)⟩
instance : FnT Tryz.prog 244 Tryz.f244 := ⟨Tryz.func244, enters_of Tryz.func244 (by kernel_rfl) (by kernel_rfl)⟩
instance : FnT Tryz.prog 245 Tryz.f245 := ⟨Tryz.func245, enters_of Tryz.func245 (by kernel_rfl) (by kernel_rfl)⟩
instance : FnT Tryz.prog 246 Tryz.f246 := ⟨Tryz.func246, enters_of Tryz.func246 (by kernel_rfl) (by kernel_rfl)⟩
instance : FnT Tryz.prog 247 Tryz.f247 := ⟨Tryz.func247, enters_of Tryz.func247 (by kernel_rfl) (by kernel_rfl)⟩
instance : FnT Tryz.prog 248 Tryz.f248 := ⟨Tryz.func248, enters_of Tryz.func248 (by kernel_rfl) (by kernel_rfl)⟩
instance : FnT Tryz.prog 249 Tryz.f249 := ⟨Tryz.func249, enters_of Tryz.func249 (by kernel_rfl) (by kernel_rfl)⟩
instance : FnT Tryz.prog 250 Tryz.f250 := ⟨Tryz.func250, enters_of Tryz.func250 (by kernel_rfl) (by kernel_rfl)⟩
instance : FnT Tryz.prog 251 Tryz.f251 := ⟨Tryz.func251, enters_of Tryz.func251 (by kernel_rfl) (by kernel_rfl)⟩
instance : FnT Tryz.prog 252 Tryz.f252 := ⟨Tryz.func252, enters_of Tryz.func252 (by kernel_rfl) (by kernel_rfl)⟩
instance : FnT Tryz.prog 253 Tryz.f253 := ⟨Tryz.func253, enters_of Tryz.func253 (by kernel_rfl) (by kernel_rfl)⟩
instance : FnT Tryz.prog 254 Tryz.f254 := ⟨Tryz.func254, enters_of Tryz.func254 (by kernel_rfl) (by kernel_rfl)⟩
instance : FnT Tryz.prog 255 Tryz.f255 := ⟨Tryz.func255, enters_of Tryz.func255 (by kernel_rfl) (by kernel_rfl)⟩
instance : FnT Tryz.prog 258 Tryz.f258 := ⟨Tryz.func258, enters_of Tryz.func258 (by kernel_rfl) (by kernel_rfl)⟩
instance : FnT Tryz.prog 259 Tryz.f259 := ⟨Tryz.func259, enters_of Tryz.func259 (by kernel_rfl) (by kernel_rfl)⟩
instance : FnT Tryz.prog 260 Tryz.f260 := ⟨Tryz.func260, enters_of Tryz.func260 (by kernel_rfl) (by kernel_rfl)⟩
instance : FnT Tryz.prog 261 Tryz.f261 := ⟨Tryz.func261, enters_of Tryz.func261 (by kernel_rfl) (by kernel_rfl)⟩
instance : FnT Tryz.prog 262 Tryz.f262 := ⟨Tryz.func262, enters_of Tryz.func262 (by kernel_rfl) (by kernel_rfl)⟩
instance : FnT Tryz.prog 263 Tryz.f263 := ⟨Tryz.func263, enters_of Tryz.func263 (by kernel_rfl) (by kernel_rfl)⟩
instance : FnT Tryz.prog 264 Tryz.f264 := ⟨Tryz.func264, enters_of Tryz.func264 (by kernel_rfl) (by kernel_rfl)⟩
instance : FnT Tryz.prog 265 Tryz.f265 := ⟨Tryz.func265, enters_of Tryz.func265 (by kernel_rfl) (by kernel_rfl)⟩
instance : FnT Tryz.prog 266 Tryz.f266 := ⟨Tryz.func266, enters_of Tryz.func266 (by kernel_rfl) (by kernel_rfl)⟩
instance : FnT Tryz.prog 267 Tryz.f267 := ⟨Tryz.func267, enters_of Tryz.func267 (by kernel_rfl) (by kernel_rfl)⟩
instance : FnT Tryz.prog 268 Tryz.f268 := ⟨Tryz.func268, enters_of Tryz.func268 (by kernel_rfl) (by kernel_rfl)⟩
instance : FnT Tryz.prog 270 Tryz.f270 := ⟨Tryz.func270, enters_of Tryz.func270 (by kernel_rfl) (by kernel_rfl)⟩
end Go.Proofs.YtbjepdfnmbdplaaGreat
end
section
namespace Go.Proofs.YtbjepdfnmbdplaaGreat
set_option linter.unusedSimpArgs false
set_option linter.unusedVariables false
set_option linter.unusedSectionVars false
open Go.RowKit
section
variable {P : Program} {X : XF} {w0 : World} {T : TT} {K : Exit → St → Prop} [tb : TabT P T]
theorem Stk.yes {r1 r2 : StepR} (h : GoR P X w0 T r1 K) : Stk P X w0 T (.br true r1 r2) K := ⟨⟨fun _ => h.sem tb.ok tb.mixed, (fun e => by cases e)⟩⟩
theorem Stk.no {r1 r2 : StepR} (h : GoR P X w0 T r2 K) : Stk P X w0 T (.br false r1 r2) K := ⟨⟨(fun e => by cases e), fun _ => h.sem tb.ok tb.mixed⟩⟩
theorem Stk.both {b : Bool} {r1 r2 : StepR} (t : b = true → GoR P X w0 T r1 K) (f : b = false → GoR P X w0 T r2 K) : Stk P X w0 T (.br b r1 r2) K := ⟨⟨fun e => (t e).sem tb.ok tb.mixed, fun e => (f e).sem tb.ok tb.mixed⟩⟩
theorem Stk.is {b : Bool} {r1 r2 : StepR} (e : b = true) (h : GoR P X w0 T r1 K) : Stk P X w0 T (.br b r1 r2) K := by subst e; exact Stk.yes h
theorem Stk.isnt {b : Bool} {r1 r2 : StepR} (e : b = false) (h : GoR P X w0 T r2 K) : Stk P X w0 T (.br b r1 r2) K := by subst e; exact Stk.no h
theorem Stk.need {q : Prop} {r : StepR} (hq : q) (h : GoR P X w0 T r K) : Stk P X w0 T (.need q r) K := ⟨⟨hq, h.sem tb.ok tb.mixed⟩⟩
theorem Stk.wrap {z : Int} {C : Int → StepR} (h1 : -9223372036854775808 ≤ z) (h2 : z ≤ 9223372036854775807) (h : GoR P X w0 T (C z) K) : Stk P X w0 T (.wrap .i64 z C) K := ⟨by
  show SemR P X w0 K (C (IntKind.i64.wrap z))
  rw [i64_wrap h1 h2]
  exact h.sem tb.ok tb.mixed⟩
theorem Stk.wrapA {k : IntKind} {z : Int} {C : Int → StepR} (h : GoR P X w0 T (C (k.wrap z)) K) : Stk P X w0 T (.wrap k z C) K := ⟨h.sem tb.ok tb.mixed⟩
theorem u64_wrap {a : Int} (h1 : 0 ≤ a) (h2 : a ≤ 18446744073709551615) : IntKind.u64.wrap a = a := by
  show a.emod 18446744073709551616 = a
  exact Int.emod_eq_of_lt h1 (by omega)
theorem Stk.wrapU {z : Int} {C : Int → StepR} (h1 : 0 ≤ z) (h2 : z ≤ 18446744073709551615) (h : GoR P X w0 T (C z) K) : Stk P X w0 T (.wrap .u64 z C) K := ⟨by
  show SemR P X w0 K (C (IntKind.u64.wrap z))
  rw [u64_wrap h1 h2]
  exact h.sem tb.ok tb.mixed⟩
theorem Stk.quo {a b : Int} {C : Int → StepR} (h0 : 0 ≤ a) (hb : 0 < b) (h2 : a ≤ 9223372036854775807) (h : GoR P X w0 T (C (a / b)) K) : Stk P X w0 T (.div false .i64 a b C) K := ⟨⟨by omega, by
  have h3 : a / b ≤ a := Int.ediv_le_self _ h0
  have h4 : 0 ≤ a / b := Int.ediv_nonneg h0 (by omega)
  rw [cond_false, Int.tdiv_eq_ediv_of_nonneg h0, i64_wrap (by omega) (by omega)]
  exact h.sem tb.ok tb.mixed⟩⟩
theorem Stk.rem {k : IntKind} {a b : Int} {C : Int → StepR} (h0 : 0 ≤ a) (hb : 0 < b) (h : GoR P X w0 T (C (a % b)) K) : Stk P X w0 T (.div true k a b C) K := ⟨⟨by omega, by
  rw [cond_true, Int.tmod_eq_emod_of_nonneg h0]
  exact h.sem tb.ok tb.mixed⟩⟩
theorem Stk.divA {r : Bool} {k : IntKind} {a b : Int} {C : Int → StepR} (hb : b ≠ 0) (h : GoR P X w0 T (C (bif r then a.tmod b else k.wrap (a.tdiv b))) K) : Stk P X w0 T (.div r k a b C) K := ⟨⟨hb, h.sem tb.ok tb.mixed⟩⟩
theorem Stk.len {α : Type} {f : α → List PV} {l : List α} {C : Int → StepR} (h : GoR P X w0 T (C (l.length : Int)) K) : Stk P X w0 T (.len (l.map f) C) K := ⟨by
  show SemR P X w0 K (C ((l.map f).length : Int))
  rw [List.length_map]
  exact h.sem tb.ok tb.mixed⟩
theorem Stk.lenA {xs : List (List PV)} {C : Int → StepR} (h : GoR P X w0 T (C (xs.length : Int)) K) : Stk P X w0 T (.len xs C) K := ⟨h.sem tb.ok tb.mixed⟩
theorem Stk.ixN {α : Type} {f : α → List PV} {l : List α} {n : Nat} {C : List PV → StepR} (hn : n < l.length) (h : GoR P X w0 T (C (f (l[n]'hn))) K) : Stk P X w0 T (.ix (l.map f) (n : Int) C) K := ⟨⟨_, Int.natCast_nonneg _, by simp [hn], h.sem tb.ok tb.mixed⟩⟩
theorem Stk.ixI {α : Type} {f : α → List PV} {l : List α} {i : Int} {C : List PV → StepR} (h0 : 0 ≤ i) (hn : i.toNat < l.length) (h : GoR P X w0 T (C (f (l[i.toNat]'hn))) K) : Stk P X w0 T (.ix (l.map f) i C) K := ⟨⟨_, h0, by simp [hn], h.sem tb.ok tb.mixed⟩⟩
theorem Stk.ix {xs : List (List PV)} {i : Int} {C : List PV → StepR} (c : List PV) (h0 : 0 ≤ i) (hc : xs[i.toNat]? = some c) (h : GoR P X w0 T (C c) K) : Stk P X w0 T (.ix xs i C) K := ⟨⟨c, h0, hc, h.sem tb.ok tb.mixed⟩⟩
theorem Stk.ld {cs : List PV} {k : Nat} {p : PV} {C : PV → StepR} (hp : cs[k]? = some p) (h : GoR P X w0 T (C p) K) : Stk P X w0 T (.ld cs k C) K := ⟨⟨p, hp, h.sem tb.ok tb.mixed⟩⟩
theorem Stk.ar {cs : List PV} {n : Nat} {i : Int} {C : PV → StepR} (p : PV) (h0 : 0 ≤ i) (h1 : i < n) (hc : cs[i.toNat]? = some p) (h : GoR P X w0 T (C p) K) : Stk P X w0 T (.ar cs n i C) K := ⟨⟨p, h0, h1, hc, h.sem tb.ok tb.mixed⟩⟩
theorem Stk.eqs {t n : Nat} {neg : Bool} {cs ds : List PV} {C : Bool → StepR} [hE : EqT P t n] (za bs : List Int) (h1 : cs = za.map pvI) (h2 : ds = bs.map pvI) (h3 : za.length = n) (h4 : bs.length = n) (h : GoR P X w0 T (C (bif neg then !tst (za = bs) else tst (za = bs))) K) : Stk P X w0 T (.eqs t neg cs ds C) K := ⟨⟨_, .inl ⟨n, za, bs, hE, h1, h2, h3, h4, rfl⟩, h.sem tb.ok tb.mixed⟩⟩
theorem Stk.eqsE {t n : Nat} {cs ds : List PV} {C : Bool → StepR} [hE : EqT P t n] (za zb : List Int) (h1 : cs = za.map pvI) (h2 : ds = zb.map pvI) (h3 : za.length = n) (h4 : zb.length = n) (h : GoR P X w0 T (C (tst (za = zb))) K) : Stk P X w0 T (.eqs t false cs ds C) K := Stk.eqs za zb h1 h2 h3 h4 h
theorem Stk.eqsN {t n : Nat} {cs ds : List PV} {C : Bool → StepR} [hE : EqT P t n] (za zb : List Int) (h1 : cs = za.map pvI) (h2 : ds = zb.map pvI) (h3 : za.length = n) (h4 : zb.length = n) (h : GoR P X w0 T (C (!tst (za = zb))) K) : Stk P X w0 T (.eqs t true cs ds C) K := Stk.eqs za zb h1 h2 h3 h4 h
theorem Stk.cutT {α : Type} {f : α → List PV} {l : List α} {n : Nat} {C : List (List PV) → StepR} (hn : n ≤ l.length) (k : GoR P X w0 T (C ((l.take n).map f)) K) : Stk P X w0 T (.cut (l.map f) none (some (n : Int)) C) K := ⟨⟨0, n, rfl, ⟨Int.natCast_nonneg _, rfl⟩, Nat.zero_le _, by simpa using hn, by
  rw [List.drop_zero, ← List.map_take]
  exact k.sem tb.ok tb.mixed⟩⟩
theorem Stk.cutD {α : Type} {f : α → List PV} {l : List α} {n : Nat} {C : List (List PV) → StepR} (hn : n ≤ l.length) (k : GoR P X w0 T (C ((l.drop n).map f)) K) : Stk P X w0 T (.cut (l.map f) (some (n : Int)) none C) K := ⟨⟨n, l.length, ⟨Int.natCast_nonneg _, rfl⟩, by simp [bndOK], hn, by simp, by
  rw [List.take_of_length_le (by simp), ← List.map_drop]
  exact k.sem tb.ok tb.mixed⟩⟩
theorem Stk.nilcmp {neg : Bool} {nt d : Nat} {env : List (Nat × PV)} {lh : List (Nat × LB)} {fs : List Fr} {ty : TypeId} {pos : String} {after : Array Edge} {ops : Array Oper} {l : List Oper} {t e yt sz sz' : Nat} {x : Operand} {xs : List (List PV)} [ht : SliceT P t e sz] (hx : evE env x = some (.sl sz' xs)) (hz : sz' ≠ 0) (hd : Nat.blt d nt = true)
    (h : ∀ b : Bool, (b = true → xs = []) → GoR P X w0 T (.next ⟨.ops ops l, nt, (d, .v (.bool (bif neg then !b else b))) :: env, lh, fs⟩) K) : Stk P X w0 T (.stop ⟨.ops ops (⟨some d, .binOp (bif neg then .neq else .eql) t x (.const (.slice none 0 0)) yt, ty, pos, after, none⟩ :: l), nt, env, lh, fs⟩) K :=
  ⟨RW.nilcmp ht.h hz (by rw [evE_eq]; exact hx) hd fun b hb => (h b hb).sem tb.ok tb.mixed⟩
section
variable {d g : Nat} {A : PV → Option LB → StepR} {M0 : Mc}
theorem Stk.call {args : List PV} {r : PV} [hs : HasSpec P g args r] (hc : closedL args = true := by rfl) (hn : r.noOwn = true := by rfl) (h : GoR P X w0 T (A r none) K) : Stk P X w0 T (.call g args d A M0) K := ⟨.inl ⟨r, hs.h, hc, hn, h.sem tb.ok tb.mixed⟩⟩
theorem Stk.callO {args : List PV} {rt sz : Nat} {ys : List (List PV)} [hs : HasSpecO P g args rt sz ys] (hc : closedL args = true := by rfl) (h : GoR P X w0 T (A (.row d 0) (some (.row rt sz 0 ys))) K) : Stk P X w0 T (.call g args d A M0) K := ⟨.inr (.inl ⟨rt, sz, ys, hs.h, hc, h.sem tb.ok tb.mixed⟩)⟩
theorem Stk.by {args args' : List PV} {r : PV} (hs : HasSpec P g args' r) (e : args = args' := by rfl) (hc : closedL args' = true := by rfl) (hn : r.noOwn = true := by rfl) (h : GoR P X w0 T (A r none) K) : Stk P X w0 T (.call g args d A M0) K := by
  subst e
  exact ⟨.inl ⟨r, hs.h, hc, hn, h.sem tb.ok tb.mixed⟩⟩
theorem Stk.byO {args args' : List PV} {rt sz : Nat} {ys : List (List PV)} (hs : HasSpecO P g args' rt sz ys) (e : args = args' := by rfl) (hc : closedL args' = true := by rfl) (h : GoR P X w0 T (A (.row d 0) (some (.row rt sz 0 ys))) K) : Stk P X w0 T (.call g args d A M0) K := by
  subst e
  exact ⟨.inr (.inl ⟨rt, sz, ys, hs.h, hc, h.sem tb.ok tb.mixed⟩)⟩
end
theorem Stk.inl {g d : Nat} {A : PV → Option LB → StepR} {nt : Nat} {env : List (Nat × PV)} {lh : List (Nat × LB)} {fs : List Fr} {ty : TypeId} {pos : String} {after : Array Edge} {ats : Array TypeId} {ops : Array Oper} {l : List Oper} {c : Operand} {first caps ps args args' : List PV} {xs : Array Operand} {fn : Func} {code : Code} {m : Nat} {rs : List ResultVar}
    [hf : FnT P g fn] (hc : evE env c = some (.fn (.func g) first caps) := by rfl) (hx : evL env xs.toList = some ps := by rfl) (hb : fn.body = some code := by rfl) (hnt : fn.ntmps = m := by rfl) (hrs : fn.results = rs.toArray := by rfl) (ha : capp first ps caps = args := by rfl) (hn : Nat.ble args.length m = true := by rfl)
    (hd : Nat.blt d nt = true := by rfl)
    (h : ∀ tm : Array Value, GoR P ⟨X.box, X.F, (env, tm) :: X.fr, []⟩ w0 T (.next ⟨.code code, m, envOf 0 args, lh, []⟩) (inlK T rs fun r lh' => GoR P X w0 T (.next ⟨.ops ops l, nt, (d, r) :: env, lh', fs⟩) K)) :
    Stk P X w0 T (.call g args' d A ⟨.ops ops (⟨some d, .call { callee := .value c, args := xs, argTypes := ats }, ty, pos, after, none⟩ :: l), nt, env, lh, fs⟩) K :=
  ⟨.inr (.inr (RW.inlR (dst := some d) hc hx hb hnt hrs ha hn (inB_some hd) h))⟩
theorem Stk.inl0 {g : Nat} {nt : Nat} {env : List (Nat × PV)} {lh : List (Nat × LB)} {fs : List Fr} {ty : TypeId} {pos : String} {after : Array Edge} {ats : Array TypeId} {ops : Array Oper} {l : List Oper} {c : Operand} {first caps ps args : List PV} {xs : Array Operand} {fn : Func} {code : Code} {m : Nat} {rs : List ResultVar}
    (hc : evE env c = some (.fn (.func g) first caps) := by rfl) (hx : evL env xs.toList = some ps := by rfl) [hf : FnT P g fn] (hb : fn.body = some code := by rfl) (hnt : fn.ntmps = m := by rfl) (hrs : fn.results = rs.toArray := by rfl) (ha : capp first ps caps = args := by rfl) (hn : Nat.ble args.length m = true := by rfl)
    (h : ∀ tm : Array Value, GoR P ⟨X.box, X.F, (env, tm) :: X.fr, []⟩ w0 T (.next ⟨.code code, m, envOf 0 args, lh, []⟩) (inlK T rs fun _ lh' => GoR P X w0 T (.next ⟨.ops ops l, nt, env, lh', fs⟩) K)) :
    Stk P X w0 T (.stop ⟨.ops ops (⟨none, .call { callee := .value c, args := xs, argTypes := ats }, ty, pos, after, none⟩ :: l), nt, env, lh, fs⟩) K :=
  ⟨RW.inlR (dst := none) hc hx hb hnt hrs ha hn rfl h⟩
theorem Stk.op {nt d : Nat} {env : List (Nat × PV)} {lh : List (Nat × LB)} {fs : List Fr} {op : Op} {ty : TypeId} {pos : String} {after : Array Edge} {ops : Array Oper} {l : List Oper} {p : PV} (h : OpOK P ⟨some d, op, ty, pos, after, none⟩ ⟨nt, env, lh⟩ p []) (k : GoR P X w0 T (.next ⟨.ops ops l, nt, (d, p) :: env, lh, fs⟩) K) :
    Stk P X w0 T (.stop ⟨.ops ops (⟨some d, op, ty, pos, after, none⟩ :: l), nt, env, lh, fs⟩) K := ⟨RW.st h (k.sem tb.ok tb.mixed)⟩
theorem Stk.opB {nt d : Nat} {env : List (Nat × PV)} {lh : List (Nat × LB)} {fs : List Fr} {op : Op} {ty : TypeId} {pos : String} {after : Array Edge} {ops : Array Oper} {l : List Oper} {p : PV} {b : LB} (h : OpOK P ⟨some d, op, ty, pos, after, none⟩ ⟨nt, env, lh⟩ p [(d, b)]) (hn : look d lh = none) (k : GoR P X w0 T (.next ⟨.ops ops l, nt, (d, p) :: env, (d, b) :: lh, fs⟩) K) :
    Stk P X w0 T (.stop ⟨.ops ops (⟨some d, op, ty, pos, after, none⟩ :: l), nt, env, lh, fs⟩) K := ⟨RW.stB h hn (k.sem tb.ok tb.mixed)⟩
theorem Stk.eff {nt : Nat} {env : List (Nat × PV)} {lh lh' : List (Nat × LB)} {env' : List (Nat × PV)} {fs : List Fr} {o : Oper} {ops : Array Oper} {l : List Oper} (hg : o.guard = none := by rfl) (h : OpEff P o ⟨nt, env, lh⟩ ⟨nt, env', lh'⟩) (k : GoR P X w0 T (.next ⟨.ops ops l, nt, env', lh', fs⟩) K) :
    Stk P X w0 T (.stop ⟨.ops ops (o :: l), nt, env, lh, fs⟩) K := ⟨RW.stE hg h (k.sem tb.ok tb.mixed)⟩
theorem Stk.app {nt d id : Nat} {b : LB} {p : PV} {env : List (Nat × PV)} {lh : List (Nat × LB)} {fs : List Fr} {o : Oper} {ops : Array Oper} {l : List Oper} (hg : o.guard = none) (h : OpEff P o ⟨nt, env, lh⟩ ((St.setB ⟨nt, env, lh⟩ id b).put (some d) p)) (k : GoR P X w0 T (.next ⟨.ops ops l, nt, (d, p) :: env, (id, b) :: lh, fs⟩) K) :
    Stk P X w0 T (.stop ⟨.ops ops (o :: l), nt, env, lh, fs⟩) K := ⟨RW.stA hg h (k.sem tb.ok tb.mixed)⟩
theorem Stk.appD {nt d id : Nat} {b : LB} {p : PV} {env : List (Nat × PV)} {lh : List (Nat × LB)} {fs : List Fr} {op : Op} {ty : TypeId} {pos : String} {after : Array Edge} {a : Array Oper} {l : List Oper} {tl : List (List Nat × List Nat)} (h : OpUP P ⟨some d, op, ty, pos, after, none⟩ ⟨nt, env, lh⟩ p id b) {ids : List Nat} (hi : (⟨nt, env, lh⟩ : St).ids ⟨some d, op, ty, pos, after, none⟩ = ids) (k : GoR P X w0 T (.next ⟨.dops a l (([id], ids) :: tl), nt, (d, p) :: env, (id, b) :: lh, fs⟩) K) :
    Stk P X w0 T (.stop ⟨.dops a (⟨some d, op, ty, pos, after, none⟩ :: l) tl, nt, env, lh, fs⟩) K := by
  subst hi
  exact ⟨UW.cons (o := ⟨some d, op, ty, pos, after, none⟩) (σ := ⟨nt, env, lh⟩) (σ' := ⟨nt, (d, p) :: env, (id, b) :: lh⟩) (x := ([id], _)) (fun hr => .ok (p := p) (nb := [(id, b)]) (.inl rfl) (.upd h) hr) (k.sem tb.ok tb.mixed)⟩
theorem up_append {σ : St} {ty : TypeId} {pos : String} {after : Array Edge} {guard : Option (Nat × Bool)} {d t e sz bytes id ver : Nat} {z : Value} {s x : Operand} {xs ys : List (List PV)} [h : SliceT P t e sz] [hz : ElemT P e z sz bytes] (hs : σ.ev s = some (.row id ver)) (hb : σ.blk id = some (.row e sz ver xs)) (hx : σ.ev x = some (.sl sz ys)) (hzs : Nat.beq z.cells.size sz = true) (hsz : sz ≠ 0) (h1 : xs.length + ys.length ≤ maxLen) (h2 : (xs.length + ys.length) * bytes ≤ 140737488355328) (hd : inB σ (some d) = true) :
    OpUP P ⟨some d, .call { callee := .builtin .append, args := #[s, x], argTypes := #[t, t] }, ty, pos, after, guard⟩ σ (.row id (ver + 1)) id (.row e sz (ver + 1) (xs ++ ys)) :=
  ⟨fun σ' hag => eff_append (hag.ev s (by simp [Op.operands, Call.operands]) _ hs) (hag.blk s (by simp [Op.operands, Call.operands]) _ id _ hs rfl hb) (hag.ev x (by simp [Op.operands, Call.operands]) _ hx) hzs hsz h1 h2 (SimM.nt_inB hag hd)⟩
theorem Stk.weak {md : Md} {nt : Nat} {env env' : List (Nat × PV)} {lh lh' : List (Nat × LB)} {fs : List Fr} (hw : Weak X w0 ⟨nt, env, lh⟩ ⟨nt, env', lh'⟩) (k : GoR P X w0 T (.next ⟨md, nt, env', lh', fs⟩) K) (hmd : match md with | .code _ => True | .ops _ _ => True | _ => False) : Stk P X w0 T (.stop ⟨md, nt, env, lh, fs⟩) K := ⟨by
  have k := k.sem tb.ok tb.mixed
  cases md with
  | code c => exact PW.weak hw k
  | ops a l => exact RW.weak hw k
  | dops _ _ _ => exact hmd.elim
  | ex _ => exact hmd.elim⟩
theorem Stk.unroll (n : Nat) {c : Code} {nt : Nat} {env : List (Nat × PV)} {lh : List (Nat × LB)} {fs : List Fr} (h : GoR P X w0 T (.next ⟨.code c, nt, env, lh, .lp n c :: fs⟩) K) : Stk P X w0 T (.stop ⟨.code (.loop c), nt, env, lh, fs⟩) K :=
  ⟨PWL.loop (n := n + 1) (PWL.round (GoR.sem tb.ok tb.mixed h))⟩
theorem Stk.weakC {g d : Nat} {args : List PV} {A : PV → Option LB → StepR} {a : Array Oper} {l : List Oper} {nt : Nat} {env env' : List (Nat × PV)} {lh lh' : List (Nat × LB)} {fs : List Fr} (hw : Weak X w0 ⟨nt, env, lh⟩ ⟨nt, env', lh'⟩) (k : GoR P X w0 T (.next ⟨.ops a l, nt, env', lh', fs⟩) K) : Stk P X w0 T (.call g args d A ⟨.ops a l, nt, env, lh, fs⟩) K :=
  ⟨.inr (.inr (RW.weak hw (GoR.sem tb.ok tb.mixed k)))⟩
def loopK (P : Program) (X : XF) (w0 : World) (T : TT) (N : Nat → List (Nat × PV) → List (Nat × LB) → Prop) (fs : List Fr) (K : Exit → St → Prop) : Exit → St → Prop
  | .normal, ⟨nt, env, lh⟩ => N nt env lh
  | .ret, ⟨nt, env, lh⟩ => GoR P X w0 T (.next ⟨.ex .ret, nt, env, lh, fs⟩) K
  | .exit j, ⟨nt, env, lh⟩ => GoR P X w0 T (.next ⟨.ex (.exit j), nt, env, lh, fs⟩) K
  | _, _ => False
theorem Stk.loop {ι : Type} (E : ι → List (Nat × PV)) (L : ι → List (Nat × LB)) (ok : ι → Prop) (m : ι → Nat) (i0 : ι) {c : Code} {nt : Nat} {env : List (Nat × PV)} {lh : List (Nat × LB)} {fs : List Fr} (h0 : ok i0) (hw : Weak X w0 ⟨nt, env, lh⟩ ⟨nt, E i0, L i0⟩)
    (round : ∀ i, ok i → GoR P X w0 T (.next ⟨.code c, nt, E i, L i, []⟩) (loopK P X w0 T (fun nt' env' lh' => ∃ i', ok i' ∧ m i' < m i ∧ Weak X w0 ⟨nt', env', lh'⟩ ⟨nt, E i', L i'⟩) fs K)) : Stk P X w0 T (.stop ⟨.code (.loop c), nt, env, lh, fs⟩) K :=
  ⟨PW.loop (fun i => ⟨nt, E i, L i⟩) ok m i0 h0 hw fun i hi => (PW.ofG (round i hi)).mono fun e σ k => by
    obtain ⟨nt', env', lh'⟩ := σ
    cases e with
    | normal => exact .n k
    | ret => exact .r (GoR.sem tb.ok tb.mixed k)
    | exit j => exact .x (GoR.sem tb.ok tb.mixed k)
    | goto l => exact k.elim
    | panic _ => exact k.elim
    | outgrown => exact k.elim⟩
end
theorem rep_len {w : World} {μ : LMap} {sz : Nat} {xs : List (List PV)} {y : Value} (h : Rep w μ (.sl sz xs) y) : xs.length ≤ 9223372036854775807 := by
  simp only [Rep] at h
  obtain ⟨A, c', _, h2, h3, _⟩ := h
  have : maxLen = 9223372036854775807 := by decide
  omega
theorem Spec.bound {P : Program} {f : FuncId} {fn : Func} [hf : FnT P f fn] {args : List PV} {r : PV} (i : Nat) {sz : Nat} {xs : List (List PV)} (h : args[i]? = some (.sl sz xs)) (k : xs.length ≤ 9223372036854775807 → Spec P f args r) : Spec P f args r :=
  ⟨hf.ent, fun F w vs hF hv => by
    obtain ⟨y, _, hy⟩ := hv.get i _ h
    exact (k (rep_len hy)).run F w vs hF hv⟩
mutual
def PV.onlyB (s : List Nat) : PV → Bool
  | .lp i _ | .row i _ | .rp i _ _ _ _ | .rs i _ _ _ _ | .mo i => s.any (Nat.beq i)
  | .agg cs | .tup cs => onlyL s cs
  | .fn _ a b => onlyL s a && onlyL s b
  | .ifc _ x => x.onlyB s
  | _ => true
def onlyL (s : List Nat) : List PV → Bool
  | [] => true
  | c :: cs => c.onlyB s && onlyL s cs
end
def LMap.keep (μ : LMap) (s : List Nat) : LMap := ⟨μ.F, fun k => if s.any (Nat.beq k) then μ.m k else Option.none⟩
theorem LMap.keep_in (μ : LMap) {s : List Nat} {k : Nat} (h : s.any (Nat.beq k) = true) : (μ.keep s).m k = μ.m k := if_pos h
theorem LMap.keep_some {μ : LMap} {s : List Nat} {k : Nat} {l : LI} (h : (μ.keep s).m k = some l) : s.any (Nat.beq k) = true ∧ μ.m k = some l := by
  unfold LMap.keep at h
  simp only at h
  split at h
  · exact ⟨‹_›, h⟩
  · cases h
theorem LMap.keep_owns {μ : LMap} {s : List Nat} {g : Nat} (h : (μ.keep s).owns g) : μ.owns g := by
  rcases h with h | ⟨k, l, hl, hb⟩
  · exact .inl h
  · exact .inr ⟨k, l, (LMap.keep_some hl).2, hb⟩
theorem Later.keep {w : World} {μ : LMap} {s : List Nat} : Later w μ.shut w (μ.keep s).shut :=
  ⟨fun a u hc ho => ⟨hc, fun h => ho (by rw [LMap.shut_owns] at h ⊢; exact LMap.keep_owns h)⟩, fun _ _ h => (by cases h), fun _ _ _ h => (by cases h), fun g es c hg ho => ⟨hg, fun h => ho (by rw [LMap.shut_owns] at h ⊢; exact LMap.keep_owns h)⟩⟩
mutual
theorem Rep.keep {w : World} {μ : LMap} {s : List Nat} : ∀ (p : PV) (y : Value), p.onlyB s = true → Rep w μ p y → Rep w (μ.keep s) p y
  | .v _, _, _, r => r
  | .any, _, _, _ => trivial
  | .agg cs, _, h, ⟨vs, e, r, h1⟩ => ⟨vs, e, RepL.keep cs vs (by simpa [PV.onlyB] using h) r, h1⟩
  | .tup cs, _, h, ⟨vs, e, r⟩ => ⟨vs, e, RepL.keep cs vs (by simpa [PV.onlyB] using h) r⟩
  | .sl sz xs, _, _, ⟨A, c, e, h1, h2, r⟩ => ⟨A, c, e, h1, h2, RepR.later Later.keep A sz xs 0 r⟩
  | .ptr cs, _, _, ⟨a, e, r⟩ => ⟨a, e, RepC.later Later.keep (some a) cs 0 r⟩
  | .lp i o, _, h, ⟨g, hg, e⟩ => ⟨g, by rw [LMap.keep_in _ h]; exact hg, e⟩
  | .row i ver, _, h, ⟨z, k, hz, hv⟩ => ⟨z, k, by rw [LMap.keep_in _ h]; exact hz, hv⟩
  | .rp i ver sz j o, _, h, ⟨z, k, hz, hv⟩ => ⟨z, k, by rw [LMap.keep_in _ h]; exact hz, hv⟩
  | .own _ _ _, _, _, r => r
  | .fn _ first caps, _, h, ⟨vs, us, e, r1, r2⟩ => by
    simp only [PV.onlyB, Bool.and_eq_true] at h
    exact ⟨vs, us, e, RepL.keep first vs h.1 r1, RepL.keep caps us h.2 r2⟩
  | .ifc _ x, _, h, ⟨z, e, r⟩ => ⟨z, e, Rep.keep x z (by simpa [PV.onlyB] using h) r⟩
  | .rs i ver _ _ _, _, h, ⟨z, k, hz, hv⟩ => ⟨z, k, by rw [LMap.keep_in _ h]; exact hz, hv⟩
  | .mp _, _, _, ⟨g, es, clk, e, hg, ho, hm⟩ => ⟨g, es, clk, e, hg, fun h => ho (LMap.keep_owns h), hm⟩
  | .mo i, _, h, ⟨g, hg, e⟩ => ⟨g, by rw [LMap.keep_in _ h]; exact hg, e⟩
theorem RepL.keep {w : World} {μ : LMap} {s : List Nat} : ∀ (cs : List PV) (vs : List Value), onlyL s cs = true → RepL w μ cs vs → RepL w (μ.keep s) cs vs
  | [], _, _, r => r
  | c :: cs, _, h, ⟨u, us, e, r1, r2⟩ => by
    simp only [onlyL, Bool.and_eq_true] at h
    exact ⟨u, us, e, Rep.keep c u h.1 r1, RepL.keep cs us h.2 r2⟩
end
def LB.onlyB (s : List Nat) : LB → Bool
  | .box cells => onlyL s cells
  | .row _ _ _ xs => xs.all (onlyL s)
  | _ => true
theorem onlyL_append {s : List Nat} : ∀ {a b : List PV}, onlyL s a = true → onlyL s b = true → onlyL s (a ++ b) = true
  | [], _, _, h => h
  | c :: a, b, h1, h2 => by
    simp only [onlyL, Bool.and_eq_true, List.cons_append] at h1 ⊢
    exact ⟨h1.1, onlyL_append h1.2 h2⟩
theorem onlyL_flatten {s : List Nat} : ∀ {xs : List (List PV)}, xs.all (onlyL s) = true → onlyL s xs.flatten = true
  | [], _ => rfl
  | e :: es, h => by
    rw [List.all_cons, Bool.and_eq_true] at h
    rw [List.flatten_cons]
    exact onlyL_append h.1 (onlyL_flatten h.2)
def onlyE (s : List Nat) (env : List (Nat × PV)) : Bool := env.all fun x => x.2.onlyB s
def onlyH (s : List Nat) (lh : List (Nat × LB)) : Bool := lh.all fun x => x.2.onlyB s
def onlyF (s : List Nat) (fr : List (List (Nat × PV) × Array Value)) : Bool := fr.all fun e => onlyE s e.1
theorem onlyH_row {α : Type} {f : α → List PV} {s : List Nat} {l : List α} {k t sz ver : Nat} {lh : List (Nat × LB)} (h : ∀ x, onlyL s (f x) = true) (h2 : onlyH s lh = true) : onlyH s ((k, .row t sz ver (l.map f)) :: lh) = true := by
  unfold onlyH at h2 ⊢
  rw [List.all_cons, h2, Bool.and_true]
  show (l.map f).all (onlyL s) = true
  rw [List.all_eq_true]
  intro e he
  obtain ⟨x, _, rfl⟩ := List.mem_map.1 he
  exact h x
theorem Weak.gc {X : XF} {w0 : World} {nt : Nat} {env env' : List (Nat × PV)} {lh lh' : List (Nat × LB)} (he : subEnv ⟨nt, env, lh⟩ env') (hb : subB ⟨nt, env, lh⟩ lh') (h1 : onlyE (lh'.map Prod.fst) env' = true) (h2 : onlyH (lh'.map Prod.fst) lh' = true) (h3 : onlyF (lh'.map Prod.fst) X.fr = true) : Weak X w0 ⟨nt, env, lh⟩ ⟨nt, env', lh'⟩ := by
  refine ⟨fun a w μ s => ⟨μ.keep (lh'.map Prod.fst), ?_⟩⟩
  have dom : ∀ k, (lh'.map Prod.fst).any (Nat.beq k) = true → ∃ b, look k lh' = some b := by
    intro k hk
    clear he hb h1 h2 h3
    induction lh' with
    | nil => cases hk
    | cons x l ih =>
      obtain ⟨j, b⟩ := x
      by_cases e : k = j
      · subst e; exact ⟨b, look_cons_eq _ _ _⟩
      · rw [look_cons_ne e]
        refine ih ?_
        simp only [List.map_cons, List.any_cons, Bool.or_eq_true] at hk
        rcases hk with hk | hk
        · exact absurd (Nat.eq_of_beq_eq_true hk) e
        · exact hk
  have mem : ∀ k b, look k lh' = some b → (lh'.map Prod.fst).any (Nat.beq k) = true := by
    intro k b hk
    rw [List.any_eq_true]
    exact ⟨k, List.mem_map.2 ⟨(k, b), look_mem hk, rfl⟩, Nat.beq_refl k⟩
  refine ⟨s.nt, s.defers, s.keep, s.F, s.hF, s.hX, ?_, ?_, ?_, ?_, ?_, ?_⟩
  · intro e he' t p hp
    obtain ⟨y, hy, r⟩ := s.fr e he' t p hp
    have g := List.all_eq_true.1 (List.all_eq_true.1 h3 e he') (t, p) (look_mem hp)
    exact ⟨y, hy, Rep.keep p y g r⟩
  · intro t p hp
    obtain ⟨y, hy, r⟩ := s.env t p (subEnv_get he t p hp)
    have g := List.all_eq_true.1 h1 (t, p) (look_mem hp)
    exact ⟨y, hy, Rep.keep p y g r⟩
  · intro k b hk
    have hok := s.blk k b (subB_get hb k b hk)
    have hin := mem k b hk
    have g := List.all_eq_true.1 h2 (k, b) (look_mem hk)
    cases b with
    | box cells =>
      obtain ⟨g', cs, ty, hm, hg, r, h5⟩ := hok
      exact ⟨g', cs, ty, by rw [LMap.keep_in _ hin]; exact hm, hg, RepL.keep _ _ g r, h5⟩
    | row ty sz ver xs =>
      obtain ⟨y, vs, hm, hown, r, h5, h6⟩ := hok
      exact ⟨y, vs, by rw [LMap.keep_in _ hin]; exact hm, hown, RepL.keep _ _ (onlyL_flatten g) r, h5, h6⟩
    | mp kv =>
      obtain ⟨g', es, clk, hm, r⟩ := hok
      exact ⟨g', es, clk, by rw [LMap.keep_in _ hin]; exact hm, r⟩
    | it kv seen =>
      obtain ⟨g', gm, es, clk, bs, hm, hg, hgm, ho, r⟩ := hok
      exact ⟨g', gm, es, clk, bs, by rw [LMap.keep_in _ hin]; exact hm, hg, hgm, fun h => ho (LMap.keep_owns h), r⟩
  · intro k l hk
    exact dom k (LMap.keep_some hk).1
  · intro k k' l l' g g1 g2 g3 g4
    exact s.apart k k' l l' g (LMap.keep_some g1).2 (LMap.keep_some g2).2 g3 g4
  · intro k l g g1 g2
    exact s.fresh k l g (LMap.keep_some g1).2 g2
theorem FinK.of {P : Program} {σ : St} {rs : List ResultVar} {ps : List PV} {r : PV} {T : TT} [tb : TabT P T] (hv : rvL T σ.env σ.lh rs = some ps := by rfl) (hr : r.noOwn = true := by rfl) (h : Fin' σ (oneOr ps) r) : FinK P σ rs ps r := ⟨.inl ⟨ps, rvL_spec (nt := σ.nt) tb.ok hv, h, hr⟩⟩
theorem FinK.nil {P : Program} {t rt sz : Nat} {ps : List PV} {σ : St} (hg : σ.get t = some (.v (.slice none 0 0)) := by rfl) : FinK P σ [.tmp t] ps (.own rt sz []) := ⟨.inr (.inr ⟨t, rt, sz, rfl, hg, rfl⟩)⟩
theorem FinK.own {P : Program} {t id rt sz ver : Nat} {xs : List (List PV)} {ps : List PV} {σ : St} (hg : σ.get t = some (.row id ver) := by rfl) (hb : σ.blk id = some (.row rt sz ver xs) := by rfl) (hc : closedL xs.flatten = true) : FinK P σ [.tmp t] ps (.own rt sz xs) := ⟨.inr (.inl ⟨t, id, rt, sz, ver, xs, rfl, hg, hb, hc, rfl⟩)⟩
end Go.Proofs.YtbjepdfnmbdplaaGreat
namespace Go.Proofs.YtbjepdfnmbdplaaGreat
set_option linter.unusedSimpArgs false
set_option linter.unusedVariables false
set_option linter.unusedSectionVars false
open Go.RowKit Go.ChangeShapes Go.WideShapes Go.Deep
section
variable {P : Program} {w : World}
def trodSeq {H : Type} (enc : TypeId × Value → H) (P : Program) (w : World) (base : Nat) (spare : Nat → Bool) (held : Bool) (fuel : Nat) : List TypeId → List Value → Prop
  | [], cs => cs = []
  | t :: ts, cs => (∃ x, DataW.trod enc P w base spare held fuel t (cs.take (P.cellsOf t)) = some x) ∧ trodSeq enc P w base spare held fuel ts (cs.drop (P.cellsOf t))
def ReadsL (P : Program) (w : World) (ts : List TypeId) {α : Type} (ok : α → Prop) (f : α → List PV) : Prop :=
  ∀ {H : Type} (enc : TypeId × Value → H) (base : Nat) (spare : Nat → Bool) (held : Bool) (fuel : Nat) (cs : List Value), trodSeq enc P w base spare held fuel ts cs → ∃ a : α, ok a ∧ RepL w μ0 (f a) cs ∧ ∀ u ∈ cs, u.oneCell' = true
theorem readsL_nil : ReadsL P w [] (fun _ : Unit => True) (fun _ => []) := fun _ _ _ _ _ cs h => ⟨(), trivial, h, by have : cs = [] := h; subst this; simp⟩
theorem readsL_cons {t : TypeId} {ts : List TypeId} {α β : Type} {ok : α → Prop} {ok' : β → Prop} {f : α → List PV} {g : β → List PV} (h1 : Reads P w t ok f) (h2 : ReadsL P w ts ok' g) : ReadsL P w (t :: ts) (fun x : α × β => ok x.1 ∧ ok' x.2) (fun x => f x.1 ++ g x.2) := fun enc base spare held fuel cs h => by
  obtain ⟨⟨x, hx⟩, hs⟩ := h
  obtain ⟨a, ha, ra, oa⟩ := h1 enc base spare held fuel _ x hx
  obtain ⟨b, hb, rb, ob⟩ := h2 enc base spare held fuel _ hs
  refine ⟨(a, b), ⟨ha, hb⟩, ?_, fun u hu => ?_⟩
  · have := RepL.append ra rb
    rwa [List.take_append_drop] at this
  · rw [← List.take_append_drop (P.cellsOf t) cs, List.mem_append] at hu
    rcases hu with hu | hu
    · exact oa u hu
    · exact ob u hu
theorem Reads.map {t : TypeId} {α β : Type} {ok : α → Prop} {ok' : β → Prop} {f : α → List PV} {f' : β → List PV} (h : Reads P w t ok f) (g : α → β) (hf : ∀ a, f a = f' (g a)) (ho : ∀ a, ok a → ok' (g a)) : Reads P w t ok' f' := fun enc base spare held fuel cs x hx => by
  obtain ⟨a, ha, r, o⟩ := h enc base spare held fuel cs x hx
  exact ⟨g a, ho a ha, by rw [← hf]; exact r, o⟩
def contigB (P : Program) : Nat → List Field → Bool
  | _, [] => true
  | n, f :: fs => Nat.beq f.offset n && contigB P (n + P.cellsOf f.type) fs
def totalC (P : Program) : List TypeId → Nat
  | [] => 0
  | t :: ts => P.cellsOf t + totalC P ts
theorem trodSeq_of {H : Type} {enc : TypeId × Value → H} {base : Nat} {spare : Nat → Bool} {held : Bool} {fuel : Nat} {cs : List Value} : ∀ {fs : List Field} {n : Nat}, contigB P n fs = true → cs.length = n + totalC P (fs.map (·.type)) → (∀ f ∈ fs, ∃ x, DataW.trod enc P w base spare held fuel f.type ((cs.drop f.offset).take (P.cellsOf f.type)) = some x) → trodSeq enc P w base spare held fuel (fs.map (·.type)) (cs.drop n)
  | [], n, _, hl, _ => by
    show cs.drop n = []
    rw [List.drop_eq_nil_iff]
    simp only [List.map_nil, totalC] at hl
    omega
  | f :: fs, n, hc, hl, hm => by
    simp only [contigB, Bool.and_eq_true] at hc
    have e := Nat.eq_of_beq_eq_true hc.1
    obtain ⟨x, hx⟩ := hm f (List.mem_cons_self ..)
    refine ⟨⟨x, by rw [← e]; exact hx⟩, ?_⟩
    rw [List.drop_drop]
    exact trodSeq_of hc.2 (by
      have hl : cs.length = n + (P.cellsOf f.type + totalC P (fs.map (·.type))) := hl
      show cs.length = n + P.cellsOf f.type + totalC P (fs.map (·.type))
      omega) (fun g hg => hm g (List.mem_cons_of_mem _ hg))
theorem reads_struct {t : TypeId} {fs : Array Field} {α : Type} {ok : α → Prop} {f : α → List PV} (ht : P.underlying t = some (.struct fs)) (hc : contigB P 0 fs.toList = true) (hn : P.cellsOf t = totalC P (fs.toList.map (·.type))) (h : ReadsL P w (fs.toList.map (·.type)) ok f) : Reads P w t ok f := fun enc base spare held fuel cs x hx => by
  obtain ⟨xs, n, rfl, _, hl, hxl, hat⟩ := DataW.trod_struct ht hx
  refine h enc base spare held n cs (trodSeq_of (n := 0) hc (by omega) fun g hg => ?_)
  obtain ⟨i, hi, rfl⟩ := List.mem_iff_getElem.1 hg
  have h1 := hat i fs[i] (by simp)
  have hi' : i < xs.length := by rw [hxl]; simpa using hi
  exact ⟨xs[i], by rw [Array.getElem_toList, h1]; exact List.getElem?_eq_getElem hi'⟩
end
end Go.Proofs.YtbjepdfnmbdplaaGreat
namespace Go.Proofs.YtbjepdfnmbdplaaGreat
set_option linter.unusedSimpArgs false
set_option linter.unusedVariables false
set_option linter.unusedSectionVars false
open Go.RowKit
def renN (k k' i : Nat) : Nat := bif Nat.beq i k then k' else i
mutual
def PV.ren (k k' : Nat) : PV → PV
  | .lp i o => .lp (renN k k' i) o
  | .row i v => .row (renN k k' i) v
  | .rp i v s a b => .rp (renN k k' i) v s a b
  | .agg cs => .agg (renL k k' cs)
  | .tup cs => .tup (renL k k' cs)
  | .fn f a b => .fn f (renL k k' a) (renL k k' b)
  | .ifc t x => .ifc t (x.ren k k')
  | .v x => .v x
  | .any => .any
  | .sl sz xs => .sl sz xs
  | .ptr cs => .ptr cs
  | .own t sz xs => .own t sz xs
  | .rs i v s a b => .rs (renN k k' i) v s a b
  | .mp kv => .mp kv
  | .mo i => .mo (renN k k' i)
def renL (k k' : Nat) : List PV → List PV
  | [] => []
  | c :: cs => c.ren k k' :: renL k k' cs
end
theorem renN_eq (k k' : Nat) : renN k k' k = k' := by unfold renN; rw [Nat.beq_refl]; rfl
theorem renN_ne {k i : Nat} (k' : Nat) (h : i ≠ k) : renN k k' i = i := by
  unfold renN
  cases e : Nat.beq i k with
  | false => rfl
  | true => exact absurd (Nat.eq_of_beq_eq_true e) h
mutual
theorem PV.ren_no {k k' : Nat} : ∀ p : PV, p.noId k = true → p.ren k k' = p
  | .lp i o, h => by simp only [PV.ren, renN_ne k' (beq_ne h)]
  | .row i v, h => by simp only [PV.ren, renN_ne k' (beq_ne h)]
  | .rp i v s a b, h => by simp only [PV.ren, renN_ne k' (beq_ne h)]
  | .agg cs, h => by simp only [PV.ren, renL_no cs (by simpa [PV.noId] using h)]
  | .tup cs, h => by simp only [PV.ren, renL_no cs (by simpa [PV.noId] using h)]
  | .fn f a b, h => by
    simp only [PV.noId, Bool.and_eq_true] at h
    simp only [PV.ren, renL_no a h.1, renL_no b h.2]
  | .ifc t x, h => by simp only [PV.ren, PV.ren_no x (by simpa [PV.noId] using h)]
  | .v x, _ => rfl
  | .any, _ => rfl
  | .sl sz xs, _ => rfl
  | .ptr cs, _ => rfl
  | .own t sz xs, _ => rfl
  | .rs i v s a b, h => by simp only [PV.ren, renN_ne k' (beq_ne h)]
  | .mp kv, _ => rfl
  | .mo i, h => by simp only [PV.ren, renN_ne k' (beq_ne h)]
theorem renL_no {k k' : Nat} : ∀ cs : List PV, noIdL k cs = true → renL k k' cs = cs
  | [], _ => rfl
  | c :: cs, h => by
    simp only [noIdL, Bool.and_eq_true] at h
    simp only [renL, PV.ren_no c h.1, renL_no cs h.2]
end
theorem renL_length (k k' : Nat) : ∀ cs : List PV, (renL k k' cs).length = cs.length
  | [] => rfl
  | c :: cs => by simp only [renL, List.length_cons, renL_length k k' cs]
theorem renL_append (k k' : Nat) : ∀ a b : List PV, renL k k' (a ++ b) = renL k k' a ++ renL k k' b
  | [], b => rfl
  | c :: a, b => by simp only [renL, List.cons_append, renL_append k k' a b]
theorem renL_flatten (k k' : Nat) : ∀ xs : List (List PV), (xs.map (renL k k')).flatten = renL k k' xs.flatten
  | [] => rfl
  | e :: es => by rw [List.map_cons, List.flatten_cons, List.flatten_cons, renL_append, renL_flatten k k' es]
def LMap.ren (μ : LMap) (k k' : Nat) : LMap := ⟨μ.F, fun i => if i = k' then μ.m k else if i = k then Option.none else μ.m i⟩
theorem LMap.ren_at {μ : LMap} {k k' i : Nat} {l : LI} (h0 : μ.m k' = Option.none) (h : μ.m i = some l) : (μ.ren k k').m (renN k k' i) = some l := by
  by_cases e : i = k
  · subst e
    rw [renN_eq]
    exact (if_pos rfl).trans h
  · rw [renN_ne k' e]
    have e2 : i ≠ k' := fun e2 => by rw [e2, h0] at h; cases h
    exact (if_neg e2).trans ((if_neg e).trans h)
theorem LMap.ren_from {μ : LMap} {k k' j : Nat} {l : LI} (h : (μ.ren k k').m j = some l) : ∃ i, μ.m i = some l ∧ renN k k' i = j := by
  unfold LMap.ren at h
  simp only at h
  split at h
  · exact ⟨k, h, by rw [renN_eq]; exact (‹j = k'›).symm⟩
  · split at h
    · cases h
    · exact ⟨j, h, renN_ne k' ‹_›⟩
theorem LMap.ren_owns {μ : LMap} {k k' g : Nat} (h0 : μ.m k' = Option.none) : (μ.ren k k').owns g ↔ μ.owns g := by
  constructor
  · rintro (h | ⟨j, l, hl, hb⟩)
    · exact .inl h
    · obtain ⟨i, hi, _⟩ := LMap.ren_from hl
      exact .inr ⟨i, l, hi, hb⟩
  · rintro (h | ⟨i, l, hl, hb⟩)
    · exact .inl h
    · exact .inr ⟨_, l, LMap.ren_at h0 hl, hb⟩
theorem LMap.ren_shut {μ : LMap} {k k' : Nat} (h0 : μ.m k' = Option.none) : (μ.ren k k').shut = μ.shut := by
  unfold LMap.shut
  congr 1
  funext g
  exact propext (LMap.ren_owns h0)
mutual
theorem Rep.ren {w : World} {μ : LMap} {k k' : Nat} (h0 : μ.m k' = Option.none) : ∀ (p : PV) (y : Value), Rep w μ p y → Rep w (μ.ren k k') (p.ren k k') y
  | .v _, _, r => r
  | .any, _, _ => trivial
  | .agg cs, _, ⟨vs, e, r, h1⟩ => ⟨vs, e, RepL.ren h0 cs vs r, h1⟩
  | .tup cs, _, ⟨vs, e, r⟩ => ⟨vs, e, RepL.ren h0 cs vs r⟩
  | .sl sz xs, _, ⟨A, c, e, h1, h2, r⟩ => ⟨A, c, e, h1, h2, by rw [LMap.ren_shut h0]; exact r⟩
  | .ptr cs, _, ⟨a, e, r⟩ => ⟨a, e, by rw [LMap.ren_shut h0]; exact r⟩
  | .lp i o, _, ⟨g, hg, e⟩ => ⟨g, LMap.ren_at h0 hg, e⟩
  | .row i ver, _, ⟨z, n, hz, r⟩ => ⟨z, n, LMap.ren_at h0 hz, r⟩
  | .rp i ver _ _ _, _, ⟨z, n, hz, r⟩ => ⟨z, n, LMap.ren_at h0 hz, r⟩
  | .own _ _ _, _, r => r
  | .fn _ first caps, _, ⟨vs, us, e, r1, r2⟩ => ⟨vs, us, e, RepL.ren h0 first vs r1, RepL.ren h0 caps us r2⟩
  | .ifc _ x, _, ⟨z, e, r⟩ => ⟨z, e, Rep.ren h0 x z r⟩
  | .rs i ver _ _ _, _, ⟨z, n, hz, r⟩ => ⟨z, n, LMap.ren_at h0 hz, r⟩
  | .mp _, _, ⟨g, es, clk, e, hg, ho, hm⟩ => ⟨g, es, clk, e, hg, fun h => ho ((LMap.ren_owns h0).1 h), hm⟩
  | .mo i, _, ⟨g, hg, e⟩ => ⟨g, LMap.ren_at h0 hg, e⟩
theorem RepL.ren {w : World} {μ : LMap} {k k' : Nat} (h0 : μ.m k' = Option.none) : ∀ (cs : List PV) (vs : List Value), RepL w μ cs vs → RepL w (μ.ren k k') (renL k k' cs) vs
  | [], _, r => r
  | c :: cs, _, ⟨u, us, e, r1, r2⟩ => ⟨u, us, e, Rep.ren h0 c u r1, RepL.ren h0 cs us r2⟩
end
def renE (k k' : Nat) (env : List (Nat × PV)) : List (Nat × PV) := env.map fun x => (x.1, x.2.ren k k')
def LB.ren (k k' : Nat) : LB → LB
  | .box cells => .box (renL k k' cells)
  | .row t s v xs => .row t s v (xs.map (renL k k'))
  | .mp kv => .mp kv
  | .it kv seen => .it kv seen
def renH (k k' : Nat) (lh : List (Nat × LB)) : List (Nat × LB) := lh.map fun x => (renN k k' x.1, x.2.ren k k')
theorem look_renE {k k' t : Nat} : ∀ {env : List (Nat × PV)} {q : PV}, look t (renE k k' env) = some q → ∃ p, look t env = some p ∧ q = p.ren k k'
  | [], _, h => by cases h
  | (j, p) :: l, q, h => by
    have h : look t ((j, p.ren k k') :: renE k k' l) = some q := h
    by_cases e : t = j
    · subst e
      rw [look_cons_eq] at h ⊢
      injection h with h
      exact ⟨p, rfl, h.symm⟩
    · rw [look_cons_ne e] at h ⊢
      exact look_renE h
theorem look_renH {k k' j : Nat} : ∀ {lh : List (Nat × LB)} {b : LB}, look j (renH k k' lh) = some b → ∃ i c, look i lh = some c ∧ renN k k' i = j ∧ b = c.ren k k'
  | [], _, h => by cases h
  | (i, c) :: l, b, h => by
    have h : look j ((renN k k' i, c.ren k k') :: renH k k' l) = some b := h
    by_cases e : j = renN k k' i
    · subst e
      rw [look_cons_eq] at h
      injection h with h
      exact ⟨i, c, look_cons_eq _ _ _, rfl, h.symm⟩
    · rw [look_cons_ne e] at h
      obtain ⟨i', c', h1, h2, h3⟩ := look_renH h
      refine ⟨i', c', ?_, h2, h3⟩
      rw [look_cons_ne (fun e' => e (by rw [← h2, e']))]
      exact h1
theorem look_renH_some {k k' i : Nat} : ∀ {lh : List (Nat × LB)} {c : LB}, look i lh = some c → ∃ b, look (renN k k' i) (renH k k' lh) = some b
  | [], _, h => by cases h
  | (i0, c0) :: l, c, h => by
    show ∃ b, look (renN k k' i) ((renN k k' i0, c0.ren k k') :: renH k k' l) = some b
    by_cases e : renN k k' i = renN k k' i0
    · rw [e, look_cons_eq]
      exact ⟨_, rfl⟩
    · rw [look_cons_ne e]
      refine look_renH_some (c := c) ?_
      rwa [look_cons_ne (fun e' => e (by rw [e']))] at h
theorem Weak.ren {X : XF} {w0 : World} {nt : Nat} {env env' : List (Nat × PV)} {lh lh' : List (Nat × LB)} (k k' : Nat) (h0 : look k' lh = none) (he : renE k k' env = env') (hb : renH k k' lh = lh') (hfr : frNo k X.fr = true := by rfl) : Weak X w0 ⟨nt, env, lh⟩ ⟨nt, env', lh'⟩ := by
  subst he hb
  refine ⟨fun a w μ s => ⟨μ.ren k k', ?_⟩⟩
  have hm : μ.m k' = Option.none := by
    cases e : μ.m k' with
    | none => rfl
    | some l =>
      obtain ⟨b, hb⟩ := s.dom k' l e
      have : look k' lh = some b := hb
      rw [h0] at this
      cases this
  refine ⟨s.nt, s.defers, s.keep, s.F, s.hF, s.hX, ?_, ?_, ?_, ?_, ?_, ?_⟩
  · intro e he t p hp
    obtain ⟨y, hy, r⟩ := s.fr e he t p hp
    have h1 := List.all_eq_true.1 (List.all_eq_true.1 hfr e he) (t, p) (look_mem hp)
    have h2 := Rep.ren (k := k) hm p y r
    rw [PV.ren_no p h1] at h2
    exact ⟨y, hy, h2⟩
  · intro t q hq
    obtain ⟨p, hp, rfl⟩ := look_renE hq
    obtain ⟨y, hy, r⟩ := s.env t p hp
    exact ⟨y, hy, Rep.ren hm p y r⟩
  · intro j b hj
    obtain ⟨i, c, hi, rfl, rfl⟩ := look_renH hj
    have hok := s.blk i c hi
    cases c with
    | box cells =>
      obtain ⟨g, cs, ty, hm', hg, r, h1⟩ := hok
      exact ⟨g, cs, ty, LMap.ren_at hm hm', hg, RepL.ren hm _ _ r, h1⟩
    | row ty sz ver xs =>
      obtain ⟨y, vs, hm', hown, r, h1, h2⟩ := hok
      refine ⟨y, vs, LMap.ren_at hm hm', by rw [List.length_map]; exact hown, by rw [renL_flatten]; exact RepL.ren hm _ _ r, ?_, h2⟩
      intro e he
      obtain ⟨e', he', rfl⟩ := List.mem_map.1 he
      rw [renL_length]
      exact h1 e' he'
    | mp kv =>
      obtain ⟨g, es, clk, hm', r⟩ := hok
      exact ⟨g, es, clk, LMap.ren_at hm hm', r⟩
    | it kv seen =>
      obtain ⟨g, gm, es, clk, bs, hm', hg, hgm, ho, r⟩ := hok
      exact ⟨g, gm, es, clk, bs, LMap.ren_at hm hm', hg, hgm, fun h => ho ((LMap.ren_owns hm).1 h), r⟩
  · intro j l hj
    obtain ⟨i, hi, rfl⟩ := LMap.ren_from hj
    obtain ⟨b, hb⟩ := s.dom i l hi
    exact look_renH_some hb
  · intro j j' l l' g hj hj' g1 g2
    obtain ⟨i, hi, rfl⟩ := LMap.ren_from hj
    obtain ⟨i', hi', rfl⟩ := LMap.ren_from hj'
    rw [s.apart i i' l l' g hi hi' g1 g2]
  · intro j l g hj hg
    obtain ⟨i, hi, rfl⟩ := LMap.ren_from hj
    exact s.fresh i l g hi hg
section
variable (P : Program) (X : XF) (w0 : World) (T : TT)
def preK : Nat → Code → (Code → Nat → List (Nat × PV) → List (Nat × LB) → Prop) → (Exit → St → Prop) → Exit → St → Prop
  | 0, c, KD, K => fun e σ => match e, σ with
    | .normal, ⟨nt, env, lh⟩ => KD c nt env lh
    | e, σ => K e σ
  | n + 1, c, KD, K => fun e σ => match e, σ with
    | .normal, ⟨nt, env, lh⟩ => (match c with
      | .seq a b => GoR P X w0 T (.next ⟨.code a, nt, env, lh, []⟩) (preK n b KD K)
      | _ => False)
    | e, σ => K e σ
variable {P X w0 T}
theorem PW.go [tb : TabT P T] {c : Code} {nt : Nat} {env : List (Nat × PV)} {lh : List (Nat × LB)} {K : Exit → St → Prop} (h : GoR P X w0 T (.next ⟨.code c, nt, env, lh, []⟩) K) : PW P X w0 c ⟨nt, env, lh⟩ K := h.sem tb.ok tb.mixed
theorem preK_other {n : Nat} {c : Code} {KD : Code → Nat → List (Nat × PV) → List (Nat × LB) → Prop} {K : Exit → St → Prop} {e : Exit} {σ : St} (he : e ≠ .normal) (h : preK P X w0 T n c KD K e σ) : K e σ := by
  cases n <;> cases e <;> first | exact h | exact absurd rfl he
theorem preK_wp [tb : TabT P T] {Q : Exit → Act → World → Prop} {KD : Code → Nat → List (Nat × PV) → List (Nat × LB) → Prop} {K : Exit → St → Prop}
    (hD : ∀ c nt env lh a w μ, KD c nt env lh → SimM X w0 ⟨nt, env, lh⟩ a w μ → c.wp P Q a w) (hK : ∀ e σ a w μ, e ≠ .normal → K e σ → SimM X w0 σ a w μ → Q e a w) :
    ∀ (n : Nat) (c : Code) (σ : St) (a : Act) (w : World) (μ : LMap), preK P X w0 T n c KD K .normal σ → SimM X w0 σ a w μ → c.wp P Q a w
  | 0, c, σ, a, w, μ, h, s => hD c _ _ _ a w μ h s
  | n + 1, c, σ, a, w, μ, h, s => by
    cases c with
    | seq x y =>
      have h1 := (PW.go (show GoR P X w0 T (.next ⟨.code x, σ.nt, σ.env, σ.lh, []⟩) (preK P X w0 T n y KD K) from h)).run a w μ s
      refine wp_seq (wp_mono h1 ?_)
      rintro e a' w' ⟨σ', μ', k, s'⟩
      by_cases he : e = .normal
      · subst he
        exact preK_wp hD hK n y σ' a' w' μ' k s'
      · have := hK e σ' a' w' μ' he (preK_other he k) s'
        cases e <;> first | exact this | exact absurd rfl he
    | _ => exact h.elim
end
section
variable (P : Program) (T : TT) (F : Nat → Prop) (w0 : World) (rs : List ResultVar) (r : PV)
def backK (nt : Nat) (env : List (Nat × PV)) : Exit → St → Prop
  | .ret, ⟨_, _, lh⟩ => (match rvL T env lh rs with | some ps => FinK P ⟨nt, env, lh⟩ rs ps r | none => False)
  | .normal, ⟨_, _, lh⟩ => (match rvL T env lh rs with | some ps => FinK P ⟨nt, env, lh⟩ rs ps r | none => False)
  | _, _ => False
def doorK (args : List PV) (gc : Code) (gm : Nat) : Exit → St → Prop
  | .ret, ⟨nt, env, lh⟩ => ∀ tm : Array Value, GoR P ⟨fun _ => False, F, [(env, tm)], []⟩ w0 T (.next ⟨.code gc, gm, envOf 0 args, lh, []⟩) (backK P T rs r nt env)
  | .normal, ⟨nt, env, lh⟩ => ∀ tm : Array Value, GoR P ⟨fun _ => False, F, [(env, tm)], []⟩ w0 T (.next ⟨.code gc, gm, envOf 0 args, lh, []⟩) (backK P T rs r nt env)
  | _, _ => False
structure DefG (R : Code) (nt : Nat) (env : List (Nat × PV)) (lh : List (Nat × LB)) (g : FuncId) (ps caps : List PV) : Prop where
  h : ∃ (fn : Func) (gc : Code) (gm : Nat), P.funcs[g]? = some fn ∧ Enters P g ∧ fn.body = some gc ∧ fn.ntmps = gm ∧ Nat.ble (ps ++ caps).length gm = true ∧ fn.results = #[] ∧
    ∀ vs us : List Value, GoR P ⟨fun _ => False, F, [(envOf 0 (ps ++ caps), (vs ++ us).toArray)], [⟨.fn (.func g) us.toArray, vs.toArray⟩]⟩ w0 T (.next ⟨.code R, nt, env, lh, []⟩) (doorK P T F w0 rs r (ps ++ caps) gc gm)
noncomputable def defO (R : Code) (nt : Nat) (lh : List (Nat × LB)) : List Oper → List (Nat × PV) → Prop
  | [], _ => False
  | ⟨some d, op, _, _, _, none⟩ :: l, env => bif Nat.blt d nt then (match opS T nt env lh op with
    | .ok p => defO R nt lh l ((d, p) :: env)
    | _ => False) else False
  | ⟨none, .defer c, _, _, _, none⟩ :: l, env => (match l, c.callee with
    | [], .value f => (match evE env f with
      | some (.fn (.func g) first caps) => (match evL env c.args.toList with
        | some ps => DefG P T F w0 rs r R nt env lh g (first ++ ps) caps
        | none => False)
      | _ => False)
    | _, _ => False)
  | _ :: _, _ => False
noncomputable def defK : Code → Nat → List (Nat × PV) → List (Nat × LB) → Prop
  | .seq (.region _ ops false) R, nt, env, lh => defO P T F w0 rs r R nt lh ops.toList env
  | _, _, _, _ => False
def earlyK : Exit → St → Prop
  | .ret, ⟨nt, env, lh⟩ => (match rvL T env lh rs with | some ps => FinK P ⟨nt, env, lh⟩ rs ps r | none => False)
  | _, _ => False
end
section
variable {P : Program} {T : TT} {F : Nat → Prop} {rs : List ResultVar} {r : PV}
theorem ret_fin {fn : Func} {w w' : World} {σ' : St} {a' : Act} {μ' : LMap} (hrs : fn.results = rs.toArray) (s' : SimM ⟨fun _ => False, F, [], []⟩ w σ' a' w' μ') (hret : Ret P rs σ' r) : ∃ v, (results fn a'.tmps).run P w' = .ok v w' ∧ Below w.heap.size w w' ∧ RepRes w w' F r v := by
  have hkeep : Below w.heap.size w w' := Keep.to_below s'.keep
  have hFo : ∀ g, F g → μ'.owns g := fun g hg => .inl (by rw [s'.F]; exact hg)
  have hrl : fn.results.toList = rs := by rw [hrs]
  rcases hret with ⟨ps, hrv, hfin, hno⟩ | ⟨t, id, rt, sz, ver, xs, hres, hg, hbk, hcl, rfl⟩ | ⟨t, rt, sz, hres, hg, rfl⟩
  · obtain ⟨y, hy, rep⟩ := run_results s' (fn := fn) (hrl ▸ hrv)
    refine ⟨y, hy, hkeep, ?_⟩
    have hrep : Rep w' (LMap.none F) r y := Fin'.rep s' hfin rep
    cases r <;> first | exact hrep | cases hno
  · have hrv : RVs P σ' fn.results.toList [.row id ver] := by rw [hrl, hres]; exact .cons (.tmp hg) .nil
    obtain ⟨y, hy, rep⟩ := run_results s' hrv
    obtain ⟨vs', hm, hown, rr, hl, h1⟩ := (row_parts s' hbk (p := .row id ver) (y := y)).1 rfl rep
    refine ⟨y, hy, hkeep, vs', hown, ?_, hl, h1⟩
    refine RepL.later (Later.fewer (fun g hg => ?_)) _ _ (RepL.shuts _ _ hcl rr)
    rcases hg with hg | hg
    · exact hFo g hg
    · exact .inr ⟨id, _, hm, hg⟩
  · have hrv : RVs P σ' fn.results.toList [.v (.slice none 0 0)] := by rw [hrl, hres]; exact .cons (.tmp hg) .nil
    obtain ⟨y, hy, rep⟩ := run_results s' hrv
    have e : y = .slice none 0 0 := rep
    subst e
    exact ⟨_, hy, hkeep, [], World.ownsRow_nil _ _ _ _, rfl, by simp, by simp⟩
theorem ret_of_fin {nt : Nat} {env : List (Nat × PV)} {lh : List (Nat × LB)} (h : match rvL T env lh rs with | some ps => FinK P ⟨nt, env, lh⟩ rs ps r | none => False) : Ret P rs ⟨nt, env, lh⟩ r := by
  split at h
  · exact h.h
  · exact h.elim
theorem RepL.of_look {w : World} {μ : LMap} : ∀ {ps : List PV} {vs : List Value}, ps.length = vs.length → (∀ (t : Nat) (p : PV), ps[t]? = some p → ∃ y, vs[t]? = some y ∧ Rep w μ p y) → RepL w μ ps vs
  | [], [], _, _ => rfl
  | p :: ps, v :: vs, hl, h => by
    obtain ⟨y, hy, ry⟩ := h 0 p rfl
    simp at hy
    subst hy
    exact ⟨v, vs, rfl, ry, RepL.of_look (by simpa using hl) fun t q hq => by simpa using h (t + 1) q (by simpa using hq)⟩
variable [tb : TabT P T]
theorem door_leaves {fn gfn : Func} {w w' : World} {g : FuncId} {gc : Code} {ps : List PV} {vs us : List Value} {σ' : St} {a' : Act} {μ' : LMap} (hrs : fn.results = rs.toArray)
    (hg : P.funcs[g]? = some gfn) (hent : Enters P g) (hgb : gfn.body = some gc) (hgn : Nat.ble ps.length gfn.ntmps = true) (hgr : gfn.results = #[]) (hlen : ps.length = (vs ++ us).length)
    (s' : SimM ⟨fun _ => False, F, [(envOf 0 ps, (vs ++ us).toArray)], [⟨.fn (.func g) us.toArray, vs.toArray⟩]⟩ w σ' a' w' μ')
    (k : ∀ tm : Array Value, GoR P ⟨fun _ => False, F, [(σ'.env, tm)], []⟩ w T (.next ⟨.code gc, gfn.ntmps, envOf 0 ps, σ'.lh, []⟩) (backK P T rs r σ'.nt σ'.env)) :
    Leaves P fn a'.tmps (fun e w' => ∃ y, e = .returned y ∧ Below w.heap.size w w' ∧ RepRes w w' F r y) a'.defers .returning w' := by
  rw [s'.defers]
  have hinv : (invoke (.fn (.func g) us.toArray) vs.toArray).run P w' = .ok (.enter g (vs ++ us).toArray) w' := by
    simp only [invoke]
    have := hent (vs.toArray ++ us.toArray) w'
    simpa using this
  refine leaves_cons (fun e => by cases e) hinv ?_
  have hrepl : RepL w' μ' ps (vs ++ us) := RepL.of_look hlen fun t p hp => by
    obtain ⟨y, hy, ry⟩ := s'.fr _ (List.mem_cons_self ..) t p (by rw [look_envOf, if_pos (Nat.zero_le _), Nat.sub_zero]; exact hp)
    exact ⟨y, by simpa using hy, ry⟩
  have hs1 : SimM ⟨fun _ => False, F, [], []⟩ w ⟨σ'.nt, σ'.env, σ'.lh⟩ { a' with defers := [] } w' μ' := ⟨s'.nt, rfl, s'.keep, s'.F, s'.hF, s'.hX, (fun e he => by cases he), s'.env, s'.blk, s'.dom, s'.apart, s'.fresh⟩
  have hs2 := hs1.enter hrepl hgn
  have hw := (PW.go (k a'.tmps)).run _ w' μ' hs2
  have hc := callsD_of_wp (u := .returning) (R := fun e w' => (∃ v, e = .returned v) ∧ Leaves P fn a'.tmps (fun e w' => ∃ y, e = .returned y ∧ Below w.heap.size w w' ∧ RepRes w w' F r y) [] .returning w') hg hgb (wp_mono hw (by
    rintro e a2 w2 ⟨σ2, μ2, hk, s2⟩
    have fin : Ret P rs ⟨σ'.nt, σ'.env, σ2.lh⟩ r → a2.defers = [] ∧ ∃ v, (results gfn a2.tmps).run P w2 = .ok v w2 ∧ (∃ v', Ending.returned v = .returned v') ∧ Leaves P fn a'.tmps (fun e w' => ∃ y, e = .returned y ∧ Below w.heap.size w w' ∧ RepRes w w' F r y) [] .returning w2 := by
      intro hret
      obtain ⟨y2, hy2, _⟩ := run_results (P := P) s2 (fn := gfn) (ps := []) (by rw [hgr]; exact .nil)
      refine ⟨s2.defers, y2, hy2, ⟨_, rfl⟩, ?_⟩
      · have s3 : SimM ⟨fun _ => False, F, [], []⟩ w ⟨σ'.nt, σ'.env, σ2.lh⟩ { a' with defers := [] } w2 μ2 := ⟨s'.nt, rfl, s2.keep, s2.F, s2.hF, s2.hX, (fun e he => by cases he), fun t p hp => s2.fr _ (List.mem_cons_self ..) t p hp, s2.blk, s2.dom, s2.apart, s2.fresh⟩
        obtain ⟨v, h1, h2, h3⟩ := ret_fin hrs s3 hret
        exact ⟨v, h1, v, rfl, h2, h3⟩
    obtain ⟨nt2, env2, lh2⟩ := σ2
    cases e with
    | ret => exact fin (ret_of_fin hk)
    | normal => exact fin (ret_of_fin hk)
    | exit _ => exact hk.elim
    | goto _ => exact hk.elim
    | panic _ => exact hk.elim
    | outgrown => exact hk.elim))
  refine hc.mono ?_
  rintro e u' w2 ⟨rfl, ⟨v, rfl⟩, hl⟩
  exact hl
theorem defO_wp {fn : Func} {w : World} {R : Code} {nt : Nat} {lh : List (Nat × LB)} (hrs : fn.results = rs.toArray) {ops : Array Oper} : ∀ (l : List Oper) (env : List (Nat × PV)) (a : Act) (w1 : World) (μ : LMap), defO P T F w rs r R nt lh l env → SimM ⟨fun _ => False, F, [], []⟩ w ⟨nt, env, lh⟩ a w1 μ →
    wpList P ops (Exit.then (R.wp P (bodyPostD P fn fun e w' => ∃ y, e = .returned y ∧ Below w.heap.size w w' ∧ RepRes w w' F r y)) (bodyPostD P fn fun e w' => ∃ y, e = .returned y ∧ Below w.heap.size w w' ∧ RepRes w w' F r y)) l a w1
  | [], _, _, _, _, h, _ => h.elim
  | ⟨some d, op, ty, pos, after, none⟩ :: l, env, a, w1, μ, h, s => by
    simp only [defO] at h
    cases hd : Nat.blt d nt with
    | false => rw [hd] at h; exact h.elim
    | true =>
      rw [hd, cond_true] at h
      split at h
      · rename_i p hp
        have hg := opS_good (ty := ty) (pos := pos) (after := after) (guard := none) (P := P) tb.ok (inB_some (env := env) (lh := lh) hd) op
        rw [hp] at hg
        refine wpList_plain rfl fun K' hK => ?_
        exact (hg.eff (newB_nil _)).run _ w a w1 μ K' _ s fun a' w' μ' s' => hK a' w' (defO_wp hrs l _ a' w' μ' h s')
      · exact h.elim
  | ⟨none, op, ty, pos, after, none⟩ :: l, env, a, w1, μ, h, s => by
    cases op with
    | defer c =>
      obtain ⟨callee, xs, ats⟩ := c
      simp only [defO] at h
      split at h
      · rename_i f
        split at h
        · rename_i g first caps hf
          split at h
          · rename_i ps hps
            obtain ⟨gfn, gc, gm, h1, h2, h3, rfl, h5, h6, h7⟩ := h
            have e1 := eval_tmp s (x := f) (p := .fn (.func g) first caps) (by rw [evE_eq]; exact hf)
            simp only [Rep] at e1
            obtain ⟨vs0, us, e1, r1, r2⟩ := e1
            have e2 := eval_list s (evL_eq (nt := nt) (lh := lh) hps)
            have hrun : (execOp a.eval ⟨none, .defer { callee := .value f, args := xs, argTypes := ats }, ty, pos, after, none⟩).run P w1 = .ok (.defer ⟨.fn (.func g) us.toArray, (vs0 ++ xs.toList.map a.eval).toArray⟩) w1 := by
              simp [execOp, resolve, e1, Deferred.ofValue]
            refine wpList_plain rfl fun K' hK => ?_
            unfold Oper.wp
            rw [hrun]
            refine hK _ _ (wpList_nil ?_)
            have ra := r1.append e2
            have rall := ra.append r2
            have hgo := h7 (vs0 ++ xs.toList.map a.eval) us
            have s2 : SimM ⟨fun _ => False, F, [(envOf 0 (first ++ ps ++ caps), ((vs0 ++ xs.toList.map a.eval) ++ us).toArray)], [⟨.fn (.func g) us.toArray, (vs0 ++ xs.toList.map a.eval).toArray⟩]⟩ w ⟨nt, env, lh⟩ { a with defers := ⟨.fn (.func g) us.toArray, (vs0 ++ xs.toList.map a.eval).toArray⟩ :: a.defers } w1 μ := by
              refine ⟨s.nt, ?_, s.keep, s.F, s.hF, s.hX, ?_, s.env, s.blk, s.dom, s.apart, s.fresh⟩
              · rw [s.defers]
              · intro e he t p hp
                rw [List.mem_singleton] at he
                subst he
                have hp' : look t (envOf 0 (first ++ ps ++ caps)) = some p := hp
                rw [look_envOf, if_pos (Nat.zero_le _), Nat.sub_zero] at hp'
                obtain ⟨y, hy, ry⟩ := rall.get t p hp'
                exact ⟨y, by simpa using hy, ry⟩
            refine wp_mono ((PW.go hgo).run _ w1 μ s2) ?_
            rintro e a' w' ⟨σ', μ', hk, s'⟩
            have hlen := rall.length
            obtain ⟨nt', env', lh'⟩ := σ'
            cases e with
            | ret => exact door_leaves hrs h1 h2 h3 h5 h6 hlen.symm s' hk
            | normal => exact door_leaves hrs h1 h2 h3 h5 h6 hlen.symm s' hk
            | exit _ => exact hk.elim
            | goto _ => exact hk.elim
            | panic _ => exact hk.elim
            | outgrown => exact hk.elim
          · exact h.elim
        · exact h.elim
      · exact h.elim
    | _ => exact h.elim
  | ⟨none, op, ty, pos, after, some _⟩ :: l, _, _, _, _, h, _ => by cases op <;> exact h.elim
  | ⟨some _, _, _, _, _, some _⟩ :: l, _, _, _, _, h, _ => h.elim
theorem Spec.ofD {f : FuncId} {fn : Func} {c : Code} {args : List PV} {m : Nat} (n : Nat) [hf : FnT P f fn] (hb : fn.body = some c := by rfl) (hnt : fn.ntmps = m := by rfl) (hrs : fn.results = rs.toArray := by rfl) (hn : Nat.ble args.length m = true := by rfl)
    (h : ∀ (F : Nat → Prop) (w0 : World), preK P ⟨fun _ => False, F, [], []⟩ w0 T n c (defK P T F w0 rs r) (earlyK P T rs r) .normal ⟨m, envOf 0 args, []⟩) : Spec P f args r := by
  subst hnt
  refine ⟨hf.ent, fun F w vs hF hv => ?_⟩
  rw [Nat.ble_eq] at hn
  have hvl := hv.length
  refine calls_of_wp_defers hf.hf hb ?_
  have s0 : SimM ⟨fun _ => False, F, [], []⟩ w ⟨fn.ntmps, envOf 0 args, []⟩ { tmps := vs.toArray ++ Array.replicate (fn.ntmps - vs.toArray.size) undef, defers := [] } w (LMap.none F) := by
    refine ⟨?_, rfl, Keep.refl _ _, rfl, hF, fun _ h => h.elim, (fun e he => by cases he), ?_, fun id b hb => (by cases hb), fun id l hl => (by cases hl), fun id id' l l' g h => (by cases h), fun id l g h => (by cases h)⟩
    · simp
      omega
    · intro t p hp
      have hp' : look t (envOf 0 args) = some p := hp
      rw [look_envOf, if_pos (Nat.zero_le _), Nat.sub_zero] at hp'
      obtain ⟨y, hy, r⟩ := hv.get t p hp'
      have ht : t < vs.length := (List.getElem?_eq_some_iff.1 hy).1
      refine ⟨y, ?_, r⟩
      rw [Array.getElem?_append_left (by simpa using ht)]
      simpa using hy
  refine preK_wp (T := T) (KD := defK P T F w rs r) (K := earlyK P T rs r) ?_ ?_ n c _ _ w _ (h F w) s0
  · intro c nt env lh a w1 μ hk s
    cases c with
    | seq x R =>
      cases x with
      | region id ops draw =>
        cases draw with
        | true => exact hk.elim
        | false =>
          refine wp_seq ?_
          have hl := defO_wp (ops := ops) hrs ops.toList env a w1 μ hk s
          have := wp_region_lit (id := id) (l := ops.toList) (by rw [Array.toArray_toList]; exact hl)
          rw [Array.toArray_toList] at this
          exact this
      | _ => exact hk.elim
    | _ => exact hk.elim
  · intro e σ a w1 μ he hk s
    obtain ⟨nt, env, lh⟩ := σ
    cases e with
    | ret =>
      obtain ⟨v, h1, h2, h3⟩ := ret_fin hrs s (ret_of_fin hk)
      show Leaves P fn a.tmps _ a.defers .returning w1
      rw [s.defers]
      exact ⟨v, h1, v, rfl, h2, h3⟩
    | normal => exact absurd rfl he
    | exit _ => exact hk.elim
    | goto _ => exact hk.elim
    | panic _ => exact hk.elim
    | outgrown => exact hk.elim
omit tb in
theorem DefG.go {w0 : World} {R : Code} {nt : Nat} {env : List (Nat × PV)} {lh : List (Nat × LB)} {g : FuncId} {ps caps : List PV} {gfn : Func} {gc : Code} {gm : Nat} [hf : FnT P g gfn] (hb : gfn.body = some gc := by rfl) (hnt : gfn.ntmps = gm := by rfl) (hn : Nat.ble (ps ++ caps).length gm = true := by rfl) (hr : gfn.results = #[] := by rfl)
    (h : ∀ vs us : List Value, GoR P ⟨fun _ => False, F, [(envOf 0 (ps ++ caps), (vs ++ us).toArray)], [⟨.fn (.func g) us.toArray, vs.toArray⟩]⟩ w0 T (.next ⟨.code R, nt, env, lh, []⟩) (doorK P T F w0 rs r (ps ++ caps) gc gm)) : DefG P T F w0 rs r R nt env lh g ps caps :=
  ⟨⟨gfn, gc, gm, hf.hf, hf.ent, hb, hnt, hn, hr, h⟩⟩
end
end Go.Proofs.YtbjepdfnmbdplaaGreat
namespace Go.Proofs.YtbjepdfnmbdplaaGreat
set_option linter.unusedSimpArgs false
set_option linter.unusedVariables false
set_option linter.unusedSectionVars false
open Go.RowKit
mutual
def PV.plain : PV → Bool
  | .v _ => true
  | .agg cs => plainL cs
  | .tup cs => plainL cs
  | _ => false
def plainL : List PV → Bool
  | [] => true
  | c :: cs => c.plain && plainL cs
end
mutual
theorem Rep.plain {w w' : World} {μ μ' : LMap} : ∀ (p : PV) (y : Value), p.plain = true → Rep w μ p y → Rep w' μ' p y
  | .v _, _, _, r => r
  | .agg cs, _, h, ⟨vs, e, r, h1⟩ => ⟨vs, e, RepL.plain cs vs (by simpa [PV.plain] using h) r, h1⟩
  | .tup cs, _, h, ⟨vs, e, r⟩ => ⟨vs, e, RepL.plain cs vs (by simpa [PV.plain] using h) r⟩
  | .any, _, h, _ => by cases h
  | .sl _ _, _, h, _ => by cases h
  | .ptr _, _, h, _ => by cases h
  | .lp _ _, _, h, _ => by cases h
  | .row _ _, _, h, _ => by cases h
  | .rp _ _ _ _ _, _, h, _ => by cases h
  | .own _ _ _, _, h, _ => by cases h
  | .fn _ _ _, _, h, _ => by cases h
  | .ifc _ _, _, h, _ => by cases h
  | .rs _ _ _ _ _, _, h, _ => by cases h
  | .mp _, _, h, _ => by cases h
  | .mo _, _, h, _ => by cases h
theorem RepL.plain {w w' : World} {μ μ' : LMap} : ∀ (cs : List PV) (vs : List Value), plainL cs = true → RepL w μ cs vs → RepL w' μ' cs vs
  | [], _, _, r => r
  | c :: cs, _, h, ⟨u, us, e, r1, r2⟩ => by
    simp only [plainL, Bool.and_eq_true] at h
    exact ⟨u, us, e, Rep.plain c u h.1 r1, RepL.plain cs us h.2 r2⟩
end
section
variable {P : Program} {X : XF} {w0 : World} {T : TT} {K : Exit → St → Prop} [tb : TabT P T]
theorem RW.callB {nt d : Nat} {env : List (Nat × PV)} {lh : List (Nat × LB)} {ops : Array Oper} {l : List Oper} {ty : TypeId} {pos : String} {after : Array Edge} {ats : Array TypeId} {K : St → Prop} {c : Operand} {g : FuncId} {first caps ps qs : List PV} {xs : Array Operand} {r : PV}
    (hc : evE env c = some (.fn (.func g) first caps)) (hx : evL env xs.toList = some ps) (hs : Spec P g qs r) (hb : FinL ⟨nt, env, lh⟩ (first ++ ps ++ caps) qs) (hr : r.plain = true) (hd : Nat.blt d nt = true) (k : RW P X w0 ops l ⟨nt, (d, r) :: env, lh⟩ K) :
    RW P X w0 ops (⟨some d, .call { callee := .value c, args := xs, argTypes := ats }, ty, pos, after, none⟩ :: l) ⟨nt, env, lh⟩ K := by
  refine ⟨fun Q hQ a w μ s => wpList_plain rfl fun K' hK => ?_⟩
  obtain ⟨vs, hv, hrun⟩ := run_call (dst := some d) (ty := ty) (pos := pos) (after := after) (guard := none) (ats := ats) s (by rw [evE_eq]; exact hc) (evL_eq hx) hs.enters
  rw [Array.toArray_toList] at hrun
  unfold Oper.wp
  rw [hrun]
  have hcl := hs.run X.F w vs (fun g hg => Nat.lt_of_lt_of_le (s.hF g hg) s.keep.size) (FinL.rep s hb hv)
  refine hcl.mono ?_
  rintro e w' ⟨y, rfl, hbl, hrr⟩
  have hno : r.noOwn = true := by cases r <;> first | rfl | cases hr
  exact hK _ _ (k.run Q hQ _ w' μ ((s.below hbl).put (d := some d) hd (Rep.plain r y hr (hrr.plain hno))))
theorem Stk.callB {g d : Nat} {A : PV → Option LB → StepR} {nt : Nat} {env : List (Nat × PV)} {lh : List (Nat × LB)} {fs : List Fr} {ty : TypeId} {pos : String} {after : Array Edge} {ats : Array TypeId} {ops : Array Oper} {l : List Oper} {c : Operand} {first caps ps args args' qs : List PV} {xs : Array Operand} {r : PV}
    (hs : HasSpec P g qs r) (hc : evE env c = some (.fn (.func g) first caps) := by rfl) (hx : evL env xs.toList = some ps := by rfl) (ha : capp first ps caps = args := by rfl) (hr : r.plain = true := by rfl) (hd : Nat.blt d nt = true := by rfl)
    (hb : FinL ⟨nt, env, lh⟩ args qs) (k : GoR P X w0 T (.next ⟨.ops ops l, nt, (d, r) :: env, lh, fs⟩) K) :
    Stk P X w0 T (.call g args' d A ⟨.ops ops (⟨some d, .call { callee := .value c, args := xs, argTypes := ats }, ty, pos, after, none⟩ :: l), nt, env, lh, fs⟩) K := by
  subst ha
  rw [capp_eq] at hb
  exact ⟨.inr (.inr (RW.callB hc hx hs.h hb hr hd (k.sem tb.ok tb.mixed)))⟩
end
section
variable {P : Program} {σ : St} {dst : Option Tmp} {ty : TypeId} {pos : String} {after : Array Edge} {guard : Option (Nat × Bool)}
theorem grown_refl (w : World) (g : Option Nat) : w.grownBy w g := ⟨rfl, rfl, rfl, Nat.le_refl _, fun _ _ _ => rfl⟩
theorem eff_cut_row {d t e sz id ver h : Nat} {rt : TypeId} {x : Operand} {hi : Option Operand} {xs : List (List PV)} [ht : SliceT P t e sz] (hx : σ.ev x = some (.row id ver)) (hb : σ.blk id = some (.row rt sz ver xs)) (hhi : Bnd σ hi xs.length h) (hh : h ≤ xs.length) (hne : xs ≠ []) (hd : inB σ (some d) = true) :
    OpEff P ⟨some d, .slice t x none hi none, ty, pos, after, guard⟩ σ ((σ.setB id (.row rt sz (ver + 1) (xs.take h))).put (some d) (.row id (ver + 1))) := by
  refine ⟨fun X w0 a w μ K Q s hK => ?_⟩
  obtain ⟨inf, hu, hf, hs⟩ := slice_parts ht.h
  have h1 := eval_tmp s hx
  obtain ⟨vs, hm, hown, r, hl, h3⟩ := (row_parts s hb (p := .row id ver) (y := a.eval x)).1 rfl h1
  have hpos : 0 < xs.length := Nat.pos_of_ne_zero fun h0 => hne (List.eq_nil_of_length_eq_zero h0)
  obtain ⟨g, cap, hv, hc1⟩ : ∃ g cap, a.eval x = .slice (some ⟨g, 0, none⟩) xs.length cap ∧ xs.length ≤ cap := by
    rcases hown.2 with ⟨_, h0⟩ | ⟨g, cap, cur, hv, _, _, hnc, _⟩
    · omega
    · exact ⟨g, cap, hv, hnc⟩
  have hbn := run_bounds (P := P) (w := w) (isS := true) (n := xs.length) (c := cap) (l := 0) (h := h) (lo := none) (hi := hi.map a.eval) (.inl ⟨rfl, rfl⟩) (hhi.val s (fun y _ q hq => hq)) (Nat.zero_le _) (by omega)
  have hrun : (execOp a.eval ⟨some d, .slice t x none hi none, ty, pos, after, guard⟩).run P w = .ok (.value (.slice (some ⟨g, 0, none⟩) h cap)) w := by
    simp [execOp, hv, Instr.sliceAt, run_underlying hu, Instr.slice, hbn, sizeOf, typeInfo, hf, hs, add_lit]
  rw [hv] at hown hm
  have hcut := own_cut hown hh
  have hvs : (vs.take (h * sz)) = vs.take (h * sz) := rfl
  have hlen : (xs.take h).length = h := by rw [List.length_take]; omega
  obtain ⟨hlat, sm'⟩ := s.regrow (v' := .slice (some ⟨g, 0, none⟩) h cap) hm hb (grown_refl w _) (.inl rfl) (by rw [hlen]; exact hcut) (fun hlat => by
    rw [take_flatten h hl hh]
    exact (RepL.later hlat _ _ r).take _) (fun e' he' => hl e' (List.mem_of_mem_take he')) (fun u hu => h3 u (List.mem_of_mem_take hu))
  unfold Oper.wp
  rw [hrun]
  refine hK _ _ _ (sm'.put (d := some d) hd ?_)
  simp only [Rep]
  exact ⟨_, ver + 1, LMap.set_eq _ _ _, Nat.le_refl _, rfl, fun _ => rfl⟩
theorem ok_part_row {t e sz id ver l h m : Nat} {rt : TypeId} {x : Operand} {lo hi : Option Operand} {mx : Option Operand} {xs : List (List PV)} [ht : SliceT P t e sz] (hx : σ.ev x = some (.row id ver)) (hb : σ.blk id = some (.row rt sz ver xs))
    (hbn : ∀ (X : XF) (w0 : World) (σ' : St) (a : Act) (w : World) (μ : LMap) (cap : Nat), (∀ y q, y ∈ (lo.toList ++ hi.toList ++ mx.toList) → σ.ev y = some q → σ'.ev y = some q) → SimM X w0 σ' a w μ → xs.length ≤ cap → ∃ m, (Instr.sliceBounds true xs.length cap (lo.map a.eval) (hi.map a.eval) (mx.map a.eval)).run P w = .ok (l, h, m) w ∧ h ≤ m ∧ m ≤ cap ∧ l < m) (hlh : l ≤ h) (hlx : l < xs.length) (hd : inB σ dst = true) :
    OpOK P ⟨dst, .slice t x lo hi mx, ty, pos, after, guard⟩ σ (.rs id ver sz l (h - l)) [] :=
  OpOK.val hd fun X w0 σ' a w μ hag s => by
    obtain ⟨inf, hu, hf, hs⟩ := slice_parts ht.h
    have h1 := eval_tmp s (hag.ev x (by simp [Op.operands]) _ hx)
    obtain ⟨vs, hm, hown, _⟩ := (row_parts s (hag.blk x (by simp [Op.operands]) _ id _ hx rfl hb) (p := .row id ver) (y := a.eval x)).1 rfl h1
    obtain ⟨g, cap, hv, hc1, hc2⟩ : ∃ g cap, a.eval x = .slice (some ⟨g, 0, none⟩) xs.length cap ∧ xs.length ≤ cap ∧ cap ≤ maxLen := by
      rcases hown.2 with ⟨_, h0⟩ | ⟨g, cap, cur, hv, _, _, hnc, hmx, _⟩
      · omega
      · exact ⟨g, cap, hv, hnc, hmx⟩
    obtain ⟨m, hrun, m1, m2, m3⟩ := hbn X w0 σ' a w μ cap (fun y q hy hq => hag.ev y (by
      simp only [Op.operands, Array.toList_append, Array.mem_toList_iff, List.mem_append] at hy ⊢
      rcases hy with (hy | hy) | hy <;> simp_all) q hq) s hc1
    have hne : ¬ m = l := by omega
    refine ⟨.slice (some ⟨g, l * sz, none⟩) (h - l) (m - l), ?_, _, ver, hm, Nat.le_refl _, rfl, fun _ => ⟨g, _, cap, m - l, hv, rfl, by omega, by omega⟩⟩
    simp [execOp, hv, Instr.sliceAt, run_underlying hu, Instr.slice, hrun, sizeOf, typeInfo, hf, hs, hne, add_lit]
theorem eff_clear_rs {t e sz id ver off len : Nat} {rt : TypeId} {x : Operand} {z : Value} {bytes : Nat} {xs : List (List PV)} [ht : SliceT P t e sz] [hz : ElemT P e z sz bytes] (hx : σ.ev x = some (.rs id ver sz off len)) (hb : σ.blk id = some (.row rt sz ver xs)) (hol : off + len = xs.length) (hl0 : 0 < len) (hsz : sz ≠ 0) (hzs : Nat.beq z.cells.size sz = true) (hz1 : z.cells.toList.all Value.oneCell' = true) :
    OpEff P ⟨none, .call { callee := .builtin .clear, args := #[x], argTypes := #[t] }, ty, pos, after, guard⟩ σ (σ.setB id (.row rt sz ver (xs.take off ++ List.replicate len (z.cells.toList.map PV.v)))) := by
  refine ⟨fun X w0 a w μ K Q s hK => ?_⟩
  obtain ⟨i, hu, hi, hsi⟩ := slice_parts ht.h
  obtain ⟨i', hi', hz0, hz1', hz2⟩ := info_parts hz.h
  rw [hi] at hi'
  injection hi' with hi'
  subst hi'
  have hzs' := Nat.eq_of_beq_eq_true hzs
  have h1 := eval_tmp s hx
  obtain ⟨y', vs, hm, hown, r, hl, h3⟩ := s.blk id _ hb
  simp only [Rep] at h1
  obtain ⟨zz, k, hzz, hv, _, he⟩ := h1
  rw [hm] at hzz
  injection hzz with hzz
  injection hzz with e1 e2
  subst e1 e2
  obtain ⟨g, n, c, c', ez, ey, hlc, hcm⟩ := he rfl
  have hn : n = xs.length := by
    rcases hown.2 with ⟨hv', h0⟩ | ⟨g', cap, cur, hv', _⟩
    · omega
    · rw [ez] at hv'; injection hv' with _ e4 _
  subst hn
  rw [ez] at hown hm
  have hzv : ∀ w, (zeroValue e).run P w = .ok z w := fun w => by simp [zeroValue, typeInfo, hi, hz0]
  have hz1L : ∀ u ∈ z.cells.toList, u.oneCell' = true := fun u hu => List.all_eq_true.1 hz1 u hu
  have hlenv := hown.1
  have hfit : off * sz + len * sz = xs.length * sz := by rw [← Nat.add_mul, hol]
  have hsome : ∀ j, j < len * z.cells.size → (w.cell? ⟨g, off * sz + j, none⟩).isSome = true := by
    intro j hj
    rw [hzs'] at hj
    rw [hown.cellAt _ (by omega), Option.isSome_iff_ne_none, ne_eq, List.getElem?_eq_none_iff]
    omega
  have hcl := run_clear_row (P := P) w t e ty z hu hzv hz1L g (off * sz) len c' hl0 hsome (fun j _ => hown.frozenAt _)
  have hlenz : (Builtin.zeroCells z.cells len).toList.length = len * sz := by rw [Array.length_toList, size_zeroCells, hzs']
  have hzc : (Builtin.zeroCells z.cells len).toList = (List.replicate len z.cells.toList).flatten := zero_range (by omega)
  have hput := own_put (Builtin.zeroCells z.cells len).toList (off * sz) _ _ hown
  have hlater : Later w μ (w.setCells g (off * sz) (Builtin.zeroCells z.cells len).toList) μ :=
    ⟨fun ad u hc ho => ⟨by
      have hne : ad.block ≠ g := fun e => ho (.inr ⟨id, _, hm, by rw [e]; rfl⟩)
      rw [World.cell?_of_block (heap_setCells_other g _ _ w ad.block hne)]
      exact hc, ho⟩, fun _ _ h => h, fun _ z k h => ⟨z, k, h, Nat.le_refl _, fun _ => rfl⟩, fun gm es c hgm ho => ⟨(heap_setCells_other g _ _ w gm (fun e => ho (.inr ⟨id, _, hm, by rw [e]; rfl⟩))).trans hgm, ho⟩⟩
  have hput2 : putAll vs (off * sz) (Builtin.zeroCells z.cells len).toList = vs.take (off * sz) ++ (Builtin.zeroCells z.cells len).toList := by
    have hspl : vs = vs.take (off * sz) ++ vs.drop (off * sz) := (List.take_append_drop _ _).symm
    have hlt : (vs.take (off * sz)).length = off * sz := by rw [List.length_take]; omega
    conv => lhs; rw [hspl]
    have := putAll_append (vs.take (off * sz)) (Builtin.zeroCells z.cells len).toList (vs.drop (off * sz)) 0
    rw [hlt, Nat.add_zero] at this
    rw [this]
    have h0 := putAll_zero (Builtin.zeroCells z.cells len).toList (vs.drop (off * sz)) [] (by rw [List.length_drop]; omega)
    rw [List.append_nil, List.append_nil] at h0
    rw [h0]
  have hbk : BlkOK w0 (w.setCells g (off * sz) (Builtin.zeroCells z.cells len).toList) μ id (.row rt sz ver (xs.take off ++ List.replicate len (z.cells.toList.map PV.v))) := by
    refine ⟨_, vs.take (off * sz) ++ (Builtin.zeroCells z.cells len).toList, hm, ?_, ?_, ?_, ?_⟩
    · rw [← hput2, List.length_append, List.length_take, List.length_replicate, show min off xs.length + len = xs.length from by omega]
      exact hput
    · refine RepL.later hlater _ _ ?_
      rw [List.flatten_append, take_flatten off hl (by omega), hzc]
      exact (r.take _).append (zeroPV_rep (z := z.cells))
    · intro e' he'
      rcases List.mem_append.1 he' with h | h
      · exact hl e' (List.mem_of_mem_take h)
      · rw [(List.mem_replicate.1 h).2, List.length_map, Array.length_toList, hzs']
    · intro u hu
      rcases List.mem_append.1 hu with h | h
      · exact h3 u (List.mem_of_mem_take h)
      · exact zeroCells_one z len hz1L u h
  have he' : (execOp a.eval ⟨none, .call { callee := .builtin .clear, args := #[x], argTypes := #[t] }, ty, pos, after, guard⟩).run P w = .ok (.value (.tuple #[])) (w.setCells g (off * sz) (Builtin.zeroCells z.cells len).toList) := by
    simp [execOp, resolve, invoke, builtin, ey, hcl]
  unfold Oper.wp
  rw [he']
  exact hK _ _ μ (s.write hm rfl hbk (fun _ => trivial))
theorem ok_buildA {d t n e sz : Nat} {parts : Array (Nat × Operand)} {ps : List (Nat × PV)} {zs : List Value} {cs : List PV} [h : ArrT P t n e sz] [hz : ZeroT P t zs] (hps : σ.evP parts.toList = some ps := by rfl) (hcs : fillP (fun i => some (i * sz, sz)) (zs.map PV.v) ps = some cs := by rfl) (h1 : zs.all Value.oneCell' = true := by rfl) (hd : inB σ (some d) = true := by rfl) :
    OpOK P ⟨some d, .build t parts, ty, pos, after, guard⟩ σ (.agg cs) [] :=
  OpOK.val hd fun X w0 σ' a w μ hag s => by
    obtain ⟨i, z, hi, hzz, hzs⟩ := zero_parts hz.h
    obtain ⟨e1, e2⟩ := evP_spec (σ := σ) s (fun x hx q hq => hag.ev x (by simpa [Op.operands] using hx) q hq) hps
    have hzl : RepL w μ (zs.map PV.v) z.cells.toList := by rw [hzs]; exact RepL.of_lits zs
    obtain ⟨rv, g1, g2, g3⟩ := fill_of e1 e2 hzl (by rw [hzs]; exact fun u hu => List.all_eq_true.1 h1 u hu) hcs
    refine ⟨.agg rv, ?_, rv.toList, by simp, g2, g3⟩
    obtain ⟨inf, hu, hf, hs⟩ := arr_parts h.h
    have g1' : Instr.fill (fun i => some (i * sz, sz)) z.cells (List.map (fun x => (x.fst, a.eval x.snd)) parts.toList) = some rv := by simpa using g1
    simp [execOp, Instr.build, zeroValue, typeInfo, hi, hzz, run_underlying hu, sizeOf, hf, hs, g1']
end
end Go.Proofs.YtbjepdfnmbdplaaGreat
namespace Go.Proofs.YtbjepdfnmbdplaaGreat
set_option linter.unusedSimpArgs false
set_option linter.unusedVariables false
set_option linter.unusedSectionVars false
open Go.RowKit Go.MapKept
section
variable {es : Array MapEntry} {clk : Nat} {m : List (Int × Int)}
end
class MapT (P : Program) (t : TypeId) (kt et : outParam TypeId) : Prop where
  h1 : P.underlying t = some (.map kt et)
  h2 : P.underlying kt = some (.int .i64)
  h3 : (P.info? et).map (·.zero) = some (some (.int .i64 0))
section
variable {P : Program} {w : World} {g : Nat} {es : Array MapEntry} {clk : Nat} {m : List (Int × Int)} {t kt et : TypeId}
end
section
variable {P : Program} {σ : St} {dst : Option Tmp} {ty : TypeId} {pos : String} {after : Array Edge} {guard : Option (Nat × Bool)} {t kt et : TypeId}
theorem ok_makeMap {d : Nat} {t : TypeId} (hd : inB σ (some d) = true) : OpOK P ⟨some d, .makeMap t none, ty, pos, after, guard⟩ σ (.mo d) [(d, .mp [])] :=
  OpOK.new rfl hd fun X w0 σ' a w μ hag s => by
    refine ⟨.map (some w.heap.size), w.alloc (.map #[] 0), .box w.heap.size, ?_, below_alloc w _, fun g hg => by injection hg with hg; subst hg; simp, fun hlat => ⟨⟨w.heap.size, #[], 0, LMap.set_eq _ _ _, heap_alloc_new w _, rfl, stamped_empty 0⟩, ?_⟩⟩
    · simp [execOp, Instr.makeMap]
    · simp only [Rep]; exact ⟨w.heap.size, LMap.set_eq _ _ _, rfl⟩
theorem SimM.relay {X : XF} {w0 w w' : World} {a : Act} {μ : LMap} (h : SimM X w0 σ a w μ) {id g : Nat} {l : LI} (hm : μ.m id = some l) (hg : l.block = some g) (hb : w.grownBy w' (some g)) {b' : LB} (hbk : Later w μ w' μ → BlkOK w0 w' μ id b') :
    Later w μ w' μ ∧ SimM X w0 (σ.setB id b') a w' μ := by
  have hne : ∀ k, ¬ μ.owns k → k < w.heap.size → w'.heap[k]? = w.heap[k]? := fun k ho hk => hb.block k hk (fun e => ho (.inr ⟨id, l, hm, by rw [hg, ← e]⟩))
  have hlater : Later w μ w' μ :=
    ⟨fun ad u hc ho => ⟨by rw [World.cell?_of_block (hne ad.block ho (World.block_lt_of_cell? _ _ hc))]; exact hc, ho⟩, fun _ _ h => h, fun _ z k h => ⟨z, k, h, Nat.le_refl _, fun _ => rfl⟩, fun gm es c hgm ho => ⟨(hne gm ho (Array.getElem?_eq_some_iff.1 hgm).1).trans hgm, ho⟩⟩
  refine ⟨hlater, h.nt, h.defers, ?_, h.F, h.hF, h.hX, h.fr.later hlater, ?_, ?_, ?_, h.apart, ?_⟩
  · refine ⟨hb.os.trans h.keep.os, hb.tape.trans h.keep.tape, hb.output.trans h.keep.output, Nat.le_trans h.keep.size hb.size, fun k hk hx => ?_⟩
    rw [hb.block k (Nat.lt_of_lt_of_le hk h.keep.size) (fun e => by
      injection e with e
      subst e
      rcases (h.fresh id l k hm hg).2 with h3 | h3
      · omega
      · exact hx h3)]
    exact h.keep.block k hk hx
  · intro t p hp
    obtain ⟨y, hy, r⟩ := h.env t p hp
    exact ⟨y, hy, Rep.later hlater p y r⟩
  · intro j bk hj
    rw [blk_setB] at hj
    by_cases e : j = id
    · subst e
      rw [if_pos rfl] at hj
      injection hj with hj
      subst hj
      exact hbk hlater
    · rw [if_neg e] at hj
      exact (h.blk j bk hj).later hlater (fun _ h => h) fun l' g' hl' hg' => hb.block g' (h.fresh j l' g' hl' hg').1 (fun e' => e (h.apart j id _ _ g hl' hm (by injection e' with e'; rw [← e']; exact hg') hg))
  · intro j l' hj
    rw [blk_setB]
    by_cases e : j = id
    · exact ⟨b', by rw [if_pos e]⟩
    · rw [if_neg e]; exact h.dom j l' hj
  · intro j l' g' hj hg'
    obtain ⟨h1, h2⟩ := h.fresh j l' g' hj hg'
    exact ⟨Nat.lt_of_lt_of_le h1 hb.size, h2⟩
theorem grown_set {w : World} {g : Nat} (o : Obj) : w.grownBy { w with heap := w.heap.setIfInBounds g o } (some g) :=
  ⟨rfl, rfl, rfl, by simp, fun k hk hne => by
    have : ¬ g = k := fun e => hne (by rw [e])
    simp [this]⟩
end
section
variable {P : Program} {X : XF} {w0 : World}
variable {T : TT} {K : Exit → St → Prop} [tb : TabT P T]
def scopeK (P : Program) (X : XF) (w0 : World) (T : TT) (fs : List Fr) (K : Exit → St → Prop) : Exit → St → Prop
  | .normal, ⟨nt, env, lh⟩ => GoR P X w0 T (.next ⟨.ex .normal, nt, env, lh, fs⟩) K
  | .ret, ⟨nt, env, lh⟩ => GoR P X w0 T (.next ⟨.ex .ret, nt, env, lh, fs⟩) K
  | .exit j, ⟨nt, env, lh⟩ => GoR P X w0 T (.next ⟨.ex (.exit j), nt, env, lh, fs⟩) K
  | _, _ => False
theorem Stk.scope {c : Code} {nt : Nat} {env : List (Nat × PV)} {lh : List (Nat × LB)} {fs : List Fr} (h : GoR P X w0 T (.next ⟨.code c, nt, env, lh, []⟩) (scopeK P X w0 T fs K)) : Stk P X w0 T (.stop ⟨.code (.scope c), nt, env, lh, fs⟩) K := by
  have h1 : PW P X w0 c ⟨nt, env, lh⟩ (scopeK P X w0 T fs K) := h.sem tb.ok tb.mixed
  refine ⟨(⟨fun a w μ s => wp_scope_straight (wp_mono (h1.run a w μ s) ?_)⟩ : PW P X w0 (.scope c) ⟨nt, env, lh⟩ (frK P X w0 fs K))⟩
  rintro e a' w' ⟨⟨nt', env', lh'⟩, μ', k, s'⟩
  cases e with
  | normal => exact ⟨_, μ', GoR.sem tb.ok tb.mixed k, s'⟩
  | ret => exact ⟨_, μ', GoR.sem tb.ok tb.mixed k, s'⟩
  | exit j => exact ⟨_, μ', GoR.sem tb.ok tb.mixed k, s'⟩
  | goto l => exact k.elim
  | panic _ => exact k.elim
  | outgrown => exact k.elim
end
end Go.Proofs.YtbjepdfnmbdplaaGreat
namespace Go.Proofs.YtbjepdfnmbdplaaGreat
set_option linter.unusedSimpArgs false
set_option linter.unusedVariables false
set_option linter.unusedSectionVars false
open Go.RowKit
section
variable {P : Program} {σ : St} {dst : Option Tmp} {ty : TypeId} {pos : String} {after : Array Edge} {guard : Option (Nat × Bool)}
theorem ok_part_lo {t e sz id ver : Nat} {rt : TypeId} {x y : Operand} {k : IntKind} {i : Int} {xs : List (List PV)} [ht : SliceT P t e sz] (hx : σ.ev x = some (.row id ver)) (hb : σ.blk id = some (.row rt sz ver xs)) (hy : σ.ev y = some (.v (.int k i))) (h0 : 0 ≤ i) (hi : i.toNat < xs.length) (hd : inB σ dst = true) :
    OpOK P ⟨dst, .slice t x (some y) none none, ty, pos, after, guard⟩ σ (.rs id ver sz i.toNat (xs.length - i.toNat)) [] :=
  ok_part_row (m := 0) hx hb (fun X w0 σ' a w μ cap hag s hc => ⟨cap, by
    have h1 := eval_v s (hag y _ (by simp) hy)
    have := run_bounds (P := P) (w := w) (n := xs.length) (c := cap) (lo := some (.int k i)) (hi := none) (isS := true) (.inr ⟨k, i, rfl, h0, rfl⟩) (.inl ⟨rfl, rfl⟩) (Nat.le_of_lt hi) hc
    simpa [h1] using this, hc, Nat.le_refl _, Nat.lt_of_lt_of_le hi hc⟩) (Nat.le_of_lt hi) hi hd
variable {α : Type} {f : α → List PV} {l : List α}
theorem ok_ix_row {t e sz id ver : Nat} {rt : TypeId} {x ix : Operand} {k : IntKind} {i : Nat} [h : SliceT P t e sz] (hx : σ.ev x = some (.row id ver)) (hb : σ.blk id = some (.row rt sz ver (l.map f))) (hi : σ.ev ix = some (.v (.int k (i : Nat)))) (hl : i < l.length) (hd : inB σ dst = true) :
    OpOK P ⟨dst, .indexAddr t x ix, ty, pos, after, guard⟩ σ (.rp id ver sz i 0) [] := by
  have := ok_indexAddr_row (P := P) (σ := σ) (dst := dst) (ty := ty) (pos := pos) (after := after) (guard := guard) (t := t) (x := x) (ix := ix) (k := k) (i := (i : Int)) hx hb hi (Int.natCast_nonneg _) (by simpa using hl) hd
  simpa using this
theorem ok_ld_row {t sz id ver i : Nat} {rt : TypeId} {x : Operand} [ht : TySz P t true sz] (hf : ∀ a, (f a).length = sz) (hx : σ.ev x = some (.rp id ver sz i 0)) (hb : σ.blk id = some (.row rt sz ver (l.map f))) (hl : i < l.length) (hd : inB σ dst = true) :
    OpOK P ⟨dst, .load t x, ty, pos, after, guard⟩ σ (.agg (f l[i])) [] := by
  have := ok_loadN_rp (P := P) (σ := σ) (dst := dst) (ty := ty) (pos := pos) (after := after) (guard := guard) (t := t) (x := x) (n := sz) (e := f l[i]) hx hb (by simp [hl]) (by rw [hf]; omega) hd
  rwa [List.drop_zero, List.take_of_length_le (by rw [hf]; exact Nat.le_refl _)] at this
theorem eff_st_row {t sz id ver i : Nat} {rt : TypeId} {x v : Operand} {a : α} [ht : TySz P t true sz] (hf : ∀ a, (f a).length = sz) (hx : σ.ev x = some (.rp id ver sz i 0)) (hb : σ.blk id = some (.row rt sz ver (l.map f))) (hl : i < l.length) (hv : σ.ev v = some (.agg (f a))) :
    OpEff P ⟨none, .store t x v, ty, pos, after, guard⟩ σ (σ.setB id (.row rt sz ver ((l.set i a).map f))) := by
  have := eff_store_rp (P := P) (σ := σ) (ty := ty) (pos := pos) (after := after) (guard := guard) (t := t) (x := x) (v := v) (n := sz) (e := f l[i]) (p := .agg (f a)) hx hb (by simp [hl]) hv rfl (by simp [PV.cells, hf]) (by simp)
  have e1 : (l.map f).set i (putL (f l[i]) 0 (PV.agg (f a)).cells) = (l.set i a).map f := by
    have h2 := putL_full (f a) (f l[i]) [] (by rw [hf, hf])
    try simp only [List.append_nil] at h2
    rw [List.map_set]
    congr 1
  rw [e1] at this
  exact this
theorem eff_cut_map {d t e sz id ver i : Nat} {rt : TypeId} {x y : Operand} {k : IntKind} {rest : List (List PV)} [ht : SliceT P t e sz] (hx : σ.ev x = some (.row id ver)) (hb : σ.blk id = some (.row rt sz ver ((l.map f).take i ++ rest))) (hy : σ.ev y = some (.v (.int k (i : Nat)))) (hl : i ≤ l.length) (hne : (l.map f).take i ++ rest ≠ []) (hd : inB σ (some d) = true) :
    OpEff P ⟨some d, .slice t x none (some y) none, ty, pos, after, guard⟩ σ ((σ.setB id (.row rt sz (ver + 1) ((l.take i).map f))).put (some d) (.row id (ver + 1))) := by
  have := eff_cut_row (P := P) (σ := σ) (ty := ty) (pos := pos) (after := after) (guard := guard) (t := t) (x := x) (hi := some y) (h := i) (d := d) hx hb (by have := Bnd.lit (σ := σ) (d := ((l.map f).take i ++ rest).length) hy (Int.natCast_nonneg _); simpa using this) (by simp; omega) hne hd
  rw [List.take_append_of_le_length (by simp; omega), List.take_take, Nat.min_self, ← List.map_take] at this
  exact this
end
end Go.Proofs.YtbjepdfnmbdplaaGreat
namespace Go.Proofs.YtbjepdfnmbdplaaGreat
set_option linter.unusedSimpArgs false
set_option linter.unusedVariables false
set_option linter.unusedSectionVars false
open Go.RowKit
section
variable {P : Program} {σ : St} {dst : Option Tmp} {ty : TypeId} {pos : String} {after : Array Edge} {guard : Option (Nat × Bool)}
end
section
variable {P : Program} {X : XF} {w0 : World} {T : TT} [tb : TabT P T] {K : Exit → St → Prop}
theorem PW.monoW {K1 K2 : Exit → St → Prop} {c : Code} {σ : St} (h : PW P X w0 c σ K1) (hk : ∀ e σ', K1 e σ' → ∃ σ'', Weak X w0 σ' σ'' ∧ K2 e σ'') : PW P X w0 c σ K2 := ⟨fun a w μ s => wp_mono (h.run a w μ s) (by
  rintro e a' w' ⟨σ', μ', k, s'⟩
  obtain ⟨σ'', hw, k2⟩ := hk e σ' k
  obtain ⟨μ'', s''⟩ := hw.run a' w' μ' s'
  exact ⟨σ'', μ'', k2, s''⟩)⟩
def loopWK (P : Program) (X : XF) (w0 : World) (T : TT) (N : Nat → List (Nat × PV) → List (Nat × LB) → Prop) (fs : List Fr) (K : Exit → St → Prop) : Exit → St → Prop
  | .normal, ⟨nt, env, lh⟩ => N nt env lh
  | .ret, ⟨nt, env, lh⟩ => ∃ env' lh', Weak X w0 ⟨nt, env, lh⟩ ⟨nt, env', lh'⟩ ∧ GoR P X w0 T (.next ⟨.ex .ret, nt, env', lh', fs⟩) K
  | .exit j, ⟨nt, env, lh⟩ => ∃ env' lh', Weak X w0 ⟨nt, env, lh⟩ ⟨nt, env', lh'⟩ ∧ GoR P X w0 T (.next ⟨.ex (.exit j), nt, env', lh', fs⟩) K
  | _, _ => False
theorem Stk.loopW {ι : Type} (E : ι → List (Nat × PV)) (L : ι → List (Nat × LB)) (ok : ι → Prop) (m : ι → Nat) (i0 : ι) {c : Code} {nt : Nat} {env : List (Nat × PV)} {lh : List (Nat × LB)} {fs : List Fr} (h0 : ok i0) (hw : Weak X w0 ⟨nt, env, lh⟩ ⟨nt, E i0, L i0⟩)
    (round : ∀ i, ok i → GoR P X w0 T (.next ⟨.code c, nt, E i, L i, []⟩) (loopWK P X w0 T (fun nt' env' lh' => ∃ i', ok i' ∧ m i' < m i ∧ Weak X w0 ⟨nt', env', lh'⟩ ⟨nt, E i', L i'⟩) fs K)) : Stk P X w0 T (.stop ⟨.code (.loop c), nt, env, lh, fs⟩) K :=
  ⟨PW.loop (fun i => ⟨nt, E i, L i⟩) ok m i0 h0 hw fun i hi => (PW.ofG (round i hi)).monoW fun e σ k => by
    obtain ⟨nt', env', lh'⟩ := σ
    cases e with
    | normal => exact ⟨_, Weak.refl _ _ _, .n k⟩
    | ret => obtain ⟨e2, l2, hw2, g⟩ := k; exact ⟨_, hw2, .r (GoR.sem tb.ok tb.mixed g)⟩
    | exit j => obtain ⟨e2, l2, hw2, g⟩ := k; exact ⟨_, hw2, .x (GoR.sem tb.ok tb.mixed g)⟩
    | goto l => exact k.elim
    | panic _ => exact k.elim
    | outgrown => exact k.elim⟩
end
end Go.Proofs.YtbjepdfnmbdplaaGreat
namespace Go.Proofs.YtbjepdfnmbdplaaGreat
set_option linter.unusedSimpArgs false
set_option linter.unusedVariables false
set_option linter.unusedSectionVars false
open Go.RowKit
section
variable {P : Program} {X : XF} {w0 : World} {T : TT} {K : Exit → St → Prop} [tb : TabT P T]
theorem Q.a {r1 r2 : StepR} (h : GoR P X w0 T r1 K) : Stk P X w0 T (.br true r1 r2) K := Stk.yes h
theorem Q.b {cs : List PV} {k : Nat} {p : PV} {C : PV → StepR} (h : GoR P X w0 T (C p) K) (hp : cs[k]? = some p := by rfl) : Stk P X w0 T (.ld cs k C) K := Stk.ld hp h
theorem Q.c {r1 r2 : StepR} (h : GoR P X w0 T r2 K) : Stk P X w0 T (.br false r1 r2) K := Stk.no h
theorem Q.d {z : Int} {C : Int → StepR} (h : GoR P X w0 T (C z) K) (h1 : -9223372036854775808 ≤ z := by omega) (h2 : z ≤ 9223372036854775807 := by omega) : Stk P X w0 T (.wrap .i64 z C) K := Stk.wrap h1 h2 h
theorem Q.e {z : Int} {C : Int → StepR} (h : GoR P X w0 T (C z) K) (h1 : 0 ≤ z := by omega) (h2 : z ≤ 18446744073709551615 := by omega) : Stk P X w0 T (.wrap .u64 z C) K := Stk.wrapU h1 h2 h
theorem Q.f {α : Type} {f : α → List PV} {l : List α} {n : Nat} {C : List (List PV) → StepR} (k : GoR P X w0 T (C ((l.take n).map f)) K) (hn : n ≤ l.length := by omega) : Stk P X w0 T (.cut (l.map f) none (some (n : Int)) C) K := Stk.cutT hn k
theorem Q.g {α : Type} {f : α → List PV} {l : List α} {n : Nat} {C : List (List PV) → StepR} (k : GoR P X w0 T (C ((l.drop n).map f)) K) (hn : n ≤ l.length := by omega) : Stk P X w0 T (.cut (l.map f) (some (n : Int)) none C) K := Stk.cutD hn k
theorem Q.h {t : Nat} {a b c d : Int} {C : Bool → StepR} [hE : EqT P t 2] (h : GoR P X w0 T (C (tst ([a, b] = [c, d]))) K) : Stk P X w0 T (.eqs t false [.v (.int .i64 a), .v (.int .i64 b)] [.v (.int .i64 c), .v (.int .i64 d)] C) K := Stk.eqsE [_, _] [_, _] rfl rfl rfl rfl h
theorem Q.i {t : Nat} {a b c d : Int} {C : Bool → StepR} [hE : EqT P t 2] (h : GoR P X w0 T (C (!tst ([a, b] = [c, d]))) K) : Stk P X w0 T (.eqs t true [.v (.int .i64 a), .v (.int .i64 b)] [.v (.int .i64 c), .v (.int .i64 d)] C) K := Stk.eqsN [_, _] [_, _] rfl rfl rfl rfl h
theorem Q.j {t : Nat} {a b c a' b' c' : Int} {C : Bool → StepR} [hE : EqT P t 3] (h : GoR P X w0 T (C (tst ([a, b, c] = [a', b', c']))) K) : Stk P X w0 T (.eqs t false [.v (.int .i64 a), .v (.int .i64 b), .v (.int .i64 c)] [.v (.int .i64 a'), .v (.int .i64 b'), .v (.int .i64 c')] C) K := Stk.eqsE [_, _, _] [_, _, _] rfl rfl rfl rfl h
theorem Q.k {t : Nat} {a b c a' b' c' : Int} {C : Bool → StepR} [hE : EqT P t 3] (h : GoR P X w0 T (C (!tst ([a, b, c] = [a', b', c']))) K) : Stk P X w0 T (.eqs t true [.v (.int .i64 a), .v (.int .i64 b), .v (.int .i64 c)] [.v (.int .i64 a'), .v (.int .i64 b'), .v (.int .i64 c')] C) K := Stk.eqsN [_, _, _] [_, _, _] rfl rfl rfl rfl h
theorem Q.l {t : Nat} {a b c d e f a' b' c' d' e' f' : Int} {C : Bool → StepR} [hE : EqT P t 6] (h : GoR P X w0 T (C (tst ([a, b, c, d, e, f] = [a', b', c', d', e', f']))) K) : Stk P X w0 T (.eqs t false [.v (.int .i64 a), .v (.int .i64 b), .v (.int .i64 c), .v (.int .i64 d), .v (.int .i64 e), .v (.int .i64 f)] [.v (.int .i64 a'), .v (.int .i64 b'), .v (.int .i64 c'), .v (.int .i64 d'), .v (.int .i64 e'), .v (.int .i64 f')] C) K := Stk.eqsE [_, _, _, _, _, _] [_, _, _, _, _, _] rfl rfl rfl rfl h
theorem Q.m {t : Nat} {a b c d e f a' b' c' d' e' f' : Int} {C : Bool → StepR} [hE : EqT P t 6] (h : GoR P X w0 T (C (!tst ([a, b, c, d, e, f] = [a', b', c', d', e', f']))) K) : Stk P X w0 T (.eqs t true [.v (.int .i64 a), .v (.int .i64 b), .v (.int .i64 c), .v (.int .i64 d), .v (.int .i64 e), .v (.int .i64 f)] [.v (.int .i64 a'), .v (.int .i64 b'), .v (.int .i64 c'), .v (.int .i64 d'), .v (.int .i64 e'), .v (.int .i64 f')] C) K := Stk.eqsN [_, _, _, _, _, _] [_, _, _, _, _, _] rfl rfl rfl rfl h
theorem Q.n {α : Type} {f : α → List PV} {l : List α} {C : Int → StepR} (h : GoR P X w0 T (C (l.length : Int)) K) : Stk P X w0 T (.len (l.map f) C) K := Stk.len h
theorem Q.o {α : Type} {f : α → List PV} {l : List α} {n : Nat} {C : List PV → StepR} (hn : n < l.length := by omega) (h : GoR P X w0 T (C (f (l[n]'hn))) K) : Stk P X w0 T (.ix (l.map f) (n : Int) C) K := Stk.ixN hn h
theorem Q.p {α : Type} {f : α → List PV} {l : List α} {i : Int} {C : List PV → StepR} (h0 : 0 ≤ i := by omega) (hn : i.toNat < l.length := by omega) (h : GoR P X w0 T (C (f (l[i.toNat]'hn))) K) : Stk P X w0 T (.ix (l.map f) i C) K := Stk.ixI h0 hn h
theorem Q.q {xs : List (List PV)} {i : Int} {C : List PV → StepR} {c : List PV} (h : GoR P X w0 T (C c) K) (h0 : 0 ≤ i := by decide) (hc : xs[i.toNat]? = some c := by rfl) : Stk P X w0 T (.ix xs i C) K := Stk.ix c h0 hc h
theorem Q.r {a b : Int} {C : Int → StepR} (h : GoR P X w0 T (C (a / b)) K) (h0 : 0 ≤ a := by omega) (hb : 0 < b := by omega) (h2 : a ≤ 9223372036854775807 := by omega) : Stk P X w0 T (.div false .i64 a b C) K := Stk.quo h0 hb h2 h
theorem Q.s {k : IntKind} {a b : Int} {C : Int → StepR} (h : GoR P X w0 T (C (a % b)) K) (h0 : 0 ≤ a := by omega) (hb : 0 < b := by omega) : Stk P X w0 T (.div true k a b C) K := Stk.rem h0 hb h
theorem Q.t {q : Prop} {r : StepR} (h : GoR P X w0 T r K) (hq : q := by first | kernel_rfl | omega) : Stk P X w0 T (.need q r) K := Stk.need hq h
theorem Q.u {cs : List PV} {n : Nat} {i : Int} {C : PV → StepR} {p : PV} (h : GoR P X w0 T (C p) K) (h0 : 0 ≤ i := by omega) (h1 : i < n := by omega) (hc : cs[i.toNat]? = some p := by rfl) : Stk P X w0 T (.ar cs n i C) K := Stk.ar p h0 h1 hc h
theorem Q.x {r : Bool} {k : IntKind} {a b : Int} {C : Int → StepR} (h : GoR P X w0 T (C (bif r then a.tmod b else k.wrap (a.tdiv b))) K) (hb : b ≠ 0 := by decide) : Stk P X w0 T (.div r k a b C) K := Stk.divA hb h
theorem Q.y {xs : List (List PV)} {C : Int → StepR} (h : GoR P X w0 T (C (xs.length : Int)) K) : Stk P X w0 T (.len xs C) K := Stk.lenA h
theorem Q.z {k : IntKind} {z : Int} {C : Int → StepR} (h : GoR P X w0 T (C (k.wrap z)) K) : Stk P X w0 T (.wrap k z C) K := Stk.wrapA h
section
variable {d g : Nat} {A : PV → Option LB → StepR} {M0 : Mc}
theorem Q.v {args : List PV} {r : PV} [hs : HasSpec P g args r] (h : GoR P X w0 T (A r none) K) (hc : closedL args = true := by rfl) (hn : r.noOwn = true := by rfl) : Stk P X w0 T (.call g args d A M0) K := Stk.call hc hn h
theorem Q.w {args : List PV} {rt sz : Nat} {ys : List (List PV)} [hs : HasSpecO P g args rt sz ys] (h : GoR P X w0 T (A (.row d 0) (some (.row rt sz 0 ys))) K) (hc : closedL args = true := by rfl) : Stk P X w0 T (.call g args d A M0) K := Stk.callO hc h
end
theorem Q.app {σ : St} {ty : TypeId} {pos : String} {after : Array Edge} {d t e sz bytes id ver : Nat} {z : Value} {s x : Operand} {xs ys : List (List PV)} [h : SliceT P t e sz] [hz : ElemT P e z sz bytes] (hs : σ.ev s = some (.row id ver) := by rfl) (hb : σ.blk id = some (.row e sz ver xs) := by rfl) (hx : σ.ev x = some (.sl sz ys) := by rfl) (hzs : Nat.beq z.cells.size sz = true := by rfl) (hsz : sz ≠ 0 := by decide) (h63 : xs.length + ys.length ≤ maxLen := by simp [maxLen, -Nat.not_le] <;> omega) (hby : (xs.length + ys.length) * bytes ≤ 140737488355328 := by simp <;> omega) (hd : inB σ (some d) = true := by rfl) :
    OpEff P ⟨some d, .call { callee := .builtin .append, args := #[s, x], argTypes := #[t, t] }, ty, pos, after, none⟩ σ ((σ.setB id (.row e sz (ver + 1) (xs ++ ys))).put (some d) (.row id (ver + 1))) := eff_append hs hb hx hzs hsz h63 hby hd
end
section
variable {σ : St}
theorem Q.f3 {id rt sz ver : Nat} {xs : List (List PV)} (hb : σ.blk id = some (.row rt sz ver xs) := by rfl) (hc : xs.all closedL = true := by first | rfl | exact all_map_closed (fun _ => rfl) _ | (rw [List.all_append, all_map_closed (fun _ => rfl)]; rfl) | (simp [closedL, PV.closed]; done)) : Fin' σ (.row id ver) (.sl sz xs) := Fin'.row hb hc
theorem Q.f4 {p : PV} (h : p.closed = true := by rfl) : Fin' σ p p := Fin'.sub h (.refl _)
theorem Q.f5 {sz : Nat} : Fin' σ (.v (.slice none 0 0)) (.sl sz []) := Fin'.sub rfl (.nil _)
theorem Q.f6 {p : PV} (h : p.closed = true := by first | exact all_map_closed (fun _ => rfl) _ | (rw [List.all_append, all_map_closed (fun _ => rfl)]; rfl) | (simp [closedL, PV.closed]; done)) : Fin' σ p p := Fin'.sub h (.refl _)
end
def TT.noEz : TT → TT
  | .e => .e
  | .n v l r => .n (v.map fun x => ⟨x.ag, x.sz, x.kind, x.zero, none⟩) l.noEz r.noEz
theorem TT.noEz_ok {P : Program} : ∀ {T : TT} {f : Nat → Nat}, T.Ok P f → T.noEz.Ok P f
  | .e, _, _ => trivial
  | .n v l r, f, h => by
    obtain ⟨h1, h2, h3⟩ := h
    refine ⟨fun i hi => ?_, TT.noEz_ok h2, TT.noEz_ok h3⟩
    cases v with
    | none => cases hi
    | some x =>
      injection hi with hi
      subst hi
      have := h1 x rfl
      exact ⟨this.ty, this.kind, this.zero, trivial⟩
theorem TabT.noEz {P : Program} {T : TT} (h : TabT P T) : TabT P T.noEz := ⟨TT.noEz_ok h.ok, h.mixed⟩
section
variable {P : Program} {X : XF} {w0 : World} {T T' : TT} {K : Exit → St → Prop}
theorem Stk.reC (tb' : TabT P T') {g d : Nat} {args : List PV} {A : PV → Option LB → StepR} {M : Mc} (k : GoR P X w0 T' (.next M) K) : Stk P X w0 T (.call g args d A M) K := ⟨.inr (.inr (k.sem tb'.ok tb'.mixed))⟩
end
end Go.Proofs.YtbjepdfnmbdplaaGreat
end
section
namespace Go.Proofs.YtbjepdfnmbdplaaGreat
set_option linter.unusedSimpArgs false
set_option linter.unusedVariables false
set_option linter.unusedSectionVars false
open Go.RowKit
section
variable {P : Program} {X : XF} {w0 : World} {T : TT} {K : Exit → St → Prop} [tb : TabT P T]
def Red (P : Program) (X : XF) (w0 : World) (T : TT) (r r' : StepR) : Prop := ∀ K : Exit → St → Prop, GoR P X w0 T r' K → Stk P X w0 T r K
theorem Qs.a {r1 r2 : StepR} : Red P X w0 T (.br true r1 r2) r1 := fun _ hh => Q.a (h := hh)
theorem Qs.b {cs : List PV} {k : Nat} {p : PV} {C : PV → StepR} (hp : cs[k]? = some p := by rfl) : Red P X w0 T (.ld cs k C) (C p) := fun _ hh => Q.b (h := hh) (hp := hp)
theorem Qs.c {r1 r2 : StepR} : Red P X w0 T (.br false r1 r2) r2 := fun _ hh => Q.c (h := hh)
theorem Qs.d {z : Int} {C : Int → StepR} (h1 : -9223372036854775808 ≤ z := by omega) (h2 : z ≤ 9223372036854775807 := by omega) : Red P X w0 T (.wrap .i64 z C) (C z) := fun _ hh => Q.d (h := hh) (h1 := h1) (h2 := h2)
theorem Qs.e {z : Int} {C : Int → StepR} (h1 : 0 ≤ z := by omega) (h2 : z ≤ 18446744073709551615 := by omega) : Red P X w0 T (.wrap .u64 z C) (C z) := fun _ hh => Q.e (h := hh) (h1 := h1) (h2 := h2)
theorem Qs.f {α : Type} {f : α → List PV} {l : List α} {n : Nat} {C : List (List PV) → StepR} (hn : n ≤ l.length := by omega) : Red P X w0 T (.cut (l.map f) none (some (n : Int)) C) (C ((l.take n).map f)) := fun _ hh => Q.f (k := hh) (hn := hn)
theorem Qs.g {α : Type} {f : α → List PV} {l : List α} {n : Nat} {C : List (List PV) → StepR} (hn : n ≤ l.length := by omega) : Red P X w0 T (.cut (l.map f) (some (n : Int)) none C) (C ((l.drop n).map f)) := fun _ hh => Q.g (k := hh) (hn := hn)
theorem Qs.h {t : Nat} {a b c d : Int} {C : Bool → StepR} [hE : EqT P t 2] : Red P X w0 T (.eqs t false [.v (.int .i64 a), .v (.int .i64 b)] [.v (.int .i64 c), .v (.int .i64 d)] C) (C (tst ([a, b] = [c, d]))) := fun _ hh => Q.h (h := hh)
theorem Qs.i {t : Nat} {a b c d : Int} {C : Bool → StepR} [hE : EqT P t 2] : Red P X w0 T (.eqs t true [.v (.int .i64 a), .v (.int .i64 b)] [.v (.int .i64 c), .v (.int .i64 d)] C) (C (!tst ([a, b] = [c, d]))) := fun _ hh => Q.i (h := hh)
theorem Qs.j {t : Nat} {a b c a' b' c' : Int} {C : Bool → StepR} [hE : EqT P t 3] : Red P X w0 T (.eqs t false [.v (.int .i64 a), .v (.int .i64 b), .v (.int .i64 c)] [.v (.int .i64 a'), .v (.int .i64 b'), .v (.int .i64 c')] C) (C (tst ([a, b, c] = [a', b', c']))) := fun _ hh => Q.j (h := hh)
theorem Qs.k {t : Nat} {a b c a' b' c' : Int} {C : Bool → StepR} [hE : EqT P t 3] : Red P X w0 T (.eqs t true [.v (.int .i64 a), .v (.int .i64 b), .v (.int .i64 c)] [.v (.int .i64 a'), .v (.int .i64 b'), .v (.int .i64 c')] C) (C (!tst ([a, b, c] = [a', b', c']))) := fun _ hh => Q.k (h := hh)
theorem Qs.l {t : Nat} {a b c d e f a' b' c' d' e' f' : Int} {C : Bool → StepR} [hE : EqT P t 6] : Red P X w0 T (.eqs t false [.v (.int .i64 a), .v (.int .i64 b), .v (.int .i64 c), .v (.int .i64 d), .v (.int .i64 e), .v (.int .i64 f)] [.v (.int .i64 a'), .v (.int .i64 b'), .v (.int .i64 c'), .v (.int .i64 d'), .v (.int .i64 e'), .v (.int .i64 f')] C) (C (tst ([a, b, c, d, e, f] = [a', b', c', d', e', f']))) := fun _ hh => Q.l (h := hh)
theorem Qs.m {t : Nat} {a b c d e f a' b' c' d' e' f' : Int} {C : Bool → StepR} [hE : EqT P t 6] : Red P X w0 T (.eqs t true [.v (.int .i64 a), .v (.int .i64 b), .v (.int .i64 c), .v (.int .i64 d), .v (.int .i64 e), .v (.int .i64 f)] [.v (.int .i64 a'), .v (.int .i64 b'), .v (.int .i64 c'), .v (.int .i64 d'), .v (.int .i64 e'), .v (.int .i64 f')] C) (C (!tst ([a, b, c, d, e, f] = [a', b', c', d', e', f']))) := fun _ hh => Q.m (h := hh)
theorem Qs.n {α : Type} {f : α → List PV} {l : List α} {C : Int → StepR} : Red P X w0 T (.len (l.map f) C) (C (l.length : Int)) := fun _ hh => Q.n (h := hh)
theorem Qs.o {α : Type} {f : α → List PV} {l : List α} {n : Nat} {C : List PV → StepR} (hn : n < l.length := by omega) : Red P X w0 T (.ix (l.map f) (n : Int) C) (C (f (l[n]'hn))) := fun _ hh => Q.o (h := hh) (hn := hn)
theorem Qs.p {α : Type} {f : α → List PV} {l : List α} {i : Int} {C : List PV → StepR} (h0 : 0 ≤ i := by omega) (hn : i.toNat < l.length := by omega) : Red P X w0 T (.ix (l.map f) i C) (C (f (l[i.toNat]'hn))) := fun _ hh => Q.p (h := hh) (h0 := h0) (hn := hn)
theorem Qs.q {xs : List (List PV)} {i : Int} {C : List PV → StepR} {c : List PV} (h0 : 0 ≤ i := by decide) (hc : xs[i.toNat]? = some c := by rfl) : Red P X w0 T (.ix xs i C) (C c) := fun _ hh => Q.q (h := hh) (h0 := h0) (hc := hc)
theorem Qs.r {a b : Int} {C : Int → StepR} (h0 : 0 ≤ a := by omega) (hb : 0 < b := by omega) (h2 : a ≤ 9223372036854775807 := by omega) : Red P X w0 T (.div false .i64 a b C) (C (a / b)) := fun _ hh => Q.r (h := hh) (h0 := h0) (hb := hb) (h2 := h2)
theorem Qs.s {k : IntKind} {a b : Int} {C : Int → StepR} (h0 : 0 ≤ a := by omega) (hb : 0 < b := by omega) : Red P X w0 T (.div true k a b C) (C (a % b)) := fun _ hh => Q.s (h := hh) (h0 := h0) (hb := hb)
theorem Qs.t {q : Prop} {r : StepR} (hq : q := by first | kernel_rfl | omega) : Red P X w0 T (.need q r) r := fun _ hh => Q.t (h := hh) (hq := hq)
theorem Qs.u {cs : List PV} {n : Nat} {i : Int} {C : PV → StepR} {p : PV} (h0 : 0 ≤ i := by omega) (h1 : i < n := by omega) (hc : cs[i.toNat]? = some p := by rfl) : Red P X w0 T (.ar cs n i C) (C p) := fun _ hh => Q.u (h := hh) (h0 := h0) (h1 := h1) (hc := hc)
theorem Qs.x {r : Bool} {k : IntKind} {a b : Int} {C : Int → StepR} (hb : b ≠ 0 := by decide) : Red P X w0 T (.div r k a b C) (C (bif r then a.tmod b else k.wrap (a.tdiv b))) := fun _ hh => Q.x (h := hh) (hb := hb)
theorem Qs.y {xs : List (List PV)} {C : Int → StepR} : Red P X w0 T (.len xs C) (C (xs.length : Int)) := fun _ hh => Q.y (h := hh)
theorem Qs.z {k : IntKind} {z : Int} {C : Int → StepR} : Red P X w0 T (.wrap k z C) (C (k.wrap z)) := fun _ hh => Q.z (h := hh)
section
variable {d g : Nat} {A : PV → Option LB → StepR} {M0 : Mc}
theorem Qs.v {args : List PV} {r : PV} [hs : HasSpec P g args r] (hc : closedL args = true := by rfl) (hn : r.noOwn = true := by rfl) : Red P X w0 T (.call g args d A M0) (A r none) := fun _ hh => Q.v (h := hh) (hc := hc) (hn := hn)
theorem Qs.w {args : List PV} {rt sz : Nat} {ys : List (List PV)} [hs : HasSpecO P g args rt sz ys] (hc : closedL args = true := by rfl) : Red P X w0 T (.call g args d A M0) (A (.row d 0) (some (.row rt sz 0 ys))) := fun _ hh => Q.w (h := hh) (hc := hc)
end
theorem Qs.is {b : Bool} {r1 r2 : StepR} (e : b = true) : Red P X w0 T (.br b r1 r2) r1 := fun _ h => Stk.is e h
theorem Qs.isnt {b : Bool} {r1 r2 : StepR} (e : b = false) : Red P X w0 T (.br b r1 r2) r2 := fun _ h => Stk.isnt e h
end
theorem Q.N {P : Program} {X : XF} {w0 : World} {T : TT} {K : Exit → St → Prop} [tb : TabT P T] {r r' : StepR} (h : GoR P X w0 T r' K) (e : Red P X w0 T r r' := by first | exact Qs.a | exact Qs.b | exact Qs.c | exact Qs.d | exact Qs.e | exact Qs.f | exact Qs.g | exact Qs.h | exact Qs.i | exact Qs.j | exact Qs.k | exact Qs.l | exact Qs.m | exact Qs.n | exact Qs.o | exact Qs.p | exact Qs.q | exact Qs.r | exact Qs.s | exact Qs.t | exact Qs.u | exact Qs.x | exact Qs.y | exact Qs.z | exact Qs.v | exact Qs.w) : Stk P X w0 T r K := e K h
end Go.Proofs.YtbjepdfnmbdplaaGreat
end
section
namespace Go.Proofs.YtbjepdfnmbdplaaGreat
theorem Q.r6 {P : Program} {σ : St} {rs : List ResultVar} {ps : List PV} {r : PV} {T : TT} [tb : TabT P T] (hv : rvL T σ.env σ.lh rs = some ps := by rfl) (hr : r.noOwn = true := by rfl) (h : Fin' σ (oneOr ps) r) : FinK P σ rs ps r := FinK.of hv hr h
theorem Q.r7 {σ : St} {p q : PV} (h : Fin' σ p q := by first | exact Q.f3 | exact Q.f4 | exact Q.f5 | exact Q.f6) : Fin' σ p q := h
theorem Q.r0 {σ : St} : FinL σ [] [] := FinL.nil
theorem Q.r1 {σ : St} {c d : PV} {cs ds : List PV} (h : Fin' σ c d) (k : FinL σ cs ds) : FinL σ (c :: cs) (d :: ds) := FinL.cons h k
theorem Q.r2 {σ : St} {cs ds : List PV} (h : FinL σ cs ds) : Fin' σ (.tup cs) (.tup ds) := Fin'.tup h
theorem Q.r3 {σ : St} {a b : Bool} (h : a = b) : Fin' σ (.v (.bool a)) (.v (.bool b)) := Fin'.vb h
theorem Q.r4 {σ : St} {k : IntKind} {a b : Int} (h : a = b) : Fin' σ (.v (.int k a)) (.v (.int k b)) := Fin'.vi h
theorem Q.r5 {σ : St} {cs ds : List PV} (h : FinL σ cs ds) : Fin' σ (.agg cs) (.agg ds) := Fin'.agg h
end Go.Proofs.YtbjepdfnmbdplaaGreat
end
section
namespace Go.Proofs.YtbjepdfnmbdplaaGreat
set_option linter.unusedSimpArgs false
set_option linter.unusedVariables false
set_option linter.unusedSectionVars false
open Go.RowKit
def manyB (n : Int) : Bool := decide (3 ≤ n ∧ n ≤ 9)
def mayB (set : Int) : Bool := decide (0 ≤ set ∧ set ≤ 511)
def replB (r : Int) : Bool := decide (1 ≤ r ∧ r ≤ 9)
theorem replB_iff {r : Int} : replB r = true ↔ 1 ≤ r ∧ r ≤ 9 := by unfold replB; exact decide_eq_true_iff
theorem mayB_iff {r : Int} : mayB r = true ↔ 0 ≤ r ∧ r ≤ 511 := by unfold mayB; exact decide_eq_true_iff
theorem manyB_iff {r : Int} : manyB r = true ↔ 3 ≤ r ∧ r ≤ 9 := by unfold manyB; exact decide_eq_true_iff
def sizeB (n f : Int) : Bool := manyB n && decide (1 ≤ f ∧ f ≤ (n - 1) / 2)
theorem sizeB_iff {n f : Int} : sizeB n f = true ↔ 3 ≤ n ∧ n ≤ 9 ∧ 1 ≤ f ∧ 2 * f ≤ n - 1 := by
  unfold sizeB
  rw [Bool.and_eq_true, manyB_iff, decide_eq_true_iff]
  omega
theorem sizeB_not {n f : Int} : sizeB n f = false ↔ ¬ (3 ≤ n ∧ n ≤ 9 ∧ 1 ≤ f ∧ 2 * f ≤ n - 1) := by
  rw [← sizeB_iff]; cases sizeB n f <;> simp
theorem errI_t {b : Bool} {x : Int} (h : b = true) : errI b x = 0 := by rw [h]; rfl
theorem errI_f {b : Bool} {x : Int} (h : b = false) : errI b x = x := by rw [h]; rfl
theorem errI2 {b : Bool} : errI b 2 = 0 ↔ b = true := by cases b <;> simp [errI]
theorem errI2' {b : Bool} : 0 = errI b 2 ↔ b = true := by cases b <;> simp [errI]
theorem sizeB_m {n f : Int} (h : manyB n = false) : sizeB n f = false := by unfold sizeB; rw [h]; rfl
def ics (x : Int) : List PV := [.v (.int .i64 x)]
abbrev PV.int (x : Int) : PV := .v (.int .i64 x)
abbrev PV.ints (l : List Int) : PV := .sl 1 (l.map ics)
theorem lB : (∀ n : Int, (manyB n = true) = (3 ≤ n ∧ n ≤ 9)) ∧ (∀ n : Int, (mayB n = true) = (0 ≤ n ∧ n ≤ 511)) ∧ (∀ n : Int, (replB n = true) = (1 ≤ n ∧ n ≤ 9)) ∧ (∀ n f : Int, (sizeB n f = true) = (3 ≤ n ∧ n ≤ 9 ∧ 1 ≤ f ∧ 2 * f ≤ n - 1)) ∧ (∀ n f : Int, (sizeB n f = false) = ¬ (3 ≤ n ∧ n ≤ 9 ∧ 1 ≤ f ∧ 2 * f ≤ n - 1)) ∧ (∀ b : Bool, (errI b 2 = 0) = (b = true)) ∧ (∀ b : Bool, (0 = errI b 2) = (b = true)) :=
  ⟨fun _ => propext manyB_iff, fun _ => propext mayB_iff, fun _ => propext replB_iff, fun _ _ => propext sizeB_iff, fun _ _ => propext sizeB_not, fun _ => propext errI2, fun _ => propext errI2'⟩
theorem lC : ((∀ n : Int, (manyB n = true) = (3 ≤ n ∧ n ≤ 9)) ∧ (∀ n : Int, (mayB n = true) = (0 ≤ n ∧ n ≤ 511)) ∧ (∀ n : Int, (replB n = true) = (1 ≤ n ∧ n ≤ 9)) ∧ (∀ n f : Int, (sizeB n f = true) = (3 ≤ n ∧ n ≤ 9 ∧ 1 ≤ f ∧ 2 * f ≤ n - 1)) ∧ (∀ n f : Int, (sizeB n f = false) = ¬ (3 ≤ n ∧ n ≤ 9 ∧ 1 ≤ f ∧ 2 * f ≤ n - 1)) ∧ (∀ b : Bool, (errI b 2 = 0) = (b = true)) ∧ (∀ b : Bool, (0 = errI b 2) = (b = true))) ∧ ((∀ p : Prop, (tst p = true) = p) ∧ (∀ p : Prop, (tst p = false) = ¬ p) ∧ (∀ b : Bool, ((!b) = true) = (b = false)) ∧ (∀ b : Bool, ((!b) = false) = (b = true)) ∧ (∀ a b : Int, (¬ a < b) = (b ≤ a)) ∧ (∀ a b : Int, (¬ a ≤ b) = (b < a)) ∧ (∀ (α : Type) (f : α → List PV) (l : List α), (l.map f).length = l.length) ∧ ((!true) = false) ∧ ((!false) = true) ∧ ((true = false) = False) ∧ ((false = true) = False) ∧ ((¬ True) = False) ∧ ((¬ False) = True) ∧ (∀ p : Prop, (p ∧ True) = p) ∧ (∀ p : Prop, (True ∧ p) = p) ∧ (∀ p : Prop, (p ∧ False) = False) ∧ (∀ p : Prop, (False ∧ p) = False) ∧ (∀ b : Bool, (b == b) = true) ∧ (∀ h : Decidable True, @decide True h = true) ∧ (∀ h : Decidable False, @decide False h = false)) := ⟨lB, sB⟩
def bitB (set r : Int) : Bool := decide (set / 2 ^ (r - 1).toNat % 2 = 1)
def hasB (set r : Int) : Bool := mayB set && (replB r && bitB set r)
theorem ofInt_i64 (a : Nat) (_ha : a < 9223372036854775808) : (BitVec.ofInt 64 (a : Int)).toNat = a := by
  rw [BitVec.ofInt_natCast, BitVec.toNat_ofNat]; exact Nat.mod_eq_of_lt (by omega)
theorem i64_and_nat (a b : Nat) (ha : a < 9223372036854775808) (hb : b < 9223372036854775808) : bitI .and .i64 (a : Int) (b : Int) = ((a &&& b : Nat) : Int) := by
  have hx : a &&& b < 2 ^ 63 := Nat.and_lt_two_pow _ (by omega)
  show IntKind.i64.wrap ((BitVec.ofInt 64 (a : Int) &&& BitVec.ofInt 64 (b : Int)).toNat : Int) = _
  rw [BitVec.toNat_and, ofInt_i64 a ha, ofInt_i64 b hb, IntKind.wrap_i64]
  omega
theorem i64_or_nat (a b : Nat) (ha : a < 9223372036854775808) (hb : b < 9223372036854775808) : bitI .or .i64 (a : Int) (b : Int) = ((a ||| b : Nat) : Int) := by
  have hx : a ||| b < 2 ^ 63 := Nat.or_lt_two_pow (by omega) (by omega)
  show IntKind.i64.wrap ((BitVec.ofInt 64 (a : Int) ||| BitVec.ofInt 64 (b : Int)).toNat : Int) = _
  rw [BitVec.toNat_or, ofInt_i64 a ha, ofInt_i64 b hb, IntKind.wrap_i64]
  omega
theorem and_one (a : Int) (h0 : 0 ≤ a) (h1 : a ≤ 1000000) : bitI .and .i64 a 1 = a % 2 := by
  obtain ⟨n, rfl⟩ := Int.eq_ofNat_of_zero_le h0
  have h := i64_and_nat n 1 (by omega) (by omega)
  rw [show ((1 : Nat) : Int) = 1 from rfl] at h
  rw [h, Nat.and_one_is_mod]
  omega
theorem shr_bit (set r : Int) (h0 : 0 ≤ set) (h1 : set ≤ 511) (hr : 1 ≤ r) (hr' : r ≤ 9) : bitI .and .i64 (set.fdiv (2 ^ (min (r - 1).toNat IntKind.i64.bits))) 1 = set / 2 ^ (r - 1).toNat % 2 := by
  obtain ⟨n, hn⟩ : ∃ n : Nat, (r - 1).toNat = n := ⟨_, rfl⟩
  have hle : n ≤ 8 := by omega
  have hb : IntKind.i64.bits = 64 := rfl
  rw [hn, hb, show min n 64 = n from by omega, Int.fdiv_eq_ediv_of_nonneg _ (Int.le_of_lt (Int.pow_pos (by decide)))]
  have h2 : (0 : Int) ≤ set / 2 ^ n := Int.ediv_nonneg h0 (Int.le_of_lt (Int.pow_pos (by decide)))
  have h3 : set / 2 ^ n ≤ set := Int.ediv_le_self _ h0
  exact and_one _ h2 (by omega)
theorem shl_bit (r : Int) (hr : 1 ≤ r) (hr' : r ≤ 9) : IntKind.i64.wrap (1 * 2 ^ (min (r - 1).toNat IntKind.i64.bits)) = ((2 ^ (r - 1).toNat : Nat) : Int) := by
  obtain ⟨n, hn⟩ : ∃ n : Nat, (r - 1).toNat = n := ⟨_, rfl⟩
  have hle : n ≤ 8 := by omega
  have hb : IntKind.i64.bits = 64 := rfl
  rw [hn, hb, show min n 64 = n from by omega]
  have : n = 0 ∨ n = 1 ∨ n = 2 ∨ n = 3 ∨ n = 4 ∨ n = 5 ∨ n = 6 ∨ n = 7 ∨ n = 8 := by omega
  rcases this with rfl | rfl | rfl | rfl | rfl | rfl | rfl | rfl | rfl <;> decide
def orN (l : List Int) : Nat := l.foldl (fun m r => if replB r then m ||| 2 ^ (r - 1).toNat else m) 0
theorem orN_snoc (l : List Int) (r : Int) : orN (l ++ [r]) = if replB r then orN l ||| 2 ^ (r - 1).toNat else orN l := by unfold orN; rw [List.foldl_append]; rfl
theorem orN_lt (l : List Int) : orN l < 512 := by
  unfold orN
  have : ∀ (l : List Int) (m : Nat), m < 512 → l.foldl (fun m r => if replB r then m ||| 2 ^ (r - 1).toNat else m) m < 512 := by
    intro l
    induction l with
    | nil => intro m h; exact h
    | cons r l ih =>
      intro m h
      rw [List.foldl_cons]
      refine ih _ ?_
      split
      · rename_i hr
        have := replB_iff.1 hr
        exact Nat.or_lt_two_pow (n := 9) (by omega) (Nat.pow_lt_pow_right (by decide) (by omega))
      · exact h
  exact this l 0 (by decide)
theorem or_step (n : Nat) (hn : n < 512) (r : Int) (hr : 1 ≤ r) (hr' : r ≤ 9) : bitI .or .i64 (n : Int) (IntKind.i64.wrap (1 * 2 ^ (min (r - 1).toNat IntKind.i64.bits))) = ((n ||| 2 ^ (r - 1).toNat : Nat) : Int) := by
  rw [shl_bit r hr hr']
  have : 2 ^ (r - 1).toNat < 2 ^ 9 := Nat.pow_lt_pow_right (by decide) (by omega)
  exact i64_or_nat n _ (by omega) (by omega)
theorem take_snoc' {α : Type} (l : List α) (k : Nat) (h : k < l.length) : l.take (k + 1) = l.take k ++ [l[k]] := List.take_succ_eq_append_getElem h
def listS (set : Int) (n : Nat) : List Int := (List.map (fun (i : Nat) => (i : Int) + 1) (List.range n)).filter (hasB set)
theorem listS_succ (set : Int) (n : Nat) : listS set (n + 1) = if hasB set ((n : Int) + 1) then listS set n ++ [(n : Int) + 1] else listS set n := by
  unfold listS
  rw [List.range_succ, List.map_append, List.filter_append]
  simp only [List.map_cons, List.map_nil, List.filter_cons, List.filter_nil]
  split <;> simp
theorem listS_len (set : Int) (n : Nat) : (listS set n).length ≤ n := by
  unfold listS
  refine Nat.le_trans (List.length_filter_le _ _) (by simp)
theorem listS_no {set : Int} (h : mayB set = false) (n : Nat) : listS set n = [] := by
  unfold listS
  rw [List.filter_eq_nil_iff]
  intro a _
  unfold hasB
  rw [h]
  simp
theorem orN_one {r : Int} (hr : 1 ≤ r) (hr' : r ≤ 9) : orN [r] = 2 ^ (r - 1).toNat := by
  have := orN_snoc [] r
  rw [List.nil_append] at this
  rw [this, if_pos (replB_iff.2 ⟨hr, hr'⟩)]
  show 0 ||| _ = _
  rw [Nat.zero_or]
theorem or_more (l : List Int) (r : Int) (hr : 1 ≤ r) (hr' : r ≤ 9) : bitI .or .i64 (orN l : Nat) (orN [r] : Nat) = (orN (l ++ [r]) : Nat) := by
  rw [orN_snoc, if_pos (replB_iff.2 ⟨hr, hr'⟩), orN_one hr hr']
  have h1 := orN_lt l
  have : 2 ^ (r - 1).toNat < 2 ^ 9 := Nat.pow_lt_pow_right (by decide) (by omega)
  exact i64_or_nat _ _ (by omega) (by omega)
end Go.Proofs.YtbjepdfnmbdplaaGreat
end
section
namespace Go.Proofs.YtbjepdfnmbdplaaGreat
set_option linter.unusedSimpArgs false
set_option linter.unusedVariables false
set_option linter.unusedSectionVars false
open Go.RowKit
set_option maxRecDepth 100000
set_option maxHeartbeats 1000000
instance many_spec (n : Int) : HasSpec Tryz.prog 222 [PV.int n] (.v (.bool (manyB n))) := by
  refine ⟨?_⟩; refine Spec.ofR (h := fun F w0 => ?_)
  repeat' ((conv => whnf); first | refine Q.N ?_ | (refine Stk.both (fun hb => ?_) (fun hb => ?_) <;> (try simp only [lC] at hb) <;> (try (exfalso; omega)))); all_goals (conv => whnf)
  all_goals ((refine Q.r6 (h := ?_); repeat' (first | exact Q.r0 | refine Q.r1 ?_ ?_ | refine Q.r2 ?_ | exact Q.r7 | refine Q.r3 ?_ | refine Q.r4 ?_ | refine Q.r5 ?_)))
  all_goals ((first | rfl | (rw [Bool.eq_iff_iff]; simp only [tst_true, tst_false, manyB, decide_eq_true_eq, decide_eq_false_iff_not, Bool.and_eq_true, Bool.or_eq_true, Bool.not_eq_true', Bool.not_eq_false', Bool.false_eq_true, Bool.true_eq_false, true_iff, iff_true, false_iff, iff_false, true_and, and_true, false_and, and_false, not_false_eq_true, not_true_eq_false]; try omega)))
instance sizemay_spec (n : Int) : HasSpec Tryz.prog 95 [PV.int n] (.v (.bool (mayB n))) := by
  refine ⟨?_⟩; refine Spec.ofR (h := fun F w0 => ?_)
  repeat' ((conv => whnf); first | refine Q.N ?_ | (refine Stk.both (fun hb => ?_) (fun hb => ?_) <;> (try simp only [lC] at hb) <;> (try (exfalso; omega)))); all_goals (conv => whnf)
  all_goals ((refine Q.r6 (h := ?_); repeat' (first | exact Q.r0 | refine Q.r1 ?_ ?_ | refine Q.r2 ?_ | exact Q.r7 | refine Q.r3 ?_ | refine Q.r4 ?_ | refine Q.r5 ?_)))
  all_goals ((first | rfl | (rw [Bool.eq_iff_iff]; simp only [tst_true, tst_false, mayB, decide_eq_true_eq, decide_eq_false_iff_not, Bool.and_eq_true, Bool.or_eq_true, Bool.not_eq_true', Bool.not_eq_false', Bool.false_eq_true, Bool.true_eq_false, true_iff, iff_true, false_iff, iff_false, true_and, and_true, false_and, and_false, not_false_eq_true, not_true_eq_false]; try omega)))
instance replica_spec (n : Int) : HasSpec Tryz.prog 94 [PV.int n] (.v (.bool (replB n))) := by
  refine ⟨?_⟩; refine Spec.ofR (h := fun F w0 => ?_)
  repeat' ((conv => whnf); first | refine Q.N ?_ | (refine Stk.both (fun hb => ?_) (fun hb => ?_) <;> (try simp only [lC] at hb) <;> (try (exfalso; omega)))); all_goals (conv => whnf)
  all_goals ((refine Q.r6 (h := ?_); repeat' (first | exact Q.r0 | refine Q.r1 ?_ ?_ | refine Q.r2 ?_ | exact Q.r7 | refine Q.r3 ?_ | refine Q.r4 ?_ | refine Q.r5 ?_)))
  all_goals ((first | rfl | (rw [Bool.eq_iff_iff]; simp only [tst_true, tst_false, replB, decide_eq_true_eq, decide_eq_false_iff_not, Bool.and_eq_true, Bool.or_eq_true, Bool.not_eq_true', Bool.not_eq_false', Bool.false_eq_true, Bool.true_eq_false, true_iff, iff_true, false_iff, iff_false, true_and, and_true, false_and, and_false, not_false_eq_true, not_true_eq_false]; try omega)))
instance sizecheck_spec (n f : Int) : HasSpec Tryz.prog 164 [PV.int n, PV.int f] (PV.int (errI (sizeB n f) 2)) := by
  refine ⟨?_⟩; refine Spec.ofR (h := fun F w0 => ?_)
  repeat' ((conv => whnf); first | refine Q.N ?_ | (refine Stk.both (fun hb => ?_) (fun hb => ?_) <;> (try simp only [lC] at hb) <;> (try (exfalso; omega)))); all_goals (conv => whnf)
  all_goals ((refine Q.r6 (h := ?_); repeat' (first | exact Q.r0 | refine Q.r1 ?_ ?_ | refine Q.r2 ?_ | exact Q.r7 | refine Q.r3 ?_ | refine Q.r4 ?_ | refine Q.r5 ?_)))
  all_goals (first | (rw [errI_t (sizeB_iff.2 (by omega))]; done) | (rw [errI_f (sizeB_not.2 (by omega))]; done) | (rw [errI_f (sizeB_m ‹_›)]))
instance has_spec (set r : Int) : HasSpec Tryz.prog 239 [PV.int set, PV.int r] (.v (.bool (hasB set r))) := by
  refine ⟨?_⟩; refine Spec.ofR (h := fun F w0 => ?_)
  repeat' ((conv => whnf); first | refine Q.N ?_ | (refine Stk.both (fun hb => ?_) (fun hb => ?_) <;> (try simp only [lC] at hb) <;> (try (exfalso; omega)))); all_goals (conv => whnf)
  all_goals ((refine Q.r6 (h := ?_); repeat' (first | exact Q.r0 | refine Q.r1 ?_ ?_ | refine Q.r2 ?_ | exact Q.r7 | refine Q.r3 ?_ | refine Q.r4 ?_ | refine Q.r5 ?_)))
  · rw [tst_eq, shr_bit set r (by omega) (by omega) (by omega) (by omega)]
    unfold hasB bitB
    rw [mayB_iff.2 (by omega), replB_iff.2 (by omega)]
    rfl
  · unfold hasB; rw [mayB_iff.2 (by omega), ‹replB r = false›]; rfl
  · unfold hasB; rw [‹mayB set = false›]; rfl
instance back_spec (n f : Int) : HasSpec Tryz.prog 240 [PV.int n, PV.int f] (PV.int (if sizeB n f then n - f else 0)) := by
  refine ⟨?_⟩; refine Spec.ofR (h := fun F w0 => ?_)
  repeat' ((conv => whnf); first | refine Q.N ?_ | (refine Stk.both (fun hb => ?_) (fun hb => ?_) <;> (try simp only [lC] at hb) <;> (try (exfalso; omega)))); all_goals (conv => whnf)
  all_goals ((refine Q.r6 (h := ?_); repeat' (first | exact Q.r0 | refine Q.r1 ?_ ?_ | refine Q.r2 ?_ | exact Q.r7 | refine Q.r3 ?_ | refine Q.r4 ?_ | refine Q.r5 ?_)))
  · rw [if_neg (by rw [sizeB_iff]; omega)]
  · rw [if_pos (sizeB_iff.2 (by omega))]
instance most_spec (n : Int) : HasSpec Tryz.prog 227 [PV.int n] (PV.int (if manyB n then n / 2 + 1 else 0)) := by
  refine ⟨?_⟩; refine Spec.ofR (h := fun F w0 => ?_)
  repeat' ((conv => whnf); first | refine Q.N ?_ | (refine Stk.both (fun hb => ?_) (fun hb => ?_) <;> (try simp only [lC] at hb) <;> (try (exfalso; omega)))); all_goals (conv => whnf)
  all_goals ((refine Q.r6 (h := ?_); repeat' (first | exact Q.r0 | refine Q.r1 ?_ ?_ | refine Q.r2 ?_ | exact Q.r7 | refine Q.r3 ?_ | refine Q.r4 ?_ | refine Q.r5 ?_)))
  · rw [if_neg (by simp_all)]
  · rw [if_pos (manyB_iff.2 (by omega))]
end Go.Proofs.YtbjepdfnmbdplaaGreat
end
section
namespace Go.Proofs.YtbjepdfnmbdplaaGreat
set_option linter.unusedSimpArgs false
set_option linter.unusedVariables false
set_option linter.unusedSectionVars false
open Go.RowKit
set_option maxRecDepth 100000
set_option maxHeartbeats 1000000
instance set_spec (l : List Int) : HasSpec Tryz.prog 31 [PV.ints l] (PV.int (orN l : Nat)) := by
  refine ⟨Spec.bound 0 rfl fun hl => ?_⟩; rw [List.length_map] at hl; refine Spec.ofR (h := fun F w0 => ?_)
  repeat' ((conv => whnf); first | refine Q.N ?_ | (refine Stk.both (fun hb => ?_) (fun hb => ?_) <;> (try simp only [lC] at hb) <;> (try (exfalso; omega)))); all_goals (conv => whnf)
  · refine Stk.loop (ι := Nat) (fun i => [(6, PV.ints l), (7, PV.int (l.length : Nat)), (8, PV.int (i : Nat)), (3, PV.int (orN (l.take i) : Nat))]) (fun _ => []) (fun i => i ≤ l.length) (fun i => l.length - i) 0 (Nat.zero_le _) (Weak.to ⟨rfl, rfl, rfl, rfl, trivial⟩ trivial rfl) (fun n hn => ?_)
    have hlt := orN_lt (l.take n)
    repeat' ((conv => whnf); first | refine Q.N ?_ | (refine Stk.both (fun hb => ?_) (fun hb => ?_) <;> (try simp only [lC] at hb) <;> (try (exfalso; omega)))); all_goals (conv => whnf)
    · refine ⟨n + 1, by omega, by omega, ?_⟩
      rw [or_step _ hlt _ (by omega) (by omega), take_snoc' l n (by omega), orN_snoc, if_pos (replB_iff.2 (by omega))]
      exact Weak.to ⟨rfl, rfl, rfl, rfl, trivial⟩ trivial rfl
    · refine ⟨n + 1, by omega, by omega, ?_⟩
      rw [take_snoc' l n (by omega), orN_snoc, if_neg (by simp_all)]
      exact Weak.to ⟨rfl, rfl, rfl, rfl, trivial⟩ trivial rfl
    · rw [List.take_of_length_le (by omega)]
      (refine Q.r6 (h := ?_); repeat' (first | exact Q.r0 | refine Q.r1 ?_ ?_ | refine Q.r2 ?_ | exact Q.r7 | refine Q.r3 ?_ | refine Q.r4 ?_ | refine Q.r5 ?_))
instance set1_spec (x : Int) : HasSpec Tryz.prog 31 [.sl 1 [[PV.int x]]] (PV.int (orN [x] : Nat)) := set_spec [x]
def w64 (a : Int) : Int := IntKind.u64.wrap a
def pop64 (x0 : Int) : Int :=
  let x1 := w64 (bitI .and .u64 (x0.fdiv 2) 6148914691236517205 + bitI .and .u64 x0 6148914691236517205)
  let x2 := w64 (bitI .and .u64 (x1.fdiv 4) 3689348814741910323 + bitI .and .u64 x1 3689348814741910323)
  let x3 := bitI .and .u64 (w64 (x2.fdiv 16 + x2)) 1085102592571150095
  let x4 := w64 (x3 + x3.fdiv 256)
  let x5 := w64 (x4 + x4.fdiv 65536)
  let x6 := w64 (x5 + x5.fdiv 4294967296)
  bitI .and .i64 (IntKind.i64.wrap x6) 127
instance pop64_spec (x : Int) : HasSpec Tryz.prog 185 [.v (.int .u64 x)] (PV.int (pop64 x)) := by
  refine ⟨?_⟩; refine Spec.ofR (h := fun F w0 => ?_)
  repeat' ((conv => whnf); first | refine Q.N ?_ | (refine Stk.both (fun hb => ?_) (fun hb => ?_) <;> (try simp only [lC] at hb) <;> (try (exfalso; omega)))); all_goals (conv => whnf)
  (refine Q.r6 (h := ?_); repeat' (first | exact Q.r0 | refine Q.r1 ?_ ?_ | refine Q.r2 ?_ | exact Q.r7 | refine Q.r3 ?_ | refine Q.r4 ?_ | refine Q.r5 ?_))
instance pop_spec (x : Int) : HasSpec Tryz.prog 96 [.v (.int .u64 x)] (PV.int (pop64 x)) := by
  refine ⟨?_⟩; refine Spec.ofR (h := fun F w0 => ?_)
  repeat' ((conv => whnf); first | refine Q.N ?_ | (refine Stk.both (fun hb => ?_) (fun hb => ?_) <;> (try simp only [lC] at hb) <;> (try (exfalso; omega)))); all_goals (conv => whnf)
  (refine Q.r6 (h := ?_); repeat' (first | exact Q.r0 | refine Q.r1 ?_ ?_ | refine Q.r2 ?_ | exact Q.r7 | refine Q.r3 ?_ | refine Q.r4 ?_ | refine Q.r5 ?_))
theorem pop_all : ∀ n : Nat, n < 512 → pop64 (n : Int) = ((listS n 9).length : Int) := by decide +kernel
instance count_spec (set : Int) : HasSpec Tryz.prog 32 [PV.int set] (PV.int ((listS set 9).length : Int)) := by
  refine ⟨?_⟩; refine Spec.ofR (h := fun F w0 => ?_)
  repeat' ((conv => whnf); first | refine Q.N ?_ | (refine Stk.both (fun hb => ?_) (fun hb => ?_) <;> (try simp only [lC] at hb) <;> (try (exfalso; omega)))); all_goals (conv => whnf)
  all_goals ((refine Q.r6 (h := ?_); repeat' (first | exact Q.r0 | refine Q.r1 ?_ ?_ | refine Q.r2 ?_ | exact Q.r7 | refine Q.r3 ?_ | refine Q.r4 ?_ | refine Q.r5 ?_)))
  · rw [listS_no ‹_›]; rfl
  · obtain ⟨n, rfl⟩ := Int.eq_ofNat_of_zero_le (show 0 ≤ set by omega)
    exact pop_all n (by omega)
end Go.Proofs.YtbjepdfnmbdplaaGreat
end
section
namespace Go.Proofs.YtbjepdfnmbdplaaGreat
set_option linter.unusedSimpArgs false
set_option linter.unusedVariables false
set_option linter.unusedSectionVars false
open Go.RowKit
set_option maxRecDepth 100000
set_option maxHeartbeats 1000000
end Go.Proofs.YtbjepdfnmbdplaaGreat
end
section
namespace Go.Proofs.YtbjepdfnmbdplaaGreat
set_option linter.unusedSimpArgs false
set_option linter.unusedVariables false
set_option linter.unusedSectionVars false
open Go.RowKit
set_option maxRecDepth 100000
set_option maxHeartbeats 1000000
theorem refcheck_spec (n f : Int) (hf : f ≤ 9) : HasSpec Tryz.prog 201 [PV.int n, PV.int f] (PV.int (errI (sizeB n f) 2)) := by
  refine ⟨?_⟩; refine Spec.ofR (h := fun F w0 => ?_)
  repeat' ((conv => whnf); first | refine Q.N ?_ | (refine Stk.both (fun hb => ?_) (fun hb => ?_) <;> (try simp only [lC] at hb) <;> (try (exfalso; omega)))); all_goals (conv => whnf)
  all_goals ((refine Q.r6 (h := ?_); repeat' (first | exact Q.r0 | refine Q.r1 ?_ ?_ | refine Q.r2 ?_ | exact Q.r7 | refine Q.r3 ?_ | refine Q.r4 ?_ | refine Q.r5 ?_)))
  all_goals (first | (rw [errI_t (sizeB_iff.2 (by omega))]; done) | (rw [errI_f (sizeB_not.2 (by omega))]; done))
instance refsizes_spec (n f : Int) : HasSpec Tryz.prog 119 [PV.int n, PV.int f] (.tup [PV.int (if sizeB n f then n / 2 + f else 0), PV.int (if sizeB n f then f + 1 else 0), PV.int (if sizeB n f then n - f else 0)]) := by
  refine ⟨?_⟩; refine Spec.ofR (h := fun F w0 => ?_)
  repeat' ((conv => whnf); first | refine Q.N ?_ | (refine Stk.both (fun hb => ?_) (fun hb => ?_) <;> (try simp only [lC] at hb) <;> (try (exfalso; omega)))); all_goals (conv => whnf)
  · (refine Q.r6 (h := ?_); repeat' (first | exact Q.r0 | refine Q.r1 ?_ ?_ | refine Q.r2 ?_ | exact Q.r7 | refine Q.r3 ?_ | refine Q.r4 ?_ | refine Q.r5 ?_))
    all_goals rw [if_neg (by rw [sizeB_iff]; omega)]
  · refine Stk.by (refcheck_spec n f (by omega)) (h := ?_)
    repeat' ((conv => whnf); first | refine Q.N ?_ | (refine Stk.both (fun hb => ?_) (fun hb => ?_) <;> (try simp only [lC] at hb) <;> (try (exfalso; omega)))); all_goals (conv => whnf)
    · (refine Q.r6 (h := ?_); repeat' (first | exact Q.r0 | refine Q.r1 ?_ ?_ | refine Q.r2 ?_ | exact Q.r7 | refine Q.r3 ?_ | refine Q.r4 ?_ | refine Q.r5 ?_))
      all_goals rw [if_neg (by rw [sizeB_iff]; omega)]
    · (refine Q.r6 (h := ?_); repeat' (first | exact Q.r0 | refine Q.r1 ?_ ?_ | refine Q.r2 ?_ | exact Q.r7 | refine Q.r3 ?_ | refine Q.r4 ?_ | refine Q.r5 ?_))
      all_goals rw [if_pos (by rw [sizeB_iff]; omega)]
instance refmost_spec (n : Int) : HasSpec Tryz.prog 220 [PV.int n] (PV.int (if manyB n then n / 2 + 1 else 0)) := by
  refine ⟨?_⟩; refine Spec.ofR (h := fun F w0 => ?_)
  repeat' ((conv => whnf); first | refine Q.N ?_ | (refine Stk.both (fun hb => ?_) (fun hb => ?_) <;> (try simp only [lC] at hb) <;> (try (exfalso; omega)))); all_goals (conv => whnf)
  all_goals ((refine Q.r6 (h := ?_); repeat' (first | exact Q.r0 | refine Q.r1 ?_ ?_ | refine Q.r2 ?_ | exact Q.r7 | refine Q.r3 ?_ | refine Q.r4 ?_ | refine Q.r5 ?_)))
  all_goals (first | (rw [if_pos (manyB_iff.2 (by omega))]; done) | (rw [if_neg (by rw [manyB_iff]; omega)]; done))
def boolsN (set : Int) (n : Nat) : List PV := (List.range 10).map fun (i : Nat) => .v (.bool (decide (i ≤ n) && hasB set i))
theorem boolsN_at (set : Int) (n i : Nat) (h : i < 10) : (boolsN set n)[i]? = some (.v (.bool (decide (i ≤ n) && hasB set i))) := by unfold boolsN; simp [h]
theorem boolsN_zero (set : Int) : boolsN set 0 = List.map PV.v [.bool false, .bool false, .bool false, .bool false, .bool false, .bool false, .bool false, .bool false, .bool false, .bool false] := by
  have h0 : hasB set 0 = false := by unfold hasB replB; simp
  unfold boolsN
  simp [List.range, List.range.loop, h0]
theorem hasB_in {set : Int} (h : 0 ≤ set ∧ set ≤ 511) {n : Nat} (hn : n < 9) : hasB set (n + 1) = tst (set / 2 ^ n % 2 = 1) := by
  unfold hasB bitB
  rw [mayB_iff.2 h, replB_iff.2 (by omega), tst_eq, show ((n : Int) + 1 - 1).toNat = n from by omega]
  rfl
theorem boolsN_no {set : Int} (h : ¬ (0 ≤ set ∧ set ≤ 511)) (n m : Nat) : boolsN set n = boolsN set m := by
  unfold boolsN hasB
  have : mayB set = false := by cases e : mayB set with
    | false => rfl
    | true => exact absurd (mayB_iff.1 e) h
  rw [this]; simp
theorem boolsN_nine {set : Int} (h : 0 ≤ set ∧ set ≤ 511) : boolsN set 9 = [.v (.bool false), .v (.bool (tst (set % 2 = 1))), .v (.bool (tst (set / 2 % 2 = 1))), .v (.bool (tst (set / 2 / 2 % 2 = 1))), .v (.bool (tst (set / 2 / 2 / 2 % 2 = 1))), .v (.bool (tst (set / 2 / 2 / 2 / 2 % 2 = 1))), .v (.bool (tst (set / 2 / 2 / 2 / 2 / 2 % 2 = 1))), .v (.bool (tst (set / 2 / 2 / 2 / 2 / 2 / 2 % 2 = 1))), .v (.bool (tst (set / 2 / 2 / 2 / 2 / 2 / 2 / 2 % 2 = 1))), .v (.bool (tst (set / 2 / 2 / 2 / 2 / 2 / 2 / 2 / 2 % 2 = 1)))] := by
  have h0 : hasB set 0 = false := by unfold hasB replB; simp
  have e : ∀ n : Nat, n < 9 → hasB set ((n + 1 : Nat) : Int) = tst (set / 2 ^ n % 2 = 1) := fun n hn => hasB_in h hn
  have d : ∀ n : Nat, set / 2 ^ n / 2 = set / 2 ^ (n + 1) := fun n => by rw [Int.pow_succ, Int.ediv_ediv_of_nonneg (Int.le_of_lt (Int.pow_pos (by decide)))]
  have e0 := e 0 (by omega); have e1 := e 1 (by omega); have e2 := e 2 (by omega); have e3 := e 3 (by omega); have e4 := e 4 (by omega); have e5 := e 5 (by omega); have e6 := e 6 (by omega); have e7 := e 7 (by omega); have e8 := e 8 (by omega)
  have d0 : set / 2 ^ 0 = set := by simp
  rw [d0] at e0
  rw [← d 0, d0] at e1
  rw [← d 1, ← d 0, d0] at e2
  rw [← d 2, ← d 1, ← d 0, d0] at e3
  rw [← d 3, ← d 2, ← d 1, ← d 0, d0] at e4
  rw [← d 4, ← d 3, ← d 2, ← d 1, ← d 0, d0] at e5
  rw [← d 5, ← d 4, ← d 3, ← d 2, ← d 1, ← d 0, d0] at e6
  rw [← d 6, ← d 5, ← d 4, ← d 3, ← d 2, ← d 1, ← d 0, d0] at e7
  rw [← d 7, ← d 6, ← d 5, ← d 4, ← d 3, ← d 2, ← d 1, ← d 0, d0] at e8
  have hr : List.range 10 = [0, 1, 2, 3, 4, 5, 6, 7, 8, 9] := rfl
  unfold boolsN
  rw [hr]
  simp only [List.map_cons, List.map_nil]
  rw [e0, e1, e2, e3, e4, e5, e6, e7, e8, show hasB set ((0 : Nat) : Int) = false from h0]
  rfl
instance bools_spec (set : Int) : HasSpec Tryz.prog 214 [PV.int set] (.agg (boolsN set 9)) := by
  by_cases hm : 0 ≤ set ∧ set ≤ 511
  · rw [boolsN_nine hm]
    refine ⟨?_⟩; refine Spec.ofR (h := fun F w0 => ?_)
    repeat' ((conv => whnf); first | refine Q.N ?_ | (refine Stk.both (fun hb => ?_) (fun hb => ?_) <;> (try simp only [lC] at hb) <;> (try (exfalso; omega)))); all_goals (conv => whnf)
    refine Stk.unroll 10 ?_
    repeat' ((conv => whnf); first | refine Q.N ?_ | (refine Stk.both (fun hb => ?_) (fun hb => ?_) <;> (try simp only [lC] at hb) <;> (try (exfalso; omega)))); all_goals (conv => whnf)
    (refine Q.r6 (h := ?_); repeat' (first | exact Q.r0 | refine Q.r1 ?_ ?_ | refine Q.r2 ?_ | exact Q.r7 | refine Q.r3 ?_ | refine Q.r4 ?_ | refine Q.r5 ?_))
  · rw [boolsN_no hm 9 0, boolsN_zero]
    refine ⟨?_⟩; refine Spec.ofR (h := fun F w0 => ?_)
    repeat' ((conv => whnf); first | refine Q.N ?_ | (refine Stk.both (fun hb => ?_) (fun hb => ?_) <;> (try simp only [lC] at hb) <;> (try (exfalso; omega)))); all_goals (conv => whnf)
    all_goals ((refine Q.r6 (h := ?_); repeat' (first | exact Q.r0 | refine Q.r1 ?_ ?_ | refine Q.r2 ?_ | exact Q.r7 | refine Q.r3 ?_ | refine Q.r4 ?_ | refine Q.r5 ?_)))
theorem bools_at (set r : Int) (h0 : 0 ≤ r) (h : r ≤ 9) : (boolsN set 9)[0 + r.toNat * 1]? = some (.v (.bool (hasB set r))) := by
  rw [boolsN_at _ _ _ (by omega)]
  have h1 : decide (0 + r.toNat * 1 ≤ 9) = true := decide_eq_true (by omega)
  rw [h1, show ((0 + r.toNat * 1 : Nat) : Int) = r from by omega]
  rfl
instance refhas_spec (set r : Int) : HasSpec Tryz.prog 193 [PV.int set, PV.int r] (.v (.bool (hasB set r))) := by
  refine ⟨?_⟩; refine Spec.ofR (h := fun F w0 => ?_)
  repeat' ((conv => whnf); first | refine Q.N ?_ | (refine Stk.both (fun hb => ?_) (fun hb => ?_) <;> (try simp only [lC] at hb) <;> (try (exfalso; omega)))); all_goals (conv => whnf)
  · refine Stk.ld (bools_at set r (by omega) (by omega)) ?_
    repeat' ((conv => whnf); first | refine Q.N ?_ | (refine Stk.both (fun hb => ?_) (fun hb => ?_) <;> (try simp only [lC] at hb) <;> (try (exfalso; omega)))); all_goals (conv => whnf)
    (refine Q.r6 (h := ?_); repeat' (first | exact Q.r0 | refine Q.r1 ?_ ?_ | refine Q.r2 ?_ | exact Q.r7 | refine Q.r3 ?_ | refine Q.r4 ?_ | refine Q.r5 ?_))
  · (refine Q.r6 (h := ?_); repeat' (first | exact Q.r0 | refine Q.r1 ?_ ?_ | refine Q.r2 ?_ | exact Q.r7 | refine Q.r3 ?_ | refine Q.r4 ?_ | refine Q.r5 ?_))
    unfold hasB
    rw [show replB r = false from by cases e : replB r with
      | false => rfl
      | true => have := replB_iff.1 e; omega]
    simp
  · (refine Q.r6 (h := ?_); repeat' (first | exact Q.r0 | refine Q.r1 ?_ ?_ | refine Q.r2 ?_ | exact Q.r7 | refine Q.r3 ?_ | refine Q.r4 ?_ | refine Q.r5 ?_))
    unfold hasB
    rw [show replB r = false from by cases e : replB r with
      | false => rfl
      | true => have := replB_iff.1 e; omega]
    simp
instance reflist_spec (set : Int) : HasSpec Tryz.prog 136 [PV.int set] (PV.ints (listS set 9)) := by
  refine ⟨?_⟩; refine Spec.ofR (h := fun F w0 => ?_)
  repeat' ((conv => whnf); first | refine Q.N ?_ | (refine Stk.both (fun hb => ?_) (fun hb => ?_) <;> (try simp only [lC] at hb) <;> (try (exfalso; omega)))); all_goals (conv => whnf)
  · refine Stk.loop (ι := Nat × Nat) (fun i => [(0, PV.int set), (3, .row 3 i.2), (4, .lp 4 0), (5, PV.int ((i.1 : Int) + 1))]) (fun i => [(3, .row 3 1 i.2 ((listS set i.1).map ics)), (4, .box (boolsN set 9))]) (fun i => i.1 ≤ 9) (fun i => 9 - i.1) (0, 0) (Nat.zero_le _) (Weak.trans (Weak.nilrow (t := 3) (id := 3) (rt := 3) (sz := 1) rfl rfl) (Weak.to ⟨rfl, rfl, rfl, rfl, trivial⟩ ⟨rfl, rfl, trivial⟩ rfl)) (fun ⟨n, ver⟩ hn => ?_)
    have hll := listS_len set n
    simp only at hn
    repeat' ((conv => whnf); first | refine Q.N ?_ | (refine Stk.both (fun hb => ?_) (fun hb => ?_) <;> (try simp only [lC] at hb) <;> (try (exfalso; omega)))); all_goals (conv => whnf)
    · refine Stk.ld (bools_at set ((n : Int) + 1) (by omega) (by omega)) ?_
      repeat' ((conv => whnf); first | refine Q.N ?_ | (refine Stk.both (fun hb => ?_) (fun hb => ?_) <;> (try simp only [lC] at hb) <;> (try (exfalso; omega)))); all_goals (conv => whnf)
      · (refine Stk.app rfl Q.app ?_)
        repeat' ((conv => whnf); first | refine Q.N ?_ | (refine Stk.both (fun hb => ?_) (fun hb => ?_) <;> (try simp only [lC] at hb) <;> (try (exfalso; omega)))); all_goals (conv => whnf)
        refine ⟨(n + 1, ver + 1), by simp; omega, by simp; omega, ?_⟩
        rw [listS_succ, if_pos ‹_›, List.map_append]
        exact Weak.to ⟨rfl, rfl, rfl, rfl, trivial⟩ ⟨rfl, rfl, trivial⟩ rfl
      · refine ⟨(n + 1, ver), by simp; omega, by simp; omega, ?_⟩
        rw [listS_succ, if_neg (by simp_all)]
        exact Weak.to ⟨rfl, rfl, rfl, rfl, trivial⟩ ⟨rfl, rfl, trivial⟩ rfl
    · obtain rfl : n = 9 := by omega
      (refine Q.r6 (h := ?_); repeat' (first | exact Q.r0 | refine Q.r1 ?_ ?_ | refine Q.r2 ?_ | exact Q.r7 | refine Q.r3 ?_ | refine Q.r4 ?_ | refine Q.r5 ?_))
theorem orN_bit (l : List Int) (k : Nat) (hk : k < 9) : (orN l).testBit k = decide (((k : Int) + 1) ∈ l) := by
  unfold orN
  have : ∀ (l : List Int) (m : Nat), (l.foldl (fun m r => if replB r then m ||| 2 ^ (r - 1).toNat else m) m).testBit k = (m.testBit k || decide (((k : Int) + 1) ∈ l)) := by
    intro l
    induction l with
    | nil => intro m; simp
    | cons r l ih =>
      intro m
      rw [List.foldl_cons, ih]
      by_cases hr : replB r = true
      · have h1 := replB_iff.1 hr
        rw [if_pos hr, Nat.testBit_or, Nat.testBit_two_pow, Bool.or_assoc]
        congr 1
        rw [Bool.eq_iff_iff]
        simp only [Bool.or_eq_true, decide_eq_true_eq, List.mem_cons]
        constructor
        · rintro (h | h)
          · left; omega
          · exact .inr h
        · rintro (h | h)
          · left; omega
          · exact .inr h
      · rw [if_neg hr]
        congr 1
        rw [decide_eq_decide, List.mem_cons]
        constructor
        · exact .inr
        · rintro (h | h)
          · exact absurd (replB_iff.2 (by omega)) hr
          · exact h
  rw [this]
  simp
end Go.Proofs.YtbjepdfnmbdplaaGreat
end
