/- The types and functions of this seat in tables. Printed by wip/gen/tab.py. -/
import Derived.Test.YtflnfdepklnlkaaTy
import Derived.Test.YtflnfdepklnlkaaPB
namespace Go.Proofs.Ytflnfdepklnlkaa
open Go.RowKit
theorem ti2 : TIok Try.prog 2 ⟨false, 1, .int .i64, some [.int .i64 0], some (.int .i64 0, 8)⟩ := ⟨by kernel_rfl, (kindOK_of (by kernel_rfl)), (zeroOK_of (by kernel_rfl)), (ezOK_of (by kernel_rfl))⟩
theorem ti3 : TIok Try.prog 3 ⟨false, 1, .int .i64, some [.int .i64 0], some (.int .i64 0, 8)⟩ := ⟨by kernel_rfl, (kindOK_of (by kernel_rfl)), (zeroOK_of (by kernel_rfl)), (ezOK_of (by kernel_rfl))⟩
theorem ti4 : TIok Try.prog 4 ⟨false, 1, .bool, some [.bool false], some (.bool false, 1)⟩ := ⟨by kernel_rfl, (kindOK_of (by kernel_rfl)), (zeroOK_of (by kernel_rfl)), (ezOK_of (by kernel_rfl))⟩
theorem ti5 : TIok Try.prog 5 ⟨false, 1, .int .u8, some [.int .u8 0], some (.int .u8 0, 1)⟩ := ⟨by kernel_rfl, (kindOK_of (by kernel_rfl)), (zeroOK_of (by kernel_rfl)), (ezOK_of (by kernel_rfl))⟩
theorem ti9 : TIok Try.prog 9 ⟨false, 1, .str, some [.string ⟨#[]⟩], some (.string ⟨#[]⟩, 16)⟩ := ⟨by kernel_rfl, (kindOK_of (by kernel_rfl)), (zeroOK_of (by kernel_rfl)), (ezOK_of (by kernel_rfl))⟩
theorem ti12 : TIok Try.prog 12 ⟨false, 1, .int .u64, some [.int .u64 0], some (.int .u64 0, 8)⟩ := ⟨by kernel_rfl, (kindOK_of (by kernel_rfl)), (zeroOK_of (by kernel_rfl)), (ezOK_of (by kernel_rfl))⟩
theorem ti13 : TIok Try.prog 13 ⟨true, 2, .struct [(0, 1, false), (1, 1, false)] [(0, 1), (1, 1)], some [.string ⟨#[]⟩, .int .u64 0], some (.agg #[.string ⟨#[]⟩, .int .u64 0], 24)⟩ := ⟨by kernel_rfl, (kindOK_of (by kernel_rfl)), (zeroOK_of (by kernel_rfl)), (ezOK_of (by kernel_rfl))⟩
theorem ti20 : TIok Try.prog 20 ⟨false, 1, .other, some [.nilIface], some (.nilIface, 16)⟩ := ⟨by kernel_rfl, trivial, (zeroOK_of (by kernel_rfl)), (ezOK_of (by kernel_rfl))⟩
theorem ti21 : TIok Try.prog 21 ⟨false, 1, .int .i32, some [.int .i32 0], some (.int .i32 0, 4)⟩ := ⟨by kernel_rfl, (kindOK_of (by kernel_rfl)), (zeroOK_of (by kernel_rfl)), (ezOK_of (by kernel_rfl))⟩
theorem ti22 : TIok Try.prog 22 ⟨false, 1, .slice 35 3, some [.slice none 0 0], some (.slice none 0 0, 24)⟩ := ⟨by kernel_rfl, (kindOK_of (by kernel_rfl)), (zeroOK_of (by kernel_rfl)), (ezOK_of (by kernel_rfl))⟩
theorem ti23 : TIok Try.prog 23 ⟨true, 2, .arr 2 3 1, some [.int .i64 0, .int .i64 0], some (.agg #[.int .i64 0, .int .i64 0], 16)⟩ := ⟨by kernel_rfl, (kindOK_of (by kernel_rfl)), (zeroOK_of (by kernel_rfl)), (ezOK_of (by kernel_rfl))⟩
theorem ti29 : TIok Try.prog 29 ⟨false, 1, .slice 37 3, some [.slice none 0 0], some (.slice none 0 0, 24)⟩ := ⟨by kernel_rfl, (kindOK_of (by kernel_rfl)), (zeroOK_of (by kernel_rfl)), (ezOK_of (by kernel_rfl))⟩
theorem ti34 : TIok Try.prog 34 ⟨true, 3, .struct [(0, 1, false), (1, 1, false), (2, 1, false)] [(0, 1), (1, 1), (2, 1)], some [.int .i64 0, .int .i64 0, .string ⟨#[]⟩], some (.agg #[.int .i64 0, .int .i64 0, .string ⟨#[]⟩], 32)⟩ := ⟨by kernel_rfl, (kindOK_of (by kernel_rfl)), (zeroOK_of (by kernel_rfl)), (ezOK_of (by kernel_rfl))⟩
theorem ti35 : TIok Try.prog 35 ⟨true, 3, .struct [(0, 1, false), (1, 1, false), (2, 1, false)] [(0, 1), (1, 1), (2, 1)], some [.int .i64 0, .int .i64 0, .string ⟨#[]⟩], some (.agg #[.int .i64 0, .int .i64 0, .string ⟨#[]⟩], 32)⟩ := ⟨by kernel_rfl, (kindOK_of (by kernel_rfl)), (zeroOK_of (by kernel_rfl)), (ezOK_of (by kernel_rfl))⟩
theorem ti37 : TIok Try.prog 37 ⟨true, 3, .struct [(0, 1, false), (1, 1, false), (2, 1, false)] [(0, 1), (1, 1), (2, 1)], some [.int .i64 0, .int .i64 0, .string ⟨#[]⟩], some (.agg #[.int .i64 0, .int .i64 0, .string ⟨#[]⟩], 32)⟩ := ⟨by kernel_rfl, (kindOK_of (by kernel_rfl)), (zeroOK_of (by kernel_rfl)), (ezOK_of (by kernel_rfl))⟩
theorem ti40 : TIok Try.prog 40 ⟨false, 1, .slice 3 1, some [.slice none 0 0], some (.slice none 0 0, 24)⟩ := ⟨by kernel_rfl, (kindOK_of (by kernel_rfl)), (zeroOK_of (by kernel_rfl)), (ezOK_of (by kernel_rfl))⟩
theorem ti44 : TIok Try.prog 44 ⟨false, 1, .int .i64, some [.int .i64 0], some (.int .i64 0, 8)⟩ := ⟨by kernel_rfl, (kindOK_of (by kernel_rfl)), (zeroOK_of (by kernel_rfl)), (ezOK_of (by kernel_rfl))⟩
theorem ti55 : TIok Try.prog 55 ⟨false, 1, .int .i64, some [.int .i64 0], some (.int .i64 0, 8)⟩ := ⟨by kernel_rfl, (kindOK_of (by kernel_rfl)), (zeroOK_of (by kernel_rfl)), (ezOK_of (by kernel_rfl))⟩
theorem ti62 : TIok Try.prog 62 ⟨true, 10, .arr 10 4 1, some [.bool false, .bool false, .bool false, .bool false, .bool false, .bool false, .bool false, .bool false, .bool false, .bool false], some (.agg #[.bool false, .bool false, .bool false, .bool false, .bool false, .bool false, .bool false, .bool false, .bool false, .bool false], 10)⟩ := ⟨by kernel_rfl, (kindOK_of (by kernel_rfl)), (zeroOK_of (by kernel_rfl)), (ezOK_of (by kernel_rfl))⟩
theorem ti72 : TIok Try.prog 72 ⟨false, 1, .int .u32, some [.int .u32 0], some (.int .u32 0, 4)⟩ := ⟨by kernel_rfl, (kindOK_of (by kernel_rfl)), (zeroOK_of (by kernel_rfl)), (ezOK_of (by kernel_rfl))⟩
theorem ti76 : TIok Try.prog 76 ⟨false, 1, .other, some [.pointer none], some (.pointer none, 8)⟩ := ⟨by kernel_rfl, trivial, (zeroOK_of (by kernel_rfl)), (ezOK_of (by kernel_rfl))⟩
instance : EqS Try.prog 34 [false, false, true] := ⟨by kernel_rfl, by kernel_rfl, by kernel_rfl, by kernel_rfl⟩
instance : EqS Try.prog 35 [false, false, true] := ⟨by kernel_rfl, by kernel_rfl, by kernel_rfl, by kernel_rfl⟩
instance : EqS Try.prog 37 [false, false, true] := ⟨by kernel_rfl, by kernel_rfl, by kernel_rfl, by kernel_rfl⟩
theorem okNone {P : Program} {t : Nat} : ∀ i : TI, (none : Option TI) = some i → TIok P t i := fun _ h => by cases h
theorem okSome {P : Program} {t : Nat} {x : TI} (h : TIok P t x) : ∀ i : TI, some x = some i → TIok P t i := fun _ e => by injection e with e; subst e; exact h
def tab : TT := (.n none (.n none (.n (some ⟨false, 1, .int .i64, some [.int .i64 0], some (.int .i64 0, 8)⟩) (.n none .e (.n (some ⟨true, 2, .arr 2 3 1, some [.int .i64 0, .int .i64 0], some (.agg #[.int .i64 0, .int .i64 0], 16)⟩) .e (.n (some ⟨false, 1, .int .i64, some [.int .i64 0], some (.int .i64 0, 8)⟩) .e .e))) (.n none (.n none (.n (some ⟨true, 3, .struct [(0, 1, false), (1, 1, false), (2, 1, false)] [(0, 1), (1, 1), (2, 1)], some [.int .i64 0, .int .i64 0, .string ⟨#[]⟩], some (.agg #[.int .i64 0, .int .i64 0, .string ⟨#[]⟩], 32)⟩) .e .e) .e) .e)) (.n (some ⟨false, 1, .int .u8, some [.int .u8 0], some (.int .u8 0, 1)⟩) (.n (some ⟨false, 1, .str, some [.string ⟨#[]⟩], some (.string ⟨#[]⟩, 16)⟩) .e .e) (.n (some ⟨true, 2, .struct [(0, 1, false), (1, 1, false)] [(0, 1), (1, 1)], some [.string ⟨#[]⟩, .int .u64 0], some (.agg #[.string ⟨#[]⟩, .int .u64 0], 24)⟩) (.n (some ⟨false, 1, .int .i32, some [.int .i32 0], some (.int .i32 0, 4)⟩) (.n (some ⟨true, 3, .struct [(0, 1, false), (1, 1, false), (2, 1, false)] [(0, 1), (1, 1), (2, 1)], some [.int .i64 0, .int .i64 0, .string ⟨#[]⟩], some (.agg #[.int .i64 0, .int .i64 0, .string ⟨#[]⟩], 32)⟩) .e .e) .e) (.n (some ⟨false, 1, .slice 37 3, some [.slice none 0 0], some (.slice none 0 0, 24)⟩) .e .e)))) (.n (some ⟨false, 1, .int .i64, some [.int .i64 0], some (.int .i64 0, 8)⟩) (.n (some ⟨false, 1, .bool, some [.bool false], some (.bool false, 1)⟩) (.n none .e (.n none (.n (some ⟨false, 1, .slice 3 1, some [.slice none 0 0], some (.slice none 0 0, 24)⟩) (.n (some ⟨false, 1, .int .u32, some [.int .u32 0], some (.int .u32 0, 4)⟩) .e .e) .e) .e)) (.n (some ⟨false, 1, .int .u64, some [.int .u64 0], some (.int .u64 0, 8)⟩) (.n (some ⟨false, 1, .other, some [.nilIface], some (.nilIface, 16)⟩) .e .e) (.n none (.n (some ⟨false, 1, .int .i64, some [.int .i64 0], some (.int .i64 0, 8)⟩) (.n (some ⟨false, 1, .other, some [.pointer none], some (.pointer none, 8)⟩) .e .e) .e) .e))) (.n none (.n none (.n none (.n (some ⟨true, 3, .struct [(0, 1, false), (1, 1, false), (2, 1, false)] [(0, 1), (1, 1), (2, 1)], some [.int .i64 0, .int .i64 0, .string ⟨#[]⟩], some (.agg #[.int .i64 0, .int .i64 0, .string ⟨#[]⟩], 32)⟩) .e .e) .e) .e) (.n none (.n (some ⟨false, 1, .slice 35 3, some [.slice none 0 0], some (.slice none 0 0, 24)⟩) .e .e) (.n none .e (.n (some ⟨true, 10, .arr 10 4 1, some [.bool false, .bool false, .bool false, .bool false, .bool false, .bool false, .bool false, .bool false, .bool false, .bool false], some (.agg #[.bool false, .bool false, .bool false, .bool false, .bool false, .bool false, .bool false, .bool false, .bool false, .bool false], 10)⟩) .e .e))))))
instance : TabT Try.prog tab := ⟨⟨okNone, ⟨okNone, ⟨okSome ti3, ⟨okNone, trivial, ⟨okSome ti23, trivial, ⟨okSome ti55, trivial, trivial⟩⟩⟩, ⟨okNone, ⟨okNone, ⟨okSome ti35, trivial, trivial⟩, trivial⟩, trivial⟩⟩, ⟨okSome ti5, ⟨okSome ti9, trivial, trivial⟩, ⟨okSome ti13, ⟨okSome ti21, ⟨okSome ti37, trivial, trivial⟩, trivial⟩, ⟨okSome ti29, trivial, trivial⟩⟩⟩⟩, ⟨okSome ti2, ⟨okSome ti4, ⟨okNone, trivial, ⟨okNone, ⟨okSome ti40, ⟨okSome ti72, trivial, trivial⟩, trivial⟩, trivial⟩⟩, ⟨okSome ti12, ⟨okSome ti20, trivial, trivial⟩, ⟨okNone, ⟨okSome ti44, ⟨okSome ti76, trivial, trivial⟩, trivial⟩, trivial⟩⟩⟩, ⟨okNone, ⟨okNone, ⟨okNone, ⟨okSome ti34, trivial, trivial⟩, trivial⟩, trivial⟩, ⟨okNone, ⟨okSome ti22, trivial, trivial⟩, ⟨okNone, trivial, ⟨okSome ti62, trivial, trivial⟩⟩⟩⟩⟩⟩, by kernel_rfl⟩
instance : FnT Try.prog 3 Try.f3 := ⟨Try.func3, enters_of Try.func3 (by kernel_rfl) (by kernel_rfl)⟩
instance : FnT Try.prog 4 Try.f4 := ⟨Try.func4, enters_of Try.func4 (by kernel_rfl) (by kernel_rfl)⟩
instance : FnT Try.prog 5 Try.f5 := ⟨Try.func5, enters_of Try.func5 (by kernel_rfl) (by kernel_rfl)⟩
instance : FnT Try.prog 6 Try.f6 := ⟨Try.func6, enters_of Try.func6 (by kernel_rfl) (by kernel_rfl)⟩
instance : FnT Try.prog 7 Try.f7 := ⟨Try.func7, enters_of Try.func7 (by kernel_rfl) (by kernel_rfl)⟩
instance : FnT Try.prog 8 Try.f8 := ⟨Try.func8, enters_of Try.func8 (by kernel_rfl) (by kernel_rfl)⟩
instance : FnT Try.prog 9 Try.f9 := ⟨Try.func9, enters_of Try.func9 (by kernel_rfl) (by kernel_rfl)⟩
instance : FnT Try.prog 10 Try.f10 := ⟨Try.func10, enters_of Try.func10 (by kernel_rfl) (by kernel_rfl)⟩
instance : FnT Try.prog 11 Try.f11 := ⟨Try.func11, enters_of Try.func11 (by kernel_rfl) (by kernel_rfl)⟩
instance : FnT Try.prog 12 Try.f12 := ⟨Try.func12, enters_of Try.func12 (by kernel_rfl) (by kernel_rfl)⟩
instance : FnT Try.prog 13 Try.f13 := ⟨Try.func13, enters_of Try.func13 (by kernel_rfl) (by kernel_rfl)⟩
instance : FnT Try.prog 14 Try.f14 := ⟨Try.func14, enters_of Try.func14 (by kernel_rfl) (by kernel_rfl)⟩
instance : FnT Try.prog 15 Try.f15 := ⟨Try.func15, enters_of Try.func15 (by kernel_rfl) (by kernel_rfl)⟩
instance : FnT Try.prog 16 Try.f16 := ⟨Try.func16, enters_of Try.func16 (by kernel_rfl) (by kernel_rfl)⟩
instance : FnT Try.prog 17 Try.f17 := ⟨Try.func17, enters_of Try.func17 (by kernel_rfl) (by kernel_rfl)⟩
instance : FnT Try.prog 18 Try.f18 := ⟨Try.func18, enters_of Try.func18 (by kernel_rfl) (by kernel_rfl)⟩
instance : FnT Try.prog 19 Try.f19 := ⟨Try.func19, enters_of Try.func19 (by kernel_rfl) (by kernel_rfl)⟩
instance : FnT Try.prog 20 Try.f20 := ⟨Try.func20, enters_of Try.func20 (by kernel_rfl) (by kernel_rfl)⟩
instance : FnT Try.prog 21 Try.f21 := ⟨Try.func21, enters_of Try.func21 (by kernel_rfl) (by kernel_rfl)⟩
instance : FnT Try.prog 22 Try.f22 := ⟨Try.func22, enters_of Try.func22 (by kernel_rfl) (by kernel_rfl)⟩
instance : FnT Try.prog 23 Try.f23 := ⟨Try.func23, enters_of Try.func23 (by kernel_rfl) (by kernel_rfl)⟩
instance : FnT Try.prog 24 Try.f24 := ⟨Try.func24, enters_of Try.func24 (by kernel_rfl) (by kernel_rfl)⟩
instance : FnT Try.prog 25 Try.f25 := ⟨Try.func25, enters_of Try.func25 (by kernel_rfl) (by kernel_rfl)⟩
instance : FnT Try.prog 26 Try.f26 := ⟨Try.func26, enters_of Try.func26 (by kernel_rfl) (by kernel_rfl)⟩
instance : FnT Try.prog 27 Try.f27 := ⟨Try.func27, enters_of Try.func27 (by kernel_rfl) (by kernel_rfl)⟩
instance : FnT Try.prog 28 Try.f28 := ⟨Try.func28, enters_of Try.func28 (by kernel_rfl) (by kernel_rfl)⟩
instance : FnT Try.prog 29 Try.f29 := ⟨Try.func29, enters_of Try.func29 (by kernel_rfl) (by kernel_rfl)⟩
instance : FnT Try.prog 30 Try.f30 := ⟨Try.func30, enters_of Try.func30 (by kernel_rfl) (by kernel_rfl)⟩
instance : FnT Try.prog 31 Try.f31 := ⟨Try.func31, enters_of Try.func31 (by kernel_rfl) (by kernel_rfl)⟩
instance : FnT Try.prog 32 Try.f32 := ⟨Try.func32, enters_of Try.func32 (by kernel_rfl) (by kernel_rfl)⟩
instance : FnT Try.prog 33 Try.f33 := ⟨Try.func33, enters_of Try.func33 (by kernel_rfl) (by kernel_rfl)⟩
instance : FnT Try.prog 34 Try.f34 := ⟨Try.func34, enters_of Try.func34 (by kernel_rfl) (by kernel_rfl)⟩
end Go.Proofs.Ytflnfdepklnlkaa
